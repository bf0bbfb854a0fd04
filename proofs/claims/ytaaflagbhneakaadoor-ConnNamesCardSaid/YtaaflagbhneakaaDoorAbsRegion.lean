/- ABS: the operations of a statement, in the order of the text, and in any order that Go leaves open. -/
import Derived.Test.YtaaflagbhneakaaDoorAbsFrame2
import Derived.Orders
import Derived.LoopN
namespace Go.Proofs.YtaaflagbhneakaaDoor
set_option linter.unusedSimpArgs false
set_option linter.unusedVariables false
open Go.RowKit

section
variable {P : Program} {O : Oracle} {byref : Nat → Bool} {tm tm1 tm2 : Tms} {σ σ' σ1 σ2 : AHeap} {site : Nat}

theorem tget_tput {d : Option Nat} {v : AVal} {n : Nat} (h : d ≠ some n) : tget (tput tm d v) n = tget tm n := by
  cases d with
  | none => rfl
  | some d =>
    have : d ≠ n := by rintro rfl; exact h rfl
    simp only [tput, tget_tins, this, if_false]
theorem tins_comm {a b : Nat} (u v : AVal) (h : a ≠ b) : ∀ tm : Tms, tins b v (tins a u tm) = tins a u (tins b v tm)
  | [] => by
    simp only [tins]
    by_cases h1 : a < b
    · have h2 : ¬ b < a := by omega
      have h3 : ¬ b = a := by omega
      simp [h1, h2, h3, tins]
    · have h2 : b < a := by omega
      have h3 : ¬ a = b := h
      simp [h1, h2, h3, tins]
  | (e, w) :: r => by
    have ih := tins_comm u v h r
    rcases Nat.lt_trichotomy e a with ha | ha | ha <;> rcases Nat.lt_trichotomy e b with hb | hb | hb
    · rcases Nat.lt_or_gt_of_ne h with hab | hab
      · have n1 : ¬ b < a := by omega
        have n2 : ¬ b = a := by omega
        simp [tins, ha, hb, hab, n1, n2]
      · have n1 : ¬ a < b := by omega
        have n2 : ¬ a = b := h
        simp [tins, ha, hb, hab, n1, n2]
    · subst hb
      have n1 : ¬ a < e := by omega
      have n2 : ¬ a = e := h
      simp [tins, ha, n1, n2]
    · have n1 : ¬ a < b := by omega
      have n2 : ¬ a = b := h
      have n3 : ¬ e < b := by omega
      have n4 : ¬ e = b := by omega
      simp [tins, ha, n1, n2, n3, n4]
    · subst ha
      have n1 : ¬ b < e := by omega
      have n2 : ¬ b = e := fun q => h q.symm
      simp [tins, hb, n1, n2]
    · exact absurd (ha.symm.trans hb) h
    · subst ha
      have n3 : ¬ e < b := by omega
      have n4 : ¬ e = b := by omega
      simp [tins, n3, n4]
    · have n1 : ¬ b < a := by omega
      have n2 : ¬ b = a := by omega
      have n3 : ¬ e < a := by omega
      have n4 : ¬ e = a := by omega
      simp [tins, hb, n1, n2, n3, n4]
    · subst hb
      have n3 : ¬ e < a := by omega
      have n4 : ¬ e = a := by omega
      simp [tins, n3, n4]
    · have n1 : ¬ e < a := by omega
      have n2 : ¬ e = a := by omega
      have n3 : ¬ e < b := by omega
      have n4 : ¬ e = b := by omega
      simp [tins, n1, n2, n3, n4, ih]
theorem tput_comm {a b : Option Nat} (u v : AVal) (h : ∀ d, a = some d → b ≠ some d) : tput (tput tm a u) b v = tput (tput tm b v) a u := by
  cases a with
  | none => cases b <;> rfl
  | some a =>
    cases b with
    | none => rfl
    | some b =>
      simp only [tput]
      exact tins_comm u v (by rintro rfl; exact h a rfl rfl) tm
theorem wanted_congr {g : Option (Nat × Bool)} (h : ∀ j b, g = some (j, b) → tget tm j = tget tm1 j) : wantedA g tm = wantedA g tm1 := by
  cases g with
  | none => rfl
  | some g => simp only [wantedA]; rw [h g.1 g.2 rfl]
theorem guard_reads {o : AOp} {j : Nat} {b : Bool} (h : o.guard = some (j, b)) : j ∈ o.reads := by simp [AOp.reads, h]
theorem ins_reads {o : AOp} {n : Nat} (h : n ∈ o.ins.reads) : n ∈ o.reads := by simp [AOp.reads, h]

theorem step_tm {o : AOp} {v : AVal} {c : Cls} (h : stepA O byref o site tm σ = some (v, tm1, σ1, c)) : tm1 = tput tm o.dst v ∧ ∀ tm', (∀ n ∈ o.reads, tget tm n = tget tm' n) → stepA O byref o site tm' σ = some (v, tput tm' o.dst v, σ1, c) := by
  unfold stepA at h
  split at h
  · cases h
  · rename_i hw
    simp only [Option.some.injEq, Prod.mk.injEq] at h
    obtain ⟨rfl, rfl, rfl, rfl⟩ := h
    refine ⟨rfl, fun tm' hr => ?_⟩
    simp only [stepA, wanted_congr (g := o.guard) (tm := tm') (tm1 := tm) (fun j b hg => (hr j (guard_reads hg)).symm), hw]
  · rename_i hw
    split at h
    · rename_i hf
      split at h
      · rename_i v' σ'' c' he
        simp only [Option.some.injEq, Prod.mk.injEq] at h
        obtain ⟨rfl, rfl, rfl, rfl⟩ := h
        refine ⟨rfl, fun tm' hr => ?_⟩
        simp only [stepA, wanted_congr (g := o.guard) (tm := tm') (tm1 := tm) (fun j b hg => (hr j (guard_reads hg)).symm), hw]
        rw [if_pos hf, ← execI_congr (tm := tm) (tm' := tm') (fun n hn => hr n (ins_reads hn)), he]
      · cases h
    · cases h

theorem step_framed {o : AOp} {v : AVal} {c : Cls} (h : stepA O byref o site tm σ = some (v, tm1, σ1, c)) (hn : noWr c = true) :
    ∃ ob, tm1 = tput tm o.dst v ∧ σ1 = putB σ site ob ∧ (ob.isSome = true → nsite o.ins ≠ 0 ∧ freeAt σ site = true) ∧ ob ≠ some .free ∧ NonFree σ c.rd ∧
      ∀ tm' σ2, (∀ n ∈ o.reads, tget tm n = tget tm' n) → Agree σ σ2 c.rd → (nsite o.ins ≠ 0 → freeAt σ site = true → freeAt σ2 site = true) → stepA O byref o site tm' σ2 = some (v, tput tm' o.dst v, putB σ2 site ob, c) := by
  simp only [noWr, Bool.and_eq_true, List.isEmpty_iff, Bool.not_eq_true'] at hn
  unfold stepA at h
  split at h
  · cases h
  · rename_i hw
    simp only [Option.some.injEq, Prod.mk.injEq] at h
    obtain ⟨rfl, rfl, rfl, rfl⟩ := h
    refine ⟨none, rfl, rfl, by simp, by simp, nonfree_nil, fun tm' σ2 hr _ _ => ?_⟩
    simp only [stepA, wanted_congr (g := o.guard) (tm := tm') (tm1 := tm) (fun j b hg => (hr j (guard_reads hg)).symm), hw, putB]
  · rename_i hw
    split at h
    · rename_i hf
      split at h
      · rename_i v' σ'' c' he
        simp only [Option.some.injEq, Prod.mk.injEq] at h
        obtain ⟨rfl, rfl, rfl, rfl⟩ := h
        obtain ⟨ob, e1, e2, e3, e4, e5⟩ := execI_framed he hn.1 hn.2
        refine ⟨ob, rfl, e1, fun ho => ⟨e2 ho, ?_⟩, e3, e4, fun tm' σ2 hr hA hfr => ?_⟩
        · have := e2 ho
          simpa [this] using hf
        · have hf2 : (nsite o.ins == 0 || freeAt σ2 site) = true := by
            by_cases h0 : nsite o.ins = 0
            · simp [h0]
            · simp only [Bool.or_eq_true, beq_iff_eq, h0, false_or] at hf ⊢
              exact hfr h0 hf
          simp only [stepA, wanted_congr (g := o.guard) (tm := tm') (tm1 := tm) (fun j b hg => (hr j (guard_reads hg)).symm), hw]
          have e5' : execI O byref tm σ2 site o.ins = some (v', putB σ2 site ob, c') := e5 σ2 hA
          rw [if_pos hf2, ← execI_congr (tm := tm) (tm' := tm') (fun n hn => hr n (ins_reads hn)), e5']
      · cases h
    · cases h

theorem freeAt_iff {s : Nat} : freeAt σ s = true ↔ σ[s]? = some .free := by
  unfold freeAt
  split
  · rename_i h; simp [h]
  · rename_i h
    constructor
    · intro h'; cases h'
    · intro h'; exact absurd h' h
theorem putB_ne {s t : Nat} {ob : Option ABlk} (h : ob.isSome = true → s ≠ t) : (putB σ s ob)[t]? = σ[t]? := by
  cases ob with
  | none => rfl
  | some b => simp only [putB]; rw [List.getElem?_set, if_neg (h rfl)]
theorem putB_comm {s t : Nat} {ob oc : Option ABlk} (h : ob.isSome = true → oc.isSome = true → s ≠ t) : putB (putB σ s ob) t oc = putB (putB σ t oc) s ob := by
  cases ob with
  | none => cases oc <;> rfl
  | some b =>
    cases oc with
    | none => rfl
    | some c => simp only [putB]; exact List.set_comm b c (h rfl rfl)

theorem commute {oj oi : AOp} {sj si : Nat} {vj vi : AVal} {cj ci : Cls} (hj : stepA O byref oj sj tm σ = some (vj, tm1, σ1, cj)) (hi : stepA O byref oi si tm1 σ1 = some (vi, tm2, σ2, ci)) (hap : oj.apartT oi = true)
    (hp : pairFree oj oi cj ci sj = true) (hs : nsite oj.ins ≠ 0 → nsite oi.ins ≠ 0 → sj ≠ si) : ∃ tm1' σ1', stepA O byref oi si tm σ = some (vi, tm1', σ1', ci) ∧ stepA O byref oj sj tm1' σ1' = some (vj, tm2, σ2, cj) := by
  have hd : (∀ d, oj.dst = some d → d ∉ oi.reads) ∧ (∀ d, oj.dst = some d → oi.dst ≠ some d) ∧ (∀ d, oi.dst = some d → d ∉ oj.reads) := by
    unfold AOp.apartT at hap
    simp only [Bool.and_eq_true] at hap
    refine ⟨fun d hd hr => ?_, fun d hd he => ?_, fun d hd hr => ?_⟩
    · have := hap.1; rw [hd] at this; simp [hr] at this
    · have := hap.1; rw [hd] at this; simp [he] at this
    · have := hap.2; rw [hd] at this; simp [hr] at this
  obtain ⟨d1, d2, d3⟩ := hd
  have rdI : ∀ v n, n ∈ oi.reads → tget (tput tm oj.dst v) n = tget tm n := fun v n hn => tget_tput (by intro e; exact d1 n e hn)
  have rdJ : ∀ v n, n ∈ oj.reads → tget tm n = tget (tput tm oi.dst v) n := fun v n hn => (tget_tput (by intro e; exact d3 n e hn)).symm
  unfold pairFree at hp
  simp only [Bool.or_eq_true, Bool.and_eq_true] at hp
  have noWr_of : ∀ {o : AOp} {c : Cls}, emptyOp o c = true → noWr c = true ∧ c.rd = [] ∧ nsite o.ins = 0 := by
    intro o c h
    simp only [emptyOp, Bool.and_eq_true, beq_iff_eq, List.isEmpty_iff] at h
    exact ⟨by simp [noWr, h.1.2, h.2], h.1.1.2, h.1.1.1⟩
  rcases hp with (hp | hp) | ⟨⟨hp1, hp2⟩, hp3⟩
  · obtain ⟨w1, w2, w3⟩ := noWr_of hp
    obtain ⟨ob, rfl, rfl, e3, _, _, e6⟩ := step_framed hj w1
    have hob : ob = none := by
      cases ob with
      | none => rfl
      | some b => exact absurd w3 (e3 rfl).1
    subst hob
    simp only [putB] at hi e6 ⊢
    obtain ⟨rfl, f2⟩ := step_tm hi
    have g1 := f2 tm (rdI vj)
    refine ⟨_, _, g1, ?_⟩
    rw [e6 _ σ2 (rdJ vi) (by rw [w2]; intro t ht; simp at ht) (fun h => absurd w3 h), tput_comm vi vj (fun d hd he => d2 d he hd)]
  · obtain ⟨w1, w2, w3⟩ := noWr_of hp
    obtain ⟨ob, rfl, rfl, e3, _, _, e6⟩ := step_framed hi w1
    have hob : ob = none := by
      cases ob with
      | none => rfl
      | some b => exact absurd w3 (e3 rfl).1
    subst hob
    simp only [putB] at e6 ⊢
    obtain ⟨rfl, f2⟩ := step_tm hj
    have g1 := e6 tm σ (rdI vj) (by rw [w2]; intro t ht; simp at ht) (fun h => absurd w3 h)
    refine ⟨_, _, g1, ?_⟩
    rw [f2 _ (rdJ vi), tput_comm vi vj (fun d hd he => d2 d he hd)]
  · obtain ⟨ob, rfl, rfl, a3, a4, a5, a6⟩ := step_framed hj hp1
    obtain ⟨oc, rfl, rfl, b3, b4, b5, b6⟩ := step_framed hi hp2
    have hsne : ob.isSome = true → nsite oi.ins ≠ 0 → sj ≠ si := fun h1 h2 => hs (a3 h1).1 h2
    have hrdi : ∀ t ∈ ci.rd, ob.isSome = true → sj ≠ t := by
      intro t ht ho e
      subst e
      rcases hp3 with hp3 | hp3
      · exact (a3 ho).1 (by simpa using hp3)
      · simp [ht] at hp3
    have g1 := b6 tm σ (rdI vj) (fun t ht => (putB_ne (hrdi t ht)).symm) (fun h2 hf => by
      rw [freeAt_iff] at hf ⊢
      rwa [putB_ne (fun ho => hsne ho h2)] at hf)
    refine ⟨_, _, g1, ?_⟩
    have hsi : oc.isSome = true → σ[si]? = some .free := by
      intro ho
      have := (b3 ho).2
      rw [freeAt_iff, putB_ne (fun ho' => hsne ho' (b3 ho).1)] at this
      exact this
    rw [a6 _ (putB σ si oc) (rdJ vi) (fun t ht => putB_ne (fun ho e => by
      subst e
      obtain ⟨x, hx, hne⟩ := a5 si ht
      rw [hsi ho] at hx; injection hx with hx; exact hne hx.symm)) (fun h1 hf => by
      rw [freeAt_iff] at hf ⊢
      rwa [putB_ne (fun ho => (hs h1 (b3 ho).1).symm)]), tput_comm vi vj (fun d hd he => d2 d he hd), putB_comm (fun h1 h2 => (hs (a3 h2).1 (b3 h1).1).symm)]

/-- a run of some operations, with what each touches -/
inductive Runs (O : Oracle) (byref : Nat → Bool) (ops : List AOp) (L : Nat) (cs : List Cls) : List Nat → Tms → AHeap → Tms → AHeap → Prop
  | nil {tm : Tms} {σ : AHeap} : Runs O byref ops L cs [] tm σ tm σ
  | cons {i : Nat} {l : List Nat} {v : AVal} {tm tm1 tm2 : Tms} {σ σ1 σ2 : AHeap} : stepA O byref (ops.getD i default) (L + sitesOf (ops.take i)) tm σ = some (v, tm1, σ1, cs.getD i {}) → (∀ x, v ≠ .pan x) → Runs O byref ops L cs l tm1 σ1 tm2 σ2 → Runs O byref ops L cs (i :: l) tm σ tm2 σ2
theorem sites_snoc (ops : List AOp) {k : Nat} (h : k < ops.length) : sitesOf (ops.take (k + 1)) = sitesOf (ops.take k) + nsite (ops[k]).ins := by
  rw [List.take_succ_eq_append_getElem h]
  simp only [sitesOf, List.map_append, List.sum_append, List.map_cons, List.map_nil, List.sum_cons, List.sum_nil, Nat.add_zero]
theorem runs_of {ops : List AOp} {L : Nat} : ∀ (m k : Nat) {cs cs' : List Cls} {tm : Tms} {σ : AHeap} {tm' : Tms} {σ' : AHeap}, k + m = ops.length → runOps O byref (ops.drop k) (L + sitesOf (ops.take k)) tm σ = some (tm', σ', cs', none) → (∀ j, cs'.getD j {} = cs.getD (k + j) {}) → Runs O byref ops L cs (List.range' k m) tm σ tm' σ'
  | 0, k, cs, cs', tm, σ, tm', σ', hk, h, hcs => by
    rw [List.drop_eq_nil_of_le (by omega)] at h
    simp only [runOps, Option.some.injEq, Prod.mk.injEq] at h
    obtain ⟨rfl, rfl, rfl, _⟩ := h
    exact Runs.nil
  | m + 1, k, cs, cs', tm, σ, tm', σ', hk, h, hcs => by
    have hlt : k < ops.length := by omega
    rw [List.drop_eq_getElem_cons hlt] at h
    simp only [runOps] at h
    split at h
    · cases h
    · simp only [Option.some.injEq, Prod.mk.injEq] at h
      obtain ⟨_, _, _, h⟩ := h
      cases h
    rename_i v tm1 σ1 c hnp h1
    split at h
    · cases h
    rename_i tm2 σ2 cs2 p h2
    simp only [Option.some.injEq, Prod.mk.injEq] at h
    obtain ⟨rfl, rfl, rfl, rfl⟩ := h
    rw [List.range'_succ]
    have hc0 := hcs 0
    simp only [List.getD_cons_zero, Nat.add_zero] at hc0
    refine Runs.cons (v := v) (tm1 := tm1) (σ1 := σ1) ?_ (fun x e => ?_) (runs_of m (k + 1) (by omega) (cs' := cs2) ?_ (fun j => ?_))
    · rw [← hc0]
      simpa [List.getD_eq_getElem?_getD, hlt] using h1
    · exact hnp x e
    · rw [sites_snoc ops hlt, ← Nat.add_assoc]; exact h2
    · have := hcs (j + 1)
      simp only [List.getD_cons_succ] at this
      rw [this]
      congr 1; omega

theorem runs_first {ops : List AOp} {L : Nat} {cs : List Cls} {i : Nat} {l2 : List Nat} : ∀ {l1 : List Nat} {tm : Tms} {σ : AHeap} {tm' : Tms} {σ' : AHeap}, (∀ j ∈ l1, (ops.getD j default).apartT (ops.getD i default) = true ∧ pairFree (ops.getD j default) (ops.getD i default) (cs.getD j {}) (cs.getD i {}) (L + sitesOf (ops.take j)) = true ∧ (nsite (ops.getD j default).ins ≠ 0 → nsite (ops.getD i default).ins ≠ 0 → L + sitesOf (ops.take j) ≠ L + sitesOf (ops.take i))) →
    Runs O byref ops L cs (l1 ++ i :: l2) tm σ tm' σ' → ∃ v tm1 σ1, stepA O byref (ops.getD i default) (L + sitesOf (ops.take i)) tm σ = some (v, tm1, σ1, cs.getD i {}) ∧ (∀ x, v ≠ .pan x) ∧ Runs O byref ops L cs (l1 ++ l2) tm1 σ1 tm' σ'
  | [], tm, σ, tm', σ', _, h => by
    cases h with
    | cons h1 hn h2 => exact ⟨_, _, _, h1, hn, h2⟩
  | j :: l1, tm, σ, tm', σ', hall, h => by
    cases h with
    | cons h1 hn h2 =>
      obtain ⟨v3, tm3, σ3, h3, hn3, h4⟩ := runs_first (l1 := l1) (fun k hk => hall k (by simp [hk])) h2
      obtain ⟨p1, p2, p3⟩ := hall j (by simp)
      obtain ⟨tm4, σ4, h5, h6⟩ := commute h1 h3 p1 p2 p3
      exact ⟨v3, tm4, σ4, h5, hn3, Runs.cons h6 hn h4⟩
end
end Go.Proofs.YtaaflagbhneakaaDoor
