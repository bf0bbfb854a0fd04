/- ABS: statements whose order is open; code; functions. ABS: whole functions: what the interpreter says, the program does. ABS: the interpreter without a bound: equations for proofs. ABS: equations by which calls are told, for simp. ABS: small functions at each kind of value, for simp. Printed by a program. ABS: results without blocks. slices.Clone, told by hand: a new row with the same elements, whether the slice was nil or not. Functions of Go's library that are told by hand: what they tell. What is said of the functions beside their code: slots that live, own rows, how callees are called; functions that are told by hand. Printed by a program. The code of functions as the interpreter reads it: Law19. Printed by a program. The code of functions as the interpreter reads it: Prop. Printed by a program. ABS: what a law is given, as trees. ABS: regions whose order is open, for simp. The program's data as trees. -/
import Derived.Test.YtmlkhhidifjjfaaDoorMq1
import Derived.Scope
import Derived.Laws.Cover3
import Derived.Lib.Index
import Derived.Shelf.Unicode.ValidAny
import Derived.Shelf.Strings.Count
import Derived.Test.YtmlkhhidifjjfaaDoorProg
import Derived.Deep.Slices
import Derived.ChangeArms
import Derived.WideShapes
import GoSem.ClaimChange
namespace Go.Proofs.YtmlkhhidifjjfaaDoor
set_option linter.unusedSimpArgs false
set_option linter.unusedVariables false
open Go.RowKit

section
variable {P : Program} {O : Oracle} {byref : Nat → Bool} {an : Ann} {base : Nat → Prop} {w0 : World} {I0 : Imm} {dr : Door}

theorem step_still {o : AOp} {tm tm1 : Tms} {σ σ1 : AHeap} {site : Nat} {v : AVal} {c : Cls} (ht : o.ins.touches = false) (h : stepA O byref o site tm σ = some (v, tm1, σ1, c)) : c = {} := by
  unfold stepA at h
  split at h
  · cases h
  · simp only [Option.some.injEq, Prod.mk.injEq] at h; exact h.2.2.2.symm
  · split at h
    · split at h
      · rename_i he
        simp only [Option.some.injEq, Prod.mk.injEq] at h
        rw [← h.2.2.2]
        exact (execI_still ht he).1
      · cases h
    · cases h
theorem touches_nsite {i : Ins} (h : i.touches = false) : nsite i = 0 := by cases i <;> simp [Ins.touches] at h <;> rfl
theorem runs_still {asl : List AOp} {L : Nat} {cs : List Cls} : ∀ {l : List Nat} {tm tm' : Tms} {σ σ' : AHeap}, Runs O byref asl L cs l tm σ tm' σ' → ∀ j ∈ l, (asl.getD j default).ins.touches = false → cs.getD j {} = {}
  | [], _, _, _, _, _, j, hj, _ => by simp at hj
  | i :: l, _, _, _, _, h, j, hj, ht => by
    cases h with
    | cons h1 _ h2 =>
      rcases List.mem_cons.1 hj with rfl | hj
      · exact step_still ht h1
      · exact runs_still h2 j hj ht
theorem sites_lt (asl : List AOp) : ∀ {j i : Nat}, j < i → i ≤ asl.length → sitesOf (asl.take j) + nsite (asl.getD j default).ins ≤ sitesOf (asl.take i) := by
  intro j i hji hi
  induction i with
  | zero => omega
  | succ i ih =>
    rw [sites_snoc asl (by omega)]
    by_cases e : j = i
    · subst e
      simp [List.getD_eq_getElem?_getD, show j < asl.length by omega]
    · have := ih (by omega) (by omega); omega

theorem any_sound (hO : OrOk P O) (hkp : ∀ n ∈ dr.K, n ∈ an.keep) (hb : KLt base w0) {ops : Array Oper} {asl : List AOp} (hcomp : compOps P an ops ops.toList = some asl) {ps : List (Nat × Nat)} (hps : pairsOf asl = some ps) {L : Nat} {cs : List Cls} (hchk : chkA asl L ps cs = true)
    {tmF : Tms} {σF : AHeap} {Q : Exit → Act → World → Prop} {I : Imm} {β : Bmap} (hQ : ∀ a' w', StR dr an.nt base w0 I0 I β tmF σF a' w' → Q .normal a' w') :
    ∀ (fuel : Nat) (rem : List Nat) (listed : Array Bool) (a : Act) (w : World) (tm : Tms) (σ : AHeap), Runs O byref asl L cs rem tm σ tmF σF → rem.Pairwise (· < ·) → (∀ j ∈ rem, j < ops.size) → (∀ j, j < ops.size → (listed.getD j true = true ↔ j ∉ rem)) → listed.size = ops.size →
      (∀ k, k < ops.size → k ∉ rem → ∀ p ∈ (ancs (asl.map (·.after)) []).getD k [], p ∉ rem) → rem.length = fuel → StR dr an.nt base w0 I0 I β tm σ a w → wpAny P .any ops Q fuel listed a w := by
  obtain ⟨hlen, hget⟩ := compOps_get hcomp
  obtain ⟨hp1, hp2⟩ := pairsOf_spec hps
  obtain ⟨_, _, hanc⟩ := ancs_spec (asl.map (·.after)) [] (fun _ _ _ => trivial)
  simp only [Array.length_toList] at hlen
  have hafter : ∀ j o, ops[j]? = some o → ∃ ao, asl.getD j default = ao ∧ compOp P an ops o = some ao ∧ ao.after = (o.after.toList.filter (Region.binds .any)).map (·.on) ∧ ao.dst = o.dst := by
    intro j o ho
    obtain ⟨ao, h1, h2⟩ := hget j o (by simpa using ho)
    refine ⟨ao, by simp [List.getD_eq_getElem?_getD, h1], h2, ?_⟩
    obtain ⟨g, i, _, _, _, rfl⟩ := compOp_spec h2
    exact ⟨rfl, rfl⟩
  intro fuel
  induction fuel with
  | zero =>
    intro rem listed a w tm σ hr hs hlt hl hsz hcl hfl hst
    have : rem = [] := List.eq_nil_of_length_eq_zero hfl
    subst this
    cases hr
    refine ⟨?_, hQ a w hst⟩
    apply List.eq_nil_iff_forall_not_mem.2
    intro j hj
    rw [mem_ready] at hj
    obtain ⟨h1, o, ho, _⟩ := hj
    have hjl : j < ops.size := (Array.getElem?_eq_some_iff.1 ho).1
    have := (hl j hjl).2 (by simp)
    rw [h1] at this; cases this
  | succ fuel ih =>
    intro rem listed a w tm σ hr hs hlt hl hsz hcl hfl hst
    have isRem : ∀ j, j < ops.size → listed.getD j true = false → j ∈ rem := by
      intro j hj h
      by_cases hm : j ∈ rem
      · exact hm
      · have := (hl j hj).2 hm; rw [h] at this; cases this
    have getD_tf : ∀ j, j < ops.size → listed.getD j false = listed.getD j true := by
      intro j hj
      simp [Array.getD, hsz, hj]
    refine ⟨fun hnil => ?_, fun i hi => ?_⟩
    · exfalso
      cases rem with
      | nil => simp at hfl
      | cons r rs =>
        have hrl : r < ops.size := hlt r (by simp)
        have hro : ops[r]? = some ops[r] := by simp [hrl]
        obtain ⟨ao, e1, e2, e3, _⟩ := hafter r _ hro
        have : r ∈ Region.ready .any ops listed := by
          rw [mem_ready]
          refine ⟨?_, ops[r], hro, fun e he hbnd => ?_⟩
          · cases hq : listed.getD r true with
            | false => rfl
            | true => exact absurd (List.mem_cons_self) ((hl r hrl).1 hq)
          · have hon : e.on ∈ ao.after := by rw [e3]; exact List.mem_map.2 ⟨e, List.mem_filter.2 ⟨by simpa using he, hbnd⟩, rfl⟩
            have hlt' : e.on < r := hp2 r (by omega) e.on (by rw [e1]; exact hon)
            rw [getD_tf _ (by omega)]
            refine (hl e.on (by omega)).2 (fun hm => ?_)
            rcases List.mem_cons.1 hm with h | hm
            · omega
            · have := (List.pairwise_cons.1 hs).1 e.on hm; omega
        rw [hnil] at this; simp at this
    · rw [mem_ready] at hi
      obtain ⟨hi0, o, ho, hpre⟩ := hi
      have hil : i < ops.size := (Array.getElem?_eq_some_iff.1 ho).1
      have him := isRem i hil hi0
      obtain ⟨l1, l2, rfl⟩ := List.append_of_mem him
      obtain ⟨ao, e1, e2, e3, e4⟩ := hafter i o ho
      have hdone : ∀ p ∈ (asl.getD i default).after, p < ops.size → p ∉ l1 ++ i :: l2 := by
        intro p hp hpl
        rw [e1, e3] at hp
        obtain ⟨e, he, rfl⟩ := List.mem_map.1 hp
        obtain ⟨he1, he2⟩ := List.mem_filter.1 he
        have := hpre e (by simpa using he1) he2
        rw [getD_tf _ hpl] at this
        exact (hl e.on hpl).1 this
      have hai : (asl.map (·.after)).getD i [] = (asl.getD i default).after := by
        simp [List.getD_eq_getElem?_getD, show i < asl.length by omega]
      have hanci : ∀ p ∈ (ancs (asl.map (·.after)) []).getD i [], p ∉ l1 ++ i :: l2 := by
        intro p hp
        have hap : ∀ q, q ∈ (asl.map (·.after)).getD i [] → q < i := fun q hq => hp2 i (by omega) q (by rw [← hai]; exact hq)
        rcases hanc i (by simp; omega) p (by simpa using hp) with h | ⟨q, h1, h2, h3⟩
        · exact hdone p (by rw [← hai]; exact h) (by have := hap p h; omega)
        · have hql : q < ops.size := by simp at h2; omega
          exact hcl q hql (hdone q (by rw [← hai]; exact h1) hql) p h3
      have hl1 : ∀ j ∈ l1, j < i := by
        intro j hj
        have := List.pairwise_append.1 hs
        exact this.2.2 j hj i (by simp)
      obtain ⟨v1, tm1, σ1, h1, hnp1, h2⟩ := runs_first (l1 := l1) (i := i) (fun j hj => by
        have hji := hl1 j hj
        have hjn : j ∉ (ancs (asl.map (·.after)) []).getD i [] := fun hm => hanci j hm (by simp [hj])
        obtain ⟨p1, p2⟩ := hp1 j i hji (by omega) hjn
        refine ⟨p1, ?_, fun hn _ => ?_, ?_⟩
        · rcases p2 with p2 | p2 | p2
          · have := runs_still hr j (by simp [hj]) p2
            have hem : emptyOp (asl.getD j default) (cs.getD j {}) = true := by rw [this]; simp only [emptyOp, touches_nsite p2]; rfl
            simp only [pairFree, hem, Bool.true_or]
          · have := runs_still hr i (by simp) p2
            have hem : emptyOp (asl.getD i default) (cs.getD i {}) = true := by rw [this]; simp only [emptyOp, touches_nsite p2]; rfl
            simp only [pairFree, hem, Bool.true_or, Bool.or_true]
          · have := List.all_eq_true.1 hchk (j, i) p2
            exact this
        · have := sites_lt asl hji (by omega)
          omega
        · have := sites_lt asl hji (by omega)
          omega) hr
      unfold wpOp
      rw [ho]
      rw [e1] at h1
      obtain ⟨I', β', g1, g2, g3, g4, g5⟩ := hst
      refine step_sound hO hkp e2 g3 g4 g5 hb h1 (fun _ a' w' hs' => ih (l1 ++ l2) _ a' w' tm1 σ1 h2 ?_ ?_ ?_ (by simpa using hsz) ?_ ?_ (hs'.trans g1 g2)) (fun x e => absurd e (hnp1 x))
      · have := List.pairwise_append.1 hs
        exact List.pairwise_append.2 ⟨this.1, (List.pairwise_cons.1 this.2.1).2, fun x hx y hy => this.2.2 x hx y (by simp [hy])⟩
      · intro j hj
        refine hlt j ?_
        simp only [List.mem_append, List.mem_cons] at hj ⊢
        rcases hj with h | h
        · exact Or.inl h
        · exact Or.inr (Or.inr h)
      · intro j hj
        have hs1 := List.pairwise_append.1 hs
        by_cases hij : i = j
        · subst hij
          have hn : i ∉ l1 ++ l2 := by
            intro hm
            rcases List.mem_append.1 hm with h | h
            · have := hl1 i h; omega
            · have := (List.pairwise_cons.1 hs1.2.1).1 i h; omega
          simp [Array.getD, hsz, hil, hn]
        · rw [getD_set_ne true hij, hl j hj]
          simp only [List.mem_append, List.mem_cons, not_or]
          constructor
          · rintro ⟨a1, _, a3⟩; exact ⟨a1, a3⟩
          · rintro ⟨a1, a3⟩; exact ⟨a1, fun e => hij e.symm, a3⟩
      · intro k hk hkn p hp hm
        have hsub : p ∈ l1 ++ i :: l2 := by
          simp only [List.mem_append, List.mem_cons] at hm ⊢
          rcases hm with h | h
          · exact Or.inl h
          · exact Or.inr (Or.inr h)
        by_cases hki : k = i
        · subst hki; exact hanci p hp hsub
        · refine hcl k hk (fun hkm => hkn ?_) p hp hsub
          simp only [List.mem_append, List.mem_cons] at hkm ⊢
          rcases hkm with h | h | h
          · exact Or.inl h
          · exact absurd h hki
          · exact Or.inr h
      · simp at hfl ⊢; omega

/-- the heap with places kept for new blocks -/
theorem Rel.reserve {I : Imm} {β : Bmap} {σ : AHeap} {w : World} (R : Rel base w0 I0 I β σ w) (n : Nat) : Rel base w0 I0 I β (σ ++ List.replicate n .free) w := by
  have look : ∀ t x, (σ ++ List.replicate n ABlk.free)[t]? = some x → σ[t]? = some x ∨ (σ.length ≤ t ∧ x = .free) := by
    intro t x h
    by_cases ht : t < σ.length
    · rw [List.getElem?_append_left ht] at h; exact Or.inl h
    · rw [List.getElem?_append_right (by omega)] at h
      refine Or.inr ⟨by omega, ?_⟩
      have := List.mem_of_getElem? h
      exact List.eq_of_mem_replicate this
  refine ⟨R.below, R.old, R.imm, ?_, ?_, ?_, ?_, ?_, ?_, R.glob⟩
  · intro t x h
    rcases look t x h with h | ⟨_, rfl⟩
    · exact R.blk t x h
    · trivial
  · intro t x b h hb
    rcases look t x h with h | ⟨_, rfl⟩
    · exact R.own t x b h hb
    · cases hb
  · intro t x t' x' b h h' hb hb'
    rcases look t x h with h | ⟨_, rfl⟩
    · rcases look t' x' h' with h' | ⟨_, rfl⟩
      · exact R.apart t x t' x' b h h' hb hb'
      · cases hb'
    · cases hb
  · intro t g h
    exact R.fresh t g (by simp at h; omega)
  · intro t g h
    rcases look t _ h with h | ⟨h, _⟩
    · exact R.free t g h
    · exact R.fresh t g h
  · intro t x g h hg
    rcases look t _ h with h | ⟨h, _⟩
    · exact R.gen t x g h hg
    · exact R.fresh t g h

theorem StR.keep {I : Imm} {β : Bmap} {tm : Tms} {σ : AHeap} {a : Act} {w : World} (h : StR dr an.nt base w0 I0 I β tm σ a w) (live : List Nat) : StR dr an.nt base w0 I0 I β (keepL live tm) σ a w := by
  obtain ⟨I', β', h1, h2, h3, h4⟩ := h
  exact ⟨I', β', h1, h2, h3.keep live, h4⟩
/-- behind a statement -/
def OutR (dr : Door) (an : Ann) (base : Nat → Prop) (w0 : World) (I0 I : Imm) (β : Bmap) (e : AExit) (tm : Tms) (σ : AHeap) (Q : Exit → Act → World → Prop) : Prop := match e with
  | .normal => ∀ a w, StR dr an.nt base w0 I0 I β tm σ a w → Q .normal a w
  | .exit id => ∀ a w, StR dr an.nt base w0 I0 I β tm σ a w → Q (.exit id) a w
  | .ret => ∀ a w, StR dr an.nt base w0 I0 I β tm σ a w → Q .ret a w
  | .panic x => ∀ a u w, dr.ok a → Post base w0 I0 I β x σ u w → Q (.panic [{ v := u, recovered := false }]) a w
theorem region_sound (hO : OrOk P O) (hkp : ∀ n ∈ dr.K, n ∈ an.keep) (hm : P.follows .mixedOrders = true) (hb : KLt base w0) {id : Nat} {ops : Array Oper} {draw : Bool} {asl : List AOp} {chk : Option (List (Nat × Nat))} {live : List Nat} (hc : compC P an (.region id ops draw) = .region asl chk live) {I : Imm} {β : Bmap} {tm tm' : Tms} {σ σ' : AHeap} {a : Act} {w : World} {e : AExit}
    (hst : StR dr an.nt base w0 I0 I β tm σ a w) (h : runRegion O byref asl chk live tm σ = some (e, tm', σ')) {Q : Exit → Act → World → Prop} (hQ : OutR dr an base w0 I0 I β e tm' σ' Q) : (Code.region id ops draw).wp P Q a w := by
  obtain ⟨I1, β1, g1, g2, g3, g4, g5⟩ := hst
  simp only [compC] at hc
  split at hc
  · rename_i l hl
    unfold runRegion at h
    split at hc
    · rename_i hd
      subst hd
      split at hc
      · rename_i ps hps
        simp only [ACode.region.injEq] at hc
        obtain ⟨rfl, rfl, rfl⟩ := hc
        cases hrun : runOps O byref l σ.length tm (σ ++ List.replicate (sitesOf l) .free) with
        | none => rw [hrun] at h; simp only [regX] at h; cases h
        | some q =>
          obtain ⟨tm1, σ1, cs, p⟩ := q
          rw [hrun] at h
          cases p with
          | some x => simp only [regX] at h; cases h
          | none =>
            simp only [regX] at h
            split at h
            · rename_i hchk
              simp only [Option.some.injEq, Prod.mk.injEq] at h
              obtain ⟨rfl, rfl, rfl⟩ := h
              have hlen := (compOps_get hl).1
              simp only [Array.length_toList] at hlen
              have hr := runs_of (O := O) (byref := byref) (ops := l) (L := σ.length) l.length 0 (cs := cs) (cs' := cs) (by omega) (by simpa [sitesOf] using hrun) (fun j => by simp)
              refine wp_region_any hm (any_sound hO hkp hb hl hps hchk (I := I) (β := β) (fun a' w' hs => hQ a' w' (hs.keep _)) ops.size (List.range' 0 l.length) _ a _ tm _ hr ?_ ?_ ?_ (by simp) ?_ (by simp [hlen]) ⟨I1, β1, g1, g2, g3, g4, (g5.reserve _).same rfl rfl rfl rfl⟩)
              · exact List.pairwise_lt_range' 
              · intro j hj; simp at hj; omega
              · intro j hj
                simp [Array.getD, hj, hlen]
              · intro k hk hkn
                exact absurd (by simp; omega) hkn
            · cases h
      · cases hc
    · rename_i hd
      simp only [ACode.region.injEq] at hc
      obtain ⟨rfl, rfl, rfl⟩ := hc
      have hdf : draw = false := by cases draw <;> simp_all
      subst hdf
      cases hrun : runOps O byref l σ.length tm (σ ++ List.replicate (sitesOf l) .free) with
      | none => rw [hrun] at h; simp only [regX] at h; cases h
      | some q =>
        obtain ⟨tm1, σ1, cs, p⟩ := q
        rw [hrun] at h
        cases p with
        | none =>
          simp only [regX, Option.some.injEq, Prod.mk.injEq] at h
          obtain ⟨rfl, rfl, rfl⟩ := h
          exact wp_region_list (ops_sound hO hkp hb hl g3 g4 (g5.reserve _) hrun (fun _ a' w' hs => hQ a' w' ((hs.trans g1 g2).keep _)) (fun x hx => by cases hx))
        | some x =>
          simp only [regX, Option.some.injEq, Prod.mk.injEq] at h
          obtain ⟨rfl, rfl, rfl⟩ := h
          exact wp_region_list (ops_sound hO hkp hb hl g3 g4 (g5.reserve _) hrun (fun hx => by cases hx) (fun x' hx a' u w' hd' hp => by
            injection hx with hx; subst hx
            exact hQ a' u w' hd' (hp.trans g1 g2)))
  · cases hc
end
end Go.Proofs.YtmlkhhidifjjfaaDoor
namespace Go.Proofs.YtmlkhhidifjjfaaDoor
set_option linter.unusedSimpArgs false
set_option linter.unusedVariables false
open Go.RowKit

section
variable {P : Program} {O : Oracle} {byref : Nat → Bool} {an : Ann} {base : Nat → Prop} {w0 : World} {I0 : Imm} {dr : Door}

/-- the frame and the world within a call that began with m blocks -/
def StF (dr : Door) (m nt : Nat) (base : Nat → Prop) (w0 : World) (I0 I : Imm) (β : Bmap) (tm : Tms) (σ : AHeap) (a : Act) (w : World) : Prop :=
  ∃ I' β', I.le I' ∧ KeptE m β β' ∧ TR I' β' tm a.tmps ∧ (dr.ok a ∧ nt ≤ a.tmps.size) ∧ Rel base w0 I0 I' β' σ w
def OutF (dr : Door) (m : Nat) (an : Ann) (base : Nat → Prop) (w0 : World) (I0 I : Imm) (β : Bmap) (e : AExit) (tm : Tms) (σ : AHeap) (Q : Exit → Act → World → Prop) : Prop := match e with
  | .normal => ∀ a w, StF dr m an.nt base w0 I0 I β tm σ a w → Q .normal a w
  | .exit id => ∀ a w, StF dr m an.nt base w0 I0 I β tm σ a w → Q (.exit id) a w
  | .ret => ∀ a w, StF dr m an.nt base w0 I0 I β tm σ a w → Q .ret a w
  | .panic x => ∀ a u w, dr.ok a → PostF m base w0 I0 I β (.pan x) σ u w → Q (.panic [{ v := u, recovered := false }]) a w
theorem StF.cond {m : Nat} {I : Imm} {β : Bmap} {tm : Tms} {σ : AHeap} {a : Act} {w : World} (h : StF dr m an.nt base w0 I0 I β tm σ a w) {c : Operand} {y : Opd} (hc : compO c = some y) {b : Bool} (hv : y.ev tm = .bool b) : a.eval c = .bool b := by
  obtain ⟨I', β', _, _, T, _, _⟩ := h
  have := compO_sound T hc
  rw [hv] at this
  simpa only [VR] using this

theorem code_sound (hO : OrOk P O) (hkp : ∀ n ∈ dr.K, n ∈ an.keep) (hm : P.follows .mixedOrders = true) (hb : KLt base w0) (m n : Nat) : ∀ {c : Code} {ac : ACode}, compC P an c = ac → ∀ {I : Imm} {β : Bmap} {tm tm' : Tms} {σ σ' : AHeap} {a : Act} {w : World} {e : AExit}, StF dr m an.nt base w0 I0 I β tm σ a w → execC O byref m n ac tm σ = some (e, tm', σ') →
    ∀ {Q : Exit → Act → World → Prop}, OutF dr m an base w0 I0 I β e tm' σ' Q → c.wp P Q a w := by
  intro c
  induction c with
  | skip =>
    intro ac hc I β tm tm' σ σ' a w e hst h Q hQ
    simp only [compC] at hc; subst hc
    simp only [execC, Option.some.injEq, Prod.mk.injEq] at h
    obtain ⟨rfl, rfl, rfl⟩ := h
    exact wp_skip (hQ a w hst)
  | region id ops draw =>
    intro ac hc I β tm tm' σ σ' a w e hst h Q hQ
    obtain ⟨asl, chk, live, rfl⟩ : ∃ asl chk live, ac = .region asl chk live := by
      simp only [compC] at hc
      split at hc
      · split at hc
        · split at hc
          · exact ⟨_, _, _, hc.symm⟩
          · subst hc; simp only [execC] at h; cases h
        · exact ⟨_, _, _, hc.symm⟩
      · subst hc; simp only [execC] at h; cases h
    simp only [execC] at h
    obtain ⟨I1, β1, g1, g2, g3, g4, g5⟩ := hst
    have up : ∀ {tm : Tms} {σ : AHeap} {a' : Act} {w' : World}, StR dr an.nt base w0 I0 I1 β1 tm σ a' w' → StF dr m an.nt base w0 I0 I β tm σ a' w' := by
      rintro tm σ a' w' ⟨I2, β2, k1, k2, k3⟩
      exact ⟨I2, β2, g1.trans k1, g2.trans (KeptE.of_le k2), k3⟩
    refine region_sound hO hkp hm hb hc (⟨I1, β1, Imm.le.refl I1, Bmap.le.refl β1, g3, g4, g5⟩ : StR dr an.nt base w0 I0 I1 β1 tm σ a w) h ?_
    cases e with
    | normal => exact fun a' w' hs => hQ a' w' (up hs)
    | exit id => exact fun a' w' hs => hQ a' w' (up hs)
    | ret => exact fun a' w' hs => hQ a' w' (up hs)
    | panic x =>
      rintro a' u w' hd ⟨I2, β2, k1, k2, k3, k4⟩
      exact hQ a' u w' hd ⟨I2, β2, g1.trans k1, g2.trans (KeptE.of_le k2), k3, k4⟩
  | seq x y ihx ihy =>
    intro ac hc I β tm tm' σ σ' a w e hst h Q hQ
    simp only [compC] at hc
    subst hc
    simp only [execC] at h
    refine wp_seq ?_
    split at h
    · rename_i tm1 σ1 h1
      exact ihx rfl hst h1 (fun a' w' hs => ihy rfl hs h hQ)
    · rename_i hne
      refine ihx rfl hst h ?_
      cases e with
      | normal => exact absurd h (hne _ _)
      | exit id => exact hQ
      | ret => exact hQ
      | panic x => exact hQ
  | cond c x y ihx ihy =>
    intro ac hc I β tm tm' σ σ' a w e hst h Q hQ
    simp only [compC] at hc
    split at hc
    · rename_i c' hcc
      subst hc
      simp only [execC] at h
      split at h
      · rename_i hv
        exact wp_cond_true (hst.cond hcc hv) (ihx rfl hst h hQ)
      · rename_i hv
        exact wp_cond_false (hst.cond hcc hv) (ihy rfl hst h hQ)
      · cases h
    · subst hc; simp only [execC] at h; cases h
  | block id x ih =>
    intro ac hc I β tm tm' σ σ' a w e hst h Q hQ
    simp only [compC] at hc
    subst hc
    have hx : compC P an x = compC P an x := rfl
    simp only [execC] at h
    refine wp_block ?_
    split at h
    · rename_i i tm1 σ1 h1
      refine ih hx hst h1 ?_
      intro a' w' hs
      simp only [Exit.inBlock]
      split at h
      · rename_i hid
        simp only [Option.some.injEq, Prod.mk.injEq] at h
        obtain ⟨rfl, rfl, rfl⟩ := h
        rw [if_pos hid]
        exact hQ a' w' hs
      · rename_i hid
        simp only [Option.some.injEq, Prod.mk.injEq] at h
        obtain ⟨rfl, rfl, rfl⟩ := h
        rw [if_neg hid]
        exact hQ a' w' hs
    · rename_i hne
      refine ih hx hst h ?_
      cases e with
      | normal => exact hQ
      | exit id => exact absurd h (hne _ _ _)
      | ret => exact hQ
      | panic x => exact hQ
  | loop x ih =>
    intro ac hc I β tm tm' σ σ' a w e hst h Q hQ
    simp only [compC] at hc
    subst hc
    have hx : compC P an x = compC P an x := rfl
    simp only [execC] at h
    refine wp_loop_rounds n ?_
    have key : ∀ k {tm : Tms} {σ : AHeap} {a : Act} {w : World}, StF dr m an.nt base w0 I0 I β tm σ a w → iterA m (an.ll (firstId x)) (execC O byref m n (compC P an x)) k tm σ = some (e, tm', σ') → Code.rounds P x Q k a w := by
      intro k
      induction k with
      | zero => intro tm σ a w _ h; simp only [iterA] at h; cases h
      | succ k ihk =>
        intro tm σ a w hst h
        rw [rounds_succ]
        simp only [iterA] at h
        obtain ⟨I1, β1, k1, k2, k3, k4, k5⟩ := hst
        obtain ⟨β2, q1, q2, q3⟩ := gcT_sound k5 (k3.keep (an.ll (firstId x))) m
        have hst0 : StF dr m an.nt base w0 I0 I β (gcT m (keepL (an.ll (firstId x)) tm) σ).1 (gcT m (keepL (an.ll (firstId x)) tm) σ).2 a w := ⟨I1, β2, k1, k2.trans q1, q3, k4, q2⟩
        split at h
        · rename_i tm1 σ1 h1
          exact ih hx hst0 h1 (fun a' w' hs => ihk hs h)
        · rename_i hne
          refine ih hx hst0 h ?_
          cases e with
          | normal => exact absurd h (hne _ _)
          | exit id => exact hQ
          | ret => exact hQ
          | panic x => exact hQ
    exact key n hst h
  | exit id =>
    intro ac hc I β tm tm' σ σ' a w e hst h Q hQ
    simp only [compC] at hc; subst hc
    simp only [execC, Option.some.injEq, Prod.mk.injEq] at h
    obtain ⟨rfl, rfl, rfl⟩ := h
    exact wp_exit (hQ a w hst)
  | ret =>
    intro ac hc I β tm tm' σ σ' a w e hst h Q hQ
    simp only [compC] at hc; subst hc
    simp only [execC, Option.some.injEq, Prod.mk.injEq] at h
    obtain ⟨rfl, rfl, rfl⟩ := h
    exact wp_ret (hQ a w hst)
  | rangeFunc f ps x y => intro ac hc I β tm tm' σ σ' a w e hst h; simp only [compC] at hc; subst hc; simp only [execC] at h; cases h
  | scope x ih =>
    intro ac hc I β tm tm' σ σ' a w e hst h Q hQ
    simp only [compC] at hc
    refine wp_scope_straight (ih hc hst h ?_)
    cases e with
    | normal => exact hQ
    | exit id => exact hQ
    | ret => exact hQ
    | panic x => exact hQ
  | label l =>
    intro ac hc I β tm tm' σ σ' a w e hst h Q hQ
    simp only [compC] at hc; subst hc
    simp only [execC, Option.some.injEq, Prod.mk.injEq] at h
    obtain ⟨rfl, rfl, rfl⟩ := h
    exact wp_label (hQ a w hst)
  | goto l => intro ac hc I β tm tm' σ σ' a w e hst h; simp only [compC] at hc; subst hc; simp only [execC] at h; cases h
  | refuse why => intro ac hc I β tm tm' σ σ' a w e hst h; simp only [compC] at hc; subst hc; simp only [execC] at h; cases h

theorem ld_ptr {I : Imm} {β : Bmap} {σ σ' : AHeap} {k : Option Nat} {a x : AVal} {c : Cls} {v : Value} (ha : VR I β a v) (h : ldA σ k a = some (x, σ', c)) : ∃ ad, v = .pointer (some ad) := by
  unfold ldA at h
  split at h
  · simp only [VR] at ha; obtain ⟨b, k, c, _, rfl⟩ := ha; exact ⟨_, rfl⟩
  · simp only [VR] at ha; obtain ⟨b, k, c, _, rfl⟩ := ha; exact ⟨_, rfl⟩
  · simp only [VR] at ha; obtain ⟨b, off, rfl, _⟩ := ha; exact ⟨_, rfl⟩
  · cases h
def resF (tmps : Array Value) : ResultVar → Sem Value
  | .tmp t => pure (tmps.getD t undef)
  | .cell a t => do loadVar t (← asAddr (tmps.getD a undef))
theorem res_list {I : Imm} {β : Bmap} {tm : Tms} {σ : AHeap} {w : World} {tmps : Array Value} (T : TR I β tm tmps) (R : Rel base w0 I0 I β σ w) : ∀ {rs : List ResultVar} {asl : List ARes} {xs : List AVal}, compR P rs = some asl → resAll tm σ asl = some xs →
    ∃ vs : List Value, (rs.mapM (resF tmps)).run P w = .ok vs w ∧ VRs I β xs vs
  | [], asl, xs, hc, h => by
    simp only [compR, Option.some.injEq] at hc; subst hc
    simp only [resAll, Option.some.injEq] at h; subst h
    exact ⟨[], by simp, by simp only [VRs]⟩
  | r :: rs, asl, xs, hc, h => by
    have getD_eq : ∀ t, VR I β (tget tm t) (tmps.getD t undef) := T
    cases r with
    | tmp t =>
      simp only [compR, Option.map_eq_some_iff] at hc
      obtain ⟨as', has, rfl⟩ := hc
      simp only [resAll, resOne] at h
      split at h
      · rename_i ys hys
        injection h with h; subst h
        obtain ⟨vs, h1, h2⟩ := res_list T R has hys
        exact ⟨tmps.getD t undef :: vs, by simp only [List.mapM_cons, resF, Sem.run_bind, Sem.run_pure, Result.andThen_ok, h1], by simp only [VRs]; exact ⟨_, _, rfl, getD_eq t, h2⟩⟩
      · cases h
    | cell a t =>
      simp only [compR] at hc
      split at hc
      · rename_i k as' hk has
        injection hc with hc; subst hc
        simp only [resAll, resOne] at h
        split at h
        · rename_i v hv
          split at h
          · rename_i ys hys
            injection h with h; subst h
            obtain ⟨vs, h1, h2⟩ := res_list T R has hys
            split at hv
            · rename_i v' σ1 c1 hld
              injection hv with hv; subst hv
              obtain ⟨u, hu1, hu2, _⟩ := run_ld hk R (getD_eq a) hld
              obtain ⟨ad, had⟩ := ld_ptr (getD_eq a) hld
              have hlv : (loadVar t ad).run P w = .ok u w := by
                rw [had] at hu1
                simpa [Instr.loadAt, Instr.sureAddr] using hu1
              refine ⟨u :: vs, ?_, by simp only [VRs]; exact ⟨_, _, rfl, hu2, h2⟩⟩
              simp only [List.mapM_cons, resF, had, asAddr, Sem.run_bind, Sem.run_pure, Result.andThen_ok, hlv, h1]
            · cases hv
          · cases h
        · cases h
      · cases hc
theorem res_sound {I : Imm} {β : Bmap} {tm : Tms} {σ : AHeap} {w : World} {tmps : Array Value} (T : TR I β tm tmps) (R : Rel base w0 I0 I β σ w) {fn : Func} {asl : List ARes} {x : AVal} (hc : compR P fn.results.toList = some asl) (h : resA tm σ asl = some x) : ∃ v, (results fn tmps).run P w = .ok v w ∧ VR I β x v := by
  unfold resA at h
  have run : ∀ {xs : List AVal}, resAll tm σ asl = some xs → ∃ vs : List Value, (results fn tmps).run P w = .ok (if h : vs.toArray.size = 1 then vs.toArray[0] else .tuple vs.toArray) w ∧ VRs I β xs vs := by
    intro xs hx
    obtain ⟨vs, h1, h2⟩ := res_list T R hc hx
    refine ⟨vs, ?_, h2⟩
    have hm : (fn.results.mapM (resF tmps)).run P w = .ok vs.toArray w := by
      rw [Array.mapM_eq_mapM_toList, Sem.run_map, h1]; rfl
    have he : results fn tmps = (do let vs ← fn.results.mapM (resF tmps); pure (if h : vs.size = 1 then vs[0] else .tuple vs)) := by
      unfold results
      congr 1
    rw [he, Sem.run_bind, hm]
    rfl
  split at h
  · rename_i v hv
    injection h with h; subst h
    obtain ⟨vs, h1, h2⟩ := run hv
    simp only [VRs] at h2
    obtain ⟨u, us, rfl, h3, rfl⟩ := h2
    exact ⟨u, by rw [h1]; simp, h3⟩
  · rename_i vs' hv hne
    injection h with h; subst h
    obtain ⟨vs, h1, h2⟩ := run hne
    have hl := VRs_length h2
    refine ⟨.tuple vs.toArray, ?_, by simp only [VR]; exact ⟨_, rfl, by simpa using h2⟩⟩
    rw [h1, dif_neg]
    intro hs
    simp only [List.size_toArray] at hs
    match vs', hl with
    | [v], _ => exact hv v rfl
    | [], hl => simp at hl; omega
    | _ :: _ :: _, hl => simp at hl; omega
  · cases h


theorem tget_enter : ∀ (args : List AVal) (i : Nat) (acc : Tms) (n : Nat), tget (enterA i args acc) n = if i ≤ n ∧ n < i + args.length then args.getD (n - i) .top else tget acc n
  | [], i, acc, n => by simp only [enterA, List.length_nil]; rw [if_neg (by omega)]
  | x :: xs, i, acc, n => by
    simp only [enterA, List.length_cons]
    rw [tget_enter xs (i + 1) _ n]
    by_cases h : i + 1 ≤ n ∧ n < i + 1 + xs.length
    · rw [if_pos h, if_pos (by omega), show n - i = (n - (i + 1)) + 1 by omega, List.getD_cons_succ]
    · rw [if_neg h]
      simp only [tget]
      by_cases h1 : i = n
      · subst h1
        rw [if_pos rfl, if_pos (by omega), Nat.sub_self, List.getD_cons_zero]
      · rw [if_neg h1, if_neg (by omega)]
theorem enter_TR {I : Imm} {β : Bmap} {args : List AVal} {vs : Array Value} (h : VRs I β args vs.toList) (n : Nat) : TR I β (enterA 0 args []) (vs ++ Array.replicate n undef) := by
  intro j
  rw [tget_enter]
  have hl := VRs_length h
  simp only [Array.length_toList] at hl
  split
  · rename_i hj
    have hjl : j < args.length := by omega
    obtain ⟨v, h1, h2⟩ := VRs_get h (List.getElem?_eq_getElem hjl)
    have e1 : args.getD (j - 0) .top = args[j] := by simp [List.getD_eq_getElem?_getD, hjl]
    have e2 : (vs ++ Array.replicate n undef).getD j undef = v := by
      rw [Array.getD_eq_getD_getElem?, Array.getElem?_append_left (by omega)]
      have : vs[j]? = some v := by simpa using h1
      rw [this]; rfl
    rw [e1, e2]; exact h2
  · simp only [tget, VR]

/-- a function that is told by hand -/
def PrimOk (P : Program) (prim : Prims) : Prop := ∀ f g, prim f = some g → ∀ args σ r σ', g args σ = some (r, σ') →
  (∃ fn, P.funcs[f]? = some fn ∧ fn.body.isSome = true ∧ (fn.name == "runtime.NumGoroutine") = false) ∧
  ∀ base w0 I0 I β w (vs : Array Value), KLt base w0 → Rel base w0 I0 I β σ w → VRs I β args vs.toList →
    Calls P f vs w (fun e w' => ∃ u, Ends r e u ∧ PostF σ.length base w0 I0 I β r σ' u w')

/-- every call that the interpreter tells comes out as it tells -/
theorem call_sound (hm : P.follows .mixedOrders = true) {prim : Prims} (hP : PrimOk P prim) (ann : Nat → Ann) (byref : Nat → Bool) : ∀ n, OrOk P (callA (compF P ann) prim byref n)
  | 0 => by intro f args σ r σ' h; simp only [callA] at h; cases h
  | n + 1 => by
    have ih := call_sound hm hP ann byref n
    intro f args σ r σ' h
    simp only [callA] at h
    split at h
    · rename_i g hg
      exact hP f g hg args σ r σ' h
    split at h
    · cases h
    rename_i fn hfn
    unfold compF at hfn
    split at hfn
    · rename_i F hF
      split at hfn
      · rename_i body hbody
        split at hfn
        · cases hfn
        · rename_i hname
          split at hfn
          · rename_i rs hrs
            injection hfn with hfn; subst hfn
            refine ⟨⟨F, hF, by rw [hbody]; rfl, by simpa using hname⟩, ?_⟩
            intro base w0 I0 I β w vs hb R hargs
            refine calls_of_wp hF hbody ?_
            have T := enter_TR hargs (F.ntmps - vs.size)
            have hst : StF noDoor σ.length F.ntmps base w0 I0 I β (enterA 0 args []) σ { tmps := vs ++ Array.replicate (F.ntmps - vs.size) undef, defers := [] } w := ⟨I, β, Imm.le.refl I, KeptE.refl _ β, T, ⟨noDoor_ok.2 rfl, by simp; omega⟩, R⟩
            cases hx : execC (callA (compF P ann) prim byref n) byref σ.length n (compC P { ann f with nt := F.ntmps } body) (enterA 0 args []) σ with
            | none => rw [hx] at h; simp only [finA] at h; cases h
            | some q =>
              obtain ⟨e, tm', σ1⟩ := q
              rw [hx] at h
              have fin : (match resA tm' σ1 rs with | some r => outA σ.length σ1 r | none => none) = some (r, σ') → ∀ a' w', StF noDoor σ.length F.ntmps base w0 I0 I β tm' σ1 a' w' → a'.defers = [] ∧ ∃ v, (results F a'.tmps).run P w' = .ok v w' ∧ ∃ u, Ends r (.returned v) u ∧ PostF σ.length base w0 I0 I β r σ' u w' := by
                intro hr a' w' ⟨I1, β1, g1, g2, g3, g4, g5⟩
                split at hr
                · rename_i x hx1
                  obtain ⟨v, h1, h2⟩ := res_sound g3 g5 hrs hx1
                  have hnp : ∀ y, x ≠ .pan y := by rintro y rfl; simp only [VR] at h2
                  obtain ⟨q1, q2⟩ := out_sound (⟨I1, β1, g1, g2, g5, by rw [valOf_npan hnp]; exact h2⟩ : PostF σ.length base w0 I0 I β x σ1 v w') hr
                  refine ⟨noDoor_ok.1 g4.1, v, h1, v, q2 _ ?_, q1⟩
                  cases x <;> first | rfl | exact absurd rfl (hnp _)
                · cases hr
              refine code_sound (dr := noDoor) (an := { ann f with nt := F.ntmps }) ih (fun n hn => by simp [noDoor] at hn) hm hb σ.length n rfl hst hx ?_
              cases e with
              | normal => simp only [finA] at h; exact fun a' w' hs => fin h a' w' hs
              | ret => simp only [finA] at h; exact fun a' w' hs => fin h a' w' hs
              | exit id => simp only [finA] at h; cases h
              | panic x =>
                simp only [finA] at h
                intro a' u w' hd hp
                obtain ⟨q1, q2⟩ := out_sound hp h
                exact ⟨noDoor_ok.1 hd, u, q2 _ rfl, q1⟩
          · cases hfn
      · cases hfn
    · cases hfn
end
end Go.Proofs.YtmlkhhidifjjfaaDoor
namespace Go.Proofs.YtmlkhhidifjjfaaDoor
set_option linter.unusedSimpArgs false
set_option linter.unusedVariables false
open Go.RowKit

def OLe (O O' : Oracle) : Prop := ∀ f a σ r, O f a σ = some r → O' f a σ = some r
section
variable {O O' : Oracle} {byref : Nat → Bool}

theorem askO_mono {view : Bool} {m : Nat} {x y : Option (AVal × AHeap)} (h : ∀ r, x = some r → y = some r) {r : AVal × AHeap} (hr : askO view m x = some r) : askO view m y = some r := by
  cases x with
  | none => cases view <;> simp [askO, resV] at hr
  | some q => rw [h q rfl]; exact hr
theorem backG_mono {σ σf : AHeap} {ids ts : List Nat} {site own : Nat} {x y : Option (AVal × AHeap)} (h : ∀ r, x = some r → y = some r) {r : AVal × AHeap × Cls} (hr : backG σ σf ids ts site own x = some r) : backG σ σf ids ts site own y = some r := by
  cases x with
  | none => simp only [backG] at hr; cases hr
  | some q => rw [h q rfl]; exact hr
theorem callG_mono (hO : OLe O O') {σ : AHeap} {site f own : Nat} {view : Bool} {args : List AVal} {r : AVal × AHeap × Cls} (h : callG O byref σ site f own view args = some r) : callG O' byref σ site f own view args = some r := by
  unfold callG callI at h ⊢
  split at h
  · cases h
  · rename_i vs ts hv
    split at h
    · rename_i hc
      simp only [hc, if_true]
      exact backG_mono (fun q hq => askO_mono (fun q hq => hO _ _ _ _ hq) hq) h
    · cases h
theorem execI_mono (hO : OLe O O') {tm : Tms} {σ : AHeap} {site : Nat} {ins : Ins} {r : AVal × AHeap × Cls} (h : execI O byref tm σ site ins = some r) : execI O' byref tm σ site ins = some r := by
  cases ins
  case call f own view args =>
    simp only [execI] at h ⊢
    exact callG_mono hO h
  case callv x args =>
    simp only [execI] at h ⊢
    split at h
    · exact callG_mono hO h
    · cases h
  all_goals exact h
theorem stepA_mono (hO : OLe O O') {o : AOp} {tm : Tms} {σ : AHeap} {site : Nat} {r : AVal × Tms × AHeap × Cls} (h : stepA O byref o site tm σ = some r) : stepA O' byref o site tm σ = some r := by
  unfold stepA at h ⊢
  split at h
  · cases h
  · exact h
  · split at h
    · rename_i hf
      rw [if_pos hf]
      split at h
      · rename_i he; rw [execI_mono hO he]; exact h
      · cases h
    · cases h
theorem runOps_mono (hO : OLe O O') : ∀ {ops : List AOp} {s : Nat} {tm : Tms} {σ : AHeap} {r : Tms × AHeap × List Cls × Option AVal}, runOps O byref ops s tm σ = some r → runOps O' byref ops s tm σ = some r
  | [], _, _, _, _, h => h
  | o :: ops, s, tm, σ, r, h => by
    simp only [runOps] at h ⊢
    split at h
    · cases h
    · rename_i h1
      rw [stepA_mono hO h1]
      exact h
    · rename_i v tm1 σ1 c hnp h1
      rw [stepA_mono hO h1]
      simp only
      split at h
      · cases h
      rename_i h2
      rw [runOps_mono hO h2]
      exact h
theorem runRegion_mono (hO : OLe O O') {ops : List AOp} {chk : Option (List (Nat × Nat))} {live : List Nat} {tm : Tms} {σ : AHeap} {r : AExit × Tms × AHeap} (h : runRegion O byref ops chk live tm σ = some r) : runRegion O' byref ops chk live tm σ = some r := by
  unfold runRegion at h ⊢
  cases hx : runOps O byref ops σ.length tm (σ ++ List.replicate (sitesOf ops) .free) with
  | none => rw [hx] at h; simp only [regX] at h; cases h
  | some q => rw [runOps_mono hO hx]; rw [hx] at h; exact h
theorem iterA_mono {m0 : Nat} {live : List Nat} {f f' : Tms → AHeap → Option (AExit × Tms × AHeap)} (hf : ∀ tm σ r, f tm σ = some r → f' tm σ = some r) : ∀ {n n' : Nat} {tm : Tms} {σ : AHeap} {r : AExit × Tms × AHeap}, n ≤ n' → iterA m0 live f n tm σ = some r → iterA m0 live f' n' tm σ = some r
  | 0, _, _, _, _, _, h => by simp only [iterA] at h; cases h
  | n + 1, 0, _, _, _, hn, _ => by omega
  | n + 1, n' + 1, tm, σ, r, hn, h => by
    simp only [iterA] at h ⊢
    split at h
    · rename_i h1
      rw [hf _ _ _ h1]
      exact iterA_mono hf (by omega) h
    · rename_i hne
      rw [hf _ _ _ h]
      split
      · rename_i e; injection e with e; subst e; exact absurd h (hne _ _)
      · rfl
theorem execC_mono (hO : OLe O O') {m0 : Nat} : ∀ {c : ACode} {n n' : Nat} {tm : Tms} {σ : AHeap} {r : AExit × Tms × AHeap}, n ≤ n' → execC O byref m0 n c tm σ = some r → execC O' byref m0 n' c tm σ = some r := by
  intro c
  induction c with
  | skip => intro n n' tm σ r _ h; exact h
  | exit id => intro n n' tm σ r _ h; exact h
  | ret => intro n n' tm σ r _ h; exact h
  | stuck => intro n n' tm σ r _ h; exact h
  | region ops chk live =>
    intro n n' tm σ r _ h
    simp only [execC] at h ⊢
    exact runRegion_mono hO h
  | seq a b iha ihb =>
    intro n n' tm σ r hn h
    simp only [execC] at h ⊢
    split at h
    · rename_i h1; rw [iha hn h1]; exact ihb hn h
    · rename_i hne
      rw [iha hn h]
      split
      · rename_i e; injection e with e; subst e; exact absurd h (hne _ _)
      · rfl
  | cond c a b iha ihb =>
    intro n n' tm σ r hn h
    simp only [execC] at h ⊢
    split at h
    · exact iha hn h
    · exact ihb hn h
    · cases h
  | block id c ih =>
    intro n n' tm σ r hn h
    simp only [execC] at h ⊢
    split at h
    · rename_i h1; rw [ih hn h1]; exact h
    · rename_i hne
      rw [ih hn h]
      split
      · rename_i e; injection e with e; subst e; exact absurd h (hne _ _ _)
      · rfl
  | loop live c ih =>
    intro n n' tm σ r hn h
    simp only [execC] at h ⊢
    exact iterA_mono (fun tm σ r h => ih hn h) hn h
theorem finA_mono {m0 : Nat} {fn : AFunc} {x y : Option (AExit × Tms × AHeap)} (h : ∀ r, x = some r → y = some r) {r : AVal × AHeap} (hr : finA m0 fn x = some r) : finA m0 fn y = some r := by
  cases x with
  | none => simp only [finA] at hr; cases hr
  | some q => rw [h q rfl]; exact hr
theorem callA_step (fs : Nat → Option AFunc) (prim : Prims) : ∀ n, OLe (callA fs prim byref n) (callA fs prim byref (n + 1))
  | 0 => by intro f a σ r h; simp only [callA] at h; cases h
  | n + 1 => by
    intro f a σ r h
    rw [callA] at h ⊢
    split at h
    · rename_i g hg; exact h
    · rename_i hg
      split at h
      · cases h
      · rename_i fn hfn
        exact finA_mono (fun q hq => execC_mono (callA_step fs prim n) (by omega) hq) h
theorem callA_mono (fs : Nat → Option AFunc) (prim : Prims) {n m : Nat} (h : n ≤ m) : OLe (callA fs prim byref n) (callA fs prim byref m) := by
  induction m with
  | zero => obtain rfl : n = 0 := by omega
            exact fun _ _ _ _ h => h
  | succ m ih =>
    by_cases e : n = m + 1
    · subst e; exact fun _ _ _ _ h => h
    · exact fun f a σ r hr => callA_step fs prim m f a σ r (ih (by omega) f a σ r hr)
end

section
variable (fs : Nat → Option AFunc) (prim : Prims) (byref : Nat → Bool)
open Classical in
/-- the call's result, if there is one -/
noncomputable def EV : Oracle := fun f args σ => if h : ∃ r, ∃ n, callA fs prim byref n f args σ = some r then some h.choose else none
open Classical in
noncomputable def evC (m : Nat) (c : ACode) (tm : Tms) (σ : AHeap) : Option (AExit × Tms × AHeap) := if h : ∃ r, ∃ n, execC (callA fs prim byref n) byref m n c tm σ = some r then some h.choose else none
variable {fs prim byref} {m0 : Nat}
theorem EV_some {f : Nat} {args : List AVal} {σ : AHeap} {r : AVal × AHeap} : EV fs prim byref f args σ = some r ↔ ∃ n, callA fs prim byref n f args σ = some r := by
  unfold EV
  constructor
  · intro h
    split at h
    · rename_i hx
      injection h with h
      rw [← h]
      exact hx.choose_spec
    · cases h
  · rintro ⟨n, hn⟩
    have hx : ∃ r, ∃ n, callA fs prim byref n f args σ = some r := ⟨r, n, hn⟩
    rw [dif_pos hx]
    obtain ⟨m, hm⟩ := hx.choose_spec
    have h1 := callA_mono (byref := byref) fs prim (Nat.le_max_left n m) _ _ _ _ hn
    have h2 := callA_mono (byref := byref) fs prim (Nat.le_max_right n m) _ _ _ _ hm
    rw [h1] at h2
    injection h2 with h2
    rw [← h2]
theorem evC_some {c : ACode} {tm : Tms} {σ : AHeap} {r : AExit × Tms × AHeap} : evC fs prim byref m0 c tm σ = some r ↔ ∃ n, execC (callA fs prim byref n) byref m0 n c tm σ = some r := by
  unfold evC
  constructor
  · intro h
    split at h
    · rename_i hx
      injection h with h
      rw [← h]
      exact hx.choose_spec
    · cases h
  · rintro ⟨n, hn⟩
    have hx : ∃ r, ∃ n, execC (callA fs prim byref n) byref m0 n c tm σ = some r := ⟨r, n, hn⟩
    rw [dif_pos hx]
    obtain ⟨m, hm⟩ := hx.choose_spec
    have h1 := execC_mono (callA_mono (byref := byref) fs prim (Nat.le_max_left n m)) (Nat.le_max_left n m) hn
    have h2 := execC_mono (callA_mono (byref := byref) fs prim (Nat.le_max_right n m)) (Nat.le_max_right n m) hm
    rw [h1] at h2
    injection h2 with h2
    rw [← h2]
theorem opt_ext {α : Type} {x y : Option α} (h : ∀ r, x = some r ↔ y = some r) : x = y := by
  cases x with
  | none =>
    cases y with
    | none => rfl
    | some q => exact absurd ((h q).2 rfl) (by simp)
  | some q => exact ((h q).1 rfl).symm

theorem ole_EV (n : Nat) : OLe (callA fs prim byref n) (EV fs prim byref) := fun _ _ _ _ h => EV_some.2 ⟨n, h⟩
theorem up {n m : Nat} (h : n ≤ m) : OLe (callA fs prim byref n) (callA fs prim byref m) := callA_mono fs prim h

theorem EV_eq {f : Nat} {fn : AFunc} (hp : prim f = none) (hf : fs f = some fn) (args : List AVal) (σ : AHeap) : EV fs prim byref f args σ = finA σ.length fn (evC fs prim byref σ.length fn.body (enterA 0 args []) σ) := by
  apply opt_ext
  intro r
  rw [EV_some]
  constructor
  · rintro ⟨n, h⟩
    cases n with
    | zero => simp only [callA] at h; cases h
    | succ n =>
      rw [callA, hp, hf] at h
      exact finA_mono (fun q hq => evC_some.2 ⟨n, hq⟩) h
  · intro h
    cases hx : evC fs prim byref σ.length fn.body (enterA 0 args []) σ with
    | none => rw [hx] at h; simp only [finA] at h; cases h
    | some q =>
      obtain ⟨n, hn⟩ := evC_some.1 hx
      refine ⟨n + 1, ?_⟩
      rw [callA, hp, hf]
      rw [hx] at h
      exact finA_mono (x := some q) (fun q' hq' => by injection hq' with hq'; subst hq'; exact hn) h

theorem callG_compact {σ : AHeap} {site f own : Nat} {view : Bool} {args : List AVal} {r : AVal × AHeap × Cls} (h : callG (EV fs prim byref) byref σ site f own view args = some r) : ∃ n, callG (callA fs prim byref n) byref σ site f own view args = some r := by
  unfold callG callI at h ⊢
  split at h
  · cases h
  · rename_i vs ts hv
    split at h
    · rename_i hc
      simp only [hc, if_true]
      cases hx : EV fs prim byref f (renL (rhoOf (freezeA σ ts) 0 (reach (freezeA σ ts) 1000 (refsL vs) [])) vs) (heapOf (freezeA σ ts) 0 (reach (freezeA σ ts) 1000 (refsL vs) []) (rhoOf (freezeA σ ts) 0 (reach (freezeA σ ts) 1000 (refsL vs) [])) (reach (freezeA σ ts) 1000 (refsL vs) []) 0) with
      | none =>
        rw [hx] at h
        cases view <;> simp [askO, resV, backG] at h
      | some q =>
        obtain ⟨n, hn⟩ := EV_some.1 hx
        exact ⟨n, by rw [hn]; rw [hx] at h; exact h⟩
    · cases h
theorem execI_compact {tm : Tms} {σ : AHeap} {site : Nat} {ins : Ins} {r : AVal × AHeap × Cls} (h : execI (EV fs prim byref) byref tm σ site ins = some r) : ∃ n, execI (callA fs prim byref n) byref tm σ site ins = some r := by
  cases ins
  case call f own view args =>
    simp only [execI] at h ⊢
    exact callG_compact h
  case callv x args =>
    simp only [execI] at h ⊢
    split at h
    · exact callG_compact h
    · cases h
  all_goals exact ⟨0, h⟩
theorem stepA_compact {o : AOp} {tm : Tms} {σ : AHeap} {site : Nat} {r : AVal × Tms × AHeap × Cls} (h : stepA (EV fs prim byref) byref o site tm σ = some r) : ∃ n, stepA (callA fs prim byref n) byref o site tm σ = some r := by
  unfold stepA at h ⊢
  split at h
  · cases h
  · exact ⟨0, h⟩
  · split at h
    · rename_i hf
      simp only [hf, if_true]
      split at h
      · rename_i he
        obtain ⟨n, hn⟩ := execI_compact he
        exact ⟨n, by rw [hn]; exact h⟩
      · cases h
    · cases h
theorem runOps_compact : ∀ {ops : List AOp} {s : Nat} {tm : Tms} {σ : AHeap} {r : Tms × AHeap × List Cls × Option AVal}, runOps (EV fs prim byref) byref ops s tm σ = some r → ∃ n, runOps (callA fs prim byref n) byref ops s tm σ = some r
  | [], _, _, _, _, h => ⟨0, h⟩
  | o :: ops, s, tm, σ, r, h => by
    simp only [runOps] at h ⊢
    split at h
    · cases h
    · rename_i h1
      obtain ⟨n, hn⟩ := stepA_compact h1
      exact ⟨n, by rw [hn]; exact h⟩
    rename_i v tm1 σ1 c hnp h1
    split at h
    · cases h
    rename_i h2
    obtain ⟨n, hn⟩ := stepA_compact h1
    obtain ⟨m, hm⟩ := runOps_compact h2
    refine ⟨max n m, ?_⟩
    rw [stepA_mono (up (Nat.le_max_left n m)) hn]
    simp only
    rw [runOps_mono (up (Nat.le_max_right n m)) hm]
    exact h
theorem runRegion_compact {ops : List AOp} {chk : Option (List (Nat × Nat))} {live : List Nat} {tm : Tms} {σ : AHeap} {r : AExit × Tms × AHeap} (h : runRegion (EV fs prim byref) byref ops chk live tm σ = some r) : ∃ n, runRegion (callA fs prim byref n) byref ops chk live tm σ = some r := by
  unfold runRegion at h ⊢
  cases hx : runOps (EV fs prim byref) byref ops σ.length tm (σ ++ List.replicate (sitesOf ops) .free) with
  | none => rw [hx] at h; simp only [regX] at h; cases h
  | some q =>
    obtain ⟨n, hn⟩ := runOps_compact hx
    exact ⟨n, by rw [hn]; rw [hx] at h; exact h⟩

theorem evC_skip (tm : Tms) (σ : AHeap) : evC fs prim byref m0 .skip tm σ = some (.normal, tm, σ) := evC_some.2 ⟨0, rfl⟩
theorem evC_exit (id : Nat) (tm : Tms) (σ : AHeap) : evC fs prim byref m0 (.exit id) tm σ = some (.exit id, tm, σ) := evC_some.2 ⟨0, rfl⟩
theorem evC_ret (tm : Tms) (σ : AHeap) : evC fs prim byref m0 .ret tm σ = some (.ret, tm, σ) := evC_some.2 ⟨0, rfl⟩
theorem evC_region {ops : List AOp} {chk : Option (List (Nat × Nat))} {live : List Nat} {tm : Tms} {σ : AHeap} : evC fs prim byref m0 (.region ops chk live) tm σ = runRegion (EV fs prim byref) byref ops chk live tm σ := by
  apply opt_ext
  intro r
  rw [evC_some]
  constructor
  · rintro ⟨n, hn⟩
    simp only [execC] at hn
    exact runRegion_mono (ole_EV n) hn
  · intro h
    obtain ⟨n, hn⟩ := runRegion_compact h
    exact ⟨n, by simp only [execC]; exact hn⟩
theorem evC_seq {a b : ACode} {tm tm' : Tms} {σ σ' : AHeap} (h : evC fs prim byref m0 a tm σ = some (.normal, tm', σ')) : evC fs prim byref m0 (.seq a b) tm σ = evC fs prim byref m0 b tm' σ' := by
  obtain ⟨n, hn⟩ := evC_some.1 h
  apply opt_ext
  intro r
  rw [evC_some, evC_some]
  constructor
  · rintro ⟨m, hm⟩
    have h1 := execC_mono (up (Nat.le_max_left n m)) (Nat.le_max_left n m) hn
    have h2 := execC_mono (up (Nat.le_max_right n m)) (Nat.le_max_right n m) hm
    simp only [execC, h1] at h2
    exact ⟨_, h2⟩
  · rintro ⟨m, hm⟩
    have h1 := execC_mono (up (Nat.le_max_left n m)) (Nat.le_max_left n m) hn
    have h2 := execC_mono (up (Nat.le_max_right n m)) (Nat.le_max_right n m) hm
    exact ⟨max n m, by simp only [execC, h1]; exact h2⟩
theorem evC_seq_out {a b : ACode} {tm tm' : Tms} {σ σ' : AHeap} {e : AExit} (he : e ≠ .normal) (h : evC fs prim byref m0 a tm σ = some (e, tm', σ')) : evC fs prim byref m0 (.seq a b) tm σ = some (e, tm', σ') := by
  obtain ⟨n, hn⟩ := evC_some.1 h
  refine evC_some.2 ⟨n, ?_⟩
  simp only [execC, hn]
  cases e with
  | normal => exact absurd rfl he
  | exit id => rfl
  | ret => rfl
  | panic x => rfl
def blockA (id : Nat) : AExit × Tms × AHeap → AExit × Tms × AHeap
  | (.exit i, tm, σ) => if i = id then (.normal, tm, σ) else (.exit i, tm, σ)
  | r => r
theorem evC_block {id : Nat} {c : ACode} {tm : Tms} {σ : AHeap} : evC fs prim byref m0 (.block id c) tm σ = (evC fs prim byref m0 c tm σ).map (blockA id) := by
  have step : ∀ n, execC (callA fs prim byref n) byref m0 n (.block id c) tm σ = (execC (callA fs prim byref n) byref m0 n c tm σ).map (blockA id) := by
    intro n
    simp only [execC]
    cases execC (callA fs prim byref n) byref m0 n c tm σ with
    | none => rfl
    | some q =>
      obtain ⟨e, tm1, σ1⟩ := q
      cases e with
      | normal => rfl
      | ret => rfl
      | panic x => rfl
      | exit i => simp only [Option.map_some, blockA]; split <;> rfl
  apply opt_ext; intro r
  rw [evC_some]
  simp only [step, Option.map_eq_some_iff]
  constructor
  · rintro ⟨n, q, h1, h2⟩; exact ⟨q, evC_some.2 ⟨n, h1⟩, h2⟩
  · rintro ⟨q, h1, h2⟩; obtain ⟨n, hn⟩ := evC_some.1 h1; exact ⟨n, q, hn, h2⟩
theorem evC_none {c : ACode} {tm : Tms} {σ : AHeap} (h : evC fs prim byref m0 c tm σ = none) (n : Nat) : execC (callA fs prim byref n) byref m0 n c tm σ = none := by
  cases hx : execC (callA fs prim byref n) byref m0 n c tm σ with
  | none => rfl
  | some r => rw [evC_some.2 ⟨n, hx⟩] at h; cases h
variable (fs prim byref m0) in
/-- a statement, then another one -/
noncomputable def seqX (b : ACode) : Option (AExit × Tms × AHeap) → Option (AExit × Tms × AHeap)
  | some (.normal, tm, σ) => evC fs prim byref m0 b tm σ
  | r => r
theorem x_seq {a b : ACode} {tm : Tms} {σ : AHeap} : evC fs prim byref m0 (.seq a b) tm σ = seqX fs prim byref m0 b (evC fs prim byref m0 a tm σ) := by
  cases h : evC fs prim byref m0 a tm σ with
  | none =>
    simp only [seqX]
    apply opt_ext; intro r
    rw [evC_some]
    constructor
    · rintro ⟨n, hn⟩
      simp only [execC, evC_none h n] at hn
      cases hn
    · intro h; cases h
  | some q =>
    obtain ⟨e, tm', σ'⟩ := q
    cases e with
    | normal => exact evC_seq h
    | exit id => exact evC_seq_out (by simp) h
    | ret => exact evC_seq_out (by simp) h
    | panic x => exact evC_seq_out (by simp) h
variable (fs prim byref m0) in
noncomputable def condX (a b : ACode) (tm : Tms) (σ : AHeap) : AVal → Option (AExit × Tms × AHeap)
  | .bool true => evC fs prim byref m0 a tm σ
  | .bool false => evC fs prim byref m0 b tm σ
  | _ => none
theorem x_cond {c : Opd} {a b : ACode} {tm : Tms} {σ : AHeap} : evC fs prim byref m0 (.cond c a b) tm σ = condX fs prim byref m0 a b tm σ (c.ev tm) := by
  apply opt_ext; intro r
  rw [evC_some]
  simp only [execC]
  constructor
  · rintro ⟨n, hn⟩
    split at hn
    · rename_i e; rw [e]; simp only [condX]; exact evC_some.2 ⟨n, hn⟩
    · rename_i e; rw [e]; simp only [condX]; exact evC_some.2 ⟨n, hn⟩
    · cases hn
  · intro h
    unfold condX at h
    split at h
    · rename_i e; obtain ⟨n, hn⟩ := evC_some.1 h; exact ⟨n, by rw [e]; exact hn⟩
    · rename_i e; obtain ⟨n, hn⟩ := evC_some.1 h; exact ⟨n, by rw [e]; exact hn⟩
    · cases h
variable (fs prim byref m0) in
/-- a loop behind its head -/
noncomputable def evL (live : List Nat) (c : ACode) (tm : Tms) (σ : AHeap) : Option (AExit × Tms × AHeap) :=
  match evC fs prim byref m0 c tm σ with
  | some (.normal, tm', σ') => evC fs prim byref m0 (.loop live c) tm' σ'
  | r => r
theorem x_loop {live : List Nat} {c : ACode} {tm : Tms} {σ : AHeap} : evC fs prim byref m0 (.loop live c) tm σ = evL fs prim byref m0 live c (gcT m0 (keepL live tm) σ).1 (gcT m0 (keepL live tm) σ).2 := by
  apply opt_ext; intro r
  rw [evC_some]
  constructor
  · rintro ⟨n, hn⟩
    simp only [execC] at hn
    cases n with
    | zero => simp only [iterA] at hn; cases hn
    | succ k =>
      simp only [iterA] at hn
      unfold evL
      cases hx : execC (callA fs prim byref (k + 1)) byref m0 (k + 1) c (gcT m0 (keepL live tm) σ).1 (gcT m0 (keepL live tm) σ).2 with
      | none => rw [hx] at hn; cases hn
      | some q =>
        rw [evC_some.2 ⟨_, hx⟩]
        rw [hx] at hn
        obtain ⟨e, tm', σ'⟩ := q
        cases e with
        | normal =>
          simp only at hn ⊢
          exact evC_some.2 ⟨k + 1, by simp only [execC]; exact iterA_mono (fun _ _ _ h => h) (by omega) hn⟩
        | exit id => exact hn
        | ret => exact hn
        | panic x => exact hn
  · intro h
    unfold evL at h
    cases hx : evC fs prim byref m0 c (gcT m0 (keepL live tm) σ).1 (gcT m0 (keepL live tm) σ).2 with
    | none => rw [hx] at h; cases h
    | some q =>
      rw [hx] at h
      obtain ⟨n, hn⟩ := evC_some.1 hx
      obtain ⟨e, tm', σ'⟩ := q
      have out : e ≠ .normal → some (e, tm', σ') = some r → ∃ n, execC (callA fs prim byref n) byref m0 n (.loop live c) tm σ = some r := by
        intro he h
        refine ⟨n + 1, ?_⟩
        have h1 := execC_mono (up (show n ≤ n + 1 by omega)) (show n ≤ n + 1 by omega) hn
        simp only [execC, iterA, h1]
        cases e with
        | normal => exact absurd rfl he
        | exit id => exact h
        | ret => exact h
        | panic x => exact h
      cases e with
      | normal =>
        simp only at h
        obtain ⟨m, hm⟩ := evC_some.1 h
        have h1 := execC_mono (up (show n ≤ max n m + 1 by omega)) (show n ≤ max n m + 1 by omega) hn
        have h2 := execC_mono (up (show m ≤ max n m + 1 by omega)) (Nat.le_refl m) hm
        simp only [execC] at h2
        refine ⟨max n m + 1, ?_⟩
        simp only [execC, iterA, h1]
        exact iterA_mono (fun tm σ r h => execC_mono (fun _ _ _ _ h => h) (by omega) h) (by omega) h2
      | exit id => exact out (by simp) h
      | ret => exact out (by simp) h
      | panic x => exact out (by simp) h

/-- what EV says, the program does -/
theorem EV_sound {P : Program} (hm : P.follows .mixedOrders = true) {prim : Prims} (hP : PrimOk P prim) (ann : Nat → Ann) (byref : Nat → Bool) : OrOk P (EV (compF P ann) prim byref) := by
  intro f args σ r σ' h
  obtain ⟨n, hn⟩ := EV_some.1 h
  exact call_sound hm hP ann byref n f args σ r σ' hn
end
end Go.Proofs.YtmlkhhidifjjfaaDoor
namespace Go.Proofs.YtmlkhhidifjjfaaDoor
set_option linter.unusedSimpArgs false
set_option linter.unusedVariables false
open Go.RowKit

/-- without what is touched -/
def dropC : Tms × AHeap × List Cls × Option AVal → Tms × AHeap × Option AVal := fun q => (q.1, q.2.1, q.2.2.2)
def isPan : AVal → Bool
  | .pan _ => true
  | _ => false
section
variable (O : Oracle) (byref : Nat → Bool)
def exI (i : Ins) (s : Nat) (tm : Tms) (σ : AHeap) : Option (AVal × AHeap × Cls) :=
  if nsite i == 0 || freeAt σ s then execI O byref tm σ s i else none
/-- operations, what they touch left out -/
def runN (ops : List AOp) (s : Nat) (tm : Tms) (σ : AHeap) : Option (Tms × AHeap × Option AVal) := (runOps O byref ops s tm σ).map dropC
def kN (d : Option Nat) (os : List AOp) (s : Nat) (tm : Tms) : Option (AVal × AHeap × Cls) → Option (Tms × AHeap × Option AVal)
  | none => none
  | some (v, σ, _) => if isPan v then some (tput tm d v, σ, some (valOf v)) else runN O byref os s (tput tm d v) σ
def regN (live : List Nat) : Option (Tms × AHeap × Option AVal) → Option (AExit × Tms × AHeap)
  | none => none
  | some (_, σ, some x) => some (.panic x, [], σ)
  | some (tm, σ, none) => some (.normal, keepL live tm, σ)
variable {O byref}
theorem runN_nil (s : Nat) (tm : Tms) (σ : AHeap) : runN O byref [] s tm σ = some (tm, σ, none) := rfl
theorem runOps_none {o : AOp} {os : List AOp} {s : Nat} {tm : Tms} {σ : AHeap} (h : stepA O byref o s tm σ = none) : runOps O byref (o :: os) s tm σ = none := by simp only [runOps, h]
theorem runOps_pan {o : AOp} {os : List AOp} {s : Nat} {tm tm1 : Tms} {σ σ1 : AHeap} {x : AVal} {c : Cls} (h : stepA O byref o s tm σ = some (.pan x, tm1, σ1, c)) : runOps O byref (o :: os) s tm σ = some (tm1, σ1, [c], some x) := by simp only [runOps, h]
theorem runOps_step {o : AOp} {os : List AOp} {s : Nat} {tm tm1 : Tms} {σ σ1 : AHeap} {v : AVal} {c : Cls} (h : stepA O byref o s tm σ = some (v, tm1, σ1, c)) (hn : isPan v = false) : runOps O byref (o :: os) s tm σ = (runOps O byref os (s + nsite o.ins) tm1 σ1).map fun q => (q.1, q.2.1, c :: q.2.2.1, q.2.2.2) := by
  simp only [runOps, h]
  cases v <;> first
    | (simp [isPan] at hn; done)
    | (simp only; cases runOps O byref os (s + nsite o.ins) tm1 σ1 <;> rfl)
theorem runN_none {o : AOp} {os : List AOp} {s : Nat} {tm : Tms} {σ : AHeap} (h : stepA O byref o s tm σ = none) : runN O byref (o :: os) s tm σ = none := by simp only [runN, runOps_none h, Option.map_none]
theorem runN_pan {o : AOp} {os : List AOp} {s : Nat} {tm tm1 : Tms} {σ σ1 : AHeap} {x : AVal} {c : Cls} (h : stepA O byref o s tm σ = some (.pan x, tm1, σ1, c)) : runN O byref (o :: os) s tm σ = some (tm1, σ1, some x) := by simp only [runN, runOps_pan h, Option.map_some, dropC]
theorem runN_step {o : AOp} {os : List AOp} {s : Nat} {tm tm1 : Tms} {σ σ1 : AHeap} {v : AVal} {c : Cls} (h : stepA O byref o s tm σ = some (v, tm1, σ1, c)) (hn : isPan v = false) : runN O byref (o :: os) s tm σ = runN O byref os (s + nsite o.ins) tm1 σ1 := by
  simp only [runN, runOps_step h hn, Option.map_map]
  rfl
theorem isPan_true {v : AVal} (h : isPan v = true) : ∃ x, v = .pan x := by
  cases v <;> first | exact ⟨_, rfl⟩ | (simp [isPan] at h; done)
theorem step_one {d : Option Nat} {i : Ins} {af : List Nat} {s : Nat} {tm : Tms} {σ : AHeap} : stepA O byref ⟨d, i, none, af⟩ s tm σ = (exI O byref i s tm σ).map fun q => (q.1, tput tm d q.1, q.2.1, q.2.2) := by
  unfold stepA exI
  simp only [wantedA]
  split
  · cases execI O byref tm σ s i with
    | none => rfl
    | some q => rfl
  · rfl
theorem runN_cons (d : Option Nat) (i : Ins) (af : List Nat) (os : List AOp) (s : Nat) (tm : Tms) (σ : AHeap) : runN O byref (⟨d, i, none, af⟩ :: os) s tm σ = kN O byref d os (s + nsite i) tm (exI O byref i s tm σ) := by
  cases h : exI O byref i s tm σ with
  | none => exact runN_none (by rw [step_one, h]; rfl)
  | some q =>
    obtain ⟨v, σ1, c⟩ := q
    have hs : stepA O byref ⟨d, i, none, af⟩ s tm σ = some (v, tput tm d v, σ1, c) := by rw [step_one, h]; rfl
    cases hp : isPan v with
    | true =>
      obtain ⟨x, rfl⟩ := isPan_true hp
      exact runN_pan hs
    | false =>
      rw [runN_step hs hp]
      simp only [kN, hp, Bool.false_eq_true, if_false]
theorem reg_none (ops : List AOp) (live : List Nat) (tm : Tms) (σ : AHeap) : runRegion O byref ops none live tm σ = regN live (runN O byref ops σ.length tm (σ ++ List.replicate (sitesOf ops) .free)) := by
  unfold runRegion runN
  cases runOps O byref ops σ.length tm (σ ++ List.replicate (sitesOf ops) .free) with
  | none => rfl
  | some q =>
    obtain ⟨tm', σ', cs, p⟩ := q
    cases p <;> rfl
theorem kN_some (d : Option Nat) (os : List AOp) (s : Nat) (tm : Tms) (v : AVal) (σ : AHeap) (c : Cls) (h : isPan v = false) : kN O byref d os s tm (some (v, σ, c)) = runN O byref os s (tput tm d v) σ := by
  simp only [kN, h, Bool.false_eq_true, if_false]
theorem kN_pan (d : Option Nat) (os : List AOp) (s : Nat) (tm : Tms) (x : AVal) (σ : AHeap) (c : Cls) : kN O byref d os s tm (some (.pan x, σ, c)) = some (tput tm d (.pan x), σ, some x) := rfl
theorem kN_none (d : Option Nat) (os : List AOp) (s : Nat) (tm : Tms) : kN O byref d os s tm none = none := rfl

/-- operations that hang on one guard -/
structure GOp where
  guard : Option (Nat × Bool)
  ops : List AOp
def gSkip : List AOp → Tms → Tms
  | [], tm => tm
  | o :: os, tm => gSkip os (tput tm o.dst (.tup []))
def unG (o : AOp) : AOp := { o with guard := none }
variable (O byref) in
def gRun (j : Nat) (w : Bool) (g : List AOp) (s : Nat) (tm : Tms) (σ : AHeap) : Option (Tms × AHeap × Option AVal) := match wantedA (some (j, w)) tm with
  | none => none
  | some false => some (gSkip g tm, σ, none)
  | some true => runN O byref (g.map unG) s tm σ
variable (O byref) in
def gK (os : List AOp) (s : Nat) : Option (Tms × AHeap × Option AVal) → Option (Tms × AHeap × Option AVal)
  | none => none
  | some (tm, σ, some x) => some (tm, σ, some x)
  | some (tm, σ, none) => runN O byref os s tm σ
/-- the operations ahead that have this guard, and the rest -/
def gSpan (j : Nat) (w : Bool) : List AOp → List AOp × List AOp
  | [] => ([], [])
  | o :: os => match o.guard with
    | some (j', w') => if j' = j ∧ w' = w ∧ o.dst ≠ some j then ((o :: (gSpan j w os).1), (gSpan j w os).2) else ([], o :: os)
    | none => ([], o :: os)
theorem gSpan_eq (j : Nat) (w : Bool) : ∀ os, (gSpan j w os).1 ++ (gSpan j w os).2 = os
  | [] => rfl
  | o :: os => by
    simp only [gSpan]
    split
    · split
      · simp [gSpan_eq j w os]
      · rfl
    · rfl
theorem gSpan_all (j : Nat) (w : Bool) : ∀ os, ∀ o ∈ (gSpan j w os).1, o.guard = some (j, w) ∧ o.dst ≠ some j
  | [] => by simp [gSpan]
  | o :: os => by
    intro o' ho
    simp only [gSpan] at ho
    split at ho
    · rename_i j' w' hg
      split at ho
      · rename_i hc
        rcases List.mem_cons.1 ho with rfl | ho
        · exact ⟨by rw [hg, hc.1, hc.2.1], hc.2.2⟩
        · exact gSpan_all j w os o' ho
      · simp at ho
    · simp at ho
theorem tget_tput' {d : Option Nat} {v : AVal} {n : Nat} {tm : Tms} (h : d ≠ some n) : tget (tput tm d v) n = tget tm n := by
  cases d with
  | none => rfl
  | some d =>
    have : d ≠ n := by rintro rfl; exact h rfl
    simp only [tput, tget_tins, this, if_false]
theorem wanted_put {d : Option Nat} {v : AVal} {j : Nat} {w : Bool} {tm : Tms} (h : d ≠ some j) : wantedA (some (j, w)) (tput tm d v) = wantedA (some (j, w)) tm := by
  simp only [wantedA, tget_tput' h]
theorem runN_append : ∀ (a b : List AOp) (s : Nat) (tm : Tms) (σ : AHeap), runN O byref (a ++ b) s tm σ = gK O byref b (s + sitesOf a) (runN O byref a s tm σ)
  | [], b, s, tm, σ => by simp [runN_nil, gK, sitesOf]
  | o :: a, b, s, tm, σ => by
    have ih := runN_append a b
    simp only [List.cons_append]
    have hs : s + nsite o.ins + sitesOf a = s + sitesOf (o :: a) := by simp [sitesOf, Nat.add_assoc]
    cases hst : stepA O byref o s tm σ with
    | none => rw [runN_none hst, runN_none hst]; rfl
    | some q =>
      obtain ⟨v, tm1, σ1, c⟩ := q
      cases hp : isPan v with
      | true =>
        obtain ⟨x, rfl⟩ := isPan_true hp
        rw [runN_pan hst, runN_pan hst]; rfl
      | false => rw [runN_step hst hp, runN_step hst hp, ih, hs]
theorem runN_group (j : Nat) (w : Bool) : ∀ (g : List AOp), (∀ o ∈ g, o.guard = some (j, w) ∧ o.dst ≠ some j) → ∀ (s : Nat) (tm : Tms) (σ : AHeap), g ≠ [] → runN O byref g s tm σ = gRun O byref j w g s tm σ
  | [], _, _, _, _, h => absurd rfl h
  | o :: g, hall, s, tm, σ, _ => by
    obtain ⟨hg, hd⟩ := hall o (by simp)
    have ih : ∀ (tm : Tms) (σ : AHeap) (s : Nat), wantedA (some (j, w)) tm ≠ none → runN O byref g s tm σ = gRun O byref j w g s tm σ := by
      intro tm σ s hw
      by_cases he : g = []
      · subst he
        unfold gRun
        cases hx : wantedA (some (j, w)) tm with
        | none => exact absurd hx hw
        | some b => cases b <;> rfl
      · exact runN_group j w g (fun o ho => hall o (by simp [ho])) s tm σ he
    cases hx : wantedA (some (j, w)) tm with
    | none =>
      rw [runN_none (by simp only [stepA, hg, hx])]
      simp only [gRun, hx]
    | some b =>
      cases b with
      | false =>
        have h1 : runN O byref (o :: g) s tm σ = runN O byref g (s + nsite o.ins) (tput tm o.dst (.tup [])) σ :=
          runN_step (v := .tup []) (c := {}) (by simp only [stepA, hg, hx]) rfl
        rw [h1, ih _ _ _ (by rw [wanted_put hd, hx]; simp)]
        unfold gRun
        rw [wanted_put hd, hx]
        rfl
      | true =>
        have key : ∀ r : Option (AVal × AHeap × Cls), (∀ v σ' c, r = some (v, σ', c) → isPan v = false → runN O byref g (s + nsite o.ins) (tput tm o.dst v) σ' = runN O byref (g.map unG) (s + nsite o.ins) (tput tm o.dst v) σ') → kN O byref o.dst g (s + nsite o.ins) tm r = kN O byref o.dst (g.map unG) (s + nsite o.ins) tm r := by
          intro r hr
          cases r with
          | none => rfl
          | some q =>
            obtain ⟨v, σ', c⟩ := q
            cases hp : isPan v with
            | true => simp only [kN, hp, if_true]
            | false => rw [kN_some _ _ _ _ _ _ _ hp, kN_some _ _ _ _ _ _ _ hp]; exact hr v σ' c rfl hp
        have h1 : runN O byref (o :: g) s tm σ = kN O byref o.dst g (s + nsite o.ins) tm (exI O byref o.ins s tm σ) := by
          have h0 : runN O byref (o :: g) s tm σ = runN O byref (⟨o.dst, o.ins, none, o.after⟩ :: g) s tm σ := by
            have hst : stepA O byref o s tm σ = stepA O byref ⟨o.dst, o.ins, none, o.after⟩ s tm σ := by
              unfold stepA
              simp only [hg, hx]
              rfl
            unfold runN
            simp only [runOps, hst]
          rw [h0, runN_cons]
        rw [h1]
        unfold gRun
        rw [hx]
        simp only [List.map_cons]
        rw [show unG o = ⟨o.dst, o.ins, none, o.after⟩ from rfl, runN_cons]
        refine key _ fun v σ' c _ _ => ?_
        rw [ih _ _ _ (by rw [wanted_put hd, hx]; simp)]
        unfold gRun
        rw [wanted_put hd, hx]
theorem runN_guard (d : Option Nat) (i : Ins) (j : Nat) (w : Bool) (af : List Nat) (os : List AOp) (s : Nat) (tm : Tms) (σ : AHeap) (hd : decide (d = some j) = false) :
    runN O byref (⟨d, i, some (j, w), af⟩ :: os) s tm σ = gK O byref (gSpan j w os).2 (s + sitesOf (⟨d, i, some (j, w), af⟩ :: (gSpan j w os).1)) (gRun O byref j w (⟨d, i, some (j, w), af⟩ :: (gSpan j w os).1) s tm σ) := by
  have h := gSpan_eq j w os
  have hall : ∀ o ∈ (⟨d, i, some (j, w), af⟩ :: (gSpan j w os).1 : List AOp), o.guard = some (j, w) ∧ o.dst ≠ some j := by
    intro o ho
    rcases List.mem_cons.1 ho with rfl | ho
    · exact ⟨rfl, by simpa using hd⟩
    · exact gSpan_all j w os o ho
  rw [← runN_group j w _ hall s tm σ (by simp), ← runN_append, List.cons_append, h]
variable (O byref) in
/-- by the guard's value -/
def gW (w : Bool) (g : List AOp) (s : Nat) (tm : Tms) (σ : AHeap) : AVal → Option (Tms × AHeap × Option AVal)
  | .bool b => if b = w then runN O byref (g.map unG) s tm σ else some (gSkip g tm, σ, none)
  | .tup [] => some (gSkip g tm, σ, none)
  | _ => none
theorem gRun_eq (j : Nat) (w : Bool) (g : List AOp) (s : Nat) (tm : Tms) (σ : AHeap) : gRun O byref j w g s tm σ = gW O byref w g s tm σ (tget tm j) := by
  unfold gRun wantedA
  simp only
  generalize tget tm j = v
  cases v
  case bool b => cases b <;> cases w <;> rfl
  case tup vs => cases vs <;> rfl
  all_goals rfl
theorem gW_bool (w : Bool) (g : List AOp) (s : Nat) (tm : Tms) (σ : AHeap) (b : Bool) : gW O byref w g s tm σ (.bool b) = if b = w then runN O byref (g.map unG) s tm σ else some (gSkip g tm, σ, none) := rfl
theorem gW_off (w : Bool) (g : List AOp) (s : Nat) (tm : Tms) (σ : AHeap) : gW O byref w g s tm σ (.tup []) = some (gSkip g tm, σ, none) := rfl
theorem gK_some (os : List AOp) (s : Nat) (tm : Tms) (σ : AHeap) : gK O byref os s (some (tm, σ, none)) = runN O byref os s tm σ := rfl
end

/-! ### branches that meet again -/
section
variable (c : Prop) [Decidable c]
theorem ite_list {α : Type} (a b : α) (x y : List α) : (if c then a :: x else b :: y) = (if c then a else b) :: (if c then x else y) := by split <;> rfl
theorem ite_int (k : IntKind) (a b : Int) : (if c then AVal.int k a else AVal.int k b) = AVal.int k (if c then a else b) := by split <;> rfl
theorem ite_bool (a b : Bool) : (if c then AVal.bool a else AVal.bool b) = AVal.bool (if c then a else b) := by split <;> rfl
theorem ite_str (a b : List UInt8) : (if c then AVal.str a else AVal.str b) = AVal.str (if c then a else b) := by split <;> rfl
theorem ite_lst (p q : Bool) (a b : List AVal) : (if c then AVal.lst p a else AVal.lst q b) = AVal.lst (if c then p else q) (if c then a else b) := by split <;> rfl
theorem ite_agg (a b : List AVal) : (if c then AVal.agg a else AVal.agg b) = AVal.agg (if c then a else b) := by split <;> rfl
theorem ite_var (a b : List AVal) : (if c then ABlk.var a else ABlk.var b) = ABlk.var (if c then a else b) := by split <;> rfl
theorem ite_row (g k : Nat) (a b : List AVal) : (if c then ABlk.row g k a else ABlk.row g k b) = ABlk.row g k (if c then a else b) := by split <;> rfl
theorem ite_ref (t : Nat) (a b : Nat) : (if c then AVal.ref t a else AVal.ref t b) = AVal.ref t (if c then a else b) := by split <;> rfl
theorem ite_tt {α : Type} (x y z : α) : (if c then (if c then x else y) else z) = if c then x else z := by split <;> rfl
theorem ite_ee {α : Type} (x y z : α) : (if c then x else (if c then y else z)) = if c then x else z := by split <;> rfl
theorem ite_nt {α : Type} (x y z : α) : (if c then (if ¬c then x else y) else z) = if c then y else z := by split <;> simp_all
theorem ite_ne {α : Type} (x y z : α) : (if c then x else (if ¬c then y else z)) = if c then x else y := by split <;> simp_all
theorem pickX_b (σ : AHeap) (a b : AVal) (p : Bool) : pickX σ a b (.bool p) = some (if p = true then a else b, σ, {}) := by cases p <;> rfl
theorem isPan_ite (a b : AVal) : isPan (if c then a else b) = if c then isPan a else isPan b := by split <;> rfl
end
section
variable {fs : Nat → Option AFunc} {prim : Prims} {byref : Nat → Bool} {m0 : Nat}
theorem condX_b (p : Bool) (a b : ACode) (tm : Tms) (σ : AHeap) : condX fs prim byref m0 a b tm σ (.bool p) = if p = true then evC fs prim byref m0 a tm σ else evC fs prim byref m0 b tm σ := by
  cases p <;> rfl
theorem seqX_n (b : ACode) (tm : Tms) (σ : AHeap) : seqX fs prim byref m0 b (some (.normal, tm, σ)) = evC fs prim byref m0 b tm σ := rfl
theorem seqX_e (b : ACode) (i : Nat) (tm : Tms) (σ : AHeap) : seqX fs prim byref m0 b (some (.exit i, tm, σ)) = some (.exit i, tm, σ) := rfl
theorem seqX_r (b : ACode) (tm : Tms) (σ : AHeap) : seqX fs prim byref m0 b (some (.ret, tm, σ)) = some (.ret, tm, σ) := rfl
theorem seqX_p (b : ACode) (x : AVal) (tm : Tms) (σ : AHeap) : seqX fs prim byref m0 b (some (.panic x, tm, σ)) = some (.panic x, tm, σ) := rfl
theorem seqX_ite (c : Prop) [Decidable c] (b : ACode) (x y : Option (AExit × Tms × AHeap)) : seqX fs prim byref m0 b (if c then x else y) = if c then seqX fs prim byref m0 b x else seqX fs prim byref m0 b y := by split <;> rfl
theorem block_n (id : Nat) (tm : Tms) (σ : AHeap) : Option.map (blockA id) (some (.normal, tm, σ)) = some (.normal, tm, σ) := rfl
theorem block_e (id i : Nat) (tm : Tms) (σ : AHeap) : Option.map (blockA id) (some (.exit i, tm, σ)) = if i = id then some (.normal, tm, σ) else some (.exit i, tm, σ) := by
  simp only [Option.map_some, blockA]; split <;> rfl
theorem block_r (id : Nat) (tm : Tms) (σ : AHeap) : Option.map (blockA id) (some (.ret, tm, σ)) = some (.ret, tm, σ) := rfl
theorem block_p (id : Nat) (x : AVal) (tm : Tms) (σ : AHeap) : Option.map (blockA id) (some (.panic x, tm, σ)) = some (.panic x, tm, σ) := rfl
theorem block_ite (id : Nat) (c : Prop) [Decidable c] (x y : Option (AExit × Tms × AHeap)) : Option.map (blockA id) (if c then x else y) = if c then Option.map (blockA id) x else Option.map (blockA id) y := by split <;> rfl
theorem fin_ite (m : Nat) (fn : AFunc) (c : Prop) [Decidable c] (x y : Option (AExit × Tms × AHeap)) : finA m fn (if c then x else y) = if c then finA m fn x else finA m fn y := by split <;> rfl
end

section
variable {fs : Nat → Option AFunc} {prim : Prims} {byref : Nat → Bool} {m0 : Nat}
theorem evL_round {live : List Nat} {c : ACode} {tm tm' : Tms} {σ σ' : AHeap} (h : evC fs prim byref m0 c tm σ = some (.normal, tm', σ')) : evL fs prim byref m0 live c tm σ = evL fs prim byref m0 live c (gcT m0 (keepL live tm') σ').1 (gcT m0 (keepL live tm') σ').2 := by
  unfold evL
  rw [h]
  simp only
  rw [x_loop]
  rfl
theorem evL_exit {live : List Nat} {c : ACode} {tm tm' : Tms} {σ σ' : AHeap} {i : Nat} (h : evC fs prim byref m0 c tm σ = some (.exit i, tm', σ')) : evL fs prim byref m0 live c tm σ = some (.exit i, tm', σ') := by
  unfold evL; rw [h]
theorem evL_ret {live : List Nat} {c : ACode} {tm tm' : Tms} {σ σ' : AHeap} (h : evC fs prim byref m0 c tm σ = some (.ret, tm', σ')) : evL fs prim byref m0 live c tm σ = some (.ret, tm', σ') := by
  unfold evL; rw [h]
variable (fs prim byref m0) in
/-- a loop behind a round -/
noncomputable def evM (live : List Nat) (c : ACode) : Option (AExit × Tms × AHeap) → Option (AExit × Tms × AHeap)
  | some (.normal, tm, σ) => evL fs prim byref m0 live c (gcT m0 (keepL live tm) σ).1 (gcT m0 (keepL live tm) σ).2
  | r => r
theorem evL_eq (live : List Nat) (c : ACode) (tm : Tms) (σ : AHeap) : evL fs prim byref m0 live c tm σ = evM fs prim byref m0 live c (evC fs prim byref m0 c tm σ) := by
  cases h : evC fs prim byref m0 c tm σ with
  | none => unfold evL; rw [h]; rfl
  | some q =>
    obtain ⟨e, tm', σ'⟩ := q
    cases e with
    | normal => exact evL_round h
    | exit i => exact evL_exit h
    | ret => exact evL_ret h
    | panic x => unfold evL; rw [h]; rfl
theorem evM_n (live : List Nat) (c : ACode) (tm : Tms) (σ : AHeap) : evM fs prim byref m0 live c (some (.normal, tm, σ)) = evL fs prim byref m0 live c (gcT m0 (keepL live tm) σ).1 (gcT m0 (keepL live tm) σ).2 := rfl
theorem evM_e (live : List Nat) (c : ACode) (i : Nat) (tm : Tms) (σ : AHeap) : evM fs prim byref m0 live c (some (.exit i, tm, σ)) = some (.exit i, tm, σ) := rfl
theorem evM_r (live : List Nat) (c : ACode) (tm : Tms) (σ : AHeap) : evM fs prim byref m0 live c (some (.ret, tm, σ)) = some (.ret, tm, σ) := rfl
theorem evM_p (live : List Nat) (c : ACode) (x : AVal) (tm : Tms) (σ : AHeap) : evM fs prim byref m0 live c (some (.panic x, tm, σ)) = some (.panic x, tm, σ) := rfl
theorem evM_ite (live : List Nat) (b : ACode) (c : Prop) [Decidable c] (x y : Option (AExit × Tms × AHeap)) : evM fs prim byref m0 live b (if c then x else y) = if c then evM fs prim byref m0 live b x else evM fs prim byref m0 live b y := by split <;> rfl
end

/-! ### calls with plain values -/
def plain1 : AVal → Bool
  | .int _ _ => true
  | .bool _ => true
  | .str _ => true
  | .nilp => true
  | .nilm => true
  | .nili => true
  | .lst _ _ => true
  | .fn _ [] => true
  | _ => false
def plainV : AVal → Bool
  | .agg cs => cs.all plain1
  | x => plain1 x
def norm1 : AVal → AVal
  | .lst _ xs => .lst false xs
  | x => x
def normV : AVal → AVal
  | .agg cs => .agg (cs.map norm1)
  | x => norm1 x
theorem plain1_show {σ : AHeap} {x : AVal} (h : plain1 x = true) : showA1 σ x = some (norm1 x, []) := by
  cases x <;> first | (simp [plain1] at h; done) | rfl
theorem plains_show {σ : AHeap} : ∀ {xs : List AVal}, xs.all plain1 = true → showsA σ xs = some (xs.map norm1, [])
  | [], _ => rfl
  | x :: xs, h => by
    simp only [List.all_cons, Bool.and_eq_true] at h
    simp only [showsA, plain1_show h.1, plains_show h.2, List.map_cons, List.append_nil]
theorem plainV_one {x : AVal} (h : ∀ cs, x ≠ .agg cs) : plainV x = plain1 x ∧ normV x = norm1 x := by
  cases x <;> first | exact ⟨rfl, rfl⟩ | exact absurd rfl (h _)
theorem showA_one {σ : AHeap} {x : AVal} (h : ∀ cs, x ≠ .agg cs) : showA σ x = showA1 σ x := by
  cases x <;> first | rfl | exact absurd rfl (h _)
theorem agg_or (x : AVal) : (∃ cs, x = .agg cs) ∨ ∀ cs, x ≠ .agg cs := by
  cases x <;> first | exact Or.inl ⟨_, rfl⟩ | (right; intro cs; simp)
theorem plainV_show {σ : AHeap} {x : AVal} (h : plainV x = true) : showA σ x = some (normV x, []) := by
  rcases agg_or x with ⟨cs, rfl⟩ | hn
  · simp only [plainV] at h
    simp only [showA, plains_show h, normV]
  · rw [(plainV_one hn).1] at h
    rw [showA_one hn, (plainV_one hn).2]
    exact plain1_show h
theorem plainVs_show {σ : AHeap} : ∀ {xs : List AVal}, xs.all plainV = true → showAs σ xs = some (xs.map normV, [])
  | [], _ => rfl
  | x :: xs, h => by
    simp only [List.all_cons, Bool.and_eq_true] at h
    simp only [showAs, plainV_show h.1, plainVs_show h.2, List.map_cons, List.append_nil]
theorem norm1_refs {x : AVal} (h : plain1 x = true) : refsV (norm1 x) = [] := by
  cases x
  case fn f cs => cases cs <;> simp [plain1] at h; rfl
  all_goals first | (simp [plain1] at h; done) | rfl
theorem norms_refs : ∀ {xs : List AVal}, xs.all plain1 = true → refsL (xs.map norm1) = []
  | [], _ => rfl
  | x :: xs, h => by
    simp only [List.all_cons, Bool.and_eq_true] at h
    simp only [List.map_cons, refsL, norm1_refs h.1, norms_refs h.2, List.append_nil]
theorem normV_refs {x : AVal} (h : plainV x = true) : refsV (normV x) = [] := by
  rcases agg_or x with ⟨cs, rfl⟩ | hn
  · simp only [plainV] at h
    simp only [normV, refsV]; exact norms_refs h
  · rw [(plainV_one hn).1] at h
    rw [(plainV_one hn).2]; exact norm1_refs h
theorem normVs_refs : ∀ {xs : List AVal}, xs.all plainV = true → refsL (xs.map normV) = []
  | [], _ => rfl
  | x :: xs, h => by
    simp only [List.all_cons, Bool.and_eq_true] at h
    simp only [List.map_cons, refsL, normV_refs h.1, normVs_refs h.2, List.append_nil]
theorem norm1_ren {ρ : Rho} {x : AVal} (h : plain1 x = true) : renV ρ (norm1 x) = norm1 x := by
  cases x
  case fn f cs => cases cs <;> simp [plain1] at h; rfl
  all_goals first | (simp [plain1] at h; done) | rfl
theorem norms_ren {ρ : Rho} : ∀ {xs : List AVal}, xs.all plain1 = true → renL ρ (xs.map norm1) = xs.map norm1
  | [], _ => rfl
  | x :: xs, h => by
    simp only [List.all_cons, Bool.and_eq_true] at h
    simp only [List.map_cons, renL, norm1_ren h.1, norms_ren h.2]
theorem normV_ren {ρ : Rho} {x : AVal} (h : plainV x = true) : renV ρ (normV x) = normV x := by
  rcases agg_or x with ⟨cs, rfl⟩ | hn
  · simp only [plainV] at h
    simp only [normV, renV]; rw [norms_ren h]
  · rw [(plainV_one hn).1] at h
    rw [(plainV_one hn).2]; exact norm1_ren h
theorem normVs_ren {ρ : Rho} : ∀ {xs : List AVal}, xs.all plainV = true → renL ρ (xs.map normV) = xs.map normV
  | [], _ => rfl
  | x :: xs, h => by
    simp only [List.all_cons, Bool.and_eq_true] at h
    simp only [List.map_cons, renL, normV_ren h.1, normVs_ren h.2]
theorem callG_plain {O : Oracle} {byref : Nat → Bool} {σ : AHeap} {site f own : Nat} {view : Bool} {args : List AVal} (hb : byref f = false) (h : args.all plainV = true) :
    callG O byref σ site f own view args = backG σ σ [] [] site own (askO view 0 (O f (args.map normV) [])) := by
  unfold callG showIf
  rw [hb]
  simp only [Bool.false_eq_true, if_false, plainVs_show h]
  have h1 : freezeA σ [] = σ := rfl
  rw [h1, normVs_refs h]
  have h2 : reach σ 1000 [] [] = [] := rfl
  rw [h2]
  unfold callI
  simp only [List.all_nil, if_true, normVs_ren h, heapOf, List.length_nil]
/-- an answer of plain values, none of them with blocks -/
theorem backG_plain (σ : AHeap) (site own : Nat) (r : AVal) (h : renV (rhoBack [] [] site) r = r) : backG σ σ [] [] site own (some (r, [])) = some (r, σ, {}) := by
  simp only [backG, List.isEmpty_nil, Bool.and_self, if_true, apartA, Bool.not_true, Bool.false_and, Bool.false_eq_true, if_false]
  split
  · rfl
  · rw [h]
end Go.Proofs.YtmlkhhidifjjfaaDoor
namespace Go.Proofs.YtmlkhhidifjjfaaDoor
set_option linter.unusedSimpArgs false
set_option linter.unusedVariables false
section
variable (ρ : Rho) (σ : AHeap)
theorem s_isPan_top  : isPan (.top) = false := rfl
theorem s_isPan_any  : isPan (.any) = false := rfl
theorem s_isPan_int (k : IntKind) (n : Int) : isPan (.int k n) = false := rfl
theorem s_isPan_bool (b : Bool) : isPan (.bool b) = false := rfl
theorem s_isPan_str (l : List UInt8) : isPan (.str l) = false := rfl
theorem s_isPan_nilp  : isPan (.nilp) = false := rfl
theorem s_isPan_ref (t : Nat) (o : Nat) : isPan (.ref t o) = false := rfl
theorem s_isPan_eref (t : Nat) (g : Nat) (i : Nat) (o : Nat) : isPan (.eref t g i o) = false := rfl
theorem s_isPan_iptr (cs : List AVal) (o : Nat) : isPan (.iptr cs o) = false := rfl
theorem s_isPan_lst (x : Bool) (xs : List AVal) : isPan (.lst x xs) = false := rfl
theorem s_isPan_sl (t : Nat) (g : Nat) (lo : Nat) (n : Nat) : isPan (.sl t g lo n) = false := rfl
theorem s_isPan_agg (cs : List AVal) : isPan (.agg cs) = false := rfl
theorem s_isPan_tup (vs : List AVal) : isPan (.tup vs) = false := rfl
theorem s_isPan_fn (f : Nat) (caps : List AVal) : isPan (.fn f caps) = false := rfl
theorem s_isPan_nilm  : isPan (.nilm) = false := rfl
theorem s_isPan_map (t : Nat) : isPan (.map t) = false := rfl
theorem s_isPan_nili  : isPan (.nili) = false := rfl
theorem s_isPan_iface (t : Nat) (x : AVal) : isPan (.iface t x) = false := rfl
theorem s_isPan_pan (x : AVal) : isPan (.pan x) = true := rfl
theorem s_okCell_top  : okCell (.top) = false := rfl
theorem s_okCell_any  : okCell (.any) = true := rfl
theorem s_okCell_int (k : IntKind) (n : Int) : okCell (.int k n) = true := rfl
theorem s_okCell_bool (b : Bool) : okCell (.bool b) = true := rfl
theorem s_okCell_str (l : List UInt8) : okCell (.str l) = true := rfl
theorem s_okCell_nilp  : okCell (.nilp) = true := rfl
theorem s_okCell_ref (t : Nat) (o : Nat) : okCell (.ref t o) = true := rfl
theorem s_okCell_eref (t : Nat) (g : Nat) (i : Nat) (o : Nat) : okCell (.eref t g i o) = true := rfl
theorem s_okCell_iptr (cs : List AVal) (o : Nat) : okCell (.iptr cs o) = true := rfl
theorem s_okCell_lst (x : Bool) (xs : List AVal) : okCell (.lst x xs) = true := rfl
theorem s_okCell_sl (t : Nat) (g : Nat) (lo : Nat) (n : Nat) : okCell (.sl t g lo n) = true := rfl
theorem s_okCell_agg (cs : List AVal) : okCell (.agg cs) = false := rfl
theorem s_okCell_tup (vs : List AVal) : okCell (.tup vs) = false := rfl
theorem s_okCell_fn (f : Nat) (caps : List AVal) : okCell (.fn f caps) = true := rfl
theorem s_okCell_nilm  : okCell (.nilm) = true := rfl
theorem s_okCell_map (t : Nat) : okCell (.map t) = true := rfl
theorem s_okCell_nili  : okCell (.nili) = true := rfl
theorem s_okCell_iface (t : Nat) (x : AVal) : okCell (.iface t x) = true := rfl
theorem s_okCell_pan (x : AVal) : okCell (.pan x) = false := rfl
theorem s_ntop_top  : ntop (.top) = false := rfl
theorem s_ntop_any  : ntop (.any) = true := rfl
theorem s_ntop_int (k : IntKind) (n : Int) : ntop (.int k n) = true := rfl
theorem s_ntop_bool (b : Bool) : ntop (.bool b) = true := rfl
theorem s_ntop_str (l : List UInt8) : ntop (.str l) = true := rfl
theorem s_ntop_nilp  : ntop (.nilp) = true := rfl
theorem s_ntop_ref (t : Nat) (o : Nat) : ntop (.ref t o) = true := rfl
theorem s_ntop_eref (t : Nat) (g : Nat) (i : Nat) (o : Nat) : ntop (.eref t g i o) = true := rfl
theorem s_ntop_iptr (cs : List AVal) (o : Nat) : ntop (.iptr cs o) = true := rfl
theorem s_ntop_lst (x : Bool) (xs : List AVal) : ntop (.lst x xs) = true := rfl
theorem s_ntop_sl (t : Nat) (g : Nat) (lo : Nat) (n : Nat) : ntop (.sl t g lo n) = true := rfl
theorem s_ntop_agg (cs : List AVal) : ntop (.agg cs) = true := rfl
theorem s_ntop_tup (vs : List AVal) : ntop (.tup vs) = true := rfl
theorem s_ntop_fn (f : Nat) (caps : List AVal) : ntop (.fn f caps) = true := rfl
theorem s_ntop_nilm  : ntop (.nilm) = true := rfl
theorem s_ntop_map (t : Nat) : ntop (.map t) = true := rfl
theorem s_ntop_nili  : ntop (.nili) = true := rfl
theorem s_ntop_iface (t : Nat) (x : AVal) : ntop (.iface t x) = true := rfl
theorem s_ntop_pan (x : AVal) : ntop (.pan x) = true := rfl
theorem s_flat1_top  : flat1 (.top) = false := rfl
theorem s_flat1_any  : flat1 (.any) = false := rfl
theorem s_flat1_int (k : IntKind) (n : Int) : flat1 (.int k n) = true := rfl
theorem s_flat1_bool (b : Bool) : flat1 (.bool b) = true := rfl
theorem s_flat1_str (l : List UInt8) : flat1 (.str l) = true := rfl
theorem s_flat1_nilp  : flat1 (.nilp) = true := rfl
theorem s_flat1_ref (t : Nat) (o : Nat) : flat1 (.ref t o) = false := rfl
theorem s_flat1_eref (t : Nat) (g : Nat) (i : Nat) (o : Nat) : flat1 (.eref t g i o) = false := rfl
theorem s_flat1_iptr (cs : List AVal) (o : Nat) : flat1 (.iptr cs o) = false := rfl
theorem s_flat1_lst (x : Bool) (xs : List AVal) : flat1 (.lst x xs) = false := rfl
theorem s_flat1_sl (t : Nat) (g : Nat) (lo : Nat) (n : Nat) : flat1 (.sl t g lo n) = false := rfl
theorem s_flat1_agg (cs : List AVal) : flat1 (.agg cs) = false := rfl
theorem s_flat1_tup (vs : List AVal) : flat1 (.tup vs) = false := rfl
theorem s_flat1_fn (f : Nat) (caps : List AVal) : flat1 (.fn f caps) = false := rfl
theorem s_flat1_nilm  : flat1 (.nilm) = true := rfl
theorem s_flat1_map (t : Nat) : flat1 (.map t) = false := rfl
theorem s_flat1_nili  : flat1 (.nili) = true := rfl
theorem s_flat1_iface (t : Nat) (x : AVal) : flat1 (.iface t x) = false := rfl
theorem s_flat1_pan (x : AVal) : flat1 (.pan x) = false := rfl
theorem s_flat2_top  : flat2 (.top) = false := rfl
theorem s_flat2_any  : flat2 (.any) = false := rfl
theorem s_flat2_int (k : IntKind) (n : Int) : flat2 (.int k n) = true := rfl
theorem s_flat2_bool (b : Bool) : flat2 (.bool b) = true := rfl
theorem s_flat2_str (l : List UInt8) : flat2 (.str l) = true := rfl
theorem s_flat2_nilp  : flat2 (.nilp) = true := rfl
theorem s_flat2_ref (t : Nat) (o : Nat) : flat2 (.ref t o) = false := rfl
theorem s_flat2_eref (t : Nat) (g : Nat) (i : Nat) (o : Nat) : flat2 (.eref t g i o) = false := rfl
theorem s_flat2_iptr (cs : List AVal) (o : Nat) : flat2 (.iptr cs o) = false := rfl
theorem s_flat2_lst (x : Bool) (xs : List AVal) : flat2 (.lst x xs) = false := rfl
theorem s_flat2_sl (t : Nat) (g : Nat) (lo : Nat) (n : Nat) : flat2 (.sl t g lo n) = false := rfl
theorem s_flat2_agg (cs : List AVal) : flat2 (.agg cs) = cs.all flat1 := rfl
theorem s_flat2_tup (vs : List AVal) : flat2 (.tup vs) = false := rfl
theorem s_flat2_fn (f : Nat) (caps : List AVal) : flat2 (.fn f caps) = false := rfl
theorem s_flat2_nilm  : flat2 (.nilm) = true := rfl
theorem s_flat2_map (t : Nat) : flat2 (.map t) = false := rfl
theorem s_flat2_nili  : flat2 (.nili) = true := rfl
theorem s_flat2_iface (t : Nat) (x : AVal) : flat2 (.iface t x) = false := rfl
theorem s_flat2_pan (x : AVal) : flat2 (.pan x) = false := rfl
theorem s_flatA_top  : flatA (.top) = false := rfl
theorem s_flatA_any  : flatA (.any) = false := rfl
theorem s_flatA_int (k : IntKind) (n : Int) : flatA (.int k n) = true := rfl
theorem s_flatA_bool (b : Bool) : flatA (.bool b) = true := rfl
theorem s_flatA_str (l : List UInt8) : flatA (.str l) = true := rfl
theorem s_flatA_nilp  : flatA (.nilp) = true := rfl
theorem s_flatA_ref (t : Nat) (o : Nat) : flatA (.ref t o) = false := rfl
theorem s_flatA_eref (t : Nat) (g : Nat) (i : Nat) (o : Nat) : flatA (.eref t g i o) = false := rfl
theorem s_flatA_iptr (cs : List AVal) (o : Nat) : flatA (.iptr cs o) = false := rfl
theorem s_flatA_lst (x : Bool) (xs : List AVal) : flatA (.lst x xs) = false := rfl
theorem s_flatA_sl (t : Nat) (g : Nat) (lo : Nat) (n : Nat) : flatA (.sl t g lo n) = false := rfl
theorem s_flatA_agg (cs : List AVal) : flatA (.agg cs) = cs.all flat1 := rfl
theorem s_flatA_tup (vs : List AVal) : flatA (.tup vs) = vs.all flat2 := rfl
theorem s_flatA_fn (f : Nat) (caps : List AVal) : flatA (.fn f caps) = false := rfl
theorem s_flatA_nilm  : flatA (.nilm) = true := rfl
theorem s_flatA_map (t : Nat) : flatA (.map t) = false := rfl
theorem s_flatA_nili  : flatA (.nili) = true := rfl
theorem s_flatA_iface (t : Nat) (x : AVal) : flatA (.iface t x) = false := rfl
theorem s_plain1_top  : plain1 (.top) = false := rfl
theorem s_plain1_any  : plain1 (.any) = false := rfl
theorem s_plain1_int (k : IntKind) (n : Int) : plain1 (.int k n) = true := rfl
theorem s_plain1_bool (b : Bool) : plain1 (.bool b) = true := rfl
theorem s_plain1_str (l : List UInt8) : plain1 (.str l) = true := rfl
theorem s_plain1_nilp  : plain1 (.nilp) = true := rfl
theorem s_plain1_ref (t : Nat) (o : Nat) : plain1 (.ref t o) = false := rfl
theorem s_plain1_eref (t : Nat) (g : Nat) (i : Nat) (o : Nat) : plain1 (.eref t g i o) = false := rfl
theorem s_plain1_iptr (cs : List AVal) (o : Nat) : plain1 (.iptr cs o) = false := rfl
theorem s_plain1_lst (x : Bool) (xs : List AVal) : plain1 (.lst x xs) = true := rfl
theorem s_plain1_sl (t : Nat) (g : Nat) (lo : Nat) (n : Nat) : plain1 (.sl t g lo n) = false := rfl
theorem s_plain1_agg (cs : List AVal) : plain1 (.agg cs) = false := rfl
theorem s_plain1_tup (vs : List AVal) : plain1 (.tup vs) = false := rfl
theorem s_plain1_nilm  : plain1 (.nilm) = true := rfl
theorem s_plain1_map (t : Nat) : plain1 (.map t) = false := rfl
theorem s_plain1_nili  : plain1 (.nili) = true := rfl
theorem s_plain1_iface (t : Nat) (x : AVal) : plain1 (.iface t x) = false := rfl
theorem s_plain1_pan (x : AVal) : plain1 (.pan x) = false := rfl
theorem s_plainV_top  : plainV (.top) = false := rfl
theorem s_plainV_any  : plainV (.any) = false := rfl
theorem s_plainV_int (k : IntKind) (n : Int) : plainV (.int k n) = true := rfl
theorem s_plainV_bool (b : Bool) : plainV (.bool b) = true := rfl
theorem s_plainV_str (l : List UInt8) : plainV (.str l) = true := rfl
theorem s_plainV_nilp  : plainV (.nilp) = true := rfl
theorem s_plainV_ref (t : Nat) (o : Nat) : plainV (.ref t o) = false := rfl
theorem s_plainV_eref (t : Nat) (g : Nat) (i : Nat) (o : Nat) : plainV (.eref t g i o) = false := rfl
theorem s_plainV_iptr (cs : List AVal) (o : Nat) : plainV (.iptr cs o) = false := rfl
theorem s_plainV_lst (x : Bool) (xs : List AVal) : plainV (.lst x xs) = true := rfl
theorem s_plainV_sl (t : Nat) (g : Nat) (lo : Nat) (n : Nat) : plainV (.sl t g lo n) = false := rfl
theorem s_plainV_agg (cs : List AVal) : plainV (.agg cs) = cs.all plain1 := rfl
theorem s_plainV_tup (vs : List AVal) : plainV (.tup vs) = false := rfl
theorem s_plainV_nilm  : plainV (.nilm) = true := rfl
theorem s_plainV_map (t : Nat) : plainV (.map t) = false := rfl
theorem s_plainV_nili  : plainV (.nili) = true := rfl
theorem s_plainV_iface (t : Nat) (x : AVal) : plainV (.iface t x) = false := rfl
theorem s_plainV_pan (x : AVal) : plainV (.pan x) = false := rfl
theorem s_norm1_top  : norm1 (.top) = (.top) := rfl
theorem s_norm1_any  : norm1 (.any) = (.any) := rfl
theorem s_norm1_int (k : IntKind) (n : Int) : norm1 (.int k n) = (.int k n) := rfl
theorem s_norm1_bool (b : Bool) : norm1 (.bool b) = (.bool b) := rfl
theorem s_norm1_str (l : List UInt8) : norm1 (.str l) = (.str l) := rfl
theorem s_norm1_nilp  : norm1 (.nilp) = (.nilp) := rfl
theorem s_norm1_ref (t : Nat) (o : Nat) : norm1 (.ref t o) = (.ref t o) := rfl
theorem s_norm1_eref (t : Nat) (g : Nat) (i : Nat) (o : Nat) : norm1 (.eref t g i o) = (.eref t g i o) := rfl
theorem s_norm1_iptr (cs : List AVal) (o : Nat) : norm1 (.iptr cs o) = (.iptr cs o) := rfl
theorem s_norm1_lst (x : Bool) (xs : List AVal) : norm1 (.lst x xs) = .lst false xs := rfl
theorem s_norm1_sl (t : Nat) (g : Nat) (lo : Nat) (n : Nat) : norm1 (.sl t g lo n) = (.sl t g lo n) := rfl
theorem s_norm1_agg (cs : List AVal) : norm1 (.agg cs) = (.agg cs) := rfl
theorem s_norm1_tup (vs : List AVal) : norm1 (.tup vs) = (.tup vs) := rfl
theorem s_norm1_fn (f : Nat) (caps : List AVal) : norm1 (.fn f caps) = (.fn f caps) := rfl
theorem s_norm1_nilm  : norm1 (.nilm) = (.nilm) := rfl
theorem s_norm1_map (t : Nat) : norm1 (.map t) = (.map t) := rfl
theorem s_norm1_nili  : norm1 (.nili) = (.nili) := rfl
theorem s_norm1_iface (t : Nat) (x : AVal) : norm1 (.iface t x) = (.iface t x) := rfl
theorem s_norm1_pan (x : AVal) : norm1 (.pan x) = (.pan x) := rfl
theorem s_normV_top  : normV (.top) = (.top) := rfl
theorem s_normV_any  : normV (.any) = (.any) := rfl
theorem s_normV_int (k : IntKind) (n : Int) : normV (.int k n) = (.int k n) := rfl
theorem s_normV_bool (b : Bool) : normV (.bool b) = (.bool b) := rfl
theorem s_normV_str (l : List UInt8) : normV (.str l) = (.str l) := rfl
theorem s_normV_nilp  : normV (.nilp) = (.nilp) := rfl
theorem s_normV_ref (t : Nat) (o : Nat) : normV (.ref t o) = (.ref t o) := rfl
theorem s_normV_eref (t : Nat) (g : Nat) (i : Nat) (o : Nat) : normV (.eref t g i o) = (.eref t g i o) := rfl
theorem s_normV_iptr (cs : List AVal) (o : Nat) : normV (.iptr cs o) = (.iptr cs o) := rfl
theorem s_normV_lst (x : Bool) (xs : List AVal) : normV (.lst x xs) = .lst false xs := rfl
theorem s_normV_sl (t : Nat) (g : Nat) (lo : Nat) (n : Nat) : normV (.sl t g lo n) = (.sl t g lo n) := rfl
theorem s_normV_agg (cs : List AVal) : normV (.agg cs) = .agg (cs.map norm1) := rfl
theorem s_normV_tup (vs : List AVal) : normV (.tup vs) = (.tup vs) := rfl
theorem s_normV_fn (f : Nat) (caps : List AVal) : normV (.fn f caps) = (.fn f caps) := rfl
theorem s_normV_nilm  : normV (.nilm) = (.nilm) := rfl
theorem s_normV_map (t : Nat) : normV (.map t) = (.map t) := rfl
theorem s_normV_nili  : normV (.nili) = (.nili) := rfl
theorem s_normV_iface (t : Nat) (x : AVal) : normV (.iface t x) = (.iface t x) := rfl
theorem s_normV_pan (x : AVal) : normV (.pan x) = (.pan x) := rfl
theorem s_cells_top  : AVal.cells (.top) = [(.top)] := rfl
theorem s_cells_any  : AVal.cells (.any) = [(.any)] := rfl
theorem s_cells_int (k : IntKind) (n : Int) : AVal.cells (.int k n) = [(.int k n)] := rfl
theorem s_cells_bool (b : Bool) : AVal.cells (.bool b) = [(.bool b)] := rfl
theorem s_cells_str (l : List UInt8) : AVal.cells (.str l) = [(.str l)] := rfl
theorem s_cells_nilp  : AVal.cells (.nilp) = [(.nilp)] := rfl
theorem s_cells_ref (t : Nat) (o : Nat) : AVal.cells (.ref t o) = [(.ref t o)] := rfl
theorem s_cells_eref (t : Nat) (g : Nat) (i : Nat) (o : Nat) : AVal.cells (.eref t g i o) = [(.eref t g i o)] := rfl
theorem s_cells_iptr (cs : List AVal) (o : Nat) : AVal.cells (.iptr cs o) = [(.iptr cs o)] := rfl
theorem s_cells_lst (x : Bool) (xs : List AVal) : AVal.cells (.lst x xs) = [(.lst x xs)] := rfl
theorem s_cells_sl (t : Nat) (g : Nat) (lo : Nat) (n : Nat) : AVal.cells (.sl t g lo n) = [(.sl t g lo n)] := rfl
theorem s_cells_agg (cs : List AVal) : AVal.cells (.agg cs) = cs := rfl
theorem s_cells_tup (vs : List AVal) : AVal.cells (.tup vs) = [(.tup vs)] := rfl
theorem s_cells_fn (f : Nat) (caps : List AVal) : AVal.cells (.fn f caps) = [(.fn f caps)] := rfl
theorem s_cells_nilm  : AVal.cells (.nilm) = [(.nilm)] := rfl
theorem s_cells_map (t : Nat) : AVal.cells (.map t) = [(.map t)] := rfl
theorem s_cells_nili  : AVal.cells (.nili) = [(.nili)] := rfl
theorem s_cells_iface (t : Nat) (x : AVal) : AVal.cells (.iface t x) = [(.iface t x)] := rfl
theorem s_cells_pan (x : AVal) : AVal.cells (.pan x) = [(.pan x)] := rfl
theorem s_valOf_top  : valOf (.top) = (.top) := rfl
theorem s_valOf_any  : valOf (.any) = (.any) := rfl
theorem s_valOf_int (k : IntKind) (n : Int) : valOf (.int k n) = (.int k n) := rfl
theorem s_valOf_bool (b : Bool) : valOf (.bool b) = (.bool b) := rfl
theorem s_valOf_str (l : List UInt8) : valOf (.str l) = (.str l) := rfl
theorem s_valOf_nilp  : valOf (.nilp) = (.nilp) := rfl
theorem s_valOf_ref (t : Nat) (o : Nat) : valOf (.ref t o) = (.ref t o) := rfl
theorem s_valOf_eref (t : Nat) (g : Nat) (i : Nat) (o : Nat) : valOf (.eref t g i o) = (.eref t g i o) := rfl
theorem s_valOf_iptr (cs : List AVal) (o : Nat) : valOf (.iptr cs o) = (.iptr cs o) := rfl
theorem s_valOf_lst (x : Bool) (xs : List AVal) : valOf (.lst x xs) = (.lst x xs) := rfl
theorem s_valOf_sl (t : Nat) (g : Nat) (lo : Nat) (n : Nat) : valOf (.sl t g lo n) = (.sl t g lo n) := rfl
theorem s_valOf_agg (cs : List AVal) : valOf (.agg cs) = (.agg cs) := rfl
theorem s_valOf_tup (vs : List AVal) : valOf (.tup vs) = (.tup vs) := rfl
theorem s_valOf_fn (f : Nat) (caps : List AVal) : valOf (.fn f caps) = (.fn f caps) := rfl
theorem s_valOf_nilm  : valOf (.nilm) = (.nilm) := rfl
theorem s_valOf_map (t : Nat) : valOf (.map t) = (.map t) := rfl
theorem s_valOf_nili  : valOf (.nili) = (.nili) := rfl
theorem s_valOf_iface (t : Nat) (x : AVal) : valOf (.iface t x) = (.iface t x) := rfl
theorem s_valOf_pan (x : AVal) : valOf (.pan x) = x := rfl
theorem s_kindA_top  : kindA (.top) = 4 := rfl
theorem s_kindA_any  : kindA (.any) = 4 := rfl
theorem s_kindA_int (k : IntKind) (n : Int) : kindA (.int k n) = 0 := rfl
theorem s_kindA_bool (b : Bool) : kindA (.bool b) = 1 := rfl
theorem s_kindA_str (l : List UInt8) : kindA (.str l) = 2 := rfl
theorem s_kindA_nilp  : kindA (.nilp) = 4 := rfl
theorem s_kindA_ref (t : Nat) (o : Nat) : kindA (.ref t o) = 4 := rfl
theorem s_kindA_eref (t : Nat) (g : Nat) (i : Nat) (o : Nat) : kindA (.eref t g i o) = 4 := rfl
theorem s_kindA_iptr (cs : List AVal) (o : Nat) : kindA (.iptr cs o) = 4 := rfl
theorem s_kindA_lst (x : Bool) (xs : List AVal) : kindA (.lst x xs) = 4 := rfl
theorem s_kindA_sl (t : Nat) (g : Nat) (lo : Nat) (n : Nat) : kindA (.sl t g lo n) = 4 := rfl
theorem s_kindA_agg (cs : List AVal) : kindA (.agg cs) = 4 := rfl
theorem s_kindA_tup (vs : List AVal) : kindA (.tup vs) = 4 := rfl
theorem s_kindA_fn (f : Nat) (caps : List AVal) : kindA (.fn f caps) = 4 := rfl
theorem s_kindA_nilm  : kindA (.nilm) = 4 := rfl
theorem s_kindA_map (t : Nat) : kindA (.map t) = 4 := rfl
theorem s_kindA_nili  : kindA (.nili) = 4 := rfl
theorem s_kindA_iface (t : Nat) (x : AVal) : kindA (.iface t x) = 4 := rfl
theorem s_kindA_pan (x : AVal) : kindA (.pan x) = 4 := rfl
theorem s_refsV_top  : refsV (.top) = [] := rfl
theorem s_refsV_any  : refsV (.any) = [] := rfl
theorem s_refsV_int (k : IntKind) (n : Int) : refsV (.int k n) = [] := rfl
theorem s_refsV_bool (b : Bool) : refsV (.bool b) = [] := rfl
theorem s_refsV_str (l : List UInt8) : refsV (.str l) = [] := rfl
theorem s_refsV_nilp  : refsV (.nilp) = [] := rfl
theorem s_refsV_ref (t : Nat) (o : Nat) : refsV (.ref t o) = [t] := rfl
theorem s_refsV_eref (t : Nat) (g : Nat) (i : Nat) (o : Nat) : refsV (.eref t g i o) = [t] := rfl
theorem s_refsV_iptr (cs : List AVal) (o : Nat) : refsV (.iptr cs o) = [] := rfl
theorem s_refsV_lst (x : Bool) (xs : List AVal) : refsV (.lst x xs) = [] := rfl
theorem s_refsV_sl (t : Nat) (g : Nat) (lo : Nat) (n : Nat) : refsV (.sl t g lo n) = [t] := rfl
theorem s_refsV_agg (cs : List AVal) : refsV (.agg cs) = refsL cs := rfl
theorem s_refsV_tup (vs : List AVal) : refsV (.tup vs) = refsL vs := rfl
theorem s_refsV_fn (f : Nat) (caps : List AVal) : refsV (.fn f caps) = refsL caps := rfl
theorem s_refsV_nilm  : refsV (.nilm) = [] := rfl
theorem s_refsV_map (t : Nat) : refsV (.map t) = [t] := rfl
theorem s_refsV_nili  : refsV (.nili) = [] := rfl
theorem s_refsV_iface (t : Nat) (x : AVal) : refsV (.iface t x) = refsV x := rfl
theorem s_refsV_pan (x : AVal) : refsV (.pan x) = refsV x := rfl
theorem s_renV_top  : renV ρ (.top) = (.top) := rfl
theorem s_renV_any  : renV ρ (.any) = (.any) := rfl
theorem s_renV_int (k : IntKind) (n : Int) : renV ρ (.int k n) = (.int k n) := rfl
theorem s_renV_bool (b : Bool) : renV ρ (.bool b) = (.bool b) := rfl
theorem s_renV_str (l : List UInt8) : renV ρ (.str l) = (.str l) := rfl
theorem s_renV_nilp  : renV ρ (.nilp) = (.nilp) := rfl
theorem s_renV_iptr (cs : List AVal) (o : Nat) : renV ρ (.iptr cs o) = (.iptr cs o) := rfl
theorem s_renV_lst (x : Bool) (xs : List AVal) : renV ρ (.lst x xs) = (.lst x xs) := rfl
theorem s_renV_agg (cs : List AVal) : renV ρ (.agg cs) = .agg (renL ρ cs) := rfl
theorem s_renV_tup (vs : List AVal) : renV ρ (.tup vs) = .tup (renL ρ vs) := rfl
theorem s_renV_fn (f : Nat) (caps : List AVal) : renV ρ (.fn f caps) = .fn f (renL ρ caps) := rfl
theorem s_renV_nilm  : renV ρ (.nilm) = (.nilm) := rfl
theorem s_renV_nili  : renV ρ (.nili) = (.nili) := rfl
theorem s_renV_iface (t : Nat) (x : AVal) : renV ρ (.iface t x) = .iface t (renV ρ x) := rfl
theorem s_renV_pan (x : AVal) : renV ρ (.pan x) = .pan (renV ρ x) := rfl
theorem s_plain1_fn (f : Nat) : plain1 (.fn f []) = true := rfl
theorem s_plainV_fn (f : Nat) : plainV (.fn f []) = true := rfl
theorem s_flatA_pan (t : Nat) (x : AVal) : flatA (.pan (.iface t x)) = flat1 x := rfl
theorem s_regN_some (live : List Nat) (tm : Tms) : regN live (some (tm, σ, none)) = some (.normal, keepL live tm, σ) := rfl
theorem s_regN_pan (live : List Nat) (tm : Tms) (x : AVal) : regN live (some (tm, σ, some x)) = some (.panic x, [], σ) := rfl
theorem s_regN_none (live : List Nat) : regN live none = none := rfl
theorem s_renV_ref (t o : Nat) : renV ρ (.ref t o) = (match ρ t 0 with | some (t', 0) => .ref t' o | _ => .any) := rfl
theorem s_renV_map (t : Nat) : renV ρ (.map t) = (match ρ t 0 with | some (t', 0) => .map t' | _ => .any) := rfl
theorem s_renV_sl (t g lo n : Nat) : renV ρ (.sl t g lo n) = (match ρ t g with | some (t', g') => .sl t' g' lo n | none => .any) := rfl
theorem s_renV_eref (t g i o : Nat) : renV ρ (.eref t g i o) = (match ρ t g with | some (t', g') => .eref t' g' i o | none => .any) := rfl
theorem s_refsL_nil : refsL [] = [] := rfl
theorem s_refsL_cons (x : AVal) (xs : List AVal) : refsL (x :: xs) = refsV x ++ refsL xs := rfl
theorem s_renL_nil : renL ρ [] = [] := rfl
theorem s_renL_cons (x : AVal) (xs : List AVal) : renL ρ (x :: xs) = renV ρ x :: renL ρ xs := rfl
end
end Go.Proofs.YtmlkhhidifjjfaaDoor
namespace Go.Proofs.YtmlkhhidifjjfaaDoor
set_option linter.unusedSimpArgs false
set_option linter.unusedVariables false
mutual
/-- no block is named -/
def noRef : AVal → Bool
  | .ref _ _ => false
  | .eref _ _ _ _ => false
  | .sl _ _ _ _ => false
  | .map _ => false
  | .agg cs => noRefL cs
  | .tup vs => noRefL vs
  | .fn _ vs => noRefL vs
  | .iface _ x => noRef x
  | .pan x => noRef x
  | .top => true
  | .any => true
  | .int _ _ => true
  | .bool _ => true
  | .str _ => true
  | .nilp => true
  | .nilm => true
  | .nili => true
  | .iptr _ _ => true
  | .lst _ _ => true
def noRefL : List AVal → Bool
  | [] => true
  | x :: xs => noRef x && noRefL xs
end
mutual
theorem noRef_spec (ρ : Rho) : ∀ (x : AVal), noRef x = true → renV ρ x = x ∧ refsV x = []
  | .ref _ _, h => by simp [noRef] at h
  | .eref _ _ _ _, h => by simp [noRef] at h
  | .sl _ _ _ _, h => by simp [noRef] at h
  | .map _, h => by simp [noRef] at h
  | .agg cs, h => by have := noRefL_spec ρ cs (by simpa only [noRef] using h); exact ⟨by simp only [renV, this.1], by simp only [refsV, this.2]⟩
  | .tup cs, h => by have := noRefL_spec ρ cs (by simpa only [noRef] using h); exact ⟨by simp only [renV, this.1], by simp only [refsV, this.2]⟩
  | .fn f cs, h => by have := noRefL_spec ρ cs (by simpa only [noRef] using h); exact ⟨by simp only [renV, this.1], by simp only [refsV, this.2]⟩
  | .iface t x, h => by have := noRef_spec ρ x (by simpa only [noRef] using h); exact ⟨by simp only [renV, this.1], by simp only [refsV, this.2]⟩
  | .pan x, h => by have := noRef_spec ρ x (by simpa only [noRef] using h); exact ⟨by simp only [renV, this.1], by simp only [refsV, this.2]⟩
  | .top, _ => ⟨rfl, rfl⟩
  | .any, _ => ⟨rfl, rfl⟩
  | .int _ _, _ => ⟨rfl, rfl⟩
  | .bool _, _ => ⟨rfl, rfl⟩
  | .str _, _ => ⟨rfl, rfl⟩
  | .nilp, _ => ⟨rfl, rfl⟩
  | .nilm, _ => ⟨rfl, rfl⟩
  | .nili, _ => ⟨rfl, rfl⟩
  | .iptr _ _, _ => ⟨rfl, rfl⟩
  | .lst _ _, _ => ⟨rfl, rfl⟩
theorem noRefL_spec (ρ : Rho) : ∀ (xs : List AVal), noRefL xs = true → renL ρ xs = xs ∧ refsL xs = []
  | [], _ => ⟨rfl, rfl⟩
  | x :: xs, h => by
    simp only [noRefL, Bool.and_eq_true] at h
    have h1 := noRef_spec ρ x h.1
    have h2 := noRefL_spec ρ xs h.2
    exact ⟨by simp only [renL, h1.1, h2.1], by simp only [refsL, h1.2, h2.2, List.append_nil]⟩
end
theorem out_tree {σ : AHeap} {r : AVal} (h : noRef r = true) : outA 0 σ r = some (r, []) := by
  have h1 := noRef_spec (rhoOf σ 0 []) r h
  have hids : gcIds 0 [r] σ = [] := by
    unfold gcIds
    simp only [refsL, h1.2, List.append_nil, List.range_zero, List.flatMap_nil]
    rfl
  unfold outA gcA
  simp only [hids, renL, heapOf, h1.1]
/-- a result as trees -/
def normR : AVal → AVal
  | .tup vs => .tup (vs.map normV)
  | x => normV x
def plainR : AVal → Bool
  | .tup vs => vs.all plainV
  | x => plainV x
def nofn1 : AVal → Bool
  | .fn _ _ => false
  | _ => true
def nofnV : AVal → Bool
  | .agg cs => cs.all nofn1
  | x => nofn1 x
def nofnR : AVal → Bool
  | .tup vs => vs.all nofnV
  | x => nofnV x
/-- a result that is an own row -/
theorem resV_row {k g n : Nat} {xs : List AVal} {σ : AHeap} {t : Nat} (hs : σ[t]? = some (.row g k xs)) (hn : n ≤ xs.length) : resV 0 (some (.sl t g 0 n, σ)) = some (.lst false (xs.take n), []) := by
  have hv : viewR σ (.sl t g 0 n) = some (.lst false (xs.take n), [t]) := by
    simp only [viewR, viewA, viewA1, elemsA, hs, Nat.zero_add, hn, and_self, if_true, List.drop_zero]
  have e : resV 0 (some (.sl t g 0 n, σ)) = (match viewR σ (.sl t g 0 n) with
    | some (r', ts) => match gcA 0 [r'] (freezeA σ ts) with
      | ([r''], σ') => some (r'', σ')
      | _ => none
    | none => none) := rfl
  rw [e, hv]
  exact out_tree rfl
theorem fin_ret {m : Nat} {fn : AFunc} {tm : Tms} {σ : AHeap} : finA m fn (some (.ret, tm, σ)) = match resA tm σ fn.res with
    | some r => outA m σ r
    | none => none := rfl
theorem fin_normal {m : Nat} {fn : AFunc} {tm : Tms} {σ : AHeap} : finA m fn (some (.normal, tm, σ)) = match resA tm σ fn.res with
    | some r => outA m σ r
    | none => none := rfl
theorem fin_panic {m : Nat} {fn : AFunc} {tm : Tms} {σ : AHeap} {x : AVal} : finA m fn (some (.panic x, tm, σ)) = outA m σ (.pan x) := rfl
theorem s_noRef_top  : noRef (.top) = true := rfl
theorem s_noRef_any  : noRef (.any) = true := rfl
theorem s_noRef_int (k : IntKind) (n : Int) : noRef (.int k n) = true := rfl
theorem s_noRef_bool (b : Bool) : noRef (.bool b) = true := rfl
theorem s_noRef_str (l : List UInt8) : noRef (.str l) = true := rfl
theorem s_noRef_nilp  : noRef (.nilp) = true := rfl
theorem s_noRef_ref (t : Nat) (o : Nat) : noRef (.ref t o) = false := rfl
theorem s_noRef_eref (t : Nat) (g : Nat) (i : Nat) (o : Nat) : noRef (.eref t g i o) = false := rfl
theorem s_noRef_iptr (cs : List AVal) (o : Nat) : noRef (.iptr cs o) = true := rfl
theorem s_noRef_lst (x : Bool) (xs : List AVal) : noRef (.lst x xs) = true := rfl
theorem s_noRef_sl (t : Nat) (g : Nat) (lo : Nat) (n : Nat) : noRef (.sl t g lo n) = false := rfl
theorem s_noRef_agg (cs : List AVal) : noRef (.agg cs) = noRefL cs := rfl
theorem s_noRef_tup (vs : List AVal) : noRef (.tup vs) = noRefL vs := rfl
theorem s_noRef_fn (f : Nat) (caps : List AVal) : noRef (.fn f caps) = noRefL caps := rfl
theorem s_noRef_nilm  : noRef (.nilm) = true := rfl
theorem s_noRef_map (t : Nat) : noRef (.map t) = false := rfl
theorem s_noRef_nili  : noRef (.nili) = true := rfl
theorem s_noRef_iface (t : Nat) (x : AVal) : noRef (.iface t x) = noRef x := rfl
theorem s_noRef_pan (x : AVal) : noRef (.pan x) = noRef x := rfl
theorem s_nofn1_top  : nofn1 (.top) = true := rfl
theorem s_nofn1_any  : nofn1 (.any) = true := rfl
theorem s_nofn1_int (k : IntKind) (n : Int) : nofn1 (.int k n) = true := rfl
theorem s_nofn1_bool (b : Bool) : nofn1 (.bool b) = true := rfl
theorem s_nofn1_str (l : List UInt8) : nofn1 (.str l) = true := rfl
theorem s_nofn1_nilp  : nofn1 (.nilp) = true := rfl
theorem s_nofn1_ref (t : Nat) (o : Nat) : nofn1 (.ref t o) = true := rfl
theorem s_nofn1_eref (t : Nat) (g : Nat) (i : Nat) (o : Nat) : nofn1 (.eref t g i o) = true := rfl
theorem s_nofn1_iptr (cs : List AVal) (o : Nat) : nofn1 (.iptr cs o) = true := rfl
theorem s_nofn1_lst (x : Bool) (xs : List AVal) : nofn1 (.lst x xs) = true := rfl
theorem s_nofn1_sl (t : Nat) (g : Nat) (lo : Nat) (n : Nat) : nofn1 (.sl t g lo n) = true := rfl
theorem s_nofn1_agg (cs : List AVal) : nofn1 (.agg cs) = true := rfl
theorem s_nofn1_tup (vs : List AVal) : nofn1 (.tup vs) = true := rfl
theorem s_nofn1_fn (f : Nat) (caps : List AVal) : nofn1 (.fn f caps) = false := rfl
theorem s_nofn1_nilm  : nofn1 (.nilm) = true := rfl
theorem s_nofn1_map (t : Nat) : nofn1 (.map t) = true := rfl
theorem s_nofn1_nili  : nofn1 (.nili) = true := rfl
theorem s_nofn1_iface (t : Nat) (x : AVal) : nofn1 (.iface t x) = true := rfl
theorem s_nofn1_pan (x : AVal) : nofn1 (.pan x) = true := rfl
theorem s_nofnV_top  : nofnV (.top) = true := rfl
theorem s_nofnV_any  : nofnV (.any) = true := rfl
theorem s_nofnV_int (k : IntKind) (n : Int) : nofnV (.int k n) = true := rfl
theorem s_nofnV_bool (b : Bool) : nofnV (.bool b) = true := rfl
theorem s_nofnV_str (l : List UInt8) : nofnV (.str l) = true := rfl
theorem s_nofnV_nilp  : nofnV (.nilp) = true := rfl
theorem s_nofnV_ref (t : Nat) (o : Nat) : nofnV (.ref t o) = true := rfl
theorem s_nofnV_eref (t : Nat) (g : Nat) (i : Nat) (o : Nat) : nofnV (.eref t g i o) = true := rfl
theorem s_nofnV_iptr (cs : List AVal) (o : Nat) : nofnV (.iptr cs o) = true := rfl
theorem s_nofnV_lst (x : Bool) (xs : List AVal) : nofnV (.lst x xs) = true := rfl
theorem s_nofnV_sl (t : Nat) (g : Nat) (lo : Nat) (n : Nat) : nofnV (.sl t g lo n) = true := rfl
theorem s_nofnV_agg (cs : List AVal) : nofnV (.agg cs) = cs.all nofn1 := rfl
theorem s_nofnV_tup (vs : List AVal) : nofnV (.tup vs) = true := rfl
theorem s_nofnV_fn (f : Nat) (caps : List AVal) : nofnV (.fn f caps) = false := rfl
theorem s_nofnV_nilm  : nofnV (.nilm) = true := rfl
theorem s_nofnV_map (t : Nat) : nofnV (.map t) = true := rfl
theorem s_nofnV_nili  : nofnV (.nili) = true := rfl
theorem s_nofnV_iface (t : Nat) (x : AVal) : nofnV (.iface t x) = true := rfl
theorem s_nofnV_pan (x : AVal) : nofnV (.pan x) = true := rfl
theorem s_nofnR_top  : nofnR (.top) = true := rfl
theorem s_nofnR_any  : nofnR (.any) = true := rfl
theorem s_nofnR_int (k : IntKind) (n : Int) : nofnR (.int k n) = true := rfl
theorem s_nofnR_bool (b : Bool) : nofnR (.bool b) = true := rfl
theorem s_nofnR_str (l : List UInt8) : nofnR (.str l) = true := rfl
theorem s_nofnR_nilp  : nofnR (.nilp) = true := rfl
theorem s_nofnR_ref (t : Nat) (o : Nat) : nofnR (.ref t o) = true := rfl
theorem s_nofnR_eref (t : Nat) (g : Nat) (i : Nat) (o : Nat) : nofnR (.eref t g i o) = true := rfl
theorem s_nofnR_iptr (cs : List AVal) (o : Nat) : nofnR (.iptr cs o) = true := rfl
theorem s_nofnR_lst (x : Bool) (xs : List AVal) : nofnR (.lst x xs) = true := rfl
theorem s_nofnR_sl (t : Nat) (g : Nat) (lo : Nat) (n : Nat) : nofnR (.sl t g lo n) = true := rfl
theorem s_nofnR_agg (cs : List AVal) : nofnR (.agg cs) = cs.all nofn1 := rfl
theorem s_nofnR_tup (vs : List AVal) : nofnR (.tup vs) = vs.all nofnV := rfl
theorem s_nofnR_fn (f : Nat) (caps : List AVal) : nofnR (.fn f caps) = false := rfl
theorem s_nofnR_nilm  : nofnR (.nilm) = true := rfl
theorem s_nofnR_map (t : Nat) : nofnR (.map t) = true := rfl
theorem s_nofnR_nili  : nofnR (.nili) = true := rfl
theorem s_nofnR_iface (t : Nat) (x : AVal) : nofnR (.iface t x) = true := rfl
theorem s_nofnR_pan (x : AVal) : nofnR (.pan x) = true := rfl
theorem s_plainR_top  : plainR (.top) = false := rfl
theorem s_plainR_any  : plainR (.any) = false := rfl
theorem s_plainR_int (k : IntKind) (n : Int) : plainR (.int k n) = true := rfl
theorem s_plainR_bool (b : Bool) : plainR (.bool b) = true := rfl
theorem s_plainR_str (l : List UInt8) : plainR (.str l) = true := rfl
theorem s_plainR_nilp  : plainR (.nilp) = true := rfl
theorem s_plainR_ref (t : Nat) (o : Nat) : plainR (.ref t o) = false := rfl
theorem s_plainR_eref (t : Nat) (g : Nat) (i : Nat) (o : Nat) : plainR (.eref t g i o) = false := rfl
theorem s_plainR_iptr (cs : List AVal) (o : Nat) : plainR (.iptr cs o) = false := rfl
theorem s_plainR_lst (x : Bool) (xs : List AVal) : plainR (.lst x xs) = true := rfl
theorem s_plainR_sl (t : Nat) (g : Nat) (lo : Nat) (n : Nat) : plainR (.sl t g lo n) = false := rfl
theorem s_plainR_agg (cs : List AVal) : plainR (.agg cs) = cs.all plain1 := rfl
theorem s_plainR_tup (vs : List AVal) : plainR (.tup vs) = vs.all plainV := rfl
theorem s_plainR_nilm  : plainR (.nilm) = true := rfl
theorem s_plainR_map (t : Nat) : plainR (.map t) = false := rfl
theorem s_plainR_nili  : plainR (.nili) = true := rfl
theorem s_plainR_iface (t : Nat) (x : AVal) : plainR (.iface t x) = false := rfl
theorem s_plainR_pan (x : AVal) : plainR (.pan x) = false := rfl
theorem s_normR_top  : normR (.top) = (.top) := rfl
theorem s_normR_any  : normR (.any) = (.any) := rfl
theorem s_normR_int (k : IntKind) (n : Int) : normR (.int k n) = (.int k n) := rfl
theorem s_normR_bool (b : Bool) : normR (.bool b) = (.bool b) := rfl
theorem s_normR_str (l : List UInt8) : normR (.str l) = (.str l) := rfl
theorem s_normR_nilp  : normR (.nilp) = (.nilp) := rfl
theorem s_normR_ref (t : Nat) (o : Nat) : normR (.ref t o) = (.ref t o) := rfl
theorem s_normR_eref (t : Nat) (g : Nat) (i : Nat) (o : Nat) : normR (.eref t g i o) = (.eref t g i o) := rfl
theorem s_normR_iptr (cs : List AVal) (o : Nat) : normR (.iptr cs o) = (.iptr cs o) := rfl
theorem s_normR_lst (x : Bool) (xs : List AVal) : normR (.lst x xs) = .lst false xs := rfl
theorem s_normR_sl (t : Nat) (g : Nat) (lo : Nat) (n : Nat) : normR (.sl t g lo n) = (.sl t g lo n) := rfl
theorem s_normR_agg (cs : List AVal) : normR (.agg cs) = .agg (cs.map norm1) := rfl
theorem s_normR_tup (vs : List AVal) : normR (.tup vs) = .tup (vs.map normV) := rfl
theorem s_normR_fn (f : Nat) (caps : List AVal) : normR (.fn f caps) = (.fn f caps) := rfl
theorem s_normR_nilm  : normR (.nilm) = (.nilm) := rfl
theorem s_normR_map (t : Nat) : normR (.map t) = (.map t) := rfl
theorem s_normR_nili  : normR (.nili) = (.nili) := rfl
theorem s_normR_iface (t : Nat) (x : AVal) : normR (.iface t x) = (.iface t x) := rfl
theorem s_normR_pan (x : AVal) : normR (.pan x) = (.pan x) := rfl
theorem s_noRefL_nil : noRefL [] = true := rfl
theorem s_noRefL_cons (x : AVal) (xs : List AVal) : noRefL (x :: xs) = (noRef x && noRefL xs) := rfl
theorem s_plainR_fn (f : Nat) : plainR (.fn f []) = true := rfl
theorem s_if_and (p q : Bool) : (if p = true then q else false) = (p && q) := by cases p <;> rfl
theorem s_if_or (p q : Bool) : (if p = true then true else q) = (p || q) := by cases p <;> rfl
theorem s_if_nand (p q : Bool) : (if p = true then false else q) = (!p && q) := by cases p <;> rfl
theorem s_if_nor (p q : Bool) : (if p = true then q else true) = (!p || q) := by cases p <;> rfl
theorem s_if_fand (p q : Bool) : (if p = false then q else false) = (!p && q) := by cases p <;> rfl
theorem s_if_for (p q : Bool) : (if p = false then true else q) = (!p || q) := by cases p <;> rfl
theorem s_if_fnand (p q : Bool) : (if p = false then false else q) = (p && q) := by cases p <;> rfl
theorem s_if_fnor (p q : Bool) : (if p = false then q else true) = (p || q) := by cases p <;> rfl
section
def stripO (o : AOp) : AOp := ⟨o.dst, o.ins, o.guard, []⟩
def stripC : ACode → ACode
  | .region ops chk live => .region (ops.map stripO) chk live
  | .seq a b => .seq (stripC a) (stripC b)
  | .cond c a b => .cond c (stripC a) (stripC b)
  | .block id c => .block id (stripC c)
  | .loop live c => .loop live (stripC c)
  | .skip => .skip
  | .exit id => .exit id
  | .ret => .ret
  | .stuck => .stuck
def stripF (f : AFunc) : AFunc := ⟨f.res, stripC f.body⟩
section
variable {O : Oracle} {byref : Nat → Bool}
theorem step_strip (o : AOp) (s : Nat) (tm : Tms) (σ : AHeap) : stepA O byref (stripO o) s tm σ = stepA O byref o s tm σ := rfl
theorem ops_strip : ∀ (ops : List AOp) (s : Nat) (tm : Tms) (σ : AHeap), runOps O byref (ops.map stripO) s tm σ = runOps O byref ops s tm σ
  | [], _, _, _ => rfl
  | o :: os, s, tm, σ => by
    simp only [List.map_cons, runOps, step_strip]
    split
    · rfl
    · rfl
    · rename_i tm' σ' c _ _
      rw [show (stripO o).ins = o.ins from rfl, ops_strip os]
theorem sites_strip (ops : List AOp) : sitesOf (ops.map stripO) = sitesOf ops := by
  simp [sitesOf, stripO, Function.comp_def]
theorem getD_strip (ops : List AOp) (i : Nat) : ((ops.map stripO).getD i default).ins = (ops.getD i default).ins := by
  simp only [List.getD_eq_getElem?_getD, List.getElem?_map]
  cases ops[i]? <;> rfl
theorem chk_strip (ops : List AOp) (b : Nat) (l : List (Nat × Nat)) (cs : List Cls) : chkA (ops.map stripO) b l cs = chkA ops b l cs := by
  unfold chkA
  congr 1
  funext p
  unfold pairFree emptyOp
  rw [getD_strip, getD_strip, ← List.map_take, sites_strip]
theorem region_strip (ops : List AOp) (chk : Option (List (Nat × Nat))) (live : List Nat) (tm : Tms) (σ : AHeap) : runRegion O byref (ops.map stripO) chk live tm σ = runRegion O byref ops chk live tm σ := by
  unfold runRegion
  rw [ops_strip, sites_strip]
  cases runOps O byref ops σ.length tm (σ ++ List.replicate (sitesOf ops) .free) with
  | none => rfl
  | some q =>
    obtain ⟨tm', σ', cs, p⟩ := q
    cases p with
    | some x => rfl
    | none =>
      cases chk with
      | none => rfl
      | some l => simp only [regX, chk_strip]
theorem exec_strip (m n : Nat) : ∀ (c : ACode), execC O byref m n (stripC c) = execC O byref m n c
  | .region ops chk live => by funext tm σ; simp only [stripC, execC, region_strip]
  | .seq a b => by funext tm σ; simp only [stripC, execC, exec_strip m n a, exec_strip m n b]
  | .cond c a b => by funext tm σ; simp only [stripC, execC, exec_strip m n a, exec_strip m n b]
  | .block id c => by funext tm σ; simp only [stripC, execC, exec_strip m n c]
  | .loop live c => by funext tm σ; simp only [stripC, execC, exec_strip m n c]
  | .skip => rfl
  | .exit id => rfl
  | .ret => rfl
  | .stuck => rfl
end
theorem callA_strip (fs : Nat → Option AFunc) (prim : Prims) (byref : Nat → Bool) : ∀ n, callA (fun f => (fs f).map stripF) prim byref n = callA fs prim byref n
  | 0 => rfl
  | n + 1 => by
    funext f args σ
    simp only [callA, callA_strip fs prim byref n]
    cases prim f with
    | some g => rfl
    | none =>
      cases fs f with
      | none => rfl
      | some fn =>
        simp only [Option.map_some, stripF, exec_strip]
        rfl
theorem EV_strip (fs : Nat → Option AFunc) (prim : Prims) (byref : Nat → Bool) : EV (fun f => (fs f).map stripF) prim byref = EV fs prim byref := by
  funext f args σ
  apply opt_ext
  intro r
  rw [EV_some, EV_some]
  simp only [callA_strip]
end
end Go.Proofs.YtmlkhhidifjjfaaDoor
namespace Go.Proofs.YtmlkhhidifjjfaaDoor
set_option linter.unusedSimpArgs false
set_option linter.unusedVariables false
open Go.RowKit

def clonePrim (k bytes : Nat) (args : List AVal) (σ : AHeap) : Option (AVal × AHeap) := match args with
  | [.str _] => none
  | [a] => match elemsA σ a with
    | some (xs, _) => if xs.length * bytes ≤ 140737488355328 ∧ kOk k xs = true then some (.sl σ.length 0 0 xs.length, σ ++ [.row 0 k xs]) else none
    | none => none
  | _ => none
def cloneAnn : Ann := { nt := 8, lr := fun _ => [7, 6, 5, 4, 3, 2, 0] }
/-- the two pieces of the code around the question whether the slice is nil -/
structure CloneB (P : Program) (t : TypeId) (k bytes : Nat) (z : AVal) (f : FuncId) : Prop where
  ex : ∃ (F : Func) (e : TypeId) (i0 i1 i2 i3 : Nat) (r0 r2 r3 : Array Oper) (m b : Oper),
    P.funcs[f]? = some F ∧ F.results = #[.tmp 2] ∧ F.ntmps = 8 ∧ (F.name == "runtime.NumGoroutine") = false ∧ P.underlying t = some (.slice e) ∧
    F.body = some (.seq (.region i0 r0 false) (.seq (.seq (.region i1 #[m, b] false) (.cond (.tmp 4) (.seq (.region i2 r2 false) .ret) .skip)) (.seq (.region i3 r3 false) .ret))) ∧
    m.op = .move (.tmp 0) ∧ m.dst = some 3 ∧ m.guard = none ∧ b.op = .binOp .eql t (.tmp 3) (.const (.slice none 0 0)) t ∧ b.dst = some 4 ∧ b.guard = none ∧
    compOps P cloneAnn r0 r0.toList = some [⟨some 2, .mov (.c (.lst true [])), none, []⟩] ∧
    compOps P cloneAnn r2 r2.toList = some [⟨some 2, .mov (.c (.lst true [])), none, []⟩] ∧
    (∃ a1 a2 a3 a4, compOps P cloneAnn r3 r3.toList = some [⟨some 5, .bslice false k 0 z [], none, a1⟩, ⟨some 6, .mov (.t 0), none, a2⟩, ⟨some 7, .app k bytes z (.t 5) (.t 6), none, a3⟩, ⟨some 2, .mov (.t 7), none, a4⟩]) ∧ z.cells.length = k ∧ 0 < k

section
variable {P : Program} {base : Nat → Prop} {w0 w w' : World} {I0 I : Imm} {β : Bmap} {σ : AHeap}
theorem noO : OrOk P (fun _ _ _ => none) := by intro f args σ r σ' h; cases h
theorem wpList_one {ops : Array Oper} {Q : Exit → Act → World → Prop} {o : Oper} {l : List Oper} {a : Act} {w : World} (hg : o.guard = none) (h : o.wp P a w (wpList P ops Q l) Q) : wpList P ops Q (o :: l) a w := by
  unfold wpList
  have : Region.wanted o (yielded ops a.tmps) = true := by unfold Region.wanted; rw [hg]
  rw [this]
  simp only [if_true]
  exact Or.inl h
theorem clone_ok {t : TypeId} {k bytes : Nat} {z : AVal} {f : FuncId} (hm : P.follows .mixedOrders = true) (C : CloneB P t k bytes z f) {args : List AVal} {σ σ' : AHeap} {r : AVal} (h : clonePrim k bytes args σ = some (r, σ')) :
    (∃ fn, P.funcs[f]? = some fn ∧ fn.body.isSome = true ∧ (fn.name == "runtime.NumGoroutine") = false) ∧
    ∀ base w0 I0 I β w (vs : Array Value), KLt base w0 → Rel base w0 I0 I β σ w → VRs I β args vs.toList →
      Calls P f vs w (fun e w' => ∃ u, Ends r e u ∧ PostF σ.length base w0 I0 I β r σ' u w') := by
  obtain ⟨F, e, i0, i1, i2, i3, r0, r2, r3, m, b, hF, hres, hnt, hname, hu, hbody, hm1, hm2, hm3, hb1, hb2, hb3, hc0, hc2, ⟨a1, a2, a3, a4, hc3⟩, hzk, hk0⟩ := C.ex
  refine ⟨⟨F, hF, by rw [hbody]; rfl, hname⟩, ?_⟩
  intro base w0 I0 I β w vs hb R hargs
  unfold clonePrim at h
  split at h
  case h_1 => cases h
  case h_3 => cases h
  rename_i a hns
  split at h
  case h_2 => cases h
  rename_i xs ts hel0
  split at h
  case isFalse => cases h
  rename_i hc
  obtain ⟨hbytes, hkOk⟩ := hc
  simp only [Option.some.injEq, Prod.mk.injEq] at h
  obtain ⟨rfl, rfl⟩ := h
  have hnt8 : ∀ (n : Nat), n < 8 → n < cloneAnn.nt := fun n h => h
  refine calls_of_wp hF hbody ?_
  have hsz : vs.size = 1 := by have := VRs_length hargs; simpa using this.symm
  have T := enter_TR hargs (F.ntmps - vs.size)
  have hst : StR noDoor 8 base w0 I0 I β (enterA 0 [a] []) σ { tmps := vs ++ Array.replicate (F.ntmps - vs.size) undef, defers := [] } w := ⟨I, β, Imm.le.refl I, Bmap.le.refl β, T, ⟨noDoor_ok.2 rfl, by simp; omega⟩, R⟩
  -- what is behind the end
  have fin : ∀ {tm : Tms} {σ1 : AHeap} {y : AVal} {a' : Act} {w1 : World}, StR noDoor 8 base w0 I0 I β tm σ1 a' w1 → tget tm 2 = y → (∀ I' β' u, I.le I' → β.le β' → Rel base w0 I0 I' β' σ1 w1 → VR I' β' y u → PostF σ.length base w0 I0 I β (.sl σ.length 0 0 xs.length) (σ ++ [.row 0 k xs]) u w1) →
      a'.defers = [] ∧ ∃ v, (results F a'.tmps).run P w1 = .ok v w1 ∧ ∃ u, Ends (.sl σ.length 0 0 xs.length) (.returned v) u ∧ PostF σ.length base w0 I0 I β (.sl σ.length 0 0 xs.length) (σ ++ [.row 0 k xs]) u w1 := by
    rintro tm σ1 y a' w1 ⟨I', β', h1, h2, h3, h4, h5⟩ hy hpost
    refine ⟨noDoor_ok.1 h4.1, a'.tmps.getD 2 undef, by simp [results, hres], _, rfl, ?_⟩
    have := h3 2
    rw [hy] at this
    exact hpost I' β' _ h1 h2 h5 this
  have R0 : compC P cloneAnn (.region i0 r0 false) = .region [⟨some 2, .mov (.c (.lst true [])), none, []⟩] none [7, 6, 5, 4, 3, 2, 0] := by simp only [compC]; rw [hc0]; rfl
  have R2 : compC P cloneAnn (.region i2 r2 false) = .region [⟨some 2, .mov (.c (.lst true [])), none, []⟩] none [7, 6, 5, 4, 3, 2, 0] := by simp only [compC]; rw [hc2]; rfl
  have R3 : compC P cloneAnn (.region i3 r3 false) = .region [⟨some 5, .bslice false k 0 z [], none, a1⟩, ⟨some 6, .mov (.t 0), none, a2⟩, ⟨some 7, .app k bytes z (.t 5) (.t 6), none, a3⟩, ⟨some 2, .mov (.t 7), none, a4⟩] none [7, 6, 5, 4, 3, 2, 0] := by simp only [compC]; rw [hc3]; rfl
  refine wp_seq ?_
  refine region_sound (an := cloneAnn) (dr := noDoor) (byref := fun _ => false) noO (fun n hn => by simp [noDoor] at hn) hm hb R0 hst (e := .normal) (tm' := keepL [7, 6, 5, 4, 3, 2, 0] [(2, .lst true []), (0, a)]) (σ' := σ) ?_ ?_
  · simp [runRegion, regX, sitesOf, nsite, runOps, stepA, wantedA, execI, Opd.ev, tput, tins, enterA]
  intro a1' w1 hst1
  simp only [Exit.then]
  refine wp_seq (wp_seq ?_)
  refine wp_region_list ?_
  refine wpList_one hm3 ?_
  obtain ⟨I1, β1, g1, g2, g3, g4, g5⟩ := hst1
  have hs8 : 8 ≤ a1'.tmps.size := g4.2
  have hT0 : VR I1 β1 a (a1'.tmps.getD 0 undef) := by have := g3 0; simpa [keepL, tget] using this
  obtain ⟨A, cap, hv0, q1, q2, q5, q4⟩ := elems_reads g5 (fun l e => hns l e) hel0 hT0
  show m.wp P a1' w1 _ _
  unfold Oper.wp
  have e1 : (execOp a1'.eval m).run P w1 = .ok (.value (.slice A xs.length cap)) w1 := by
    unfold execOp; rw [hm1]; simp [Act.eval, hv0]
  rw [e1, Oper.upon_value, hm2]
  refine wpList_one hb3 ?_
  unfold Oper.wp
  have hs3 : (a1'.put (some 3) (.slice A xs.length cap)).tmps.getD 3 undef = .slice A xs.length cap := by
    have : 3 < a1'.tmps.size := by omega
    simp [Act.put, Array.getD, this]
  have e2 : (execOp (a1'.put (some 3) (.slice A xs.length cap)).eval b).run P w1 = .ok (.value (.bool A.isNone)) w1 := by
    have hq : (Op.equal t (.slice A xs.length cap) (.slice none 0 0)).run P w1 = .ok A.isNone w1 := run_equal_slice_nil w1 t e A xs.length cap hu
    unfold execOp; rw [hb1]
    simp only [Act.eval]
    rw [hs3]
    simp [eqGuard, binOp, hq]
  rw [e2, Oper.upon_value, hb2]
  refine wpList_nil ?_
  -- the state behind the question
  have hst2 : StR noDoor 8 base w0 I0 I β [(4, .bool A.isNone), (2, .lst true []), (0, a)] σ ((a1'.put (some 3) (.slice A xs.length cap)).put (some 4) (.bool A.isNone)) w1 := by
    refine ⟨I1, β1, g1, g2, fun n => ?_, ⟨put_ok (put_ok g4.1 (fun n _ hm => by simp [noDoor] at hm)) (fun n _ hm => by simp [noDoor] at hm), by rw [put_size, put_size]; exact g4.2⟩, g5⟩
    have hs : 4 < (a1'.put (some 3) (.slice A xs.length cap)).tmps.size := by rw [put_size]; omega
    have ne : ∀ {a : Act} {d j : Nat} {u : Value}, d ≠ j → (a.put (some d) u).tmps.getD j undef = a.tmps.getD j undef := by
      intro a d j u hne
      simp only [Act.put, Array.getD_eq_getD_getElem?]; rw [Array.getElem?_setIfInBounds_ne hne]
    simp only [tget]
    split
    · rename_i e; subst e
      rw [show ((a1'.put (some 3) (.slice A xs.length cap)).put (some 4) (.bool A.isNone)).tmps.getD 4 undef = .bool A.isNone by
        simp only [Act.put] at hs ⊢
        simp [Array.getD] at hs ⊢
        omega]
      simp only [VR]
    · split
      · rename_i e; subst e
        rw [ne (by omega), ne (by omega)]
        have := g3 2; simpa [keepL, tget] using this
      · split
        · rename_i e; subst e
          rw [ne (by omega), ne (by omega)]
          have := g3 0; simpa [keepL, tget] using this
        · simp only [VR]
  simp only [Exit.then]
  cases hA : A.isNone with
  | true =>
    have hx0 : xs = [] := by
      rcases q4 with h | ⟨b, off, k', us, e, _⟩
      · exact h
      · rw [e] at hA; cases hA
    subst hx0
    have hev : ((a1'.put (some 3) (.slice A 0 cap)).put (some 4) (.bool A.isNone)).eval (.tmp 4) = .bool true := by
      obtain ⟨_, _, _, _, T, _, _⟩ := hst2
      have := T 4
      simp only [tget, if_true, VR] at this
      rw [hA] at this
      simpa [Act.eval, hA] using this
    refine wp_cond_true (by simpa [hA] using hev) ?_
    refine wp_seq ?_
    rw [hA] at hst2
    refine region_sound (an := cloneAnn) (dr := noDoor) (byref := fun _ => false) noO (fun n hn => by simp [noDoor] at hn) hm hb R2 hst2 (e := .normal) (tm' := keepL [7, 6, 5, 4, 3, 2, 0] [(4, .bool true), (2, .lst true []), (0, a)]) (σ' := σ) ?_ ?_
    · simp [runRegion, regX, sitesOf, nsite, runOps, stepA, wantedA, execI, Opd.ev, tput, tins]
    intro a3' w3 hst3
    simp only [Exit.then]
    refine wp_ret ?_
    refine fin hst3 (y := .lst true []) (by simp [keepL, tget]) ?_
    intro I' β' u h1 h2 h3 h4
    simp only [VR] at h4
    obtain ⟨A', cap', rfl, _, _, hx, _⟩ := h4
    have hcap : cap' = 0 := by simpa using hx
    subst hcap
    have R4 := h3.reserve 1
    have hfree : (σ ++ List.replicate 1 ABlk.free)[σ.length]? = some .free := by simp
    obtain ⟨R5, hle⟩ := R4.newNone hfree k hk0
    refine ⟨I', _, h1, KeptE.of_le (h2.trans hle), ?_, ?_⟩
    · have : (σ ++ List.replicate 1 ABlk.free).set σ.length (.row 0 k []) = σ ++ [.row 0 k []] := by simp
      rw [this] at R5; exact R5
    · simp only [valOf]
      rw [VR_sl0]
      exact ⟨_, Bmap.put_same β' σ.length 0 _, by simp, by simp, Or.inr ⟨rfl, rfl, A', rfl⟩⟩
  | false =>
    have hev : ((a1'.put (some 3) (.slice A xs.length cap)).put (some 4) (.bool A.isNone)).eval (.tmp 4) = .bool false := by
      obtain ⟨_, _, _, _, T, _, _⟩ := hst2
      have := T 4
      simp only [tget, if_true, VR] at this
      rw [hA] at this
      simpa [Act.eval, hA] using this
    refine wp_cond_false (by simpa [hA] using hev) ?_
    refine wp_skip ?_
    rw [hA] at hst2
    simp only [Exit.then]
    refine wp_seq ?_
    have hel : elemsA (σ ++ [ABlk.free]) a = some (xs, ts) := elems_agree hel0 (fun t ht => by
      obtain ⟨g, k, ys, h | h⟩ := elems_rowy hel0 t ht <;> (rw [List.getElem?_append_left (List.getElem?_eq_some_iff.1 h).1]))
    refine region_sound (an := cloneAnn) (dr := noDoor) (byref := fun _ => false) noO (fun n hn => by simp [noDoor] at hn) hm hb R3 hst2 (e := .normal) (tm' := keepL [7, 6, 5, 4, 3, 2, 0] [(7, .sl σ.length 0 0 xs.length), (6, a), (5, .lst true []), (4, .bool false), (2, .sl σ.length 0 0 xs.length), (0, a)]) (σ' := σ ++ [.row 0 k xs]) ?_ ?_
    · have hfa : freeAt (σ ++ [ABlk.free]) σ.length = true := by simp [freeAt]
      have hnp : (∃ x ys, a = .lst x ys) ∨ ∃ t g lo n, a = .sl t g lo n := by
        cases a with
        | lst x ys => exact Or.inl ⟨x, ys, rfl⟩
        | sl t g lo n => exact Or.inr ⟨t, g, lo, n, rfl⟩
        | str l => exact absurd rfl (hns l)
        | _ => simp [elemsA] at hel0
      rcases hnp with ⟨x, ys, rfl⟩ | ⟨t', g', lo, n, rfl⟩
      · simp [runRegion, regX, sitesOf, nsite, runOps, stepA, wantedA, execI, Opd.ev, tput, tins, tget, viewAs, freezeA, hzk, appA, hel, hkOk, hbytes, hfa]
      · simp [runRegion, regX, sitesOf, nsite, runOps, stepA, wantedA, execI, Opd.ev, tput, tins, tget, viewAs, freezeA, hzk, appA, hel, hkOk, hbytes, hfa]
    intro a3' w3 hst3
    simp only [Exit.then]
    refine wp_ret ?_
    refine fin hst3 (y := .sl σ.length 0 0 xs.length) (by simp [keepL, tget]) ?_
    intro I' β' u h1 h2 h3 h4
    exact ⟨I', β', h1, KeptE.of_le h2, h3, h4⟩
end
end Go.Proofs.YtmlkhhidifjjfaaDoor
namespace Go.Proofs.YtmlkhhidifjjfaaDoor
set_option linter.unusedSimpArgs false
set_option linter.unusedVariables false
open Go.RowKit
def validPrim (args : List AVal) (σ : AHeap) : Option (AVal × AHeap) := match args with
  | [.str l] => some (.bool (Lib.validD l), σ)
  | _ => none
section
variable {P : Program} {base : Nat → Prop} {w0 w w' : World} {I0 I : Imm} {β : Bmap} {σ : AHeap}
/-- a function that tells something of what it is given, and changes nothing that was there -/
theorem prim_pure {f : Nat} (hf : ∃ fn, P.funcs[f]? = some fn ∧ fn.body.isSome = true ∧ (fn.name == "runtime.NumGoroutine") = false) {args : List AVal} {r : AVal} {u : Value} (hn : ∀ x, r ≠ .pan x) (hr : ∀ I β, VR I β r u)
    (h : ∀ base w0 I0 I β w (vs : Array Value), Rel base w0 I0 I β σ w → VRs I β args vs.toList → Calls P f vs w (fun e w' => e = .returned u ∧ Below w.heap.size w w')) :
    (∃ fn, P.funcs[f]? = some fn ∧ fn.body.isSome = true ∧ (fn.name == "runtime.NumGoroutine") = false) ∧
    ∀ base w0 I0 I β w (vs : Array Value), KLt base w0 → Rel base w0 I0 I β σ w → VRs I β args vs.toList →
      Calls P f vs w (fun e w' => ∃ u, Ends r e u ∧ PostF σ.length base w0 I0 I β r σ u w') := by
  refine ⟨hf, fun base w0 I0 I β w vs hb R hv => (h base w0 I0 I β w vs R hv).mono ?_⟩
  rintro e w' ⟨rfl, hB⟩
  have hbw := R.base_le hb
  refine ⟨u, ?_, I, β, Imm.le.refl I, KeptE.refl _ β, R.stay (Imm.le.refl I) ⟨hB.os, hB.tape, hB.output, hB.size, fun k hk => hB.block k (hbw k hk)⟩ (fun _ _ _ => rfl) ?_ ?_, by rw [valOf_npan hn]; exact hr I β⟩
  · cases r <;> first | rfl | exact absurd rfl (hn _)
  · intro b o x hx
    have h1 := R.imm b o x hx
    have hlt := cell_lt h1
    rw [← h1]
    simp only [World.cell?, hB.block b hlt]
  · intro t x b hx hb'
    exact ⟨hB.block b ((R.blk t x hx).owns_lt hb'), (R.own t x b hx hb').2⟩
theorem tabs_of (R : Rel base w0 I0 I β σ w) : Lib.Utf8Tabs 0 1 w := by
  refine ⟨fun c hc => R.imm _ _ _ (R.glob _ _ _ (by simp [Gl, hc])), fun i hi => ⟨R.imm _ _ _ (R.glob _ _ _ ?_), R.imm _ _ _ (R.glob _ _ _ ?_)⟩⟩
  · have h1 : 2 * i < 32 := by omega
    have h2 : 2 * i % 2 = 0 := by omega
    have h3 : 2 * i / 2 = i := by omega
    simp [Gl, h1, h3]
  · have h1 : 2 * i + 1 < 32 := by omega
    have h2 : (2 * i + 1) % 2 = 1 := by omega
    have h3 : (2 * i + 1) / 2 = i := by omega
    simp [Gl, h1, h2, h3]
theorem valid_ok {f : Nat} (hf : ∃ fn, P.funcs[f]? = some fn ∧ fn.body.isSome = true ∧ (fn.name == "runtime.NumGoroutine") = false)
    (hc : ∀ (s : ByteArray) (w : World), s.size ≤ 9223372036854775807 → Lib.Utf8Tabs 0 1 w → Calls P f #[.string s] w fun e w' => e = .returned (.bool (Lib.validD s.data.toList)) ∧ Below w.heap.size w w') {args : List AVal} {σ σ' : AHeap} {r : AVal} (h : validPrim args σ = some (r, σ')) :
    (∃ fn, P.funcs[f]? = some fn ∧ fn.body.isSome = true ∧ (fn.name == "runtime.NumGoroutine") = false) ∧
    ∀ base w0 I0 I β w (vs : Array Value), KLt base w0 → Rel base w0 I0 I β σ w → VRs I β args vs.toList →
      Calls P f vs w (fun e w' => ∃ u, Ends r e u ∧ PostF σ.length base w0 I0 I β r σ' u w') := by
  unfold validPrim at h
  split at h
  case h_2 => cases h
  rename_i l
  simp only [Option.some.injEq, Prod.mk.injEq] at h
  obtain ⟨rfl, rfl⟩ := h
  refine prim_pure hf (u := .bool (Lib.validD l)) (by simp) (fun _ _ => by simp only [VR]) ?_
  intro base w0 I0 I β w vs R hv
  obtain ⟨vs⟩ := vs
  simp only [VRs, VR] at hv
  obtain ⟨v1, r1, e1, ⟨rfl, hl⟩, rfl⟩ := hv
  subst e1
  refine (hc ⟨l.toArray⟩ w (by simpa [ByteArray.size] using hl) (tabs_of R)).mono ?_
  rintro e w' ⟨rfl, hB⟩
  exact ⟨by simp, hB⟩
end
end Go.Proofs.YtmlkhhidifjjfaaDoor
namespace Go.Proofs.YtmlkhhidifjjfaaDoor
set_option linter.unusedSimpArgs false
set_option linter.unusedVariables false
def lookT {α : Type} (d : α) : List (Nat × α) → Nat → α
  | [], _ => d
  | (k, v) :: r, n => if k = n then v else lookT d r n
def mkAnn (own raw : List Nat) (cfg cfg2 : List (Nat × Nat × Bool)) (lr ll : List (Nat × List Nat)) : Ann := { own := fun n => if own.contains n then 1 else if raw.contains n then 2 else 0, cfg := lookT (0, true) cfg, cfg2 := lookT (0, true) cfg2, lr := lookT [] lr, ll := lookT [] ll }
def annT : List (Nat × Ann) := [
  (68, mkAnn [] [] [] [] [(0, [0]), (1, [5, 4, 3, 0]), (2, [4, 3, 0]), (3, [3]), (4, [2])] []),
  (70, mkAnn [] [] [] [] [(0, [1, 0]), (1, [4])] []),
  (107, mkAnn [] [] [] [] [(0, [1, 0]), (1, [18, 1, 0]), (2, []), (3, [4]), (4, [5, 1, 0]), (5, [5]), (6, [4])] []),
  (71, mkAnn [] [] [] [] [(0, [0]), (1, [5, 4, 3, 0]), (2, [4, 3, 0]), (3, [3]), (4, [2])] []),
  (69, mkAnn [] [] [] [] [(0, [0]), (1, [4]), (2, [3, 2])] []),
  (61, mkAnn [] [] [] [] [(0, [2, 0]), (1, [3, 2, 0]), (2, [3, 2, 0]), (3, [3, 2, 0]), (4, [3, 2, 0]), (5, [3, 2, 0]), (6, [6, 5, 4, 3, 2, 0]), (7, [4, 3, 2]), (8, [3, 2]), (9, [2])] []),
  (77, mkAnn [] [] [] [] [(0, [1]), (1, [2, 1]), (2, [10, 2, 1]), (3, [11, 10, 2, 1]), (4, [1]), (5, [15, 10, 2, 1]), (6, [3, 2, 1]), (7, [3, 2, 1]), (8, [2, 1]), (9, [2, 1]), (10, [1]), (11, [37, 10, 2, 1]), (12, [1]), (13, [41, 10, 2, 1]), (14, [41, 10, 2, 1]), (15, [41, 10, 2, 1]), (16, [41, 10, 2, 1]), (17, [1]), (18, [1]), (19, [50, 10, 2, 1]), (20, [1]), (21, [56, 10, 2, 1]), (22, [1]), (23, [61, 10, 2, 1]), (24, [61, 10, 2, 1]), (25, [1]), (26, [67, 10, 1]), (27, [67, 1]), (28, [1]), (29, [])] []),
  (123, mkAnn [] [] [] [] [(0, [])] []),
  (125, mkAnn [] [] [] [] [(0, [])] []),
  (116, mkAnn [] [] [] [] [(0, [0]), (1, [3, 0]), (2, [3]), (3, [2])] []),
  (114, mkAnn [] [] [] [] [(0, [2, 0]), (1, [2, 0]), (2, [2, 0]), (3, [3, 2, 0]), (4, [3, 2, 0]), (5, [3, 2, 0]), (6, [3, 2, 0]), (7, [2, 0]), (8, [2, 0]), (9, [2, 0]), (10, [2, 0]), (11, [107, 2, 0]), (12, [2, 0]), (13, [2, 0]), (14, [2, 0]), (15, [129, 2, 0]), (16, [2, 0]), (17, [138, 2, 0]), (18, [])] []),
  (148, mkAnn [] [] [] [] [(0, [0]), (1, [5, 4, 3, 0]), (2, [4, 3, 0]), (3, [3]), (4, [2])] []),
  (76, mkAnn [] [] [] [] [(0, [4, 1]), (1, [4, 1]), (2, [4, 1]), (3, [24, 4, 1]), (4, []), (5, [4]), (6, [4]), (7, [])] []),
  (119, mkAnn [] [] [] [] [(0, [0]), (1, [])] []),
  (121, mkAnn [] [] [] [] [(0, [1, 0]), (1, [1, 0]), (2, [1, 0]), (3, [29, 1, 0]), (4, [1, 0])] [(3, [1, 0])]),
  (115, mkAnn [] [] [] [] [(0, [1, 0]), (1, [1, 0]), (2, [5, 1, 0]), (3, [5]), (4, [4])] []),
  (117, mkAnn [] [] [] [] [(0, [1, 0]), (1, [7, 6, 5, 0]), (2, [6, 5, 0]), (3, [5]), (4, [4])] []),
  (118, mkAnn [] [] [] [] [(0, [0]), (1, [13, 0]), (2, [0]), (3, [0]), (4, [])] []),
  (120, mkAnn [] [] [] [] [(0, [7, 0]), (1, [0]), (2, [19, 0]), (3, [])] []),
  (122, mkAnn [] [] [] [] [(0, [2, 0]), (1, [3, 2, 0]), (2, [3, 2, 0]), (3, [3, 2, 0]), (4, [2, 0]), (5, [2, 0]), (6, [])] []),
  (124, mkAnn [] [] [] [] [(0, [0]), (1, [5, 4, 3, 0]), (2, [4, 3, 0]), (3, [3]), (4, [2])] []),
  (78, mkAnn [] [] [] [] [(0, [3, 0]), (1, [11, 3, 0]), (2, [12, 11, 3, 0]), (3, []), (4, [17, 11, 3, 0]), (5, [3, 0]), (6, [3, 0]), (7, []), (8, [32, 11, 3, 0]), (9, [3, 0]), (10, [40, 3, 0]), (11, [3, 0]), (12, [3, 0]), (13, []), (14, [55, 11, 3, 0]), (15, [55, 11, 3, 0]), (16, [55, 11, 3, 0]), (17, [55, 11, 3, 0]), (18, [3, 0]), (19, []), (20, [67, 11, 3, 0]), (21, [3, 0]), (22, [75, 74, 73, 0]), (23, [76, 75, 74, 73, 0]), (24, [75, 74, 73, 5, 0]), (25, [75, 74, 73, 5, 0]), (26, [75, 74, 73, 0]), (27, [75, 74, 73, 0]), (28, [102, 11, 3, 0]), (29, [3, 0]), (30, [110, 109, 108, 0]), (31, [111, 110, 109, 108, 0]), (32, [110, 109, 108, 7, 0]), (33, [110, 109, 108, 0]), (34, [110, 109, 108, 0]), (35, [118, 11, 3, 0]), (36, [118, 11, 3, 0]), (37, [3, 0]), (38, [127, 126, 125, 0]), (39, [128, 127, 126, 125, 0]), (40, [127, 126, 125, 9, 0]), (41, [127, 126, 125, 0]), (42, [127, 126, 125, 0]), (43, [135, 11, 3, 0]), (44, [135, 3, 0]), (45, [])] [(23, [75, 74, 73, 0]), (31, [110, 109, 108, 0]), (39, [127, 126, 125, 0])]),
  (126, mkAnn [] [] [] [] [(0, [3, 0]), (1, [3, 0]), (2, [3, 0]), (3, [3, 0]), (4, [3, 0]), (5, [3, 0]), (6, [3, 0]), (7, [49, 3, 0]), (8, [3, 0]), (9, [3, 0]), (10, [3, 0]), (11, [66, 3, 0]), (12, [3, 0]), (13, [72, 3, 0]), (14, [])] []),
  (149, mkAnn [] [] [] [] [(0, [4, 0]), (1, [])] []),
  (132, mkAnn [] [] [] [] [(0, [3, 0]), (1, [3, 0]), (2, [])] []),
  (127, mkAnn [] [] [] [] [(0, [])] []),
  (128, mkAnn [] [] [] [] [(0, [6, 0]), (1, [])] []),
  (131, mkAnn [] [] [] [] [(0, [3, 0]), (1, [12, 3, 0]), (2, [3, 0]), (3, [20, 3, 0]), (4, [])] []),
  (129, mkAnn [] [] [] [] [(0, [4, 0]), (1, [])] []),
  (65, mkAnn [] [] [] [] [(0, [0]), (1, [3, 0]), (2, [18, 3, 0]), (3, []), (4, [2]), (5, [2])] []),
  (66, mkAnn [] [] [] [] [(0, [1, 0]), (1, [4])] []),
  (99, mkAnn [] [] [] [] [(0, [1, 0]), (1, [18, 1, 0]), (2, [1]), (3, [4]), (4, [5, 1, 0]), (5, [5]), (6, [4])] []),
  (64, mkAnn [] [] [] [] [(0, [0]), (1, [2])] []),
  (12, mkAnn [] [] [] [] [(0, [2, 1]), (1, [3, 2, 1]), (2, [33, 3, 2, 1]), (3, [3, 2, 1]), (4, [4, 2, 1]), (5, [5, 4, 2, 1]), (6, [53, 5, 4, 2, 1]), (7, [5, 4, 2, 1]), (8, [5, 4, 2, 1]), (9, [71, 4, 2, 1]), (10, [4, 2]), (11, [2])] [(6, [5, 4, 2, 1])]),
  (47, mkAnn [] [] [] [] [(0, [1]), (1, [3, 1]), (2, [7, 3, 1]), (3, [3, 1]), (4, [18, 3, 1]), (5, [3, 1]), (6, [29, 3, 1]), (7, [3, 1]), (8, [4, 3, 1]), (9, [45, 4, 3, 1]), (10, [4, 3, 1]), (11, [4, 3, 1]), (12, [2])] [(9, [4, 3, 1])]),
  (63, mkAnn [] [] [] [] [(0, [1, 0]), (1, [4])] []),
  (161, mkAnn [] [] [] [] [(0, []), (2, []), (7, [4])] []),
  (164, mkAnn [] [] [] [] [] []),
  (93, mkAnn [6] [] [(137, 1, false)] [(111, 1, false)] [(0, [2, 1]), (1, [2, 1]), (2, [2, 1]), (3, [15, 14, 2, 1]), (4, [16, 15, 14, 2, 1]), (5, [15, 14, 3, 2, 1]), (6, [15, 14, 2, 1]), (7, [15, 14, 2, 1]), (8, [2])] [(4, [15, 14, 2, 1])]),
  (45, mkAnn [] [] [] [] [(0, [2, 1]), (1, [4])] []),
  (16, mkAnn [] [] [] [] [(0, [1]), (1, [3, 1]), (2, [5, 3, 1]), (3, [7, 5, 3, 1]), (4, [9, 7, 5, 3, 1]), (5, [2])] []),
  (17, mkAnn [] [] [(56, 1, false)] [] [(0, [1]), (1, [3, 1]), (2, [5, 3, 1]), (3, [7, 5, 1]), (4, [39, 38, 37, 7, 5]), (5, [40, 39, 38, 37, 7, 5]), (6, [39, 38, 37, 9, 7, 5]), (7, [39, 38, 37, 7, 5]), (8, [39, 38, 37, 7, 5]), (9, [2])] [(5, [39, 38, 37, 7, 5])]),
  (73, mkAnn [] [] [(111, 1, false)] [] [(0, [8, 4, 3, 2, 1]), (1, [9, 8, 4, 3]), (2, [11, 10, 9, 8, 3]), (3, [31, 10, 9, 8, 3]), (4, [9, 8]), (5, [8])] []),
  (44, mkAnn [] [] [(93, 2, false)] [] [(0, [8, 4, 3, 2, 1]), (1, [9, 8, 4, 3, 2, 1]), (2, [10, 9, 8, 4, 3, 2, 1]), (3, [29, 10, 9, 8, 4, 3, 2, 1]), (4, [10, 9, 8, 4, 1]), (5, [36, 10, 9, 8, 4, 1]), (6, [10, 8, 4]), (7, [51, 50, 49, 10, 8]), (8, [52, 51, 50, 49, 10, 8]), (9, [51, 50, 49, 12, 10, 8]), (10, [51, 50, 49, 10, 8]), (11, [51, 50, 49, 10, 8]), (12, [8])] [(8, [51, 50, 49, 10, 8])]),
  (21, mkAnn [] [] [] [] [(0, [2, 0]), (1, [4, 2, 0]), (2, [5, 4, 2, 0]), (3, [28, 5, 2]), (4, [3, 2]), (5, [3, 2])] []),
  (23, mkAnn [] [] [] [] [(0, [2, 0]), (1, [4, 2, 0]), (2, [6, 5, 4, 2, 0]), (3, [7, 6, 4, 2, 0]), (4, [7, 6, 4, 2, 0]), (5, [8, 7, 4, 2, 0]), (6, [42, 41, 8, 7, 4, 2, 0]), (7, [43, 42, 41, 8, 7, 4, 2, 0]), (8, [42, 41, 9, 8, 7, 4, 2, 0]), (9, [42, 41, 9, 8, 7, 4, 2, 0]), (10, [42, 41, 8, 7, 4, 2, 0]), (11, [42, 41, 8, 7, 4, 2, 0]), (12, [8, 7, 4, 2, 0]), (13, [84, 7, 2]), (14, [3, 2]), (15, [3, 2])] [(7, [42, 41, 8, 7, 4, 2, 0])]),
  (30, mkAnn [] [] [] [] [(0, [3, 2]), (1, [4])] []),
  (31, mkAnn [] [] [] [] [(0, [3, 2]), (1, [4])] []),
  (58, mkAnn [] [] [] [] [(0, [0]), (1, [2])] []),
  (98, mkAnn [] [] [] [] [(0, [0]), (1, [2])] []),
  (57, mkAnn [] [] [] [] [(0, [1, 0]), (1, [5, 0]), (2, [0]), (3, [4])] []),
  (62, mkAnn [] [] [] [] [(0, [1]), (1, [2])] []),
  (55, mkAnn [] [] [] [] [(0, [0]), (1, [6, 0]), (2, [3, 2]), (3, [3, 2])] []),
  (108, mkAnn [] [] [] [] [(0, [0]), (1, [3, 0]), (2, [8, 7, 6, 3]), (3, [9, 8, 7, 6, 3]), (4, [8, 7, 6, 5, 3]), (5, [8, 7, 6, 3]), (6, [8, 7, 6, 3]), (7, [2])] [(3, [8, 7, 6, 3])]),
  (106, mkAnn [] [] [] [] [(0, [0]), (1, [17, 0]), (2, [4, 3, 2]), (3, [3, 0]), (4, [4, 3, 2])] []),
  (109, mkAnn [] [] [] [] [(0, [0]), (1, [5, 4, 3]), (2, [12, 5, 4, 3]), (3, [4, 3, 2]), (4, [16, 5, 3]), (5, [4, 3, 2]), (6, [4, 3, 2])] []),
  (135, mkAnn [] [] [] [] [(0, [2, 0]), (1, [9, 8, 7, 2, 0]), (2, [10, 9, 8, 7, 2, 0]), (3, [9, 8, 7, 6, 5, 2, 0]), (4, [15, 9, 8, 7, 6, 5, 2, 0]), (5, [9, 8, 7, 6, 5, 2, 0]), (6, [25, 9, 8, 7, 6, 5, 2, 0]), (7, [31, 5, 2]), (8, [4, 3, 2]), (9, [4, 3, 2]), (10, [9, 8, 7, 2, 0]), (11, [38]), (12, [4, 3, 2]), (13, [4, 3, 2])] [(2, [9, 8, 7, 2, 0])]),
  (97, mkAnn [] [] [] [] [(0, [0]), (1, [6, 0]), (2, [8, 7, 6, 0]), (3, [6, 4, 0]), (4, [11, 6, 0]), (5, [2]), (6, [2])] [(2, [6, 0])]),
  (56, mkAnn [] [] [] [] [(0, [0]), (1, [3, 0]), (2, [8, 7, 6, 3]), (3, [9, 8, 7, 6, 3]), (4, [8, 7, 6, 5, 3]), (5, [8, 7, 6, 3]), (6, [8, 7, 6, 3]), (7, [2])] [(3, [8, 7, 6, 3])]),
  (59, mkAnn [] [] [] [] [(0, [1, 0]), (1, [12, 1, 0]), (2, [4]), (3, [5, 1, 0]), (4, [6, 5, 0]), (5, [18, 6, 5, 0]), (6, [6, 5, 0]), (7, [6, 5, 0]), (8, [6, 5, 0]), (9, [4])] [(5, [6, 5, 0])]),
  (54, mkAnn [] [] [] [] [(0, [0]), (1, [6, 0]), (2, [3, 2]), (3, [3, 2])] []),
  (82, mkAnn [] [] [] [] [(0, [0]), (1, [10, 0]), (2, [3, 2]), (3, [4, 0]), (4, [12, 4, 0]), (5, [4, 0]), (6, [4, 0]), (7, [3, 2])] [(4, [4, 0])]),
  (41, mkAnn [] [] [] [] [(0, [3, 0]), (1, [4])] []),
  (88, mkAnn [] [] [] [] [(0, [2, 1]), (1, [3])] []),
  (34, mkAnn [] [] [] [] [(0, [2, 1]), (1, [4, 2, 1]), (2, [4, 2, 1]), (3, [5, 2, 1]), (4, [32, 5, 2, 1]), (5, [5, 2, 1]), (6, [7, 6, 5, 2, 1]), (7, [9, 7, 6, 5, 2, 1]), (8, [73, 5, 2]), (9, [3, 2]), (10, [3, 2])] []),
  (40, mkAnn [] [] [] [] [(0, [1]), (1, [5, 4]), (2, [14, 5, 4]), (3, [3, 2]), (4, [6, 4]), (5, [3, 2])] []),
  (32, mkAnn [] [] [] [] [(0, []), (2, [4, 3, 2, 1]), (3, [4, 3, 2]), (4, [4, 3, 2]), (5, [3, 2])] []),
  (75, mkAnn [] [] [] [] [(1, [4]), (2, []), (3, [7, 5]), (4, []), (6, [3, 1, 0]), (7, [])] []),
  (35, mkAnn [] [] [] [] [(0, [3, 2]), (1, [5, 3, 2]), (2, [6, 5, 3, 2]), (3, [7, 6, 5, 3, 2]), (4, [8, 7, 6, 5, 3, 2]), (5, [4])] []),
  (87, mkAnn [] [] [] [] [(0, [0]), (1, [3]), (2, [4, 3]), (3, [2]), (4, [15, 3]), (5, [15, 3]), (6, [2]), (7, [27, 3]), (8, [27, 3]), (9, [2]), (10, [33, 3]), (11, [2]), (12, [45, 3]), (13, [2]), (14, [55, 3]), (15, [2]), (16, [66]), (17, [2]), (18, [2])] []),
  (79, mkAnn [] [] [] [] [(0, [0]), (1, [3]), (2, [4, 3]), (3, [4, 3]), (4, [4]), (5, [2]), (6, [2])] []),
  (81, mkAnn [] [] [] [] [(0, [1, 0]), (1, [5, 1]), (2, [4]), (3, [4])] []),
  (113, mkAnn [] [] [] [] [(0, [5, 1]), (1, [])] []),
  (112, mkAnn [] [] [] [] [(0, [4, 1, 0]), (1, [10, 9, 8, 4, 0]), (2, [11, 10, 9, 8, 4, 0]), (3, [10, 9, 8, 7, 4, 0]), (4, [17, 10, 9, 8, 7, 4, 0]), (5, [5, 4]), (6, [10, 9, 8, 4, 0]), (7, [5, 4])] [(2, [10, 9, 8, 4, 0])]),
  (134, mkAnn [] [] [] [] [(0, [0]), (1, [2])] []),
  (42, mkAnn [] [] [] [] [(0, [1, 0]), (1, [6, 1, 0]), (2, [16, 15, 14, 6, 1, 0]), (3, [17, 16, 15, 14, 6, 1, 0]), (4, [16, 15, 14, 8, 6, 1, 0]), (5, [16, 15, 14, 6, 1, 0]), (6, [16, 15, 14, 6, 1, 0]), (7, [10, 9, 6, 1, 0]), (8, [32, 9, 6, 1, 0]), (9, [5, 4]), (10, [6, 1, 0]), (11, [13, 12, 11, 6, 1]), (12, [57, 6]), (13, [5, 4]), (14, [5, 4])] [(3, [16, 15, 14, 6, 1, 0])]),
  (153, mkAnn [] [] [] [] [(0, [1, 0]), (1, [4])] []),
  (143, mkAnn [] [] [] [] [(0, [1, 0]), (1, [5, 1, 0]), (2, [10, 9, 8, 5, 1]), (3, [11, 10, 9, 8, 5, 1]), (4, [10, 9, 8, 7, 5, 1]), (5, [17, 10, 9, 8, 7, 5, 1]), (6, [10, 9, 8, 5, 1]), (7, [10, 9, 8, 5, 1]), (8, [4])] [(3, [10, 9, 8, 5, 1])]),
  (90, mkAnn [] [] [] [] [(0, [4, 1, 0]), (1, [9, 8, 7, 4, 1, 0]), (2, [29, 8, 7, 4, 1, 0]), (3, [6, 5, 4]), (4, [10, 8, 7, 4, 0]), (5, [38, 10, 8, 7, 4, 0]), (6, [13, 12, 11, 10, 8, 7, 4, 0]), (7, [48, 13, 12, 11, 10, 8, 7, 4, 0]), (8, [6, 5, 4]), (9, [12, 10, 8, 7, 4, 0]), (10, [10, 8, 7, 4, 0]), (11, [6, 5, 4])] [(5, [10, 8, 7, 4, 0])]),
  (43, mkAnn [] [] [] [] [(0, [1, 0]), (1, [4])] []),
  (92, mkAnn [] [] [] [] [(0, [3, 2]), (1, [4])] []),
  (162, mkAnn [] [] [] [] [(0, [0]), (1, [3, 0]), (2, [8, 7, 6, 3]), (3, [9, 8, 7, 6, 3]), (4, [8, 7, 6, 5, 3]), (5, [8, 7, 6, 3]), (6, [8, 7, 6, 3]), (7, [2])] [(3, [8, 7, 6, 3])]),
  (147, mkAnn [] [] [] [] [(0, [2, 1]), (1, [2, 1]), (2, [2])] []),
  (156, mkAnn [] [] [] [] [(0, [1]), (1, [4, 1]), (2, [5, 4, 1]), (3, [5, 4, 1]), (4, [5, 4, 1]), (5, [5, 1]), (6, [2]), (7, [2])] []),
  (89, mkAnn [] [] [] [] [(0, [1]), (1, [3, 1]), (2, [6, 5, 3, 1]), (3, [15, 6, 5, 3, 1]), (4, [16, 15, 6, 5, 3, 1]), (5, [16, 15, 6, 5, 3, 1]), (6, [16, 15, 6, 5, 3, 1]), (7, [6, 5, 3]), (8, [29, 15, 6, 5, 3, 1]), (9, [6, 5, 3]), (10, [37, 15, 6, 5, 3, 1]), (11, [6, 5, 3]), (12, [45, 15, 6, 5, 3, 1]), (13, [6, 5, 3]), (14, [53, 6, 5, 3, 1]), (15, [5, 3, 1]), (16, [6, 5, 3]), (17, [2])] []),
  (152, mkAnn [] [] [] [] [(0, [2, 0]), (1, [3, 2]), (2, [4, 3, 2]), (3, [2]), (4, [9, 3, 2]), (5, [2]), (6, [14, 3, 2]), (7, [14, 3, 2]), (8, [2]), (9, [20, 3, 2]), (10, [2]), (11, [25, 3, 2]), (12, [2]), (13, [30, 3, 2]), (14, [2]), (15, [35, 3, 2]), (16, [35, 3, 2]), (17, [2]), (18, [41, 3, 2]), (19, [2]), (20, [46, 3, 2]), (21, [2]), (22, [51, 3, 2]), (23, [2]), (24, [56, 3, 2]), (25, [56, 3, 2]), (26, [2]), (27, [62, 3, 2]), (28, [2]), (29, [67, 3, 2]), (30, [2]), (31, [72, 3, 2]), (32, [2]), (33, [77, 3, 2]), (34, [77, 3, 2]), (35, [2]), (36, [83, 3, 2]), (37, [2]), (38, [88, 3, 2]), (39, [2]), (40, [93, 3, 2]), (41, [93, 3, 2]), (42, [93, 3, 2]), (43, [93, 3, 2]), (44, [93, 3, 2]), (45, [2]), (46, [102, 2]), (47, [2]), (48, [2])] []),
  (155, mkAnn [] [] [] [] [(0, [1, 0]), (1, [4])] []),
  (136, mkAnn [] [] [] [] [(0, [6, 2, 1, 0]), (1, [11, 10, 9, 6, 2, 1, 0]), (2, [28, 10, 9, 6, 2, 1, 0]), (3, [8, 7, 6]), (4, [12, 10, 9, 7, 6, 2, 0]), (5, [14, 12, 10, 9, 7, 6, 0]), (6, [45, 14, 10, 9, 7, 6, 0]), (7, [8, 7, 6]), (8, [49, 10, 9, 7, 6]), (9, [8, 7, 6]), (10, [58, 10, 9, 7, 6]), (11, [8, 7, 6]), (12, [65, 6]), (13, [8, 7, 6]), (14, [8, 7, 6])] []),
  (154, mkAnn [] [] [] [] [(0, [5, 4, 1, 0]), (1, [5, 4, 1, 0]), (2, [7, 5, 4, 1, 0]), (3, [12, 7, 5, 4, 1, 0]), (4, [13, 12, 7, 5, 4, 1, 0]), (5, [13, 12, 7, 5, 4, 1, 0]), (6, [13, 12, 7, 5, 4, 1, 0]), (7, [7, 5, 4, 1]), (8, [24, 7, 5, 4, 1]), (9, [6, 5, 4]), (10, [7, 5, 4]), (11, [32, 12, 7, 5, 4, 1]), (12, [7, 5, 4]), (13, [41, 12, 7, 5, 4, 1]), (14, [7, 5, 4]), (15, [50, 12, 7, 5, 4, 1]), (16, [7, 5, 4]), (17, [59, 7, 5, 4, 1]), (18, [7, 5, 4, 1]), (19, [69, 7, 5, 4, 1]), (20, [5, 4, 1]), (21, [8, 7, 5, 4]), (22, [7, 5, 4]), (23, [6, 5, 4])] []),
  (86, mkAnn [] [] [] [] [(0, [1, 0]), (1, [4])] []),
  (158, mkAnn [] [] [] [] [(0, [1, 0]), (1, [4])] []),
  (91, mkAnn [] [] [] [] [(0, [2, 1, 0]), (1, [14, 2, 1, 0]), (2, [6]), (3, [17, 16, 15, 2, 1]), (4, [18, 17, 16, 15, 2, 1]), (5, [17, 16, 15, 8, 7, 2, 1]), (6, [17, 16, 15, 9, 8, 2, 1]), (7, [30, 17, 16, 15, 2, 1]), (8, [6]), (9, [17, 16, 15, 2, 1]), (10, [6])] [(4, [17, 16, 15, 2, 1])]),
  (83, mkAnn [] [] [] [] [(0, [1, 0]), (1, [10, 1, 0]), (2, [4]), (3, [13, 12, 1, 0]), (4, [14, 13, 12, 1, 0]), (5, [13, 12, 5, 1, 0]), (6, [24, 13, 12, 1, 0]), (7, [4]), (8, [13, 12, 1, 0]), (9, [4])] [(4, [13, 12, 1, 0])]),
  (84, mkAnn [] [] [] [] [(0, [1, 0]), (1, [10, 1, 0]), (2, [4]), (3, [13, 12, 1, 0]), (4, [14, 13, 12, 1, 0]), (5, [13, 12, 5, 1, 0]), (6, [24, 13, 12, 1, 0]), (7, [4]), (8, [13, 12, 1, 0]), (9, [4])] [(4, [13, 12, 1, 0])]),
  (74, mkAnn [] [] [] [] [(0, [1, 0]), (1, [10, 1, 0]), (2, [4]), (3, [13, 12, 1, 0]), (4, [14, 13, 12, 1, 0]), (5, [13, 12, 5, 1, 0]), (6, [24, 13, 12, 1, 0]), (7, [4]), (8, [13, 12, 1, 0]), (9, [4])] [(4, [13, 12, 1, 0])]),
  (85, mkAnn [] [] [] [] [(0, [1, 0]), (1, [10, 1, 0]), (2, [4]), (3, [13, 12, 1, 0]), (4, [14, 13, 12, 1, 0]), (5, [13, 12, 5, 1, 0]), (6, [24, 13, 12, 1, 0]), (7, [4]), (8, [13, 12, 1, 0]), (9, [4])] [(4, [13, 12, 1, 0])]),
  (133, mkAnn [] [] [] [] [(0, [1, 0]), (1, [8, 7, 1, 0]), (2, [9, 8, 7, 1, 0]), (3, [8, 7, 5, 1, 0]), (4, [16, 8, 7, 5, 1, 0]), (5, [4]), (6, [8, 7, 1, 0]), (7, [4])] [(2, [8, 7, 1, 0])]),
  (163, mkAnn [] [] [] [] [(0, [1, 0]), (1, [8, 7, 1, 0]), (2, [9, 8, 7, 1, 0]), (3, [8, 7, 5, 1, 0]), (4, [16, 8, 7, 5, 1, 0]), (5, [4]), (6, [8, 7, 1, 0]), (7, [4])] [(2, [8, 7, 1, 0])]),
  (28, mkAnn [] [] [] [] [(0, [1, 0]), (1, [10, 1, 0]), (2, [4]), (3, [5, 1, 0]), (4, [30, 0]), (5, [4]), (6, [6, 0]), (7, [34, 6, 0]), (8, [6, 0]), (9, [6, 0]), (10, [4])] [(7, [6, 0])]),
  (18, mkAnn [] [] [] [] [(0, [1, 0]), (1, [8, 1, 0]), (2, [4]), (3, [4])] []),
  (20, mkAnn [] [] [] [] [(0, [0]), (1, [3, 0]), (2, [3, 0]), (3, [3, 0]), (4, [2])] []),
  (15, mkAnn [] [] [] [] [(0, [1, 0]), (1, [4])] []),
  (60, mkAnn [] [] [] [] [(0, [0]), (1, [3, 0]), (2, [2])] []),
  (39, mkAnn [] [] [] [] [(0, [2, 1, 0]), (1, [7, 1, 0]), (2, [7, 1, 0]), (3, [16, 7, 1, 0]), (4, [1, 0]), (5, [6])] []),
  (37, mkAnn [] [] [] [] [(0, [2, 1]), (1, [6, 2, 1]), (2, [2, 1]), (3, [14, 2, 1]), (4, [2, 1]), (5, [22, 2, 1]), (6, [2, 1]), (7, [30, 2, 1]), (8, [2, 1]), (9, [39, 2, 1]), (10, [2, 1]), (11, [2, 1]), (12, [2])] []),
  (5, mkAnn [] [] [] [] [(0, [3, 2]), (1, [3, 2]), (2, [6, 5, 3, 2]), (3, [26, 5, 3, 2]), (4, [8, 7, 5, 3, 2]), (5, [10, 9, 8, 7, 5, 3, 2]), (6, [66, 3]), (7, [4]), (8, [70, 3]), (9, [4]), (10, [3]), (11, [12, 11, 3]), (12, [80, 12, 11, 3]), (13, [4]), (14, [14, 13, 3]), (15, [4])] []),
  (9, mkAnn [] [] [] [] [(0, [2, 1, 0]), (1, [2, 1, 0]), (2, [7, 2, 1, 0]), (3, [25, 7, 2, 1, 0]), (4, [6]), (5, [33, 25, 7, 2, 1, 0]), (6, [33, 25, 7, 2, 1, 0]), (7, [33, 25, 7, 2, 1, 0]), (8, [33, 25, 7, 2, 1, 0]), (9, [7, 1, 0]), (10, [40, 25, 7, 2, 1, 0]), (11, [40, 25, 7, 2, 1, 0]), (12, [7, 1, 0]), (13, [49, 25, 7, 1, 0]), (14, [49, 25, 7, 1, 0]), (15, [49, 7, 1, 0]), (16, [9, 8, 7, 1, 0]), (17, [10, 9, 8, 7]), (18, [62, 9, 8, 7]), (19, [6]), (20, [12, 11, 9, 8, 7]), (21, [14, 13, 12, 9, 8, 7]), (22, [6])] []),
  (7, mkAnn [] [] [] [] [(0, [2, 1]), (1, [2, 1]), (2, [6, 5, 2, 1]), (3, [18, 5, 2, 1]), (4, [4]), (5, [8, 7, 2]), (6, [35, 8, 7, 2]), (7, [36, 35, 8, 7, 2]), (8, [36, 35, 8, 7, 2]), (9, [36, 35, 8, 7, 2]), (10, [36, 35, 8, 7, 2]), (11, [4]), (12, [52, 8, 7, 2]), (13, [4]), (14, [4])] []),
  (8, mkAnn [] [] [] [] [(0, [3, 2]), (1, [3, 2]), (2, [6, 5, 3, 2]), (3, [8, 7, 6, 5, 3, 2]), (4, [30, 7, 5, 3, 2]), (5, [4]), (6, [4])] []),
  (10, mkAnn [] [] [] [] [(0, [1, 0]), (1, [14, 1, 0]), (2, [1, 0]), (3, [1, 0]), (4, [6, 5, 1, 0]), (5, [8, 7, 6, 5, 1, 0]), (6, [33, 8, 7, 5, 1, 0]), (7, [4]), (8, [9, 8, 7, 1, 0]), (9, [11, 10, 9, 8, 7, 1, 0]), (10, [4])] []),
  (6, mkAnn [] [] [] [] [(0, [2, 1]), (1, [6, 5, 2, 1]), (2, [23, 5, 2, 1]), (3, [4]), (4, [5, 2, 1]), (5, [8, 7, 2]), (6, [44, 7, 2]), (7, [4]), (8, [52, 7, 2]), (9, [53, 52, 7, 2]), (10, [53, 52, 7, 2]), (11, [53, 52, 7, 2]), (12, [53, 52, 7, 2]), (13, [53, 52, 7, 2]), (14, [53, 52, 7, 2]), (15, [53, 52, 7, 2]), (16, [53, 52, 7, 2]), (17, [53, 52, 7, 2]), (18, [53, 52, 7, 2]), (19, [53, 7, 2]), (20, [4]), (21, [4])] []),
  (33, mkAnn [] [] [] [] [(0, [0]), (1, [2])] []),
  (38, mkAnn [] [] [] [] [(0, []), (1, [2, 1]), (2, [4, 3, 2, 1]), (3, [0])] []),
  (4, mkAnn [] [] [] [] [(0, [1]), (1, [3]), (2, [5, 4, 3]), (3, [7, 6, 5, 4, 3]), (4, [2])] []),
  (3, mkAnn [] [] [] [] [(0, [4, 3, 2, 1]), (1, [9, 3, 2, 1]), (2, [10, 9, 3, 2, 1]), (3, [12, 10, 9, 3, 2, 1]), (4, [50, 12, 10, 3, 2, 1]), (5, [8]), (6, [12, 10, 3, 2, 1]), (7, [14]), (8, [15, 14]), (9, [68, 15, 14]), (10, [15, 14]), (11, [16, 15, 14]), (12, [18, 17, 16, 15, 14]), (13, [20, 19, 18, 17, 16, 15, 14]), (14, [22, 21, 20, 19, 18, 17, 16, 15, 14]), (15, [24, 23, 22, 21, 20, 19, 18, 17, 16, 15, 14]), (16, [144, 15, 14]), (17, [8]), (18, [8])] [(9, [15, 14])]),
  (11, mkAnn [] [] [] [] [(0, [3, 2, 1]), (1, [7, 2, 1]), (2, [7, 2, 1]), (3, [8, 7, 2]), (4, [9, 8, 7]), (5, [11, 10, 9, 8, 7]), (6, [50, 9, 8, 7]), (7, [6]), (8, [12, 9, 8, 7]), (9, [13, 12, 9, 8, 7]), (10, [55, 13, 12, 9, 8, 7]), (11, [13, 12, 9, 8, 7]), (12, [64, 13, 12, 9, 8, 7]), (13, [13, 12, 9, 8, 7]), (14, [71, 12, 8, 7]), (15, [6]), (16, [88, 12, 8, 7]), (17, [6]), (18, [6])] [(10, [13, 12, 9, 8, 7])]),
  (25, mkAnn [] [] [] [] [(0, [0]), (1, [2])] []),
  (46, mkAnn [] [] [] [] [(0, [0]), (1, [3, 0]), (2, [4, 3, 0]), (3, [12, 4, 3, 0]), (4, [4, 3, 0]), (5, [4, 3, 0]), (6, [2])] [(3, [4, 3, 0])]),
  (19, mkAnn [] [] [(60, 1, false)] [] [(0, [2, 1, 0]), (1, [7, 2, 1]), (2, [12, 7, 2, 1]), (3, [6]), (4, [7, 2, 1]), (5, [20, 7, 2, 1]), (6, [6]), (7, [7]), (8, [6])] []),
  (29, mkAnn [3] [] [] [] [(0, []), (1, [1]), (2, [2, 1]), (3, [0])] []),
  (49, mkAnn [] [] [(53, 1, false)] [] [(0, [0]), (1, [6, 0]), (2, [3, 2]), (3, [3, 2])] []),
  (100, mkAnn [] [] [] [] [(0, [0]), (1, [3, 0]), (2, [4, 3, 0]), (3, [8, 4, 3, 0]), (4, [4, 3, 0]), (5, [4, 3, 0]), (6, [2])] [(3, [4, 3, 0])]),
  (146, mkAnn [] [] [] [] [(0, [0]), (1, [8, 0]), (2, [4, 3, 2]), (3, [5, 0]), (4, [17, 5, 0]), (5, [4, 3, 2]), (6, [4, 3, 2])] []),
  (145, mkAnn [] [] [] [] [(0, [0]), (1, [7, 6, 5]), (2, [15, 7, 6, 5]), (3, [4, 3, 2]), (4, [20, 6, 5]), (5, [4, 3, 2]), (6, [4, 3, 2])] []),
  (101, mkAnn [] [] [] [] [(0, [0]), (1, [6, 5, 0]), (2, [7, 6, 5, 0]), (3, [9, 7, 6, 5, 0]), (4, [7, 6, 5, 0]), (5, [15, 7, 6, 5, 0]), (6, [4, 3, 2]), (7, [7, 6, 5, 0]), (8, [7, 6, 5, 0]), (9, [32, 7, 6, 5, 0]), (10, [41, 7, 5]), (11, [4, 3, 2]), (12, [4, 3, 2]), (13, [4, 3, 2])] [(3, [7, 6, 5, 0])]),
  (94, mkAnn [] [] [] [] [(0, [0]), (1, [6, 0]), (2, [4, 3, 0]), (3, [17, 4, 0]), (4, [2]), (5, [0]), (6, [2])] [(1, [0])]),
  (53, mkAnn [] [] [] [] [(0, [1, 0]), (1, [12, 1, 0]), (2, [4]), (3, [5, 1, 0]), (4, [6, 5, 0]), (5, [18, 6, 5, 0]), (6, [6, 5, 0]), (7, [6, 5, 0]), (8, [6, 5, 0]), (9, [4])] [(5, [6, 5, 0])]),
  (48, mkAnn [] [] [(49, 1, false)] [] [(0, [0]), (1, [6, 0]), (2, [3, 2]), (3, [3, 2])] []),
  (140, mkAnn [] [] [] [] [(0, [0]), (1, [10, 0]), (2, [3, 2]), (3, [4, 0]), (4, [12, 4, 0]), (5, [4, 0]), (6, [4, 0]), (7, [3, 2])] [(4, [4, 0])]),
  (138, mkAnn [] [] [] [] [(0, [0]), (1, [4, 0]), (2, [4, 0]), (3, [3, 2]), (4, [11, 4, 0]), (5, [3, 2]), (6, [15, 4, 0]), (7, [6, 5, 4, 0]), (8, [24, 4, 0]), (9, [6, 5, 4, 0]), (10, [33, 4, 0]), (11, [6, 5, 4, 0]), (12, [45, 6, 5, 4, 0]), (13, [3, 2]), (14, [7, 6, 5, 4, 0]), (15, [48, 7, 6, 5, 4, 0]), (16, [7, 6, 5, 4, 0]), (17, [60, 7, 6, 5, 4, 0]), (18, [3, 2]), (19, [7, 6, 5, 4, 0]), (20, [83, 5, 4]), (21, [3, 2]), (22, [3, 2])] [(15, [7, 6, 5, 4, 0])]),
  (110, mkAnn [] [] [] [] [(0, [3, 2]), (1, [4])] []),
  (95, mkAnn [] [] [] [] [(0, [0]), (1, [4, 0]), (2, [5, 4, 0]), (3, [14, 5, 4, 0]), (4, [5, 4, 0]), (5, [6, 5, 4, 0]), (6, [28, 6, 5, 4, 0]), (7, [3, 2]), (8, [6, 5, 4, 0]), (9, [8, 7, 5, 4, 0]), (10, [41, 7, 5, 4, 0]), (11, [3, 2]), (12, [5, 4, 0]), (13, [10, 9, 4]), (14, [3, 2])] [(3, [5, 4, 0])]),
  (104, mkAnn [] [] [] [] [(0, [4, 1, 0]), (1, [6, 4, 1, 0]), (2, [10, 6, 4, 1, 0]), (3, [6, 4, 1, 0]), (4, [19, 6, 4, 1, 0]), (5, [5, 4]), (6, [5, 4])] [(2, [6, 4, 1, 0])]),
  (144, mkAnn [] [] [] [] [(0, [0]), (1, [3]), (2, [4, 3]), (3, [4, 3]), (4, [4, 3]), (5, [4, 3]), (6, [4, 3]), (7, [4, 3]), (8, [4, 3]), (9, [4, 3]), (10, [2]), (11, [13, 3]), (12, [13, 3]), (13, [13, 3]), (14, [13, 3]), (15, [2]), (16, [18, 3]), (17, [18, 3]), (18, [18, 3]), (19, [18, 3]), (20, [2]), (21, [23, 3]), (22, [2]), (23, [25, 3]), (24, [25, 3]), (25, [25, 3]), (26, [25, 3]), (27, [25, 3]), (28, [25, 3]), (29, [25, 3]), (30, [2]), (31, [33, 3]), (32, [33, 3]), (33, [2]), (34, [36]), (35, [2]), (36, [2])] []),
  (50, mkAnn [] [] [] [] [(0, [1, 0]), (1, [7, 6, 1, 0]), (2, [17, 6, 1, 0]), (3, [5, 4]), (4, [10, 9, 8, 6, 1]), (5, [38, 6]), (6, [5, 4]), (7, [5, 4])] []),
  (102, mkAnn [] [] [] [] [(0, [1, 0]), (1, [5, 1]), (2, [6, 5, 1]), (3, [6, 5, 1]), (4, [6, 5, 1]), (5, [6, 5, 1]), (6, [6, 5, 1]), (7, [4]), (8, [15, 5, 1]), (9, [4]), (10, [20, 5, 1]), (11, [4]), (12, [25, 5, 1]), (13, [25, 5, 1]), (14, [25, 5, 1]), (15, [25, 5, 1]), (16, [25, 5, 1]), (17, [25, 5, 1]), (18, [25, 5, 1]), (19, [25, 5, 1]), (20, [4]), (21, [36, 5, 1]), (22, [36, 5, 1]), (23, [4]), (24, [42, 5, 1]), (25, [42, 5, 1]), (26, [4]), (27, [47, 5, 1]), (28, [4]), (29, [51, 5, 1]), (30, [4]), (31, [56, 5, 1]), (32, [4]), (33, [61, 5, 1]), (34, [61, 5, 1]), (35, [61, 5, 1]), (36, [4]), (37, [68, 5, 1]), (38, [4]), (39, [72, 1]), (40, [4]), (41, [4])] []),
  (96, mkAnn [] [] [] [] [(0, [1, 0]), (1, [5, 1, 0]), (2, [6, 5, 1, 0]), (3, [10, 6, 5, 1, 0]), (4, [6, 5, 1, 0]), (5, [19, 6, 5, 1, 0]), (6, [6, 5, 1, 0]), (7, [4])] [(3, [6, 5, 1, 0])]),
  (67, mkAnn [] [] [] [] [(0, [1, 0]), (1, [9, 8, 7, 1, 0]), (2, [36, 8, 7, 1, 0]), (3, [6, 5, 4]), (4, [10, 8, 7, 0]), (5, [11, 10, 8, 7, 0]), (6, [45, 11, 10, 8, 7, 0]), (7, [14, 13, 12, 11, 10, 8, 7, 0]), (8, [59, 13, 12, 11, 10, 8, 7, 0]), (9, [6, 5, 4]), (10, [17, 16, 15, 13, 12, 11, 10, 8, 7, 0]), (11, [70, 16, 15, 13, 12, 11, 10, 8, 7, 0]), (12, [6, 5, 4]), (13, [19, 16, 15, 13, 12, 11, 10, 8, 7, 0]), (14, [90, 16, 15, 13, 12, 11, 10, 8, 7, 0]), (15, [6, 5, 4]), (16, [20, 16, 15, 13, 11, 10, 8, 7, 0]), (17, [96, 20, 16, 15, 13, 11, 10, 8, 7, 0]), (18, [6, 5, 4]), (19, [16, 13, 11, 10, 8, 7, 0]), (20, [11, 10, 8, 7, 0]), (21, [6, 5, 4])] [(6, [11, 10, 8, 7, 0])]),
  (72, mkAnn [] [] [] [] [(0, [1, 0]), (1, [10, 1, 0]), (2, [4]), (3, [5, 1, 0]), (4, [14, 5, 1, 0]), (5, [5, 1, 0]), (6, [26, 5, 1, 0]), (7, [4]), (8, [4])] [(4, [5, 1, 0])]),
  (141, mkAnn [] [] [] [] [(0, [1, 0]), (1, [5, 1, 0]), (2, [9, 5, 1, 0]), (3, [5, 1, 0]), (4, [17, 5, 1, 0]), (5, [4]), (6, [4])] [(2, [5, 1, 0])]),
  (139, mkAnn [] [] [(48, 1, false)] [] [(0, [1]), (1, [16, 1]), (2, [17, 16, 1]), (3, [3, 2]), (4, [31, 16, 1]), (5, [3, 2]), (6, [45, 16, 1]), (7, [3, 2]), (8, [59, 16, 1]), (9, [5, 4]), (10, [3, 2]), (11, [70, 16, 1]), (12, [7, 6]), (13, [3, 2]), (14, [81, 16, 1]), (15, [9, 8]), (16, [3, 2]), (17, [92, 1]), (18, [11, 10, 1]), (19, [13, 12, 11, 10]), (20, [3, 2]), (21, [3, 2])] []),
  (105, mkAnn [] [] [] [] [(0, [1, 0]), (1, [5, 1]), (2, [6, 5, 1]), (3, [6, 5, 1]), (4, [6, 5, 1]), (5, [6, 5, 1]), (6, [6, 5, 1]), (7, [6, 5, 1]), (8, [6, 5, 1]), (9, [6, 5, 1]), (10, [16]), (11, [4]), (12, [17, 5, 1]), (13, [17, 5, 1]), (14, [17, 5, 1]), (15, [22]), (16, [4]), (17, [23, 1]), (18, [26]), (19, [4]), (20, [4])] []),
  (103, mkAnn [] [] [] [] [(0, [4, 1, 0]), (1, [7, 4, 1, 0]), (2, [8, 7, 4, 1, 0]), (3, [26, 8, 7, 4, 1]), (4, [27, 26, 8, 7, 4, 1]), (5, [8, 7, 4, 1]), (6, [29, 26, 8, 7, 4, 1]), (7, [8, 7, 4, 1]), (8, [31, 26, 8, 7, 4, 1]), (9, [8, 7, 4, 1]), (10, [33, 26, 8, 7, 4, 1]), (11, [11, 10, 9, 7, 4]), (12, [11, 10, 7, 4]), (13, [6, 5, 4]), (14, [47, 26, 8, 7, 4, 1]), (15, [14, 13, 12, 7, 4]), (16, [14, 13, 7, 4]), (17, [6, 5, 4]), (18, [61, 26, 8, 7, 4, 1]), (19, [17, 16, 15, 7, 4]), (20, [17, 16, 7, 4]), (21, [6, 5, 4]), (22, [77, 8, 7, 4, 1]), (23, [20, 19, 18, 7, 4, 1]), (24, [86, 19, 18, 7, 4, 1]), (25, [6, 5, 4]), (26, [22, 21, 20, 19, 18, 7, 4]), (27, [22, 20, 19, 7, 4]), (28, [6, 5, 4]), (29, [109, 8, 7, 4, 1]), (30, [6, 5, 4]), (31, [8, 7, 4]), (32, [6, 5, 4])] []),
  (36, mkAnn [] [] [] [] [(0, [3, 2]), (1, [112, 3, 2]), (2, [4]), (3, [163, 3, 2]), (4, [4]), (5, [5, 3, 2]), (6, [168, 5, 3, 2]), (7, [5, 3, 2]), (8, [181, 5, 3, 2]), (9, [4]), (10, [6, 3, 2]), (11, [186, 6, 3, 2]), (12, [6, 3, 2]), (13, [199, 6, 3, 2]), (14, [4]), (15, [7, 3, 2]), (16, [204, 7, 3, 2]), (17, [7, 3, 2]), (18, [217, 7, 3, 2]), (19, [4]), (20, [9, 8]), (21, [4])] [(6, [5, 3, 2]), (11, [6, 3, 2]), (16, [7, 3, 2])]),
  (51, mkAnn [] [] [] [] [(0, [0]), (1, [2])] []),
  (13, mkAnn [] [] [] [] [(0, [1]), (1, [5, 4, 1]), (2, [7, 6, 5, 4, 1]), (3, [9, 8, 7, 6, 5, 4, 1]), (4, [11, 10, 9, 8, 7, 6, 5, 4, 1]), (5, [12, 10, 8, 6, 4, 1]), (6, [12, 10, 8, 6, 4, 1]), (7, [13, 12, 10, 8, 1]), (8, [13, 12, 10, 1]), (9, [13, 12, 10, 1]), (10, [3, 2])] []),
  (14, mkAnn [] [] [] [] [(0, [1]), (1, [5, 4, 1]), (2, [7, 6, 5, 1]), (3, [9, 8, 7, 6, 5, 1]), (4, [8, 6, 5, 1]), (5, [10, 8, 5, 1]), (6, [11, 10, 8, 5, 1]), (7, [72, 11, 10, 8, 5, 1]), (8, [11, 10, 8, 5, 1]), (9, [11, 10, 8, 5, 1]), (10, [11, 10, 8, 5, 1]), (11, [3, 2])] [(7, [11, 10, 8, 5, 1])]),
  (22, mkAnn [] [] [] [] [(0, [2, 0]), (1, [4, 2, 0]), (2, [5, 4, 2, 0]), (3, [6, 5, 4, 2, 0]), (4, [5, 4, 2, 0]), (5, [5, 4, 2, 0]), (6, [5, 4, 2, 0]), (7, [48, 5, 4, 2, 0]), (8, [9, 8, 7, 5, 4, 2, 0]), (9, [7, 5, 4, 2, 0]), (10, [5, 4, 2, 0]), (11, [11, 10, 5, 4, 2, 0]), (12, [93, 5, 2]), (13, [3, 2]), (14, [3, 2])] []),
  (24, mkAnn [] [] [] [] [(0, [2, 0]), (1, [4, 2, 0]), (2, [6, 5, 4, 2, 0]), (3, [7, 6, 4, 2, 0]), (4, [8, 7, 6, 4, 2, 0]), (5, [7, 6, 4, 2, 0]), (6, [9, 7, 6, 4, 2, 0]), (7, [10, 9, 7, 6, 4, 2, 0]), (8, [44, 10, 9, 7, 6, 4, 2, 0]), (9, [10, 9, 7, 6, 4, 2, 0]), (10, [10, 9, 7, 6, 4, 2, 0]), (11, [7, 6, 4, 2, 0]), (12, [12, 11, 7, 6, 4, 2, 0]), (13, [80, 7, 2]), (14, [3, 2]), (15, [3, 2])] [(8, [10, 9, 7, 6, 4, 2, 0])]),
  (26, mkAnn [] [] [] [] [(0, [3, 2]), (1, [4])] []),
  (27, mkAnn [] [] [] [] [(0, [3, 2]), (1, [41, 3, 2]), (2, [4]), (3, [5, 3, 2]), (4, [46, 5, 3, 2]), (5, [5, 3, 2]), (6, [59, 5, 3, 2]), (7, [4]), (8, [4])] [(4, [5, 3, 2])]),
  (52, mkAnn [] [] [] [] [(0, [1, 0]), (1, [5, 0]), (2, [4]), (3, [4])] []),
  (1000000, {})]
def ann : Nat → Ann := lookT {} annT
def byrefT : List (Nat × Bool) := [
  (28, true),
  (1000000, false)]
def BY : Nat → Bool := lookT false byrefT
noncomputable def CF : Nat → Option AFunc := compF Tryd.prog ann
noncomputable def FC : Nat → Option AFunc := fun f => (CF f).map stripF
def primT : List (Nat × Option (List AVal → AHeap → Option (AVal × AHeap))) := [
  (111, some (clonePrim 1 1)),
  (137, some (clonePrim 5 72)),
  (142, some (validPrim)),
  (1000000, none)]
def PR : Prims := lookT none primT
def oI (d : Nat) (i : Ins) : AOp := ⟨some d, i, none, []⟩
def oN (i : Ins) : AOp := ⟨none, i, none, []⟩
theorem xw (c d : ACode) (h : c = d) (m : Nat) (tm : Tms) (σ : AHeap) : evC FC PR BY m c tm σ = evC FC PR BY m d tm σ := by rw [h]
noncomputable abbrev E : Oracle := EV FC PR BY
theorem E_eq {f : Nat} {fn : AFunc} (hp : PR f = none) (hf : FC f = some fn) (args : List AVal) (σ : AHeap) : E f args σ = finA σ.length fn (evC FC PR BY σ.length fn.body (enterA 0 args []) σ) := EV_eq hp hf args σ
end Go.Proofs.YtmlkhhidifjjfaaDoor
namespace Go.Proofs.YtmlkhhidifjjfaaDoor
set_option linter.unusedSimpArgs false
set_option linter.unusedVariables false
set_option linter.defProp false
def d_tidingslaw19_Made_Item_k0 : ACode := (.seq (.seq (.region [oI 68 (.faddr 2 (.t 1)), oI 69 (.ld none (.t 68)), oI 70 (.len (.t 69)), oI 71 (.bin .gtr (.t 70) (.c (.int .i64 0)))] none [71, 4, 2, 1]) (.cond (.t 71) (.region [oI 72 (.faddr 2 (.t 1)), oI 73 (.ld none (.t 72)), oI 74 (.call 46 0 true [(.t 73)]), oI 75 (.bin .add (.c (.str [36, 115, 104, 97, 114, 101, 47, 103, 47])) (.t 74)), oI 76 (.faddr 13 (.t 4)), oN (.st 1 (.t 76) (.t 75))] none [4, 2]) .skip)) (.seq (.region [oI 77 (.ld (some 14) (.t 4)), oN (.st 14 (.t 2) (.t 77))] none [2]) .ret))
def c_tidingslaw19_Made_Item_k0 : ACode := d_tidingslaw19_Made_Item_k0
def x_tidingslaw19_Made_Item_k0 := xw c_tidingslaw19_Made_Item_k0 d_tidingslaw19_Made_Item_k0 rfl
def d_tidingslaw19_Made_Item_l6 : ACode := (.seq (.seq (.region [oI 45 (.mov (.t 5)), oI 46 (.faddr 13 (.t 1)), oI 47 (.ld none (.t 46)), oI 48 (.len (.t 47)), oI 49 (.bin .lss (.t 45) (.t 48)), oI 50 (.mov (.t 49)), ⟨(some 51), (.mov (.t 5)), (some (50, true)), []⟩, ⟨(some 52), (.bin .lss (.t 51) (.c (.int .i64 4))), (some (50, true)), []⟩, oI 53 (.pick (.t 50) (.t 52) (.c (.bool false)))] none [53, 5, 4, 2, 1]) (.cond (.t 53) .skip (.exit 0))) (.seq (.block 1 (.region [oI 56 (.faddr 12 (.t 4)), oI 57 (.ld none (.t 56)), oI 58 (.faddr 13 (.t 1)), oI 59 (.ld none (.t 58)), oI 60 (.mov (.t 5)), oI 61 (.iaddr 1 (.t 59) (.t 60)), oI 62 (.ld none (.t 61)), oI 63 (.bin .and (.t 62) (.c (.int .i64 16777215))), oI 64 (.bin .add (.c (.int .i64 1)) (.t 63)), oI 65 (.bslice false 1 1 (.int .i64 0) [(0, (.t 64))]), oI 66 (.app 1 8 (.int .i64 0) (.t 57) (.t 65)), oI 67 (.faddr 12 (.t 4)), oN (.st 1 (.t 67) (.t 66))] (some [(1, 3), (1, 5), (1, 6), (1, 9)]) [5, 4, 2, 1])) (.region [oI 54 (.mov (.t 5)), oI 55 (.bin .add (.t 54) (.c (.int .i64 1))), oI 5 (.mov (.t 55))] none [5, 4, 2, 1])))
def c_tidingslaw19_Made_Item_l6 : ACode := d_tidingslaw19_Made_Item_l6
def x_tidingslaw19_Made_Item_l6 := xw c_tidingslaw19_Made_Item_l6 d_tidingslaw19_Made_Item_l6 rfl
def b_tidingslaw19_Made_Item : ACode := (.seq (.region [oI 1 (.box (.t 0)), oI 2 (.alloc [(.str []), (.lst true []), (.int .i64 0), (.bool false), (.str []), (.int .i64 0), (.lst true []), (.int .i64 0), (.int .i64 0), (.int .i64 0), (.int .i64 0), (.bool false), (.lst true []), (.str [])])] none [2, 1]) (.seq (.region [oI 6 (.faddr 0 (.t 1)), oI 7 (.ld none (.t 6)), oI 8 (.call 46 0 true [(.t 7)]), oI 9 (.bin .add (.c (.str [116])) (.t 8)), oI 10 (.faddr 3 (.t 1)), oI 11 (.ld none (.t 10)), oI 12 (.call 18 0 true [(.t 11), (.c (.int .i64 300))]), oI 13 (.faddr 4 (.t 1)), oI 14 (.ld none (.t 13)), oI 15 (.call 39 0 true [(.t 14), (.c (.int .i64 0)), (.c (.int .i64 2))]), oI 16 (.faddr 6 (.t 1)), oI 17 (.ld none (.t 16)), oI 18 (.faddr 1 (.t 1)), oI 19 (.ld none (.t 18)), oI 20 (.call 46 0 true [(.t 19)]), oI 21 (.faddr 9 (.t 1)), oI 22 (.ld (some 4) (.t 21)), oI 23 (.call 47 0 true [(.t 22)]), oI 24 (.faddr 14 (.t 1)), oI 25 (.ld none (.t 24)), oI 26 (.bin .and (.t 25) (.c (.int .i64 255))), oI 27 (.faddr 15 (.t 1)), oI 28 (.ld none (.t 27)), oI 29 (.bin .and (.t 28) (.c (.int .i64 16777215))), oI 30 (.build [(.str []), (.lst true []), (.int .i64 0), (.bool false), (.str []), (.int .i64 0), (.lst true []), (.int .i64 0), (.int .i64 0), (.int .i64 0)] [(0, 1, (.t 9)), (1, 1, (.t 12)), (2, 1, (.t 15)), (3, 1, (.t 17)), (4, 1, (.t 20)), (6, 1, (.t 23)), (7, 1, (.t 26)), (8, 1, (.t 29))]), oI 3 (.alloc [(.str []), (.lst true []), (.int .i64 0), (.bool false), (.str []), (.int .i64 0), (.lst true []), (.int .i64 0), (.int .i64 0), (.int .i64 0)]), oN (.st 10 (.t 3) (.t 30))] (some [(1, 5), (2, 5), (1, 8), (2, 8), (5, 8), (6, 8), (1, 11), (2, 11), (5, 11), (6, 11), (8, 11), (9, 11), (1, 13), (2, 13), (5, 13), (6, 13), (8, 13), (9, 13), (11, 13), (11, 14), (1, 16), (2, 16), (5, 16), (6, 16), (8, 16), (9, 16), (11, 16), (13, 16), (14, 16), (11, 17), (1, 19), (2, 19), (5, 19), (6, 19), (8, 19), (9, 19), (11, 19), (13, 19), (14, 19), (16, 19), (17, 19), (1, 22), (2, 22), (5, 22), (6, 22), (8, 22), (9, 22), (11, 22), (13, 22), (14, 22), (16, 22), (17, 22), (19, 22), (1, 25), (2, 25), (5, 25), (6, 25), (8, 25), (9, 25), (11, 25), (13, 25), (14, 25), (16, 25), (17, 25), (19, 25), (22, 25)]) [3, 2, 1]) (.seq (.seq (.region [oI 31 (.faddr 8 (.t 1)), oI 32 (.ld none (.t 31)), oI 33 (.bin .gtr (.t 32) (.c (.int .i64 0)))] none [33, 3, 2, 1]) (.cond (.t 33) (.region [oI 34 (.faddr 8 (.t 1)), oI 35 (.ld none (.t 34)), oI 36 (.bin .and (.t 35) (.c (.int .i64 65535))), oI 37 (.faddr 5 (.t 3)), oN (.st 1 (.t 37) (.t 36))] none [3, 2, 1]) .skip)) (.seq (.region [oI 38 (.ld (some 10) (.t 3)), oI 39 (.faddr 5 (.t 1)), oI 40 (.ld none (.t 39)), oI 41 (.call 39 0 true [(.t 40), (.c (.int .i64 0)), (.c (.int .i64 2))]), oI 42 (.faddr 7 (.t 1)), oI 43 (.ld none (.t 42)), oI 44 (.build [(.str []), (.lst true []), (.int .i64 0), (.bool false), (.str []), (.int .i64 0), (.lst true []), (.int .i64 0), (.int .i64 0), (.int .i64 0), (.int .i64 0), (.bool false), (.lst true []), (.str [])] [(0, 10, (.t 38)), (10, 1, (.t 41)), (11, 1, (.t 43))]), oI 4 (.alloc [(.str []), (.lst true []), (.int .i64 0), (.bool false), (.str []), (.int .i64 0), (.lst true []), (.int .i64 0), (.int .i64 0), (.int .i64 0), (.int .i64 0), (.bool false), (.lst true []), (.str [])]), oN (.st 14 (.t 4) (.t 44))] (some [(0, 2), (0, 3), (0, 5), (2, 5), (3, 5), (0, 7), (2, 7), (3, 7), (5, 7)]) [4, 2, 1]) (.seq (.seq (.region [oI 5 (.mov (.c (.int .i64 0)))] none [5, 4, 2, 1]) (.block 0 (.loop [5, 4, 2, 1] c_tidingslaw19_Made_Item_l6))) c_tidingslaw19_Made_Item_k0)))))
def c_tidingslaw19_Made_Item : AFunc := ⟨[(.cell 2 (some 14))], b_tidingslaw19_Made_Item⟩
theorem cf_tidingslaw19_Made_Item : FC 12 = some c_tidingslaw19_Made_Item := by kernel_rfl
theorem cb_tidingslaw19_Made_Item : c_tidingslaw19_Made_Item.body = b_tidingslaw19_Made_Item := rfl
theorem cr_tidingslaw19_Made_Item : c_tidingslaw19_Made_Item.res = [(.cell 2 (some 14))] := rfl
/-- slots [5, 4, 2, 1] -/
noncomputable def K_tidingslaw19_Made_Item_l6 (m : Nat) (tm : Tms) (σ : AHeap) : Option (AVal × AHeap) := (finA m c_tidingslaw19_Made_Item (seqX FC PR BY m c_tidingslaw19_Made_Item_k0 (Option.map (blockA 0) (evL FC PR BY m [5, 4, 2, 1] c_tidingslaw19_Made_Item_l6 tm σ))))
def d_tidingslaw19_Props_list_k0 : ACode := (.seq (.region [oI 62 (.mov (.t 3)), oI 2 (.mov (.t 62))] none [2]) .ret)
def c_tidingslaw19_Props_list_k0 : ACode := d_tidingslaw19_Props_list_k0
def x_tidingslaw19_Props_list_k0 := xw c_tidingslaw19_Props_list_k0 d_tidingslaw19_Props_list_k0 rfl
def d_tidingslaw19_Props_list_l9 : ACode := (.seq (.seq (.region [oI 37 (.mov (.t 4)), oI 38 (.faddr 3 (.t 1)), oI 39 (.ld none (.t 38)), oI 40 (.len (.t 39)), oI 41 (.bin .lss (.t 37) (.t 40)), oI 42 (.mov (.t 41)), ⟨(some 43), (.mov (.t 4)), (some (42, true)), []⟩, ⟨(some 44), (.bin .lss (.t 43) (.c (.int .i64 4))), (some (42, true)), []⟩, oI 45 (.pick (.t 42) (.t 44) (.c (.bool false)))] none [45, 4, 3, 1]) (.cond (.t 45) .skip (.exit 0))) (.seq (.block 1 (.region [oI 48 (.mov (.t 3)), oI 49 (.faddr 3 (.t 1)), oI 50 (.ld none (.t 49)), oI 51 (.mov (.t 4)), oI 52 (.mov (.t 4)), oI 53 (.bin .add (.t 52) (.c (.int .i64 1))), oI 54 (.slice 1 (.t 50) (some (.t 51)) (some (.t 53)) none), oI 55 (.call 46 0 true [(.t 54)]), oI 56 (.faddr 3 (.t 1)), oI 57 (.ld none (.t 56)), oI 58 (.call 46 0 true [(.t 57)]), oI 59 (.build [(.int .i64 0), (.int .i64 0), (.str []), (.str []), (.lst true [])] [(0, 1, (.c (.int .i64 38))), (2, 1, (.t 55)), (3, 1, (.t 58))]), oI 60 (.bslice false 5 1 (.agg [(.int .i64 0), (.int .i64 0), (.str []), (.str []), (.lst true [])]) [(0, (.t 59))]), oI 61 (.app 5 72 (.agg [(.int .i64 0), (.int .i64 0), (.str []), (.str []), (.lst true [])]) (.t 48) (.t 60)), oI 3 (.mov (.t 61))] (some [(2, 9), (6, 9), (7, 9)]) [4, 3, 1])) (.region [oI 46 (.mov (.t 4)), oI 47 (.bin .add (.t 46) (.c (.int .i64 1))), oI 4 (.mov (.t 47))] none [4, 3, 1])))
def c_tidingslaw19_Props_list_l9 : ACode := d_tidingslaw19_Props_list_l9
def x_tidingslaw19_Props_list_l9 := xw c_tidingslaw19_Props_list_l9 d_tidingslaw19_Props_list_l9 rfl
def b_tidingslaw19_Props_list : ACode := (.seq (.region [oI 1 (.box (.t 0)), oI 2 (.mov (.c (.lst true [])))] none [1]) (.seq (.region [oI 3 (.mov (.c (.lst true [])))] none [3, 1]) (.seq (.seq (.region [oI 5 (.faddr 0 (.t 1)), oI 6 (.ld none (.t 5)), oI 7 (.bin .geq (.t 6) (.c (.int .i64 0)))] none [7, 3, 1]) (.cond (.t 7) (.region [oI 8 (.mov (.t 3)), oI 9 (.faddr 0 (.t 1)), oI 10 (.ld none (.t 9)), oI 11 (.bin .and (.t 10) (.c (.int .i64 1))), oI 12 (.build [(.int .i64 0), (.int .i64 0), (.str []), (.str []), (.lst true [])] [(0, 1, (.c (.int .i64 1))), (1, 1, (.t 11))]), oI 13 (.bslice false 5 1 (.agg [(.int .i64 0), (.int .i64 0), (.str []), (.str []), (.lst true [])]) [(0, (.t 12))]), oI 14 (.app 5 72 (.agg [(.int .i64 0), (.int .i64 0), (.str []), (.str []), (.lst true [])]) (.t 8) (.t 13)), oI 3 (.mov (.t 14))] none [3, 1]) .skip)) (.seq (.seq (.region [oI 15 (.faddr 1 (.t 1)), oI 16 (.ld none (.t 15)), oI 17 (.len (.t 16)), oI 18 (.bin .gtr (.t 17) (.c (.int .i64 0)))] none [18, 3, 1]) (.cond (.t 18) (.region [oI 19 (.mov (.t 3)), oI 20 (.faddr 1 (.t 1)), oI 21 (.ld none (.t 20)), oI 22 (.call 46 0 true [(.t 21)]), oI 23 (.build [(.int .i64 0), (.int .i64 0), (.str []), (.str []), (.lst true [])] [(0, 1, (.c (.int .i64 3))), (2, 1, (.t 22))]), oI 24 (.bslice false 5 1 (.agg [(.int .i64 0), (.int .i64 0), (.str []), (.str []), (.lst true [])]) [(0, (.t 23))]), oI 25 (.app 5 72 (.agg [(.int .i64 0), (.int .i64 0), (.str []), (.str []), (.lst true [])]) (.t 19) (.t 24)), oI 3 (.mov (.t 25))] none [3, 1]) .skip)) (.seq (.seq (.region [oI 26 (.faddr 2 (.t 1)), oI 27 (.ld none (.t 26)), oI 28 (.len (.t 27)), oI 29 (.bin .gtr (.t 28) (.c (.int .i64 0)))] none [29, 3, 1]) (.cond (.t 29) (.region [oI 30 (.mov (.t 3)), oI 31 (.faddr 2 (.t 1)), oI 32 (.ld none (.t 31)), oI 33 (.call 18 0 true [(.t 32), (.c (.int .i64 30))]), oI 34 (.build [(.int .i64 0), (.int .i64 0), (.str []), (.str []), (.lst true [])] [(0, 1, (.c (.int .i64 9))), (4, 1, (.t 33))]), oI 35 (.bslice false 5 1 (.agg [(.int .i64 0), (.int .i64 0), (.str []), (.str []), (.lst true [])]) [(0, (.t 34))]), oI 36 (.app 5 72 (.agg [(.int .i64 0), (.int .i64 0), (.str []), (.str []), (.lst true [])]) (.t 30) (.t 35)), oI 3 (.mov (.t 36))] none [3, 1]) .skip)) (.seq (.seq (.region [oI 4 (.mov (.c (.int .i64 0)))] none [4, 3, 1]) (.block 0 (.loop [4, 3, 1] c_tidingslaw19_Props_list_l9))) c_tidingslaw19_Props_list_k0))))))
def c_tidingslaw19_Props_list : AFunc := ⟨[(.tmp 2)], b_tidingslaw19_Props_list⟩
theorem cf_tidingslaw19_Props_list : FC 47 = some c_tidingslaw19_Props_list := by kernel_rfl
theorem cb_tidingslaw19_Props_list : c_tidingslaw19_Props_list.body = b_tidingslaw19_Props_list := rfl
theorem cr_tidingslaw19_Props_list : c_tidingslaw19_Props_list.res = [(.tmp 2)] := rfl
/-- slots [4, 3, 1] -/
noncomputable def K_tidingslaw19_Props_list_l9 (m : Nat) (tm : Tms) (σ : AHeap) : Option (AVal × AHeap) := (finA m c_tidingslaw19_Props_list (seqX FC PR BY m c_tidingslaw19_Props_list_k0 (Option.map (blockA 0) (evL FC PR BY m [4, 3, 1] c_tidingslaw19_Props_list_l9 tm σ))))
def b_tidingslaw19_NoteBack : ACode := (.seq (.region [oI 1 (.box (.t 0)), oI 2 (.mov (.c (.bool false)))] none [1]) (.seq (.region [oI 8 (.ld (some 16) (.t 1)), oI 9 (.call 12 0 true [(.t 8)]), oI 3 (.alloc [(.str []), (.lst true []), (.int .i64 0), (.bool false), (.str []), (.int .i64 0), (.lst true []), (.int .i64 0), (.int .i64 0), (.int .i64 0), (.int .i64 0), (.bool false), (.lst true []), (.str [])]), oN (.st 14 (.t 3) (.t 9))] none [3]) (.seq (.region [oI 11 (.faddr 0 (.t 3)), oI 12 (.ld (some 10) (.t 11)), oI 13 (.call 16 0 true [(.t 12)]), oI 14 (.call 21 0 true [(.t 13)]), oI 10 (.mov (.t 14)), oI 15 (.ext (.t 10) 0), oI 16 (.ext (.t 10) 1), oI 4 (.alloc [(.str []), (.lst true []), (.int .i64 0), (.bool false), (.str []), (.int .i64 0), (.lst true []), (.int .i64 0), (.int .i64 0), (.int .i64 0)]), oN (.st 10 (.t 4) (.t 15)), oI 5 (.mov (.t 16))] none [5, 4, 3]) (.seq (.region [oI 18 (.ld (some 14) (.t 3)), oI 19 (.call 17 0 true [(.t 18)]), oI 20 (.call 23 0 true [(.t 19)]), oI 17 (.mov (.t 20)), oI 21 (.ext (.t 17) 0), oI 22 (.ext (.t 17) 1), oI 6 (.alloc [(.str []), (.lst true []), (.int .i64 0), (.bool false), (.str []), (.int .i64 0), (.lst true []), (.int .i64 0), (.int .i64 0), (.int .i64 0), (.int .i64 0), (.bool false), (.lst true []), (.str [])]), oN (.st 14 (.t 6) (.t 21)), oI 7 (.mov (.t 22))] none [7, 6, 5, 4, 3]) (.seq (.region [oI 23 (.mov (.t 5)), oI 24 (.call 25 0 true [(.t 23)]), oI 25 (.bin .eql (.t 24) (.c (.int .i64 0))), oI 26 (.mov (.t 25)), ⟨(some 27), (.ld (some 10) (.t 4)), (some (26, true)), []⟩, ⟨(some 28), (.faddr 0 (.t 3)), (some (26, true)), []⟩, ⟨(some 29), (.ld (some 10) (.t 28)), (some (26, true)), []⟩, ⟨(some 30), (.call 30 0 true [(.t 27), (.t 29)]), (some (26, true)), []⟩, oI 31 (.pick (.t 26) (.t 30) (.c (.bool false))), oI 32 (.mov (.t 31)), ⟨(some 33), (.mov (.t 7)), (some (32, true)), []⟩, ⟨(some 34), (.call 25 0 true [(.t 33)]), (some (32, true)), []⟩, ⟨(some 35), (.bin .eql (.t 34) (.c (.int .i64 0))), (some (32, true)), []⟩, oI 36 (.pick (.t 32) (.t 35) (.c (.bool false))), oI 37 (.mov (.t 36)), ⟨(some 38), (.ld (some 14) (.t 6)), (some (37, true)), []⟩, ⟨(some 39), (.ld (some 14) (.t 3)), (some (37, true)), []⟩, ⟨(some 40), (.call 31 0 true [(.t 38), (.t 39)]), (some (37, true)), []⟩, oI 41 (.pick (.t 37) (.t 40) (.c (.bool false))), oI 42 (.mov (.t 41)), ⟨(some 43), (.call 29 0 true []), (some (42, true)), []⟩, oI 44 (.pick (.t 42) (.t 43) (.c (.bool false))), oI 2 (.mov (.t 44))] none [2]) .ret)))))
def c_tidingslaw19_NoteBack : AFunc := ⟨[(.tmp 2)], b_tidingslaw19_NoteBack⟩
theorem cf_tidingslaw19_NoteBack : FC 4 = some c_tidingslaw19_NoteBack := by kernel_rfl
theorem cb_tidingslaw19_NoteBack : c_tidingslaw19_NoteBack.body = b_tidingslaw19_NoteBack := rfl
theorem cr_tidingslaw19_NoteBack : c_tidingslaw19_NoteBack.res = [(.tmp 2)] := rfl
def b_tidingslaw19_num : ACode := (.seq (.region [oI 2 (.mov (.c (.int .i64 0)))] none [0]) (.seq (.region [oI 3 (.mov (.t 0)), oI 2 (.mov (.t 3))] none [2]) .ret))
def c_tidingslaw19_num : AFunc := ⟨[(.tmp 2)], b_tidingslaw19_num⟩
theorem cf_tidingslaw19_num : FC 25 = some c_tidingslaw19_num := by kernel_rfl
theorem cb_tidingslaw19_num : c_tidingslaw19_num.body = b_tidingslaw19_num := rfl
theorem cr_tidingslaw19_num : c_tidingslaw19_num.res = [(.tmp 2)] := rfl
def d_tidingslaw19_plain_k0 : ACode := (.seq (.region [oI 25 (.mov (.t 3)), oI 2 (.mov (.t 25))] none [2]) .ret)
def c_tidingslaw19_plain_k0 : ACode := d_tidingslaw19_plain_k0
def x_tidingslaw19_plain_k0 := xw c_tidingslaw19_plain_k0 d_tidingslaw19_plain_k0 rfl
def d_tidingslaw19_plain_l3 : ACode := (.seq (.seq (.region [oI 5 (.mov (.t 4)), oI 6 (.mov (.t 0)), oI 7 (.len (.t 6)), oI 8 (.bin .lss (.t 5) (.t 7)), oI 9 (.mov (.t 8)), ⟨(some 10), (.mov (.t 4)), (some (9, true)), []⟩, ⟨(some 11), (.bin .lss (.t 10) (.c (.int .i64 30))), (some (9, true)), []⟩, oI 12 (.pick (.t 9) (.t 11) (.c (.bool false)))] none [12, 4, 3, 0]) (.cond (.t 12) .skip (.exit 0))) (.seq (.block 1 (.region [oI 15 (.mov (.t 3)), oI 16 (.mov (.t 0)), oI 17 (.mov (.t 4)), oI 18 (.iaddr 1 (.t 16) (.t 17)), oI 19 (.ld none (.t 18)), oI 20 (.bin .rem (.t 19) (.c (.int .u8 26))), oI 21 (.bin .add (.c (.int .u8 97)) (.t 20)), oI 22 (.bslice false 1 1 (.int .u8 0) [(0, (.t 21))]), oI 23 (.b2s (.t 22)), oI 24 (.bin .add (.t 15) (.t 23)), oI 3 (.mov (.t 24))] none [4, 3, 0])) (.region [oI 13 (.mov (.t 4)), oI 14 (.bin .add (.t 13) (.c (.int .i64 1))), oI 4 (.mov (.t 14))] none [4, 3, 0])))
def c_tidingslaw19_plain_l3 : ACode := d_tidingslaw19_plain_l3
def x_tidingslaw19_plain_l3 := xw c_tidingslaw19_plain_l3 d_tidingslaw19_plain_l3 rfl
def b_tidingslaw19_plain : ACode := (.seq (.region [oI 2 (.mov (.c (.str [])))] none [0]) (.seq (.region [oI 3 (.mov (.c (.str [])))] none [3, 0]) (.seq (.seq (.region [oI 4 (.mov (.c (.int .i64 0)))] none [4, 3, 0]) (.block 0 (.loop [4, 3, 0] c_tidingslaw19_plain_l3))) c_tidingslaw19_plain_k0)))
def c_tidingslaw19_plain : AFunc := ⟨[(.tmp 2)], b_tidingslaw19_plain⟩
theorem cf_tidingslaw19_plain : FC 46 = some c_tidingslaw19_plain := by kernel_rfl
theorem cb_tidingslaw19_plain : c_tidingslaw19_plain.body = b_tidingslaw19_plain := rfl
theorem cr_tidingslaw19_plain : c_tidingslaw19_plain.res = [(.tmp 2)] := rfl
/-- slots [4, 3, 0] -/
noncomputable def K_tidingslaw19_plain_l3 (m : Nat) (tm : Tms) (σ : AHeap) : Option (AVal × AHeap) := (finA m c_tidingslaw19_plain (seqX FC PR BY m c_tidingslaw19_plain_k0 (Option.map (blockA 0) (evL FC PR BY m [4, 3, 0] c_tidingslaw19_plain_l3 tm σ))))
end Go.Proofs.YtmlkhhidifjjfaaDoor
namespace Go.Proofs.YtmlkhhidifjjfaaDoor
set_option linter.unusedSimpArgs false
set_option linter.unusedVariables false
set_option linter.defProp false
def d_prop_Find_k0 : ACode := (.seq (.region [oI 21 (.build [(.int .i64 0), (.int .i64 0), (.str []), (.str []), (.lst true [])] []), oN (.st 5 (.t 4) (.t 21)), oI 5 (.mov (.c (.bool false)))] none [5, 4]) .ret)
def c_prop_Find_k0 : ACode := d_prop_Find_k0
def x_prop_Find_k0 := xw c_prop_Find_k0 d_prop_Find_k0 rfl
def d_prop_Find_l2 : ACode := (.seq (.region [oI 11 (.bin .lss (.t 10) (.t 9))] none [11, 10, 9, 8, 4, 0]) (.seq (.cond (.t 11) .skip (.exit 0)) (.seq (.block 1 (.seq (.region [oI 12 (.iaddr 5 (.t 8) (.t 10)), oI 13 (.ld (some 5) (.t 12)), oI 7 (.alloc [(.int .i64 0), (.int .i64 0), (.str []), (.str []), (.lst true [])]), oN (.st 5 (.t 7) (.t 13))] none [10, 9, 8, 7, 4, 0]) (.seq (.region [oI 14 (.faddr 0 (.t 7)), oI 15 (.ld none (.t 14)), oI 16 (.mov (.t 0)), oI 17 (.bin .eql (.t 15) (.t 16))] none [17, 10, 9, 8, 7, 4, 0]) (.cond (.t 17) (.seq (.region [oI 18 (.ld (some 5) (.t 7)), oI 19 (.call 147 0 true [(.t 18)]), oN (.st 5 (.t 4) (.t 19)), oI 5 (.mov (.c (.bool true)))] none [5, 4]) .ret) .skip)))) (.region [oI 20 (.bin .add (.t 10) (.c (.int .i64 1))), oI 10 (.mov (.t 20))] none [10, 9, 8, 4, 0]))))
def c_prop_Find_l2 : ACode := d_prop_Find_l2
def x_prop_Find_l2 := xw c_prop_Find_l2 d_prop_Find_l2 rfl
def b_prop_Find : ACode := (.seq (.region [oI 4 (.alloc [(.int .i64 0), (.int .i64 0), (.str []), (.str []), (.lst true [])]), oI 5 (.mov (.c (.bool false)))] none [4, 1, 0]) (.seq (.seq (.region [oI 8 (.mov (.t 1)), oI 9 (.len (.t 8)), oI 10 (.mov (.c (.int .i64 0)))] none [10, 9, 8, 4, 0]) (.block 0 (.loop [10, 9, 8, 4, 0] c_prop_Find_l2))) c_prop_Find_k0))
def c_prop_Find : AFunc := ⟨[(.cell 4 (some 5)), (.tmp 5)], b_prop_Find⟩
theorem cf_prop_Find : FC 112 = some c_prop_Find := by kernel_rfl
theorem cb_prop_Find : c_prop_Find.body = b_prop_Find := rfl
theorem cr_prop_Find : c_prop_Find.res = [(.cell 4 (some 5)), (.tmp 5)] := rfl
/-- slots [10, 9, 8, 4, 0] -/
noncomputable def K_prop_Find_l2 (m : Nat) (tm : Tms) (σ : AHeap) : Option (AVal × AHeap) := (finA m c_prop_Find (seqX FC PR BY m c_prop_Find_k0 (Option.map (blockA 0) (evL FC PR BY m [10, 9, 8, 4, 0] c_prop_Find_l2 tm σ))))
def b_prop_Kind : ACode := (.seq (.region [oI 2 (.mov (.c (.int .i64 0)))] none [0]) (.seq (.region [oI 3 (.mov (.t 0)), oI 4 (.call 152 0 true [(.t 3)]), oI 5 (.field none 0 (.t 4)), oI 2 (.mov (.t 5))] none [2]) .ret))
def c_prop_Kind : AFunc := ⟨[(.tmp 2)], b_prop_Kind⟩
theorem cf_prop_Kind : FC 134 = some c_prop_Kind := by kernel_rfl
theorem cb_prop_Kind : c_prop_Kind.body = b_prop_Kind := rfl
theorem cr_prop_Kind : c_prop_Kind.res = [(.tmp 2)] := rfl
def d_prop_Lay_k0 : ACode := (.seq (.region [oI 26 (.mov (.t 6)), oI 27 (.len (.t 26)), oI 28 (.call 82 0 true [(.t 27)]), oI 25 (.mov (.t 28)), oI 29 (.ext (.t 25) 0), oI 30 (.ext (.t 25) 1), oI 9 (.mov (.t 29)), oI 10 (.mov (.t 30))] none [10, 9, 6, 1, 0]) (.seq (.seq (.region [oI 31 (.mov (.t 10)), oI 32 (.bin .neq (.t 31) (.c (.int .i64 0)))] none [32, 9, 6, 1, 0]) (.cond (.t 32) (.seq (.region [oI 4 (.mov (.c (.lst true []))), oI 5 (.mov (.c (.int .i64 129)))] none [5, 4]) .ret) .skip)) (.seq (.region [oI 33 (.mov (.t 9)), oI 34 (.mov (.t 6)), oI 35 (.bslice false 1 2 (.lst true []) [(0, (.t 33)), (1, (.t 34))]), oI 36 (.call 56 0 true [(.t 35)]), oI 6 (.mov (.t 36))] none [6, 1, 0]) (.seq (.region [oI 38 (.mov (.t 0)), oI 39 (.mov (.t 6)), oI 40 (.call 90 0 true [(.t 38), (.t 39)]), oI 37 (.mov (.t 40)), oI 41 (.ext (.t 37) 0), oI 42 (.ext (.t 37) 1), oI 43 (.ext (.t 37) 2), oI 11 (.mov (.t 41)), oI 12 (.mov (.t 42)), oI 13 (.mov (.t 43))] none [13, 12, 11, 6, 1]) (.seq (.seq (.region [oI 44 (.mov (.t 13)), oI 45 (.bin .neq (.t 44) (.c (.int .i64 0))), oI 46 (.mov (.t 45)), ⟨(some 47), (.mov (.t 12)), (some (46, false)), []⟩, ⟨(some 48), (.mov (.t 6)), (some (46, false)), []⟩, ⟨(some 49), (.len (.t 48)), (some (46, false)), []⟩, ⟨(some 50), (.bin .neq (.t 47) (.t 49)), (some (46, false)), []⟩, oI 51 (.pick (.t 46) (.c (.bool true)) (.t 50)), oI 52 (.mov (.t 51)), ⟨(some 53), (.mov (.t 11)), (some (52, false)), []⟩, ⟨(some 54), (.mov (.t 1)), (some (52, false)), []⟩, ⟨(some 55), (.call 43 0 true [(.t 53), (.t 54)]), (some (52, false)), []⟩, ⟨(some 56), (.un .not (.t 55)), (some (52, false)), []⟩, oI 57 (.pick (.t 52) (.c (.bool true)) (.t 56))] none [57, 6]) (.cond (.t 57) (.seq (.region [oI 4 (.mov (.c (.lst true []))), oI 5 (.mov (.c (.int .i64 129)))] none [5, 4]) .ret) .skip)) (.seq (.region [oI 58 (.mov (.t 6)), oI 4 (.mov (.t 58)), oI 5 (.mov (.c (.int .i64 0)))] none [5, 4]) .ret))))))
def c_prop_Lay_k0 : ACode := d_prop_Lay_k0
def x_prop_Lay_k0 := xw c_prop_Lay_k0 d_prop_Lay_k0 rfl
def d_prop_Lay_l3 : ACode := (.seq (.region [oI 17 (.bin .lss (.t 16) (.t 15))] none [17, 16, 15, 14, 6, 1, 0]) (.seq (.cond (.t 17) .skip (.exit 0)) (.seq (.block 1 (.seq (.region [oI 18 (.iaddr 5 (.t 14) (.t 16)), oI 19 (.ld (some 5) (.t 18)), oI 8 (.alloc [(.int .i64 0), (.int .i64 0), (.str []), (.str []), (.lst true [])]), oN (.st 5 (.t 8) (.t 19))] none [16, 15, 14, 8, 6, 1, 0]) (.region [oI 20 (.mov (.t 6)), oI 21 (.ld (some 5) (.t 8)), oI 22 (.call 89 0 true [(.t 21)]), oI 23 (.app 1 1 (.int .u8 0) (.t 20) (.t 22)), oI 6 (.mov (.t 23))] none [16, 15, 14, 6, 1, 0]))) (.region [oI 24 (.bin .add (.t 16) (.c (.int .i64 1))), oI 16 (.mov (.t 24))] none [16, 15, 14, 6, 1, 0]))))
def c_prop_Lay_l3 : ACode := d_prop_Lay_l3
def x_prop_Lay_l3 := xw c_prop_Lay_l3 d_prop_Lay_l3 rfl
def b_prop_Lay : ACode := (.seq (.region [oI 4 (.mov (.c (.lst true []))), oI 5 (.mov (.c (.int .i64 0)))] none [1, 0]) (.seq (.region [oI 6 (.mov (.c (.lst true [])))] none [6, 1, 0]) (.seq (.seq (.region [oI 14 (.mov (.t 1)), oI 15 (.len (.t 14)), oI 16 (.mov (.c (.int .i64 0)))] none [16, 15, 14, 6, 1, 0]) (.block 0 (.loop [16, 15, 14, 6, 1, 0] c_prop_Lay_l3))) c_prop_Lay_k0)))
def c_prop_Lay : AFunc := ⟨[(.tmp 4), (.tmp 5)], b_prop_Lay⟩
theorem cf_prop_Lay : FC 42 = some c_prop_Lay := by kernel_rfl
theorem cb_prop_Lay : c_prop_Lay.body = b_prop_Lay := rfl
theorem cr_prop_Lay : c_prop_Lay.res = [(.tmp 4), (.tmp 5)] := rfl
/-- slots [16, 15, 14, 6, 1, 0] -/
noncomputable def K_prop_Lay_l3 (m : Nat) (tm : Tms) (σ : AHeap) : Option (AVal × AHeap) := (finA m c_prop_Lay (seqX FC PR BY m c_prop_Lay_k0 (Option.map (blockA 0) (evL FC PR BY m [16, 15, 14, 6, 1, 0] c_prop_Lay_l3 tm σ))))
def b_prop_May : ACode := (.seq (.region [oI 4 (.mov (.c (.bool false)))] none [1, 0]) (.seq (.region [oI 5 (.mov (.t 1)), oI 6 (.bin .geq (.t 5) (.c (.int .i64 1))), oI 7 (.mov (.t 6)), ⟨(some 8), (.mov (.t 1)), (some (7, true)), []⟩, ⟨(some 9), (.bin .leq (.t 8) (.c (.int .i64 16))), (some (7, true)), []⟩, oI 10 (.pick (.t 7) (.t 9) (.c (.bool false))), oI 11 (.mov (.t 10)), ⟨(some 12), (.mov (.t 0)), (some (11, true)), []⟩, ⟨(some 13), (.call 152 0 true [(.t 12)]), (some (11, true)), []⟩, ⟨(some 14), (.field none 1 (.t 13)), (some (11, true)), []⟩, ⟨(some 15), (.mov (.t 1)), (some (11, true)), []⟩, ⟨(some 16), (.bin .shr (.t 14) (.t 15)), (some (11, true)), []⟩, ⟨(some 17), (.bin .and (.t 16) (.c (.int .i64 1))), (some (11, true)), []⟩, ⟨(some 18), (.bin .eql (.t 17) (.c (.int .i64 1))), (some (11, true)), []⟩, oI 19 (.pick (.t 11) (.t 18) (.c (.bool false))), oI 4 (.mov (.t 19))] none [4]) .ret))
def c_prop_May : AFunc := ⟨[(.tmp 4)], b_prop_May⟩
theorem cf_prop_May : FC 153 = some c_prop_May := by kernel_rfl
theorem cb_prop_May : c_prop_May.body = b_prop_May := rfl
theorem cr_prop_May : c_prop_May.res = [(.tmp 4)] := rfl
def d_prop_Only_k0 : ACode := (.seq (.region [oI 24 (.mov (.t 5)), oI 4 (.mov (.t 24))] none [4]) .ret)
def c_prop_Only_k0 : ACode := d_prop_Only_k0
def x_prop_Only_k0 := xw c_prop_Only_k0 d_prop_Only_k0 rfl
def d_prop_Only_l3 : ACode := (.seq (.region [oI 11 (.bin .lss (.t 10) (.t 9))] none [11, 10, 9, 8, 5, 1]) (.seq (.cond (.t 11) .skip (.exit 0)) (.seq (.block 1 (.seq (.region [oI 12 (.iaddr 5 (.t 8) (.t 10)), oI 13 (.ld (some 5) (.t 12)), oI 7 (.alloc [(.int .i64 0), (.int .i64 0), (.str []), (.str []), (.lst true [])]), oN (.st 5 (.t 7) (.t 13))] none [10, 9, 8, 7, 5, 1]) (.seq (.region [oI 14 (.mov (.t 1)), oI 15 (.faddr 0 (.t 7)), oI 16 (.ld none (.t 15)), oI 17 (.call 158 0 true [(.t 14), (.t 16)])] none [17, 10, 9, 8, 7, 5, 1]) (.cond (.t 17) (.region [oI 18 (.mov (.t 5)), oI 19 (.ld (some 5) (.t 7)), oI 20 (.call 147 0 true [(.t 19)]), oI 21 (.bslice false 5 1 (.agg [(.int .i64 0), (.int .i64 0), (.str []), (.str []), (.lst true [])]) [(0, (.t 20))]), oI 22 (.app 5 72 (.agg [(.int .i64 0), (.int .i64 0), (.str []), (.str []), (.lst true [])]) (.t 18) (.t 21)), oI 5 (.mov (.t 22))] none [10, 9, 8, 5, 1]) .skip)))) (.region [oI 23 (.bin .add (.t 10) (.c (.int .i64 1))), oI 10 (.mov (.t 23))] none [10, 9, 8, 5, 1]))))
def c_prop_Only_l3 : ACode := d_prop_Only_l3
def x_prop_Only_l3 := xw c_prop_Only_l3 d_prop_Only_l3 rfl
def b_prop_Only : ACode := (.seq (.region [oI 4 (.mov (.c (.lst true [])))] none [1, 0]) (.seq (.region [oI 5 (.mov (.c (.lst true [])))] none [5, 1, 0]) (.seq (.seq (.region [oI 8 (.mov (.t 0)), oI 9 (.len (.t 8)), oI 10 (.mov (.c (.int .i64 0)))] none [10, 9, 8, 5, 1]) (.block 0 (.loop [10, 9, 8, 5, 1] c_prop_Only_l3))) c_prop_Only_k0)))
def c_prop_Only : AFunc := ⟨[(.tmp 4)], b_prop_Only⟩
theorem cf_prop_Only : FC 143 = some c_prop_Only := by kernel_rfl
theorem cb_prop_Only : c_prop_Only.body = b_prop_Only := rfl
theorem cr_prop_Only : c_prop_Only.res = [(.tmp 4)] := rfl
/-- slots [10, 9, 8, 5, 1] -/
noncomputable def K_prop_Only_l3 (m : Nat) (tm : Tms) (σ : AHeap) : Option (AVal × AHeap) := (finA m c_prop_Only (seqX FC PR BY m c_prop_Only_k0 (Option.map (blockA 0) (evL FC PR BY m [10, 9, 8, 5, 1] c_prop_Only_l3 tm σ))))
def d_prop_Read_k0 : ACode := (.seq (.region [oI 57 (.mov (.t 4)), oI 58 (.mov (.t 8)), oI 59 (.mov (.t 7)), oI 60 (.bin .add (.t 58) (.t 59)), oI 4 (.mov (.t 57)), oI 5 (.mov (.t 60)), oI 6 (.mov (.c (.int .i64 0)))] none [6, 5, 4]) .ret)
def c_prop_Read_k0 : ACode := d_prop_Read_k0
def x_prop_Read_k0 := xw c_prop_Read_k0 d_prop_Read_k0 rfl
def d_prop_Read_l5 : ACode := (.seq (.seq (.region [oI 36 (.mov (.t 10)), oI 37 (.len (.t 36)), oI 38 (.bin .gtr (.t 37) (.c (.int .i64 0)))] none [38, 10, 8, 7, 4, 0]) (.cond (.t 38) .skip (.exit 0))) (.block 1 (.seq (.region [oI 40 (.mov (.t 0)), oI 41 (.mov (.t 10)), oI 42 (.mov (.t 4)), oI 43 (.call 136 0 true [(.t 40), (.t 41), (.t 42)]), oI 39 (.mov (.t 43)), oI 44 (.ext (.t 39) 0), oI 45 (.ext (.t 39) 1), oI 46 (.ext (.t 39) 2), oI 11 (.alloc [(.int .i64 0), (.int .i64 0), (.str []), (.str []), (.lst true [])]), oN (.st 5 (.t 11) (.t 44)), oI 12 (.mov (.t 45)), oI 13 (.mov (.t 46))] none [13, 12, 11, 10, 8, 7, 4, 0]) (.seq (.seq (.region [oI 47 (.mov (.t 13)), oI 48 (.bin .neq (.t 47) (.c (.int .i64 0)))] none [48, 13, 12, 11, 10, 8, 7, 4, 0]) (.cond (.t 48) (.seq (.region [oI 49 (.mov (.t 13)), oI 4 (.mov (.c (.lst true []))), oI 5 (.mov (.c (.int .i64 0))), oI 6 (.mov (.t 49))] none [6, 5, 4]) .ret) .skip)) (.seq (.region [oI 50 (.mov (.t 4)), oI 51 (.ld (some 5) (.t 11)), oI 52 (.bslice false 5 1 (.agg [(.int .i64 0), (.int .i64 0), (.str []), (.str []), (.lst true [])]) [(0, (.t 51))]), oI 53 (.app 5 72 (.agg [(.int .i64 0), (.int .i64 0), (.str []), (.str []), (.lst true [])]) (.t 50) (.t 52)), oI 4 (.mov (.t 53))] none [12, 10, 8, 7, 4, 0]) (.region [oI 54 (.mov (.t 10)), oI 55 (.mov (.t 12)), oI 56 (.slice 1 (.t 54) (some (.t 55)) none none), oI 10 (.mov (.t 56))] none [10, 8, 7, 4, 0]))))))
def c_prop_Read_l5 : ACode := d_prop_Read_l5
def x_prop_Read_l5 := xw c_prop_Read_l5 d_prop_Read_l5 rfl
def b_prop_Read : ACode := (.seq (.region [oI 4 (.mov (.c (.lst true []))), oI 5 (.mov (.c (.int .i64 0))), oI 6 (.mov (.c (.int .i64 0)))] none [4, 1, 0]) (.seq (.region [oI 15 (.mov (.t 1)), oI 16 (.call 135 0 true [(.t 15)]), oI 14 (.mov (.t 16)), oI 17 (.ext (.t 14) 0), oI 18 (.ext (.t 14) 1), oI 19 (.ext (.t 14) 2), oI 7 (.mov (.t 17)), oI 8 (.mov (.t 18)), oI 9 (.mov (.t 19))] none [9, 8, 7, 4, 1, 0]) (.seq (.seq (.region [oI 20 (.mov (.t 9)), oI 21 (.bin .neq (.t 20) (.c (.int .i64 0))), oI 22 (.mov (.t 21)), ⟨(some 23), (.mov (.t 7)), (some (22, false)), []⟩, ⟨(some 24), (.mov (.t 1)), (some (22, false)), []⟩, ⟨(some 25), (.len (.t 24)), (some (22, false)), []⟩, ⟨(some 26), (.mov (.t 8)), (some (22, false)), []⟩, ⟨(some 27), (.bin .sub (.t 25) (.t 26)), (some (22, false)), []⟩, ⟨(some 28), (.bin .gtr (.t 23) (.t 27)), (some (22, false)), []⟩, oI 29 (.pick (.t 22) (.c (.bool true)) (.t 28))] none [29, 8, 7, 4, 1, 0]) (.cond (.t 29) (.seq (.region [oI 4 (.mov (.c (.lst true []))), oI 5 (.mov (.c (.int .i64 0))), oI 6 (.mov (.c (.int .i64 129)))] none [6, 5, 4]) .ret) .skip)) (.seq (.seq (.region [oI 30 (.mov (.t 1)), oI 31 (.mov (.t 8)), oI 32 (.mov (.t 8)), oI 33 (.mov (.t 7)), oI 34 (.bin .add (.t 32) (.t 33)), oI 35 (.slice 1 (.t 30) (some (.t 31)) (some (.t 34)) none), oI 10 (.mov (.t 35))] none [10, 8, 7, 4, 0]) (.block 0 (.loop [10, 8, 7, 4, 0] c_prop_Read_l5))) c_prop_Read_k0))))
def c_prop_Read : AFunc := ⟨[(.tmp 4), (.tmp 5), (.tmp 6)], b_prop_Read⟩
theorem cf_prop_Read : FC 90 = some c_prop_Read := by kernel_rfl
theorem cb_prop_Read : c_prop_Read.body = b_prop_Read := rfl
theorem cr_prop_Read : c_prop_Read.res = [(.tmp 4), (.tmp 5), (.tmp 6)] := rfl
/-- slots [10, 8, 7, 4, 0] -/
noncomputable def K_prop_Read_l5 (m : Nat) (tm : Tms) (σ : AHeap) : Option (AVal × AHeap) := (finA m c_prop_Read (seqX FC PR BY m c_prop_Read_k0 (Option.map (blockA 0) (evL FC PR BY m [10, 8, 7, 4, 0] c_prop_Read_l5 tm σ))))
def b_prop_Same : ACode := (.seq (.region [oI 4 (.mov (.c (.bool false)))] none [1, 0]) (.seq (.region [oI 5 (.mov (.t 0)), oI 6 (.mov (.t 1)), oI 7 (.call 91 0 true [(.t 5), (.t 6), (.c (.fn 92 []))]), oI 4 (.mov (.t 7))] none [4]) .ret))
def c_prop_Same : AFunc := ⟨[(.tmp 4)], b_prop_Same⟩
theorem cf_prop_Same : FC 43 = some c_prop_Same := by kernel_rfl
theorem cb_prop_Same : c_prop_Same.body = b_prop_Same := rfl
theorem cr_prop_Same : c_prop_Same.res = [(.tmp 4)] := rfl
def b_prop_Same_1 : ACode := (.seq (.region [oI 2 (.box (.t 0)), oI 3 (.box (.t 1)), oI 4 (.mov (.c (.bool false)))] none [3, 2]) (.seq (.region [oI 5 (.faddr 0 (.t 2)), oI 6 (.ld none (.t 5)), oI 7 (.faddr 0 (.t 3)), oI 8 (.ld none (.t 7)), oI 9 (.bin .eql (.t 6) (.t 8)), oI 10 (.mov (.t 9)), ⟨(some 11), (.faddr 1 (.t 2)), (some (10, true)), []⟩, ⟨(some 12), (.ld none (.t 11)), (some (10, true)), []⟩, ⟨(some 13), (.faddr 1 (.t 3)), (some (10, true)), []⟩, ⟨(some 14), (.ld none (.t 13)), (some (10, true)), []⟩, ⟨(some 15), (.bin .eql (.t 12) (.t 14)), (some (10, true)), []⟩, oI 16 (.pick (.t 10) (.t 15) (.c (.bool false))), oI 17 (.mov (.t 16)), ⟨(some 18), (.faddr 2 (.t 2)), (some (17, true)), []⟩, ⟨(some 19), (.ld none (.t 18)), (some (17, true)), []⟩, ⟨(some 20), (.faddr 2 (.t 3)), (some (17, true)), []⟩, ⟨(some 21), (.ld none (.t 20)), (some (17, true)), []⟩, ⟨(some 22), (.bin .eql (.t 19) (.t 21)), (some (17, true)), []⟩, oI 23 (.pick (.t 17) (.t 22) (.c (.bool false))), oI 24 (.mov (.t 23)), ⟨(some 25), (.faddr 3 (.t 2)), (some (24, true)), []⟩, ⟨(some 26), (.ld none (.t 25)), (some (24, true)), []⟩, ⟨(some 27), (.faddr 3 (.t 3)), (some (24, true)), []⟩, ⟨(some 28), (.ld none (.t 27)), (some (24, true)), []⟩, ⟨(some 29), (.bin .eql (.t 26) (.t 28)), (some (24, true)), []⟩, oI 30 (.pick (.t 24) (.t 29) (.c (.bool false))), oI 31 (.mov (.t 30)), ⟨(some 32), (.faddr 4 (.t 2)), (some (31, true)), []⟩, ⟨(some 33), (.ld none (.t 32)), (some (31, true)), []⟩, ⟨(some 34), (.b2s (.t 33)), (some (31, true)), []⟩, ⟨(some 35), (.faddr 4 (.t 3)), (some (31, true)), []⟩, ⟨(some 36), (.ld none (.t 35)), (some (31, true)), []⟩, ⟨(some 37), (.b2s (.t 36)), (some (31, true)), []⟩, ⟨(some 38), (.bin .eql (.t 34) (.t 37)), (some (31, true)), []⟩, oI 39 (.pick (.t 31) (.t 38) (.c (.bool false))), oI 4 (.mov (.t 39))] none [4]) .ret))
def c_prop_Same_1 : AFunc := ⟨[(.tmp 4)], b_prop_Same_1⟩
theorem cf_prop_Same_1 : FC 92 = some c_prop_Same_1 := by kernel_rfl
theorem cb_prop_Same_1 : c_prop_Same_1.body = b_prop_Same_1 := rfl
theorem cr_prop_Same_1 : c_prop_Same_1.res = [(.tmp 4)] := rfl
def b_prop_copied : ACode := (.seq (.region [oI 1 (.box (.t 0)), oI 2 (.alloc [(.int .i64 0), (.int .i64 0), (.str []), (.str []), (.lst true [])])] none [2, 1]) (.seq (.region [oI 3 (.faddr 4 (.t 1)), oI 4 (.ld none (.t 3)), oI 5 (.call 111 0 true [(.t 4)]), oI 6 (.faddr 4 (.t 1)), oN (.st 1 (.t 6) (.t 5))] none [2, 1]) (.seq (.region [oI 7 (.ld (some 5) (.t 1)), oN (.st 5 (.t 2) (.t 7))] none [2]) .ret)))
def c_prop_copied : AFunc := ⟨[(.cell 2 (some 5))], b_prop_copied⟩
theorem cf_prop_copied : FC 147 = some c_prop_copied := by kernel_rfl
theorem cb_prop_copied : c_prop_copied.body = b_prop_copied := rfl
theorem cr_prop_copied : c_prop_copied.res = [(.cell 2 (some 5))] := rfl
def b_prop_fits : ACode := (.seq (.region [oI 1 (.box (.t 0)), oI 2 (.mov (.c (.bool false)))] none [1]) (.seq (.seq (.region [oI 3 (.faddr 0 (.t 1)), oI 4 (.ld none (.t 3))] none [4, 1]) (.block 0 (.seq (.seq (.region [oI 6 (.bin .eql (.t 4) (.c (.int .i64 11))), oI 5 (.mov (.t 6))] none [5, 4, 1]) (.cond (.t 5) .skip (.seq (.region [oI 7 (.bin .eql (.t 4) (.c (.int .i64 33))), oI 5 (.mov (.t 7))] none [5, 4, 1]) (.cond (.t 5) .skip (.seq (.region [oI 8 (.bin .eql (.t 4) (.c (.int .i64 35))), oI 5 (.mov (.t 8))] none [5, 4, 1]) (.cond (.t 5) .skip (.region [oI 9 (.bin .eql (.t 4) (.c (.int .i64 39))), oI 5 (.mov (.t 9))] none [5, 1]))))))) (.cond (.t 5) (.seq (.region [oI 10 (.faddr 1 (.t 1)), oI 11 (.ld none (.t 10)), oI 12 (.bin .neq (.t 11) (.c (.int .i64 0))), oI 2 (.mov (.t 12))] none [2]) .ret) .skip)))) (.seq (.region [oI 13 (.faddr 0 (.t 1)), oI 14 (.ld none (.t 13)), oI 15 (.call 134 0 true [(.t 14)]), oI 16 (.bin .neq (.t 15) (.c (.int .i64 1))), oI 17 (.mov (.t 16)), ⟨(some 18), (.faddr 1 (.t 1)), (some (17, false)), []⟩, ⟨(some 19), (.ld none (.t 18)), (some (17, false)), []⟩, ⟨(some 20), (.bin .leq (.t 19) (.c (.int .i64 1))), (some (17, false)), []⟩, oI 21 (.pick (.t 17) (.c (.bool true)) (.t 20)), oI 2 (.mov (.t 21))] none [2]) .ret)))
def c_prop_fits : AFunc := ⟨[(.tmp 2)], b_prop_fits⟩
theorem cf_prop_fits : FC 156 = some c_prop_fits := by kernel_rfl
theorem cb_prop_fits : c_prop_fits.body = b_prop_fits := rfl
theorem cr_prop_fits : c_prop_fits.res = [(.tmp 2)] := rfl
def b_prop_laid : ACode := (.seq (.region [oI 1 (.box (.t 0)), oI 2 (.mov (.c (.lst true [])))] none [1]) (.seq (.region [oI 8 (.faddr 0 (.t 1)), oI 9 (.ld none (.t 8)), oI 10 (.call 82 0 true [(.t 9)]), oI 7 (.mov (.t 10)), oI 11 (.ext (.t 7) 0), oI 12 (.ext (.t 7) 1), oI 3 (.mov (.t 11)), oI 4 (.mov (.t 12))] none [3, 1]) (.seq (.region [oI 5 (.mov (.c (.lst true []))), oI 6 (.mov (.c (.lst true [])))] none [6, 5, 3, 1]) (.seq (.seq (.region [oI 13 (.faddr 0 (.t 1)), oI 14 (.ld none (.t 13)), oI 15 (.call 134 0 true [(.t 14)])] none [15, 6, 5, 3, 1]) (.block 0 (.seq (.seq (.region [oI 17 (.bin .eql (.t 15) (.c (.int .i64 1))), oI 16 (.mov (.t 17))] none [16, 15, 6, 5, 3, 1]) (.cond (.t 16) .skip (.seq (.region [oI 18 (.bin .eql (.t 15) (.c (.int .i64 2))), oI 16 (.mov (.t 18))] none [16, 15, 6, 5, 3, 1]) (.cond (.t 16) .skip (.region [oI 19 (.bin .eql (.t 15) (.c (.int .i64 3))), oI 16 (.mov (.t 19))] none [16, 15, 6, 5, 3, 1]))))) (.cond (.t 16) (.region [oI 20 (.faddr 1 (.t 1)), oI 21 (.ld none (.t 20)), oI 22 (.i2i .u64 (.t 21)), oI 23 (.faddr 0 (.t 1)), oI 24 (.ld none (.t 23)), oI 25 (.call 134 0 true [(.t 24)]), oI 26 (.bin .sub (.t 25) (.c (.int .i64 1))), oI 27 (.bin .shl (.c (.int .i64 1)) (.t 26)), oI 28 (.call 59 0 true [(.t 22), (.t 27)]), oI 5 (.mov (.t 28))] (some [(1, 4), (1, 5)]) [6, 5, 3]) (.seq (.region [oI 30 (.bin .eql (.t 15) (.c (.int .i64 4))), oI 29 (.mov (.t 30))] none [29, 15, 6, 5, 3, 1]) (.cond (.t 29) (.region [oI 32 (.faddr 1 (.t 1)), oI 33 (.ld none (.t 32)), oI 34 (.call 82 0 true [(.t 33)]), oI 31 (.mov (.t 34)), oI 35 (.ext (.t 31) 0), oI 36 (.ext (.t 31) 1), oI 5 (.mov (.t 35))] none [6, 5, 3]) (.seq (.region [oI 38 (.bin .eql (.t 15) (.c (.int .i64 5))), oI 37 (.mov (.t 38))] none [37, 15, 6, 5, 3, 1]) (.cond (.t 37) (.region [oI 40 (.faddr 2 (.t 1)), oI 41 (.ld none (.t 40)), oI 42 (.call 54 0 true [(.t 41)]), oI 39 (.mov (.t 42)), oI 43 (.ext (.t 39) 0), oI 44 (.ext (.t 39) 1), oI 5 (.mov (.t 43))] none [6, 5, 3]) (.seq (.region [oI 46 (.bin .eql (.t 15) (.c (.int .i64 6))), oI 45 (.mov (.t 46))] none [45, 15, 6, 5, 3, 1]) (.cond (.t 45) (.region [oI 48 (.faddr 4 (.t 1)), oI 49 (.ld none (.t 48)), oI 50 (.call 55 0 true [(.t 49)]), oI 47 (.mov (.t 50)), oI 51 (.ext (.t 47) 0), oI 52 (.ext (.t 47) 1), oI 5 (.mov (.t 51))] none [6, 5, 3]) (.seq (.region [oI 54 (.bin .eql (.t 15) (.c (.int .i64 7))), oI 53 (.mov (.t 54))] none [53, 6, 5, 3, 1]) (.cond (.t 53) (.seq (.region [oI 56 (.faddr 2 (.t 1)), oI 57 (.ld none (.t 56)), oI 58 (.call 54 0 true [(.t 57)]), oI 55 (.mov (.t 58)), oI 59 (.ext (.t 55) 0), oI 60 (.ext (.t 55) 1), oI 5 (.mov (.t 59))] none [5, 3, 1]) (.region [oI 62 (.faddr 3 (.t 1)), oI 63 (.ld none (.t 62)), oI 64 (.call 54 0 true [(.t 63)]), oI 61 (.mov (.t 64)), oI 65 (.ext (.t 61) 0), oI 66 (.ext (.t 61) 1), oI 6 (.mov (.t 65))] none [6, 5, 3])) .skip)))))))))))) (.seq (.region [oI 67 (.mov (.t 3)), oI 68 (.mov (.t 5)), oI 69 (.mov (.t 6)), oI 70 (.bslice false 1 3 (.lst true []) [(0, (.t 67)), (1, (.t 68)), (2, (.t 69))]), oI 71 (.call 56 0 true [(.t 70)]), oI 2 (.mov (.t 71))] none [2]) .ret)))))
def c_prop_laid : AFunc := ⟨[(.tmp 2)], b_prop_laid⟩
theorem cf_prop_laid : FC 89 = some c_prop_laid := by kernel_rfl
theorem cb_prop_laid : c_prop_laid.body = b_prop_laid := rfl
theorem cr_prop_laid : c_prop_laid.res = [(.tmp 2)] := rfl
def b_prop_of : ACode := (.seq (.region [oI 2 (.alloc [(.int .i64 0), (.int .i64 0)])] none [2, 0]) (.seq (.seq (.region [oI 3 (.mov (.t 0))] none [3, 2]) (.block 0 (.seq (.region [oI 5 (.bin .eql (.t 3) (.c (.int .i64 1))), oI 4 (.mov (.t 5))] none [4, 3, 2]) (.cond (.t 4) (.seq (.region [oI 6 (.bslice false 1 2 (.int .i64 0) [(0, (.c (.int .i64 3))), (1, (.c (.int .i64 16)))]), oI 7 (.call 162 0 true [(.t 6)]), oI 8 (.build [(.int .i64 0), (.int .i64 0)] [(0, 1, (.c (.int .i64 1))), (1, 1, (.t 7))]), oN (.st 2 (.t 2) (.t 8))] none [2]) .ret) (.seq (.region [oI 10 (.bin .eql (.t 3) (.c (.int .i64 2))), oI 9 (.mov (.t 10))] none [9, 3, 2]) (.cond (.t 9) (.seq (.region [oI 11 (.bslice false 1 2 (.int .i64 0) [(0, (.c (.int .i64 3))), (1, (.c (.int .i64 16)))]), oI 12 (.call 162 0 true [(.t 11)]), oI 13 (.build [(.int .i64 0), (.int .i64 0)] [(0, 1, (.c (.int .i64 3))), (1, 1, (.t 12))]), oN (.st 2 (.t 2) (.t 13))] none [2]) .ret) (.seq (.seq (.region [oI 15 (.bin .eql (.t 3) (.c (.int .i64 3))), oI 14 (.mov (.t 15))] none [14, 3, 2]) (.cond (.t 14) .skip (.region [oI 16 (.bin .eql (.t 3) (.c (.int .i64 8))), oI 14 (.mov (.t 16))] none [14, 3, 2]))) (.cond (.t 14) (.seq (.region [oI 17 (.bslice false 1 2 (.int .i64 0) [(0, (.c (.int .i64 3))), (1, (.c (.int .i64 16)))]), oI 18 (.call 162 0 true [(.t 17)]), oI 19 (.build [(.int .i64 0), (.int .i64 0)] [(0, 1, (.c (.int .i64 5))), (1, 1, (.t 18))]), oN (.st 2 (.t 2) (.t 19))] none [2]) .ret) (.seq (.region [oI 21 (.bin .eql (.t 3) (.c (.int .i64 9))), oI 20 (.mov (.t 21))] none [20, 3, 2]) (.cond (.t 20) (.seq (.region [oI 22 (.bslice false 1 2 (.int .i64 0) [(0, (.c (.int .i64 3))), (1, (.c (.int .i64 16)))]), oI 23 (.call 162 0 true [(.t 22)]), oI 24 (.build [(.int .i64 0), (.int .i64 0)] [(0, 1, (.c (.int .i64 6))), (1, 1, (.t 23))]), oN (.st 2 (.t 2) (.t 24))] none [2]) .ret) (.seq (.region [oI 26 (.bin .eql (.t 3) (.c (.int .i64 11))), oI 25 (.mov (.t 26))] none [25, 3, 2]) (.cond (.t 25) (.seq (.region [oI 27 (.bslice false 1 2 (.int .i64 0) [(0, (.c (.int .i64 3))), (1, (.c (.int .i64 8)))]), oI 28 (.call 162 0 true [(.t 27)]), oI 29 (.build [(.int .i64 0), (.int .i64 0)] [(0, 1, (.c (.int .i64 4))), (1, 1, (.t 28))]), oN (.st 2 (.t 2) (.t 29))] none [2]) .ret) (.seq (.region [oI 31 (.bin .eql (.t 3) (.c (.int .i64 17))), oI 30 (.mov (.t 31))] none [30, 3, 2]) (.cond (.t 30) (.seq (.region [oI 32 (.bslice false 1 3 (.int .i64 0) [(0, (.c (.int .i64 1))), (1, (.c (.int .i64 2))), (2, (.c (.int .i64 14)))]), oI 33 (.call 162 0 true [(.t 32)]), oI 34 (.build [(.int .i64 0), (.int .i64 0)] [(0, 1, (.c (.int .i64 3))), (1, 1, (.t 33))]), oN (.st 2 (.t 2) (.t 34))] none [2]) .ret) (.seq (.seq (.region [oI 36 (.bin .eql (.t 3) (.c (.int .i64 18))), oI 35 (.mov (.t 36))] none [35, 3, 2]) (.cond (.t 35) .skip (.region [oI 37 (.bin .eql (.t 3) (.c (.int .i64 26))), oI 35 (.mov (.t 37))] none [35, 3, 2]))) (.cond (.t 35) (.seq (.region [oI 38 (.bslice false 1 1 (.int .i64 0) [(0, (.c (.int .i64 2)))]), oI 39 (.call 162 0 true [(.t 38)]), oI 40 (.build [(.int .i64 0), (.int .i64 0)] [(0, 1, (.c (.int .i64 5))), (1, 1, (.t 39))]), oN (.st 2 (.t 2) (.t 40))] none [2]) .ret) (.seq (.region [oI 42 (.bin .eql (.t 3) (.c (.int .i64 19))), oI 41 (.mov (.t 42))] none [41, 3, 2]) (.cond (.t 41) (.seq (.region [oI 43 (.bslice false 1 1 (.int .i64 0) [(0, (.c (.int .i64 2)))]), oI 44 (.call 162 0 true [(.t 43)]), oI 45 (.build [(.int .i64 0), (.int .i64 0)] [(0, 1, (.c (.int .i64 2))), (1, 1, (.t 44))]), oN (.st 2 (.t 2) (.t 45))] none [2]) .ret) (.seq (.region [oI 47 (.bin .eql (.t 3) (.c (.int .i64 21))), oI 46 (.mov (.t 47))] none [46, 3, 2]) (.cond (.t 46) (.seq (.region [oI 48 (.bslice false 1 3 (.int .i64 0) [(0, (.c (.int .i64 1))), (1, (.c (.int .i64 2))), (2, (.c (.int .i64 15)))]), oI 49 (.call 162 0 true [(.t 48)]), oI 50 (.build [(.int .i64 0), (.int .i64 0)] [(0, 1, (.c (.int .i64 5))), (1, 1, (.t 49))]), oN (.st 2 (.t 2) (.t 50))] none [2]) .ret) (.seq (.region [oI 52 (.bin .eql (.t 3) (.c (.int .i64 22))), oI 51 (.mov (.t 52))] none [51, 3, 2]) (.cond (.t 51) (.seq (.region [oI 53 (.bslice false 1 3 (.int .i64 0) [(0, (.c (.int .i64 1))), (1, (.c (.int .i64 2))), (2, (.c (.int .i64 15)))]), oI 54 (.call 162 0 true [(.t 53)]), oI 55 (.build [(.int .i64 0), (.int .i64 0)] [(0, 1, (.c (.int .i64 6))), (1, 1, (.t 54))]), oN (.st 2 (.t 2) (.t 55))] none [2]) .ret) (.seq (.seq (.region [oI 57 (.bin .eql (.t 3) (.c (.int .i64 23))), oI 56 (.mov (.t 57))] none [56, 3, 2]) (.cond (.t 56) .skip (.region [oI 58 (.bin .eql (.t 3) (.c (.int .i64 25))), oI 56 (.mov (.t 58))] none [56, 3, 2]))) (.cond (.t 56) (.seq (.region [oI 59 (.bslice false 1 1 (.int .i64 0) [(0, (.c (.int .i64 1)))]), oI 60 (.call 162 0 true [(.t 59)]), oI 61 (.build [(.int .i64 0), (.int .i64 0)] [(0, 1, (.c (.int .i64 1))), (1, 1, (.t 60))]), oN (.st 2 (.t 2) (.t 61))] none [2]) .ret) (.seq (.region [oI 63 (.bin .eql (.t 3) (.c (.int .i64 24))), oI 62 (.mov (.t 63))] none [62, 3, 2]) (.cond (.t 62) (.seq (.region [oI 64 (.bslice false 1 1 (.int .i64 0) [(0, (.c (.int .i64 16)))]), oI 65 (.call 162 0 true [(.t 64)]), oI 66 (.build [(.int .i64 0), (.int .i64 0)] [(0, 1, (.c (.int .i64 3))), (1, 1, (.t 65))]), oN (.st 2 (.t 2) (.t 66))] none [2]) .ret) (.seq (.region [oI 68 (.bin .eql (.t 3) (.c (.int .i64 28))), oI 67 (.mov (.t 68))] none [67, 3, 2]) (.cond (.t 67) (.seq (.region [oI 69 (.bslice false 1 2 (.int .i64 0) [(0, (.c (.int .i64 2))), (1, (.c (.int .i64 14)))]), oI 70 (.call 162 0 true [(.t 69)]), oI 71 (.build [(.int .i64 0), (.int .i64 0)] [(0, 1, (.c (.int .i64 5))), (1, 1, (.t 70))]), oN (.st 2 (.t 2) (.t 71))] none [2]) .ret) (.seq (.region [oI 73 (.bin .eql (.t 3) (.c (.int .i64 31))), oI 72 (.mov (.t 73))] none [72, 3, 2]) (.cond (.t 72) (.seq (.region [oI 74 (.bslice false 1 9 (.int .i64 0) [(0, (.c (.int .i64 2))), (1, (.c (.int .i64 4))), (2, (.c (.int .i64 5))), (3, (.c (.int .i64 6))), (4, (.c (.int .i64 7))), (5, (.c (.int .i64 9))), (6, (.c (.int .i64 11))), (7, (.c (.int .i64 14))), (8, (.c (.int .i64 15)))]), oI 75 (.call 162 0 true [(.t 74)]), oI 76 (.build [(.int .i64 0), (.int .i64 0)] [(0, 1, (.c (.int .i64 5))), (1, 1, (.t 75))]), oN (.st 2 (.t 2) (.t 76))] none [2]) .ret) (.seq (.seq (.region [oI 78 (.bin .eql (.t 3) (.c (.int .i64 33))), oI 77 (.mov (.t 78))] none [77, 3, 2]) (.cond (.t 77) .skip (.region [oI 79 (.bin .eql (.t 3) (.c (.int .i64 34))), oI 77 (.mov (.t 79))] none [77, 3, 2]))) (.cond (.t 77) (.seq (.region [oI 80 (.bslice false 1 2 (.int .i64 0) [(0, (.c (.int .i64 1))), (1, (.c (.int .i64 2)))]), oI 81 (.call 162 0 true [(.t 80)]), oI 82 (.build [(.int .i64 0), (.int .i64 0)] [(0, 1, (.c (.int .i64 2))), (1, 1, (.t 81))]), oN (.st 2 (.t 2) (.t 82))] none [2]) .ret) (.seq (.region [oI 84 (.bin .eql (.t 3) (.c (.int .i64 35))), oI 83 (.mov (.t 84))] none [83, 3, 2]) (.cond (.t 83) (.seq (.region [oI 85 (.bslice false 1 1 (.int .i64 0) [(0, (.c (.int .i64 3)))]), oI 86 (.call 162 0 true [(.t 85)]), oI 87 (.build [(.int .i64 0), (.int .i64 0)] [(0, 1, (.c (.int .i64 2))), (1, 1, (.t 86))]), oN (.st 2 (.t 2) (.t 87))] none [2]) .ret) (.seq (.region [oI 89 (.bin .eql (.t 3) (.c (.int .i64 39))), oI 88 (.mov (.t 89))] none [88, 3, 2]) (.cond (.t 88) (.seq (.region [oI 90 (.bslice false 1 2 (.int .i64 0) [(0, (.c (.int .i64 1))), (1, (.c (.int .i64 2)))]), oI 91 (.call 162 0 true [(.t 90)]), oI 92 (.build [(.int .i64 0), (.int .i64 0)] [(0, 1, (.c (.int .i64 3))), (1, 1, (.t 91))]), oN (.st 2 (.t 2) (.t 92))] none [2]) .ret) (.seq (.seq (.region [oI 94 (.bin .eql (.t 3) (.c (.int .i64 36))), oI 93 (.mov (.t 94))] none [93, 3, 2]) (.cond (.t 93) .skip (.seq (.region [oI 95 (.bin .eql (.t 3) (.c (.int .i64 37))), oI 93 (.mov (.t 95))] none [93, 3, 2]) (.cond (.t 93) .skip (.seq (.region [oI 96 (.bin .eql (.t 3) (.c (.int .i64 40))), oI 93 (.mov (.t 96))] none [93, 3, 2]) (.cond (.t 93) .skip (.seq (.region [oI 97 (.bin .eql (.t 3) (.c (.int .i64 41))), oI 93 (.mov (.t 97))] none [93, 3, 2]) (.cond (.t 93) .skip (.region [oI 98 (.bin .eql (.t 3) (.c (.int .i64 42))), oI 93 (.mov (.t 98))] none [93, 3, 2]))))))))) (.cond (.t 93) (.seq (.region [oI 99 (.bslice false 1 1 (.int .i64 0) [(0, (.c (.int .i64 2)))]), oI 100 (.call 162 0 true [(.t 99)]), oI 101 (.build [(.int .i64 0), (.int .i64 0)] [(0, 1, (.c (.int .i64 1))), (1, 1, (.t 100))]), oN (.st 2 (.t 2) (.t 101))] none [2]) .ret) (.seq (.region [oI 103 (.bin .eql (.t 3) (.c (.int .i64 38))), oI 102 (.mov (.t 103))] none [102, 2]) (.cond (.t 102) (.seq (.region [oI 104 (.bslice false 1 3 (.int .i64 0) [(0, (.c (.int .i64 0))), (1, (.c (.int .i64 12))), (2, (.c (.int .i64 13)))]), oI 105 (.call 162 0 true [(.t 104)]), oI 106 (.un .xor (.t 105)), oI 107 (.build [(.int .i64 0), (.int .i64 0)] [(0, 1, (.c (.int .i64 7))), (1, 1, (.t 106))]), oN (.st 2 (.t 2) (.t 107))] none [2]) .ret) .skip)))))))))))))))))))))))))))))))))))))))) (.seq (.region [oI 108 (.build [(.int .i64 0), (.int .i64 0)] []), oN (.st 2 (.t 2) (.t 108))] none [2]) .ret)))
def c_prop_of : AFunc := ⟨[(.cell 2 (some 2))], b_prop_of⟩
theorem cf_prop_of : FC 152 = some c_prop_of := by kernel_rfl
theorem cb_prop_of : c_prop_of.body = b_prop_of := rfl
theorem cr_prop_of : c_prop_of.res = [(.cell 2 (some 2))] := rfl
def b_prop_often : ACode := (.seq (.region [oI 4 (.mov (.c (.bool false)))] none [1, 0]) (.seq (.region [oI 5 (.mov (.t 0)), oI 6 (.bin .eql (.t 5) (.c (.int .i64 38))), oI 7 (.mov (.t 6)), ⟨(some 8), (.mov (.t 0)), (some (7, false)), []⟩, ⟨(some 9), (.bin .eql (.t 8) (.c (.int .i64 11))), (some (7, false)), []⟩, ⟨(some 10), (.mov (.t 9)), (some (7, false)), []⟩, ⟨(some 11), (.mov (.t 1)), (some (10, true)), []⟩, ⟨(some 12), (.bin .eql (.t 11) (.c (.int .i64 3))), (some (10, true)), []⟩, ⟨(some 13), (.pick (.t 10) (.t 12) (.c (.bool false))), (some (7, false)), []⟩, oI 14 (.pick (.t 7) (.c (.bool true)) (.t 13)), oI 4 (.mov (.t 14))] none [4]) .ret))
def c_prop_often : AFunc := ⟨[(.tmp 4)], b_prop_often⟩
theorem cf_prop_often : FC 155 = some c_prop_often := by kernel_rfl
theorem cb_prop_often : c_prop_often.body = b_prop_often := rfl
theorem cr_prop_often : c_prop_often.res = [(.tmp 4)] := rfl
def b_prop_one : ACode := (.seq (.region [oI 6 (.alloc [(.int .i64 0), (.int .i64 0), (.str []), (.str []), (.lst true [])]), oI 7 (.mov (.c (.int .i64 0))), oI 8 (.mov (.c (.int .i64 0)))] none [6, 2, 1, 0]) (.seq (.region [oI 16 (.mov (.t 1)), oI 17 (.call 135 0 true [(.t 16)]), oI 15 (.mov (.t 17)), oI 18 (.ext (.t 15) 0), oI 19 (.ext (.t 15) 1), oI 20 (.ext (.t 15) 2), oI 9 (.mov (.t 18)), oI 10 (.mov (.t 19)), oI 11 (.mov (.t 20))] none [11, 10, 9, 6, 2, 1, 0]) (.seq (.seq (.region [oI 21 (.mov (.t 11)), oI 22 (.bin .neq (.t 21) (.c (.int .i64 0))), oI 23 (.mov (.t 22)), ⟨(some 24), (.mov (.t 9)), (some (23, false)), []⟩, ⟨(some 25), (.mov (.t 0)), (some (23, false)), []⟩, ⟨(some 26), (.call 153 0 true [(.t 24), (.t 25)]), (some (23, false)), []⟩, ⟨(some 27), (.un .not (.t 26)), (some (23, false)), []⟩, oI 28 (.pick (.t 23) (.c (.bool true)) (.t 27))] none [28, 10, 9, 6, 2, 1, 0]) (.cond (.t 28) (.seq (.region [oI 29 (.ld (some 5) (.t 6)), oN (.st 5 (.t 6) (.t 29)), oI 7 (.mov (.c (.int .i64 0))), oI 8 (.mov (.c (.int .i64 129)))] none [8, 7, 6]) .ret) .skip)) (.seq (.region [oI 31 (.mov (.t 9)), oI 32 (.mov (.t 1)), oI 33 (.mov (.t 10)), oI 34 (.slice 1 (.t 32) (some (.t 33)) none none), oI 35 (.call 154 0 true [(.t 31), (.t 34)]), oI 30 (.mov (.t 35)), oI 36 (.ext (.t 30) 0), oI 37 (.ext (.t 30) 1), oI 38 (.ext (.t 30) 2), oN (.st 5 (.t 6) (.t 36)), oI 7 (.mov (.t 37)), oI 12 (.mov (.t 38))] none [12, 10, 9, 7, 6, 2, 0]) (.seq (.region [oI 40 (.mov (.t 9)), oI 41 (.mov (.t 2)), oI 42 (.call 112 0 true [(.t 40), (.t 41)]), oI 39 (.mov (.t 42)), oI 43 (.ext (.t 39) 0), oI 44 (.ext (.t 39) 1), oI 13 (.alloc [(.int .i64 0), (.int .i64 0), (.str []), (.str []), (.lst true [])]), oN (.st 5 (.t 13) (.t 43)), oI 14 (.mov (.t 44))] none [14, 12, 10, 9, 7, 6, 0]) (.seq (.block 0 (.seq (.region [oI 46 (.mov (.t 12)), oI 47 (.un .not (.t 46)), oI 45 (.mov (.t 47))] none [45, 14, 10, 9, 7, 6, 0]) (.cond (.t 45) (.seq (.region [oI 48 (.ld (some 5) (.t 6)), oN (.st 5 (.t 6) (.t 48)), oI 7 (.mov (.c (.int .i64 0))), oI 8 (.mov (.c (.int .i64 129)))] none [8, 7, 6]) .ret) (.seq (.region [oI 50 (.mov (.t 14)), oI 51 (.mov (.t 50)), ⟨(some 52), (.mov (.t 9)), (some (51, true)), []⟩, ⟨(some 53), (.mov (.t 0)), (some (51, true)), []⟩, ⟨(some 54), (.call 155 0 true [(.t 52), (.t 53)]), (some (51, true)), []⟩, ⟨(some 55), (.un .not (.t 54)), (some (51, true)), []⟩, oI 56 (.pick (.t 51) (.t 55) (.c (.bool false))), oI 49 (.mov (.t 56))] none [49, 10, 9, 7, 6]) (.cond (.t 49) (.seq (.region [oI 57 (.ld (some 5) (.t 6)), oN (.st 5 (.t 6) (.t 57)), oI 7 (.mov (.c (.int .i64 0))), oI 8 (.mov (.c (.int .i64 130)))] none [8, 7, 6]) .ret) (.seq (.region [oI 59 (.ld (some 5) (.t 6)), oI 60 (.call 156 0 true [(.t 59)]), oI 58 (.mov (.t 60))] none [58, 10, 9, 7, 6]) (.cond (.t 58) (.seq (.region [oI 61 (.ld (some 5) (.t 6)), oI 62 (.mov (.t 10)), oI 63 (.mov (.t 7)), oI 64 (.bin .add (.t 62) (.t 63)), oN (.st 5 (.t 6) (.t 61)), oI 7 (.mov (.t 64)), oI 8 (.mov (.c (.int .i64 0)))] none [8, 7, 6]) .ret) (.seq (.region [oI 66 (.mov (.t 9)), oI 67 (.bin .eql (.t 66) (.c (.int .i64 35))), oI 65 (.mov (.t 67))] none [65, 6]) (.cond (.t 65) (.seq (.region [oI 68 (.ld (some 5) (.t 6)), oN (.st 5 (.t 6) (.t 68)), oI 7 (.mov (.c (.int .i64 0))), oI 8 (.mov (.c (.int .i64 148)))] none [8, 7, 6]) .ret) .skip))))))))) (.seq (.region [oI 69 (.ld (some 5) (.t 6)), oN (.st 5 (.t 6) (.t 69)), oI 7 (.mov (.c (.int .i64 0))), oI 8 (.mov (.c (.int .i64 130)))] none [8, 7, 6]) .ret)))))))
def c_prop_one : AFunc := ⟨[(.cell 6 (some 5)), (.tmp 7), (.tmp 8)], b_prop_one⟩
theorem cf_prop_one : FC 136 = some c_prop_one := by kernel_rfl
theorem cb_prop_one : c_prop_one.body = b_prop_one := rfl
theorem cr_prop_one : c_prop_one.res = [(.cell 6 (some 5)), (.tmp 7), (.tmp 8)] := rfl
def b_prop_value : ACode := (.seq (.region [oI 4 (.alloc [(.int .i64 0), (.int .i64 0), (.str []), (.str []), (.lst true [])]), oI 5 (.mov (.c (.int .i64 0))), oI 6 (.mov (.c (.bool false)))] none [5, 4, 1, 0]) (.seq (.region [oI 9 (.mov (.t 0)), oI 10 (.faddr 0 (.t 4)), oN (.st 1 (.t 10) (.t 9))] none [5, 4, 1, 0]) (.seq (.region [oI 7 (.mov (.c (.int .i64 0)))] none [7, 5, 4, 1, 0]) (.seq (.seq (.region [oI 11 (.mov (.t 0)), oI 12 (.call 134 0 true [(.t 11)])] none [12, 7, 5, 4, 1, 0]) (.block 0 (.seq (.seq (.region [oI 14 (.bin .eql (.t 12) (.c (.int .i64 1))), oI 13 (.mov (.t 14))] none [13, 12, 7, 5, 4, 1, 0]) (.cond (.t 13) .skip (.seq (.region [oI 15 (.bin .eql (.t 12) (.c (.int .i64 2))), oI 13 (.mov (.t 15))] none [13, 12, 7, 5, 4, 1, 0]) (.cond (.t 13) .skip (.region [oI 16 (.bin .eql (.t 12) (.c (.int .i64 3))), oI 13 (.mov (.t 16))] none [13, 12, 7, 5, 4, 1, 0]))))) (.cond (.t 13) (.seq (.region [oI 17 (.mov (.t 0)), oI 18 (.call 134 0 true [(.t 17)]), oI 19 (.bin .sub (.t 18) (.c (.int .i64 1))), oI 20 (.bin .shl (.c (.int .i64 1)) (.t 19)), oI 5 (.mov (.t 20))] none [7, 5, 4, 1]) (.seq (.seq (.region [oI 21 (.mov (.t 1)), oI 22 (.len (.t 21)), oI 23 (.mov (.t 5)), oI 24 (.bin .lss (.t 22) (.t 23))] none [24, 7, 5, 4, 1]) (.cond (.t 24) (.seq (.region [oI 25 (.ld (some 5) (.t 4)), oN (.st 5 (.t 4) (.t 25)), oI 5 (.mov (.c (.int .i64 0))), oI 6 (.mov (.c (.bool false)))] none [6, 5, 4]) .ret) .skip)) (.region [oI 26 (.mov (.t 1)), oI 27 (.mov (.t 5)), oI 28 (.slice 1 (.t 26) none (some (.t 27)) none), oI 29 (.call 108 0 true [(.t 28)]), oI 30 (.i2i .i64 (.t 29)), oI 31 (.faddr 1 (.t 4)), oN (.st 1 (.t 31) (.t 30))] none [7, 5, 4]))) (.seq (.region [oI 33 (.bin .eql (.t 12) (.c (.int .i64 4))), oI 32 (.mov (.t 33))] none [32, 12, 7, 5, 4, 1]) (.cond (.t 32) (.region [oI 35 (.mov (.t 1)), oI 36 (.call 135 0 true [(.t 35)]), oI 34 (.mov (.t 36)), oI 37 (.ext (.t 34) 0), oI 38 (.ext (.t 34) 1), oI 39 (.ext (.t 34) 2), oI 40 (.faddr 1 (.t 4)), oN (.st 1 (.t 40) (.t 37)), oI 5 (.mov (.t 38)), oI 7 (.mov (.t 39))] none [7, 5, 4]) (.seq (.region [oI 42 (.bin .eql (.t 12) (.c (.int .i64 5))), oI 41 (.mov (.t 42))] none [41, 12, 7, 5, 4, 1]) (.cond (.t 41) (.region [oI 44 (.mov (.t 1)), oI 45 (.call 109 0 true [(.t 44)]), oI 43 (.mov (.t 45)), oI 46 (.ext (.t 43) 0), oI 47 (.ext (.t 43) 1), oI 48 (.ext (.t 43) 2), oI 49 (.faddr 2 (.t 4)), oN (.st 1 (.t 49) (.t 46)), oI 5 (.mov (.t 47)), oI 7 (.mov (.t 48))] none [7, 5, 4]) (.seq (.region [oI 51 (.bin .eql (.t 12) (.c (.int .i64 6))), oI 50 (.mov (.t 51))] none [50, 12, 7, 5, 4, 1]) (.cond (.t 50) (.region [oI 53 (.mov (.t 1)), oI 54 (.call 106 0 true [(.t 53)]), oI 52 (.mov (.t 54)), oI 55 (.ext (.t 52) 0), oI 56 (.ext (.t 52) 1), oI 57 (.ext (.t 52) 2), oI 58 (.faddr 4 (.t 4)), oN (.st 1 (.t 58) (.t 55)), oI 5 (.mov (.t 56)), oI 7 (.mov (.t 57))] none [7, 5, 4]) (.seq (.region [oI 60 (.bin .eql (.t 12) (.c (.int .i64 7))), oI 59 (.mov (.t 60))] none [59, 7, 5, 4, 1]) (.cond (.t 59) (.seq (.region [oI 62 (.mov (.t 1)), oI 63 (.call 109 0 true [(.t 62)]), oI 61 (.mov (.t 63)), oI 64 (.ext (.t 61) 0), oI 65 (.ext (.t 61) 1), oI 66 (.ext (.t 61) 2), oI 67 (.faddr 2 (.t 4)), oN (.st 1 (.t 67) (.t 64)), oI 5 (.mov (.t 65)), oI 7 (.mov (.t 66))] none [7, 5, 4, 1]) (.seq (.region [oI 68 (.mov (.t 7)), oI 69 (.bin .eql (.t 68) (.c (.int .i64 0)))] none [69, 7, 5, 4, 1]) (.cond (.t 69) (.seq (.region [oI 8 (.mov (.c (.int .i64 0)))] none [5, 4, 1]) (.seq (.region [oI 71 (.mov (.t 1)), oI 72 (.mov (.t 5)), oI 73 (.slice 1 (.t 71) (some (.t 72)) none none), oI 74 (.call 109 0 true [(.t 73)]), oI 70 (.mov (.t 74)), oI 75 (.ext (.t 70) 0), oI 76 (.ext (.t 70) 1), oI 77 (.ext (.t 70) 2), oI 78 (.faddr 3 (.t 4)), oN (.st 1 (.t 78) (.t 75)), oI 8 (.mov (.t 76)), oI 7 (.mov (.t 77))] none [8, 7, 5, 4]) (.region [oI 79 (.mov (.t 5)), oI 80 (.mov (.t 8)), oI 81 (.bin .add (.t 79) (.t 80)), oI 5 (.mov (.t 81))] none [7, 5, 4]))) .skip))) .skip)))))))))))) (.seq (.region [oI 82 (.ld (some 5) (.t 4)), oI 83 (.mov (.t 5)), oI 84 (.mov (.t 7)), oI 85 (.bin .eql (.t 84) (.c (.int .i64 0))), oN (.st 5 (.t 4) (.t 82)), oI 5 (.mov (.t 83)), oI 6 (.mov (.t 85))] none [6, 5, 4]) .ret)))))
def c_prop_value : AFunc := ⟨[(.cell 4 (some 5)), (.tmp 5), (.tmp 6)], b_prop_value⟩
theorem cf_prop_value : FC 154 = some c_prop_value := by kernel_rfl
theorem cb_prop_value : c_prop_value.body = b_prop_value := rfl
theorem cr_prop_value : c_prop_value.res = [(.cell 4 (some 5)), (.tmp 5), (.tmp 6)] := rfl
end Go.Proofs.YtmlkhhidifjjfaaDoor
namespace Go.Proofs.YtmlkhhidifjjfaaDoor
set_option linter.unusedSimpArgs false
set_option linter.unusedVariables false
open Go.RowKit

inductive Ty where
  | bool
  | int (k : IntKind)
  | str
  | slice (s : Bool) (e : Ty)
  | struct (fs : List Ty)
  deriving Inhabited
def isRowD : Option TypeDesc → Bool
  | some (.struct _) => true
  | some (.array _ _) => true
  | _ => false
/-- fields that lie one behind the other -/
def offsOk (P : Program) : Nat → List Field → Nat → Bool
  | at', [], n => at' == n
  | at', f :: fs, n => f.offset == at' && offsOk P (at' + P.cellsOf f.type) fs n
def tyOf (P : Program) : Nat → TypeId → Option Ty
  | 0, _ => none
  | n + 1, t => match P.underlying t with
    | some .bool => some .bool
    | some (.int k) => some (.int k)
    | some .string => some .str
    | some (.slice e) => if 0 < P.cellsOf e then (tyOf P n e).map (.slice (isRowD (P.underlying e))) else none
    | some (.struct fs) => if offsOk P 0 fs.toList (P.cellsOf t) then (fs.toList.mapM fun f => tyOf P n f.type).map .struct else none
    | _ => none
def elemV (s : Bool) (y : List AVal) : AVal := if s then .agg y else y.headD .nilp
mutual
def TyC : Ty → List AVal → Prop
  | .bool, xs => ∃ b, xs = [.bool b]
  | .int k, xs => ∃ n, (Lit.int k n).wf = true ∧ xs = [.int k n]
  | .str, xs => ∃ l : List UInt8, l.length ≤ 9223372036854775807 ∧ xs = [.str l]
  | .slice s e, xs => ∃ ys : List (List AVal), xs = [.lst false (ys.map (elemV s))] ∧ ys.length ≤ 9223372036854775807 ∧ ∀ y ∈ ys, TyC e y
  | .struct fs, xs => TysC fs xs
def TysC : List Ty → List AVal → Prop
  | [], xs => xs = []
  | f :: fs, xs => ∃ a b, xs = a ++ b ∧ TyC f a ∧ TysC fs b
end
/-- every cell of a world -/
def Imm.of (w : World) : Imm := fun b o => w.cell? ⟨b, o, none⟩

section
variable {H : Type} {enc : TypeId × Value → H} {P : Program} {w : World} {spare : Nat → Bool} {held : Bool}
theorem cell_spot {b off : Nat} {s : Option Nat} {u : Value} (h : w.cell? ⟨b, off, s⟩ = some u) : s = none := by
  unfold World.cell? at h
  split at h
  · rcases s with _ | s
    · rfl
    · simp at h
  · cases h
theorem elemV_cells {s : Bool} {y : List AVal} (h : s = false → y.length = 1) (h1 : s = false → ∀ x ∈ y, okCell x = true) : (elemV s y).cells = y := by
  cases s with
  | true => rfl
  | false =>
    match y, h rfl with
    | [x], _ =>
      have := h1 rfl x (by simp)
      cases x <;> simp_all [elemV, AVal.cells, okCell]

theorem addr_at {a : Addr} (h : a.spot = none) (n : Nat) : a.add n = ⟨a.block, a.off + n, none⟩ := by
  unfold Addr.add
  split
  · rename_i e; subst e; cases a; simp_all
  · rfl
theorem VRs_split {I : Imm} {β : Bmap} {xs : List AVal} {vs : List Value} {n : Nat} (h : VRs I β xs (vs.take n)) {ys : List AVal} (h' : VRs I β ys (vs.drop n)) : VRs I β (xs ++ ys) vs := by
  have := VRs_append h h'
  rwa [List.take_append_drop] at this

theorem mapM_cons_some {α β : Type} {f : α → Option β} {a : α} {l : List α} {r : List β} (h : (a :: l).mapM f = some r) : ∃ b r', f a = some b ∧ l.mapM f = some r' ∧ r = b :: r' := by
  rw [List.mapM_cons] at h
  simp only [Option.bind_eq_bind, Option.bind_eq_some_iff, Option.pure_def, Option.some.injEq] at h
  obtain ⟨b, h1, r', h2, h3⟩ := h
  exact ⟨b, r', h1, h2, h3.symm⟩
theorem treeC_append {a b : List AVal} (ha : treeC a = true) (hb : treeC b = true) : treeC (a ++ b) = true := by
  induction a with
  | nil => exact hb
  | cons x a ih => simp only [List.cons_append, treeC, Bool.and_eq_true] at ha ⊢; exact ⟨ha.1, ih ha.2⟩
theorem tys_of {n fuel : Nat} {cs : List Value} (ih : ∀ (t : TypeId) (cs : List Value) (x : DataW H × List MemPlace) (T : Ty), tyOf P n t = some T → DataW.trod enc P w 0 spare held fuel t cs = some x → ∃ xs, TyC T xs ∧ VRs (Imm.of w) B0 xs cs ∧ treeC xs = true) :
    ∀ (fs : List Field) (at' : Nat) (Ts : List Ty) (ys : List (DataW H × List MemPlace)), offsOk P at' fs cs.length = true → fs.mapM (fun f => tyOf P n f.type) = some Ts →
      fs.mapM (fun f => DataW.trod enc P w 0 spare held fuel f.type ((cs.drop f.offset).take (P.cellsOf f.type))) = some ys → ∃ xs, TysC Ts xs ∧ VRs (Imm.of w) B0 xs (cs.drop at') ∧ treeC xs = true
  | [], at', Ts, ys, ho, hT, _ => by
    simp only [offsOk, beq_iff_eq] at ho
    simp only [List.mapM_nil, Option.pure_def, Option.some.injEq] at hT
    subst hT ho
    exact ⟨[], by simp only [TysC], by simp [VRs], rfl⟩
  | f :: fs, at', Ts, ys, ho, hT, h => by
    simp only [offsOk, Bool.and_eq_true, beq_iff_eq] at ho
    obtain ⟨T, Ts', h1, h2, rfl⟩ := mapM_cons_some hT
    obtain ⟨y, ys', h3, h4, rfl⟩ := mapM_cons_some h
    obtain ⟨a, a1, a2, a3⟩ := ih _ _ _ _ h1 h3
    obtain ⟨b, b1, b2, b3⟩ := tys_of ih fs _ _ _ ho.2 h2 h4
    rw [ho.1] at a2
    refine ⟨a ++ b, by simp only [TysC]; exact ⟨a, b, rfl, a1, b1⟩, VRs_split a2 (by rw [List.drop_drop]; exact b2), treeC_append a3 b3⟩

theorem LR_rng {I : Imm} {β : Bmap} {s : Bool} {k b : Nat} : ∀ (n off : Nat) (Y : Nat → List AVal), (∀ i, i < n → (elemV s (Y i)).cells.length = k ∧ CR I β (elemV s (Y i)).cells b (off + i * k)) → LR I β k ((List.range n).map fun i => elemV s (Y i)) b off
  | 0, off, Y, _ => by simp [LR]
  | n + 1, off, Y, h => by
    rw [List.range_succ_eq_map, List.map_cons, LR_cons]
    have h0 := h 0 (by omega)
    simp only [Nat.zero_mul, Nat.add_zero] at h0
    refine ⟨h0, ?_⟩
    rw [List.map_map]
    exact LR_rng n (off + k) (fun i => Y (i + 1)) (fun i hi => by
      have := h (i + 1) (by omega)
      rw [show off + k + i * k = off + (i + 1) * k by rw [Nat.succ_mul]; omega]
      exact this)
theorem CR_of {I : Imm} {β : Bmap} {b : Nat} : ∀ (xs : List AVal) (cs : List Value) (off : Nat), VRs I β xs cs → (∀ i, i < cs.length → I b (off + i) = cs[i]?) → CR I β xs b off
  | [], _, _, _, _ => by simp only [CR]
  | x :: xs, cs, off, h, hI => by
    simp only [VRs] at h
    obtain ⟨v, vs', rfl, h1, h2⟩ := h
    simp only [CR]
    refine ⟨⟨v, by have := hI 0 (by simp); simpa using this, h1⟩, CR_of xs vs' (off + 1) h2 fun i hi => ?_⟩
    have := hI (i + 1) (by simp; omega)
    rw [show off + 1 + i = off + (i + 1) by omega, this]
    simp
theorem treeL_of {s : Bool} : ∀ (n : Nat) (Y : Nat → List AVal), (∀ i, i < n → treeC (elemV s (Y i)).cells = true) → treeL ((List.range n).map fun i => elemV s (Y i)) = true
  | 0, Y, _ => by simp [treeL]
  | n + 1, Y, h => by
    rw [List.range_succ_eq_map, List.map_cons, treeL_cons, h 0 (by omega), List.map_map]
    simp only [Bool.true_and]
    exact treeL_of n (fun i => Y (i + 1)) (fun i hi => h (i + 1) (by omega))
theorem treeC_ok {xs : List AVal} (h : treeC xs = true) : ∀ x ∈ xs, okCell x = true := by
  induction xs with
  | nil => intro x hx; simp at hx
  | cons y ys ih =>
    simp only [treeC, Bool.and_eq_true] at h
    intro x hx
    rcases List.mem_cons.1 hx with rfl | hx
    · cases x <;> simp_all [tree1, okCell]
    · exact ih h.2 x hx

theorem tyOne {n : Nat} {e : TypeId} {T : Ty} (hT : tyOf P n e = some T) (hs : isRowD (P.underlying e) = false) {xs : List AVal} (h : TyC T xs) : xs.length = 1 := by
  cases n with
  | zero => simp [tyOf] at hT
  | succ n =>
    simp only [tyOf] at hT
    split at hT
    · injection hT with hT; subst hT; simp only [TyC] at h; obtain ⟨_, rfl⟩ := h; rfl
    · injection hT with hT; subst hT; simp only [TyC] at h; obtain ⟨_, _, rfl⟩ := h; rfl
    · injection hT with hT; subst hT; simp only [TyC] at h; obtain ⟨_, _, rfl⟩ := h; rfl
    · split at hT
      · simp only [Option.map_eq_some_iff] at hT
        obtain ⟨T', _, rfl⟩ := hT
        simp only [TyC] at h; obtain ⟨_, rfl, _⟩ := h; rfl
      · cases hT
    · rename_i hu; rw [hu] at hs; simp [isRowD] at hs
    · cases hT

/-- THE READING OF AN ARGUMENT, AS A TREE -/
theorem trod_ty : ∀ (n fuel : Nat) (t : TypeId) (cs : List Value) (x : DataW H × List MemPlace) (T : Ty), tyOf P n t = some T → DataW.trod enc P w 0 spare held fuel t cs = some x →
    ∃ xs, TyC T xs ∧ VRs (Imm.of w) B0 xs cs ∧ treeC xs = true
  | 0, fuel, t, cs, x, T, hT, _ => by simp [tyOf] at hT
  | n + 1, 0, t, cs, x, T, _, h => by simp [DataW.trod] at h
  | n + 1, fuel + 1, t, cs, x, T, hT, h => by
    have h0 := h
    simp only [tyOf] at hT
    unfold DataW.trod at h
    split at hT
    · rename_i hu
      injection hT with hT; subst hT
      obtain ⟨b, rfl, _⟩ := DataW.trod_bool hu h0
      exact ⟨[.bool b], by simp only [TyC]; exact ⟨b, rfl⟩, by simp [VRs, VR], rfl⟩
    · rename_i k hu
      injection hT with hT; subst hT
      obtain ⟨n', rfl, _, hk⟩ := DataW.trod_int hu h0
      exact ⟨[.int k n'], by simp only [TyC]; exact ⟨n', hk, rfl⟩, by simp [VRs, VR], rfl⟩
    · rename_i hu
      injection hT with hT; subst hT
      obtain ⟨s, rfl, _, hs⟩ := DataW.trod_string hu h0
      have hs' : s.data.toList.length ≤ 9223372036854775807 := by
        rw [Array.length_toList]; exact Nat.le_trans hs (by simp [maxLen])
      exact ⟨[.str s.data.toList], by simp only [TyC]; exact ⟨_, hs', rfl⟩, by simp only [VRs, VR]; exact ⟨_, _, rfl, ⟨by simp, hs'⟩, rfl⟩, rfl⟩
    · rename_i e hu
      split at hT
      case isFalse => cases hT
      rename_i hc
      simp only [Option.map_eq_some_iff] at hT
      obtain ⟨T, hT, rfl⟩ := hT
      rcases Go.Deep.open_slice hu h0 with ⟨hcs, _⟩ | ⟨a, len, cap, m, n', D, Pl, hcs, _, hl, hm, hmm, _, hi⟩
      · subst hcs
        exact ⟨[.lst false []], by simp only [TyC]; exact ⟨[], by simp, by simp, by simp⟩, by simp only [VRs, VR]; exact ⟨_, _, rfl, ⟨none, 0, rfl, by simp, by simp, by simp, by simp, by simp [treeL]⟩, rfl⟩, rfl⟩
      · have hlm : len ≤ m := by split at hmm <;> omega
        have hspot : 0 < len → a.spot = none := by
          intro h0
          obtain ⟨cs', h1, h2⟩ := hi 0 (by omega)
          obtain ⟨_, h6, h7⟩ := World.cells?_some h1
          have h8 := h7 0 hc
          obtain ⟨u, hu⟩ : ∃ u, cs'[0]? = some u := ⟨cs'[0]'(by omega), by simp⟩
          rw [hu] at h8
          simp only [Nat.zero_mul, Addr.add, if_true] at h8
          exact cell_spot (b := a.block) (off := a.off) (s := a.spot) (u := u) h8
        have hall : ∀ i, ∃ xs, i < len → TyC T xs ∧ (elemV (isRowD (P.underlying e)) xs).cells = xs ∧ xs.length = P.cellsOf e ∧ CR (Imm.of w) B0 xs a.block (a.off + i * P.cellsOf e) ∧ treeC xs = true := by
          intro i
          by_cases hlt : i < len
          · obtain ⟨cs', h1, h2⟩ := hi i (by omega)
            obtain ⟨xs, h3, h4, h5⟩ := trod_ty n n' e cs' _ T hT h2
            obtain ⟨_, h6, h7⟩ := World.cells?_some h1
            have hlen := VRs_length h4
            refine ⟨xs, fun _ => ⟨h3, elemV_cells (fun hs => tyOne hT hs h3) (fun _ => treeC_ok h5), by omega, CR_of xs cs' _ h4 (fun j hj => ?_), h5⟩⟩
            have h8 := h7 j (by omega)
            rw [Go.Deep.add_add, addr_at (hspot (by omega)), ← Nat.add_assoc] at h8
            exact h8
          · exact ⟨[], fun h => absurd h hlt⟩
        obtain ⟨Y, hY⟩ := Classical.axiomOfChoice hall
        subst hcs
        have hmx : maxLen = 9223372036854775807 := by simp [maxLen]
        rw [hmx] at hm
        refine ⟨[.lst false ((List.range len).map fun i => elemV (isRowD (P.underlying e)) (Y i))], ?_, ?_, ?_⟩
        · simp only [TyC]
          refine ⟨(List.range len).map Y, by rw [List.map_map]; rfl, by simp; omega, ?_⟩
          intro y hy
          obtain ⟨i, hi', rfl⟩ := List.mem_map.1 hy
          exact (hY i (List.mem_range.1 hi')).1
        · simp only [VRs, VR, List.length_map, List.length_range]
          refine ⟨_, _, rfl, ⟨some a, cap, rfl, hl, hm, by simp, ?_, treeL_of len Y fun i hlt => by rw [(hY i hlt).2.1]; exact (hY i hlt).2.2.2.2⟩, rfl⟩
          cases len with
          | zero => exact Or.inl (by simp)
          | succ len =>
            refine Or.inr ⟨a.block, a.off, P.cellsOf e, ?_, hc, LR_rng (len + 1) a.off Y fun i hlt => ?_⟩
            · have := hspot (by omega)
              cases a; simp_all
            · rw [(hY i hlt).2.1]; exact ⟨(hY i hlt).2.2.1, (hY i hlt).2.2.2.1⟩
        · simp only [treeC, tree1, Bool.and_true]
          exact treeL_of len Y fun i hlt => by rw [(hY i hlt).2.1]; exact (hY i hlt).2.2.2.2
    · rename_i fs hu
      split at hT
      case isFalse => cases hT
      rename_i ho
      simp only [Option.map_eq_some_iff] at hT
      obtain ⟨Ts, hT, rfl⟩ := hT
      rw [hu] at h
      simp only at h
      split at h
      · rename_i hl
        simp only [Option.map_eq_some_iff] at h
        obtain ⟨ys, hy, rfl⟩ := h
        obtain ⟨xs, h1, h2, h3⟩ := tys_of (fun t cs x T h h' => trod_ty n fuel t cs x T h h') fs.toList 0 Ts ys (by rw [hl]; exact ho) hT hy
        exact ⟨xs, by simp only [TyC]; exact h1, h2, h3⟩
      · cases h
    · cases hT

/-- a parameter's tree: a row's cells, or the one value -/
def ArgC (s : Bool) (T : Ty) (x : AVal) : Prop := ∃ xs, TyC T xs ∧ x = elemV s xs
theorem arg_ty {n : Nat} {t : TypeId} {v : Value} {d : DataW H} {ps : List MemPlace} {T : Ty} {r : Reach} {b0 : Nat} (hT : tyOf P n t = some T) (hv : Value.okWide P w r b0 t v) (h : DataW.Trod enc P w 0 spare held t v d ps) :
    ∃ x, ArgC (isRowD (P.underlying t)) T x ∧ VR (Imm.of w) B0 x v ∧ treeC x.cells = true := by
  obtain ⟨fuel, h⟩ := h
  obtain ⟨xs, h1, h2, h3⟩ := trod_ty n fuel t _ _ T hT h
  refine ⟨elemV (isRowD (P.underlying t)) xs, ⟨xs, h1, rfl⟩, ?_⟩
  by_cases hs : isRowD (P.underlying t) = true
  · have : ∃ cs, v = .agg cs := by
      unfold Value.okWide at hv
      cases hu : P.underlying t with
      | none => rw [hu] at hs; simp [isRowD] at hs
      | some dd =>
        rw [hu] at hv hs
        cases dd <;> first | (simp [isRowD] at hs; done) | (obtain ⟨cs, e, _⟩ := hv; exact ⟨cs, e⟩)
    obtain ⟨cs, rfl⟩ := this
    rw [hs]
    exact ⟨by simp only [elemV, if_true, VR]; exact ⟨cs, rfl, h2⟩, h3⟩
  · have hs' : isRowD (P.underlying t) = false := by simpa using hs
    have hl := tyOne hT hs' h1
    have hlen := VRs_length h2
    rw [hs']
    match xs, hl with
    | [x], _ =>
      simp only [elemV, Bool.false_eq_true, if_false, List.headD_cons]
      have hvc : v.cells = #[v] := by
        cases n with
        | zero => simp [tyOf] at hT
        | succ n =>
          simp only [tyOf] at hT
          split at hT
          · rename_i hu; obtain ⟨b, rfl⟩ := Go.WideShapes.okWide_bool hu hv; rfl
          · rename_i k hu; obtain ⟨b, rfl⟩ := Go.WideShapes.okWide_int hu hv; rfl
          · rename_i hu; obtain ⟨b, rfl⟩ := Go.WideShapes.okWide_string hu hv; rfl
          · rename_i e hu; obtain ⟨a, l, c, rfl⟩ := Go.WideShapes.okWide_slice hu hv; rfl
          · rename_i fs hu; rw [hu] at hs'; simp [isRowD] at hs'
          · cases hT
      rw [hvc] at h2
      simp only [VRs] at h2
      obtain ⟨v', vs', e, h2, _⟩ := h2
      simp only [List.cons.injEq] at e
      rw [e.1]
      refine ⟨h2, ?_⟩
      have hok := treeC_ok h3 x (by simp)
      have hx : x.cells = [x] := by cases x <;> first | rfl | (simp [okCell] at hok; done)
      rw [hx]; exact h3
theorem Rel.start (w : World) (hG : Gl.le (Imm.of w)) : Rel (fun b => b < w.heap.size) w (Imm.of w) (Imm.of w) B0 [] w where
  below := KB.refl _ w
  old := fun _ _ _ => rfl
  imm := fun _ _ _ h => h
  blk := fun t x h => by simp at h
  own := fun t x b h => by simp at h
  apart := fun t x t' x' b h => by simp at h
  fresh := fun _ _ _ => rfl
  free := fun t g h => by simp at h
  gen := fun t b g h => by simp at h
  glob := hG
/-- a law that the oracle tells true -/
theorem walk_of {O : Oracle} (hO : OrOk P O) {f : Nat} {args : List AVal} {vs : Array Value} {σ' : AHeap} (hG : Gl.le (Imm.of w)) (hargs : VRs (Imm.of w) B0 args vs.toList) (h : O f args [] = some (.bool true, σ')) :
    Calls P f vs w (fun e w' => e = .returned (.bool true) ∧ Below w.heap.size w w') := by
  refine ((hO f args [] _ _ h).2 _ w _ _ B0 w vs (fun b hb => hb) (Rel.start w hG) hargs).mono ?_
  rintro e w' ⟨u, he, I', β', _, _, R, hv⟩
  simp only [valOf, VR] at hv
  subst hv
  exact ⟨he, R.below.os, R.below.tape, R.below.output, R.below.size, R.below.block⟩
end
end Go.Proofs.YtmlkhhidifjjfaaDoor
namespace Go.Proofs.YtmlkhhidifjjfaaDoor
set_option linter.unusedSimpArgs false
set_option linter.unusedVariables false
open Go.RowKit
theorem blockA_n (id : Nat) (tm : Tms) (σ : AHeap) : blockA id (.normal, tm, σ) = (.normal, tm, σ) := rfl
theorem blockA_e (id i : Nat) (tm : Tms) (σ : AHeap) : blockA id (.exit i, tm, σ) = if i = id then (.normal, tm, σ) else (.exit i, tm, σ) := by simp only [blockA]
theorem blockA_r (id : Nat) (tm : Tms) (σ : AHeap) : blockA id (.ret, tm, σ) = (.ret, tm, σ) := rfl
theorem blockA_p (id : Nat) (x : AVal) (tm : Tms) (σ : AHeap) : blockA id (.panic x, tm, σ) = (.panic x, tm, σ) := rfl
section
variable (O : Oracle) (byref : Nat → Bool)
def consC (c : Cls) : Option (Tms × AHeap × List Cls × Option AVal) → Option (Tms × AHeap × List Cls × Option AVal)
  | none => none
  | some (tm, σ, cs, p) => some (tm, σ, c :: cs, p)
def appC (c : List Cls) : Option (Tms × AHeap × List Cls × Option AVal) → Option (Tms × AHeap × List Cls × Option AVal)
  | none => none
  | some (tm, σ, cs, p) => some (tm, σ, c ++ cs, p)
def kC (d : Option Nat) (os : List AOp) (s : Nat) (tm : Tms) : Option (AVal × AHeap × Cls) → Option (Tms × AHeap × List Cls × Option AVal)
  | none => none
  | some (v, σ, c) => if isPan v then some (tput tm d v, σ, [c], some (valOf v)) else consC c (runOps O byref os s (tput tm d v) σ)
def regC (ops : List AOp) (L : Nat) (l : List (Nat × Nat)) (live : List Nat) : Option (Tms × AHeap × List Cls × Option AVal) → Option (AExit × Tms × AHeap)
  | none => none
  | some (_, _, _, some _) => none
  | some (tm, σ, cs, none) => if chkA ops L l cs then some (.normal, keepL live tm, σ) else none
variable {O byref}
theorem C_nil (s : Nat) (tm : Tms) (σ : AHeap) : runOps O byref [] s tm σ = some (tm, σ, [], none) := rfl
theorem consC_some (c : Cls) (tm : Tms) (σ : AHeap) (cs : List Cls) (p : Option AVal) : consC c (some (tm, σ, cs, p)) = some (tm, σ, c :: cs, p) := rfl
theorem consC_none (c : Cls) : consC c none = none := rfl
theorem consC_ite (c : Cls) (q : Prop) [Decidable q] (x y : Option (Tms × AHeap × List Cls × Option AVal)) : consC c (if q then x else y) = if q then consC c x else consC c y := by split <;> rfl
theorem appC_some (c : List Cls) (tm : Tms) (σ : AHeap) (cs : List Cls) (p : Option AVal) : appC c (some (tm, σ, cs, p)) = some (tm, σ, c ++ cs, p) := rfl
theorem appC_none (c : List Cls) : appC c none = none := rfl
theorem appC_ite (c : List Cls) (q : Prop) [Decidable q] (x y : Option (Tms × AHeap × List Cls × Option AVal)) : appC c (if q then x else y) = if q then appC c x else appC c y := by split <;> rfl
theorem C_step {o : AOp} {os : List AOp} {s : Nat} {tm tm1 : Tms} {σ σ1 : AHeap} {v : AVal} {c : Cls} (h : stepA O byref o s tm σ = some (v, tm1, σ1, c)) (hn : isPan v = false) : runOps O byref (o :: os) s tm σ = consC c (runOps O byref os (s + nsite o.ins) tm1 σ1) := by
  rw [runOps_step h hn]
  cases runOps O byref os (s + nsite o.ins) tm1 σ1 <;> rfl
theorem C_cons (d : Option Nat) (i : Ins) (af : List Nat) (os : List AOp) (s : Nat) (tm : Tms) (σ : AHeap) : runOps O byref (⟨d, i, none, af⟩ :: os) s tm σ = kC O byref d os (s + nsite i) tm (exI O byref i s tm σ) := by
  cases h : exI O byref i s tm σ with
  | none => exact runOps_none (by rw [step_one, h]; rfl)
  | some q =>
    obtain ⟨v, σ1, c⟩ := q
    have hs : stepA O byref ⟨d, i, none, af⟩ s tm σ = some (v, tput tm d v, σ1, c) := by rw [step_one, h]; rfl
    cases hp : isPan v with
    | true =>
      obtain ⟨x, rfl⟩ := isPan_true hp
      exact runOps_pan hs
    | false =>
      rw [C_step hs hp]
      simp only [kC, hp, Bool.false_eq_true, if_false]
theorem kC_some (d : Option Nat) (os : List AOp) (s : Nat) (tm : Tms) (v : AVal) (σ : AHeap) (c : Cls) (h : isPan v = false) : kC O byref d os s tm (some (v, σ, c)) = consC c (runOps O byref os s (tput tm d v) σ) := by
  simp only [kC, h, Bool.false_eq_true, if_false]
theorem kC_pan (d : Option Nat) (os : List AOp) (s : Nat) (tm : Tms) (x : AVal) (σ : AHeap) (c : Cls) : kC O byref d os s tm (some (.pan x, σ, c)) = some (tput tm d (.pan x), σ, [c], some x) := rfl
theorem kC_none (d : Option Nat) (os : List AOp) (s : Nat) (tm : Tms) : kC O byref d os s tm none = none := rfl
theorem kC_ite (d : Option Nat) (os : List AOp) (s : Nat) (tm : Tms) (q : Prop) [Decidable q] (x y : Option (AVal × AHeap × Cls)) : kC O byref d os s tm (if q then x else y) = if q then kC O byref d os s tm x else kC O byref d os s tm y := by split <;> rfl
theorem reg_some (ops : List AOp) (l : List (Nat × Nat)) (live : List Nat) (tm : Tms) (σ : AHeap) : runRegion O byref ops (some l) live tm σ = regC ops σ.length l live (runOps O byref ops σ.length tm (σ ++ List.replicate (sitesOf ops) .free)) := by
  unfold runRegion
  cases runOps O byref ops σ.length tm (σ ++ List.replicate (sitesOf ops) .free) with
  | none => rfl
  | some q =>
    obtain ⟨tm', σ', cs, p⟩ := q
    cases p <;> rfl
theorem regC_some (ops : List AOp) (L : Nat) (l : List (Nat × Nat)) (live : List Nat) (tm : Tms) (σ : AHeap) (cs : List Cls) (h : chkA ops L l cs = true) : regC ops L l live (some (tm, σ, cs, none)) = some (.normal, keepL live tm, σ) := by
  simp only [regC, h, if_true]
theorem regC_none (ops : List AOp) (L : Nat) (l : List (Nat × Nat)) (live : List Nat) : regC ops L l live none = none := rfl
theorem regC_ite (ops : List AOp) (L : Nat) (l : List (Nat × Nat)) (live : List Nat) (q : Prop) [Decidable q] (x y : Option (Tms × AHeap × List Cls × Option AVal)) : regC ops L l live (if q then x else y) = if q then regC ops L l live x else regC ops L l live y := by split <;> rfl
/-- a check of classes that touch nothing -/
theorem chk_quiet (ops : List AOp) (L : Nat) (l : List (Nat × Nat)) (cs : List Cls) (h : (cs.all fun c => c.wr.isEmpty && !c.any) = true) (hs : (l.all fun p => nsite (ops.getD p.1 default).ins == 0) = true) : chkA ops L l cs = true := by
  have hd : ∀ i, noWr (cs.getD i {}) = true := by
    intro i
    rw [List.all_eq_true] at h
    rw [List.getD_eq_getElem?_getD]
    cases hi : cs[i]? with
    | none => rfl
    | some c => exact h c (List.mem_of_getElem? hi)
  unfold chkA
  rw [List.all_eq_true] at hs ⊢
  intro p hp
  unfold pairFree
  simp only [hd, hs p hp, Bool.and_true, Bool.true_and, Bool.true_or, Bool.or_true]
/-- a region whose classes write nothing -/
theorem regC_quiet (ops : List AOp) (L : Nat) (l : List (Nat × Nat)) (live : List Nat) (tm : Tms) (σ : AHeap) (cs : List Cls) (h : (cs.all fun c => c.wr.isEmpty && !c.any) = true) (hs : (l.all fun p => nsite (ops.getD p.1 default).ins == 0) = true) : regC ops L l live (some (tm, σ, cs, none)) = some (.normal, keepL live tm, σ) :=
  regC_some _ _ _ _ _ _ _ (chk_quiet _ _ _ _ h hs)
variable (O byref) in
def gKC (os : List AOp) (s : Nat) : Option (Tms × AHeap × List Cls × Option AVal) → Option (Tms × AHeap × List Cls × Option AVal)
  | none => none
  | some (tm, σ, cs, some x) => some (tm, σ, cs, some x)
  | some (tm, σ, cs, none) => appC cs (runOps O byref os s tm σ)
theorem gKC_some (os : List AOp) (s : Nat) (tm : Tms) (σ : AHeap) (cs : List Cls) : gKC O byref os s (some (tm, σ, cs, none)) = appC cs (runOps O byref os s tm σ) := rfl
theorem gKC_ite (os : List AOp) (s : Nat) (q : Prop) [Decidable q] (x y : Option (Tms × AHeap × List Cls × Option AVal)) : gKC O byref os s (if q then x else y) = if q then gKC O byref os s x else gKC O byref os s y := by split <;> rfl
theorem gKC_cons (os : List AOp) (s : Nat) (c : Cls) (r : Option (Tms × AHeap × List Cls × Option AVal)) : gKC O byref os s (consC c r) = consC c (gKC O byref os s r) := by
  cases r with
  | none => rfl
  | some q =>
    obtain ⟨tm, σ, cs, p⟩ := q
    cases p with
    | some x => rfl
    | none =>
      simp only [consC, gKC]
      cases runOps O byref os s tm σ <;> rfl
theorem C_append : ∀ (a b : List AOp) (s : Nat) (tm : Tms) (σ : AHeap), runOps O byref (a ++ b) s tm σ = gKC O byref b (s + sitesOf a) (runOps O byref a s tm σ)
  | [], b, s, tm, σ => by
    simp only [List.nil_append, C_nil, gKC, sitesOf, List.map_nil, List.sum_nil, Nat.add_zero]
    cases runOps O byref b s tm σ <;> rfl
  | o :: a, b, s, tm, σ => by
    have ih := C_append a b
    simp only [List.cons_append]
    have hs : s + nsite o.ins + sitesOf a = s + sitesOf (o :: a) := by simp [sitesOf, Nat.add_assoc]
    cases hst : stepA O byref o s tm σ with
    | none => rw [runOps_none hst, runOps_none hst]; rfl
    | some q =>
      obtain ⟨v, tm1, σ1, c⟩ := q
      cases hp : isPan v with
      | true =>
        obtain ⟨x, rfl⟩ := isPan_true hp
        rw [runOps_pan hst, runOps_pan hst]; rfl
      | false => rw [C_step hst hp, C_step hst hp, ih, hs, gKC_cons]
variable (O byref) in
def gRunC (j : Nat) (w : Bool) (g : List AOp) (s : Nat) (tm : Tms) (σ : AHeap) : Option (Tms × AHeap × List Cls × Option AVal) := match wantedA (some (j, w)) tm with
  | none => none
  | some false => some (gSkip g tm, σ, g.map fun _ => {}, none)
  | some true => runOps O byref (g.map unG) s tm σ
theorem C_group (j : Nat) (w : Bool) : ∀ (g : List AOp), (∀ o ∈ g, o.guard = some (j, w) ∧ o.dst ≠ some j) → ∀ (s : Nat) (tm : Tms) (σ : AHeap), g ≠ [] → runOps O byref g s tm σ = gRunC O byref j w g s tm σ
  | [], _, _, _, _, h => absurd rfl h
  | o :: g, hall, s, tm, σ, _ => by
    obtain ⟨hg, hd⟩ := hall o (by simp)
    have ih : ∀ (tm : Tms) (σ : AHeap) (s : Nat), wantedA (some (j, w)) tm ≠ none → runOps O byref g s tm σ = gRunC O byref j w g s tm σ := by
      intro tm σ s hw
      by_cases he : g = []
      · subst he
        unfold gRunC
        cases hx : wantedA (some (j, w)) tm with
        | none => exact absurd hx hw
        | some b => cases b <;> rfl
      · exact C_group j w g (fun o ho => hall o (by simp [ho])) s tm σ he
    cases hx : wantedA (some (j, w)) tm with
    | none =>
      rw [runOps_none (by simp only [stepA, hg, hx])]
      simp only [gRunC, hx]
    | some b =>
      cases b with
      | false =>
        have h1 : runOps O byref (o :: g) s tm σ = consC {} (runOps O byref g (s + nsite o.ins) (tput tm o.dst (.tup [])) σ) :=
          C_step (v := .tup []) (c := {}) (by simp only [stepA, hg, hx]) rfl
        rw [h1, ih _ _ _ (by rw [wanted_put hd, hx]; simp)]
        unfold gRunC
        rw [wanted_put hd, hx]
        rfl
      | true =>
        have key : ∀ r : Option (AVal × AHeap × Cls), (∀ v σ' c, r = some (v, σ', c) → isPan v = false → runOps O byref g (s + nsite o.ins) (tput tm o.dst v) σ' = runOps O byref (g.map unG) (s + nsite o.ins) (tput tm o.dst v) σ') → kC O byref o.dst g (s + nsite o.ins) tm r = kC O byref o.dst (g.map unG) (s + nsite o.ins) tm r := by
          intro r hr
          cases r with
          | none => rfl
          | some q =>
            obtain ⟨v, σ', c⟩ := q
            cases hp : isPan v with
            | true => simp only [kC, hp, if_true]
            | false => rw [kC_some _ _ _ _ _ _ _ hp, kC_some _ _ _ _ _ _ _ hp, hr v σ' c rfl hp]
        have h1 : runOps O byref (o :: g) s tm σ = kC O byref o.dst g (s + nsite o.ins) tm (exI O byref o.ins s tm σ) := by
          have h0 : runOps O byref (o :: g) s tm σ = runOps O byref (⟨o.dst, o.ins, none, o.after⟩ :: g) s tm σ := by
            have hst : stepA O byref o s tm σ = stepA O byref ⟨o.dst, o.ins, none, o.after⟩ s tm σ := by
              unfold stepA
              simp only [hg, hx]
              rfl
            simp only [runOps, hst]
          rw [h0, C_cons]
        rw [h1]
        unfold gRunC
        rw [hx]
        simp only [List.map_cons]
        rw [show unG o = ⟨o.dst, o.ins, none, o.after⟩ from rfl, C_cons]
        refine key _ fun v σ' c _ _ => ?_
        rw [ih _ _ _ (by rw [wanted_put hd, hx]; simp)]
        unfold gRunC
        rw [wanted_put hd, hx]
theorem C_guard (d : Option Nat) (i : Ins) (j : Nat) (w : Bool) (af : List Nat) (os : List AOp) (s : Nat) (tm : Tms) (σ : AHeap) (hd : decide (d = some j) = false) :
    runOps O byref (⟨d, i, some (j, w), af⟩ :: os) s tm σ = gKC O byref (gSpan j w os).2 (s + sitesOf (⟨d, i, some (j, w), af⟩ :: (gSpan j w os).1)) (gRunC O byref j w (⟨d, i, some (j, w), af⟩ :: (gSpan j w os).1) s tm σ) := by
  have h := gSpan_eq j w os
  have hall : ∀ o ∈ (⟨d, i, some (j, w), af⟩ :: (gSpan j w os).1 : List AOp), o.guard = some (j, w) ∧ o.dst ≠ some j := by
    intro o ho
    rcases List.mem_cons.1 ho with rfl | ho
    · exact ⟨rfl, by simpa using hd⟩
    · exact gSpan_all j w os o ho
  rw [← C_group j w _ hall s tm σ (by simp), ← C_append, List.cons_append, h]
variable (O byref) in
def gWC (w : Bool) (g : List AOp) (s : Nat) (tm : Tms) (σ : AHeap) : AVal → Option (Tms × AHeap × List Cls × Option AVal)
  | .bool b => if b = w then runOps O byref (g.map unG) s tm σ else some (gSkip g tm, σ, g.map fun _ => {}, none)
  | .tup [] => some (gSkip g tm, σ, g.map fun _ => {}, none)
  | _ => none
theorem gRunC_eq (j : Nat) (w : Bool) (g : List AOp) (s : Nat) (tm : Tms) (σ : AHeap) : gRunC O byref j w g s tm σ = gWC O byref w g s tm σ (tget tm j) := by
  unfold gRunC wantedA
  simp only
  generalize tget tm j = v
  cases v
  case bool b => cases b <;> cases w <;> rfl
  case tup vs => cases vs <;> rfl
  all_goals rfl
theorem gWC_bool (w : Bool) (g : List AOp) (s : Nat) (tm : Tms) (σ : AHeap) (b : Bool) : gWC O byref w g s tm σ (.bool b) = if b = w then runOps O byref (g.map unG) s tm σ else some (gSkip g tm, σ, g.map fun _ => {}, none) := rfl
theorem gWC_off (w : Bool) (g : List AOp) (s : Nat) (tm : Tms) (σ : AHeap) : gWC O byref w g s tm σ (.tup []) = some (gSkip g tm, σ, g.map fun _ => {}, none) := rfl
theorem ite_exc (q : Prop) [Decidable q] (t1 t2 : Tms) (σ1 σ2 : AHeap) (cs : List Cls) : (if q then some (t1, σ1, cs, (none : Option AVal)) else some (t2, σ2, cs, none)) = some ((if q then t1 else t2), (if q then σ1 else σ2), cs, none) := by split <;> rfl
end
section
theorem gc_one {r : AVal} {cs : List AVal} {σ : AHeap} (hr : noRef r = true) (hc : noRefL cs = true) : gcA 1 [r] (.var cs :: σ) = ([r], [.var cs]) := by
  have e1 := (noRef_spec (rhoOf (.var cs :: σ) 1 [0]) r hr)
  have e2 := (noRefL_spec (rhoOf (.var cs :: σ) 1 [0]) cs hc)
  have h1 : gcIds 1 [r] (.var cs :: σ) = [0] := by
    have : refsL [r] = [] := by simp only [refsL, e1.2, List.append_nil]
    simp only [gcIds, this, List.nil_append, List.range_one, List.flatMap_cons, List.flatMap_nil, List.append_nil, List.getD_cons_zero, refsB, e2.2]
    rfl
  simp only [gcA, h1, renL, e1.1, heapOf, List.getD_cons_zero, newGen, genB, renB, e2.1]
/-- an answer without blocks, of a function that was handed one variable -/
theorem out_one {r : AVal} {cs : List AVal} {σ : AHeap} (hr : noRef r = true) (hc : noRefL cs = true) : outA 1 (.var cs :: σ) r = some (r, [.var cs]) := by
  simp only [outA, gc_one hr hc]
theorem reach_one {σ : AHeap} {t : Nat} {cs : List AVal} (hs : σ[t]? = some (.var cs)) (hc : noRefL cs = true) : reach σ 1000 [t] [] = [t] := by
  have hd : σ.getD t .free = .var cs := by simp [List.getD_eq_getElem?_getD, hs]
  have e2 := (noRefL_spec (fun _ _ => none) cs hc).2
  show reach σ (999 + 1) [t] [] = [t]
  simp only [reach, List.contains_nil, Bool.false_eq_true, if_false, hd, refsB, e2, List.nil_append]
end
end Go.Proofs.YtmlkhhidifjjfaaDoor
namespace Go.Proofs.YtmlkhhidifjjfaaDoor
set_option linter.unusedSimpArgs false
set_option linter.unusedVariables false
section
variable (c : Prop) [Decidable c]
theorem ite_exn (t1 t2 : Tms) (σ1 σ2 : AHeap) : (if c then some (AExit.normal, t1, σ1) else some (AExit.normal, t2, σ2)) = some (AExit.normal, (if c then t1 else t2), (if c then σ1 else σ2)) := by split <;> rfl
theorem ite_exr (t1 t2 : Tms) (σ1 σ2 : AHeap) : (if c then some (AExit.ret, t1, σ1) else some (AExit.ret, t2, σ2)) = some (AExit.ret, (if c then t1 else t2), (if c then σ1 else σ2)) := by split <;> rfl
theorem ite_exg (t1 t2 : Tms) (σ1 σ2 : AHeap) : (if c then some (t1, σ1, (none : Option AVal)) else some (t2, σ2, none)) = some ((if c then t1 else t2), (if c then σ1 else σ2), none) := by split <;> rfl
theorem ite_slot (n : Nat) (a b : AVal) : (if c then (n, a) else (n, b)) = (n, if c then a else b) := by split <;> rfl
theorem ite_val (a b : AVal) (σ1 σ2 : AHeap) : (if c then some (a, σ1) else some (b, σ2)) = some ((if c then a else b), (if c then σ1 else σ2)) := by split <;> rfl
theorem ite_vcl (a b : AVal) (σ1 σ2 : AHeap) (x y : Cls) : (if c then some (a, σ1, x) else some (b, σ2, y)) = some ((if c then a else b), (if c then σ1 else σ2), if c then x else y) := by split <;> rfl
end
theorem ite_tf {α : Type} (p : Bool) (x y z : α) : (if p = true then x else (if p = false then y else z)) = if p = true then x else y := by cases p <;> rfl
theorem ite_ft {α : Type} (p : Bool) (x y z : α) : (if p = false then x else (if p = true then y else z)) = if p = false then x else y := by cases p <;> rfl
theorem ite_tft {α : Type} (p : Bool) (x y z : α) : (if p = true then (if p = false then x else y) else z) = if p = true then y else z := by cases p <;> rfl
theorem ite_ftf {α : Type} (p : Bool) (x y z : α) : (if p = false then (if p = true then x else y) else z) = if p = false then y else z := by cases p <;> rfl
/-! ### the check of an open order -/
theorem chkA_nil (ops : List AOp) (b : Nat) (cs : List Cls) : chkA ops b [] cs = true := rfl
theorem chkA_cons (ops : List AOp) (b : Nat) (p : Nat × Nat) (l : List (Nat × Nat)) (cs : List Cls) : chkA ops b (p :: l) cs = (pairFree (ops.getD p.1 default) (ops.getD p.2 default) (cs.getD p.1 {}) (cs.getD p.2 {}) (b + sitesOf (ops.take p.1)) && chkA ops b l cs) := by
  simp only [chkA, List.all_cons]
theorem pairFree_eq (oj oi : AOp) (cj ci : Cls) (sj : Nat) : pairFree oj oi cj ci sj = (emptyOp oj cj || emptyOp oi ci || (noWr cj && noWr ci && (nsite oj.ins == 0 || !ci.rd.contains sj)) || (isCallI oj.ins && (noWr ci && ci.rd.isEmpty)) || (isLdI oj.ins && isCallI oi.ins && ci.any && gotOk cj ci)) := rfl
theorem emptyOp_eq (o : AOp) (rd wr : List Nat) (any : Bool) (got : List (Nat × Option Nat × Nat × AVal)) (upd : List (Nat × List AVal)) : emptyOp o ⟨rd, wr, any, got, upd⟩ = (nsite o.ins == 0 && rd.isEmpty && wr.isEmpty && !any) := rfl
theorem noWr_eq (rd wr : List Nat) (any : Bool) (got : List (Nat × Option Nat × Nat × AVal)) (upd : List (Nat × List AVal)) : noWr ⟨rd, wr, any, got, upd⟩ = (wr.isEmpty && !any) := rfl
/-! ### elements of rows -/
theorem drop_at {α : Type} {l : List α} {i : Nat} {x : α} {r : List α} (h : l.drop i = x :: r) : l[i]? = some x ∧ l.drop (i + 1) = r ∧ i < l.length := by
  have h1 : i < l.length := by
    rcases Nat.lt_or_ge i l.length with h1 | h1
    · exact h1
    · rw [List.drop_eq_nil_of_le h1] at h; cases h
  rw [List.drop_eq_getElem_cons h1] at h
  injection h with h2 h3
  exact ⟨by rw [List.getElem?_eq_getElem h1, h2], h3, h1⟩
theorem drop_nil {α : Type} {l : List α} {i : Nat} (h : l.drop i = []) : ¬ (i : Int) < l.length := by
  have := List.drop_eq_nil_iff.1 h; omega
theorem iad {α : Type} {l : List α} {i : Nat} {x : α} (h : l[i]? = some x) (f : α → AVal) {k : Nat} (hk : (f x).cells.length = k) (σ : AHeap) (n : Bool) (kk : IntKind) : iaddrA σ k (.lst n (l.map f)) (.int kk (i : Int)) = some (.iptr (f x).cells 0, σ, {}) := by
  have h0 : (0 : Int) ≤ (i : Int) := Int.natCast_nonneg i
  unfold iaddrA
  simp only [h0, if_true, Int.toNat_natCast, List.getElem?_map, h, Option.map_some, hk]
theorem wrap_nat {n : Int} (h0 : -9223372036854775808 ≤ n) (h : n ≤ 9223372036854775807) : IntKind.i64.wrap n = n := by
  rw [IntKind.wrap_i64]; omega
theorem len_eq {α β : Type} {a : List α} {b : List β} (h : a.length = b.length) : ((a.length : Int) != (b.length : Int)) = false := by simp [h]
theorem len_ne {α β : Type} {a : List α} {b : List β} (h : a.length ≠ b.length) : ((a.length : Int) != (b.length : Int)) = true := by
  simp only [bne_iff_ne, ne_eq]; omega
theorem beq_len {α : Type} [BEq α] [LawfulBEq α] {a b : List α} (h : a.length ≠ b.length) : (a == b) = false := by
  simp only [beq_eq_false_iff_ne, ne_eq]; rintro rfl; exact h rfl
theorem wrap_succ {i n : Nat} (h : (i : Int) < n) (hn : n ≤ 9223372036854775807) : IntKind.i64.wrap ((i : Int) + 1) = ((i + 1 : Nat) : Int) := by
  rw [wrap_nat (by omega) (by omega)]; rfl
/-! ### calls of plain things -/
theorem call_flat {O : Oracle} {byref : Nat → Bool} {f : Nat} {args : List AVal} {r : AVal} (h : O f args [] = some (r, [])) (hb : byref f = false) (hp : args.all plainV = true) (hn : args.map normV = args) (hv : resV 0 (some (r, [])) = some (r, [])) (hr : ∀ site, renV (rhoBack [] [] site) r = r) (σ : AHeap) (site own : Nat) (view : Bool) : callG O byref σ site f own view args = some (r, σ, {}) := by
  rw [callG_plain hb hp, hn, h]
  have : askO view 0 (some (r, [])) = some (r, []) := by
    unfold askO
    split
    · exact hv
    · rfl
  rw [this, backG_plain _ _ _ _ (hr site)]
theorem slice_hi {α : Type} (σ : AHeap) (k : Nat) (l : List α) (f : α → AVal) (kk : IntKind) (n : Int) (h0 : 0 ≤ n) (h : n ≤ (l.length : Int)) : sliceA σ k (.lst false (l.map f)) none (some (.int kk n)) none = some (.lst false ((l.take n.toNat).map f), σ, {}) := by
  simp only [sliceA, optB, boundA, List.length_map, h0, h, and_self, if_true, beq_self_eq_true, Bool.true_or, Option.isSome_none, Bool.false_eq_true, if_false, Bool.false_and, List.drop_zero, List.map_take]
abbrev Bytes := List UInt8
def bytesV (b : Bytes) : AVal := .lst false (b.map byteV)
structure PropD where
  id : Int
  num : Int
  text : Bytes
  pair : Bytes
  data : Bytes
  deriving DecidableEq
def propC (p : PropD) : List AVal := [.int .i64 p.id, .int .i64 p.num, .str p.text, .str p.pair, bytesV p.data]
def propV (p : PropD) : AVal := .agg (propC p)
def propsV (l : List PropD) : AVal := .lst false (l.map propV)
def intsV (l : List Int) : AVal := .lst false (l.map (.int .i64 ·))
theorem bytesOf_map (l : Bytes) : bytesOf (l.map byteV) = some l := by
  induction l with
  | nil => rfl
  | cons b l ih =>
    simp only [List.map_cons, bytesOf, ih, byteV, byteOf, Int.toNat_natCast, UInt8.ofNat_toNat]
end Go.Proofs.YtmlkhhidifjjfaaDoor
