/- ABS: statements whose order is open; code; functions. -/
import Derived.Test.YtaaflagbhneakaaDoorAbsCode
namespace Go.Proofs.YtaaflagbhneakaaDoor
set_option linter.unusedSimpArgs false
set_option linter.unusedVariables false
open Go.RowKit

section
variable {P : Program} {O : Oracle} {byref : Nat → Bool} {an : Ann} {base : Nat → Prop} {w0 : World} {I0 : Imm}

theorem step_still {o : AOp} {tm tm1 : Tms} {σ σ1 : AHeap} {site : Nat} {v : AVal} {c : Cls} (ht : o.ins.touches = false) (h : stepA O byref o site tm σ = some (v, tm1, σ1, c)) : c = {} := by
  unfold stepA at h
  split at h
  · cases h
  · simp only [Option.some.injEq, Prod.mk.injEq] at h; exact h.2.2.2.symm
  · split at h
    · split at h
      · rename_i he
        simp only [Option.some.injEq, Prod.mk.injEq] at h
        rw [← h.2.2.2]
        exact (execI_still ht he).1
      · cases h
    · cases h
theorem touches_nsite {i : Ins} (h : i.touches = false) : nsite i = 0 := by cases i <;> simp [Ins.touches] at h <;> rfl
theorem runs_still {asl : List AOp} {L : Nat} {cs : List Cls} : ∀ {l : List Nat} {tm tm' : Tms} {σ σ' : AHeap}, Runs O byref asl L cs l tm σ tm' σ' → ∀ j ∈ l, (asl.getD j default).ins.touches = false → cs.getD j {} = {}
  | [], _, _, _, _, _, j, hj, _ => by simp at hj
  | i :: l, _, _, _, _, h, j, hj, ht => by
    cases h with
    | cons h1 _ h2 =>
      rcases List.mem_cons.1 hj with rfl | hj
      · exact step_still ht h1
      · exact runs_still h2 j hj ht
theorem sites_lt (asl : List AOp) : ∀ {j i : Nat}, j < i → i ≤ asl.length → sitesOf (asl.take j) + nsite (asl.getD j default).ins ≤ sitesOf (asl.take i) := by
  intro j i hji hi
  induction i with
  | zero => omega
  | succ i ih =>
    rw [sites_snoc asl (by omega)]
    by_cases e : j = i
    · subst e
      simp [List.getD_eq_getElem?_getD, show j < asl.length by omega]
    · have := ih (by omega) (by omega); omega

theorem any_sound (hO : OrOk P O) (hb : KLt base w0) {ops : Array Oper} {asl : List AOp} (hcomp : compOps P an ops ops.toList = some asl) {ps : List (Nat × Nat)} (hps : pairsOf asl = some ps) {L : Nat} {cs : List Cls} (hchk : chkA asl L ps cs = true)
    {tmF : Tms} {σF : AHeap} {Q : Exit → Act → World → Prop} {I : Imm} {β : Bmap} (hQ : ∀ a' w', StR an.nt base w0 I0 I β tmF σF a' w' → Q .normal a' w') :
    ∀ (fuel : Nat) (rem : List Nat) (listed : Array Bool) (a : Act) (w : World) (tm : Tms) (σ : AHeap), Runs O byref asl L cs rem tm σ tmF σF → rem.Pairwise (· < ·) → (∀ j ∈ rem, j < ops.size) → (∀ j, j < ops.size → (listed.getD j true = true ↔ j ∉ rem)) → listed.size = ops.size →
      (∀ k, k < ops.size → k ∉ rem → ∀ p ∈ (ancs (asl.map (·.after)) []).getD k [], p ∉ rem) → rem.length = fuel → StR an.nt base w0 I0 I β tm σ a w → wpAny P .any ops Q fuel listed a w := by
  obtain ⟨hlen, hget⟩ := compOps_get hcomp
  obtain ⟨hp1, hp2⟩ := pairsOf_spec hps
  obtain ⟨_, _, hanc⟩ := ancs_spec (asl.map (·.after)) [] (fun _ _ _ => trivial)
  simp only [Array.length_toList] at hlen
  have hafter : ∀ j o, ops[j]? = some o → ∃ ao, asl.getD j default = ao ∧ compOp P an ops o = some ao ∧ ao.after = (o.after.toList.filter (Region.binds .any)).map (·.on) ∧ ao.dst = o.dst := by
    intro j o ho
    obtain ⟨ao, h1, h2⟩ := hget j o (by simpa using ho)
    refine ⟨ao, by simp [List.getD_eq_getElem?_getD, h1], h2, ?_⟩
    obtain ⟨g, i, _, _, _, rfl⟩ := compOp_spec h2
    exact ⟨rfl, rfl⟩
  intro fuel
  induction fuel with
  | zero =>
    intro rem listed a w tm σ hr hs hlt hl hsz hcl hfl hst
    have : rem = [] := List.eq_nil_of_length_eq_zero hfl
    subst this
    cases hr
    refine ⟨?_, hQ a w hst⟩
    apply List.eq_nil_iff_forall_not_mem.2
    intro j hj
    rw [mem_ready] at hj
    obtain ⟨h1, o, ho, _⟩ := hj
    have hjl : j < ops.size := (Array.getElem?_eq_some_iff.1 ho).1
    have := (hl j hjl).2 (by simp)
    rw [h1] at this; cases this
  | succ fuel ih =>
    intro rem listed a w tm σ hr hs hlt hl hsz hcl hfl hst
    have isRem : ∀ j, j < ops.size → listed.getD j true = false → j ∈ rem := by
      intro j hj h
      by_cases hm : j ∈ rem
      · exact hm
      · have := (hl j hj).2 hm; rw [h] at this; cases this
    have getD_tf : ∀ j, j < ops.size → listed.getD j false = listed.getD j true := by
      intro j hj
      simp [Array.getD, hsz, hj]
    refine ⟨fun hnil => ?_, fun i hi => ?_⟩
    · exfalso
      cases rem with
      | nil => simp at hfl
      | cons r rs =>
        have hrl : r < ops.size := hlt r (by simp)
        have hro : ops[r]? = some ops[r] := by simp [hrl]
        obtain ⟨ao, e1, e2, e3, _⟩ := hafter r _ hro
        have : r ∈ Region.ready .any ops listed := by
          rw [mem_ready]
          refine ⟨?_, ops[r], hro, fun e he hbnd => ?_⟩
          · cases hq : listed.getD r true with
            | false => rfl
            | true => exact absurd (List.mem_cons_self) ((hl r hrl).1 hq)
          · have hon : e.on ∈ ao.after := by rw [e3]; exact List.mem_map.2 ⟨e, List.mem_filter.2 ⟨by simpa using he, hbnd⟩, rfl⟩
            have hlt' : e.on < r := hp2 r (by omega) e.on (by rw [e1]; exact hon)
            rw [getD_tf _ (by omega)]
            refine (hl e.on (by omega)).2 (fun hm => ?_)
            rcases List.mem_cons.1 hm with h | hm
            · omega
            · have := (List.pairwise_cons.1 hs).1 e.on hm; omega
        rw [hnil] at this; simp at this
    · rw [mem_ready] at hi
      obtain ⟨hi0, o, ho, hpre⟩ := hi
      have hil : i < ops.size := (Array.getElem?_eq_some_iff.1 ho).1
      have him := isRem i hil hi0
      obtain ⟨l1, l2, rfl⟩ := List.append_of_mem him
      obtain ⟨ao, e1, e2, e3, e4⟩ := hafter i o ho
      have hdone : ∀ p ∈ (asl.getD i default).after, p < ops.size → p ∉ l1 ++ i :: l2 := by
        intro p hp hpl
        rw [e1, e3] at hp
        obtain ⟨e, he, rfl⟩ := List.mem_map.1 hp
        obtain ⟨he1, he2⟩ := List.mem_filter.1 he
        have := hpre e (by simpa using he1) he2
        rw [getD_tf _ hpl] at this
        exact (hl e.on hpl).1 this
      have hai : (asl.map (·.after)).getD i [] = (asl.getD i default).after := by
        simp [List.getD_eq_getElem?_getD, show i < asl.length by omega]
      have hanci : ∀ p ∈ (ancs (asl.map (·.after)) []).getD i [], p ∉ l1 ++ i :: l2 := by
        intro p hp
        have hap : ∀ q, q ∈ (asl.map (·.after)).getD i [] → q < i := fun q hq => hp2 i (by omega) q (by rw [← hai]; exact hq)
        rcases hanc i (by simp; omega) p (by simpa using hp) with h | ⟨q, h1, h2, h3⟩
        · exact hdone p (by rw [← hai]; exact h) (by have := hap p h; omega)
        · have hql : q < ops.size := by simp at h2; omega
          exact hcl q hql (hdone q (by rw [← hai]; exact h1) hql) p h3
      have hl1 : ∀ j ∈ l1, j < i := by
        intro j hj
        have := List.pairwise_append.1 hs
        exact this.2.2 j hj i (by simp)
      obtain ⟨v1, tm1, σ1, h1, hnp1, h2⟩ := runs_first (l1 := l1) (i := i) (fun j hj => by
        have hji := hl1 j hj
        have hjn : j ∉ (ancs (asl.map (·.after)) []).getD i [] := fun hm => hanci j hm (by simp [hj])
        obtain ⟨p1, p2⟩ := hp1 j i hji (by omega) hjn
        refine ⟨p1, ?_, fun hn _ => ?_⟩
        · rcases p2 with p2 | p2 | p2
          · have := runs_still hr j (by simp [hj]) p2
            have hem : emptyOp (asl.getD j default) (cs.getD j {}) = true := by rw [this]; simp only [emptyOp, touches_nsite p2]; rfl
            simp only [pairFree, hem, Bool.true_or]
          · have := runs_still hr i (by simp) p2
            have hem : emptyOp (asl.getD i default) (cs.getD i {}) = true := by rw [this]; simp only [emptyOp, touches_nsite p2]; rfl
            simp only [pairFree, hem, Bool.true_or, Bool.or_true]
          · have := List.all_eq_true.1 hchk (j, i) p2
            exact this
        · have := sites_lt asl hji (by omega)
          omega) hr
      unfold wpOp
      rw [ho]
      rw [e1] at h1
      obtain ⟨I', β', g1, g2, g3, g4, g5⟩ := hst
      refine step_sound hO e2 g3 g4 g5 hb h1 (fun _ a' w' hs' => ih (l1 ++ l2) _ a' w' tm1 σ1 h2 ?_ ?_ ?_ (by simpa using hsz) ?_ ?_ (hs'.trans g1 g2)) (fun x e => absurd e (hnp1 x))
      · have := List.pairwise_append.1 hs
        exact List.pairwise_append.2 ⟨this.1, (List.pairwise_cons.1 this.2.1).2, fun x hx y hy => this.2.2 x hx y (by simp [hy])⟩
      · intro j hj
        refine hlt j ?_
        simp only [List.mem_append, List.mem_cons] at hj ⊢
        rcases hj with h | h
        · exact Or.inl h
        · exact Or.inr (Or.inr h)
      · intro j hj
        have hs1 := List.pairwise_append.1 hs
        by_cases hij : i = j
        · subst hij
          have hn : i ∉ l1 ++ l2 := by
            intro hm
            rcases List.mem_append.1 hm with h | h
            · have := hl1 i h; omega
            · have := (List.pairwise_cons.1 hs1.2.1).1 i h; omega
          simp [Array.getD, hsz, hil, hn]
        · rw [getD_set_ne true hij, hl j hj]
          simp only [List.mem_append, List.mem_cons, not_or]
          constructor
          · rintro ⟨a1, _, a3⟩; exact ⟨a1, a3⟩
          · rintro ⟨a1, a3⟩; exact ⟨a1, fun e => hij e.symm, a3⟩
      · intro k hk hkn p hp hm
        have hsub : p ∈ l1 ++ i :: l2 := by
          simp only [List.mem_append, List.mem_cons] at hm ⊢
          rcases hm with h | h
          · exact Or.inl h
          · exact Or.inr (Or.inr h)
        by_cases hki : k = i
        · subst hki; exact hanci p hp hsub
        · refine hcl k hk (fun hkm => hkn ?_) p hp hsub
          simp only [List.mem_append, List.mem_cons] at hkm ⊢
          rcases hkm with h | h | h
          · exact Or.inl h
          · exact absurd h hki
          · exact Or.inr h
      · simp at hfl ⊢; omega

/-- the heap with places kept for new blocks -/
theorem Rel.reserve {I : Imm} {β : Bmap} {σ : AHeap} {w : World} (R : Rel base w0 I0 I β σ w) (n : Nat) : Rel base w0 I0 I β (σ ++ List.replicate n .free) w := by
  have look : ∀ t x, (σ ++ List.replicate n ABlk.free)[t]? = some x → σ[t]? = some x ∨ (σ.length ≤ t ∧ x = .free) := by
    intro t x h
    by_cases ht : t < σ.length
    · rw [List.getElem?_append_left ht] at h; exact Or.inl h
    · rw [List.getElem?_append_right (by omega)] at h
      refine Or.inr ⟨by omega, ?_⟩
      have := List.mem_of_getElem? h
      exact List.eq_of_mem_replicate this
  refine ⟨R.below, R.old, R.imm, ?_, ?_, ?_, ?_, ?_, ?_, R.glob⟩
  · intro t x h
    rcases look t x h with h | ⟨_, rfl⟩
    · exact R.blk t x h
    · trivial
  · intro t x b h hb
    rcases look t x h with h | ⟨_, rfl⟩
    · exact R.own t x b h hb
    · cases hb
  · intro t x t' x' b h h' hb hb'
    rcases look t x h with h | ⟨_, rfl⟩
    · rcases look t' x' h' with h' | ⟨_, rfl⟩
      · exact R.apart t x t' x' b h h' hb hb'
      · cases hb'
    · cases hb
  · intro t g h
    exact R.fresh t g (by simp at h; omega)
  · intro t g h
    rcases look t _ h with h | ⟨h, _⟩
    · exact R.free t g h
    · exact R.fresh t g h
  · intro t x g h hg
    rcases look t _ h with h | ⟨h, _⟩
    · exact R.gen t x g h hg
    · exact R.fresh t g h

theorem StR.keep {I : Imm} {β : Bmap} {tm : Tms} {σ : AHeap} {a : Act} {w : World} (h : StR an.nt base w0 I0 I β tm σ a w) (live : List Nat) : StR an.nt base w0 I0 I β (keepL live tm) σ a w := by
  obtain ⟨I', β', h1, h2, h3, h4⟩ := h
  exact ⟨I', β', h1, h2, h3.keep live, h4⟩
/-- behind a statement -/
def OutR (an : Ann) (base : Nat → Prop) (w0 : World) (I0 I : Imm) (β : Bmap) (e : AExit) (tm : Tms) (σ : AHeap) (Q : Exit → Act → World → Prop) : Prop := match e with
  | .normal => ∀ a w, StR an.nt base w0 I0 I β tm σ a w → Q .normal a w
  | .exit id => ∀ a w, StR an.nt base w0 I0 I β tm σ a w → Q (.exit id) a w
  | .ret => ∀ a w, StR an.nt base w0 I0 I β tm σ a w → Q .ret a w
  | .panic x => ∀ a u w, a.defers = [] → Post base w0 I0 I β x σ u w → Q (.panic [{ v := u, recovered := false }]) a w
theorem region_sound (hO : OrOk P O) (hm : P.follows .mixedOrders = true) (hb : KLt base w0) {id : Nat} {ops : Array Oper} {draw : Bool} {asl : List AOp} {chk : Option (List (Nat × Nat))} {live : List Nat} (hc : compC P an (.region id ops draw) = .region asl chk live) {I : Imm} {β : Bmap} {tm tm' : Tms} {σ σ' : AHeap} {a : Act} {w : World} {e : AExit}
    (hst : StR an.nt base w0 I0 I β tm σ a w) (h : runRegion O byref asl chk live tm σ = some (e, tm', σ')) {Q : Exit → Act → World → Prop} (hQ : OutR an base w0 I0 I β e tm' σ' Q) : (Code.region id ops draw).wp P Q a w := by
  obtain ⟨I1, β1, g1, g2, g3, g4, g5⟩ := hst
  simp only [compC] at hc
  split at hc
  · rename_i l hl
    unfold runRegion at h
    split at hc
    · rename_i hd
      subst hd
      split at hc
      · rename_i ps hps
        simp only [ACode.region.injEq] at hc
        obtain ⟨rfl, rfl, rfl⟩ := hc
        cases hrun : runOps O byref l σ.length tm (σ ++ List.replicate (sitesOf l) .free) with
        | none => rw [hrun] at h; simp only [regX] at h; cases h
        | some q =>
          obtain ⟨tm1, σ1, cs, p⟩ := q
          rw [hrun] at h
          cases p with
          | some x => simp only [regX] at h; cases h
          | none =>
            simp only [regX] at h
            split at h
            · rename_i hchk
              simp only [Option.some.injEq, Prod.mk.injEq] at h
              obtain ⟨rfl, rfl, rfl⟩ := h
              have hlen := (compOps_get hl).1
              simp only [Array.length_toList] at hlen
              have hr := runs_of (O := O) (byref := byref) (ops := l) (L := σ.length) l.length 0 (cs := cs) (cs' := cs) (by omega) (by simpa [sitesOf] using hrun) (fun j => by simp)
              refine wp_region_any hm (any_sound hO hb hl hps hchk (I := I) (β := β) (fun a' w' hs => hQ a' w' (hs.keep _)) ops.size (List.range' 0 l.length) _ a _ tm _ hr ?_ ?_ ?_ (by simp) ?_ (by simp [hlen]) ⟨I1, β1, g1, g2, g3, g4, (g5.reserve _).same rfl rfl rfl rfl⟩)
              · exact List.pairwise_lt_range' 
              · intro j hj; simp at hj; omega
              · intro j hj
                simp [Array.getD, hj, hlen]
              · intro k hk hkn
                exact absurd (by simp; omega) hkn
            · cases h
      · cases hc
    · rename_i hd
      simp only [ACode.region.injEq] at hc
      obtain ⟨rfl, rfl, rfl⟩ := hc
      have hdf : draw = false := by cases draw <;> simp_all
      subst hdf
      cases hrun : runOps O byref l σ.length tm (σ ++ List.replicate (sitesOf l) .free) with
      | none => rw [hrun] at h; simp only [regX] at h; cases h
      | some q =>
        obtain ⟨tm1, σ1, cs, p⟩ := q
        rw [hrun] at h
        cases p with
        | none =>
          simp only [regX, Option.some.injEq, Prod.mk.injEq] at h
          obtain ⟨rfl, rfl, rfl⟩ := h
          exact wp_region_list (ops_sound hO hb hl g3 g4 (g5.reserve _) hrun (fun _ a' w' hs => hQ a' w' ((hs.trans g1 g2).keep _)) (fun x hx => by cases hx))
        | some x =>
          simp only [regX, Option.some.injEq, Prod.mk.injEq] at h
          obtain ⟨rfl, rfl, rfl⟩ := h
          exact wp_region_list (ops_sound hO hb hl g3 g4 (g5.reserve _) hrun (fun hx => by cases hx) (fun x' hx a' u w' hd' hp => by
            injection hx with hx; subst hx
            exact hQ a' u w' hd' (hp.trans g1 g2)))
  · cases hc
end
end Go.Proofs.YtaaflagbhneakaaDoor
