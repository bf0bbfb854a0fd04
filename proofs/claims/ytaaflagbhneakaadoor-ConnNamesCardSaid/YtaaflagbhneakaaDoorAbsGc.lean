/- ABS: blocks under new names; what is still reached. -/
import Derived.Test.YtaaflagbhneakaaDoorAbsOp5
namespace Go.Proofs.YtaaflagbhneakaaDoor
set_option linter.unusedSimpArgs false
set_option linter.unusedVariables false
open Go.RowKit

section
variable {base : Nat → Prop} {w0 w w' : World} {I0 I I' : Imm} {β β' : Bmap} {σ σ' : AHeap} {ρ : Rho}

/-- the new names say what the old ones say -/
def RhoOk (ρ : Rho) (β β' : Bmap) : Prop := ∀ t g t' g' bi, ρ t g = some (t', g') → β t g = some bi → β' t' g' = some bi

mutual
theorem VR_ren (hρ : RhoOk ρ β β') : ∀ (x : AVal) (v : Value), VR I β x v → VR I β' (renV ρ x) v
  | .top, _, h => by simp only [renV, VR]
  | .any, _, h => by simpa only [renV, VR] using h
  | .int _ _, _, h => by simpa only [renV, VR] using h
  | .bool _, _, h => by simpa only [renV, VR] using h
  | .str _, _, h => by simpa only [renV, VR] using h
  | .nilp, _, h => by simpa only [renV, VR] using h
  | .nilm, _, h => by simpa only [renV, VR] using h
  | .nili, _, h => by simpa only [renV, VR] using h
  | .pan _, _, h => by simp only [VR] at h
  | .iface t x, _, h => by
    simp only [renV, VR] at h ⊢
    obtain ⟨u, h1, h2⟩ := h
    exact ⟨u, h1, VR_ren hρ x u h2⟩
  | .ref t o, _, h => by
    simp only [VR] at h
    obtain ⟨b, k, c, h1, h2⟩ := h
    simp only [renV]
    split
    · rename_i t' e
      simp only [VR]
      exact ⟨b, k, c, hρ _ _ _ _ _ e h1, h2⟩
    · subst h2; simp only [VR]; exact ⟨rfl, rfl⟩
  | .map t, _, h => by
    simp only [VR] at h
    obtain ⟨b, k, c, h1, h2⟩ := h
    simp only [renV]
    split
    · rename_i t' e
      simp only [VR]
      exact ⟨b, k, c, hρ _ _ _ _ _ e h1, h2⟩
    · subst h2; simp only [VR]; exact ⟨rfl, rfl⟩
  | .eref t g i o, _, h => by
    simp only [VR] at h
    obtain ⟨b, k, c, h1, h2⟩ := h
    simp only [renV]
    split
    · rename_i t' g' e
      simp only [VR]
      exact ⟨b, k, c, hρ _ _ _ _ _ e h1, h2⟩
    · subst h2; simp only [VR]; exact ⟨rfl, rfl⟩
  | .sl t g lo n, _, h => by
    simp only [VR] at h
    obtain ⟨bi, h1, h2, h3, h4⟩ := h
    simp only [renV]
    split
    · rename_i t' g' e
      simp only [VR]
      exact ⟨bi, hρ _ _ _ _ _ e h1, h2, h3, h4⟩
    · simp only [VR]
      rcases h4 with ⟨_, _, rfl⟩ | ⟨_, _, _, rfl⟩ | ⟨_, _, _, _, rfl⟩ <;> exact ⟨rfl, rfl⟩
  | .iptr cs o, _, h => by
    simp only [renV, VR] at h ⊢
    obtain ⟨b, off, h1, h2, h3⟩ := h
    exact ⟨b, off, h1, CR.of_tree h3 h2, h3⟩
  | .lst x xs, _, h => by
    simp only [renV, VR] at h ⊢
    obtain ⟨A, cap, h1, h2, h3, h4, h5, h6⟩ := h
    refine ⟨A, cap, h1, h2, h3, h4, ?_, h6⟩
    rcases h5 with h5 | ⟨b, off, k, e, hk, h5⟩
    · exact Or.inl h5
    · exact Or.inr ⟨b, off, k, e, hk, (LR.tree k xs b off h6 h5).mono (Imm.le.refl I) (B0_le β') _ _ _ _⟩
  | .agg cs, _, h => by
    simp only [renV, VR] at h ⊢
    obtain ⟨us, h1, h2⟩ := h
    exact ⟨us, h1, VRs_ren hρ cs us.toList h2⟩
  | .tup cs, _, h => by
    simp only [renV, VR] at h ⊢
    obtain ⟨us, h1, h2⟩ := h
    exact ⟨us, h1, VRs_ren hρ cs us.toList h2⟩
  | .fn f cs, _, h => by
    simp only [renV, VR] at h ⊢
    obtain ⟨us, h1, h2⟩ := h
    exact ⟨us, h1, VRs_ren hρ cs us.toList h2⟩
theorem VRs_ren (hρ : RhoOk ρ β β') : ∀ (xs : List AVal) (vs : List Value), VRs I β xs vs → VRs I β' (renL ρ xs) vs
  | [], _, h => by simpa only [renL, VRs] using h
  | x :: xs, _, h => by
    simp only [renL, VRs] at h ⊢
    obtain ⟨v, vs', h1, h2, h3⟩ := h
    exact ⟨v, vs', h1, VR_ren hρ x v h2, VRs_ren hρ xs vs' h3⟩
end
theorem renL_map : ∀ (xs : List AVal), renL ρ xs = xs.map (renV ρ)
  | [] => rfl
  | x :: xs => by simp only [renL, List.map_cons, renL_map xs]

/-- blocks without generations -/
def oneB : ABlk → Bool
  | .var _ | .map _ | .siter _ _ => true
  | _ => false
theorem cells_ren (x : AVal) : (renV ρ x).cells = x.cells.map (renV ρ) := by
  cases x with
  | agg cs => simp only [renV, AVal.cells, renL_map]
  | ref t o =>
    show (renV ρ (.ref t o)).cells = [renV ρ (.ref t o)]
    simp only [renV]
    generalize ρ t 0 = q
    rcases q with _ | ⟨t', _ | g⟩ <;> rfl
  | eref t g i o =>
    show (renV ρ (.eref t g i o)).cells = [renV ρ (.eref t g i o)]
    simp only [renV]
    generalize ρ t g = q
    rcases q with _ | ⟨t', g'⟩ <;> rfl
  | sl t g i o =>
    show (renV ρ (.sl t g i o)).cells = [renV ρ (.sl t g i o)]
    simp only [renV]
    generalize ρ t g = q
    rcases q with _ | ⟨t', g'⟩ <;> rfl
  | map t =>
    show (renV ρ (.map t)).cells = [renV ρ (.map t)]
    simp only [renV]
    generalize ρ t 0 = q
    rcases q with _ | ⟨t', _ | g⟩ <;> rfl
  | _ => simp only [renV, AVal.cells, List.map_cons, List.map_nil]
theorem renV_cells (x : AVal) : x.cells.length = (renV ρ x).cells.length ∧ (∀ c ∈ (renV ρ x).cells, ∃ c0 ∈ x.cells, c = renV ρ c0) := by
  rw [cells_ren]
  exact ⟨by simp, fun c hc => by obtain ⟨c0, h0, rfl⟩ := List.mem_map.1 hc; exact ⟨c0, h0, rfl⟩⟩
theorem okCell_ren {c : AVal} (h : okCell c = true) : okCell (renV ρ c) = true := by
  cases c <;> first
    | (simp [okCell] at h; done)
    | (simp only [renV]; rfl)
    | (simp only [renV]; split <;> rfl)
theorem flat_ren : ∀ (xs : List AVal), (renL ρ xs).flatMap AVal.cells = renL ρ (xs.flatMap AVal.cells)
  | [] => rfl
  | x :: xs => by
    rw [renL, List.flatMap_cons, List.flatMap_cons, flat_ren xs, renL_map, renL_map, List.map_append]
    rw [cells_ren]
/-- a block under new names -/
theorem BR_ren (hρ : RhoOk ρ β β') {t t' : Nat} {x : ABlk} {g' : Nat} (hg : ∀ bi, β t (genB x) = some bi → β' t' g' = some bi) (hv : oneB x = true → g' = 0) (h : BR I β w t x) : BR I β' w t' (renB ρ g' x) := by
  cases x with
  | free => trivial
  | map es =>
    obtain ⟨b, k, c, arr, clk, h1, h2, h3, h4, h5⟩ := h
    have e := hv rfl
    subst e
    refine ⟨b, k, c, arr, clk, hg _ h1, h2, ?_, ?_, ?_⟩
    · rw [List.map_map]
      refine VRs.of_cells (β := β) ?_ h3
      intro x hx
      obtain ⟨p, hp, rfl⟩ := List.mem_map.1 hx
      have := h5 p hp
      show treeC p.1.cells = true
      generalize p.1 = q at this ⊢
      cases q <;> simp [keyA] at this <;> rfl
    · have := VRs_ren hρ _ _ h4
      rw [renL_map, List.map_map] at this
      rw [List.map_map]
      exact this
    · intro p hp
      obtain ⟨q, hq, rfl⟩ := List.mem_map.1 hp
      exact h5 q hq
  | siter l p =>
    obtain ⟨b, k, c, h1, h2⟩ := h
    have e := hv rfl
    subst e
    exact ⟨b, k, c, hg _ h1, h2⟩
  | rrow g k xs =>
    obtain ⟨bi, h1, h2, h3, h4, h5, h6, b, us, ty, e, h8, h9, h10⟩ := h
    refine ⟨bi, hg _ h1, h2, h3, h4, by rw [renL_map, List.length_map]; exact h5, ?_, b, us, ty, e, h8, h9, ?_⟩
    · intro x hx
      rw [renL_map] at hx
      obtain ⟨y, hy, rfl⟩ := List.mem_map.1 hx
      obtain ⟨q1, q2⟩ := renV_cells (ρ := ρ) y
      refine ⟨by rw [← q1]; exact (h6 y hy).1, fun c hc => ?_⟩
      obtain ⟨c0, hc0, rfl⟩ := q2 c hc
      exact okCell_ren ((h6 y hy).2 c0 hc0)
    · rw [flat_ren, show (renL ρ xs).length = xs.length by rw [renL_map, List.length_map]]
      exact VRs_ren hρ _ _ h10
  | var cs =>
    obtain ⟨b, k, c, us, ty, h1, h2, h3⟩ := h
    have e := hv rfl
    subst e
    exact ⟨b, k, c, us, ty, hg _ h1, h2, VRs_ren hρ _ _ h3⟩
  | row g k xs =>
    obtain ⟨bi, h1, h2, h3, h4, h5, h6, h7, h8⟩ := h
    refine ⟨bi, hg _ h1, h2, h3, h4, h5, h6, h7, ?_⟩
    rcases h8 with h8 | ⟨b, us, ty, e, h8, h9, h10⟩
    · exact Or.inl h8
    · refine Or.inr ⟨b, us, ty, e, h8, h9, VRs.of_cells (β := β) ?_ h10⟩
      intro x hx
      have := treeC_iff.1 (treeC_flat h6) x hx
      cases x <;> simp_all [tree1, AVal.cells, treeC]
  | frow g k xs =>
    obtain ⟨bi, h1, h2, h3, h4, h5, h6, h7⟩ := h
    refine ⟨bi, hg _ h1, h2, h3, h4, h5, h6, ?_⟩
    rcases h7 with h7 | ⟨b, e, h7⟩
    · exact Or.inl h7
    · exact Or.inr ⟨b, e, (LR.tree _ _ _ _ h6 h7).mono (Imm.le.refl I) (B0_le β') _ _ _ _⟩
theorem owns_ren {t t' g' : Nat} {x : ABlk} (hg : ∀ bi, β t (genB x) = some bi → β' t' g' = some bi) (hv : oneB x = true → g' = 0) (h : BR I β w t x) : owns β' t' (renB ρ g' x) = owns β t x := by
  cases x with
  | free => rfl
  | map es =>
    obtain ⟨b, k, c, _, _, h1, _⟩ := h
    have e := hv rfl
    subst e
    have h2 := hg _ h1
    have h1' : β t 0 = some ⟨some b, k, c⟩ := h1
    simp [owns, renB, h1', h2]
  | siter l p =>
    obtain ⟨b, k, c, h1, _⟩ := h
    have e := hv rfl
    subst e
    have h2 := hg _ h1
    have h1' : β t 0 = some ⟨some b, k, c⟩ := h1
    simp [owns, renB, h1', h2]
  | rrow g k xs =>
    obtain ⟨bi, h1, _⟩ := h
    have h2 := hg _ h1
    have h1' : β t g = some bi := h1
    simp [owns, renB, h1', h2]
  | frow => rfl
  | var cs =>
    obtain ⟨b, k, c, us, ty, h1, _⟩ := h
    have e := hv rfl
    subst e
    have h2 := hg _ h1
    have h1' : β t 0 = some ⟨some b, k, c⟩ := h1
    simp [owns, renB, h1', h2]
  | row g k xs =>
    obtain ⟨bi, h1, _⟩ := h
    have h2 := hg _ h1
    have h1' : β t g = some bi := h1
    simp [owns, renB, h1', h2]
theorem genB_ren {g' : Nat} {x : ABlk} (hv : oneB x = true → g' = 0) (hx : okB x = true) : genB (renB ρ g' x) = g' := by
  cases x with
  | var cs => simp [renB, genB, hv rfl]
  | row => rfl
  | frow => rfl
  | rrow => rfl
  | map es => simp [renB, genB, hv rfl]
  | siter l p => simp [renB, genB, hv rfl]
  | free => simp [okB] at hx

theorem idxA_spec : ∀ {ids : List Nat} {t i j : Nat}, idxA t ids i = some j → ∃ k, j = i + k ∧ ids[k]? = some t
  | [], t, i, j, h => by simp [idxA] at h
  | x :: xs, t, i, j, h => by
    simp only [idxA] at h
    split at h
    · rename_i e; injection h with h; subst h e; exact ⟨0, by simp, rfl⟩
    · obtain ⟨k, h1, h2⟩ := idxA_spec h
      exact ⟨k + 1, by omega, by simpa using h2⟩
theorem heapOf_get {m : Nat} {ids : List Nat} : ∀ {ts : List Nat} {j i : Nat}, (heapOf σ m ids ρ ts j)[i]? = (ts[i]?).map fun t => renB ρ (newGen m (j + i) (σ.getD t .free)) (σ.getD t .free)
  | [], j, i => by simp [heapOf]
  | t :: ts, j, 0 => by simp [heapOf]
  | t :: ts, j, i + 1 => by
    simp only [heapOf, List.getElem?_cons_succ]
    rw [heapOf_get (ts := ts) (j := j + 1) (i := i)]
    congr 2
    funext t
    rw [show j + 1 + i = j + (i + 1) by omega]
theorem heapOf_len {m : Nat} {ids : List Nat} : ∀ {ts : List Nat} {j : Nat}, (heapOf σ m ids ρ ts j).length = ts.length
  | [], j => rfl
  | t :: ts, j => by simp only [heapOf, List.length_cons, heapOf_len]

/-- β for picked blocks -/
def pickB (σ : AHeap) (m : Nat) (ids : List Nat) (β : Bmap) : Bmap := fun j g => match ids[j]? with
  | some t => match σ[t]? with
    | some b => if okB b then (if g = newGen m j b then β t (genB b) else if j < m ∧ g = 0 then β t 0 else none) else none
    | none => none
  | none => none
theorem pick_rho {m : Nat} {ids : List Nat} : RhoOk (rhoOf σ m ids) β (pickB σ m ids β) := by
  intro t g t' g' bi h hb
  unfold rhoOf at h
  split at h
  · rename_i j hj
    obtain ⟨k, e, hk⟩ := idxA_spec hj
    have e' : j = k := by omega
    subst e'
    have fin : ∀ b, σ[t]? = some b → okB b = true → (if g = genB b then some (j, newGen m j b) else (none : Option (Nat × Nat))) = some (t', g') → pickB σ m ids β t' g' = some bi := by
      intro b hb' hok h
      by_cases e : g = genB b
      · rw [if_pos e] at h
        simp only [Option.some.injEq, Prod.mk.injEq] at h
        obtain ⟨rfl, rfl⟩ := h
        unfold pickB
        simp only [hk, hb', hok, if_true]
        rw [← e]; exact hb
      · rw [if_neg e] at h; cases h
    split at h
    · cases h
    · rename_i b n1 hb'
      refine fin b hb' ?_ h
      cases b with
      | free => exact absurd rfl n1
      | map es => rfl
      | siter => rfl
      | rrow => rfl
      | var => rfl
      | row => rfl
      | frow => rfl
    · cases h
  · cases h
theorem newGen_var {m j : Nat} {x : ABlk} (h : oneB x = true) : newGen m j x = 0 := by cases x <;> simp [oneB] at h <;> simp [newGen, genB]

/-- some blocks picked, under new names, for a run that protects other blocks -/
theorem Rel.pick (R : Rel base w0 I0 I β σ w) {K' : Nat → Prop} {w1 : World} {I1 : Imm} {m : Nat} {ids : List Nat} (hnd : ids.Nodup) (h1 : KB K' w1 w) (h2 : ∀ b o, K' b → I b o = I1 b o) (h3 : ∀ t x b, t ∈ ids → σ[t]? = some x → owns β t x = some b → ¬ K' b) :
    Rel K' w1 I1 I (pickB σ m ids β) (heapOf σ m ids (rhoOf σ m ids) ids 0) w := by
  have look : ∀ j x', (heapOf σ m ids (rhoOf σ m ids) ids 0)[j]? = some x' → ∃ t, ids[j]? = some t ∧ (x' = .free ∧ (∀ g, pickB σ m ids β j g = none) ∨ ∃ x, σ[t]? = some x ∧ okB x = true ∧ x' = renB (rhoOf σ m ids) (newGen m j x) x ∧ pickB σ m ids β j (newGen m j x) = β t (genB x)) := by
    intro j x' h
    rw [heapOf_get, Option.map_eq_some_iff] at h
    obtain ⟨t, ht, h⟩ := h
    simp only [Nat.zero_add] at h
    refine ⟨t, ht, ?_⟩
    cases hx : σ[t]? with
    | none =>
      left
      have : σ.getD t .free = .free := by simp [List.getD_eq_getElem?_getD, hx]
      rw [this] at h
      exact ⟨h.symm, fun g => by simp [pickB, ht, hx]⟩
    | some x =>
      have hd : σ.getD t .free = x := by simp [List.getD_eq_getElem?_getD, hx]
      rw [hd] at h
      by_cases hok : okB x = true
      · exact Or.inr ⟨x, rfl, hok, h.symm, by simp [pickB, ht, hx, hok]⟩
      · left
        refine ⟨?_, fun g => by simp [pickB, ht, hx, hok]⟩
        rw [← h]
        cases x <;> simp_all [okB, renB]
  have hvar : ∀ (j : Nat) (x : ABlk), oneB x = true → newGen m j x = 0 := fun j x h => newGen_var h
  have hown : ∀ j x' b, (heapOf σ m ids (rhoOf σ m ids) ids 0)[j]? = some x' → owns (pickB σ m ids β) j x' = some b → ∃ t x, ids[j]? = some t ∧ σ[t]? = some x ∧ owns β t x = some b := by
    intro j x' b h hb
    obtain ⟨t, ht, ⟨rfl, _⟩ | ⟨x, hx, hok, rfl, hβ⟩⟩ := look j x' h
    · cases hb
    · rw [owns_ren (fun bi h => by rw [hβ]; exact h) (hvar j x) (R.blk t x hx)] at hb
      exact ⟨t, x, ht, hx, hb⟩
  refine ⟨h1, h2, R.imm, ?_, ?_, ?_, ?_, ?_, ?_, R.glob⟩
  · intro j x' h
    obtain ⟨t, ht, ⟨rfl, _⟩ | ⟨x, hx, hok, rfl, hβ⟩⟩ := look j x' h
    · trivial
    · exact BR_ren pick_rho (fun bi h => by rw [hβ]; exact h) (hvar j x) (R.blk t x hx)
  · intro j x' b h hb
    obtain ⟨t, x, ht, hx, hb⟩ := hown j x' b h hb
    exact ⟨h3 t x b (List.mem_of_getElem? ht) hx hb, (R.own t x b hx hb).2⟩
  · intro j x j' x' b h h' hb hb'
    obtain ⟨t, y, ht, hy, e⟩ := hown j x b h hb
    obtain ⟨t', y', ht', hy', e'⟩ := hown j' x' b h' hb'
    have := R.apart t y t' y' b hy hy' e e'
    subst this
    exact (List.getElem?_inj (List.getElem?_eq_some_iff.1 ht).1 hnd).1 (ht.trans ht'.symm)
  · intro j g h
    rw [heapOf_len] at h
    unfold pickB
    rw [List.getElem?_eq_none h]
  · intro j g h
    obtain ⟨t, ht, ⟨_, h⟩ | ⟨x, hx, hok, h, hβ⟩⟩ := look j _ h
    · exact h g
    · cases x <;> first | (simp only [okB] at hok; cases hok; done) | (simp only [renB] at h; cases h; done)
  · intro j b g h hg
    obtain ⟨t, ht, ⟨_, h⟩ | ⟨x, hx, hok, rfl, hβ⟩⟩ := look j _ h
    · exact h g
    · rw [genB_ren (hvar j x) hok] at hg
      simp only [pickB, ht, hx, hok, if_true]
      rw [if_neg (by omega), if_neg (by omega)]

theorem reach_spec : ∀ (n : Nat) (todo acc : List Nat), acc.Nodup → (reach σ n todo acc).Nodup ∧ ∃ r, reach σ n todo acc = acc ++ r
  | 0, todo, acc, h => ⟨h, [], by simp [reach]⟩
  | n + 1, [], acc, h => ⟨h, [], by simp [reach]⟩
  | n + 1, t :: todo, acc, h => by
    simp only [reach]
    split
    · exact reach_spec n todo acc h
    · rename_i hc
      have hnd : (acc ++ [t]).Nodup := by
        rw [List.nodup_append]
        refine ⟨h, by simp, ?_⟩
        intro a ha b hb
        simp only [List.mem_singleton] at hb
        subst hb
        rintro rfl
        simp [ha] at hc
      obtain ⟨h1, r, h2⟩ := reach_spec n (refsB (σ.getD t .free) ++ todo) (acc ++ [t]) hnd
      exact ⟨h1, t :: r, by rw [h2]; simp⟩
/-- entries of the first m blocks stand -/
def KeptE (m : Nat) (β β' : Bmap) : Prop := ∀ t, t < m → ∀ bi, β t 0 = some bi → β' t 0 = some bi
theorem KeptE.refl (m : Nat) (β : Bmap) : KeptE m β β := fun _ _ _ h => h
theorem KeptE.trans {m : Nat} {a b c : Bmap} (h : KeptE m a b) (h' : KeptE m b c) : KeptE m a c := fun t ht bi e => h' t ht bi (h t ht bi e)
theorem KeptE.of_le {m : Nat} (h : β.le β') : KeptE m β β' := fun t _ bi e => h t 0 bi e

theorem gc_sound (R : Rel base w0 I0 I β σ w) (m : Nat) (roots : List AVal) : ∃ β', KeptE m β β' ∧ Rel base w0 I0 I β' (gcA m roots σ).2 w ∧ RhoOk (rhoOf σ m (gcIds m roots σ)) β β' := by
  obtain ⟨hnd, r, hr⟩ := reach_spec (σ := σ) 1000 (refsL roots ++ (List.range m).flatMap fun t => refsB (σ.getD t .free)) (List.range m) List.nodup_range
  have hids : gcIds m roots σ = List.range m ++ r := hr
  refine ⟨pickB σ m (gcIds m roots σ) β, ?_, R.pick hnd R.below R.old (fun t x b _ hx hb => (R.own t x b hx hb).1), pick_rho⟩
  intro t ht bi hb
  have h1 : (gcIds m roots σ)[t]? = some t := by rw [hids, List.getElem?_append_left (by simpa using ht)]; simp [ht]
  unfold pickB
  simp only [h1]
  cases hx : σ[t]? with
  | none =>
    have : β t 0 = none := R.fresh t 0 (by simpa using hx)
    rw [this] at hb; cases hb
  | some x =>
    simp only
    have hok : okB x = true := by
      cases x with
      | free => rw [R.free t 0 hx] at hb; cases hb
      | map es => rfl
      | siter => rfl
      | rrow => rfl
      | var => rfl
      | row => rfl
      | frow => rfl
    rw [if_pos hok]
    split
    · rename_i e
      have : genB x = 0 := by
        unfold newGen at e
        by_cases h0 : genB x = 0
        · exact h0
        · rw [if_pos ⟨ht, h0⟩] at e; cases e
      rw [this]; exact hb
    · rw [if_pos ⟨ht, trivial⟩]; exact hb

/-- the slots under new names -/
theorem tget_zip : ∀ (tm : Tms) (n : Nat), tget ((tm.map (·.1)).zip (renL ρ (tm.map (·.2)))) n = renV ρ (tget tm n)
  | [], n => by simp [tget, renV]
  | (d, v) :: tm, n => by
    simp only [List.map_cons, renL, List.zip_cons_cons, tget]
    split
    · rfl
    · exact tget_zip tm n
theorem gcT_sound (R : Rel base w0 I0 I β σ w) {tm : Tms} {tmps : Array Value} (T : TR I β tm tmps) (m : Nat) : ∃ β', KeptE m β β' ∧ Rel base w0 I0 I β' (gcT m tm σ).2 w ∧ TR I β' (gcT m tm σ).1 tmps := by
  obtain ⟨β', h1, h2, h3⟩ := gc_sound R m (tm.map (·.2))
  refine ⟨β', h1, h2, fun n => ?_⟩
  show VR I β' (tget ((tm.map (·.1)).zip (renL _ (tm.map (·.2)))) n) _
  rw [tget_zip]
  exact VR_ren h3 _ _ (T n)

/-- how a call ends -/
def Ends (r : AVal) (e : Ending) (u : Value) : Prop := match r with
  | .pan _ => e = .panicked [{ v := u, recovered := false }]
  | _ => e = .returned u
def valOf : AVal → AVal
  | .pan x => x
  | x => x
/-- behind a call that began with m blocks -/
def PostF (m : Nat) (base : Nat → Prop) (w0 : World) (I0 I : Imm) (β : Bmap) (r : AVal) (σ' : AHeap) (u : Value) (w' : World) : Prop :=
  ∃ I' β', I.le I' ∧ KeptE m β β' ∧ Rel base w0 I0 I' β' σ' w' ∧ VR I' β' (valOf r) u
theorem Ends.ren {r : AVal} {e : Ending} {u : Value} (h : Ends r e u) : Ends (renV ρ r) e u := by
  cases r <;> first
    | exact h
    | (simp only [renV]; split <;> exact h)
theorem valOf_npan {r : AVal} (h : ∀ x, r ≠ .pan x) : valOf r = r := by
  cases r <;> first | rfl | exact absurd rfl (h _)
theorem renV_npan {r : AVal} (h : ∀ x, r ≠ .pan x) : ∀ x, renV ρ r ≠ .pan x := by
  intro x
  cases r <;> first
    | (intro e; simp only [renV] at e; cases e; done)
    | exact absurd rfl (h _)
    | (simp only [renV]; split <;> simp)
theorem valOf_ren (r : AVal) : valOf (renV ρ r) = renV ρ (valOf r) ∨ ∃ x, r = .pan x := by
  by_cases h : ∃ x, r = .pan x
  · exact Or.inr h
  · have h' : ∀ x, r ≠ .pan x := fun x e => h ⟨x, e⟩
    exact Or.inl (by rw [valOf_npan (renV_npan h'), valOf_npan h'])
theorem out_sound {m : Nat} {r r' : AVal} {u : Value} (h : PostF m base w0 I0 I β r σ u w) (he : outA m σ r = some (r', σ')) : PostF m base w0 I0 I β r' σ' u w ∧ ∀ e, Ends r e u → Ends r' e u := by
  obtain ⟨I1, β1, h1, h2, h3, h4⟩ := h
  obtain ⟨β2, g1, g2, g3⟩ := gc_sound h3 m [r]
  unfold outA gcA at he
  simp only [renL, Option.some.injEq, Prod.mk.injEq] at he
  obtain ⟨rfl, rfl⟩ := he
  refine ⟨⟨I1, β2, h1, h2.trans g1, g2, ?_⟩, fun e he => he.ren⟩
  have := VR_ren g3 _ _ h4
  rcases valOf_ren (ρ := rhoOf σ m (gcIds m [r] σ)) r with e | ⟨x, rfl⟩
  · rw [e]; exact this
  · exact this
theorem resV_sound {m : Nat} {r r' : AVal} {h h' : AHeap} {u : Value} (hp : PostF m base w0 I0 I β r h u w) (he : resV m (some (r, h)) = some (r', h')) : PostF m base w0 I0 I β r' h' u w ∧ ∀ e, Ends r e u → Ends r' e u := by
  by_cases hpan : ∃ x, r = .pan x
  · obtain ⟨x, rfl⟩ := hpan
    simp only [resV, Option.some.injEq, Prod.mk.injEq] at he
    obtain ⟨rfl, rfl⟩ := he
    exact ⟨hp, fun _ h => h⟩
  · have hv0 : valOf r = r := by cases r <;> first | rfl | exact absurd ⟨_, rfl⟩ hpan
    have hends : ∀ e, Ends r e u → e = .returned u := by
      intro e h
      cases r <;> first | exact h | exact absurd ⟨_, rfl⟩ hpan
    have he' : (match viewR h r with
      | some (r', ts) => match gcA m [r'] (freezeA h ts) with
        | ([r''], σ') => some (r'', σ')
        | _ => none
      | none => none) = some (r', h') := by
      cases r <;> first | exact he | exact absurd ⟨_, rfl⟩ hpan
    split at he'
    · rename_i r1 ts hview
      obtain ⟨I1, β1, h1, h2, h3, h4⟩ := hp
      rw [hv0] at h4
      obtain ⟨I2, k1, k2, k3, _, k5, _, _⟩ := freeze_all ts h3
      have hres := viewR_sound k2 (k5 (viewR_rowy hview)) (by rw [k3.viewR]; exact hview) (h4.mono k1 (Bmap.le.refl β1) _ _)
      have hnp : ∀ x, r1 ≠ .pan x := by rintro x rfl; simp only [VR] at hres
      have hv1 : valOf r1 = r1 := by cases r1 <;> first | rfl | exact absurd rfl (hnp _)
      have ho : outA m (freezeA h ts) r1 = some (r', h') := he'
      obtain ⟨q1, q2⟩ := out_sound (⟨I2, β1, h1.trans k1, h2, k2, by rw [hv1]; exact hres.mono (Imm.le.refl I2) (B0_le β1) _ _⟩ : PostF m base w0 I0 I β r1 (freezeA h ts) u w) ho
      refine ⟨q1, fun e he => q2 e ?_⟩
      rw [hends e he]
      cases r1 <;> first | rfl | exact absurd rfl (hnp _)
    · cases he'
end
end Go.Proofs.YtaaflagbhneakaaDoor
