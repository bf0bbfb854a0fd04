/- ABS: every operation; calls. -/
import Derived.Test.YtaaflagbhneakaaDoorAbsGc
namespace Go.Proofs.YtaaflagbhneakaaDoor
set_option linter.unusedSimpArgs false
set_option linter.unusedVariables false
open Go.RowKit

/-- an oracle that tells the truth of calls -/
def OrOk (P : Program) (O : Oracle) : Prop := ∀ f args σ r σ', O f args σ = some (r, σ') →
  (∃ fn, P.funcs[f]? = some fn ∧ fn.body.isSome = true ∧ (fn.name == "runtime.NumGoroutine") = false) ∧
  ∀ base w0 I0 I β w (vs : Array Value), KLt base w0 → Rel base w0 I0 I β σ w → VRs I β args vs.toList →
    Calls P f vs w (fun e w' => ∃ u, Ends r e u ∧ PostF σ.length base w0 I0 I β r σ' u w')

section
variable {P : Program} {base : Nat → Prop} {w0 w w' : World} {I0 I I' : Imm} {β β' : Bmap} {σ σ' : AHeap} {tm : Tms}

theorem compOs_sound {a : Act} (T : TR I β tm a.tmps) : ∀ {xs : List Operand} {ys : List Opd}, compOs xs = some ys → VRs I β (ys.map fun y => y.ev tm) (xs.map a.eval)
  | [], ys, h => by simp only [compOs, Option.some.injEq] at h; subst h; simp [VRs]
  | x :: xs, ys, h => by
    simp only [compOs] at h
    split at h
    · rename_i y hy
      split at h
      · rename_i ys' hys
        injection h with h; subst h
        simp only [List.map_cons, VRs]
        exact ⟨_, _, rfl, compO_sound T hy, compOs_sound T hys⟩
      · cases h
    · cases h
theorem compOo_sound {a : Act} (T : TR I β tm a.tmps) {x : Option Operand} {y : Option Opd} (h : compOo x = some y) : OVR I β (y.map fun y => y.ev tm) (x.map a.eval) := by
  cases x with
  | none => simp only [compOo, Option.some.injEq] at h; subst h; rfl
  | some x =>
    simp only [compOo, Option.map_eq_some_iff] at h
    obtain ⟨y', h1, rfl⟩ := h
    exact ⟨_, rfl, compO_sound T h1⟩

theorem run_callFunc {f : FuncId} {args : Array Value} {fn : Func} (h1 : P.funcs[f]? = some fn) (h2 : fn.body.isSome = true) (h3 : (fn.name == "runtime.NumGoroutine") = false) : (callFunc f args).run P w = .ok (.enter f args) w := by
  have h2' : fn.body.isNone = false := by cases hb : fn.body <;> simp_all
  have h3' : ¬ fn.name = "runtime.NumGoroutine" := by simpa using h3
  have h2'' : fn.body ≠ none := by cases hb : fn.body <;> simp_all
  simp [callFunc, h1, h2'', h3']


section
variable {ids : List Nat} {site : Nat} {ρ : Rho}
theorem lay_ne {σ0 : AHeap} {t : Nat} : ∀ {h : AHeap} {j : Nat} {σ : AHeap}, (∀ i, i < h.length → tgtBack ids site (j + i) ≠ t) → (layBack σ0 ids site h j σ)[t]? = σ[t]?
  | [], j, σ, _ => rfl
  | b :: bs, j, σ, hn => by
    simp only [layBack]
    rw [lay_ne (fun i hi => by have := hn (i + 1) (by simp; omega); rwa [show j + (i + 1) = j + 1 + i by omega] at this), List.getElem?_set, if_neg (by have := hn 0 (by simp); simpa using this)]
theorem lay_at {σ0 : AHeap} : ∀ {h : AHeap} {j i : Nat} {σ : AHeap} {b : ABlk}, (∀ i i', i < h.length → i' < h.length → tgtBack ids site (j + i) = tgtBack ids site (j + i') → i = i') → h[i]? = some b → tgtBack ids site (j + i) < σ.length →
    (layBack σ0 ids site h j σ)[tgtBack ids site (j + i)]? = some (renB (rhoBack σ0 ids site) (genBack σ0 ids (j + i) b) b)
  | [], j, i, σ, b, _, h, _ => by simp at h
  | b' :: bs, j, 0, σ, b, hinj, h, hlt => by
    simp only [List.getElem?_cons_zero, Option.some.injEq] at h
    subst h
    simp only [layBack, Nat.add_zero] at hlt ⊢
    rw [lay_ne, List.getElem?_set, if_pos rfl, if_pos hlt]
    intro i hi e
    have := hinj (i + 1) 0 (by simp; omega) (by simp) (by rw [show j + (i + 1) = j + 1 + i by omega]; simpa using e)
    omega
  | b' :: bs, j, i + 1, σ, b, hinj, h, hlt => by
    simp only [List.getElem?_cons_succ] at h
    simp only [layBack]
    rw [show j + (i + 1) = j + 1 + i by omega] at hlt ⊢
    refine lay_at (fun a a' ha ha' e => ?_) h (by simpa using hlt)
    have := hinj (a + 1) (a' + 1) (by simp; omega) (by simp; omega) (by rw [show j + (a + 1) = j + 1 + a by omega, show j + (a' + 1) = j + 1 + a' by omega]; exact e)
    omega
theorem lay_len {σ0 : AHeap} : ∀ {h : AHeap} {j : Nat} {σ : AHeap}, (layBack σ0 ids site h j σ).length = σ.length
  | [], j, σ => rfl
  | b :: bs, j, σ => by simp only [layBack]; rw [lay_len]; simp
theorem okBack_at {σ0 : AHeap} : ∀ {h : AHeap} {j i : Nat} {b : ABlk}, okBack σ0 ids h j = true → h[i]? = some b → okB b = true ∧ (match ids[j + i]? with
    | some t => sameKind (σ0.getD t .free) b = true ∧ genB b ≤ 1
    | none => genB b = 0)
  | [], j, i, b, _, h => by simp at h
  | b' :: bs, j, 0, b, hok, h => by
    simp only [List.getElem?_cons_zero, Option.some.injEq] at h
    subst h
    simp only [okBack, Bool.and_eq_true] at hok
    refine ⟨hok.1.1, ?_⟩
    rw [Nat.add_zero]
    have := hok.1.2
    revert this
    cases ids[j]? with
    | none => intro h; simpa using h
    | some t => intro h; simpa using h
  | b' :: bs, j, i + 1, b, hok, h => by
    simp only [List.getElem?_cons_succ] at h
    simp only [okBack, Bool.and_eq_true] at hok
    have := okBack_at hok.2 h
    rwa [show j + 1 + i = j + (i + 1) by omega] at this
theorem kind_var {x y : ABlk} (hy : oneB y = true) (h : sameKind x y = true) : genB x = 0 := by
  cases x <;> cases y <;> first | rfl | (simp [sameKind] at h; done) | (simp [oneB] at hy; done)
theorem gen_one {y : ABlk} (hy : oneB y = true) : genB y = 0 := by
  cases y <;> first | rfl | (simp [oneB] at hy; done)
theorem freeFrom_at : ∀ {n site i : Nat}, freeFrom σ site n = true → i < n → σ[site + i]? = some .free
  | 0, _, _, _, hi => by omega
  | n + 1, site, 0, h, _ => by
    simp only [freeFrom, Bool.and_eq_true] at h
    have := h.1
    unfold freeAt at this
    split at this
    · rename_i e; simpa using e
    · cases this
  | n + 1, site, i + 1, h, hi => by
    simp only [freeFrom, Bool.and_eq_true] at h
    have := freeFrom_at (i := i) h.2 (by omega)
    rwa [show site + 1 + i = site + (i + 1) by omega] at this
theorem idxA_of {t : Nat} : ∀ {ids : List Nat} {i j : Nat}, ids.Nodup → ids[j]? = some t → idxA t ids i = some (i + j)
  | [], i, j, _, h => by simp at h
  | x :: xs, i, 0, _, h => by
    simp only [List.getElem?_cons_zero, Option.some.injEq] at h
    simp [idxA, h]
  | x :: xs, i, j + 1, hn, h => by
    simp only [List.getElem?_cons_succ] at h
    rw [List.nodup_cons] at hn
    have hne : x ≠ t := by rintro rfl; exact hn.1 (List.mem_of_getElem? h)
    simp only [idxA, hne, if_false]
    rw [idxA_of hn.2 h]
    congr 1; omega
theorem idxA_none {t : Nat} : ∀ {ids : List Nat} {i : Nat}, t ∉ ids → idxA t ids i = none
  | [], i, _ => rfl
  | x :: xs, i, h => by
    simp only [List.mem_cons, not_or] at h
    have hne : x ≠ t := fun e => h.1 e.symm
    simp only [idxA, hne, if_false]
    exact idxA_none h.2
/-- β behind a call -/
def backB (σ : AHeap) (ids : List Nat) (site n : Nat) (β β1 : Bmap) : Bmap := fun t g => match idxA t ids 0 with
  | some j => if g ≤ genB (σ.getD t .free) then β t g else if g = genB (σ.getD t .free) + 1 then β1 j 1 else none
  | none => if site ≤ t ∧ t < site + n then (if g = 0 then β1 (ids.length + (t - site)) 0 else none) else β t g

set_option maxHeartbeats 2000000 in
/-- the callee's blocks are ours again -/
theorem Rel.back {Ic : Imm} {βc : Bmap} {h : AHeap} {n : Nat} (R : Rel base w0 I0 I β σ w) (hb : KLt base w0) (hnd : ids.Nodup) (hok : ids.all (fun t => okB (σ.getD t .free)) = true)
    (Rc : Rel (fun b => b < w.heap.size ∧ ∀ t ∈ ids, ∀ x, σ[t]? = some x → owns β t x ≠ some b) w I Ic βc h w') (hI : I.le Ic) (hkept : KeptE ids.length (pickB σ 0 ids β) βc)
    (h1 : h.length ≤ ids.length + n) (h2 : ids.length ≤ h.length) (h3 : okBack σ ids h 0 = true) (h4 : freeFrom σ site n = true) :
    ∃ β2, β.le β2 ∧ Rel base w0 I0 Ic β2 (layBack σ ids site h 0 σ) w' ∧ RhoOk (rhoBack σ ids site) βc β2 := by
  have hbw := R.base_le hb
  have hblk : ∀ t, t ∈ ids → ∃ x, σ[t]? = some x ∧ okB x = true ∧ σ.getD t .free = x ∧ ∃ bi, β t (genB x) = some bi := by
    intro t ht
    have h0 := List.all_eq_true.1 hok t ht
    cases hx : σ[t]? with
    | none => simp [List.getD_eq_getElem?_getD, hx, okB] at h0
    | some x =>
      have hd : σ.getD t .free = x := by simp [List.getD_eq_getElem?_getD, hx]
      rw [hd] at h0
      refine ⟨x, rfl, h0, hd, ?_⟩
      have hB := R.blk t x hx
      cases x with
      | free => simp [okB] at h0
      | map es => obtain ⟨b, k, c, _, _, e, _⟩ := hB; exact ⟨_, e⟩
      | siter l p => obtain ⟨b, k, c, e, _⟩ := hB; exact ⟨_, e⟩
      | rrow g k xs => obtain ⟨bi, e, _⟩ := hB; exact ⟨_, e⟩
      | var cs => obtain ⟨b, k, c, us, ty, e, _⟩ := hB; exact ⟨_, e⟩
      | row g k xs => obtain ⟨bi, e, _⟩ := hB; exact ⟨_, e⟩
      | frow g k xs => obtain ⟨bi, e, _⟩ := hB; exact ⟨_, e⟩
  have hnot : ∀ i, i < n → site + i ∉ ids := by
    intro i hi hm
    obtain ⟨x, hx, hk, _⟩ := hblk _ hm
    rw [freeFrom_at h4 hi] at hx
    injection hx with hx; subst hx; simp [okB] at hk
  -- the places
  have tgt_ids : ∀ j t, ids[j]? = some t → tgtBack ids site j = t := by intro j t ht; simp [tgtBack, List.getD_eq_getElem?_getD, ht]
  have tgt_new : ∀ j, ids.length ≤ j → tgtBack ids site j = site + (j - ids.length) := by intro j hj; simp [tgtBack, List.getD_eq_getElem?_getD, List.getElem?_eq_none hj]
  have split_j : ∀ j, j < h.length → (∃ t, ids[j]? = some t ∧ t ∈ ids ∧ tgtBack ids site j = t) ∨ (ids.length ≤ j ∧ ids[j]? = none ∧ j - ids.length < n ∧ tgtBack ids site j = site + (j - ids.length)) := by
    intro j hj
    by_cases hlt : j < ids.length
    · have e : ids[j]? = some ids[j] := List.getElem?_eq_getElem hlt
      exact Or.inl ⟨ids[j], e, List.getElem_mem hlt, tgt_ids _ _ e⟩
    · exact Or.inr ⟨by omega, List.getElem?_eq_none (by omega), by omega, tgt_new j (by omega)⟩
  have inj : ∀ i i', i < h.length → i' < h.length → tgtBack ids site (0 + i) = tgtBack ids site (0 + i') → i = i' := by
    intro i i' hi hi' e
    rw [Nat.zero_add, Nat.zero_add] at e
    rcases split_j i hi with ⟨t, a1, a2, a3⟩ | ⟨a1, _, a3, a4⟩ <;> rcases split_j i' hi' with ⟨t', b1, b2, b3⟩ | ⟨b1, _, b3, b4⟩
    · rw [a3, b3] at e; subst e
      exact (List.getElem?_inj (List.getElem?_eq_some_iff.1 a1).1 hnd).1 (a1.trans b1.symm)
    · rw [a3, b4] at e; subst e; exact absurd a2 (hnot _ b3)
    · rw [a4, b3] at e; subst e; exact absurd b2 (hnot _ a3)
    · rw [a4, b4] at e; omega
  have tlt : ∀ j, j < h.length → tgtBack ids site j < σ.length := by
    intro j hj
    rcases split_j j hj with ⟨t, a1, a2, a3⟩ | ⟨a1, _, a3, a4⟩
    · rw [a3]
      obtain ⟨x, hx, _⟩ := hblk t a2
      exact (List.getElem?_eq_some_iff.1 hx).1
    · rw [a4]; exact (List.getElem?_eq_some_iff.1 (freeFrom_at h4 a3)).1
  have look : ∀ t x', (layBack σ ids site h 0 σ)[t]? = some x' → (∃ j b, h[j]? = some b ∧ t = tgtBack ids site j ∧ x' = renB (rhoBack σ ids site) (genBack σ ids j b) b) ∨ ((∀ j, j < h.length → tgtBack ids site j ≠ t) ∧ σ[t]? = some x') := by
    intro t x' hx
    by_cases hex : ∃ j, j < h.length ∧ tgtBack ids site j = t
    · obtain ⟨j, hj, rfl⟩ := hex
      have := lay_at (σ0 := σ) (σ := σ) (j := 0) (i := j) inj (List.getElem?_eq_getElem hj) (by rw [Nat.zero_add]; exact tlt j hj)
      rw [Nat.zero_add] at this
      rw [this] at hx
      injection hx with hx
      exact Or.inl ⟨j, h[j], List.getElem?_eq_getElem hj, rfl, hx.symm⟩
    · have hn : ∀ j, j < h.length → tgtBack ids site j ≠ t := fun j hj e => hex ⟨j, hj, e⟩
      rw [lay_ne (fun i hi => by rw [Nat.zero_add]; exact hn i hi)] at hx
      exact Or.inr ⟨hn, hx⟩
  have out : ∀ t, (∀ j, j < h.length → tgtBack ids site j ≠ t) → t ∉ ids ∧ ∀ g, backB σ ids site (h.length - ids.length) β βc t g = β t g := by
    intro t hn
    have h0 : t ∉ ids := by
      intro hm
      obtain ⟨j, hj⟩ := List.mem_iff_getElem?.1 hm
      exact hn j (by have := (List.getElem?_eq_some_iff.1 hj).1; omega) (tgt_ids j t hj)
    refine ⟨h0, fun g => ?_⟩
    unfold backB
    rw [idxA_none h0]
    simp only
    rw [if_neg]
    rintro ⟨q1, q2⟩
    exact hn (ids.length + (t - site)) (by omega) (by rw [tgt_new _ (by omega)]; omega)
  have atIds : ∀ j t, ids[j]? = some t → ∀ g, backB σ ids site (h.length - ids.length) β βc t g = if g ≤ genB (σ.getD t .free) then β t g else if g = genB (σ.getD t .free) + 1 then βc j 1 else none := by
    intro j t hj g
    unfold backB
    rw [idxA_of hnd hj]
    simp only [Nat.zero_add]
  have atNew : ∀ i, i < h.length - ids.length → ∀ g, backB σ ids site (h.length - ids.length) β βc (site + i) g = if g = 0 then βc (ids.length + i) 0 else none := by
    intro i hi g
    unfold backB
    rw [idxA_none (hnot i (by omega))]
    simp only
    rw [if_pos ⟨by omega, by omega⟩, show site + i - site = i by omega]
  have hle : β.le (backB σ ids site (h.length - ids.length) β βc) := by
    intro t g bi e
    by_cases hex : ∃ j, j < h.length ∧ tgtBack ids site j = t
    · obtain ⟨j, hj, rfl⟩ := hex
      rcases split_j j hj with ⟨t, a1, a2, a3⟩ | ⟨a1, _, a3, a4⟩
      · rw [a3] at e ⊢
        rw [atIds j t a1]
        obtain ⟨x, hx, _, hd, _⟩ := hblk t a2
        rw [if_pos]
        · exact e
        · rcases Nat.lt_or_ge (genB (σ.getD t .free)) g with hlt | hge
          · rw [hd] at hlt; rw [R.gen t x g hx hlt] at e; cases e
          · exact hge
      · rw [a4] at e
        rw [R.free _ g (freeFrom_at h4 a3)] at e; cases e
    · rw [(out t fun j hj e => hex ⟨j, hj, e⟩).2]; exact e
  -- entries of the callee's blocks
  have kept : ∀ j t, ids[j]? = some t → ∀ bi, βc j 0 = some bi → β t (genB (σ.getD t .free)) = some bi := by
    intro j t hj bi e
    obtain ⟨x, hx, hk, hd, bi0, hb0⟩ := hblk t (List.mem_of_getElem? hj)
    have hp : pickB σ 0 ids β j 0 = some bi0 := by
      unfold pickB
      simp only [hj, hx, hk, if_true]
      rw [if_pos (by simp [newGen])]; exact hb0
    have := hkept j (List.getElem?_eq_some_iff.1 hj).1 bi0 hp
    rw [this] at e; injection e with e; subst e
    rw [hd]; exact hb0
  have hρ : RhoOk (rhoBack σ ids site) βc (backB σ ids site (h.length - ids.length) β βc) := by
    intro j g t' g' bi hr hbi
    have hjlt : j < h.length := by
      rcases Nat.lt_or_ge j h.length with hlt | hge
      · exact hlt
      · rw [Rc.fresh j g hge] at hbi; cases hbi
    have hj' := List.getElem?_eq_getElem hjlt
    obtain ⟨k1, k2⟩ := okBack_at h3 hj'
    rw [Nat.zero_add] at k2
    have hgen : ¬ genB h[j] < g := fun hlt => by rw [Rc.gen j _ g hj' hlt] at hbi; cases hbi
    rcases split_j j hjlt with ⟨t, a1, a2, a3⟩ | ⟨a1, a2, a3, a4⟩
    · simp only [rhoBack, a1, Option.some.injEq, Prod.mk.injEq] at hr
      obtain ⟨rfl, rfl⟩ := hr
      rw [a1] at k2
      rw [atIds j _ a1]
      have : g = 0 ∨ g = 1 := by omega
      rcases this with rfl | rfl
      · rw [if_pos (by omega)]; exact kept j _ a1 bi hbi
      · rw [if_neg (by omega), if_pos rfl]; exact hbi
    · simp only [rhoBack, a2, Option.some.injEq, Prod.mk.injEq] at hr
      obtain ⟨rfl, rfl⟩ := hr
      rw [a2] at k2
      have : g = 0 := by simp only at k2; omega
      subst this
      rw [atNew _ (by omega), if_pos rfl, show ids.length + (j - ids.length) = j by omega]
      exact hbi
  have hvar : ∀ j b, h[j]? = some b → oneB b = true → genBack σ ids j b = 0 := by
    intro j b hj e
    have hjlt := (List.getElem?_eq_some_iff.1 hj).1
    obtain ⟨k1, k2⟩ := okBack_at h3 hj
    rw [Nat.zero_add] at k2
    unfold genBack
    rcases split_j j hjlt with ⟨t, a1, a2, a3⟩ | ⟨a1, a2, a3, a4⟩
    · rw [a1] at k2 ⊢
      simp only at k2 ⊢
      obtain ⟨x, hx, hk, hd, _⟩ := hblk t a2
      rw [hd] at k2 ⊢
      rw [kind_var e k2.1, gen_one e]
    · rw [a2]; exact gen_one e
  have hβg : ∀ j b, h[j]? = some b → ∀ bi, βc j (genB b) = some bi → backB σ ids site (h.length - ids.length) β βc (tgtBack ids site j) (genBack σ ids j b) = some bi := by
    intro j b hj bi e
    have hjlt := (List.getElem?_eq_some_iff.1 hj).1
    refine hρ j (genB b) _ _ bi ?_ e
    rcases split_j j hjlt with ⟨t, a1, a2, a3⟩ | ⟨a1, a2, a3, a4⟩
    · simp only [rhoBack, genBack, a1, a3]
    · simp only [rhoBack, genBack, a2, a4]
  have hKK : ∀ b, base b → b < w.heap.size ∧ ∀ t ∈ ids, ∀ x, σ[t]? = some x → owns β t x ≠ some b := by
    intro b hB
    exact ⟨hbw b hB, fun t _ x hx e => (R.own t x b hx e).1 hB⟩
  have hown : ∀ j b, h[j]? = some b → owns (backB σ ids site (h.length - ids.length) β βc) (tgtBack ids site j) (renB (rhoBack σ ids site) (genBack σ ids j b) b) = owns βc j b := fun j b hj =>
    owns_ren (hβg j b hj) (hvar j b hj) (Rc.blk j b hj)
  have oth : ∀ t x b, t ∉ ids → σ[t]? = some x → owns β t x = some b → b < w.heap.size ∧ ∀ t ∈ ids, ∀ x, σ[t]? = some x → owns β t x ≠ some b := by
    intro t x b hn hx hbb
    refine ⟨(R.blk t x hx).owns_lt hbb, fun t' ht' x' hx' e => hn ?_⟩
    rw [R.apart t x t' x' b hx hx' hbb e]; exact ht'
  refine ⟨_, hle, ⟨R.below.trans (Rc.below.mono hKK), fun b o hB => (Rc.old b o (hKK b hB)).trans (R.old b o hB), Rc.imm, ?_, ?_, ?_, ?_, ?_, ?_, Rc.glob⟩, hρ⟩
  · intro t x' hx
    rcases look t x' hx with ⟨j, b, hj, rfl, rfl⟩ | ⟨hn, hx⟩
    · exact BR_ren hρ (hβg j b hj) (hvar j b hj) (Rc.blk j b hj)
    · refine (R.blk t x' hx).keep hI hle fun b hbb => Rc.below.block b (oth t x' b (out t hn).1 hx hbb)
  · intro t x' b hx hbb
    rcases look t x' hx with ⟨j, b', hj, rfl, rfl⟩ | ⟨hn, hx⟩
    · rw [hown j b' hj] at hbb
      have := Rc.own j b' b hj hbb
      exact ⟨fun hB => this.1 (hKK b hB), this.2⟩
    · rw [(R.blk t x' hx).owns_eq hle] at hbb
      refine ⟨(R.own t x' b hx hbb).1, fun o => ?_⟩
      rw [Rc.old b o (oth t x' b (out t hn).1 hx hbb)]
      exact (R.own t x' b hx hbb).2 o
  · intro t x t' x' b hx hx' hbb hbb'
    rcases look t x hx with ⟨j, c, hj, rfl, rfl⟩ | ⟨hn, hx⟩ <;> rcases look t' x' hx' with ⟨j', c', hj', rfl, rfl⟩ | ⟨hn', hx'⟩
    · rw [hown j c hj] at hbb; rw [hown j' c' hj'] at hbb'
      rw [Rc.apart j c j' c' b hj hj' hbb hbb']
    · rw [hown j c hj] at hbb; rw [(R.blk t' x' hx').owns_eq hle] at hbb'
      exact absurd (oth t' x' b (out t' hn').1 hx' hbb') (Rc.own j c b hj hbb).1
    · rw [hown j' c' hj'] at hbb'; rw [(R.blk t x hx).owns_eq hle] at hbb
      exact absurd (oth t x b (out t hn).1 hx hbb) (Rc.own j' c' b hj' hbb').1
    · rw [(R.blk t x hx).owns_eq hle] at hbb; rw [(R.blk t' x' hx').owns_eq hle] at hbb'
      exact R.apart t x t' x' b hx hx' hbb hbb'
  · intro t g ht
    rw [lay_len] at ht
    have hn : ∀ j, j < h.length → tgtBack ids site j ≠ t := fun j hj e => by have := tlt j hj; omega
    rw [(out t hn).2]; exact R.fresh t g ht
  · intro t g hx
    rcases look t _ hx with ⟨j, b, hj, rfl, e⟩ | ⟨hn, hx⟩
    · have := (okBack_at h3 hj).1
      cases b <;> first | (simp [okB] at this; done) | (simp only [renB] at e; cases e; done)
    · rw [(out t hn).2]; exact R.free t g hx
  · intro t x' g hx hg
    rcases look t _ hx with ⟨j, b, hj, rfl, rfl⟩ | ⟨hn, hx⟩
    · obtain ⟨k1, k2⟩ := okBack_at h3 hj
      rw [Nat.zero_add] at k2
      rw [genB_ren (hvar j b hj) k1] at hg
      have hjlt := (List.getElem?_eq_some_iff.1 hj).1
      rcases split_j j hjlt with ⟨t, a1, a2, a3⟩ | ⟨a1, a2, a3, a4⟩
      · rw [a3, atIds j t a1]
        simp only [genBack, a1] at hg
        rw [if_neg (by omega)]
        split
        · rename_i e
          exact Rc.gen j b 1 hj (by omega)
        · rfl
      · rw [a4, atNew _ (by omega)]
        rw [if_neg (by omega)]
    · rw [(out t hn).2]; exact R.gen t x' g hx hg
end

/-- behind a call that was given none of our blocks and answers plain values -/
theorem Rel.after_flat {Ic I1 : Imm} {βc : Bmap} {σc : AHeap} {K' : Nat → Prop} (R : Rel base w0 I0 I β σ w) (hb : KLt base w0) (hK : ∀ b, b < w.heap.size → K' b) (Rc : Rel K' w I1 Ic βc σc w') : Rel base w0 I0 I β σ w' := by
  have hbw := R.base_le hb
  refine R.stay (Imm.le.refl I) (Rc.below.mono fun b h => hK b (hbw b h)) (fun _ _ _ => rfl) (fun b o u h => ?_) (fun t x b h hb' => ⟨Rc.below.block b (hK b ((R.blk t x h).owns_lt hb')), (R.own t x b h hb').2⟩)
  have := R.imm b o u h
  have hlt := cell_lt this
  rw [← this]
  simp only [World.cell?, Rc.below.block b (hK b hlt)]
theorem flat_val {I I' : Imm} {β β' : Bmap} {r : AVal} {u : Value} (hf : flatA r = true) (h : VR I β (valOf r) u) : VR I' β' (valOf r) u := by
  by_cases hp : ∃ x, r = .pan x
  · obtain ⟨x, rfl⟩ := hp
    simp only [valOf] at h ⊢
    cases x <;> simp only [flatA, flat2, flat1] at hf <;> first | (cases hf; done) | skip
    case iface t x =>
      simp only [VR] at h ⊢
      obtain ⟨u', h1, h2⟩ := h
      exact ⟨u', h1, flat1_any hf h2⟩
  · have hn : ∀ x, r ≠ .pan x := fun x e => hp ⟨x, e⟩
    rw [valOf_npan hn] at h ⊢
    exact flat_any hf h

theorem call_sound' {O : Oracle} (hO : OrOk P O) {byref : Nat → Bool} (R : Rel base w0 I0 I β σ w) (hb : KLt base w0) {site f own : Nat} {view : Bool} {args : List AVal} {vs : Array Value} (hargs : VRs I β args vs.toList) {r : AVal} {c : Cls} (h : callG O byref σ site f own view args = some (r, σ', c)) :
    (∃ fn, P.funcs[f]? = some fn ∧ fn.body.isSome = true ∧ (fn.name == "runtime.NumGoroutine") = false) ∧ Calls P f vs w (fun e w' => ∃ u, Ends r e u ∧ Post base w0 I0 I β (valOf r) σ' u w') := by
  unfold callG at h
  split at h
  · cases h
  rename_i xs ts hshow
  obtain ⟨I1, hI1, R1, hal, _, hfz, _, _⟩ := freeze_all ts R
  have hxs : VRs I1 β xs vs.toList := by
    unfold showIf at hshow
    split at hshow
    · simp only [Option.some.injEq, Prod.mk.injEq] at hshow
      obtain ⟨rfl, rfl⟩ := hshow
      exact hargs.mono hI1 (Bmap.le.refl β) _ _
    · exact showAs_sound R1 (hfz (showAs_rowy hshow)) (by rw [hal.showAs]; exact hshow) (hargs.mono hI1 (Bmap.le.refl β) _ _)
  generalize hσf : freezeA σ ts = σf at *
  obtain ⟨hnd, _⟩ := reach_spec (σ := σf) 1000 (refsL xs) [] List.nodup_nil
  generalize reach σf 1000 (refsL xs) [] = ids at *
  unfold callI at h
  split at h
  case isFalse => cases h
  rename_i hok
  have R2 := R1.pick (K' := fun b => b < w.heap.size ∧ ∀ t ∈ ids, ∀ x, σf[t]? = some x → owns β t x ≠ some b) (w1 := w) (I1 := I1) (m := 0) hnd (KB.refl _ w) (fun _ _ _ => rfl) (fun t x b ht hx hb' hk => hk.2 t ht x hx hb')
  generalize hq : askO view ids.length (O f (renL (rhoOf σf 0 ids) xs) (heapOf σf 0 ids (rhoOf σf 0 ids) ids 0)) = q at h
  cases q with
  | none => simp only [backG] at h; cases h
  | some q =>
    obtain ⟨r1, h1⟩ := q
    obtain ⟨r0, h0, hcall⟩ : ∃ r0 h0, O f (renL (rhoOf σf 0 ids) xs) (heapOf σf 0 ids (rhoOf σf 0 ids) ids 0) = some (r0, h0) := by
      cases ho : O f (renL (rhoOf σf 0 ids) xs) (heapOf σf 0 ids (rhoOf σf 0 ids) ids 0) with
      | none => rw [ho] at hq; cases view <;> simp [askO, resV] at hq
      | some q => exact ⟨q.1, q.2, rfl⟩
    rw [hcall] at hq
    obtain ⟨hfn, hrun⟩ := hO f _ _ r0 h0 hcall
    refine ⟨hfn, (hrun _ w I1 I1 _ w vs (fun b hb => hb.1) R2 (VRs_ren pick_rho _ _ hxs)).mono ?_⟩
    rintro e w' ⟨u, he, hp⟩
    rw [heapOf_len] at hp
    have hp1 : PostF ids.length (fun b => b < w.heap.size ∧ ∀ t ∈ ids, ∀ x, σf[t]? = some x → owns β t x ≠ some b) w I1 I1 (pickB σf 0 ids β) r1 h1 u w' ∧ Ends r1 e u := by
      cases view with
      | false =>
        simp only [askO, Bool.false_eq_true, if_false, Option.some.injEq, Prod.mk.injEq] at hq
        obtain ⟨rfl, rfl⟩ := hq
        exact ⟨hp, he⟩
      | true =>
        simp only [askO, if_true] at hq
        obtain ⟨q1, q2⟩ := resV_sound hp hq
        exact ⟨q1, q2 e he⟩
    obtain ⟨⟨I2, β2, hI2, hkept, Rc, hv⟩, he1⟩ := hp1
    simp only [backG] at h
    split at h
    · rename_i hc
      simp only [Bool.and_eq_true, List.isEmpty_iff] at hc
      obtain ⟨rfl, rfl⟩ := hc
      split at h
      · rename_i hflat
        simp only [Option.some.injEq, Prod.mk.injEq] at h
        obtain ⟨rfl, rfl, rfl⟩ := h
        exact ⟨u, he1, Post.here (R.after_flat hb (fun b hlt => ⟨hlt, by simp⟩) Rc) (flat_val hflat hv)⟩
      · simp only [Option.some.injEq, Prod.mk.injEq] at h
        obtain ⟨rfl, rfl, rfl⟩ := h
        obtain ⟨β3, g1, g2, g3⟩ := R1.back (site := site) (n := 0) hb hnd hok Rc hI2 hkept (by simp) (by simp) rfl rfl
        have hρ : rhoBack σf [] site = rhoBack [] [] site := rfl
        refine ⟨u, he1.ren, Post.mk (hI1.trans hI2) g1 g2 ?_⟩
        rw [hρ] at g3
        have := VR_ren g3 _ _ hv
        rcases valOf_ren (ρ := rhoBack [] [] site) r1 with e | ⟨x, rfl⟩
        · rw [e]; exact this
        · exact this
    · split at h
      case isFalse => cases h
      rename_i hc
      simp only [Bool.and_eq_true, decide_eq_true_eq] at hc
      obtain ⟨⟨⟨c1, c2⟩, c3⟩, c4⟩ := hc
      simp only [Option.some.injEq, Prod.mk.injEq] at h
      obtain ⟨rfl, rfl, rfl⟩ := h
      obtain ⟨β3, g1, g2, g3⟩ := R1.back hb hnd hok Rc hI2 hkept c1 c2 c3 c4
      refine ⟨u, he1.ren, Post.mk (hI1.trans hI2) g1 g2 ?_⟩
      have := VR_ren g3 _ _ hv
      rcases valOf_ren (ρ := rhoBack σf ids site) r1 with e | ⟨x, rfl⟩
      · rw [e]; exact this
      · exact this
end
end Go.Proofs.YtaaflagbhneakaaDoor
