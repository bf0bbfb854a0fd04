/- ABS: reading and writing cells. -/
import Derived.Test.YtaaflagbhneakaaDoorAbsUpd
namespace Go.Proofs.YtaaflagbhneakaaDoor
set_option linter.unusedSimpArgs false
set_option linter.unusedVariables false
open Go.RowKit

theorem flat_len {k : Nat} : ∀ {xs : List AVal}, (∀ x ∈ xs, x.cells.length = k) → (xs.flatMap AVal.cells).length = xs.length * k
  | [], _ => by simp
  | x :: xs, h => by
    have := flat_len (xs := xs) (fun y hy => h y (by simp [hy]))
    simp [h x (by simp), this, Nat.add_mul, Nat.add_comm]
theorem flat_drop {k : Nat} : ∀ {xs : List AVal} {i : Nat}, (∀ x ∈ xs, x.cells.length = k) → (xs.flatMap AVal.cells).drop (i * k) = (xs.drop i).flatMap AVal.cells
  | xs, 0, _ => by simp
  | [], i + 1, _ => by simp
  | x :: xs, i + 1, h => by
    have := flat_drop (xs := xs) (i := i) (fun y hy => h y (by simp [hy]))
    have hx := h x (by simp)
    rw [List.flatMap_cons, List.drop_succ_cons, ← this, List.drop_append, hx, List.drop_eq_nil_of_le (by rw [hx, Nat.add_mul]; omega), List.nil_append]
    congr 1
    rw [Nat.add_mul]; omega
theorem flat_take {k : Nat} : ∀ {xs : List AVal} {i : Nat}, (∀ x ∈ xs, x.cells.length = k) → (xs.flatMap AVal.cells).take (i * k) = (xs.take i).flatMap AVal.cells
  | xs, 0, _ => by simp
  | [], i + 1, _ => by simp
  | x :: xs, i + 1, h => by
    have := flat_take (xs := xs) (i := i) (fun y hy => h y (by simp [hy]))
    have hx := h x (by simp)
    rw [List.flatMap_cons, List.take_succ_cons, List.flatMap_cons, ← this, List.take_append, hx, List.take_of_length_le (by rw [hx, Nat.add_mul]; omega)]
    congr 2
    rw [Nat.add_mul]; omega
theorem flat_at {k i : Nat} {xs : List AVal} {x : AVal} (h : ∀ x ∈ xs, x.cells.length = k) (hx : xs[i]? = some x) : ((xs.flatMap AVal.cells).drop (i * k)).take k = x.cells := by
  rw [flat_drop h]
  have hl := List.getElem?_eq_some_iff.1 hx
  obtain ⟨hi, hxe⟩ := hl
  rw [List.drop_eq_getElem_cons hi, hxe, List.flatMap_cons, List.take_append, h x (hxe ▸ List.getElem_mem hi)]
  simp [← h x (hxe ▸ List.getElem_mem hi)]
theorem mul_lt_of {i n k : Nat} (h : i < n) : i * k + k ≤ n * k := by
  have := Nat.mul_le_mul_right k (show i + 1 ≤ n by omega)
  rw [Nat.add_mul] at this; omega

section
variable {P : Program} {base : Nat → Prop} {w0 w w' : World} {I0 I I' : Imm} {β β' : Bmap} {σ σ' : AHeap}

theorem VR_sl0 {t g n : Nat} {v : Value} : VR I β (.sl t g 0 n) v ↔ ∃ bi, β t g = some bi ∧ n ≤ bi.cap ∧ bi.cap ≤ 9223372036854775807 ∧ ((∃ b, bi.b = some b ∧ v = .slice (some ⟨b, 0, none⟩) n bi.cap) ∨ (bi.b = none ∧ bi.cap = 0 ∧ ∃ A, v = .slice A 0 0)) := by
  simp only [VR, Nat.zero_mul, Nat.zero_add, Nat.sub_zero, Nat.lt_irrefl, false_and, or_false]

theorem CR_cells : ∀ {cs : List AVal} {b off : Nat}, CR I β cs b off → ∃ us : List Value, VRs I β cs us ∧ ∀ j u, us[j]? = some u → I b (off + j) = some u
  | [], b, off, _ => ⟨[], by simp only [VRs], fun j u h => by simp at h⟩
  | c :: cs, b, off, h => by
    simp only [CR] at h
    obtain ⟨⟨u, h1, h2⟩, h3⟩ := h
    obtain ⟨us, h4, h5⟩ := CR_cells h3
    refine ⟨u :: us, by simp only [VRs]; exact ⟨u, us, rfl, h2, h4⟩, fun j v hv => ?_⟩
    cases j with
    | zero => simp only [List.getElem?_cons_zero, Option.some.injEq] at hv; subst hv; exact h1
    | succ j =>
      simp only [List.getElem?_cons_succ] at hv
      have := h5 j v hv
      rwa [show off + (j + 1) = off + 1 + j by omega]
theorem CR_of_cells : ∀ {cs : List AVal} {us : List Value} {b off : Nat}, VRs I β cs us → (∀ j u, us[j]? = some u → I b (off + j) = some u) → CR I β cs b off
  | [], us, b, off, _, _ => by simp only [CR]
  | c :: cs, us, b, off, h, hi => by
    simp only [VRs] at h
    obtain ⟨v, us', rfl, h2, h3⟩ := h
    simp only [CR]
    exact ⟨⟨v, hi 0 v rfl, h2⟩, CR_of_cells h3 (fun j u hu => by rw [show off + 1 + j = off + (j + 1) by omega]; exact hi (j + 1) u (by simpa using hu))⟩
/-- the element i of a list in immutable cells -/
theorem LR_at {k : Nat} : ∀ {xs : List AVal} {b off i : Nat} {x : AVal}, LR I β k xs b off → xs[i]? = some x → x.cells.length = k ∧ CR I β x.cells b (off + i * k)
  | [], _, _, i, x, _, hx => by simp at hx
  | y :: xs, b, off, i, x, h, hx => by
    rw [LR_cons] at h
    cases i with
    | zero =>
      simp only [List.getElem?_cons_zero, Option.some.injEq] at hx; subst hx
      simpa using h.1
    | succ i =>
      simp only [List.getElem?_cons_succ] at hx
      have := LR_at h.2 hx
      rwa [show off + (i + 1) * k = off + k + i * k by rw [Nat.add_mul]; omega]
theorem LR_lens {k : Nat} {xs : List AVal} {b off : Nat} (h : LR I β k xs b off) : ∀ x ∈ xs, x.cells.length = k := by
  intro x hx
  obtain ⟨i, hi⟩ := List.mem_iff_getElem?.1 hx
  exact (LR_at h hi).1
theorem LR_of {k : Nat} : ∀ {xs : List AVal} {us : List Value} {b off : Nat}, (∀ x ∈ xs, x.cells.length = k) → VRs I β (xs.flatMap AVal.cells) us → (∀ j u, us[j]? = some u → I b (off + j) = some u) → LR I β k xs b off
  | [], _, _, _, _, _, _ => by simp only [LR]
  | x :: xs, us, b, off, hk, h, hi => by
    rw [LR_cons]
    have hx := hk x (by simp)
    have h1 := VRs_take h k
    have h2 := VRs_drop h k
    rw [List.flatMap_cons, List.take_append, hx, List.take_of_length_le (by omega), Nat.sub_self, List.take_zero, List.append_nil] at h1
    rw [List.flatMap_cons, List.drop_append, hx, List.drop_eq_nil_of_le (by omega), Nat.sub_self, List.drop_zero, List.nil_append] at h2
    refine ⟨⟨hx, CR_of_cells h1 (fun j u hu => hi j u ?_)⟩, LR_of (fun y hy => hk y (by simp [hy])) h2 (fun j u hu => ?_)⟩
    · rw [List.getElem?_take] at hu; split at hu
      · exact hu
      · cases hu
    · rw [List.getElem?_drop] at hu
      rw [show off + k + j = off + (k + j) by omega]
      exact hi _ u hu
theorem LR_cells {k : Nat} : ∀ {xs : List AVal} {b off : Nat}, LR I β k xs b off → ∃ us : List Value, VRs I β (xs.flatMap AVal.cells) us ∧ ∀ j u, us[j]? = some u → I b (off + j) = some u
  | [], b, off, _ => ⟨[], by simp only [List.flatMap_nil, VRs], fun j u h => by simp at h⟩
  | x :: xs, b, off, h => by
    rw [LR_cons] at h
    obtain ⟨us, h1, h2⟩ := CR_cells h.1.2
    obtain ⟨vs, h3, h4⟩ := LR_cells h.2
    have hl := VRs_length h1
    refine ⟨us ++ vs, by rw [List.flatMap_cons]; exact VRs_append h1 h3, fun j u hu => ?_⟩
    rw [List.getElem?_append] at hu
    split at hu
    · exact h2 j u hu
    · have := h4 _ u hu
      rw [show off + j = off + k + (j - us.length) by omega]
      exact this
theorem LR_drop {k : Nat} : ∀ {xs : List AVal} {b off n : Nat}, LR I β k xs b off → LR I β k (xs.drop n) b (off + n * k)
  | xs, b, off, 0, h => by simpa using h
  | [], b, off, n + 1, h => by simp [LR]
  | x :: xs, b, off, n + 1, h => by
    rw [LR_cons] at h
    have := LR_drop (n := n) h.2
    rw [List.drop_succ_cons, show off + (n + 1) * k = off + k + n * k by rw [Nat.add_mul]; omega]
    exact this
theorem LR_take {k : Nat} : ∀ {xs : List AVal} {b off n : Nat}, LR I β k xs b off → LR I β k (xs.take n) b off
  | xs, b, off, 0, h => by simp [LR]
  | [], b, off, n + 1, h => by simp [LR]
  | x :: xs, b, off, n + 1, h => by
    rw [LR_cons] at h
    rw [List.take_succ_cons, LR_cons]
    exact ⟨h.1, LR_take h.2⟩
theorem treeL_iff : ∀ {xs : List AVal}, treeL xs = true ↔ ∀ x ∈ xs, treeC x.cells = true
  | [] => by simp [treeL]
  | x :: xs => by
    rw [treeL_cons, Bool.and_eq_true, treeL_iff (xs := xs)]
    simp
theorem treeC_iff : ∀ {xs : List AVal}, treeC xs = true ↔ ∀ x ∈ xs, tree1 x = true
  | [] => by simp [treeC]
  | x :: xs => by
    rw [treeC, Bool.and_eq_true, treeC_iff (xs := xs)]
    simp
theorem treeC_flat {xs : List AVal} (h : treeL xs = true) : treeC (xs.flatMap AVal.cells) = true := by
  rw [treeC_iff]
  intro x hx
  obtain ⟨y, hy, hx⟩ := List.mem_flatMap.1 hx
  exact treeC_iff.1 (treeL_iff.1 h y hy) x hx
/-- a tree's cell is one cell -/
theorem VR.one {x : AVal} {v : Value} (hx : okCell x = true) (h : VR I β x v) : v.oneCell' = true := by
  cases x
  case agg => simp [okCell] at hx
  case tup => simp [okCell] at hx
  case top => simp [okCell] at hx
  case pan => simp [okCell] at hx
  all_goals
    simp only [VR] at h
    try exact h.2
    try (obtain ⟨_, _, _, _, rfl⟩ := h; rfl)
    try (obtain ⟨_, _, rfl, _⟩ := h; rfl)
    try (obtain ⟨_, rfl, _⟩ := h; rfl)
    try (obtain ⟨rfl, _⟩ := h; rfl)
    try (subst h; rfl)
    try (obtain ⟨_, _, _, _, (⟨_, _, rfl⟩ | ⟨_, _, _, rfl⟩ | ⟨_, _, _, _, rfl⟩)⟩ := h <;> rfl)
theorem ok_of_tree1 {x : AVal} (h : tree1 x = true) : okCell x = true := by cases x <;> simp_all [tree1, okCell]
theorem VRs_one : ∀ {xs : List AVal} {vs : List Value}, (∀ x ∈ xs, okCell x = true) → VRs I β xs vs → ∀ v ∈ vs, v.oneCell' = true
  | [], vs, _, h, v, hv => by simp only [VRs] at h; subst h; simp at hv
  | x :: xs, vs, hx, h, v, hv => by
    simp only [VRs] at h
    obtain ⟨u, us, rfl, h2, h3⟩ := h
    rcases List.mem_cons.1 hv with rfl | hv
    · exact VR.one (hx x (by simp)) h2
    · exact VRs_one (fun y hy => hx y (by simp [hy])) h3 v hv

/-- cells, a variable of theirs read -/
theorem run_ldCells {t : TypeId} {k : Option Nat} (hk : kindOf P t = some k) {b off : Nat} {us : List Value} (hc : ∀ j u, us[j]? = some u → w.cell? ⟨b, off + j, none⟩ = some u)
    {cs : List AVal} (hv : VRs I β cs us) {o : Nat} {x : AVal} (hp : partA k cs o = some x) : ∃ u, (loadVar t ⟨b, off + o, none⟩).run P w = .ok u w ∧ VR I β x u := by
  unfold kindOf at hk
  have hl := VRs_length hv
  have many : ∀ (d : TypeDesc) (i : TypeInfo), P.underlying t = some d → d.isRow = true → P.info? t = some i → k = some i.size → ∃ u, (loadVar t ⟨b, off + o, none⟩).run P w = .ok u w ∧ VR I β x u := by
    intro d i hu hd hi e
    subst e
    simp only [partA] at hp
    split at hp
    · rename_i hle
      injection hp with hp
      subst hp
      refine ⟨_, run_loadVar_mid w b (off + o) t ((us.drop o).take i.size) d ?_ hu hd (by simp [hi]; omega), ?_⟩
      · intro j v hj
        rw [List.getElem?_take] at hj
        split at hj
        · rw [List.getElem?_drop] at hj
          rw [Nat.add_assoc]
          exact hc _ v hj
        · cases hj
      · simp only [VR]
        exact ⟨_, rfl, by simpa using VRs_take (VRs_drop hv o) i.size⟩
    · cases hp
  have one : ∀ (d : TypeDesc), P.underlying t = some d → d.isRow = false → k = none → ∃ u, (loadVar t ⟨b, off + o, none⟩).run P w = .ok u w ∧ VR I β x u := by
    intro d hu hd e
    subst e
    simp only [partA] at hp
    obtain ⟨u, h1, h2⟩ := VRs_get hv hp
    refine ⟨u, ?_, h2⟩
    have hagg : (isAgg t).run P w = .ok false w := by
      unfold isAgg
      rw [Sem.run_bind, run_underlying hu w]
      cases d <;> simp_all [TypeDesc.isRow]
    simp [loadVar, Sem.run_bind, hagg, hc o u h1]
  split at hk
  · rename_i hu hi; injection hk with hk; exact many _ _ hu rfl hi hk.symm
  · rename_i hu hi; injection hk with hk; exact many _ _ hu rfl hi hk.symm
  · rename_i d i hu hi hn1 hn2
    split at hk
    · injection hk with hk
      refine one d hn1 ?_ hk.symm
      cases d <;> simp_all [TypeDesc.isRow]
    · cases hk
  · cases hk

theorem cell_of_heap {b o : Nat} {us : Array Value} {ty : TypeId} {fz : Nat × Nat} (h : w.heap[b]? = some (.cells us ty fz)) : w.cell? ⟨b, o, none⟩ = us[o]? := by simp [World.cell?, h]

theorem run_ld {t : TypeId} {k : Option Nat} (hk : kindOf P t = some k) (R : Rel base w0 I0 I β σ w) {a x : AVal} {v : Value} (ha : VR I β a v) {c : Cls} (h : ldA σ k a = some (x, σ', c)) :
    ∃ u, (Instr.loadAt t v).run P w = .ok u w ∧ VR I β x u ∧ σ' = σ := by
  have fin : ∀ {b off o : Nat} {us : List Value} {cs : List AVal}, (∀ j u, us[j]? = some u → w.cell? ⟨b, off + j, none⟩ = some u) → VRs I β cs us → partA k cs o = some x → v = .pointer (some ⟨b, off + o, none⟩) →
      ∃ u, (Instr.loadAt t v).run P w = .ok u w ∧ VR I β x u := by
    intro b off o us cs hc hv hp e
    subst e
    obtain ⟨u, h1, h2⟩ := run_ldCells hk hc hv hp
    exact ⟨u, by simp only [Instr.loadAt, Instr.sureAddr, Sem.run_bind, Sem.run_pure, Result.andThen_ok, h1], h2⟩
  have rowcase : ∀ {b kk i o cap : Nat} {us : Array Value} {ty : TypeId} {xs : List AVal} {y : AVal}, w.heap[b]? = some (.cells us ty (0, 0)) → (∀ x ∈ xs, x.cells.length = kk) → VRs I β (xs.flatMap AVal.cells) (us.toList.take (xs.length * kk)) →
      xs[i]? = some y → partA k y.cells o = some x → v = .pointer (some ⟨b, i * kk + o, none⟩) → ∃ u, (Instr.loadAt t v).run P w = .ok u w ∧ VR I β x u := by
    intro b kk i o cap us ty xs y hh hlen hv hy hp e
    have h1 := VRs_take (VRs_drop hv (i * kk)) kk
    rw [flat_at hlen hy] at h1
    refine fin (off := i * kk) ?_ h1 hp e
    intro j u hu
    rw [List.getElem?_take] at hu
    split at hu
    · rw [List.getElem?_drop, List.getElem?_take] at hu
      split at hu
      · rw [cell_of_heap hh]; simpa using hu
      · cases hu
    · cases hu
  have frowcase : ∀ {kk i o b : Nat} {xs : List AVal} {y : AVal}, LR I β kk xs b 0 → xs[i]? = some y → partA k y.cells o = some x → v = .pointer (some ⟨b, i * kk + o, none⟩) → ∃ u, (Instr.loadAt t v).run P w = .ok u w ∧ VR I β x u := by
    intro kk i o b xs y hL hy hp e
    obtain ⟨us, h1, h2⟩ := CR_cells (LR_at hL hy).2
    exact fin (off := i * kk) (fun j u hu => R.imm _ _ _ (by have := h2 j u hu; rwa [Nat.zero_add] at this)) h1 hp e
  unfold ldA at h
  split at h
  · rename_i t' o
    simp only [VR] at ha
    obtain ⟨b, k', c', hβ, rfl⟩ := ha
    split at h
    · rename_i cs hs
      split at h
      · rename_i v' hp
        simp only [Option.some.injEq, Prod.mk.injEq] at h
        obtain ⟨rfl, rfl, rfl⟩ := h
        obtain ⟨b', k'', c'', us, ty, h1, h2, h3⟩ := R.blk _ _ hs
        rw [hβ] at h1
        simp only [Option.some.injEq, BI.mk.injEq] at h1
        obtain ⟨rfl, rfl, rfl⟩ := h1
        obtain ⟨u, hu1, hu2⟩ := fin (off := 0) (fun j u hu => by rw [cell_of_heap h2]; simpa using hu) h3 hp (by simp)
        exact ⟨u, hu1, hu2, rfl⟩
      · cases h
    · cases h
  · rename_i t' g i o
    simp only [VR] at ha
    obtain ⟨b, k', c', hβ, rfl⟩ := ha
    split at h
    · rename_i g' kk xs hs
      split at h
      · rename_i e; subst e
        split at h
        · rename_i y hy
          split at h
          · rename_i v' hp
            simp only [Option.some.injEq, Prod.mk.injEq] at h
            obtain ⟨rfl, rfl, rfl⟩ := h
            obtain ⟨bi, h1, h2, h3, h4, h5, h6, h7, h8⟩ := R.blk _ _ hs
            rw [hβ] at h1
            injection h1 with h1
            subst h1
            simp only at h2 h8
            subst h2
            rcases h8 with ⟨h8, _⟩ | ⟨b', us, ty, e, h8, h9, h10⟩
            · cases h8
            · injection e with e
              subst e
              obtain ⟨u, hu1, hu2⟩ := rowcase (cap := 0) h8 h7 h10 hy hp rfl
              exact ⟨u, hu1, hu2, rfl⟩
          · cases h
        · cases h
      · cases h
    · rename_i g' kk xs hs
      split at h
      · rename_i e; subst e
        split at h
        · rename_i y hy
          split at h
          · rename_i v' hp
            simp only [Option.some.injEq, Prod.mk.injEq] at h
            obtain ⟨rfl, rfl, rfl⟩ := h
            obtain ⟨bi, h1, h2, h3, h4, h5, h6, h7⟩ := R.blk _ _ hs
            rw [hβ] at h1
            injection h1 with h1
            subst h1
            simp only at h2 h7
            subst h2
            rcases h7 with h7 | ⟨b', e, h7⟩
            · subst h7; simp at hy
            · injection e with e
              subst e
              obtain ⟨u, hu1, hu2⟩ := frowcase h7 hy hp rfl
              exact ⟨u, hu1, hu2, rfl⟩
          · cases h
        · cases h
      · cases h
    · rename_i g' kk xs hs
      split at h
      · rename_i e; subst e
        split at h
        · rename_i y hy
          split at h
          · rename_i v' hp
            simp only [Option.some.injEq, Prod.mk.injEq] at h
            obtain ⟨rfl, rfl, rfl⟩ := h
            obtain ⟨bi, h1, h2, h3, h4, h5, h6, b', us, ty, e, h8, h9, h10⟩ := R.blk _ _ hs
            rw [hβ] at h1
            injection h1 with h1
            subst h1
            simp only at h2 e
            subst h2
            injection e with e
            subst e
            obtain ⟨u, hu1, hu2⟩ := rowcase (cap := 0) h8 (fun x hx => (h6 x hx).1) h10 hy hp rfl
            exact ⟨u, hu1, hu2, rfl⟩
          · cases h
        · cases h
      · cases h
    · cases h
  · rename_i cs o
    simp only [VR] at ha
    obtain ⟨b, off, rfl, h1, h2⟩ := ha
    split at h
    · rename_i v' hp
      simp only [Option.some.injEq, Prod.mk.injEq] at h
      obtain ⟨rfl, rfl, rfl⟩ := h
      obtain ⟨us, h3, h4⟩ := CR_cells h1
      obtain ⟨u, hu1, hu2⟩ := fin (off := off) (fun j u hu => R.imm _ _ _ (h4 j u hu)) h3 hp rfl
      exact ⟨u, hu1, hu2, rfl⟩
    · cases h
  · cases h
end
end Go.Proofs.YtaaflagbhneakaaDoor
