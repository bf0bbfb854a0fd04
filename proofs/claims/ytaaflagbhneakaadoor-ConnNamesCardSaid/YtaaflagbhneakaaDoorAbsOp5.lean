/- ABS: slices made; every operation but the calls. -/
import Derived.Test.YtaaflagbhneakaaDoorAbsOp4
namespace Go.Proofs.YtaaflagbhneakaaDoor
set_option linter.unusedSimpArgs false
set_option linter.unusedVariables false
open Go.RowKit

section
variable {P : Program} {base : Nat → Prop} {w0 w w' : World} {I0 I I' : Imm} {β β' : Bmap} {σ σ' : AHeap} {tm : Tms}

theorem compIdx_sound {a : Act} (T : TR I β tm a.tmps) : ∀ {parts : List (Nat × Operand)} {ps : List (Nat × Opd)}, compIdx parts = some ps →
    (parts.map fun (i, x) => (i, a.eval x)) = (ps.map (·.1)).zip (parts.map fun p => a.eval p.2) ∧ VRs I β (ps.map fun p => p.2.ev tm) (parts.map fun p => a.eval p.2) ∧ ps.length = parts.length
  | [], ps, h => by simp only [compIdx, Option.some.injEq] at h; subst h; exact ⟨rfl, by simp [VRs], rfl⟩
  | (i, x) :: r, ps, h => by
    simp only [compIdx] at h
    split at h
    · rename_i y ps' hy hps
      injection h with h; subst h
      obtain ⟨h1, h2, h3⟩ := compIdx_sound T hps
      refine ⟨by simp [h1], ?_, by simp [h3]⟩
      simp only [List.map_cons, VRs]
      exact ⟨_, _, rfl, compO_sound T hy, h2⟩
    · cases h
theorem elemP_spec {t : TypeId} {k bytes : Nat} {z : AVal} (h : elemP P t = some (k, bytes, z)) : ∃ e i v, P.underlying t = some (.slice e) ∧ P.info? e = some i ∧ i.size = k ∧ i.bytes = bytes ∧ i.zero = some v ∧ ofConst v = some z ∧ 0 < k ∧ 0 < bytes ∧ z.cells.length = k := by
  unfold elemP at h
  split at h
  · rename_i e hu
    split at h
    · rename_i i z' hi hz
      split at h
      · rename_i hc
        simp only [Option.some.injEq, Prod.mk.injEq] at h
        obtain ⟨rfl, rfl, rfl⟩ := h
        unfold zeroP at hz
        rw [hi] at hz
        simp only at hz
        split at hz
        · rename_i v hv
          exact ⟨e, i, v, hu, hi, rfl, rfl, hv, hz, hc.1, hc.2.1, hc.2.2⟩
        · cases hz
      · cases h
    · cases h
  · cases h
theorem LR_new {k : Nat} {xs : List AVal} {us : Array Value} (hk : ∀ x ∈ xs, x.cells.length = k) (hv : VRs I β (xs.flatMap AVal.cells) us.toList) (hI : I.le (I.add w.heap.size us)) : LR (I.add w.heap.size us) β k xs w.heap.size 0 :=
  LR_of hk (VRs.mono hI (Bmap.le.refl β) _ _ hv) (fun j u hu => by simp only [Imm.add, Nat.zero_add, if_true]; simpa using hu)

theorem run_bslice {a : Act} (T : TR I β tm a.tmps) (R : Rel base w0 I0 I β σ w) (hb : KLt base w0) {t : TypeId} {n : Nat} {parts : Array (Nat × Operand)} {k bytes : Nat} {z : AVal} {own : Bool} {ps : List (Nat × Opd)} (he : elemP P t = some (k, bytes, z)) (hn : n * k ≤ 16777216) (hps : compIdx parts.toList = some ps)
    {site : Nat} (hs : own = true → σ[site]? = some .free) {O : Oracle} {pure' : Nat → Bool} {r : AVal} {c : Cls} (h : execI O pure' tm σ site (.bslice own k n z ps) = some (r, σ', c)) :
    ∃ u w', (Instr.buildSlice t n (parts.map fun (i, x) => (i, a.eval x))).run P w = .ok u w' ∧ Post base w0 I0 I β r σ' u w' := by
  obtain ⟨e, i, v, hu, hi, hik, hib, hv, hz, hk, hby, hzl⟩ := elemP_spec he
  obtain ⟨hz1, hz2⟩ := ofConst_sound (I := I) (β := β) hz
  simp only [execI] at h
  split at h
  · cases h
  rename_i ys ts hview
  split at h
  case isFalse => cases h
  rename_i hc
  simp only [Bool.and_eq_true, List.all_eq_true, beq_iff_eq, decide_eq_true_eq] at hc
  obtain ⟨⟨hy, hidx⟩, _⟩ := hc
  obtain ⟨c1, c2, c3⟩ := compIdx_sound (a := a) T hps
  obtain ⟨I1, hI1, R1, hal, _, hfz, _, hoth⟩ := freeze_all ts R
  obtain ⟨v1, v2⟩ := viewAs_sound R1 (hfz (viewAs_rowy hview)) (by rw [hal.viewAs]; exact hview) (c2.mono hI1 (Bmap.le.refl β) _ _)
  have hyl : (ps.map (·.1)).length = ys.length := by rw [VRs_length v1]; simp [c3]
  obtain ⟨cells', g1, g2, g3, g4, g5⟩ := fill_elems (I := I1) (β := β) (k := k) (is := ps.map (·.1)) (ys := ys) (vs := parts.toList.map fun p => a.eval p.2) (xs := List.replicate n z) (cells := (Array.range (n * k)).map (v.cells[· % v.cells.size]!)) hyl (fun y hy => ntop_tree (v2 y hy)) v1 hy
    (by intro j hj; simp only [List.mem_map] at hj; obtain ⟨p, hp, rfl⟩ := hj; simpa using hidx p hp) (by intro x hx; rw [List.eq_of_mem_replicate hx]; exact hzl) (rep_VRs (ofConst_ntop hz) (hz1.mono hI1 (Bmap.le.refl β) _ _) hzl hk n)
  have hrun : (Instr.buildSlice t n (parts.map fun (i, x) => (i, a.eval x))).run P w = .ok (.slice (some ⟨w.heap.size, 0, none⟩) n n) { w with heap := w.heap.push (.cells cells' e) } := by
    have hpl : (parts.map fun (i, x) => (i, a.eval x)).toList = (ps.map (·.1)).zip (parts.toList.map fun p => a.eval p.2) := by rw [← c1]; simp
    have hle : ¬ 16777216 < n * i.size := by rw [hik]; omega
    have hle' : ¬ 2 ^ 24 < n * k := by omega
    by_cases hn0 : n * k = 0
    · have hr0 : Array.range 0 = #[] := rfl
      have g1' : Instr.fill (fun i => some (i * k, k)) #[] ((ps.map (·.1)).zip (parts.toList.map fun p => a.eval p.2)) = some cells' := by
        rw [hn0, hr0] at g1; simpa using g1
      simp only [Instr.buildSlice, Sem.run_bind, run_underlying hu, Result.andThen_ok, sizeOf, typeInfo, run_program, hi, Sem.run_pure, Sem.run_ite, hik, hn0, hpl]
      simp [hr0, g1', newRow]
    · simp only [Instr.buildSlice, Sem.run_bind, run_underlying hu, Result.andThen_ok, sizeOf, typeInfo, run_program, hi, Sem.run_pure, Sem.run_ite, hik, hn0, hpl, zeroValue, hv, if_false]
      simp [show ¬ 16777216 < n * k by omega, hn0, g1, newRow, hv]
  have htree : treeL (((ps.map (·.1)).zip ys).foldl (fun l p => l.set p.1 p.2) (List.replicate n z)) = true := by
    have aux : ∀ (l : List (Nat × AVal)) (xs : List AVal), (∀ p ∈ l, treeC p.2.cells = true) → treeL xs = true → treeL (l.foldl (fun l p => l.set p.1 p.2) xs) = true := by
      intro l
      induction l with
      | nil => intro xs _ h; exact h
      | cons p l ih =>
        intro xs hp hx
        refine ih _ (fun q hq => hp q (by simp [hq])) ?_
        rw [treeL_iff] at hx ⊢
        intro x hm
        rcases List.mem_or_eq_of_mem_set hm with hm | rfl
        · exact hx x hm
        · exact hp p (by simp)
    refine aux _ _ (fun p hp => v2 p.2 (List.of_mem_zip hp).2) ?_
    rw [treeL_iff]; intro x hx; rw [List.eq_of_mem_replicate hx]; exact hz2
  have hcs : cells'.size = n * k := by rw [g5]; simp
  have hn63 : n ≤ 9223372036854775807 := by
    have : n * 1 ≤ n * k := Nat.mul_le_mul_left n hk
    omega
  generalize ((ps.map (·.1)).zip ys).foldl (fun l p => l.set p.1 p.2) (List.replicate n z) = xs at *
  have hxl : xs.length = n := by rw [g4]; simp
  split at h
  · rename_i ho
    simp only [Option.some.injEq, Prod.mk.injEq] at h
    obtain ⟨rfl, rfl, rfl⟩ := h
    have hs1 : (freezeA σ ts)[site]? = some .free := by
      refine hoth site _ ?_ (hs ho)
      intro hm
      obtain ⟨g, k', xs', hx | hx⟩ := viewAs_rowy hview site hm <;> (rw [hs ho] at hx; cases hx)
    obtain ⟨R', hle⟩ := R1.newOwn hb hs1 cells' e (.row 0 k xs) k n (Or.inr ⟨xs, rfl, hk, hn63, by omega, htree, g3, hcs, by rw [List.take_of_length_le (by simp [hcs, hxl])]; exact g2⟩)
    refine ⟨_, _, hrun, Post.mk hI1 hle R' ?_⟩
    rw [VR_sl0]
    exact ⟨_, Bmap.put_same β site 0 _, Nat.le_refl _, hn63, Or.inl ⟨_, rfl, rfl⟩⟩
  · simp only [Option.some.injEq, Prod.mk.injEq] at h
    obtain ⟨rfl, rfl, rfl⟩ := h
    obtain ⟨R', hI⟩ := R1.newImm hb cells' e (0, 0)
    refine ⟨_, _, hrun, Post.mk (hI1.trans hI) (Bmap.le.refl β) R' ?_⟩
    simp only [VR]
    refine ⟨some ⟨w.heap.size, 0, none⟩, n, by rw [hxl], by omega, hn63, fun _ => hxl.symm, ?_, htree⟩
    by_cases hx0 : xs = []
    · exact Or.inl hx0
    · exact Or.inr ⟨w.heap.size, 0, k, rfl, hk, LR_new g3 g2 hI⟩

theorem run_rslice {a : Act} (T : TR I β tm a.tmps) (R : Rel base w0 I0 I β σ w) (hb : KLt base w0) {t : TypeId} {n : Nat} {parts : Array (Nat × Operand)} {k bytes : Nat} {z : AVal} {ps : List (Nat × Opd)} (he : elemP P t = some (k, bytes, z)) (hn : n * k ≤ 16777216) (hps : compIdx parts.toList = some ps)
    {site : Nat} (hs : σ[site]? = some .free) {O : Oracle} {pure' : Nat → Bool} {r : AVal} {c : Cls} (h : execI O pure' tm σ site (.rslice k n z ps) = some (r, σ', c)) :
    ∃ u w', (Instr.buildSlice t n (parts.map fun (i, x) => (i, a.eval x))).run P w = .ok u w' ∧ Post base w0 I0 I β r σ' u w' := by
  obtain ⟨e, i, v, hu, hi, hik, hib, hv, hz, hk, hby, hzl⟩ := elemP_spec he
  obtain ⟨hz1, hz2⟩ := ofConst_sound (I := I) (β := β) hz
  simp only [execI] at h
  split at h
  case isFalse => cases h
  rename_i hc
  simp only [Bool.and_eq_true, List.all_eq_true, beq_iff_eq, decide_eq_true_eq] at hc
  obtain ⟨⟨⟨hy0, hidx⟩, _⟩, hzok⟩ := hc
  obtain ⟨c1, c2, c3⟩ := compIdx_sound (a := a) T hps
  have hzip : (ps.map (·.1)).zip (ps.map fun p => p.2.ev tm) = ps.map fun p => (p.1, p.2.ev tm) := by
    rw [List.zip_map']
  have hy : ∀ y ∈ ps.map (fun p => p.2.ev tm), y.cells.length = k := by
    intro y hy
    obtain ⟨p, hp, rfl⟩ := List.mem_map.1 hy
    exact (hy0 p hp).1
  have hyok : ∀ y ∈ ps.map (fun p => p.2.ev tm), ∀ c ∈ y.cells, okCell c = true := by
    intro y hy
    obtain ⟨p, hp, rfl⟩ := List.mem_map.1 hy
    exact (hy0 p hp).2
  have hntop : ∀ y ∈ ps.map (fun p => p.2.ev tm), y ≠ .top := by
    intro y hy e
    have := hyok y hy
    rw [e] at this
    have := this .top (by simp [AVal.cells])
    cases this
  obtain ⟨cells', g1, g2, g3, g4, g5⟩ := fill_elems (I := I) (β := β) (k := k) (is := ps.map (·.1)) (ys := ps.map fun p => p.2.ev tm) (vs := parts.toList.map fun p => a.eval p.2) (xs := List.replicate n z) (cells := (Array.range (n * k)).map (v.cells[· % v.cells.size]!)) (by simp) hntop c2 hy
    (by intro j hj; simp only [List.mem_map] at hj; obtain ⟨p, hp, rfl⟩ := hj; simpa using hidx p hp) (by intro x hx; rw [List.eq_of_mem_replicate hx]; exact hzl) (rep_VRs (ofConst_ntop hz) hz1 hzl hk n)
  have hrun : (Instr.buildSlice t n (parts.map fun (i, x) => (i, a.eval x))).run P w = .ok (.slice (some ⟨w.heap.size, 0, none⟩) n n) { w with heap := w.heap.push (.cells cells' e) } := by
    have hpl : (parts.map fun (i, x) => (i, a.eval x)).toList = (ps.map (·.1)).zip (parts.toList.map fun p => a.eval p.2) := by rw [← c1]; simp
    have hle : ¬ 16777216 < n * i.size := by rw [hik]; omega
    have hle' : ¬ 2 ^ 24 < n * k := by omega
    by_cases hn0 : n * k = 0
    · have hr0 : Array.range 0 = #[] := rfl
      have g1' : Instr.fill (fun i => some (i * k, k)) #[] ((ps.map (·.1)).zip (parts.toList.map fun p => a.eval p.2)) = some cells' := by
        rw [hn0, hr0] at g1; simpa using g1
      simp only [Instr.buildSlice, Sem.run_bind, run_underlying hu, Result.andThen_ok, sizeOf, typeInfo, run_program, hi, Sem.run_pure, Sem.run_ite, hik, hn0, hpl]
      simp [hr0, g1', newRow]
    · simp only [Instr.buildSlice, Sem.run_bind, run_underlying hu, Result.andThen_ok, sizeOf, typeInfo, run_program, hi, Sem.run_pure, Sem.run_ite, hik, hn0, hpl, zeroValue, hv, if_false]
      simp [show ¬ 16777216 < n * k by omega, hn0, g1, newRow, hv]
  rw [hzip] at g2 g3 g4
  have hall : ∀ x ∈ (ps.map fun p => (p.1, p.2.ev tm)).foldl (fun l p => l.set p.1 p.2) (List.replicate n z), ∀ c ∈ x.cells, okCell c = true := by
    have aux : ∀ (l : List (Nat × AVal)) (xs : List AVal), (∀ p ∈ l, ∀ c ∈ p.2.cells, okCell c = true) → (∀ x ∈ xs, ∀ c ∈ x.cells, okCell c = true) → ∀ x ∈ l.foldl (fun l p => l.set p.1 p.2) xs, ∀ c ∈ x.cells, okCell c = true := by
      intro l
      induction l with
      | nil => intro xs _ h; exact h
      | cons p l ih =>
        intro xs hp hx
        refine ih _ (fun q hq => hp q (by simp [hq])) ?_
        intro x hm
        rcases List.mem_or_eq_of_mem_set hm with hm | rfl
        · exact hx x hm
        · exact hp p (by simp)
    refine aux _ _ (fun p hp => ?_) (fun x hx => by rw [List.eq_of_mem_replicate hx]; exact hzok)
    obtain ⟨q, hq, rfl⟩ := List.mem_map.1 hp
    exact (hy0 q hq).2
  have hcs : cells'.size = n * k := by rw [g5]; simp
  have hn63 : n ≤ 9223372036854775807 := by
    have : n * 1 ≤ n * k := Nat.mul_le_mul_left n hk
    omega
  generalize (ps.map fun p => (p.1, p.2.ev tm)).foldl (fun l p => l.set p.1 p.2) (List.replicate n z) = xs at *
  have hxl : xs.length = n := by rw [g4]; simp
  simp only [Option.some.injEq, Prod.mk.injEq] at h
  obtain ⟨rfl, rfl, rfl⟩ := h
  obtain ⟨R', hle⟩ := R.newObj hb hs (.cells cells' e) (.rrow 0 k xs) k n (by simp [owns, Bmap.put_same]) rfl (by simp)
    ⟨_, Bmap.put_same β site 0 _, rfl, hk, hn63, by simp only [hxl]; exact Nat.le_refl _, fun x hx => ⟨g3 x hx, hall x hx⟩, w.heap.size, cells', e, rfl, by simp, hcs, by rw [List.take_of_length_le (by simp [hcs, hxl])]; exact VRs.mono (Imm.le.refl I) (Bmap.put_le (R.free site 0 hs)) _ _ g2⟩
  refine ⟨_, _, hrun, Post.mk (Imm.le.refl I) hle R' ?_⟩
  rw [VR_sl0]
  exact ⟨_, Bmap.put_same β site 0 _, Nat.le_refl _, hn63, Or.inl ⟨_, rfl, rfl⟩⟩

theorem run_clr (R : Rel base w0 I0 I β σ w) {t ty : TypeId} {k bytes : Nat} {z : AVal} (he : elemP P t = some (k, bytes, z)) {x r : AVal} {v : Value} (hx : VR I β x v) {c : Cls} (h : clrA σ k z x = some (r, σ', c)) :
    ∃ u w', (Builtin.clear_ #[t] ty #[v]).run P w = .ok u w' ∧ Post base w0 I0 I β r σ' u w' := by
  obtain ⟨e, i, vz, hu, hi, hik, hib, hvz, hz, hk, hby, hzl⟩ := elemP_spec he
  obtain ⟨hz1, hz2⟩ := ofConst_sound (I := I) (β := β) hz
  unfold clrA at h
  split at h
  case h_2 => cases h
  rename_i t' g lo n
  split at h
  case h_2 => cases h
  rename_i g' k' xs hs
  split at h
  case isFalse => cases h
  rename_i hc
  obtain ⟨rfl, rfl, hle, _⟩ := hc
  simp only [Option.some.injEq, Prod.mk.injEq] at h
  obtain ⟨rfl, rfl, rfl⟩ := h
  have htup : VR I β (.tup []) (.tuple #[]) := by simp [VR, VRs]
  by_cases hn : n = 0
  · subst hn
    have hsame : σ.set t' (.row g' k' (xs.take lo ++ List.replicate 0 z ++ xs.drop (lo + 0))) = σ := by
      have : xs.take lo ++ List.replicate 0 z ++ xs.drop (lo + 0) = xs := by simp
      rw [this]
      apply List.ext_getElem?
      intro j
      rw [List.getElem?_set]
      split
      · rename_i e; subst e
        split
        · exact hs.symm
        · rename_i hlt; rw [List.getElem?_eq_none (by omega)]
      · rfl
    rw [hsame]
    refine ⟨.tuple #[], w, ?_, Post.here R htup⟩
    simp only [VR] at hx
    obtain ⟨bi, _, _, _, hv⟩ := hx
    rcases hv with ⟨b, _, rfl⟩ | ⟨_, _, A, rfl⟩ | ⟨_, _, _, A, rfl⟩
    · simp [Builtin.clear_, run_underlying hu]
    · cases A <;> simp [Builtin.clear_, run_underlying hu]
    · cases A <;> simp [Builtin.clear_, run_underlying hu]
  · obtain ⟨bi, e1, e2, e3, e4, e5, e6, e7, e8⟩ := R.blk _ _ hs
    subst e2
    simp only [VR] at hx
    obtain ⟨bi', f1, f2, f3, f4⟩ := hx
    rw [e1] at f1
    injection f1 with f1
    subst f1
    have hown : owns β t' (.row g' bi.k xs) = bi.b := by simp [owns, e1]
    rcases e8 with ⟨_, hz0⟩ | ⟨b, us, ty0, hbb, e8, e9, e10⟩
    · omega
    have hv0 : v = .slice (some ⟨b, lo * bi.k, none⟩) n (bi.cap - lo) := by
      rcases f4 with ⟨b', eb, rfl⟩ | ⟨_, hz0, _⟩ | ⟨_, _, hn0, _⟩
      · rw [hbb] at eb; injection eb with eb; subst eb; rfl
      · omega
      · exact absurd hn0 hn
    subst hv0
    have hrep := rep_VRs (I := I) (β := β) (ofConst_ntop hz) hz1 hzl hk n
    have hvl := cells_len (ofConst_ntop hz) hz1
    have hzc : Builtin.zeroCells vz.cells n = (Array.range (n * bi.k)).map (vz.cells[· % vz.cells.size]!) := by
      unfold Builtin.zeroCells
      rw [hvl, hzl]
    have hlen : ((Array.range (n * bi.k)).map (vz.cells[· % vz.cells.size]!)).toList.length = n * bi.k := by simp
    have hone : ∀ v ∈ ((Array.range (n * bi.k)).map (vz.cells[· % vz.cells.size]!)).toList, v.oneCell' = true := VRs_one (fun y hy => by
      obtain ⟨q, hq, hy⟩ := List.mem_flatMap.1 hy
      rw [List.eq_of_mem_replicate hq] at hy
      exact ok_of_tree1 (treeC_iff.1 hz2 y hy)) hrep
    have hmul : (lo + n) * bi.k ≤ us.size := by rw [e9]; exact Nat.mul_le_mul_right _ f2
    have hmul2 : (lo + n) * bi.k ≤ xs.length * bi.k := Nat.mul_le_mul_right _ hle
    rw [Nat.add_mul] at hmul hmul2
    have hst := run_storeCells_at (P := P) b (lo * bi.k) ty0 _ 0 us w e8 (by rw [hlen]; omega) hone
    simp only [Nat.add_zero] at hst
    refine ⟨.tuple #[], _, ?_, Post.here (R.write hs (b := b) (by rw [hown, hbb]) (by simp [owns, e1, hbb]) (us.toList.take (lo * bi.k) ++ ((Array.range (n * bi.k)).map (vz.cells[· % vz.cells.size]!)).toList ++ us.toList.drop (lo * bi.k + ((Array.range (n * bi.k)).map (vz.cells[· % vz.cells.size]!)).toList.length)).toArray ?_ rfl) htup⟩
    · obtain ⟨m, rfl⟩ : ∃ m, n = m + 1 := ⟨n - 1, by omega⟩
      simp only [Builtin.clear_, zeroValue, typeInfo, hi, hvz, hzc, run_underlying hu, Sem.run_bind, Sem.run_pure, Result.andThen_ok, List.getElem?_toArray, List.getElem?_cons_zero, run_program]
      rw [hst]
      rfl
    · have hxl : (xs.take lo ++ List.replicate n z ++ xs.drop (lo + n)).length = xs.length := by simp; omega
      refine ⟨bi, e1, rfl, e3, e4, by rw [hxl]; exact e5, ?_, ?_, Or.inr ⟨b, _, ty0, hbb, setRow_heap w b us _ ty0 (0, 0) e8, ?_, ?_⟩⟩
      · exact treeL_append (treeL_append (treeL_take e6 lo) (by rw [treeL_iff]; intro x hx; rw [List.eq_of_mem_replicate hx]; exact hz2)) (treeL_drop e6 _)
      · intro q hq
        simp only [List.mem_append] at hq
        rcases hq with (hq | hq) | hq
        · exact e7 q (List.mem_of_mem_take hq)
        · rw [List.eq_of_mem_replicate hq]; exact hzl
        · exact e7 q (List.mem_of_mem_drop hq)
      · simp only [List.size_toArray, List.length_append, List.length_take, List.length_drop, Array.length_toList, hlen]
        rw [← e9]; omega
      · rw [hxl, flat_append, flat_append, ← flat_take e7, ← flat_drop e7]
        have h1 := VRs_take e10 (lo * bi.k)
        have h2 := VRs_drop e10 ((lo + n) * bi.k)
        have := VRs_append (VRs_append h1 hrep) h2
        refine cast ?_ this
        congr 1
        rw [List.take_take, Nat.min_eq_left (by omega), List.drop_take]
        rw [Nat.add_mul]
        apply List.ext_getElem?
        intro j
        simp only [List.getElem?_append, List.getElem?_take, List.getElem?_drop, List.length_append, List.length_take, Array.length_toList, hlen]
        repeat' split
        all_goals first | rfl | omega | (congr 1; omega) | (exfalso; omega) | skip
        all_goals (first | (symm; rw [List.getElem?_eq_none_iff]; simp; omega) | (rw [List.getElem?_eq_none_iff]; simp; omega))

theorem run_rng (R : Rel base w0 I0 I β σ w) (hb : KLt base w0) {t : TypeId} (ht : P.underlying t = some .string) {l : List UInt8} {site : Nat} (hs : σ[site]? = some .free) :
    ∃ u w', (Instr.range t (.string ⟨l.toArray⟩)).run P w = .ok u w' ∧ Post base w0 I0 I β (.ref site 0) (σ.set site (.siter l 0)) u w' := by
  obtain ⟨R', hle⟩ := R.newObj hb hs (.stringIter ⟨l.toArray⟩ 0) (.siter l 0) 1 1 (by simp [owns, Bmap.put_same]) rfl (by simp)
    ⟨_, _, _, Bmap.put_same β site 0 _, by simp⟩
  refine ⟨.pointer (some ⟨w.heap.size, 0, none⟩), _, ?_, Post.mk (Imm.le.refl I) hle R' ?_⟩
  · simp [Instr.range, run_underlying ht]
  · simp only [VR]
    exact ⟨_, _, _, Bmap.put_same β site 0 _, rfl⟩
theorem run_nxt (R : Rel base w0 I0 I β σ w) {t : Nat} {l : List UInt8} {p : Nat} (hs : σ[t]? = some (.siter l p)) {v : Value} (hv : VR I β (.ref t 0) v) (ty : TypeId) :
    ∃ u w', (Instr.next v true ty).run P w = .ok u w' ∧ (if p < l.length then Post base w0 I0 I β (.tup [.bool true, .int .i64 p, .int .i32 (decA l p).1]) (σ.set t (.siter l (p + (decA l p).2))) u w' else Post base w0 I0 I β (.tup [.bool false]) σ u w') := by
  simp only [VR] at hv
  obtain ⟨b, k, c, hb, rfl⟩ := hv
  obtain ⟨b', k', c', e1, e2⟩ := R.blk _ _ hs
  rw [hb] at e1
  simp only [Option.some.injEq, BI.mk.injEq] at e1
  obtain ⟨rfl, rfl, rfl⟩ := e1
  have hg : (getObj b).run P w = .ok (.stringIter ⟨l.toArray⟩ p) w := by simp [getObj, Sem.run, e2]
  have hsz : (ByteArray.mk l.toArray).size = l.length := by simp [ByteArray.size]
  have hlt : b < w.heap.size := (Array.getElem?_eq_some_iff.1 e2).1
  by_cases hp : p < l.length
  · have hso : ∀ o, (setObj b o).run P w = .ok () { w with heap := w.heap.setIfInBounds b o } := by intro o; simp [setObj, Sem.run, e2]
    refine ⟨.tuple #[.bool true, goInt p, .int .i32 (decA l p).1], { w with heap := w.heap.setIfInBounds b (.stringIter ⟨l.toArray⟩ (p + (decA l p).2)) }, ?_, ?_⟩
    · simp [Instr.next, hg, hsz, hp, hso, decA]
    · rw [if_pos hp]
      refine Post.here (R.putObj hs (by simp [owns, hb]) (by simp [owns, hb]) _ ⟨b, k, c, hb, ?_⟩ rfl) ?_
      · rw [Array.getElem?_setIfInBounds_self_of_lt hlt]
      · simp [VR, VRs, goInt]
  · refine ⟨.tuple #[.bool false], w, ?_, ?_⟩
    · simp [Instr.next, hg, hsz, hp]
    · rw [if_neg hp]
      refine Post.here R ?_
      simp [VR, VRs]

theorem run_mkslice (R : Rel base w0 I0 I β σ w) (hb : KLt base w0) {t : TypeId} {k bytes : Nat} {z : AVal} (he : elemP P t = some (k, bytes, z)) {l c : Int} (h0 : 0 ≤ l) (h1 : l ≤ c) (h2 : c ≤ 9223372036854775807) (h3 : bytes * c ≤ 140737488355328) {site : Nat} (hs : σ[site]? = some .free) :
    ∃ u w', (Instr.makeSlice t (.int .i64 l) (.int .i64 c)).run P w = .ok u w' ∧ Post base w0 I0 I β (.sl site 0 0 l.toNat) (σ.set site (.row 0 k (List.replicate c.toNat z))) u w' := by
  obtain ⟨e, i, v, hu, hi, hik, hib, hv, hz, hk, hby, hzl⟩ := elemP_spec he
  obtain ⟨hz1, hz2⟩ := ofConst_sound (I := I) (β := β) hz
  have wl : IntKind.i64.wrap l = l := by rw [IntKind.wrap_i64]; omega
  have wc : IntKind.i64.wrap c = c := by rw [IntKind.wrap_i64]; omega
  have hc0 : ¬ c < 0 := by omega
  have hbc : ¬ (281474976710656 : Int) < bytes * c := by omega
  have hl0 : ¬ l < 0 := by omega
  have hlc : ¬ c < l := by omega
  have hvl := cells_len (ofConst_ntop hz) hz1
  have hrep := rep_VRs (ofConst_ntop hz) hz1 hzl hk c.toNat
  have husz : ((Array.range (c.toNat * k)).map (v.cells[· % v.cells.size]!)).size = c.toNat * k := by simp
  obtain ⟨R', hle⟩ := R.newOwn hb hs ((Array.range (c.toNat * k)).map (v.cells[· % v.cells.size]!)) e (.row 0 k (List.replicate c.toNat z)) k c.toNat (Or.inr ⟨_, rfl, hk, by omega, by simp, by rw [treeL_iff]; intro x hx; rw [List.eq_of_mem_replicate hx]; exact hz2, by intro x hx; rw [List.eq_of_mem_replicate hx]; exact hzl, husz, by rw [List.take_of_length_le (by simp)]; exact hrep⟩)
  refine ⟨.slice (some ⟨w.heap.size, 0, none⟩) l.toNat c.toNat, _, ?_, Post.mk (Imm.le.refl I) hle R' ?_⟩
  · by_cases hn0 : c.toNat * k = 0
    · have hr0 : Array.range 0 = #[] := rfl
      simp [Instr.makeSlice, run_underlying hu, asInt, asIntOf, typeInfo, hi, hib, wl, wc, sizeOf, hik, hn0, hc0, hbc, hl0, hlc, newRow, hr0]
    · simp [Instr.makeSlice, run_underlying hu, asInt, asIntOf, typeInfo, hi, hib, wl, wc, sizeOf, hik, hn0, hc0, hbc, hl0, hlc, newRow, zeroValue, hv]
  · rw [VR_sl0]
    exact ⟨_, Bmap.put_same β site 0 _, by simp; omega, by simp; omega, Or.inl ⟨_, rfl, rfl⟩⟩

/-- a row that is marked as a string's bytes: frozen -/
theorem run_s2s {t e : TypeId} (hu : P.underlying t = some (.slice e)) (he : P.underlying e = some (.int .u8)) (R : Rel base w0 I0 I β σ w) {t' g k lo n : Nat} {xs : List AVal} (hs : σ[t']? = some (.row g k xs)) (hn : lo + n ≤ xs.length) (h0 : 0 < n) {v : Value} (hx : VR I β (.sl t' g lo n) v) :
    ∃ w', (convert t t v).run P w = .ok v w' ∧ Post base w0 I0 I β (.lst false ((xs.drop lo).take n)) (σ.set t' (.frow g k xs)) v w' := by
  have hsl : t' < σ.length := (List.getElem?_eq_some_iff.1 hs).1
  have hx0 := hx
  simp only [VR] at hx
  obtain ⟨bi, f1, f2, f3, f4⟩ := hx
  obtain ⟨bi', h1, h2, h3, h4, h5, h6, h7, h8⟩ := R.blk _ _ hs
  rw [f1] at h1; injection h1 with h1; subst h1
  rcases f4 with ⟨b, hbb, rfl⟩ | ⟨_, hc, _⟩ | ⟨_, _, hz, _⟩
  · rcases h8 with ⟨h8, _⟩ | ⟨b', us, ty, eb, h8, h9, h10⟩
    · rw [hbb] at h8; cases h8
    rw [hbb] at eb; injection eb with eb; subst eb
    have hown : owns β t' (.row g k xs) = some b := by simp [owns, f1, hbb]
    have ho := R.own t' _ b hs hown
    let w' : World := w.freeze ⟨b, us.size, none⟩ 1
    have hhb : w'.heap[b]? = some (.cells us ty (us.size, us.size + 1)) := by
      simp only [w', World.freeze, Nat.one_ne_zero, if_false, Array.getElem?_modify, if_true, h8, Option.map_some]
      simp
    have hho : ∀ b', b' ≠ b → w'.heap[b']? = w.heap[b']? := by
      intro b' hne
      simp only [w', World.freeze, Nat.one_ne_zero, if_false, Array.getElem?_modify]
      rw [if_neg (fun e => hne e.symm)]
    have hsz : w'.heap.size = w.heap.size := by simp [w', World.freeze]
    let I' : Imm := fun b' o => if b' = b ∧ o < xs.length * k then us[o]? else I b' o
    have hle : I.le I' := by
      intro b' o u hu
      have : b' ≠ b := by rintro rfl; rw [ho.2 o] at hu; cases hu
      simp only [I', this, false_and, if_false]
      exact hu
    have R' : Rel base w0 I0 I' β (σ.set t' (.frow g k xs)) w' := by
      refine R.upd hle (Bmap.le.refl β) ⟨rfl, rfl, rfl, by rw [hsz]; exact Nat.le_refl _, fun q hq => hho q (by rintro rfl; exact ho.1 hq)⟩ ?_ ?_ t' _ rfl hsl (fun _ _ _ => rfl) ?_ ?_ (fun b e => by cases e) (fun g' hg => R.gen t' _ g' hs (by simpa [genB] using hg)) (by simp)
      · intro b' o hb'
        have : b' ≠ b := by rintro rfl; exact ho.1 hb'
        simp only [I', this, false_and, if_false]
      · intro b' o u hu
        simp only [I'] at hu
        split at hu
        · rename_i hc
          rw [hc.1, cell_of_heap hhb]; exact hu
        · have := R.imm _ _ _ hu
          have hne : b' ≠ b := by rintro rfl; rw [ho.2 o] at hu; cases hu
          rw [← this]
          simp only [World.cell?, hho b' hne]
      · intro t'' x b' hne hx hb'
        have hbb' : b' ≠ b := by rintro rfl; exact hne (R.apart t'' x t' _ b' hx hs hb' hown)
        refine ⟨hho b' hbb', fun o => ?_, by simp [owns]⟩
        simp only [I', hbb', false_and, if_false]
        exact (R.own t'' x b' hx hb').2 o
      · refine ⟨bi, f1, h2, h3, h4, h5, h6, Or.inr ⟨b, hbb, ?_⟩⟩
        refine LR_of h7 (VRs.mono hle (Bmap.le.refl β) _ _ h10) (fun j u hu => ?_)
        rw [List.getElem?_take] at hu
        split at hu
        · rename_i hj
          simp only [I', Nat.zero_add, true_and, hj, if_true]
          simpa using hu
        · cases hu
    refine ⟨w', ?_, Post.mk hle (Bmap.le.refl β) R' (sl_frow R' (by rw [List.getElem?_set, if_pos rfl, if_pos hsl]) hn (hx0.mono hle (Bmap.le.refl β) _ _))⟩
    have hshape : w.shape? b = some (ty, us.size) := by simp [World.shape?, h8]
    simp [convert, run_underlying hu, run_underlying he, markStringish, hshape, w']
  · omega
  · omega
end
end Go.Proofs.YtaaflagbhneakaaDoor
