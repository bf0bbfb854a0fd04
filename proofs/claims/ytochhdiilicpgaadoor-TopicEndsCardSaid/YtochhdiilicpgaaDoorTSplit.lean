/- Levels: strings.Split at a slash. -/
import Derived.Test.YtochhdiilicpgaaDoorCStrSplit
import Derived.Test.YtochhdiilicpgaaDoorCTopic
import Derived.Test.YtochhdiilicpgaaDoorEvs
namespace Go.Proofs.YtochhdiilicpgaaDoor
set_option linter.unusedSimpArgs false
set_option linter.unusedVariables false
set_option maxHeartbeats 4000000
set_option maxRecDepth 10000
/-- the pieces between slashes -/
def splitL : List UInt8 → List (List UInt8)
  | [] => [[]]
  | b :: r => if b = 47 then [] :: splitL r else match splitL r with
    | h :: t => (b :: h) :: t
    | [] => [[b]]
theorem splitL_ne (s : List UInt8) : splitL s ≠ [] := by
  cases s with
  | nil => simp [splitL]
  | cons b r => simp only [splitL]; split <;> (try split) <;> simp
theorem split_none {s : List UInt8} (h : s.count 47 = 0) : splitL s = [s] := by
  induction s with
  | nil => rfl
  | cons b r ih =>
    rw [List.count_cons] at h
    have hb : ¬ b = 47 := by rintro rfl; simp at h
    simp only [splitL]
    rw [if_neg hb, ih (by omega)]
theorem split_some {s : List UInt8} {k : Nat} (h : s.count 47 = k + 1) : ∃ p t, s = p ++ 47 :: t ∧ t.count 47 = k ∧ splitL s = p :: splitL t ∧ Lib.indexByte s 47 = p.length := by
  induction s with
  | nil => simp at h
  | cons b r ih =>
    rw [List.count_cons] at h
    by_cases hb : b = 47
    · subst hb
      exact ⟨[], r, rfl, by simpa using h, by simp [splitL], by simp [Lib.indexByte]⟩
    · have hb' : (b == 47) = false := by simpa using hb
      rw [hb'] at h
      obtain ⟨p, t, rfl, h2, h3, h4⟩ := ih (by simpa using h)
      refine ⟨b :: p, t, rfl, h2, ?_, ?_⟩
      · simp only [splitL]
        rw [if_neg hb, h3]
      · simp only [Lib.indexByte, hb', h4]
        simp
        try omega
theorem split_len (s : List UInt8) : (splitL s).length = s.count 47 + 1 := by
  induction s with
  | nil => rfl
  | cons b r ih =>
    simp only [splitL]
    rw [List.count_cons]
    split
    · rename_i h; subst h; simp [ih]
    · rename_i h
      have h0 := splitL_ne r
      split
      · rename_i e; rw [e] at ih; simp [h]; simp at ih; omega
      · rename_i e; exact absurd e h0
theorem q_lidx (l : List UInt8) (c : UInt8) : E 61 [.str l, .int .u8 c.toNat] [] = some (.int .i64 (Lib.indexByte l c), []) := by
  have : ((c.toNat : Int).toNat.toUInt8) = c := by simp
  have h := (EV_some (fs := FC) (prim := PR) (byref := BY) (f := 61) (args := [.str l, .int .u8 c.toNat]) (σ := [])).2 ⟨1, rfl⟩
  rw [this] at h
  exact h
theorem q_lidxC (σ : AHeap) (site own : Nat) (view : Bool) (l : List UInt8) (c : UInt8) : callG E BY σ site 61 own view [.str l, .int .u8 c.toNat] = some (.int .i64 (Lib.indexByte l c), σ, {}) :=
  call_flat (q_lidx l c) (by kernel_rfl) (by simp -implicitDefEqProofs only [EVS0, EVS1, EVS2, EVS3, EVS4, EVS5, EVS6, EVS7, List.all_cons, List.all_nil, List.map_cons, List.map_nil, Bool.and_self, Bool.and_true, Bool.true_and, eq_self, and_self, List.length_map, implies_true, Bool.false_eq_true, if_false, if_true, intsV, bytesV, propsV, propV, propC, intsV]) (by simp -implicitDefEqProofs only [EVS0, EVS1, EVS2, EVS3, EVS4, EVS5, EVS6, EVS7, List.all_cons, List.all_nil, List.map_cons, List.map_nil, Bool.and_self, Bool.and_true, Bool.true_and, eq_self, and_self, List.length_map, implies_true, Bool.false_eq_true, if_false, if_true, intsV, bytesV, propsV, propV, propC, intsV]) rfl (fun _ => rfl) _ _ _ _
theorem q_lindex (l : List UInt8) (c : UInt8) : E 51 [.str l, .str [c]] [] = some (.int .i64 (Lib.indexByte l c), []) := by
  rw [E_eq (by rfl) cf_internal_stringslite_Index]
  have e0 : (((1 : Nat) : Int) == 0) = false := rfl
  have e1 : (((1 : Nat) : Int) == 1) = true := rfl
  have hi : (if ([c] == l) = true then (0 : Int) else Lib.indexByte l c) = Lib.indexByte l c := by
    split
    · rename_i h
      have : [c] = l := by simpa using h
      subst this
      simp [Lib.indexByte]
    · rfl
  simp -implicitDefEqProofs only [EVS0, EVS1, EVS2, EVS3, EVS4, EVS5, EVS6, EVS7, ite_tf, ite_ft, ite_tft, ite_ftf, ite_list, ite_tt, ite_ee, ite_nt, ite_ne, eq_self, implies_true, forall_const, exI, nsite, freeAt, execI, Opd.ev, tget, tins, tput, keepL, sitesOf, List.map_cons, List.map_nil, List.sum_cons, List.sum_nil, List.length_cons, List.length_nil, List.replicate_zero, List.replicate_succ, List.append_nil, List.nil_append, List.cons_append, List.getElem?_cons_zero, List.getElem?_cons_succ, List.set_cons_zero, List.set_cons_succ, Nat.add_zero, Nat.zero_add, Nat.reduceAdd, Nat.reduceSub, Nat.reduceLT, Nat.reduceLeDiff, Nat.reduceEqDiff, Nat.reduceBEq, Nat.reduceMul, beq_self_eq_true, Bool.true_or, Bool.false_or, Bool.or_true, Bool.or_false, Bool.and_true, Bool.true_and, Bool.and_self, Bool.and_false, Bool.false_and, if_true, if_false, ite_true, ite_false, Bool.false_eq_true, Option.map_some, Option.map_none, and_self, and_true, true_and, and_false, false_and, true_or, or_true, false_or, or_false, not_true_eq_false, not_false_eq_true, List.drop_zero, List.drop_succ_cons, List.take_succ_cons, List.take_zero, ldA, stA, partA, faddrA, setAt, List.all_cons, List.all_nil, binA, arithA, shiftA, strA, unA, gSpan, gSkip, unG, ne_eq, Option.some.injEq, reduceCtorEq, decide_true, decide_false, elemsA, resA, resAll, resOne, enterA, decide_eq_true_eq, Bool.not_eq_true, Bool.decide_eq_true, List.isEmpty_nil, Bool.not_false, Bool.not_true, List.length_map, Bool.bne_false, Bool.bne_true, List.isEmpty_cons, List.getD_cons_zero, List.getD_cons_succ, List.getD_nil, ite_self, ↓reduceIte, noRefL, clrA, gcT, gcA, gcIds, reach, rhoOf, heapOf, idxA, genB, newGen, renB, refsB, List.contains_cons, List.contains_nil, List.range_zero, List.range_succ, List.flatMap_cons, List.flatMap_nil, List.zip_cons_cons, List.zip_nil_left, List.zip_nil_right, Nat.not_lt_zero, cb_internal_stringslite_Index, b_internal_stringslite_Index, cr_internal_stringslite_Index, x_internal_stringslite_Index_k0, x_internal_stringslite_Index_l15, intsV, bytesV, propsV, propV, propC, bytesOf_map, e0, e1, q_lidxC, byteV, Int.toNat_zero, Int.le_refl]
  rw [hi]
theorem q_lindexC (σ : AHeap) (site own : Nat) (view : Bool) (l : List UInt8) (c : UInt8) : callG E BY σ site 51 own view [.str l, .str [c]] = some (.int .i64 (Lib.indexByte l c), σ, {}) :=
  call_flat (q_lindex l c) (by kernel_rfl) (by simp -implicitDefEqProofs only [EVS0, EVS1, EVS2, EVS3, EVS4, EVS5, EVS6, EVS7, List.all_cons, List.all_nil, List.map_cons, List.map_nil, Bool.and_self, Bool.and_true, Bool.true_and, eq_self, and_self, List.length_map, implies_true, Bool.false_eq_true, if_false, if_true, intsV, bytesV, propsV, propV, propC, intsV]) (by simp -implicitDefEqProofs only [EVS0, EVS1, EVS2, EVS3, EVS4, EVS5, EVS6, EVS7, List.all_cons, List.all_nil, List.map_cons, List.map_nil, Bool.and_self, Bool.and_true, Bool.true_and, eq_self, and_self, List.length_map, implies_true, Bool.false_eq_true, if_false, if_true, intsV, bytesV, propsV, propV, propC, intsV]) rfl (fun _ => rfl) _ _ _ _
theorem q_index (l : List UInt8) (c : UInt8) : E 50 [.str l, .str [c]] [] = some (.int .i64 (Lib.indexByte l c), []) := by
  rw [E_eq (by rfl) cf_strings_Index]
  simp -implicitDefEqProofs only [EVS0, EVS1, EVS2, EVS3, EVS4, EVS5, EVS6, EVS7, ite_tf, ite_ft, ite_tft, ite_ftf, ite_list, ite_tt, ite_ee, ite_nt, ite_ne, eq_self, implies_true, forall_const, exI, nsite, freeAt, execI, Opd.ev, tget, tins, tput, keepL, sitesOf, List.map_cons, List.map_nil, List.sum_cons, List.sum_nil, List.length_cons, List.length_nil, List.replicate_zero, List.replicate_succ, List.append_nil, List.nil_append, List.cons_append, List.getElem?_cons_zero, List.getElem?_cons_succ, List.set_cons_zero, List.set_cons_succ, Nat.add_zero, Nat.zero_add, Nat.reduceAdd, Nat.reduceSub, Nat.reduceLT, Nat.reduceLeDiff, Nat.reduceEqDiff, Nat.reduceBEq, Nat.reduceMul, beq_self_eq_true, Bool.true_or, Bool.false_or, Bool.or_true, Bool.or_false, Bool.and_true, Bool.true_and, Bool.and_self, Bool.and_false, Bool.false_and, if_true, if_false, ite_true, ite_false, Bool.false_eq_true, Option.map_some, Option.map_none, and_self, and_true, true_and, and_false, false_and, true_or, or_true, false_or, or_false, not_true_eq_false, not_false_eq_true, List.drop_zero, List.drop_succ_cons, List.take_succ_cons, List.take_zero, ldA, stA, partA, faddrA, setAt, List.all_cons, List.all_nil, binA, arithA, shiftA, strA, unA, gSpan, gSkip, unG, ne_eq, Option.some.injEq, reduceCtorEq, decide_true, decide_false, elemsA, resA, resAll, resOne, enterA, decide_eq_true_eq, Bool.not_eq_true, Bool.decide_eq_true, List.isEmpty_nil, Bool.not_false, Bool.not_true, List.length_map, Bool.bne_false, Bool.bne_true, List.isEmpty_cons, List.getD_cons_zero, List.getD_cons_succ, List.getD_nil, ite_self, ↓reduceIte, noRefL, clrA, gcT, gcA, gcIds, reach, rhoOf, heapOf, idxA, genB, newGen, renB, refsB, List.contains_cons, List.contains_nil, List.range_zero, List.range_succ, List.flatMap_cons, List.flatMap_nil, List.zip_cons_cons, List.zip_nil_left, List.zip_nil_right, Nat.not_lt_zero, cb_strings_Index, b_strings_Index, cr_strings_Index, intsV, bytesV, propsV, propV, propC, bytesOf_map, q_lindexC]
theorem q_indexC (σ : AHeap) (site own : Nat) (view : Bool) (l : List UInt8) (c : UInt8) : callG E BY σ site 50 own view [.str l, .str [c]] = some (.int .i64 (Lib.indexByte l c), σ, {}) :=
  call_flat (q_index l c) (by kernel_rfl) (by simp -implicitDefEqProofs only [EVS0, EVS1, EVS2, EVS3, EVS4, EVS5, EVS6, EVS7, List.all_cons, List.all_nil, List.map_cons, List.map_nil, Bool.and_self, Bool.and_true, Bool.true_and, eq_self, and_self, List.length_map, implies_true, Bool.false_eq_true, if_false, if_true, intsV, bytesV, propsV, propV, propC, intsV]) (by simp -implicitDefEqProofs only [EVS0, EVS1, EVS2, EVS3, EVS4, EVS5, EVS6, EVS7, List.all_cons, List.all_nil, List.map_cons, List.map_nil, Bool.and_self, Bool.and_true, Bool.true_and, eq_self, and_self, List.length_map, implies_true, Bool.false_eq_true, if_false, if_true, intsV, bytesV, propsV, propV, propC, intsV]) rfl (fun _ => rfl) _ _ _ _
theorem q_count (l : List UInt8) (c : UInt8) : E 49 [.str l, .str [c]] [] = some (.int .i64 (Lib.countByte l c), []) := EV_some.2 ⟨1, rfl⟩
theorem q_countC (σ : AHeap) (site own : Nat) (view : Bool) (l : List UInt8) (c : UInt8) : callG E BY σ site 49 own view [.str l, .str [c]] = some (.int .i64 (Lib.countByte l c), σ, {}) :=
  call_flat (q_count l c) (by kernel_rfl) (by simp -implicitDefEqProofs only [EVS0, EVS1, EVS2, EVS3, EVS4, EVS5, EVS6, EVS7, List.all_cons, List.all_nil, List.map_cons, List.map_nil, Bool.and_self, Bool.and_true, Bool.true_and, eq_self, and_self, List.length_map, implies_true, Bool.false_eq_true, if_false, if_true, intsV, bytesV, propsV, propV, propC, intsV]) (by simp -implicitDefEqProofs only [EVS0, EVS1, EVS2, EVS3, EVS4, EVS5, EVS6, EVS7, List.all_cons, List.all_nil, List.map_cons, List.map_nil, Bool.and_self, Bool.and_true, Bool.true_and, eq_self, and_self, List.length_map, implies_true, Bool.false_eq_true, if_false, if_true, intsV, bytesV, propsV, propV, propC, intsV]) rfl (fun _ => rfl) _ _ _ _
theorem slice_row {σ : AHeap} {t g k n : Nat} {xs : List AVal} (hs : σ[t]? = some (.row g k xs)) (hn : n ≤ xs.length) {h : Int} (h0 : 0 ≤ h) (h1 : h ≤ (xs.length : Int)) (kk : IntKind) : sliceA σ k (.sl t g 0 n) none (some (.int kk h)) none = some (.sl t g 0 h.toNat, σ, { rd := [t] }) := by
  have he : elemsA σ (.sl t g 0 n) = some ((xs.drop 0).take n, [t]) := by simp [elemsA, hs, hn]
  simp [sliceA, he, hs, optB, boundA, h0, h1]
theorem out_row (k n : Nat) (xs : List AVal) (σ : AHeap) : outA 0 (.row 0 k xs :: σ) (.sl 0 0 0 n) = some (.sl 0 0 0 n, [.row 0 k xs]) := by
  rfl
theorem rep_get {done : List (List UInt8)} {n m : Nat} (hn : n = done.length + m + 1) : (done.map AVal.str ++ List.replicate (n - done.length) (AVal.str []))[done.length]? = some (AVal.str []) := by
  rw [List.getElem?_append_right (by simp), List.length_map, Nat.sub_self, show n - done.length = m + 1 by omega, List.replicate_succ]
  rfl
theorem rep_set {done : List (List UInt8)} {n m : Nat} (hn : n = done.length + m + 1) (p : List UInt8) : (done.map AVal.str ++ List.replicate (n - done.length) (AVal.str [])).set done.length (AVal.str p) = (done ++ [p]).map AVal.str ++ List.replicate (n - (done ++ [p]).length) (AVal.str []) := by
  rw [List.set_append_right _ _ (by simp), List.length_map, Nat.sub_self, show n - done.length = m + 1 by omega, List.replicate_succ, List.set_cons_zero, List.map_append, List.append_assoc, List.length_append]
  simp only [List.map_cons, List.map_nil, List.cons_append, List.nil_append, List.length_cons, List.length_nil]
  rw [show n - (done.length + (0 + 1)) = m by omega]
theorem q_splitl (N : Nat) (hN : N ≤ 9223372036854775807) : ∀ (k : Nat) (s : List UInt8) (done : List (List UInt8)), s.count 47 = k → N = done.length + k + 1 → s.length ≤ 9223372036854775807 →
    K_strings_genSplit_l11 0 [(10, .int .i64 done.length), (9, .sl 0 0 0 N), (3, .int .i64 (N - 1 : Int)), (2, .int .i64 0), (1, .str [47]), (0, .str s)] [.row 0 1 (done.map AVal.str ++ List.replicate (N - done.length) (AVal.str []))] =
      some (.sl 0 0 0 N, [.row 0 1 ((done ++ splitL s).map AVal.str)])
  | 0, s, done, hk, hNd, hs => by
    have h1 : ¬ ((done.length : Int) < (N - 1 : Int)) := by omega
    have i0 : (0 : Int) ≤ (done.length : Int) := by omega
    have i1 : done.length < N := by omega
    have hg := rep_get (done := done) (n := N) (m := 0) (by omega)
    have hst := rep_set (done := done) (n := N) (m := 0) (by omega) s
    have hw : IntKind.i64.wrap ((done.length : Int) + 1) = (N : Int) := by rw [wrap_nat (by omega) (by omega)]; omega
    rw [split_none hk]
    have he : (done ++ [s]).map AVal.str ++ List.replicate (N - (done ++ [s]).length) (AVal.str []) = (done ++ [s]).map AVal.str := by
      have : N - (done ++ [s]).length = 0 := by simp; omega
      rw [this]; simp
    rw [he] at hst
    have hl : ((done ++ [s]).map AVal.str).length = N := by simp; omega
    have hl0 : (done.map AVal.str ++ List.replicate (N - done.length) (AVal.str [])).length = N := by simp; omega
    generalize hX : done.map AVal.str ++ List.replicate (N - done.length) (AVal.str []) = X at *
    generalize hY : (done ++ [s]).map AVal.str = Y at *
    have hsl : sliceA [ABlk.row 0 1 Y] 1 (.sl 0 0 0 N) none (some (.int .i64 (N : Int))) none = some (.sl 0 0 0 N, [ABlk.row 0 1 Y], { rd := [0] }) := by
      have := slice_row (σ := [ABlk.row 0 1 Y]) (t := 0) (g := 0) (k := 1) (n := N) (xs := Y) rfl (by omega) (h := (N : Int)) (by omega) (by omega) .i64
      simpa using this
    unfold K_strings_genSplit_l11
    rw [evL_eq]
    simp -implicitDefEqProofs only [EVS0, EVS1, EVS2, EVS3, EVS4, EVS5, EVS6, EVS7, ite_tf, ite_ft, ite_tft, ite_ftf, ite_list, ite_tt, ite_ee, ite_nt, ite_ne, eq_self, implies_true, forall_const, exI, nsite, freeAt, execI, Opd.ev, tget, tins, tput, keepL, sitesOf, List.map_cons, List.map_nil, List.sum_cons, List.sum_nil, List.length_cons, List.length_nil, List.replicate_zero, List.replicate_succ, List.append_nil, List.nil_append, List.cons_append, List.getElem?_cons_zero, List.getElem?_cons_succ, List.set_cons_zero, List.set_cons_succ, Nat.add_zero, Nat.zero_add, Nat.reduceAdd, Nat.reduceSub, Nat.reduceLT, Nat.reduceLeDiff, Nat.reduceEqDiff, Nat.reduceBEq, Nat.reduceMul, beq_self_eq_true, Bool.true_or, Bool.false_or, Bool.or_true, Bool.or_false, Bool.and_true, Bool.true_and, Bool.and_self, Bool.and_false, Bool.false_and, if_true, if_false, ite_true, ite_false, Bool.false_eq_true, Option.map_some, Option.map_none, and_self, and_true, true_and, and_false, false_and, true_or, or_true, false_or, or_false, not_true_eq_false, not_false_eq_true, List.drop_zero, List.drop_succ_cons, List.take_succ_cons, List.take_zero, ldA, stA, partA, faddrA, setAt, List.all_cons, List.all_nil, binA, arithA, shiftA, strA, unA, gSpan, gSkip, unG, ne_eq, Option.some.injEq, reduceCtorEq, decide_true, decide_false, elemsA, resA, resAll, resOne, enterA, decide_eq_true_eq, Bool.not_eq_true, Bool.decide_eq_true, List.isEmpty_nil, Bool.not_false, Bool.not_true, List.length_map, Bool.bne_false, Bool.bne_true, List.isEmpty_cons, List.getD_cons_zero, List.getD_cons_succ, List.getD_nil, ite_self, ↓reduceIte, noRefL, clrA, gcT, gcA, gcIds, reach, rhoOf, heapOf, idxA, genB, newGen, renB, refsB, List.contains_cons, List.contains_nil, List.range_zero, List.range_succ, List.flatMap_cons, List.flatMap_nil, List.zip_cons_cons, List.zip_nil_left, List.zip_nil_right, Nat.not_lt_zero, cb_strings_genSplit, b_strings_genSplit, cr_strings_genSplit, x_strings_genSplit_k0, x_strings_genSplit_l11, intsV, bytesV, propsV, propV, propC, bytesOf_map, h1, i0, i1, hg, hst, hw, hl, hl0, hsl, out_row, Int.toNat_natCast, iaddrA, Nat.zero_add, viewsA, viewA1, putE, freezeA]
  | k + 1, s, done, hk, hNd, hs => by
    obtain ⟨p, t, rfl, ht, hsp, hidx⟩ := split_some hk
    have hlen : (p ++ 47 :: t).length = p.length + t.length + 1 := by simp; omega
    have ih := q_splitl N hN k t (done ++ [p]) ht (by simp; omega) (by omega)
    have h1 : ((done.length : Int) < (N - 1 : Int)) := by omega
    have i0 : (0 : Int) ≤ (done.length : Int) := by omega
    have i1 : done.length < N := by omega
    have hg := rep_get (done := done) (n := N) (m := k + 1) (by omega)
    have hst := rep_set (done := done) (n := N) (m := k + 1) (by omega) p
    have hw : IntKind.i64.wrap ((done.length : Int) + 1) = (((done ++ [p]).length : Nat) : Int) := by rw [wrap_nat (by omega) (by omega)]; simp
    rw [hsp, show done ++ p :: splitL t = (done ++ [p]) ++ splitL t by simp]
    have hi : Lib.indexByte (p ++ 47 :: t) 47 = p.length := hidx
    have n1 : ¬ ((p.length : Int) < 0) := by omega
    have w1 : IntKind.i64.wrap ((p.length : Int) + 0) = p.length := by rw [wrap_nat (by omega) (by omega)]; omega
    have w2 : IntKind.i64.wrap ((p.length : Int) + ((1 : Nat) : Int)) = p.length + 1 := by rw [wrap_nat (by omega) (by omega)]; rfl
    have p0 : (0 : Int) ≤ (p.length : Int) := by omega
    have p1 : (0 : Int) ≤ (p.length : Int) + 1 := by omega
    have e1 : ((p ++ 47 :: t).take p.length) = p := by simp
    have e2 : ((p ++ 47 :: t).drop (p.length + 1)) = t := by rw [List.drop_append]; simp
    have e3 : ((p ++ 47 :: t).take (p ++ 47 :: t).length) = p ++ 47 :: t := List.take_length
    have t1 : ((p.length : Int) + 1).toNat = p.length + 1 := by omega
    have l1 : (p.length : Int) ≤ (((p ++ 47 :: t).length : Nat) : Int) := by omega
    have l2 : (p.length : Int) + 1 ≤ (((p ++ 47 :: t).length : Nat) : Int) := by omega
    have hl0 : (done.map AVal.str ++ List.replicate (N - done.length) (AVal.str [])).length = N := by simp; omega
    generalize hX : done.map AVal.str ++ List.replicate (N - done.length) (AVal.str []) = X at *
    generalize hY : (done ++ [p]).map AVal.str ++ List.replicate (N - (done ++ [p]).length) (AVal.str []) = Y at *
    generalize hS : p ++ 47 :: t = S at *
    generalize hD : (done ++ [p]).length = D at *
    unfold K_strings_genSplit_l11 at ih ⊢
    rw [evL_eq]
    simp -implicitDefEqProofs only [EVS0, EVS1, EVS2, EVS3, EVS4, EVS5, EVS6, EVS7, ite_tf, ite_ft, ite_tft, ite_ftf, ite_list, ite_tt, ite_ee, ite_nt, ite_ne, eq_self, implies_true, forall_const, exI, nsite, freeAt, execI, Opd.ev, tget, tins, tput, keepL, sitesOf, List.map_cons, List.map_nil, List.sum_cons, List.sum_nil, List.length_cons, List.length_nil, List.replicate_zero, List.replicate_succ, List.append_nil, List.nil_append, List.cons_append, List.getElem?_cons_zero, List.getElem?_cons_succ, List.set_cons_zero, List.set_cons_succ, Nat.add_zero, Nat.zero_add, Nat.reduceAdd, Nat.reduceSub, Nat.reduceLT, Nat.reduceLeDiff, Nat.reduceEqDiff, Nat.reduceBEq, Nat.reduceMul, beq_self_eq_true, Bool.true_or, Bool.false_or, Bool.or_true, Bool.or_false, Bool.and_true, Bool.true_and, Bool.and_self, Bool.and_false, Bool.false_and, if_true, if_false, ite_true, ite_false, Bool.false_eq_true, Option.map_some, Option.map_none, and_self, and_true, true_and, and_false, false_and, true_or, or_true, false_or, or_false, not_true_eq_false, not_false_eq_true, List.drop_zero, List.drop_succ_cons, List.take_succ_cons, List.take_zero, ldA, stA, partA, faddrA, setAt, List.all_cons, List.all_nil, binA, arithA, shiftA, strA, unA, gSpan, gSkip, unG, ne_eq, Option.some.injEq, reduceCtorEq, decide_true, decide_false, elemsA, resA, resAll, resOne, enterA, decide_eq_true_eq, Bool.not_eq_true, Bool.decide_eq_true, List.isEmpty_nil, Bool.not_false, Bool.not_true, List.length_map, Bool.bne_false, Bool.bne_true, List.isEmpty_cons, List.getD_cons_zero, List.getD_cons_succ, List.getD_nil, ite_self, ↓reduceIte, noRefL, clrA, gcT, gcA, gcIds, reach, rhoOf, heapOf, idxA, genB, newGen, renB, refsB, List.contains_cons, List.contains_nil, List.range_zero, List.range_succ, List.flatMap_cons, List.flatMap_nil, List.zip_cons_cons, List.zip_nil_left, List.zip_nil_right, Nat.not_lt_zero, cb_strings_genSplit, b_strings_genSplit, cr_strings_genSplit, x_strings_genSplit_k0, x_strings_genSplit_l11, intsV, bytesV, propsV, propV, propC, bytesOf_map, h1, i0, i1, hg, hst, hw, hl0, q_indexC, hi, n1, w1, w2, p0, p1, e1, e2, e3, t1, l1, l2, optB, boundA, Int.toNat_natCast, iaddrA, Nat.zero_add, viewsA, viewA1, putE, freezeA]
    exact ih
theorem q_genSplit (s : List UInt8) (hs : s.length * 16 ≤ 140737488355328 - 16) : E 38 [.str s, .str [47], .int .i64 0, .int .i64 (-1)] [] = some (.sl 0 0 0 (s.count 47 + 1), [.row 0 1 ((splitL s).map AVal.str)]) := by
  have hc := List.count_le_length (a := (47 : UInt8)) (l := s)
  have key := q_splitl (s.count 47 + 1) (by omega) (s.count 47) s [] rfl (by simp) (by omega)
  rw [E_eq (by rfl) cf_strings_genSplit]
  unfold K_strings_genSplit_l11 at key
  have e0 : (((-1 : Int)) == 0) = false := rfl
  have e1 : (([47] : List UInt8) == []) = false := rfl
  have e2 : ((-1 : Int) < 0) = True := by simp
  have w1 : IntKind.i64.wrap (((Lib.countByte s 47 : Nat) : Int) + 1) = ((s.count 47 + 1 : Nat) : Int) := by
    show IntKind.i64.wrap (((s.count 47 : Nat) : Int) + 1) = _
    rw [wrap_nat (by omega) (by omega)]; rfl
  have w2 : IntKind.i64.wrap (((s.length : Nat) : Int) + 1) = ((s.length + 1 : Nat) : Int) := by rw [wrap_nat (by omega) (by omega)]; rfl
  have w3 : IntKind.i64.wrap (((s.count 47 + 1 : Nat) : Int) - 1) = ((s.count 47 + 1 : Nat) : Int) - 1 := by rw [wrap_nat (by omega) (by omega)]
  have n1 : ¬ (((s.count 47 + 1 : Nat) : Int) > ((s.length + 1 : Nat) : Int)) := by omega
  have m1 : (0 : Int) ≤ ((s.count 47 + 1 : Nat) : Int) := by omega
  have m2 : ((s.count 47 + 1 : Nat) : Int) ≤ 9223372036854775807 := by omega
  have m3 : ((16 : Nat) : Int) * ((s.count 47 + 1 : Nat) : Int) ≤ 140737488355328 := by omega
  simp only [List.map_nil, List.nil_append, List.length_nil, Nat.sub_zero] at key
  have z0 : ((0 : Nat) : Int) = 0 := rfl
  rw [z0] at key
  simp -implicitDefEqProofs only [EVS0, EVS1, EVS2, EVS3, EVS4, EVS5, EVS6, EVS7, ite_tf, ite_ft, ite_tft, ite_ftf, ite_list, ite_tt, ite_ee, ite_nt, ite_ne, eq_self, implies_true, forall_const, exI, nsite, freeAt, execI, Opd.ev, tget, tins, tput, keepL, sitesOf, List.map_cons, List.map_nil, List.sum_cons, List.sum_nil, List.length_cons, List.length_nil, List.replicate_zero, List.replicate_succ, List.append_nil, List.nil_append, List.cons_append, List.getElem?_cons_zero, List.getElem?_cons_succ, List.set_cons_zero, List.set_cons_succ, Nat.add_zero, Nat.zero_add, Nat.reduceAdd, Nat.reduceSub, Nat.reduceLT, Nat.reduceLeDiff, Nat.reduceEqDiff, Nat.reduceBEq, Nat.reduceMul, beq_self_eq_true, Bool.true_or, Bool.false_or, Bool.or_true, Bool.or_false, Bool.and_true, Bool.true_and, Bool.and_self, Bool.and_false, Bool.false_and, if_true, if_false, ite_true, ite_false, Bool.false_eq_true, Option.map_some, Option.map_none, and_self, and_true, true_and, and_false, false_and, true_or, or_true, false_or, or_false, not_true_eq_false, not_false_eq_true, List.drop_zero, List.drop_succ_cons, List.take_succ_cons, List.take_zero, ldA, stA, partA, faddrA, setAt, List.all_cons, List.all_nil, binA, arithA, shiftA, strA, unA, gSpan, gSkip, unG, ne_eq, Option.some.injEq, reduceCtorEq, decide_true, decide_false, elemsA, resA, resAll, resOne, enterA, decide_eq_true_eq, Bool.not_eq_true, Bool.decide_eq_true, List.isEmpty_nil, Bool.not_false, Bool.not_true, List.length_map, Bool.bne_false, Bool.bne_true, List.isEmpty_cons, List.getD_cons_zero, List.getD_cons_succ, List.getD_nil, ite_self, ↓reduceIte, noRefL, clrA, gcT, gcA, gcIds, reach, rhoOf, heapOf, idxA, genB, newGen, renB, refsB, List.contains_cons, List.contains_nil, List.range_zero, List.range_succ, List.flatMap_cons, List.flatMap_nil, List.zip_cons_cons, List.zip_nil_left, List.zip_nil_right, Nat.not_lt_zero, cb_strings_genSplit, b_strings_genSplit, cr_strings_genSplit, x_strings_genSplit_k0, x_strings_genSplit_l11, intsV, bytesV, propsV, propV, propC, bytesOf_map, e0, e1, e2, w1, w2, w3, n1, m1, m2, m3, q_countC, Int.toNat_natCast, Int.le_refl]
  rw [List.replicate_succ] at key
  exact key
/-- a call whose answer is a new row, seen as a tree -/
theorem call_rowv {O : Oracle} {byref : Nat → Bool} {f : Nat} {args : List AVal} {k n : Nat} {xs : List AVal} (h : O f args [] = some (.sl 0 0 0 n, [.row 0 k xs])) (hn : xs.length = n) (hb : byref f = false) (hp : args.all plainV = true) (hm : args.map normV = args) (σ : AHeap) (site own : Nat) : callG O byref σ site f own true args = some (.lst false xs, σ, {}) := by
  rw [callG_plain hb hp, hm, h]
  have : askO true 0 (some (.sl 0 0 0 n, [.row 0 k xs])) = some (.lst false xs, []) := by
    unfold askO
    rw [if_pos rfl, resV_row (k := k) (g := 0) (t := 0) (xs := xs) rfl (by omega), List.take_of_length_le (by omega)]
  rw [this, backG_plain _ _ _ _ rfl]
def strsV (l : List (List UInt8)) : AVal := .lst false (l.map AVal.str)
theorem q_split (s : List UInt8) (hs : s.length * 16 ≤ 140737488355328 - 16) : E 29 [.str s, .str [47]] [] = some (strsV (splitL s), []) := by
  have hC := fun σ site own => call_rowv (byref := BY) (q_genSplit s hs) (by rw [List.length_map, split_len]) (by kernel_rfl) rfl rfl σ site own
  rw [E_eq (by rfl) cf_strings_Split]
  simp -implicitDefEqProofs only [EVS0, EVS1, EVS2, EVS3, EVS4, EVS5, EVS6, EVS7, ite_tf, ite_ft, ite_tft, ite_ftf, ite_list, ite_tt, ite_ee, ite_nt, ite_ne, eq_self, implies_true, forall_const, exI, nsite, freeAt, execI, Opd.ev, tget, tins, tput, keepL, sitesOf, List.map_cons, List.map_nil, List.sum_cons, List.sum_nil, List.length_cons, List.length_nil, List.replicate_zero, List.replicate_succ, List.append_nil, List.nil_append, List.cons_append, List.getElem?_cons_zero, List.getElem?_cons_succ, List.set_cons_zero, List.set_cons_succ, Nat.add_zero, Nat.zero_add, Nat.reduceAdd, Nat.reduceSub, Nat.reduceLT, Nat.reduceLeDiff, Nat.reduceEqDiff, Nat.reduceBEq, Nat.reduceMul, beq_self_eq_true, Bool.true_or, Bool.false_or, Bool.or_true, Bool.or_false, Bool.and_true, Bool.true_and, Bool.and_self, Bool.and_false, Bool.false_and, if_true, if_false, ite_true, ite_false, Bool.false_eq_true, Option.map_some, Option.map_none, and_self, and_true, true_and, and_false, false_and, true_or, or_true, false_or, or_false, not_true_eq_false, not_false_eq_true, List.drop_zero, List.drop_succ_cons, List.take_succ_cons, List.take_zero, ldA, stA, partA, faddrA, setAt, List.all_cons, List.all_nil, binA, arithA, shiftA, strA, unA, gSpan, gSkip, unG, ne_eq, Option.some.injEq, reduceCtorEq, decide_true, decide_false, elemsA, resA, resAll, resOne, enterA, decide_eq_true_eq, Bool.not_eq_true, Bool.decide_eq_true, List.isEmpty_nil, Bool.not_false, Bool.not_true, List.length_map, Bool.bne_false, Bool.bne_true, List.isEmpty_cons, List.getD_cons_zero, List.getD_cons_succ, List.getD_nil, ite_self, ↓reduceIte, noRefL, clrA, gcT, gcA, gcIds, reach, rhoOf, heapOf, idxA, genB, newGen, renB, refsB, List.contains_cons, List.contains_nil, List.range_zero, List.range_succ, List.flatMap_cons, List.flatMap_nil, List.zip_cons_cons, List.zip_nil_left, List.zip_nil_right, Nat.not_lt_zero, cb_strings_Split, b_strings_Split, cr_strings_Split, intsV, bytesV, propsV, propV, propC, bytesOf_map, hC, strsV]
theorem q_splitC (σ : AHeap) (site own : Nat) (view : Bool) (s : List UInt8) (hs : s.length * 16 ≤ 140737488355328 - 16) : callG E BY σ site 29 own view [.str s, .str [47]] = some (.lst false ((splitL s).map AVal.str), σ, {}) :=
  call_flat (q_split s hs) (by kernel_rfl) (by simp -implicitDefEqProofs only [EVS0, EVS1, EVS2, EVS3, EVS4, EVS5, EVS6, EVS7, List.all_cons, List.all_nil, List.map_cons, List.map_nil, Bool.and_self, Bool.and_true, Bool.true_and, eq_self, and_self, List.length_map, implies_true, Bool.false_eq_true, if_false, if_true, intsV, bytesV, propsV, propV, propC, strsV]) (by simp -implicitDefEqProofs only [EVS0, EVS1, EVS2, EVS3, EVS4, EVS5, EVS6, EVS7, List.all_cons, List.all_nil, List.map_cons, List.map_nil, Bool.and_self, Bool.and_true, Bool.true_and, eq_self, and_self, List.length_map, implies_true, Bool.false_eq_true, if_false, if_true, intsV, bytesV, propsV, propV, propC, strsV]) rfl (fun _ => rfl) _ _ _ _
theorem q_levels (s : List UInt8) (hs : s.length * 16 ≤ 140737488355328 - 16) : E 15 [.str s] [] = some (strsV (splitL s), []) := by
  have hC := fun σ site own view => q_splitC σ site own view s hs
  rw [E_eq (by rfl) cf_topic_Levels]
  simp -implicitDefEqProofs only [EVS0, EVS1, EVS2, EVS3, EVS4, EVS5, EVS6, EVS7, ite_tf, ite_ft, ite_tft, ite_ftf, ite_list, ite_tt, ite_ee, ite_nt, ite_ne, eq_self, implies_true, forall_const, exI, nsite, freeAt, execI, Opd.ev, tget, tins, tput, keepL, sitesOf, List.map_cons, List.map_nil, List.sum_cons, List.sum_nil, List.length_cons, List.length_nil, List.replicate_zero, List.replicate_succ, List.append_nil, List.nil_append, List.cons_append, List.getElem?_cons_zero, List.getElem?_cons_succ, List.set_cons_zero, List.set_cons_succ, Nat.add_zero, Nat.zero_add, Nat.reduceAdd, Nat.reduceSub, Nat.reduceLT, Nat.reduceLeDiff, Nat.reduceEqDiff, Nat.reduceBEq, Nat.reduceMul, beq_self_eq_true, Bool.true_or, Bool.false_or, Bool.or_true, Bool.or_false, Bool.and_true, Bool.true_and, Bool.and_self, Bool.and_false, Bool.false_and, if_true, if_false, ite_true, ite_false, Bool.false_eq_true, Option.map_some, Option.map_none, and_self, and_true, true_and, and_false, false_and, true_or, or_true, false_or, or_false, not_true_eq_false, not_false_eq_true, List.drop_zero, List.drop_succ_cons, List.take_succ_cons, List.take_zero, ldA, stA, partA, faddrA, setAt, List.all_cons, List.all_nil, binA, arithA, shiftA, strA, unA, gSpan, gSkip, unG, ne_eq, Option.some.injEq, reduceCtorEq, decide_true, decide_false, elemsA, resA, resAll, resOne, enterA, decide_eq_true_eq, Bool.not_eq_true, Bool.decide_eq_true, List.isEmpty_nil, Bool.not_false, Bool.not_true, List.length_map, Bool.bne_false, Bool.bne_true, List.isEmpty_cons, List.getD_cons_zero, List.getD_cons_succ, List.getD_nil, ite_self, ↓reduceIte, noRefL, clrA, gcT, gcA, gcIds, reach, rhoOf, heapOf, idxA, genB, newGen, renB, refsB, List.contains_cons, List.contains_nil, List.range_zero, List.range_succ, List.flatMap_cons, List.flatMap_nil, List.zip_cons_cons, List.zip_nil_left, List.zip_nil_right, Nat.not_lt_zero, cb_topic_Levels, b_topic_Levels, cr_topic_Levels, intsV, bytesV, propsV, propV, propC, bytesOf_map, hC, strsV]
theorem q_levelsC (σ : AHeap) (site own : Nat) (view : Bool) (s : List UInt8) (hs : s.length * 16 ≤ 140737488355328 - 16) : callG E BY σ site 15 own view [.str s] = some (.lst false ((splitL s).map AVal.str), σ, {}) :=
  call_flat (q_levels s hs) (by kernel_rfl) (by simp -implicitDefEqProofs only [EVS0, EVS1, EVS2, EVS3, EVS4, EVS5, EVS6, EVS7, List.all_cons, List.all_nil, List.map_cons, List.map_nil, Bool.and_self, Bool.and_true, Bool.true_and, eq_self, and_self, List.length_map, implies_true, Bool.false_eq_true, if_false, if_true, intsV, bytesV, propsV, propV, propC, strsV]) (by simp -implicitDefEqProofs only [EVS0, EVS1, EVS2, EVS3, EVS4, EVS5, EVS6, EVS7, List.all_cons, List.all_nil, List.map_cons, List.map_nil, Bool.and_self, Bool.and_true, Bool.true_and, eq_self, and_self, List.length_map, implies_true, Bool.false_eq_true, if_false, if_true, intsV, bytesV, propsV, propV, propC, strsV]) rfl (fun _ => rfl) _ _ _ _
section
set_option maxHeartbeats 4000000
set_option maxRecDepth 10000
theorem out_row1 (k n : Nat) (xs : List AVal) (σ : AHeap) : outA 0 (.row 1 k xs :: σ) (.sl 0 1 0 n) = some (.sl 0 0 0 n, [.row 0 k xs]) := by
  rfl
def glue (now : List UInt8) : List (List UInt8) → List (List UInt8)
  | h :: t => (now ++ h) :: t
  | [] => [now]
theorem glue_slash (now r : List UInt8) : glue now (splitL (47 :: r)) = now :: splitL r := by simp [splitL, glue]
theorem glue_other (now r : List UInt8) (b : UInt8) (h : ¬ b = 47) : glue now (splitL (b :: r)) = glue (now ++ [b]) (splitL r) := by
  simp only [splitL]
  rw [if_neg h]
  have := splitL_ne r
  split
  · rename_i e; simp [e, glue]
  · rename_i e; exact absurd e this
theorem glue_nil (l : List (List UInt8)) (h : l ≠ []) : glue [] l = l := by
  cases l with
  | nil => exact absurd rfl h
  | cons a l => rfl
theorem len1 : ((1 : Nat) : Int) = 1 := rfl
theorem q_rlevl (s : List UInt8) (hs : s.length * 16 ≤ 140737488355328 - 64) : ∀ (r : List UInt8) (i : Nat) (now : List UInt8) (done : List (List UInt8)), s.drop i = r → i ≤ s.length → done.length ≤ i → now.length ≤ i →
    (K_tidingsref14_Levels_l4 0 [(5, .int .i64 i), (4, .str now), (3, .lst true []), (0, .str s)] [] = some (.sl 0 0 0 (glue now (splitL r)).length, [.row 0 1 ((glue now (splitL r)).map AVal.str)])) ∧
    (K_tidingsref14_Levels_l4 0 [(5, .int .i64 i), (4, .str now), (3, .sl 0 0 0 done.length), (0, .str s)] [.row 0 1 (done.map AVal.str)] = some (.sl 0 0 0 (done ++ glue now (splitL r)).length, [.row 0 1 ((done ++ glue now (splitL r)).map AVal.str)]))
  | [], i, now, done, h, hi, hd, hn => by
    have h1 := drop_nil h
    have g1 : glue now (splitL []) = [now] := by simp [splitL, glue]
    have b2 : (done.length + 1) * 16 ≤ 140737488355328 := by omega
    have hlen : (done.map AVal.str).length = done.length := List.length_map ..
    have hm : (done ++ [now]).map AVal.str = done.map AVal.str ++ [.str now] := by simp
    have hl2 : (done ++ [now]).length = done.length + 1 := by simp
    rw [g1, hm, hl2]
    generalize done.map AVal.str = X at *
    constructor
    · unfold K_tidingsref14_Levels_l4
      rw [evL_eq]
      simp -implicitDefEqProofs only [EVS0, EVS1, EVS2, EVS3, EVS4, EVS5, EVS6, EVS7, ite_tf, ite_ft, ite_tft, ite_ftf, ite_list, ite_tt, ite_ee, ite_nt, ite_ne, eq_self, implies_true, forall_const, exI, nsite, freeAt, execI, Opd.ev, tget, tins, tput, keepL, sitesOf, List.map_cons, List.map_nil, List.sum_cons, List.sum_nil, List.length_cons, List.length_nil, List.replicate_zero, List.replicate_succ, List.append_nil, List.nil_append, List.cons_append, List.getElem?_cons_zero, List.getElem?_cons_succ, List.set_cons_zero, List.set_cons_succ, Nat.add_zero, Nat.zero_add, Nat.reduceAdd, Nat.reduceSub, Nat.reduceLT, Nat.reduceLeDiff, Nat.reduceEqDiff, Nat.reduceBEq, Nat.reduceMul, beq_self_eq_true, Bool.true_or, Bool.false_or, Bool.or_true, Bool.or_false, Bool.and_true, Bool.true_and, Bool.and_self, Bool.and_false, Bool.false_and, if_true, if_false, ite_true, ite_false, Bool.false_eq_true, Option.map_some, Option.map_none, and_self, and_true, true_and, and_false, false_and, true_or, or_true, false_or, or_false, not_true_eq_false, not_false_eq_true, List.drop_zero, List.drop_succ_cons, List.take_succ_cons, List.take_zero, ldA, stA, partA, faddrA, setAt, List.all_cons, List.all_nil, binA, arithA, shiftA, strA, unA, gSpan, gSkip, unG, ne_eq, Option.some.injEq, reduceCtorEq, decide_true, decide_false, elemsA, resA, resAll, resOne, enterA, decide_eq_true_eq, Bool.not_eq_true, Bool.decide_eq_true, List.isEmpty_nil, Bool.not_false, Bool.not_true, List.length_map, Bool.bne_false, Bool.bne_true, List.isEmpty_cons, List.getD_cons_zero, List.getD_cons_succ, List.getD_nil, ite_self, ↓reduceIte, noRefL, clrA, gcT, gcA, gcIds, reach, rhoOf, heapOf, idxA, genB, newGen, renB, refsB, List.contains_cons, List.contains_nil, List.range_zero, List.range_succ, List.flatMap_cons, List.flatMap_nil, List.zip_cons_cons, List.zip_nil_left, List.zip_nil_right, Nat.not_lt_zero, cb_tidingsref14_Levels, b_tidingsref14_Levels, cr_tidingsref14_Levels, x_tidingsref14_Levels_k0, x_tidingsref14_Levels_l4, intsV, bytesV, propsV, propV, propC, bytesOf_map, h1, appA, kOk, viewAs, viewA, viewA1, viewsA, freezeA, List.foldl_cons, List.foldl_nil, List.length_singleton, Nat.one_mul, iaddrA, putE, out_row]
    · unfold K_tidingsref14_Levels_l4
      rw [evL_eq]
      simp -implicitDefEqProofs only [EVS0, EVS1, EVS2, EVS3, EVS4, EVS5, EVS6, EVS7, ite_tf, ite_ft, ite_tft, ite_ftf, ite_list, ite_tt, ite_ee, ite_nt, ite_ne, eq_self, implies_true, forall_const, exI, nsite, freeAt, execI, Opd.ev, tget, tins, tput, keepL, sitesOf, List.map_cons, List.map_nil, List.sum_cons, List.sum_nil, List.length_cons, List.length_nil, List.replicate_zero, List.replicate_succ, List.append_nil, List.nil_append, List.cons_append, List.getElem?_cons_zero, List.getElem?_cons_succ, List.set_cons_zero, List.set_cons_succ, Nat.add_zero, Nat.zero_add, Nat.reduceAdd, Nat.reduceSub, Nat.reduceLT, Nat.reduceLeDiff, Nat.reduceEqDiff, Nat.reduceBEq, Nat.reduceMul, beq_self_eq_true, Bool.true_or, Bool.false_or, Bool.or_true, Bool.or_false, Bool.and_true, Bool.true_and, Bool.and_self, Bool.and_false, Bool.false_and, if_true, if_false, ite_true, ite_false, Bool.false_eq_true, Option.map_some, Option.map_none, and_self, and_true, true_and, and_false, false_and, true_or, or_true, false_or, or_false, not_true_eq_false, not_false_eq_true, List.drop_zero, List.drop_succ_cons, List.take_succ_cons, List.take_zero, ldA, stA, partA, faddrA, setAt, List.all_cons, List.all_nil, binA, arithA, shiftA, strA, unA, gSpan, gSkip, unG, ne_eq, Option.some.injEq, reduceCtorEq, decide_true, decide_false, elemsA, resA, resAll, resOne, enterA, decide_eq_true_eq, Bool.not_eq_true, Bool.decide_eq_true, List.isEmpty_nil, Bool.not_false, Bool.not_true, List.length_map, Bool.bne_false, Bool.bne_true, List.isEmpty_cons, List.getD_cons_zero, List.getD_cons_succ, List.getD_nil, ite_self, ↓reduceIte, noRefL, clrA, gcT, gcA, gcIds, reach, rhoOf, heapOf, idxA, genB, newGen, renB, refsB, List.contains_cons, List.contains_nil, List.range_zero, List.range_succ, List.flatMap_cons, List.flatMap_nil, List.zip_cons_cons, List.zip_nil_left, List.zip_nil_right, Nat.not_lt_zero, cb_tidingsref14_Levels, b_tidingsref14_Levels, cr_tidingsref14_Levels, x_tidingsref14_Levels_k0, x_tidingsref14_Levels_l4, intsV, bytesV, propsV, propV, propC, bytesOf_map, h1, appA, kOk, viewAs, viewA, viewA1, viewsA, freezeA, List.foldl_cons, List.foldl_nil, List.length_singleton, Nat.one_mul, iaddrA, putE, out_row1, b2, hlen]
  | b :: r, i, now, done, h, hi, hd, hn => by
    have hlt := (drop_at h).2.2
    have h1 : (i : Int) < s.length := by omega
    have h2 := (drop_at h).1
    have h3 := wrap_succ (i := i) (n := s.length) h1 (by omega)
    have i0 : (0 : Int) ≤ (i : Int) := by omega
    have b2 : (done.length + 1) * 16 ≤ 140737488355328 := by omega
    have hlen : (done.map AVal.str).length = done.length := List.length_map ..
    have hm : (done ++ [now]).map AVal.str = done.map AVal.str ++ [.str now] := by simp
    by_cases hb : b = 47
    · subst hb
      have hbi : (((47 : UInt8).toNat : Int) == 47) = true := rfl
      obtain ⟨ih1, ih2⟩ := q_rlevl s hs r (i + 1) [] (done ++ [now]) (drop_at h).2.1 (by omega) (by simp; omega) (by simp)
      have ih1' := (q_rlevl s hs r (i + 1) [] [now] (drop_at h).2.1 (by omega) (by simp) (by simp)).2
      have hl2 : (done ++ [now]).length = done.length + 1 := by simp
      have gn := glue_nil (splitL r) (splitL_ne r)
      rw [gn] at ih2 ih1'
      rw [glue_slash]
      simp only [List.map_cons, List.map_nil, List.length_cons, List.length_nil, Nat.zero_add, List.cons_append, List.nil_append] at ih1'
      rw [hm, hl2, show (done ++ [now] ++ splitL r) = done ++ now :: splitL r by simp] at ih2
      generalize done.map AVal.str = X at *
      unfold K_tidingsref14_Levels_l4 at ih1' ih2 ⊢
      constructor
      · rw [evL_eq]
        simp -implicitDefEqProofs only [EVS0, EVS1, EVS2, EVS3, EVS4, EVS5, EVS6, EVS7, ite_tf, ite_ft, ite_tft, ite_ftf, ite_list, ite_tt, ite_ee, ite_nt, ite_ne, eq_self, implies_true, forall_const, exI, nsite, freeAt, execI, Opd.ev, tget, tins, tput, keepL, sitesOf, List.map_cons, List.map_nil, List.sum_cons, List.sum_nil, List.length_cons, List.length_nil, List.replicate_zero, List.replicate_succ, List.append_nil, List.nil_append, List.cons_append, List.getElem?_cons_zero, List.getElem?_cons_succ, List.set_cons_zero, List.set_cons_succ, Nat.add_zero, Nat.zero_add, Nat.reduceAdd, Nat.reduceSub, Nat.reduceLT, Nat.reduceLeDiff, Nat.reduceEqDiff, Nat.reduceBEq, Nat.reduceMul, beq_self_eq_true, Bool.true_or, Bool.false_or, Bool.or_true, Bool.or_false, Bool.and_true, Bool.true_and, Bool.and_self, Bool.and_false, Bool.false_and, if_true, if_false, ite_true, ite_false, Bool.false_eq_true, Option.map_some, Option.map_none, and_self, and_true, true_and, and_false, false_and, true_or, or_true, false_or, or_false, not_true_eq_false, not_false_eq_true, List.drop_zero, List.drop_succ_cons, List.take_succ_cons, List.take_zero, ldA, stA, partA, faddrA, setAt, List.all_cons, List.all_nil, binA, arithA, shiftA, strA, unA, gSpan, gSkip, unG, ne_eq, Option.some.injEq, reduceCtorEq, decide_true, decide_false, elemsA, resA, resAll, resOne, enterA, decide_eq_true_eq, Bool.not_eq_true, Bool.decide_eq_true, List.isEmpty_nil, Bool.not_false, Bool.not_true, List.length_map, Bool.bne_false, Bool.bne_true, List.isEmpty_cons, List.getD_cons_zero, List.getD_cons_succ, List.getD_nil, ite_self, ↓reduceIte, noRefL, clrA, gcT, gcA, gcIds, reach, rhoOf, heapOf, idxA, genB, newGen, renB, refsB, List.contains_cons, List.contains_nil, List.range_zero, List.range_succ, List.flatMap_cons, List.flatMap_nil, List.zip_cons_cons, List.zip_nil_left, List.zip_nil_right, Nat.not_lt_zero, cb_tidingsref14_Levels, b_tidingsref14_Levels, cr_tidingsref14_Levels, x_tidingsref14_Levels_k0, x_tidingsref14_Levels_l4, intsV, bytesV, propsV, propV, propC, bytesOf_map, h1, h2, h3, i0, hbi, byteV, appA, kOk, viewAs, viewA, viewA1, viewsA, freezeA, List.foldl_cons, List.foldl_nil, List.length_singleton, Nat.one_mul, iaddrA, putE, Int.toNat_natCast]
        exact ih1'
      · rw [evL_eq]
        simp -implicitDefEqProofs only [EVS0, EVS1, EVS2, EVS3, EVS4, EVS5, EVS6, EVS7, ite_tf, ite_ft, ite_tft, ite_ftf, ite_list, ite_tt, ite_ee, ite_nt, ite_ne, eq_self, implies_true, forall_const, exI, nsite, freeAt, execI, Opd.ev, tget, tins, tput, keepL, sitesOf, List.map_cons, List.map_nil, List.sum_cons, List.sum_nil, List.length_cons, List.length_nil, List.replicate_zero, List.replicate_succ, List.append_nil, List.nil_append, List.cons_append, List.getElem?_cons_zero, List.getElem?_cons_succ, List.set_cons_zero, List.set_cons_succ, Nat.add_zero, Nat.zero_add, Nat.reduceAdd, Nat.reduceSub, Nat.reduceLT, Nat.reduceLeDiff, Nat.reduceEqDiff, Nat.reduceBEq, Nat.reduceMul, beq_self_eq_true, Bool.true_or, Bool.false_or, Bool.or_true, Bool.or_false, Bool.and_true, Bool.true_and, Bool.and_self, Bool.and_false, Bool.false_and, if_true, if_false, ite_true, ite_false, Bool.false_eq_true, Option.map_some, Option.map_none, and_self, and_true, true_and, and_false, false_and, true_or, or_true, false_or, or_false, not_true_eq_false, not_false_eq_true, List.drop_zero, List.drop_succ_cons, List.take_succ_cons, List.take_zero, ldA, stA, partA, faddrA, setAt, List.all_cons, List.all_nil, binA, arithA, shiftA, strA, unA, gSpan, gSkip, unG, ne_eq, Option.some.injEq, reduceCtorEq, decide_true, decide_false, elemsA, resA, resAll, resOne, enterA, decide_eq_true_eq, Bool.not_eq_true, Bool.decide_eq_true, List.isEmpty_nil, Bool.not_false, Bool.not_true, List.length_map, Bool.bne_false, Bool.bne_true, List.isEmpty_cons, List.getD_cons_zero, List.getD_cons_succ, List.getD_nil, ite_self, ↓reduceIte, noRefL, clrA, gcT, gcA, gcIds, reach, rhoOf, heapOf, idxA, genB, newGen, renB, refsB, List.contains_cons, List.contains_nil, List.range_zero, List.range_succ, List.flatMap_cons, List.flatMap_nil, List.zip_cons_cons, List.zip_nil_left, List.zip_nil_right, Nat.not_lt_zero, cb_tidingsref14_Levels, b_tidingsref14_Levels, cr_tidingsref14_Levels, x_tidingsref14_Levels_k0, x_tidingsref14_Levels_l4, intsV, bytesV, propsV, propV, propC, bytesOf_map, h1, h2, h3, i0, hbi, byteV, appA, kOk, viewAs, viewA, viewA1, viewsA, freezeA, List.foldl_cons, List.foldl_nil, List.length_singleton, Nat.one_mul, iaddrA, putE, Int.toNat_natCast, b2, hlen]
        exact ih2
    · have hbi : ((b.toNat : Int) == 47) = false := by
        rw [beq_eq_false_iff_ne]
        intro e
        apply hb
        rw [← UInt8.toNat_inj]
        have : (47 : UInt8).toNat = 47 := rfl
        omega
      obtain ⟨ih1, ih2⟩ := q_rlevl s hs r (i + 1) (now ++ [b]) done (drop_at h).2.1 (by omega) (by omega) (by simp; omega)
      rw [← glue_other now r b hb] at ih1 ih2
      have hsl : ((s.take (i + 1)).drop i) = [b] := by
        rw [List.drop_take, show i + 1 - i = 1 by omega, List.drop_eq_getElem_cons hlt]
        have : s[i] = b := by rw [List.getElem?_eq_getElem hlt] at h2; injection h2
        rw [this]; rfl
      have hc : now.length + 1 ≤ 9223372036854775807 := by omega
      have k0 : (0 : Int) ≤ ((i + 1 : Nat) : Int) := by omega
      have k1 : ((i + 1 : Nat) : Int) ≤ ((s.length : Nat) : Int) := by omega
      have k2 : (i : Int) ≤ ((i + 1 : Nat) : Int) := by omega
      unfold K_tidingsref14_Levels_l4 at ih1 ih2 ⊢
      constructor
      · rw [evL_eq]
        simp -implicitDefEqProofs only [EVS0, EVS1, EVS2, EVS3, EVS4, EVS5, EVS6, EVS7, ite_tf, ite_ft, ite_tft, ite_ftf, ite_list, ite_tt, ite_ee, ite_nt, ite_ne, eq_self, implies_true, forall_const, exI, nsite, freeAt, execI, Opd.ev, tget, tins, tput, keepL, sitesOf, List.map_cons, List.map_nil, List.sum_cons, List.sum_nil, List.length_cons, List.length_nil, List.replicate_zero, List.replicate_succ, List.append_nil, List.nil_append, List.cons_append, List.getElem?_cons_zero, List.getElem?_cons_succ, List.set_cons_zero, List.set_cons_succ, Nat.add_zero, Nat.zero_add, Nat.reduceAdd, Nat.reduceSub, Nat.reduceLT, Nat.reduceLeDiff, Nat.reduceEqDiff, Nat.reduceBEq, Nat.reduceMul, beq_self_eq_true, Bool.true_or, Bool.false_or, Bool.or_true, Bool.or_false, Bool.and_true, Bool.true_and, Bool.and_self, Bool.and_false, Bool.false_and, if_true, if_false, ite_true, ite_false, Bool.false_eq_true, Option.map_some, Option.map_none, and_self, and_true, true_and, and_false, false_and, true_or, or_true, false_or, or_false, not_true_eq_false, not_false_eq_true, List.drop_zero, List.drop_succ_cons, List.take_succ_cons, List.take_zero, ldA, stA, partA, faddrA, setAt, List.all_cons, List.all_nil, binA, arithA, shiftA, strA, unA, gSpan, gSkip, unG, ne_eq, Option.some.injEq, reduceCtorEq, decide_true, decide_false, elemsA, resA, resAll, resOne, enterA, decide_eq_true_eq, Bool.not_eq_true, Bool.decide_eq_true, List.isEmpty_nil, Bool.not_false, Bool.not_true, List.length_map, Bool.bne_false, Bool.bne_true, List.isEmpty_cons, List.getD_cons_zero, List.getD_cons_succ, List.getD_nil, ite_self, ↓reduceIte, noRefL, clrA, gcT, gcA, gcIds, reach, rhoOf, heapOf, idxA, genB, newGen, renB, refsB, List.contains_cons, List.contains_nil, List.range_zero, List.range_succ, List.flatMap_cons, List.flatMap_nil, List.zip_cons_cons, List.zip_nil_left, List.zip_nil_right, Nat.not_lt_zero, cb_tidingsref14_Levels, b_tidingsref14_Levels, cr_tidingsref14_Levels, x_tidingsref14_Levels_k0, x_tidingsref14_Levels_l4, intsV, bytesV, propsV, propV, propC, bytesOf_map, h1, h2, h3, i0, hbi, byteV, hsl, hc, k0, k1, k2, optB, boundA, Int.toNat_natCast]
        exact ih1
      · rw [evL_eq]
        simp -implicitDefEqProofs only [EVS0, EVS1, EVS2, EVS3, EVS4, EVS5, EVS6, EVS7, ite_tf, ite_ft, ite_tft, ite_ftf, ite_list, ite_tt, ite_ee, ite_nt, ite_ne, eq_self, implies_true, forall_const, exI, nsite, freeAt, execI, Opd.ev, tget, tins, tput, keepL, sitesOf, List.map_cons, List.map_nil, List.sum_cons, List.sum_nil, List.length_cons, List.length_nil, List.replicate_zero, List.replicate_succ, List.append_nil, List.nil_append, List.cons_append, List.getElem?_cons_zero, List.getElem?_cons_succ, List.set_cons_zero, List.set_cons_succ, Nat.add_zero, Nat.zero_add, Nat.reduceAdd, Nat.reduceSub, Nat.reduceLT, Nat.reduceLeDiff, Nat.reduceEqDiff, Nat.reduceBEq, Nat.reduceMul, beq_self_eq_true, Bool.true_or, Bool.false_or, Bool.or_true, Bool.or_false, Bool.and_true, Bool.true_and, Bool.and_self, Bool.and_false, Bool.false_and, if_true, if_false, ite_true, ite_false, Bool.false_eq_true, Option.map_some, Option.map_none, and_self, and_true, true_and, and_false, false_and, true_or, or_true, false_or, or_false, not_true_eq_false, not_false_eq_true, List.drop_zero, List.drop_succ_cons, List.take_succ_cons, List.take_zero, ldA, stA, partA, faddrA, setAt, List.all_cons, List.all_nil, binA, arithA, shiftA, strA, unA, gSpan, gSkip, unG, ne_eq, Option.some.injEq, reduceCtorEq, decide_true, decide_false, elemsA, resA, resAll, resOne, enterA, decide_eq_true_eq, Bool.not_eq_true, Bool.decide_eq_true, List.isEmpty_nil, Bool.not_false, Bool.not_true, List.length_map, Bool.bne_false, Bool.bne_true, List.isEmpty_cons, List.getD_cons_zero, List.getD_cons_succ, List.getD_nil, ite_self, ↓reduceIte, noRefL, clrA, gcT, gcA, gcIds, reach, rhoOf, heapOf, idxA, genB, newGen, renB, refsB, List.contains_cons, List.contains_nil, List.range_zero, List.range_succ, List.flatMap_cons, List.flatMap_nil, List.zip_cons_cons, List.zip_nil_left, List.zip_nil_right, Nat.not_lt_zero, cb_tidingsref14_Levels, b_tidingsref14_Levels, cr_tidingsref14_Levels, x_tidingsref14_Levels_k0, x_tidingsref14_Levels_l4, intsV, bytesV, propsV, propV, propC, bytesOf_map, h1, h2, h3, i0, hbi, byteV, hsl, hc, k0, k1, k2, optB, boundA, Int.toNat_natCast]
        exact ih2
theorem q_rlevels (s : List UInt8) (hs : s.length * 16 ≤ 140737488355328 - 64) : E 22 [.str s] [] = some (.sl 0 0 0 (splitL s).length, [.row 0 1 ((splitL s).map AVal.str)]) := by
  have key := (q_rlevl s hs s 0 [] [] rfl (by omega) (by simp) (by simp)).1
  rw [glue_nil _ (splitL_ne s)] at key
  rw [E_eq (by rfl) cf_tidingsref14_Levels]
  unfold K_tidingsref14_Levels_l4 at key
  have z0 : ((0 : Nat) : Int) = 0 := rfl
  rw [z0] at key
  simp -implicitDefEqProofs only [EVS0, EVS1, EVS2, EVS3, EVS4, EVS5, EVS6, EVS7, ite_tf, ite_ft, ite_tft, ite_ftf, ite_list, ite_tt, ite_ee, ite_nt, ite_ne, eq_self, implies_true, forall_const, exI, nsite, freeAt, execI, Opd.ev, tget, tins, tput, keepL, sitesOf, List.map_cons, List.map_nil, List.sum_cons, List.sum_nil, List.length_cons, List.length_nil, List.replicate_zero, List.replicate_succ, List.append_nil, List.nil_append, List.cons_append, List.getElem?_cons_zero, List.getElem?_cons_succ, List.set_cons_zero, List.set_cons_succ, Nat.add_zero, Nat.zero_add, Nat.reduceAdd, Nat.reduceSub, Nat.reduceLT, Nat.reduceLeDiff, Nat.reduceEqDiff, Nat.reduceBEq, Nat.reduceMul, beq_self_eq_true, Bool.true_or, Bool.false_or, Bool.or_true, Bool.or_false, Bool.and_true, Bool.true_and, Bool.and_self, Bool.and_false, Bool.false_and, if_true, if_false, ite_true, ite_false, Bool.false_eq_true, Option.map_some, Option.map_none, and_self, and_true, true_and, and_false, false_and, true_or, or_true, false_or, or_false, not_true_eq_false, not_false_eq_true, List.drop_zero, List.drop_succ_cons, List.take_succ_cons, List.take_zero, ldA, stA, partA, faddrA, setAt, List.all_cons, List.all_nil, binA, arithA, shiftA, strA, unA, gSpan, gSkip, unG, ne_eq, Option.some.injEq, reduceCtorEq, decide_true, decide_false, elemsA, resA, resAll, resOne, enterA, decide_eq_true_eq, Bool.not_eq_true, Bool.decide_eq_true, List.isEmpty_nil, Bool.not_false, Bool.not_true, List.length_map, Bool.bne_false, Bool.bne_true, List.isEmpty_cons, List.getD_cons_zero, List.getD_cons_succ, List.getD_nil, ite_self, ↓reduceIte, noRefL, clrA, gcT, gcA, gcIds, reach, rhoOf, heapOf, idxA, genB, newGen, renB, refsB, List.contains_cons, List.contains_nil, List.range_zero, List.range_succ, List.flatMap_cons, List.flatMap_nil, List.zip_cons_cons, List.zip_nil_left, List.zip_nil_right, Nat.not_lt_zero, cb_tidingsref14_Levels, b_tidingsref14_Levels, cr_tidingsref14_Levels, x_tidingsref14_Levels_k0, x_tidingsref14_Levels_l4, intsV, bytesV, propsV, propV, propC, bytesOf_map, intsV]
  exact key
theorem q_rlevelsC (σ : AHeap) (site own : Nat) (s : List UInt8) (hs : s.length * 16 ≤ 140737488355328 - 64) : callG E BY σ site 22 own true [.str s] = some (.lst false ((splitL s).map AVal.str), σ, {}) :=
  call_rowv (q_rlevels s hs) (List.length_map ..) (by kernel_rfl) rfl rfl σ site own
end
set_option maxRecDepth 1000000 in
theorem q_wakes14 : E 13 [] [] = some (.bool true, []) := EV_some.2 ⟨60, by kernel_rfl⟩
end Go.Proofs.YtochhdiilicpgaaDoor
