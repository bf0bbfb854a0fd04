/- strings.ContainsAny of "+#". -/
import Derived.Test.YtochhdiilicpgaaDoorCStrAny
import Derived.Test.YtochhdiilicpgaaDoorTText
namespace Go.Proofs.YtochhdiilicpgaaDoor
set_option linter.unusedSimpArgs false
set_option linter.unusedVariables false
set_option maxHeartbeats 4000000
set_option maxRecDepth 10000
def isPH (b : UInt8) : Bool := b == 43 || b == 35
def plusHash (l : List UInt8) : Bool := l.any isPH
def setL : List AVal := (List.range 256).map fun n => .bool (n == 43 || n == 35)
theorem setL_len : setL.length = 256 := by simp [setL]
theorem setL_noRef : noRefL setL = true := by kernel_rfl
theorem setL_take : (setL.drop 0).take 256 = setL := by kernel_rfl
theorem setL_take' : setL.take 256 = setL := by kernel_rfl
theorem setL_at (b : UInt8) : setL[b.toNat]? = some (.bool (isPH b)) := by
  have hb := b.toNat_lt
  have : isPH b = (b.toNat == 43 || b.toNat == 35) := by
    unfold isPH
    rw [Bool.eq_iff_iff]
    simp [← UInt8.toNat_inj]
  rw [this]
  simp [setL, hb]
theorem setL_refs : refsL setL = [] := (noRefL_spec (fun _ _ => none) setL setL_noRef).2
theorem setL_ren (ρ : Rho) : renL ρ setL = setL := (noRefL_spec ρ setL setL_noRef).1
theorem q_mkset : E 46 [.str [43, 35]] [] = some (.tup [.agg setL, .bool true], []) := EV_some.2 ⟨8, by kernel_rfl⟩
theorem q_mksetC (σ : AHeap) (site own : Nat) (view : Bool) : callG E BY σ site 46 own view [.str [43, 35]] = some (.tup [.agg setL, .bool true], σ, {}) :=
  call_flat q_mkset (by kernel_rfl) rfl rfl (by kernel_rfl) (fun _ => by kernel_rfl) _ _ _ _
theorem q_has (b : UInt8) : E 47 [.ref 0 0, byteV b] [.var setL] = some (.bool (isPH b), [.var setL]) := by
  rw [E_eq (by rfl) cf_strings_asciiSet_contains]
  have h1 : (0 : Int) ≤ (b.toNat : Int) := by omega
  have h2 : (b.toNat : Int) < ((256 : Nat) : Int) := by have := byte_lt b; omega
  simp -implicitDefEqProofs only [EVS0, EVS1, EVS2, EVS3, EVS4, EVS5, EVS6, EVS7, ite_tf, ite_ft, ite_tft, ite_ftf, ite_list, ite_tt, ite_ee, ite_nt, ite_ne, eq_self, implies_true, forall_const, exI, nsite, freeAt, execI, Opd.ev, tget, tins, tput, keepL, sitesOf, List.map_cons, List.map_nil, List.sum_cons, List.sum_nil, List.length_cons, List.length_nil, List.replicate_zero, List.replicate_succ, List.append_nil, List.nil_append, List.cons_append, List.getElem?_cons_zero, List.getElem?_cons_succ, List.set_cons_zero, List.set_cons_succ, Nat.add_zero, Nat.zero_add, Nat.reduceAdd, Nat.reduceSub, Nat.reduceLT, Nat.reduceLeDiff, Nat.reduceEqDiff, Nat.reduceBEq, Nat.reduceMul, beq_self_eq_true, Bool.true_or, Bool.false_or, Bool.or_true, Bool.or_false, Bool.and_true, Bool.true_and, Bool.and_self, Bool.and_false, Bool.false_and, if_true, if_false, ite_true, ite_false, Bool.false_eq_true, Option.map_some, Option.map_none, and_self, and_true, true_and, and_false, false_and, true_or, or_true, false_or, or_false, not_true_eq_false, not_false_eq_true, List.drop_zero, List.drop_succ_cons, List.take_succ_cons, List.take_zero, ldA, stA, partA, faddrA, setAt, List.all_cons, List.all_nil, binA, arithA, shiftA, strA, unA, gSpan, gSkip, unG, ne_eq, Option.some.injEq, reduceCtorEq, decide_true, decide_false, elemsA, resA, resAll, resOne, enterA, decide_eq_true_eq, Bool.not_eq_true, Bool.decide_eq_true, List.isEmpty_nil, Bool.not_false, Bool.not_true, List.length_map, Bool.bne_false, Bool.bne_true, List.isEmpty_cons, List.getD_cons_zero, List.getD_cons_succ, List.getD_nil, ite_self, ↓reduceIte, noRefL, clrA, gcT, gcA, gcIds, reach, rhoOf, heapOf, idxA, genB, newGen, renB, refsB, List.contains_cons, List.contains_nil, List.range_zero, List.range_succ, List.flatMap_cons, List.flatMap_nil, List.zip_cons_cons, List.zip_nil_left, List.zip_nil_right, Nat.not_lt_zero, cb_strings_asciiSet_contains, b_strings_asciiSet_contains, cr_strings_asciiSet_contains, intsV, bytesV, propsV, propV, propC, bytesOf_map, byteV, h1, h2, Int.toNat_natCast, Nat.mul_one, setL_at, setL_noRef]
theorem q_hasC (σ : AHeap) (site t : Nat) (view : Bool) (b : UInt8) (hs : σ[t]? = some (.var setL)) : callG E BY σ site 47 0 view [.ref t 0, .int .u8 b.toNat] = some (.bool (isPH b), σ.set t (.var setL), { any := true }) :=
  call_ref hs setL_noRef setL_noRef (by kernel_rfl) rfl rfl rfl rfl (q_has b)
theorem q_anyl (s : List UInt8) (hl : s.length ≤ 9223372036854775807) : ∀ (r : List UInt8) (i : Nat), s.drop i = r → ∃ z, K_strings_IndexAny_l12 0 [(8, .int .i64 i), (6, .ref 0 0), (0, .str s)] [.var setL] = some (.int .i64 z, []) ∧ decide (z ≥ 0) = plusHash r
  | [], i, h => by
    have h1 := drop_nil h
    refine ⟨-1, ?_, by simp [plusHash]⟩
    unfold K_strings_IndexAny_l12
    rw [evL_eq]
    simp -implicitDefEqProofs only [EVS0, EVS1, EVS2, EVS3, EVS4, EVS5, EVS6, EVS7, ite_tf, ite_ft, ite_tft, ite_ftf, ite_list, ite_tt, ite_ee, ite_nt, ite_ne, eq_self, implies_true, forall_const, exI, nsite, freeAt, execI, Opd.ev, tget, tins, tput, keepL, sitesOf, List.map_cons, List.map_nil, List.sum_cons, List.sum_nil, List.length_cons, List.length_nil, List.replicate_zero, List.replicate_succ, List.append_nil, List.nil_append, List.cons_append, List.getElem?_cons_zero, List.getElem?_cons_succ, List.set_cons_zero, List.set_cons_succ, Nat.add_zero, Nat.zero_add, Nat.reduceAdd, Nat.reduceSub, Nat.reduceLT, Nat.reduceLeDiff, Nat.reduceEqDiff, Nat.reduceBEq, Nat.reduceMul, beq_self_eq_true, Bool.true_or, Bool.false_or, Bool.or_true, Bool.or_false, Bool.and_true, Bool.true_and, Bool.and_self, Bool.and_false, Bool.false_and, if_true, if_false, ite_true, ite_false, Bool.false_eq_true, Option.map_some, Option.map_none, and_self, and_true, true_and, and_false, false_and, true_or, or_true, false_or, or_false, not_true_eq_false, not_false_eq_true, List.drop_zero, List.drop_succ_cons, List.take_succ_cons, List.take_zero, ldA, stA, partA, faddrA, setAt, List.all_cons, List.all_nil, binA, arithA, shiftA, strA, unA, gSpan, gSkip, unG, ne_eq, Option.some.injEq, reduceCtorEq, decide_true, decide_false, elemsA, resA, resAll, resOne, enterA, decide_eq_true_eq, Bool.not_eq_true, Bool.decide_eq_true, List.isEmpty_nil, Bool.not_false, Bool.not_true, List.length_map, Bool.bne_false, Bool.bne_true, List.isEmpty_cons, List.getD_cons_zero, List.getD_cons_succ, List.getD_nil, ite_self, ↓reduceIte, noRefL, clrA, gcT, gcA, gcIds, reach, rhoOf, heapOf, idxA, genB, newGen, renB, refsB, List.contains_cons, List.contains_nil, List.range_zero, List.range_succ, List.flatMap_cons, List.flatMap_nil, List.zip_cons_cons, List.zip_nil_left, List.zip_nil_right, Nat.not_lt_zero, cb_strings_IndexAny, b_strings_IndexAny, cr_strings_IndexAny, x_strings_IndexAny_k0, x_strings_IndexAny_l18, x_strings_IndexAny_k1, x_strings_IndexAny_k2, x_strings_IndexAny_l12, intsV, bytesV, propsV, propV, propC, bytesOf_map, h1]
  | b :: r, i, h => by
    obtain ⟨z, ih, hz⟩ := q_anyl s hl r (i + 1) (drop_at h).2.1
    have h1 : (i : Int) < s.length := by have := (drop_at h).2.2; omega
    have h2 := (drop_at h).1
    have h3 := wrap_succ h1 hl
    have i0 : (0 : Int) ≤ (i : Int) := by omega
    unfold K_strings_IndexAny_l12 at ih ⊢
    cases hb : isPH b
    · refine ⟨z, ?_, by rw [hz]; simp [plusHash, hb]⟩
      rw [evL_eq]
      simp -implicitDefEqProofs only [EVS0, EVS1, EVS2, EVS3, EVS4, EVS5, EVS6, EVS7, ite_tf, ite_ft, ite_tft, ite_ftf, ite_list, ite_tt, ite_ee, ite_nt, ite_ne, eq_self, implies_true, forall_const, exI, nsite, freeAt, execI, Opd.ev, tget, tins, tput, keepL, sitesOf, List.map_cons, List.map_nil, List.sum_cons, List.sum_nil, List.length_cons, List.length_nil, List.replicate_zero, List.replicate_succ, List.append_nil, List.nil_append, List.cons_append, List.getElem?_cons_zero, List.getElem?_cons_succ, List.set_cons_zero, List.set_cons_succ, Nat.add_zero, Nat.zero_add, Nat.reduceAdd, Nat.reduceSub, Nat.reduceLT, Nat.reduceLeDiff, Nat.reduceEqDiff, Nat.reduceBEq, Nat.reduceMul, beq_self_eq_true, Bool.true_or, Bool.false_or, Bool.or_true, Bool.or_false, Bool.and_true, Bool.true_and, Bool.and_self, Bool.and_false, Bool.false_and, if_true, if_false, ite_true, ite_false, Bool.false_eq_true, Option.map_some, Option.map_none, and_self, and_true, true_and, and_false, false_and, true_or, or_true, false_or, or_false, not_true_eq_false, not_false_eq_true, List.drop_zero, List.drop_succ_cons, List.take_succ_cons, List.take_zero, ldA, stA, partA, faddrA, setAt, List.all_cons, List.all_nil, binA, arithA, shiftA, strA, unA, gSpan, gSkip, unG, ne_eq, Option.some.injEq, reduceCtorEq, decide_true, decide_false, elemsA, resA, resAll, resOne, enterA, decide_eq_true_eq, Bool.not_eq_true, Bool.decide_eq_true, List.isEmpty_nil, Bool.not_false, Bool.not_true, List.length_map, Bool.bne_false, Bool.bne_true, List.isEmpty_cons, List.getD_cons_zero, List.getD_cons_succ, List.getD_nil, ite_self, ↓reduceIte, noRefL, clrA, gcT, gcA, gcIds, reach, rhoOf, heapOf, idxA, genB, newGen, renB, refsB, List.contains_cons, List.contains_nil, List.range_zero, List.range_succ, List.flatMap_cons, List.flatMap_nil, List.zip_cons_cons, List.zip_nil_left, List.zip_nil_right, Nat.not_lt_zero, cb_strings_IndexAny, b_strings_IndexAny, cr_strings_IndexAny, x_strings_IndexAny_k0, x_strings_IndexAny_l18, x_strings_IndexAny_k1, x_strings_IndexAny_k2, x_strings_IndexAny_l12, intsV, bytesV, propsV, propV, propC, bytesOf_map, h1, h2, h3, i0, Int.toNat_natCast, q_hasC, hb, byteV, setL_refs, setL_ren]
      exact ih
    · refine ⟨i, ?_, by simp [plusHash, hb]⟩
      rw [evL_eq]
      simp -implicitDefEqProofs only [EVS0, EVS1, EVS2, EVS3, EVS4, EVS5, EVS6, EVS7, ite_tf, ite_ft, ite_tft, ite_ftf, ite_list, ite_tt, ite_ee, ite_nt, ite_ne, eq_self, implies_true, forall_const, exI, nsite, freeAt, execI, Opd.ev, tget, tins, tput, keepL, sitesOf, List.map_cons, List.map_nil, List.sum_cons, List.sum_nil, List.length_cons, List.length_nil, List.replicate_zero, List.replicate_succ, List.append_nil, List.nil_append, List.cons_append, List.getElem?_cons_zero, List.getElem?_cons_succ, List.set_cons_zero, List.set_cons_succ, Nat.add_zero, Nat.zero_add, Nat.reduceAdd, Nat.reduceSub, Nat.reduceLT, Nat.reduceLeDiff, Nat.reduceEqDiff, Nat.reduceBEq, Nat.reduceMul, beq_self_eq_true, Bool.true_or, Bool.false_or, Bool.or_true, Bool.or_false, Bool.and_true, Bool.true_and, Bool.and_self, Bool.and_false, Bool.false_and, if_true, if_false, ite_true, ite_false, Bool.false_eq_true, Option.map_some, Option.map_none, and_self, and_true, true_and, and_false, false_and, true_or, or_true, false_or, or_false, not_true_eq_false, not_false_eq_true, List.drop_zero, List.drop_succ_cons, List.take_succ_cons, List.take_zero, ldA, stA, partA, faddrA, setAt, List.all_cons, List.all_nil, binA, arithA, shiftA, strA, unA, gSpan, gSkip, unG, ne_eq, Option.some.injEq, reduceCtorEq, decide_true, decide_false, elemsA, resA, resAll, resOne, enterA, decide_eq_true_eq, Bool.not_eq_true, Bool.decide_eq_true, List.isEmpty_nil, Bool.not_false, Bool.not_true, List.length_map, Bool.bne_false, Bool.bne_true, List.isEmpty_cons, List.getD_cons_zero, List.getD_cons_succ, List.getD_nil, ite_self, ↓reduceIte, noRefL, clrA, gcT, gcA, gcIds, reach, rhoOf, heapOf, idxA, genB, newGen, renB, refsB, List.contains_cons, List.contains_nil, List.range_zero, List.range_succ, List.flatMap_cons, List.flatMap_nil, List.zip_cons_cons, List.zip_nil_left, List.zip_nil_right, Nat.not_lt_zero, cb_strings_IndexAny, b_strings_IndexAny, cr_strings_IndexAny, x_strings_IndexAny_k0, x_strings_IndexAny_l18, x_strings_IndexAny_k1, x_strings_IndexAny_k2, x_strings_IndexAny_l12, intsV, bytesV, propsV, propV, propC, bytesOf_map, h1, h2, h3, i0, Int.toNat_natCast, q_hasC, hb, byteV, setL_refs, setL_ren]
/-! IndexRune of "+#" -/
def idxPH (r : Int) : Int := if r = 43 then 0 else if r = 35 then 1 else -1
theorem q_idxByte (l : List UInt8) (c : Int) : E 54 [.str l, .int .u8 c] [] = some (.int .i64 (Lib.indexByte l c.toNat.toUInt8), []) := EV_some.2 ⟨1, rfl⟩
theorem q_idxByteC (σ : AHeap) (site own : Nat) (view : Bool) (l : List UInt8) (c : Int) : callG E BY σ site 54 own view [.str l, .int .u8 c] = some (.int .i64 (Lib.indexByte l c.toNat.toUInt8), σ, {}) :=
  call_flat (q_idxByte l c) (by kernel_rfl) (by simp -implicitDefEqProofs only [EVS0, EVS1, EVS2, EVS3, EVS4, EVS5, EVS6, EVS7, List.all_cons, List.all_nil, List.map_cons, List.map_nil, Bool.and_self, Bool.and_true, Bool.true_and, eq_self, and_self, List.length_map, implies_true, Bool.false_eq_true, if_false, if_true, intsV, bytesV, propsV, propV, propC, intsV]) (by simp -implicitDefEqProofs only [EVS0, EVS1, EVS2, EVS3, EVS4, EVS5, EVS6, EVS7, List.all_cons, List.all_nil, List.map_cons, List.map_nil, Bool.and_self, Bool.and_true, Bool.true_and, eq_self, and_self, List.length_map, implies_true, Bool.false_eq_true, if_false, if_true, intsV, bytesV, propsV, propV, propC, intsV]) rfl (fun _ => rfl) _ _ _ _
theorem q_validRune (r : Int) (h : (0 ≤ r ∧ r < 55296) ∨ (57344 ≤ r ∧ r ≤ 1114111)) : E 55 [.int .i32 r] [] = some (.bool true, []) := by
  rw [E_eq (by rfl) cf_unicode_utf8_ValidRune]
  rcases h with ⟨h1, h2⟩ | ⟨h1, h2⟩
  · simp -implicitDefEqProofs only [EVS0, EVS1, EVS2, EVS3, EVS4, EVS5, EVS6, EVS7, ite_tf, ite_ft, ite_tft, ite_ftf, ite_list, ite_tt, ite_ee, ite_nt, ite_ne, eq_self, implies_true, forall_const, exI, nsite, freeAt, execI, Opd.ev, tget, tins, tput, keepL, sitesOf, List.map_cons, List.map_nil, List.sum_cons, List.sum_nil, List.length_cons, List.length_nil, List.replicate_zero, List.replicate_succ, List.append_nil, List.nil_append, List.cons_append, List.getElem?_cons_zero, List.getElem?_cons_succ, List.set_cons_zero, List.set_cons_succ, Nat.add_zero, Nat.zero_add, Nat.reduceAdd, Nat.reduceSub, Nat.reduceLT, Nat.reduceLeDiff, Nat.reduceEqDiff, Nat.reduceBEq, Nat.reduceMul, beq_self_eq_true, Bool.true_or, Bool.false_or, Bool.or_true, Bool.or_false, Bool.and_true, Bool.true_and, Bool.and_self, Bool.and_false, Bool.false_and, if_true, if_false, ite_true, ite_false, Bool.false_eq_true, Option.map_some, Option.map_none, and_self, and_true, true_and, and_false, false_and, true_or, or_true, false_or, or_false, not_true_eq_false, not_false_eq_true, List.drop_zero, List.drop_succ_cons, List.take_succ_cons, List.take_zero, ldA, stA, partA, faddrA, setAt, List.all_cons, List.all_nil, binA, arithA, shiftA, strA, unA, gSpan, gSkip, unG, ne_eq, Option.some.injEq, reduceCtorEq, decide_true, decide_false, elemsA, resA, resAll, resOne, enterA, decide_eq_true_eq, Bool.not_eq_true, Bool.decide_eq_true, List.isEmpty_nil, Bool.not_false, Bool.not_true, List.length_map, Bool.bne_false, Bool.bne_true, List.isEmpty_cons, List.getD_cons_zero, List.getD_cons_succ, List.getD_nil, ite_self, ↓reduceIte, noRefL, clrA, gcT, gcA, gcIds, reach, rhoOf, heapOf, idxA, genB, newGen, renB, refsB, List.contains_cons, List.contains_nil, List.range_zero, List.range_succ, List.flatMap_cons, List.flatMap_nil, List.zip_cons_cons, List.zip_nil_left, List.zip_nil_right, Nat.not_lt_zero, cb_unicode_utf8_ValidRune, b_unicode_utf8_ValidRune, cr_unicode_utf8_ValidRune, intsV, bytesV, propsV, propV, propC, bytesOf_map, h1, h2]
  · have h3 : ¬ r < 55296 := by omega
    have h4 : (57343 : Int) < r := by omega
    have h5 : (0 : Int) ≤ r := by omega
    simp -implicitDefEqProofs only [EVS0, EVS1, EVS2, EVS3, EVS4, EVS5, EVS6, EVS7, ite_tf, ite_ft, ite_tft, ite_ftf, ite_list, ite_tt, ite_ee, ite_nt, ite_ne, eq_self, implies_true, forall_const, exI, nsite, freeAt, execI, Opd.ev, tget, tins, tput, keepL, sitesOf, List.map_cons, List.map_nil, List.sum_cons, List.sum_nil, List.length_cons, List.length_nil, List.replicate_zero, List.replicate_succ, List.append_nil, List.nil_append, List.cons_append, List.getElem?_cons_zero, List.getElem?_cons_succ, List.set_cons_zero, List.set_cons_succ, Nat.add_zero, Nat.zero_add, Nat.reduceAdd, Nat.reduceSub, Nat.reduceLT, Nat.reduceLeDiff, Nat.reduceEqDiff, Nat.reduceBEq, Nat.reduceMul, beq_self_eq_true, Bool.true_or, Bool.false_or, Bool.or_true, Bool.or_false, Bool.and_true, Bool.true_and, Bool.and_self, Bool.and_false, Bool.false_and, if_true, if_false, ite_true, ite_false, Bool.false_eq_true, Option.map_some, Option.map_none, and_self, and_true, true_and, and_false, false_and, true_or, or_true, false_or, or_false, not_true_eq_false, not_false_eq_true, List.drop_zero, List.drop_succ_cons, List.take_succ_cons, List.take_zero, ldA, stA, partA, faddrA, setAt, List.all_cons, List.all_nil, binA, arithA, shiftA, strA, unA, gSpan, gSkip, unG, ne_eq, Option.some.injEq, reduceCtorEq, decide_true, decide_false, elemsA, resA, resAll, resOne, enterA, decide_eq_true_eq, Bool.not_eq_true, Bool.decide_eq_true, List.isEmpty_nil, Bool.not_false, Bool.not_true, List.length_map, Bool.bne_false, Bool.bne_true, List.isEmpty_cons, List.getD_cons_zero, List.getD_cons_succ, List.getD_nil, ite_self, ↓reduceIte, noRefL, clrA, gcT, gcA, gcIds, reach, rhoOf, heapOf, idxA, genB, newGen, renB, refsB, List.contains_cons, List.contains_nil, List.range_zero, List.range_succ, List.flatMap_cons, List.flatMap_nil, List.zip_cons_cons, List.zip_nil_left, List.zip_nil_right, Nat.not_lt_zero, cb_unicode_utf8_ValidRune, b_unicode_utf8_ValidRune, cr_unicode_utf8_ValidRune, intsV, bytesV, propsV, propV, propC, bytesOf_map, h1, h2, h3, h4, h5]
theorem q_rune_err : E 44 [.str [43, 35], .int .i32 65533] [] = some (.int .i64 (-1), []) := EV_some.2 ⟨8, by kernel_rfl⟩
theorem q_validRuneC (σ : AHeap) (site own : Nat) (view : Bool) (r : Int) (h : (0 ≤ r ∧ r < 55296) ∨ (57344 ≤ r ∧ r ≤ 1114111)) : callG E BY σ site 55 own view [.int .i32 r] = some (.bool true, σ, {}) :=
  call_flat (q_validRune r h) (by kernel_rfl) (by simp -implicitDefEqProofs only [EVS0, EVS1, EVS2, EVS3, EVS4, EVS5, EVS6, EVS7, List.all_cons, List.all_nil, List.map_cons, List.map_nil, Bool.and_self, Bool.and_true, Bool.true_and, eq_self, and_self, List.length_map, implies_true, Bool.false_eq_true, if_false, if_true, intsV, bytesV, propsV, propV, propC, intsV]) (by simp -implicitDefEqProofs only [EVS0, EVS1, EVS2, EVS3, EVS4, EVS5, EVS6, EVS7, List.all_cons, List.all_nil, List.map_cons, List.map_nil, Bool.and_self, Bool.and_true, Bool.true_and, eq_self, and_self, List.length_map, implies_true, Bool.false_eq_true, if_false, if_true, intsV, bytesV, propsV, propV, propC, intsV]) rfl (fun _ => rfl) _ _ _ _
theorem idx_ascii (r : Int) (h0 : 0 ≤ r) (h1 : r < 128) : Lib.indexByte [43, 35] r.toNat.toUInt8 = idxPH r := by
  obtain ⟨n, rfl⟩ : ∃ n : Fin 128, r = (n.val : Int) := ⟨⟨r.toNat, by omega⟩, by simp; omega⟩
  clear h0 h1
  revert n
  decide
theorem q_rune_ascii (r : Int) (h0 : 0 ≤ r) (h1 : r < 128) : E 44 [.str [43, 35], .int .i32 r] [] = some (.int .i64 (idxPH r), []) := by
  rw [E_eq (by rfl) cf_strings_IndexRune]
  have w : IntKind.u8.wrap r = r := by rw [show IntKind.u8.wrap r = r % 256 from rfl]; omega
  simp -implicitDefEqProofs only [EVS0, EVS1, EVS2, EVS3, EVS4, EVS5, EVS6, EVS7, ite_tf, ite_ft, ite_tft, ite_ftf, ite_list, ite_tt, ite_ee, ite_nt, ite_ne, eq_self, implies_true, forall_const, exI, nsite, freeAt, execI, Opd.ev, tget, tins, tput, keepL, sitesOf, List.map_cons, List.map_nil, List.sum_cons, List.sum_nil, List.length_cons, List.length_nil, List.replicate_zero, List.replicate_succ, List.append_nil, List.nil_append, List.cons_append, List.getElem?_cons_zero, List.getElem?_cons_succ, List.set_cons_zero, List.set_cons_succ, Nat.add_zero, Nat.zero_add, Nat.reduceAdd, Nat.reduceSub, Nat.reduceLT, Nat.reduceLeDiff, Nat.reduceEqDiff, Nat.reduceBEq, Nat.reduceMul, beq_self_eq_true, Bool.true_or, Bool.false_or, Bool.or_true, Bool.or_false, Bool.and_true, Bool.true_and, Bool.and_self, Bool.and_false, Bool.false_and, if_true, if_false, ite_true, ite_false, Bool.false_eq_true, Option.map_some, Option.map_none, and_self, and_true, true_and, and_false, false_and, true_or, or_true, false_or, or_false, not_true_eq_false, not_false_eq_true, List.drop_zero, List.drop_succ_cons, List.take_succ_cons, List.take_zero, ldA, stA, partA, faddrA, setAt, List.all_cons, List.all_nil, binA, arithA, shiftA, strA, unA, gSpan, gSkip, unG, ne_eq, Option.some.injEq, reduceCtorEq, decide_true, decide_false, elemsA, resA, resAll, resOne, enterA, decide_eq_true_eq, Bool.not_eq_true, Bool.decide_eq_true, List.isEmpty_nil, Bool.not_false, Bool.not_true, List.length_map, Bool.bne_false, Bool.bne_true, List.isEmpty_cons, List.getD_cons_zero, List.getD_cons_succ, List.getD_nil, ite_self, ↓reduceIte, noRefL, clrA, gcT, gcA, gcIds, reach, rhoOf, heapOf, idxA, genB, newGen, renB, refsB, List.contains_cons, List.contains_nil, List.range_zero, List.range_succ, List.flatMap_cons, List.flatMap_nil, List.zip_cons_cons, List.zip_nil_left, List.zip_nil_right, Nat.not_lt_zero, cb_strings_IndexRune, b_strings_IndexRune, cr_strings_IndexRune, x_strings_IndexRune_k0, x_strings_IndexRune_l38, x_strings_IndexRune_k1, x_strings_IndexRune_k2, x_strings_IndexRune_k3, x_strings_IndexRune_l29, x_strings_IndexRune_l25, x_strings_IndexRune_k4, x_strings_IndexRune_k5, x_strings_IndexRune_l12, x_strings_IndexRune_l5, intsV, bytesV, propsV, propV, propC, bytesOf_map, h0, h1, w, q_idxByteC, idx_ascii]
theorem enc2 (r : Int) (h0 : 128 ≤ r) (h1 : r < 2048) : ∃ a b : UInt8, (Utf8.encode r).data.toList = [a, b] ∧ ((35 : Int) == (b.toNat : Int)) = false := by
  have hv : Utf8.valid r = true := by simp [Utf8.valid]; omega
  refine ⟨_, _, by unfold Utf8.encode; simp only [hv, if_true]; rw [if_neg (by omega), if_pos (by omega)], ?_⟩
  rw [beq_eq_false_iff_ne]
  simp
  omega
theorem enc3 (r : Int) (h0 : 2048 ≤ r) (h1 : r < 65536) (hv : Utf8.valid r = true) : ∃ a b c : UInt8, (Utf8.encode r).data.toList = [a, b, c] := by
  refine ⟨_, _, _, by unfold Utf8.encode; simp only [hv, if_true]; rw [if_neg (by omega), if_neg (by omega), if_pos (by omega)]⟩
theorem enc4 (r : Int) (h1 : 65536 ≤ r) (hv : Utf8.valid r = true) : ∃ a b c d : UInt8, (Utf8.encode r).data.toList = [a, b, c, d] := by
  refine ⟨_, _, _, _, by unfold Utf8.encode; simp only [hv, if_true]; rw [if_neg (by omega), if_neg (by omega), if_neg (by omega)]⟩
theorem q_rune_wide (r : Int) (h0 : 128 ≤ r) (hv : (0 ≤ r ∧ r < 55296) ∨ (57344 ≤ r ∧ r ≤ 1114111)) (hne : r ≠ 65533) : E 44 [.str [43, 35], .int .i32 r] [] = some (.int .i64 (-1), []) := by
  rw [E_eq (by rfl) cf_strings_IndexRune]
  have h1 : (0 : Int) ≤ r := by omega
  have h2 : ¬ r < 128 := by omega
  have h3 : (r == 65533) = false := by rw [beq_eq_false_iff_ne]; exact hne
  have hv' : Utf8.valid r = true := by simp [Utf8.valid]; omega
  have hV := fun σ site own view => q_validRuneC σ site own view r hv
  by_cases h4 : r < 2048
  · obtain ⟨a, b, he, hb⟩ := enc2 r h0 h4
    have hi : Lib.indexByte [] ((b.toNat : Int).toNat.toUInt8) = -1 := rfl
    have w1 : IntKind.i64.wrap (((2 : Nat) : Int) - 1) = 1 := by decide
    have w2 : IntKind.i64.wrap ((1 : Int) + 1) = 2 := by decide
    have l1 : (1 : Int) < ((2 : Nat) : Int) := by decide
    have l2 : (2 : Int) ≤ ((2 : Nat) : Int) := by decide
    have l3 : (0 : Int) ≤ 1 := by decide
    have l4 : (0 : Int) ≤ 2 := by decide
    have t1 : (1 : Int).toNat = 1 := rfl
    have t2 : (2 : Int).toNat = 2 := rfl
    have n1 : ((-1 : Int) < 0) = True := by simp
    have hb' : (((35 : UInt8).toNat : Int) != (b.toNat : Int)) = true := by
      have : ((35 : UInt8).toNat : Int) = 35 := rfl
      rw [this]; simp only [bne, hb, Bool.not_false]
    simp -implicitDefEqProofs only [EVS0, EVS1, EVS2, EVS3, EVS4, EVS5, EVS6, EVS7, ite_tf, ite_ft, ite_tft, ite_ftf, ite_list, ite_tt, ite_ee, ite_nt, ite_ne, eq_self, implies_true, forall_const, exI, nsite, freeAt, execI, Opd.ev, tget, tins, tput, keepL, sitesOf, List.map_cons, List.map_nil, List.sum_cons, List.sum_nil, List.length_cons, List.length_nil, List.replicate_zero, List.replicate_succ, List.append_nil, List.nil_append, List.cons_append, List.getElem?_cons_zero, List.getElem?_cons_succ, List.set_cons_zero, List.set_cons_succ, Nat.add_zero, Nat.zero_add, Nat.reduceAdd, Nat.reduceSub, Nat.reduceLT, Nat.reduceLeDiff, Nat.reduceEqDiff, Nat.reduceBEq, Nat.reduceMul, beq_self_eq_true, Bool.true_or, Bool.false_or, Bool.or_true, Bool.or_false, Bool.and_true, Bool.true_and, Bool.and_self, Bool.and_false, Bool.false_and, if_true, if_false, ite_true, ite_false, Bool.false_eq_true, Option.map_some, Option.map_none, and_self, and_true, true_and, and_false, false_and, true_or, or_true, false_or, or_false, not_true_eq_false, not_false_eq_true, List.drop_zero, List.drop_succ_cons, List.take_succ_cons, List.take_zero, ldA, stA, partA, faddrA, setAt, List.all_cons, List.all_nil, binA, arithA, shiftA, strA, unA, gSpan, gSkip, unG, ne_eq, Option.some.injEq, reduceCtorEq, decide_true, decide_false, elemsA, resA, resAll, resOne, enterA, decide_eq_true_eq, Bool.not_eq_true, Bool.decide_eq_true, List.isEmpty_nil, Bool.not_false, Bool.not_true, List.length_map, Bool.bne_false, Bool.bne_true, List.isEmpty_cons, List.getD_cons_zero, List.getD_cons_succ, List.getD_nil, ite_self, ↓reduceIte, noRefL, clrA, gcT, gcA, gcIds, reach, rhoOf, heapOf, idxA, genB, newGen, renB, refsB, List.contains_cons, List.contains_nil, List.range_zero, List.range_succ, List.flatMap_cons, List.flatMap_nil, List.zip_cons_cons, List.zip_nil_left, List.zip_nil_right, Nat.not_lt_zero, cb_strings_IndexRune, b_strings_IndexRune, cr_strings_IndexRune, x_strings_IndexRune_k0, x_strings_IndexRune_l38, x_strings_IndexRune_k1, x_strings_IndexRune_k2, x_strings_IndexRune_k3, x_strings_IndexRune_l29, x_strings_IndexRune_l25, x_strings_IndexRune_k4, x_strings_IndexRune_k5, x_strings_IndexRune_l12, x_strings_IndexRune_l5, intsV, bytesV, propsV, propV, propC, bytesOf_map, h1, h2, h3, hV, he, evL_eq, byteV, w1, w2, l1, l2, l3, l4, t1, t2, hb', optB, boundA, q_idxByteC, hi, n1]
  · by_cases h5 : r < 65536
    · obtain ⟨a, b, c, he⟩ := enc3 r (by omega) h5 hv'
      have w1 : IntKind.i64.wrap (((3 : Nat) : Int) - 1) = 2 := by decide
      have l1 : ¬ (2 : Int) < ((2 : Nat) : Int) := by decide
      simp -implicitDefEqProofs only [EVS0, EVS1, EVS2, EVS3, EVS4, EVS5, EVS6, EVS7, ite_tf, ite_ft, ite_tft, ite_ftf, ite_list, ite_tt, ite_ee, ite_nt, ite_ne, eq_self, implies_true, forall_const, exI, nsite, freeAt, execI, Opd.ev, tget, tins, tput, keepL, sitesOf, List.map_cons, List.map_nil, List.sum_cons, List.sum_nil, List.length_cons, List.length_nil, List.replicate_zero, List.replicate_succ, List.append_nil, List.nil_append, List.cons_append, List.getElem?_cons_zero, List.getElem?_cons_succ, List.set_cons_zero, List.set_cons_succ, Nat.add_zero, Nat.zero_add, Nat.reduceAdd, Nat.reduceSub, Nat.reduceLT, Nat.reduceLeDiff, Nat.reduceEqDiff, Nat.reduceBEq, Nat.reduceMul, beq_self_eq_true, Bool.true_or, Bool.false_or, Bool.or_true, Bool.or_false, Bool.and_true, Bool.true_and, Bool.and_self, Bool.and_false, Bool.false_and, if_true, if_false, ite_true, ite_false, Bool.false_eq_true, Option.map_some, Option.map_none, and_self, and_true, true_and, and_false, false_and, true_or, or_true, false_or, or_false, not_true_eq_false, not_false_eq_true, List.drop_zero, List.drop_succ_cons, List.take_succ_cons, List.take_zero, ldA, stA, partA, faddrA, setAt, List.all_cons, List.all_nil, binA, arithA, shiftA, strA, unA, gSpan, gSkip, unG, ne_eq, Option.some.injEq, reduceCtorEq, decide_true, decide_false, elemsA, resA, resAll, resOne, enterA, decide_eq_true_eq, Bool.not_eq_true, Bool.decide_eq_true, List.isEmpty_nil, Bool.not_false, Bool.not_true, List.length_map, Bool.bne_false, Bool.bne_true, List.isEmpty_cons, List.getD_cons_zero, List.getD_cons_succ, List.getD_nil, ite_self, ↓reduceIte, noRefL, clrA, gcT, gcA, gcIds, reach, rhoOf, heapOf, idxA, genB, newGen, renB, refsB, List.contains_cons, List.contains_nil, List.range_zero, List.range_succ, List.flatMap_cons, List.flatMap_nil, List.zip_cons_cons, List.zip_nil_left, List.zip_nil_right, Nat.not_lt_zero, cb_strings_IndexRune, b_strings_IndexRune, cr_strings_IndexRune, x_strings_IndexRune_k0, x_strings_IndexRune_l38, x_strings_IndexRune_k1, x_strings_IndexRune_k2, x_strings_IndexRune_k3, x_strings_IndexRune_l29, x_strings_IndexRune_l25, x_strings_IndexRune_k4, x_strings_IndexRune_k5, x_strings_IndexRune_l12, x_strings_IndexRune_l5, intsV, bytesV, propsV, propV, propC, bytesOf_map, h1, h2, h3, hV, he, evL_eq, byteV, w1, l1]
    · obtain ⟨a, b, c, d, he⟩ := enc4 r (by omega) hv'
      have w1 : IntKind.i64.wrap (((4 : Nat) : Int) - 1) = 3 := by decide
      have l1 : ¬ (3 : Int) < ((2 : Nat) : Int) := by decide
      simp -implicitDefEqProofs only [EVS0, EVS1, EVS2, EVS3, EVS4, EVS5, EVS6, EVS7, ite_tf, ite_ft, ite_tft, ite_ftf, ite_list, ite_tt, ite_ee, ite_nt, ite_ne, eq_self, implies_true, forall_const, exI, nsite, freeAt, execI, Opd.ev, tget, tins, tput, keepL, sitesOf, List.map_cons, List.map_nil, List.sum_cons, List.sum_nil, List.length_cons, List.length_nil, List.replicate_zero, List.replicate_succ, List.append_nil, List.nil_append, List.cons_append, List.getElem?_cons_zero, List.getElem?_cons_succ, List.set_cons_zero, List.set_cons_succ, Nat.add_zero, Nat.zero_add, Nat.reduceAdd, Nat.reduceSub, Nat.reduceLT, Nat.reduceLeDiff, Nat.reduceEqDiff, Nat.reduceBEq, Nat.reduceMul, beq_self_eq_true, Bool.true_or, Bool.false_or, Bool.or_true, Bool.or_false, Bool.and_true, Bool.true_and, Bool.and_self, Bool.and_false, Bool.false_and, if_true, if_false, ite_true, ite_false, Bool.false_eq_true, Option.map_some, Option.map_none, and_self, and_true, true_and, and_false, false_and, true_or, or_true, false_or, or_false, not_true_eq_false, not_false_eq_true, List.drop_zero, List.drop_succ_cons, List.take_succ_cons, List.take_zero, ldA, stA, partA, faddrA, setAt, List.all_cons, List.all_nil, binA, arithA, shiftA, strA, unA, gSpan, gSkip, unG, ne_eq, Option.some.injEq, reduceCtorEq, decide_true, decide_false, elemsA, resA, resAll, resOne, enterA, decide_eq_true_eq, Bool.not_eq_true, Bool.decide_eq_true, List.isEmpty_nil, Bool.not_false, Bool.not_true, List.length_map, Bool.bne_false, Bool.bne_true, List.isEmpty_cons, List.getD_cons_zero, List.getD_cons_succ, List.getD_nil, ite_self, ↓reduceIte, noRefL, clrA, gcT, gcA, gcIds, reach, rhoOf, heapOf, idxA, genB, newGen, renB, refsB, List.contains_cons, List.contains_nil, List.range_zero, List.range_succ, List.flatMap_cons, List.flatMap_nil, List.zip_cons_cons, List.zip_nil_left, List.zip_nil_right, Nat.not_lt_zero, cb_strings_IndexRune, b_strings_IndexRune, cr_strings_IndexRune, x_strings_IndexRune_k0, x_strings_IndexRune_l38, x_strings_IndexRune_k1, x_strings_IndexRune_k2, x_strings_IndexRune_k3, x_strings_IndexRune_l29, x_strings_IndexRune_l25, x_strings_IndexRune_k4, x_strings_IndexRune_k5, x_strings_IndexRune_l12, x_strings_IndexRune_l5, intsV, bytesV, propsV, propV, propC, bytesOf_map, h1, h2, h3, hV, he, evL_eq, byteV, w1, l1]
/-- what a decoded rune is -/
theorem decodeL_valid (l : List UInt8) : ((Lib.decodeL l).1 < 55296) ∨ (57344 ≤ (Lib.decodeL l).1 ∧ (Lib.decodeL l).1 ≤ 1114111) := by
  rw [Lib.decodeL_N]
  have h0 := (l.getD 0 0).toNat_lt
  unfold Lib.decodeN
  repeat' split
  all_goals (try simp only); omega
theorem q_rune (l : List UInt8) : E 44 [.str [43, 35], .int .i32 (Lib.decodeL l).1] [] = some (.int .i64 (idxPH (Lib.decodeL l).1), []) := by
  have hv := decodeL_valid l
  generalize (Lib.decodeL l).1 = n at hv
  by_cases h : n < 128
  · exact q_rune_ascii n (by omega) (by omega)
  · have e : idxPH (n : Int) = -1 := by unfold idxPH; rw [if_neg (by omega), if_neg (by omega)]
    rw [e]
    by_cases h2 : n = 65533
    · subst h2; exact q_rune_err
    · exact q_rune_wide n (by omega) (by omega) (by omega)
theorem q_runeC (σ : AHeap) (site own : Nat) (view : Bool) (l : List UInt8) : callG E BY σ site 44 own view [.str [43, 35], .int .i32 (Lib.decodeL l).1] = some (.int .i64 (idxPH (Lib.decodeL l).1), σ, {}) :=
  call_flat (q_rune l) (by kernel_rfl) (by simp -implicitDefEqProofs only [EVS0, EVS1, EVS2, EVS3, EVS4, EVS5, EVS6, EVS7, List.all_cons, List.all_nil, List.map_cons, List.map_nil, Bool.and_self, Bool.and_true, Bool.true_and, eq_self, and_self, List.length_map, implies_true, Bool.false_eq_true, if_false, if_true, intsV, bytesV, propsV, propV, propC, intsV]) (by simp -implicitDefEqProofs only [EVS0, EVS1, EVS2, EVS3, EVS4, EVS5, EVS6, EVS7, List.all_cons, List.all_nil, List.map_cons, List.map_nil, Bool.and_self, Bool.and_true, Bool.true_and, eq_self, and_self, List.length_map, implies_true, Bool.false_eq_true, if_false, if_true, intsV, bytesV, propsV, propV, propC, intsV]) rfl (fun _ => rfl) _ _ _ _
/-- a rune's bytes but the first one are no '+', no '#' -/
theorem plusHash_step (l : List UInt8) (hne : l ≠ []) : plusHash l = (decide (idxPH (Lib.decodeL l).1 ≥ 0) || plusHash (l.drop (Lib.decodeL l).2)) := by
  obtain ⟨b0, t, rfl⟩ : ∃ b t, l = b :: t := by
    cases l with
    | nil => exact absurd rfl hne
    | cons b t => exact ⟨b, t, rfl⟩
  have hc : ∀ b : UInt8, b.toNat / 64 = 2 → isPH b = false := by
    intro b hb
    unfold isPH
    simp only [Bool.or_eq_false_iff, beq_eq_false_iff_ne, ne_eq, ← UInt8.toNat_inj]
    have : (43 : UInt8).toNat = 43 := rfl
    have : (35 : UInt8).toNat = 35 := rfl
    omega
  have hi : ∀ n : Nat, n ≠ 43 → n ≠ 35 → decide (idxPH (n : Int) ≥ 0) = false := by
    intro n h1 h2
    unfold idxPH
    rw [if_neg (by omega), if_neg (by omega)]; rfl
  have hp : ∀ b : UInt8, isPH b = decide (idxPH (b.toNat : Int) ≥ 0) := by
    intro b
    unfold isPH idxPH
    have e1 : (43 : UInt8).toNat = 43 := rfl
    have e2 : (35 : UInt8).toNat = 35 := rfl
    rw [Bool.eq_iff_iff]
    simp only [Bool.or_eq_true, beq_iff_eq, ← UInt8.toNat_inj, e1, e2, decide_eq_true_eq]
    constructor
    · rintro (h | h) <;> simp [h]
    · intro h
      by_cases h1 : b.toNat = 43
      · exact Or.inl h1
      · by_cases h2 : b.toNat = 35
        · exact Or.inr h2
        · rw [if_neg (by omega), if_neg (by omega)] at h; omega
  rw [Lib.decodeL_N]
  simp only [List.length_cons, List.getD_cons_zero, List.getD_cons_succ]
  have hb := b0.toNat_lt
  have hlow : 128 ≤ b0.toNat → isPH b0 = false := by
    intro h; rw [hp]; exact hi _ (by omega) (by omega)
  unfold Lib.decodeN
  split
  · simp [plusHash, hp]
  rename_i h0
  have hl0 := hlow (by omega)
  have eE : decide (idxPH ((65533 : Nat) : Int) ≥ 0) = false := by decide
  split
  · rename_i h1
    obtain ⟨b1, t, rfl⟩ : ∃ b t', t = b :: t' := by
      cases t with
      | nil => simp at h1
      | cons b t => exact ⟨b, t, rfl⟩
    have h1c := hc b1 (by simpa using h1.2.2)
    split
    · rename_i h2
      rw [hi _ (by simp only; omega) (by simp only; omega)]
      simp [plusHash, hl0, h1c]
    · rw [eE]; simp [plusHash, hl0]
  split
  · rename_i h1
    obtain ⟨b1, b2, t, rfl⟩ : ∃ b c t', t = b :: c :: t' := by
      match t, h1 with
      | [], h1 => simp at h1
      | [_], h1 => simp at h1
      | b :: c :: t, _ => exact ⟨b, c, t, rfl⟩
    have h1c := hc b1 (by simpa using h1.2.1.2)
    have h2c := hc b2 (by simpa using h1.2.2.2)
    split
    · rename_i h2
      rw [hi _ (by simp only; omega) (by simp only; omega)]
      simp [plusHash, hl0, h1c, h2c]
    · rw [eE]; simp [plusHash, hl0]
  split
  · rename_i h1
    obtain ⟨b1, b2, b3, t, rfl⟩ : ∃ b c d t', t = b :: c :: d :: t' := by
      match t, h1 with
      | [], h1 => simp at h1
      | [_], h1 => simp at h1
      | [_, _], h1 => simp at h1
      | b :: c :: d :: t, _ => exact ⟨b, c, d, t, rfl⟩
    have h1c := hc b1 (by simpa using h1.2.1.2)
    have h2c := hc b2 (by simpa using h1.2.2.1.2)
    have h3c := hc b3 (by simpa using h1.2.2.2.2)
    split
    · rename_i h2
      rw [hi _ (by simp only; omega) (by simp only; omega)]
      simp [plusHash, hl0, h1c, h2c, h3c]
    · rw [eE]; simp [plusHash, hl0]
  · rw [eE]; simp [plusHash, hl0]
theorem q_anyr (s : List UInt8) : ∀ (n p : Nat), s.length - p ≤ n → p ≤ s.length → ∃ z, K_strings_IndexAny_l18 0 [(45, .ref 0 0), (1, .str [43, 35])] [.siter s p] = some (.int .i64 z, []) ∧ decide (z ≥ 0) = plusHash (s.drop p)
  | n, p, hn, hp => by
    by_cases h : p < s.length
    · obtain ⟨n, rfl⟩ : ∃ m, n = m + 1 := ⟨n - 1, by omega⟩
      have hw := Lib.decodeL_width (s.drop p)
      have hne : s.drop p ≠ [] := by rw [ne_eq, List.drop_eq_nil_iff]; omega
      have hle := Lib.decodeL_le (s.drop p) hne
      rw [List.length_drop] at hle
      obtain ⟨z, ih, hz⟩ := q_anyr s n (p + (Lib.decodeL (s.drop p)).2) (by omega) (by omega)
      rw [← List.drop_drop] at hz
      rw [plusHash_step _ hne, ← hz]
      unfold K_strings_IndexAny_l18 at ih ⊢
      by_cases hi : idxPH (Lib.decodeL (s.drop p)).1 ≥ 0
      · refine ⟨p, ?_, by simp [hi]⟩
        rw [evL_eq]
        simp -implicitDefEqProofs only [EVS0, EVS1, EVS2, EVS3, EVS4, EVS5, EVS6, EVS7, ite_tf, ite_ft, ite_tft, ite_ftf, ite_list, ite_tt, ite_ee, ite_nt, ite_ne, eq_self, implies_true, forall_const, exI, nsite, freeAt, execI, Opd.ev, tget, tins, tput, keepL, sitesOf, List.map_cons, List.map_nil, List.sum_cons, List.sum_nil, List.length_cons, List.length_nil, List.replicate_zero, List.replicate_succ, List.append_nil, List.nil_append, List.cons_append, List.getElem?_cons_zero, List.getElem?_cons_succ, List.set_cons_zero, List.set_cons_succ, Nat.add_zero, Nat.zero_add, Nat.reduceAdd, Nat.reduceSub, Nat.reduceLT, Nat.reduceLeDiff, Nat.reduceEqDiff, Nat.reduceBEq, Nat.reduceMul, beq_self_eq_true, Bool.true_or, Bool.false_or, Bool.or_true, Bool.or_false, Bool.and_true, Bool.true_and, Bool.and_self, Bool.and_false, Bool.false_and, if_true, if_false, ite_true, ite_false, Bool.false_eq_true, Option.map_some, Option.map_none, and_self, and_true, true_and, and_false, false_and, true_or, or_true, false_or, or_false, not_true_eq_false, not_false_eq_true, List.drop_zero, List.drop_succ_cons, List.take_succ_cons, List.take_zero, ldA, stA, partA, faddrA, setAt, List.all_cons, List.all_nil, binA, arithA, shiftA, strA, unA, gSpan, gSkip, unG, ne_eq, Option.some.injEq, reduceCtorEq, decide_true, decide_false, elemsA, resA, resAll, resOne, enterA, decide_eq_true_eq, Bool.not_eq_true, Bool.decide_eq_true, List.isEmpty_nil, Bool.not_false, Bool.not_true, List.length_map, Bool.bne_false, Bool.bne_true, List.isEmpty_cons, List.getD_cons_zero, List.getD_cons_succ, List.getD_nil, ite_self, ↓reduceIte, noRefL, clrA, gcT, gcA, gcIds, reach, rhoOf, heapOf, idxA, genB, newGen, renB, refsB, List.contains_cons, List.contains_nil, List.range_zero, List.range_succ, List.flatMap_cons, List.flatMap_nil, List.zip_cons_cons, List.zip_nil_left, List.zip_nil_right, Nat.not_lt_zero, cb_strings_IndexAny, b_strings_IndexAny, cr_strings_IndexAny, x_strings_IndexAny_k0, x_strings_IndexAny_l18, x_strings_IndexAny_k1, x_strings_IndexAny_k2, x_strings_IndexAny_l12, intsV, bytesV, propsV, propV, propC, bytesOf_map, h, decA_drop, q_runeC, hi]
      · refine ⟨z, ?_, by simp [hi]⟩
        rw [evL_eq]
        simp -implicitDefEqProofs only [EVS0, EVS1, EVS2, EVS3, EVS4, EVS5, EVS6, EVS7, ite_tf, ite_ft, ite_tft, ite_ftf, ite_list, ite_tt, ite_ee, ite_nt, ite_ne, eq_self, implies_true, forall_const, exI, nsite, freeAt, execI, Opd.ev, tget, tins, tput, keepL, sitesOf, List.map_cons, List.map_nil, List.sum_cons, List.sum_nil, List.length_cons, List.length_nil, List.replicate_zero, List.replicate_succ, List.append_nil, List.nil_append, List.cons_append, List.getElem?_cons_zero, List.getElem?_cons_succ, List.set_cons_zero, List.set_cons_succ, Nat.add_zero, Nat.zero_add, Nat.reduceAdd, Nat.reduceSub, Nat.reduceLT, Nat.reduceLeDiff, Nat.reduceEqDiff, Nat.reduceBEq, Nat.reduceMul, beq_self_eq_true, Bool.true_or, Bool.false_or, Bool.or_true, Bool.or_false, Bool.and_true, Bool.true_and, Bool.and_self, Bool.and_false, Bool.false_and, if_true, if_false, ite_true, ite_false, Bool.false_eq_true, Option.map_some, Option.map_none, and_self, and_true, true_and, and_false, false_and, true_or, or_true, false_or, or_false, not_true_eq_false, not_false_eq_true, List.drop_zero, List.drop_succ_cons, List.take_succ_cons, List.take_zero, ldA, stA, partA, faddrA, setAt, List.all_cons, List.all_nil, binA, arithA, shiftA, strA, unA, gSpan, gSkip, unG, ne_eq, Option.some.injEq, reduceCtorEq, decide_true, decide_false, elemsA, resA, resAll, resOne, enterA, decide_eq_true_eq, Bool.not_eq_true, Bool.decide_eq_true, List.isEmpty_nil, Bool.not_false, Bool.not_true, List.length_map, Bool.bne_false, Bool.bne_true, List.isEmpty_cons, List.getD_cons_zero, List.getD_cons_succ, List.getD_nil, ite_self, ↓reduceIte, noRefL, clrA, gcT, gcA, gcIds, reach, rhoOf, heapOf, idxA, genB, newGen, renB, refsB, List.contains_cons, List.contains_nil, List.range_zero, List.range_succ, List.flatMap_cons, List.flatMap_nil, List.zip_cons_cons, List.zip_nil_left, List.zip_nil_right, Nat.not_lt_zero, cb_strings_IndexAny, b_strings_IndexAny, cr_strings_IndexAny, x_strings_IndexAny_k0, x_strings_IndexAny_l18, x_strings_IndexAny_k1, x_strings_IndexAny_k2, x_strings_IndexAny_l12, intsV, bytesV, propsV, propV, propC, bytesOf_map, h, decA_drop, q_runeC, hi]
        exact ih
    · have he : s.drop p = [] := by rw [List.drop_eq_nil_iff]; omega
      refine ⟨-1, ?_, by rw [he]; rfl⟩
      unfold K_strings_IndexAny_l18
      rw [evL_eq]
      simp -implicitDefEqProofs only [EVS0, EVS1, EVS2, EVS3, EVS4, EVS5, EVS6, EVS7, ite_tf, ite_ft, ite_tft, ite_ftf, ite_list, ite_tt, ite_ee, ite_nt, ite_ne, eq_self, implies_true, forall_const, exI, nsite, freeAt, execI, Opd.ev, tget, tins, tput, keepL, sitesOf, List.map_cons, List.map_nil, List.sum_cons, List.sum_nil, List.length_cons, List.length_nil, List.replicate_zero, List.replicate_succ, List.append_nil, List.nil_append, List.cons_append, List.getElem?_cons_zero, List.getElem?_cons_succ, List.set_cons_zero, List.set_cons_succ, Nat.add_zero, Nat.zero_add, Nat.reduceAdd, Nat.reduceSub, Nat.reduceLT, Nat.reduceLeDiff, Nat.reduceEqDiff, Nat.reduceBEq, Nat.reduceMul, beq_self_eq_true, Bool.true_or, Bool.false_or, Bool.or_true, Bool.or_false, Bool.and_true, Bool.true_and, Bool.and_self, Bool.and_false, Bool.false_and, if_true, if_false, ite_true, ite_false, Bool.false_eq_true, Option.map_some, Option.map_none, and_self, and_true, true_and, and_false, false_and, true_or, or_true, false_or, or_false, not_true_eq_false, not_false_eq_true, List.drop_zero, List.drop_succ_cons, List.take_succ_cons, List.take_zero, ldA, stA, partA, faddrA, setAt, List.all_cons, List.all_nil, binA, arithA, shiftA, strA, unA, gSpan, gSkip, unG, ne_eq, Option.some.injEq, reduceCtorEq, decide_true, decide_false, elemsA, resA, resAll, resOne, enterA, decide_eq_true_eq, Bool.not_eq_true, Bool.decide_eq_true, List.isEmpty_nil, Bool.not_false, Bool.not_true, List.length_map, Bool.bne_false, Bool.bne_true, List.isEmpty_cons, List.getD_cons_zero, List.getD_cons_succ, List.getD_nil, ite_self, ↓reduceIte, noRefL, clrA, gcT, gcA, gcIds, reach, rhoOf, heapOf, idxA, genB, newGen, renB, refsB, List.contains_cons, List.contains_nil, List.range_zero, List.range_succ, List.flatMap_cons, List.flatMap_nil, List.zip_cons_cons, List.zip_nil_left, List.zip_nil_right, Nat.not_lt_zero, cb_strings_IndexAny, b_strings_IndexAny, cr_strings_IndexAny, x_strings_IndexAny_k0, x_strings_IndexAny_l18, x_strings_IndexAny_k1, x_strings_IndexAny_k2, x_strings_IndexAny_l12, intsV, bytesV, propsV, propV, propC, bytesOf_map, h]
end Go.Proofs.YtochhdiilicpgaaDoor
