/- Texts: whether bytes are a text. -/
import Derived.Test.YtochhdiilicpgaaDoorCOctet
import Derived.Test.YtochhdiilicpgaaDoorEvs
import Derived.Lib.TrimUEq
import Derived.Lib.MapLaws
import Derived.Lib.ValidLaws
namespace Go.Proofs.YtochhdiilicpgaaDoor
set_option linter.unusedSimpArgs false
set_option linter.unusedVariables false
set_option maxHeartbeats 4000000
set_option maxRecDepth 10000
theorem decA_drop (l : List UInt8) (p : Nat) : decA l p = Lib.decodeL (l.drop p) := by
  have := Lib.decodeL_drop ⟨l.toArray⟩ p
  simpa [decA] using this.symm
/-- no zero among the runes -/
def zfG : Nat → List UInt8 → Bool
  | 0, _ => true
  | n + 1, l => if l = [] then true else if (Lib.decodeL l).1 = 0 then false else zfG n (l.drop (Lib.decodeL l).2)
def textB (l : List UInt8) : Bool := zfG l.length l && Lib.validD l
theorem q_valid (l : List UInt8) : E 43 [.str l] [] = some (.bool (Lib.validD l), []) := EV_some.2 ⟨1, rfl⟩
theorem q_validC (σ : AHeap) (site own : Nat) (view : Bool) (l : List UInt8) : callG E BY σ site 43 own view [.str l] = some (.bool (Lib.validD l), σ, {}) :=
  call_flat (q_valid l) (by kernel_rfl) (by simp -implicitDefEqProofs only [EVS0, EVS1, EVS2, EVS3, EVS4, EVS5, EVS6, EVS7, List.all_cons, List.all_nil, List.map_cons, List.map_nil, Bool.and_self, Bool.and_true, Bool.true_and, eq_self, and_self, List.length_map, implies_true, Bool.false_eq_true, if_false, if_true, intsV, bytesV, propsV, propV, propC, intsV]) (by simp -implicitDefEqProofs only [EVS0, EVS1, EVS2, EVS3, EVS4, EVS5, EVS6, EVS7, List.all_cons, List.all_nil, List.map_cons, List.map_nil, Bool.and_self, Bool.and_true, Bool.true_and, eq_self, and_self, List.length_map, implies_true, Bool.false_eq_true, if_false, if_true, intsV, bytesV, propsV, propV, propC, intsV]) rfl (fun _ => rfl) _ _ _ _
theorem q_istl (s : List UInt8) : ∀ (n p : Nat), s.length - p ≤ n → p ≤ s.length → K_octet_IsText_l2 0 [(6, .ref 0 0), (0, .str s)] [.siter s p] = some (.bool (zfG n (s.drop p) && Lib.validD s), [])
  | n, p, hn, hp => by
    by_cases h : p < s.length
    · obtain ⟨n, rfl⟩ : ∃ m, n = m + 1 := ⟨n - 1, by omega⟩
      have hw := Lib.decodeL_width (s.drop p)
      have hne : s.drop p ≠ [] := by rw [ne_eq, List.drop_eq_nil_iff]; omega
      have hle := Lib.decodeL_le (s.drop p) hne
      rw [List.length_drop] at hle
      have ih := q_istl s n (p + (Lib.decodeL (s.drop p)).2) (by omega) (by omega)
      rw [← List.drop_drop] at ih
      unfold K_octet_IsText_l2 at ih ⊢
      rw [evL_eq]
      by_cases hz : (Lib.decodeL (s.drop p)).1 = 0
      · have hz' : ((Lib.decodeL (s.drop p)).1 : Int) = 0 := by omega
        simp -implicitDefEqProofs only [EVS0, EVS1, EVS2, EVS3, EVS4, EVS5, EVS6, EVS7, ite_tf, ite_ft, ite_tft, ite_ftf, ite_list, ite_tt, ite_ee, ite_nt, ite_ne, eq_self, implies_true, forall_const, exI, nsite, freeAt, execI, Opd.ev, tget, tins, tput, keepL, sitesOf, List.map_cons, List.map_nil, List.sum_cons, List.sum_nil, List.length_cons, List.length_nil, List.replicate_zero, List.replicate_succ, List.append_nil, List.nil_append, List.cons_append, List.getElem?_cons_zero, List.getElem?_cons_succ, List.set_cons_zero, List.set_cons_succ, Nat.add_zero, Nat.zero_add, Nat.reduceAdd, Nat.reduceSub, Nat.reduceLT, Nat.reduceLeDiff, Nat.reduceEqDiff, Nat.reduceBEq, Nat.reduceMul, beq_self_eq_true, Bool.true_or, Bool.false_or, Bool.or_true, Bool.or_false, Bool.and_true, Bool.true_and, Bool.and_self, Bool.and_false, Bool.false_and, if_true, if_false, ite_true, ite_false, Bool.false_eq_true, Option.map_some, Option.map_none, and_self, and_true, true_and, and_false, false_and, true_or, or_true, false_or, or_false, not_true_eq_false, not_false_eq_true, List.drop_zero, List.drop_succ_cons, List.take_succ_cons, List.take_zero, ldA, stA, partA, faddrA, setAt, List.all_cons, List.all_nil, binA, arithA, shiftA, strA, unA, gSpan, gSkip, unG, ne_eq, Option.some.injEq, reduceCtorEq, decide_true, decide_false, elemsA, resA, resAll, resOne, enterA, decide_eq_true_eq, Bool.not_eq_true, Bool.decide_eq_true, List.isEmpty_nil, Bool.not_false, Bool.not_true, List.length_map, Bool.bne_false, Bool.bne_true, List.isEmpty_cons, List.getD_cons_zero, List.getD_cons_succ, List.getD_nil, ite_self, ↓reduceIte, noRefL, clrA, gcT, gcA, gcIds, reach, rhoOf, heapOf, idxA, genB, newGen, renB, refsB, List.contains_cons, List.contains_nil, List.range_zero, List.range_succ, List.flatMap_cons, List.flatMap_nil, List.zip_cons_cons, List.zip_nil_left, List.zip_nil_right, Nat.not_lt_zero, cb_octet_IsText, b_octet_IsText, cr_octet_IsText, x_octet_IsText_k0, x_octet_IsText_l2, intsV, bytesV, propsV, propV, propC, bytesOf_map, h, decA_drop, hz', q_validC]
        rw [zfG, if_neg hne, if_pos hz]; rfl
      · have hz' : (((Lib.decodeL (s.drop p)).1 : Int) == 0) = false := by rw [beq_eq_false_iff_ne]; omega
        simp -implicitDefEqProofs only [EVS0, EVS1, EVS2, EVS3, EVS4, EVS5, EVS6, EVS7, ite_tf, ite_ft, ite_tft, ite_ftf, ite_list, ite_tt, ite_ee, ite_nt, ite_ne, eq_self, implies_true, forall_const, exI, nsite, freeAt, execI, Opd.ev, tget, tins, tput, keepL, sitesOf, List.map_cons, List.map_nil, List.sum_cons, List.sum_nil, List.length_cons, List.length_nil, List.replicate_zero, List.replicate_succ, List.append_nil, List.nil_append, List.cons_append, List.getElem?_cons_zero, List.getElem?_cons_succ, List.set_cons_zero, List.set_cons_succ, Nat.add_zero, Nat.zero_add, Nat.reduceAdd, Nat.reduceSub, Nat.reduceLT, Nat.reduceLeDiff, Nat.reduceEqDiff, Nat.reduceBEq, Nat.reduceMul, beq_self_eq_true, Bool.true_or, Bool.false_or, Bool.or_true, Bool.or_false, Bool.and_true, Bool.true_and, Bool.and_self, Bool.and_false, Bool.false_and, if_true, if_false, ite_true, ite_false, Bool.false_eq_true, Option.map_some, Option.map_none, and_self, and_true, true_and, and_false, false_and, true_or, or_true, false_or, or_false, not_true_eq_false, not_false_eq_true, List.drop_zero, List.drop_succ_cons, List.take_succ_cons, List.take_zero, ldA, stA, partA, faddrA, setAt, List.all_cons, List.all_nil, binA, arithA, shiftA, strA, unA, gSpan, gSkip, unG, ne_eq, Option.some.injEq, reduceCtorEq, decide_true, decide_false, elemsA, resA, resAll, resOne, enterA, decide_eq_true_eq, Bool.not_eq_true, Bool.decide_eq_true, List.isEmpty_nil, Bool.not_false, Bool.not_true, List.length_map, Bool.bne_false, Bool.bne_true, List.isEmpty_cons, List.getD_cons_zero, List.getD_cons_succ, List.getD_nil, ite_self, ↓reduceIte, noRefL, clrA, gcT, gcA, gcIds, reach, rhoOf, heapOf, idxA, genB, newGen, renB, refsB, List.contains_cons, List.contains_nil, List.range_zero, List.range_succ, List.flatMap_cons, List.flatMap_nil, List.zip_cons_cons, List.zip_nil_left, List.zip_nil_right, Nat.not_lt_zero, cb_octet_IsText, b_octet_IsText, cr_octet_IsText, x_octet_IsText_k0, x_octet_IsText_l2, intsV, bytesV, propsV, propV, propC, bytesOf_map, h, decA_drop, hz', q_validC]
        rw [ih, zfG, if_neg hne, if_neg hz]
    · have he : s.drop p = [] := by rw [List.drop_eq_nil_iff]; omega
      unfold K_octet_IsText_l2
      rw [evL_eq]
      simp -implicitDefEqProofs only [EVS0, EVS1, EVS2, EVS3, EVS4, EVS5, EVS6, EVS7, ite_tf, ite_ft, ite_tft, ite_ftf, ite_list, ite_tt, ite_ee, ite_nt, ite_ne, eq_self, implies_true, forall_const, exI, nsite, freeAt, execI, Opd.ev, tget, tins, tput, keepL, sitesOf, List.map_cons, List.map_nil, List.sum_cons, List.sum_nil, List.length_cons, List.length_nil, List.replicate_zero, List.replicate_succ, List.append_nil, List.nil_append, List.cons_append, List.getElem?_cons_zero, List.getElem?_cons_succ, List.set_cons_zero, List.set_cons_succ, Nat.add_zero, Nat.zero_add, Nat.reduceAdd, Nat.reduceSub, Nat.reduceLT, Nat.reduceLeDiff, Nat.reduceEqDiff, Nat.reduceBEq, Nat.reduceMul, beq_self_eq_true, Bool.true_or, Bool.false_or, Bool.or_true, Bool.or_false, Bool.and_true, Bool.true_and, Bool.and_self, Bool.and_false, Bool.false_and, if_true, if_false, ite_true, ite_false, Bool.false_eq_true, Option.map_some, Option.map_none, and_self, and_true, true_and, and_false, false_and, true_or, or_true, false_or, or_false, not_true_eq_false, not_false_eq_true, List.drop_zero, List.drop_succ_cons, List.take_succ_cons, List.take_zero, ldA, stA, partA, faddrA, setAt, List.all_cons, List.all_nil, binA, arithA, shiftA, strA, unA, gSpan, gSkip, unG, ne_eq, Option.some.injEq, reduceCtorEq, decide_true, decide_false, elemsA, resA, resAll, resOne, enterA, decide_eq_true_eq, Bool.not_eq_true, Bool.decide_eq_true, List.isEmpty_nil, Bool.not_false, Bool.not_true, List.length_map, Bool.bne_false, Bool.bne_true, List.isEmpty_cons, List.getD_cons_zero, List.getD_cons_succ, List.getD_nil, ite_self, ↓reduceIte, noRefL, clrA, gcT, gcA, gcIds, reach, rhoOf, heapOf, idxA, genB, newGen, renB, refsB, List.contains_cons, List.contains_nil, List.range_zero, List.range_succ, List.flatMap_cons, List.flatMap_nil, List.zip_cons_cons, List.zip_nil_left, List.zip_nil_right, Nat.not_lt_zero, cb_octet_IsText, b_octet_IsText, cr_octet_IsText, x_octet_IsText_k0, x_octet_IsText_l2, intsV, bytesV, propsV, propV, propC, bytesOf_map, h, q_validC]
      rw [he]
      cases n <;> simp [zfG]
theorem q_istext (s : List UInt8) : E 36 [.str s] [] = some (.bool (textB s), []) := by
  rw [E_eq (by rfl) cf_octet_IsText]
  have := q_istl s s.length 0 (by omega) (by omega)
  unfold K_octet_IsText_l2 at this
  simp -implicitDefEqProofs only [EVS0, EVS1, EVS2, EVS3, EVS4, EVS5, EVS6, EVS7, ite_tf, ite_ft, ite_tft, ite_ftf, ite_list, ite_tt, ite_ee, ite_nt, ite_ne, eq_self, implies_true, forall_const, exI, nsite, freeAt, execI, Opd.ev, tget, tins, tput, keepL, sitesOf, List.map_cons, List.map_nil, List.sum_cons, List.sum_nil, List.length_cons, List.length_nil, List.replicate_zero, List.replicate_succ, List.append_nil, List.nil_append, List.cons_append, List.getElem?_cons_zero, List.getElem?_cons_succ, List.set_cons_zero, List.set_cons_succ, Nat.add_zero, Nat.zero_add, Nat.reduceAdd, Nat.reduceSub, Nat.reduceLT, Nat.reduceLeDiff, Nat.reduceEqDiff, Nat.reduceBEq, Nat.reduceMul, beq_self_eq_true, Bool.true_or, Bool.false_or, Bool.or_true, Bool.or_false, Bool.and_true, Bool.true_and, Bool.and_self, Bool.and_false, Bool.false_and, if_true, if_false, ite_true, ite_false, Bool.false_eq_true, Option.map_some, Option.map_none, and_self, and_true, true_and, and_false, false_and, true_or, or_true, false_or, or_false, not_true_eq_false, not_false_eq_true, List.drop_zero, List.drop_succ_cons, List.take_succ_cons, List.take_zero, ldA, stA, partA, faddrA, setAt, List.all_cons, List.all_nil, binA, arithA, shiftA, strA, unA, gSpan, gSkip, unG, ne_eq, Option.some.injEq, reduceCtorEq, decide_true, decide_false, elemsA, resA, resAll, resOne, enterA, decide_eq_true_eq, Bool.not_eq_true, Bool.decide_eq_true, List.isEmpty_nil, Bool.not_false, Bool.not_true, List.length_map, Bool.bne_false, Bool.bne_true, List.isEmpty_cons, List.getD_cons_zero, List.getD_cons_succ, List.getD_nil, ite_self, ↓reduceIte, noRefL, clrA, gcT, gcA, gcIds, reach, rhoOf, heapOf, idxA, genB, newGen, renB, refsB, List.contains_cons, List.contains_nil, List.range_zero, List.range_succ, List.flatMap_cons, List.flatMap_nil, List.zip_cons_cons, List.zip_nil_left, List.zip_nil_right, Nat.not_lt_zero, cb_octet_IsText, b_octet_IsText, cr_octet_IsText, x_octet_IsText_k0, x_octet_IsText_l2, intsV, bytesV, propsV, propV, propC, bytesOf_map, intsV]
  rw [this, List.drop_zero]; rfl
theorem q_istextC (σ : AHeap) (site own : Nat) (view : Bool) (l : List UInt8) : callG E BY σ site 36 own view [.str l] = some (.bool (textB l), σ, {}) :=
  call_flat (q_istext l) (by kernel_rfl) (by simp -implicitDefEqProofs only [EVS0, EVS1, EVS2, EVS3, EVS4, EVS5, EVS6, EVS7, List.all_cons, List.all_nil, List.map_cons, List.map_nil, Bool.and_self, Bool.and_true, Bool.true_and, eq_self, and_self, List.length_map, implies_true, Bool.false_eq_true, if_false, if_true, intsV, bytesV, propsV, propV, propC, intsV]) (by simp -implicitDefEqProofs only [EVS0, EVS1, EVS2, EVS3, EVS4, EVS5, EVS6, EVS7, List.all_cons, List.all_nil, List.map_cons, List.map_nil, Bool.and_self, Bool.and_true, Bool.true_and, eq_self, and_self, List.length_map, implies_true, Bool.false_eq_true, if_false, if_true, intsV, bytesV, propsV, propV, propC, intsV]) rfl (fun _ => rfl) _ _ _ _
/-! the reference's -/
/-- the bytes that follow the first one of a character -/
def contC : List UInt8 → Int → Option Int
  | [], c => some c
  | b :: r, c => if b.toNat < 128 ∨ 192 ≤ b.toNat then none else contC r (c * 64 + b.toNat - 128)
def endC (n least : Int) : Option Int → AVal
  | none => .tup [.int .i64 0, .int .i64 0]
  | some c => if c < least ∨ 1114111 < c ∨ (55296 ≤ c ∧ c < 57344) then .tup [.int .i64 0, .int .i64 0] else .tup [.int .i64 c, .int .i64 (n + 1)]
theorem byte_lt (b : UInt8) : (b.toNat : Int) < 256 := by have := b.toNat_lt; omega
theorem wrap_i64 {n : Int} (h0 : -9223372036854775808 ≤ n) (h : n ≤ 9223372036854775807) : IntKind.i64.wrap n = n := wrap_nat h0 h
theorem q_charl (s : List UInt8) (least : Int) (n : Nat) (hn : n ≤ 3) : ∀ (r : List UInt8) (i : Nat) (c : Int), 1 ≤ i → i + r.length = n + 1 → (∀ j, j < r.length → s[i + j]? = r[j]?) → 0 ≤ c → (c + 1) * 64 ^ r.length ≤ 2 ^ 40 → n < s.length →
    K_tidingsref01_char_l15 0 [(7, .int .i64 i), (6, .int .i64 least), (5, .int .i64 n), (4, .int .i64 c), (0, .str s)] [] = some (endC n least (contC r c), [])
  | [], i, c, hi, hl, hs, hc, hb, hns => by
    simp only [List.length_nil, Nat.add_zero] at hl
    simp only [List.length_nil, Int.pow_zero, Int.mul_one] at hb
    have h1 : ¬ ((i : Int) ≤ n) := by omega
    have h2 : IntKind.i64.wrap ((n : Int) + 1) = n + 1 := wrap_nat (by omega) (by omega)
    unfold K_tidingsref01_char_l15
    rw [evL_eq]
    by_cases h4 : c < least
    · have e : endC n least (contC [] c) = .tup [.int .i64 0, .int .i64 0] := by simp [endC, contC, h4]
      rw [e]
      simp -implicitDefEqProofs only [EVS0, EVS1, EVS2, EVS3, EVS4, EVS5, EVS6, EVS7, ite_tf, ite_ft, ite_tft, ite_ftf, ite_list, ite_tt, ite_ee, ite_nt, ite_ne, eq_self, implies_true, forall_const, exI, nsite, freeAt, execI, Opd.ev, tget, tins, tput, keepL, sitesOf, List.map_cons, List.map_nil, List.sum_cons, List.sum_nil, List.length_cons, List.length_nil, List.replicate_zero, List.replicate_succ, List.append_nil, List.nil_append, List.cons_append, List.getElem?_cons_zero, List.getElem?_cons_succ, List.set_cons_zero, List.set_cons_succ, Nat.add_zero, Nat.zero_add, Nat.reduceAdd, Nat.reduceSub, Nat.reduceLT, Nat.reduceLeDiff, Nat.reduceEqDiff, Nat.reduceBEq, Nat.reduceMul, beq_self_eq_true, Bool.true_or, Bool.false_or, Bool.or_true, Bool.or_false, Bool.and_true, Bool.true_and, Bool.and_self, Bool.and_false, Bool.false_and, if_true, if_false, ite_true, ite_false, Bool.false_eq_true, Option.map_some, Option.map_none, and_self, and_true, true_and, and_false, false_and, true_or, or_true, false_or, or_false, not_true_eq_false, not_false_eq_true, List.drop_zero, List.drop_succ_cons, List.take_succ_cons, List.take_zero, ldA, stA, partA, faddrA, setAt, List.all_cons, List.all_nil, binA, arithA, shiftA, strA, unA, gSpan, gSkip, unG, ne_eq, Option.some.injEq, reduceCtorEq, decide_true, decide_false, elemsA, resA, resAll, resOne, enterA, decide_eq_true_eq, Bool.not_eq_true, Bool.decide_eq_true, List.isEmpty_nil, Bool.not_false, Bool.not_true, List.length_map, Bool.bne_false, Bool.bne_true, List.isEmpty_cons, List.getD_cons_zero, List.getD_cons_succ, List.getD_nil, ite_self, ↓reduceIte, noRefL, clrA, gcT, gcA, gcIds, reach, rhoOf, heapOf, idxA, genB, newGen, renB, refsB, List.contains_cons, List.contains_nil, List.range_zero, List.range_succ, List.flatMap_cons, List.flatMap_nil, List.zip_cons_cons, List.zip_nil_left, List.zip_nil_right, Nat.not_lt_zero, cb_tidingsref01_char, b_tidingsref01_char, cr_tidingsref01_char, x_tidingsref01_char_k0, x_tidingsref01_char_l15, intsV, bytesV, propsV, propV, propC, bytesOf_map, h1, h2, h4]
    by_cases h5 : c > 1114111
    · have e : endC n least (contC [] c) = .tup [.int .i64 0, .int .i64 0] := by
        have h5' : 1114111 < c := h5
        simp [endC, contC, h5']
      rw [e]
      simp -implicitDefEqProofs only [EVS0, EVS1, EVS2, EVS3, EVS4, EVS5, EVS6, EVS7, ite_tf, ite_ft, ite_tft, ite_ftf, ite_list, ite_tt, ite_ee, ite_nt, ite_ne, eq_self, implies_true, forall_const, exI, nsite, freeAt, execI, Opd.ev, tget, tins, tput, keepL, sitesOf, List.map_cons, List.map_nil, List.sum_cons, List.sum_nil, List.length_cons, List.length_nil, List.replicate_zero, List.replicate_succ, List.append_nil, List.nil_append, List.cons_append, List.getElem?_cons_zero, List.getElem?_cons_succ, List.set_cons_zero, List.set_cons_succ, Nat.add_zero, Nat.zero_add, Nat.reduceAdd, Nat.reduceSub, Nat.reduceLT, Nat.reduceLeDiff, Nat.reduceEqDiff, Nat.reduceBEq, Nat.reduceMul, beq_self_eq_true, Bool.true_or, Bool.false_or, Bool.or_true, Bool.or_false, Bool.and_true, Bool.true_and, Bool.and_self, Bool.and_false, Bool.false_and, if_true, if_false, ite_true, ite_false, Bool.false_eq_true, Option.map_some, Option.map_none, and_self, and_true, true_and, and_false, false_and, true_or, or_true, false_or, or_false, not_true_eq_false, not_false_eq_true, List.drop_zero, List.drop_succ_cons, List.take_succ_cons, List.take_zero, ldA, stA, partA, faddrA, setAt, List.all_cons, List.all_nil, binA, arithA, shiftA, strA, unA, gSpan, gSkip, unG, ne_eq, Option.some.injEq, reduceCtorEq, decide_true, decide_false, elemsA, resA, resAll, resOne, enterA, decide_eq_true_eq, Bool.not_eq_true, Bool.decide_eq_true, List.isEmpty_nil, Bool.not_false, Bool.not_true, List.length_map, Bool.bne_false, Bool.bne_true, List.isEmpty_cons, List.getD_cons_zero, List.getD_cons_succ, List.getD_nil, ite_self, ↓reduceIte, noRefL, clrA, gcT, gcA, gcIds, reach, rhoOf, heapOf, idxA, genB, newGen, renB, refsB, List.contains_cons, List.contains_nil, List.range_zero, List.range_succ, List.flatMap_cons, List.flatMap_nil, List.zip_cons_cons, List.zip_nil_left, List.zip_nil_right, Nat.not_lt_zero, cb_tidingsref01_char, b_tidingsref01_char, cr_tidingsref01_char, x_tidingsref01_char_k0, x_tidingsref01_char_l15, intsV, bytesV, propsV, propV, propC, bytesOf_map, h1, h2, h4, h5]
    by_cases h6 : c ≥ 55296
    · by_cases h7 : c < 57344
      · have e : endC n least (contC [] c) = .tup [.int .i64 0, .int .i64 0] := by
          simp only [endC, contC]; rw [if_pos (Or.inr (Or.inr ⟨h6, h7⟩))]
        rw [e]
        simp -implicitDefEqProofs only [EVS0, EVS1, EVS2, EVS3, EVS4, EVS5, EVS6, EVS7, ite_tf, ite_ft, ite_tft, ite_ftf, ite_list, ite_tt, ite_ee, ite_nt, ite_ne, eq_self, implies_true, forall_const, exI, nsite, freeAt, execI, Opd.ev, tget, tins, tput, keepL, sitesOf, List.map_cons, List.map_nil, List.sum_cons, List.sum_nil, List.length_cons, List.length_nil, List.replicate_zero, List.replicate_succ, List.append_nil, List.nil_append, List.cons_append, List.getElem?_cons_zero, List.getElem?_cons_succ, List.set_cons_zero, List.set_cons_succ, Nat.add_zero, Nat.zero_add, Nat.reduceAdd, Nat.reduceSub, Nat.reduceLT, Nat.reduceLeDiff, Nat.reduceEqDiff, Nat.reduceBEq, Nat.reduceMul, beq_self_eq_true, Bool.true_or, Bool.false_or, Bool.or_true, Bool.or_false, Bool.and_true, Bool.true_and, Bool.and_self, Bool.and_false, Bool.false_and, if_true, if_false, ite_true, ite_false, Bool.false_eq_true, Option.map_some, Option.map_none, and_self, and_true, true_and, and_false, false_and, true_or, or_true, false_or, or_false, not_true_eq_false, not_false_eq_true, List.drop_zero, List.drop_succ_cons, List.take_succ_cons, List.take_zero, ldA, stA, partA, faddrA, setAt, List.all_cons, List.all_nil, binA, arithA, shiftA, strA, unA, gSpan, gSkip, unG, ne_eq, Option.some.injEq, reduceCtorEq, decide_true, decide_false, elemsA, resA, resAll, resOne, enterA, decide_eq_true_eq, Bool.not_eq_true, Bool.decide_eq_true, List.isEmpty_nil, Bool.not_false, Bool.not_true, List.length_map, Bool.bne_false, Bool.bne_true, List.isEmpty_cons, List.getD_cons_zero, List.getD_cons_succ, List.getD_nil, ite_self, ↓reduceIte, noRefL, clrA, gcT, gcA, gcIds, reach, rhoOf, heapOf, idxA, genB, newGen, renB, refsB, List.contains_cons, List.contains_nil, List.range_zero, List.range_succ, List.flatMap_cons, List.flatMap_nil, List.zip_cons_cons, List.zip_nil_left, List.zip_nil_right, Nat.not_lt_zero, cb_tidingsref01_char, b_tidingsref01_char, cr_tidingsref01_char, x_tidingsref01_char_k0, x_tidingsref01_char_l15, intsV, bytesV, propsV, propV, propC, bytesOf_map, h1, h2, h4, h5, h6, h7]
      · have e : endC n least (contC [] c) = .tup [.int .i64 c, .int .i64 (n + 1)] := by
          simp only [endC, contC]; rw [if_neg (by omega)]
        rw [e]
        simp -implicitDefEqProofs only [EVS0, EVS1, EVS2, EVS3, EVS4, EVS5, EVS6, EVS7, ite_tf, ite_ft, ite_tft, ite_ftf, ite_list, ite_tt, ite_ee, ite_nt, ite_ne, eq_self, implies_true, forall_const, exI, nsite, freeAt, execI, Opd.ev, tget, tins, tput, keepL, sitesOf, List.map_cons, List.map_nil, List.sum_cons, List.sum_nil, List.length_cons, List.length_nil, List.replicate_zero, List.replicate_succ, List.append_nil, List.nil_append, List.cons_append, List.getElem?_cons_zero, List.getElem?_cons_succ, List.set_cons_zero, List.set_cons_succ, Nat.add_zero, Nat.zero_add, Nat.reduceAdd, Nat.reduceSub, Nat.reduceLT, Nat.reduceLeDiff, Nat.reduceEqDiff, Nat.reduceBEq, Nat.reduceMul, beq_self_eq_true, Bool.true_or, Bool.false_or, Bool.or_true, Bool.or_false, Bool.and_true, Bool.true_and, Bool.and_self, Bool.and_false, Bool.false_and, if_true, if_false, ite_true, ite_false, Bool.false_eq_true, Option.map_some, Option.map_none, and_self, and_true, true_and, and_false, false_and, true_or, or_true, false_or, or_false, not_true_eq_false, not_false_eq_true, List.drop_zero, List.drop_succ_cons, List.take_succ_cons, List.take_zero, ldA, stA, partA, faddrA, setAt, List.all_cons, List.all_nil, binA, arithA, shiftA, strA, unA, gSpan, gSkip, unG, ne_eq, Option.some.injEq, reduceCtorEq, decide_true, decide_false, elemsA, resA, resAll, resOne, enterA, decide_eq_true_eq, Bool.not_eq_true, Bool.decide_eq_true, List.isEmpty_nil, Bool.not_false, Bool.not_true, List.length_map, Bool.bne_false, Bool.bne_true, List.isEmpty_cons, List.getD_cons_zero, List.getD_cons_succ, List.getD_nil, ite_self, ↓reduceIte, noRefL, clrA, gcT, gcA, gcIds, reach, rhoOf, heapOf, idxA, genB, newGen, renB, refsB, List.contains_cons, List.contains_nil, List.range_zero, List.range_succ, List.flatMap_cons, List.flatMap_nil, List.zip_cons_cons, List.zip_nil_left, List.zip_nil_right, Nat.not_lt_zero, cb_tidingsref01_char, b_tidingsref01_char, cr_tidingsref01_char, x_tidingsref01_char_k0, x_tidingsref01_char_l15, intsV, bytesV, propsV, propV, propC, bytesOf_map, h1, h2, h4, h5, h6, h7]
    · have e : endC n least (contC [] c) = .tup [.int .i64 c, .int .i64 (n + 1)] := by
        simp only [endC, contC]; rw [if_neg (by omega)]
      rw [e]
      simp -implicitDefEqProofs only [EVS0, EVS1, EVS2, EVS3, EVS4, EVS5, EVS6, EVS7, ite_tf, ite_ft, ite_tft, ite_ftf, ite_list, ite_tt, ite_ee, ite_nt, ite_ne, eq_self, implies_true, forall_const, exI, nsite, freeAt, execI, Opd.ev, tget, tins, tput, keepL, sitesOf, List.map_cons, List.map_nil, List.sum_cons, List.sum_nil, List.length_cons, List.length_nil, List.replicate_zero, List.replicate_succ, List.append_nil, List.nil_append, List.cons_append, List.getElem?_cons_zero, List.getElem?_cons_succ, List.set_cons_zero, List.set_cons_succ, Nat.add_zero, Nat.zero_add, Nat.reduceAdd, Nat.reduceSub, Nat.reduceLT, Nat.reduceLeDiff, Nat.reduceEqDiff, Nat.reduceBEq, Nat.reduceMul, beq_self_eq_true, Bool.true_or, Bool.false_or, Bool.or_true, Bool.or_false, Bool.and_true, Bool.true_and, Bool.and_self, Bool.and_false, Bool.false_and, if_true, if_false, ite_true, ite_false, Bool.false_eq_true, Option.map_some, Option.map_none, and_self, and_true, true_and, and_false, false_and, true_or, or_true, false_or, or_false, not_true_eq_false, not_false_eq_true, List.drop_zero, List.drop_succ_cons, List.take_succ_cons, List.take_zero, ldA, stA, partA, faddrA, setAt, List.all_cons, List.all_nil, binA, arithA, shiftA, strA, unA, gSpan, gSkip, unG, ne_eq, Option.some.injEq, reduceCtorEq, decide_true, decide_false, elemsA, resA, resAll, resOne, enterA, decide_eq_true_eq, Bool.not_eq_true, Bool.decide_eq_true, List.isEmpty_nil, Bool.not_false, Bool.not_true, List.length_map, Bool.bne_false, Bool.bne_true, List.isEmpty_cons, List.getD_cons_zero, List.getD_cons_succ, List.getD_nil, ite_self, ↓reduceIte, noRefL, clrA, gcT, gcA, gcIds, reach, rhoOf, heapOf, idxA, genB, newGen, renB, refsB, List.contains_cons, List.contains_nil, List.range_zero, List.range_succ, List.flatMap_cons, List.flatMap_nil, List.zip_cons_cons, List.zip_nil_left, List.zip_nil_right, Nat.not_lt_zero, cb_tidingsref01_char, b_tidingsref01_char, cr_tidingsref01_char, x_tidingsref01_char_k0, x_tidingsref01_char_l15, intsV, bytesV, propsV, propV, propC, bytesOf_map, h1, h2, h4, h5, h6]
  | b :: r, i, c, hi, hl, hs, hc, hb, hns => by
    simp only [List.length_cons] at hl hb
    have hb0 := byte_lt b
    have hs0 : s[i]? = some b := by have := hs 0 (by simp); simpa using this
    have h1 : ((i : Int) ≤ n) := by omega
    have h3 : IntKind.i64.wrap ((i : Int) + 1) = ((i + 1 : Nat) : Int) := by rw [wrap_nat (by omega) (by omega)]; rfl
    have hp : (1 : Int) ≤ 64 ^ r.length := by
      have : (0 : Int) < 64 ^ r.length := Int.pow_pos (by omega)
      omega
    have hc2 : c + 1 ≤ 2 ^ 40 := by
      have : (c + 1) * 1 ≤ (c + 1) * 64 ^ (r.length + 1) := Int.mul_le_mul_of_nonneg_left (by rw [Int.pow_succ]; omega) (by omega)
      omega
    have i0 : (0 : Int) ≤ (i : Int) := by omega
    have hlow : ((b.toNat : Int) < 128) ∨ ¬ ((b.toNat : Int) < 128) := by omega
    by_cases h4 : (b.toNat : Int) < 128
    · have e : endC n least (contC (b :: r) c) = .tup [.int .i64 0, .int .i64 0] := by simp only [contC]; rw [if_pos (Or.inl (by omega))]; rfl
      rw [e]
      unfold K_tidingsref01_char_l15
      rw [evL_eq]
      simp -implicitDefEqProofs only [EVS0, EVS1, EVS2, EVS3, EVS4, EVS5, EVS6, EVS7, ite_tf, ite_ft, ite_tft, ite_ftf, ite_list, ite_tt, ite_ee, ite_nt, ite_ne, eq_self, implies_true, forall_const, exI, nsite, freeAt, execI, Opd.ev, tget, tins, tput, keepL, sitesOf, List.map_cons, List.map_nil, List.sum_cons, List.sum_nil, List.length_cons, List.length_nil, List.replicate_zero, List.replicate_succ, List.append_nil, List.nil_append, List.cons_append, List.getElem?_cons_zero, List.getElem?_cons_succ, List.set_cons_zero, List.set_cons_succ, Nat.add_zero, Nat.zero_add, Nat.reduceAdd, Nat.reduceSub, Nat.reduceLT, Nat.reduceLeDiff, Nat.reduceEqDiff, Nat.reduceBEq, Nat.reduceMul, beq_self_eq_true, Bool.true_or, Bool.false_or, Bool.or_true, Bool.or_false, Bool.and_true, Bool.true_and, Bool.and_self, Bool.and_false, Bool.false_and, if_true, if_false, ite_true, ite_false, Bool.false_eq_true, Option.map_some, Option.map_none, and_self, and_true, true_and, and_false, false_and, true_or, or_true, false_or, or_false, not_true_eq_false, not_false_eq_true, List.drop_zero, List.drop_succ_cons, List.take_succ_cons, List.take_zero, ldA, stA, partA, faddrA, setAt, List.all_cons, List.all_nil, binA, arithA, shiftA, strA, unA, gSpan, gSkip, unG, ne_eq, Option.some.injEq, reduceCtorEq, decide_true, decide_false, elemsA, resA, resAll, resOne, enterA, decide_eq_true_eq, Bool.not_eq_true, Bool.decide_eq_true, List.isEmpty_nil, Bool.not_false, Bool.not_true, List.length_map, Bool.bne_false, Bool.bne_true, List.isEmpty_cons, List.getD_cons_zero, List.getD_cons_succ, List.getD_nil, ite_self, ↓reduceIte, noRefL, clrA, gcT, gcA, gcIds, reach, rhoOf, heapOf, idxA, genB, newGen, renB, refsB, List.contains_cons, List.contains_nil, List.range_zero, List.range_succ, List.flatMap_cons, List.flatMap_nil, List.zip_cons_cons, List.zip_nil_left, List.zip_nil_right, Nat.not_lt_zero, cb_tidingsref01_char, b_tidingsref01_char, cr_tidingsref01_char, x_tidingsref01_char_k0, x_tidingsref01_char_l15, intsV, bytesV, propsV, propV, propC, bytesOf_map, h1, h3, h4, hs0, i0, Int.toNat_natCast, byteV]
    by_cases h5 : (b.toNat : Int) ≥ 192
    · have e : endC n least (contC (b :: r) c) = .tup [.int .i64 0, .int .i64 0] := by simp only [contC]; rw [if_pos (Or.inr (by omega))]; rfl
      rw [e]
      unfold K_tidingsref01_char_l15
      rw [evL_eq]
      simp -implicitDefEqProofs only [EVS0, EVS1, EVS2, EVS3, EVS4, EVS5, EVS6, EVS7, ite_tf, ite_ft, ite_tft, ite_ftf, ite_list, ite_tt, ite_ee, ite_nt, ite_ne, eq_self, implies_true, forall_const, exI, nsite, freeAt, execI, Opd.ev, tget, tins, tput, keepL, sitesOf, List.map_cons, List.map_nil, List.sum_cons, List.sum_nil, List.length_cons, List.length_nil, List.replicate_zero, List.replicate_succ, List.append_nil, List.nil_append, List.cons_append, List.getElem?_cons_zero, List.getElem?_cons_succ, List.set_cons_zero, List.set_cons_succ, Nat.add_zero, Nat.zero_add, Nat.reduceAdd, Nat.reduceSub, Nat.reduceLT, Nat.reduceLeDiff, Nat.reduceEqDiff, Nat.reduceBEq, Nat.reduceMul, beq_self_eq_true, Bool.true_or, Bool.false_or, Bool.or_true, Bool.or_false, Bool.and_true, Bool.true_and, Bool.and_self, Bool.and_false, Bool.false_and, if_true, if_false, ite_true, ite_false, Bool.false_eq_true, Option.map_some, Option.map_none, and_self, and_true, true_and, and_false, false_and, true_or, or_true, false_or, or_false, not_true_eq_false, not_false_eq_true, List.drop_zero, List.drop_succ_cons, List.take_succ_cons, List.take_zero, ldA, stA, partA, faddrA, setAt, List.all_cons, List.all_nil, binA, arithA, shiftA, strA, unA, gSpan, gSkip, unG, ne_eq, Option.some.injEq, reduceCtorEq, decide_true, decide_false, elemsA, resA, resAll, resOne, enterA, decide_eq_true_eq, Bool.not_eq_true, Bool.decide_eq_true, List.isEmpty_nil, Bool.not_false, Bool.not_true, List.length_map, Bool.bne_false, Bool.bne_true, List.isEmpty_cons, List.getD_cons_zero, List.getD_cons_succ, List.getD_nil, ite_self, ↓reduceIte, noRefL, clrA, gcT, gcA, gcIds, reach, rhoOf, heapOf, idxA, genB, newGen, renB, refsB, List.contains_cons, List.contains_nil, List.range_zero, List.range_succ, List.flatMap_cons, List.flatMap_nil, List.zip_cons_cons, List.zip_nil_left, List.zip_nil_right, Nat.not_lt_zero, cb_tidingsref01_char, b_tidingsref01_char, cr_tidingsref01_char, x_tidingsref01_char_k0, x_tidingsref01_char_l15, intsV, bytesV, propsV, propV, propC, bytesOf_map, h1, h3, h4, h5, hs0, i0, Int.toNat_natCast, byteV]
    have ih := q_charl s least n hn r (i + 1) (c * 64 + b.toNat - 128) (by omega) (by omega) (fun j hj => by
      have := hs (j + 1) (by simp; omega)
      rw [show i + 1 + j = i + (j + 1) by omega, this]; simp) (by omega) (by
        have : (c * 64 + b.toNat - 128 + 1) * 64 ^ r.length ≤ (c + 1) * 64 * 64 ^ r.length := Int.mul_le_mul_of_nonneg_right (by omega) (by omega)
        rw [Int.pow_succ, Int.mul_comm (64 ^ r.length) 64, ← Int.mul_assoc] at hb
        omega) hns
    have w1 : IntKind.i64.wrap (c * 64) = c * 64 := wrap_nat (by omega) (by omega)
    have w2 : IntKind.i64.wrap (b.toNat : Int) = b.toNat := wrap_nat (by omega) (by omega)
    have w3 : IntKind.i64.wrap (c * 64 + b.toNat) = c * 64 + b.toNat := wrap_nat (by omega) (by omega)
    have w4 : IntKind.i64.wrap (c * 64 + b.toNat - 128) = c * 64 + b.toNat - 128 := wrap_nat (by omega) (by omega)
    unfold K_tidingsref01_char_l15 at ih ⊢
    rw [evL_eq]
    simp -implicitDefEqProofs only [EVS0, EVS1, EVS2, EVS3, EVS4, EVS5, EVS6, EVS7, ite_tf, ite_ft, ite_tft, ite_ftf, ite_list, ite_tt, ite_ee, ite_nt, ite_ne, eq_self, implies_true, forall_const, exI, nsite, freeAt, execI, Opd.ev, tget, tins, tput, keepL, sitesOf, List.map_cons, List.map_nil, List.sum_cons, List.sum_nil, List.length_cons, List.length_nil, List.replicate_zero, List.replicate_succ, List.append_nil, List.nil_append, List.cons_append, List.getElem?_cons_zero, List.getElem?_cons_succ, List.set_cons_zero, List.set_cons_succ, Nat.add_zero, Nat.zero_add, Nat.reduceAdd, Nat.reduceSub, Nat.reduceLT, Nat.reduceLeDiff, Nat.reduceEqDiff, Nat.reduceBEq, Nat.reduceMul, beq_self_eq_true, Bool.true_or, Bool.false_or, Bool.or_true, Bool.or_false, Bool.and_true, Bool.true_and, Bool.and_self, Bool.and_false, Bool.false_and, if_true, if_false, ite_true, ite_false, Bool.false_eq_true, Option.map_some, Option.map_none, and_self, and_true, true_and, and_false, false_and, true_or, or_true, false_or, or_false, not_true_eq_false, not_false_eq_true, List.drop_zero, List.drop_succ_cons, List.take_succ_cons, List.take_zero, ldA, stA, partA, faddrA, setAt, List.all_cons, List.all_nil, binA, arithA, shiftA, strA, unA, gSpan, gSkip, unG, ne_eq, Option.some.injEq, reduceCtorEq, decide_true, decide_false, elemsA, resA, resAll, resOne, enterA, decide_eq_true_eq, Bool.not_eq_true, Bool.decide_eq_true, List.isEmpty_nil, Bool.not_false, Bool.not_true, List.length_map, Bool.bne_false, Bool.bne_true, List.isEmpty_cons, List.getD_cons_zero, List.getD_cons_succ, List.getD_nil, ite_self, ↓reduceIte, noRefL, clrA, gcT, gcA, gcIds, reach, rhoOf, heapOf, idxA, genB, newGen, renB, refsB, List.contains_cons, List.contains_nil, List.range_zero, List.range_succ, List.flatMap_cons, List.flatMap_nil, List.zip_cons_cons, List.zip_nil_left, List.zip_nil_right, Nat.not_lt_zero, cb_tidingsref01_char, b_tidingsref01_char, cr_tidingsref01_char, x_tidingsref01_char_k0, x_tidingsref01_char_l15, intsV, bytesV, propsV, propV, propC, bytesOf_map, h1, h3, h4, h5, hs0, i0, w1, w2, w3, w4, Int.toNat_natCast, byteV]
    rw [ih]
    simp only [contC]
    rw [if_neg (by omega)]
/-- the character at a text's beginning and its bytes, as the reference has it -/
def charF (l : List UInt8) : Nat × Nat := if (Lib.decodeL l).1 = 65533 ∧ (Lib.decodeL l).2 = 1 then (0, 0) else Lib.decodeL l
def tupF (p : Nat × Nat) : AVal := .tup [.int .i64 p.1, .int .i64 p.2]
theorem charF_N (l : List UInt8) : charF l = if (Lib.decodeN l.length (l.getD 0 0).toNat (l.getD 1 0).toNat (l.getD 2 0).toNat (l.getD 3 0).toNat).1 = 65533 ∧ (Lib.decodeN l.length (l.getD 0 0).toNat (l.getD 1 0).toNat (l.getD 2 0).toNat (l.getD 3 0).toNat).2 = 1 then (0, 0) else Lib.decodeN l.length (l.getD 0 0).toNat (l.getD 1 0).toNat (l.getD 2 0).toNat (l.getD 3 0).toNat := by
  unfold charF; rw [Lib.decodeL_N]
theorem tupF_zero {c n : Int} {p : Nat × Nat} (h1 : c = p.1) (h2 : n = p.2) : (.tup [.int .i64 c, .int .i64 n] : AVal) = tupF p := by simp [tupF, h1, h2]
theorem char1 (b0 b1 : UInt8) (t : List UInt8) (h : 192 ≤ b0.toNat ∧ b0.toNat < 224) : endC 1 128 (contC [b1] (b0.toNat - 192)) = tupF (charF (b0 :: b1 :: t)) := by
  rw [charF_N]
  simp only [List.length_cons, List.getD_cons_zero, List.getD_cons_succ, contC]
  have hb1 := b1.toNat_lt
  generalize b0.toNat = x0 at *
  generalize b1.toNat = x1 at *
  generalize ((t.getD 0 0).toNat) = x2
  generalize ((t.getD 1 0).toNat) = x3
  have e1 : ¬ x0 < 128 := by omega
  have e2 : x0 / 32 = 6 := by omega
  have e3 : 1 < t.length + 1 + 1 := by omega
  have e4 : ¬ x0 / 16 = 14 := by omega
  have e5 : ¬ x0 / 8 = 30 := by omega
  by_cases h1 : x1 < 128 ∨ 192 ≤ x1
  · rw [if_pos h1]
    have e6 : ¬ x1 / 64 = 2 := by omega
    simp [Lib.decodeN, e1, e2, e4, e5, e6, endC, tupF]
  · rw [if_neg h1]
    have e6 : x1 / 64 = 2 := by omega
    simp only [Lib.decodeN, e1, e2, e3, e6, if_false, and_self, if_true]
    simp only [endC]
    by_cases h2 : x0 % 32 * 64 + x1 % 64 ≥ 128
    · rw [if_neg (by omega), if_pos h2, if_neg (by simp)]
      exact tupF_zero (by simp only; omega) (by simp)
    · rw [if_pos (by omega), if_neg h2, if_pos (by simp)]
      rfl
theorem char2 (b0 b1 b2 : UInt8) (t : List UInt8) (h : 224 ≤ b0.toNat ∧ b0.toNat < 240) : endC 2 2048 (contC [b1, b2] (b0.toNat - 224)) = tupF (charF (b0 :: b1 :: b2 :: t)) := by
  rw [charF_N]
  simp only [List.length_cons, List.getD_cons_zero, List.getD_cons_succ, contC]
  have hb1 := b1.toNat_lt
  have hb2 := b2.toNat_lt
  generalize b0.toNat = x0 at *
  generalize b1.toNat = x1 at *
  generalize b2.toNat = x2 at *
  generalize ((t.getD 0 0).toNat) = x3
  have e1 : ¬ x0 < 128 := by omega
  have e2 : ¬ x0 / 32 = 6 := by omega
  have e3 : 1 < t.length + 1 + 1 + 1 := by omega
  have e3' : 2 < t.length + 1 + 1 + 1 := by omega
  have e4 : x0 / 16 = 14 := by omega
  have e5 : ¬ x0 / 8 = 30 := by omega
  by_cases h1 : x1 < 128 ∨ 192 ≤ x1
  · rw [if_pos h1]
    have e6 : ¬ x1 / 64 = 2 := by omega
    simp [Lib.decodeN, e1, e2, e4, e5, e6, endC, tupF]
  · rw [if_neg h1]
    have e6 : x1 / 64 = 2 := by omega
    by_cases h2 : x2 < 128 ∨ 192 ≤ x2
    · rw [if_pos h2]
      have e7 : ¬ x2 / 64 = 2 := by omega
      simp [Lib.decodeN, e1, e2, e4, e5, e6, e7, endC, tupF]
    · rw [if_neg h2]
      have e7 : x2 / 64 = 2 := by omega
      simp only [Lib.decodeN, e1, e2, e3, e3', e4, e6, e7, if_false, and_self, if_true, false_and]
      simp only [endC]
      by_cases h3 : x0 % 16 * 4096 + x1 % 64 * 64 + x2 % 64 ≥ 2048 ∧ (x0 % 16 * 4096 + x1 % 64 * 64 + x2 % 64 < 55296 ∨ (57344 ≤ x0 % 16 * 4096 + x1 % 64 * 64 + x2 % 64 ∧ x0 % 16 * 4096 + x1 % 64 * 64 + x2 % 64 ≤ 1114111))
      · rw [if_neg (by omega), if_pos h3, if_neg (by simp)]
        exact tupF_zero (by simp only; omega) (by simp)
      · rw [if_pos (by omega), if_neg h3, if_pos (by simp)]
        rfl
theorem char3 (b0 b1 b2 b3 : UInt8) (t : List UInt8) (h : 240 ≤ b0.toNat ∧ b0.toNat < 248) : endC 3 65536 (contC [b1, b2, b3] (b0.toNat - 240)) = tupF (charF (b0 :: b1 :: b2 :: b3 :: t)) := by
  rw [charF_N]
  simp only [List.length_cons, List.getD_cons_zero, List.getD_cons_succ, contC]
  have hb1 := b1.toNat_lt
  have hb2 := b2.toNat_lt
  have hb3 := b3.toNat_lt
  generalize b0.toNat = x0 at *
  generalize b1.toNat = x1 at *
  generalize b2.toNat = x2 at *
  generalize b3.toNat = x3 at *
  have e1 : ¬ x0 < 128 := by omega
  have e2 : ¬ x0 / 32 = 6 := by omega
  have e3 : 1 < t.length + 1 + 1 + 1 + 1 := by omega
  have e3' : 2 < t.length + 1 + 1 + 1 + 1 := by omega
  have e3'' : 3 < t.length + 1 + 1 + 1 + 1 := by omega
  have e4 : ¬ x0 / 16 = 14 := by omega
  have e5 : x0 / 8 = 30 := by omega
  by_cases h1 : x1 < 128 ∨ 192 ≤ x1
  · rw [if_pos h1]
    have e6 : ¬ x1 / 64 = 2 := by omega
    simp [Lib.decodeN, e1, e2, e4, e5, e6, endC, tupF]
  · rw [if_neg h1]
    have e6 : x1 / 64 = 2 := by omega
    by_cases h2 : x2 < 128 ∨ 192 ≤ x2
    · rw [if_pos h2]
      have e7 : ¬ x2 / 64 = 2 := by omega
      simp [Lib.decodeN, e1, e2, e4, e5, e6, e7, endC, tupF]
    · rw [if_neg h2]
      have e7 : x2 / 64 = 2 := by omega
      by_cases h4 : x3 < 128 ∨ 192 ≤ x3
      · rw [if_pos h4]
        have e8 : ¬ x3 / 64 = 2 := by omega
        simp [Lib.decodeN, e1, e2, e4, e5, e6, e7, e8, endC, tupF]
      · rw [if_neg h4]
        have e8 : x3 / 64 = 2 := by omega
        simp only [Lib.decodeN, e1, e2, e3, e3', e3'', e4, e5, e6, e7, e8, if_false, and_self, if_true, false_and]
        simp only [endC]
        by_cases h3 : x0 % 8 * 262144 + x1 % 64 * 4096 + x2 % 64 * 64 + x3 % 64 ≥ 65536 ∧ (x0 % 8 * 262144 + x1 % 64 * 4096 + x2 % 64 * 64 + x3 % 64 < 55296 ∨ (57344 ≤ x0 % 8 * 262144 + x1 % 64 * 4096 + x2 % 64 * 64 + x3 % 64 ∧ x0 % 8 * 262144 + x1 % 64 * 4096 + x2 % 64 * 64 + x3 % 64 ≤ 1114111))
        · rw [if_neg (by omega), if_pos h3, if_neg (by simp)]
          exact tupF_zero (by simp only; omega) (by simp)
        · rw [if_pos (by omega), if_neg h3, if_pos (by simp)]
          rfl
theorem char_short (b0 : UInt8) (t : List UInt8) (h : (192 ≤ b0.toNat ∧ b0.toNat < 224 ∧ t.length < 1) ∨ (224 ≤ b0.toNat ∧ b0.toNat < 240 ∧ t.length < 2) ∨ (240 ≤ b0.toNat ∧ b0.toNat < 248 ∧ t.length < 3) ∨ (128 ≤ b0.toNat ∧ b0.toNat < 192) ∨ 248 ≤ b0.toNat) : charF (b0 :: t) = (0, 0) := by
  rw [charF_N, if_pos]
  simp only [List.length_cons, List.getD_cons_zero, List.getD_cons_succ]
  have hb := b0.toNat_lt
  generalize b0.toNat = x0 at *
  generalize ((t.getD 0 0).toNat) = x1
  generalize ((t.getD 1 0).toNat) = x2
  generalize ((t.getD 2 0).toNat) = x3
  generalize t.length = m at *
  unfold Lib.decodeN
  repeat' split
  all_goals first | exact ⟨rfl, rfl⟩ | (exfalso; omega) | (constructor <;> omega)
theorem char_one (b0 : UInt8) (t : List UInt8) (h : b0.toNat < 128) : charF (b0 :: t) = (b0.toNat, 1) := by
  rw [charF_N]
  simp only [List.length_cons, List.getD_cons_zero, Lib.decodeN, h, if_true]
  rw [if_neg (by omega)]
theorem tupF0 : tupF (0, 0) = .tup [.int .i64 0, .int .i64 0] := rfl
theorem tupF1 (n : Nat) : tupF (n, 1) = .tup [.int .i64 n, .int .i64 1] := rfl
theorem drop_get {s : List UInt8} {n j : Nat} (hj : j < n) : s[1 + j]? = ((s.drop 1).take n)[j]? := by
  rw [List.getElem?_take, if_pos hj, List.getElem?_drop]
theorem q_char (b0 : UInt8) (t : List UInt8) : E 52 [.str (b0 :: t)] [] = some (tupF (charF (b0 :: t)), []) := by
  rw [E_eq (by rfl) cf_tidingsref01_char]
  have hb := byte_lt b0
  have w0 : IntKind.i64.wrap (b0.toNat : Int) = b0.toNat := wrap_nat (by omega) (by omega)
  by_cases h1 : (b0.toNat : Int) < 128
  · rw [char_one b0 t (by omega), tupF1]
    simp -implicitDefEqProofs only [EVS0, EVS1, EVS2, EVS3, EVS4, EVS5, EVS6, EVS7, ite_tf, ite_ft, ite_tft, ite_ftf, ite_list, ite_tt, ite_ee, ite_nt, ite_ne, eq_self, implies_true, forall_const, exI, nsite, freeAt, execI, Opd.ev, tget, tins, tput, keepL, sitesOf, List.map_cons, List.map_nil, List.sum_cons, List.sum_nil, List.length_cons, List.length_nil, List.replicate_zero, List.replicate_succ, List.append_nil, List.nil_append, List.cons_append, List.getElem?_cons_zero, List.getElem?_cons_succ, List.set_cons_zero, List.set_cons_succ, Nat.add_zero, Nat.zero_add, Nat.reduceAdd, Nat.reduceSub, Nat.reduceLT, Nat.reduceLeDiff, Nat.reduceEqDiff, Nat.reduceBEq, Nat.reduceMul, beq_self_eq_true, Bool.true_or, Bool.false_or, Bool.or_true, Bool.or_false, Bool.and_true, Bool.true_and, Bool.and_self, Bool.and_false, Bool.false_and, if_true, if_false, ite_true, ite_false, Bool.false_eq_true, Option.map_some, Option.map_none, and_self, and_true, true_and, and_false, false_and, true_or, or_true, false_or, or_false, not_true_eq_false, not_false_eq_true, List.drop_zero, List.drop_succ_cons, List.take_succ_cons, List.take_zero, ldA, stA, partA, faddrA, setAt, List.all_cons, List.all_nil, binA, arithA, shiftA, strA, unA, gSpan, gSkip, unG, ne_eq, Option.some.injEq, reduceCtorEq, decide_true, decide_false, elemsA, resA, resAll, resOne, enterA, decide_eq_true_eq, Bool.not_eq_true, Bool.decide_eq_true, List.isEmpty_nil, Bool.not_false, Bool.not_true, List.length_map, Bool.bne_false, Bool.bne_true, List.isEmpty_cons, List.getD_cons_zero, List.getD_cons_succ, List.getD_nil, ite_self, ↓reduceIte, noRefL, clrA, gcT, gcA, gcIds, reach, rhoOf, heapOf, idxA, genB, newGen, renB, refsB, List.contains_cons, List.contains_nil, List.range_zero, List.range_succ, List.flatMap_cons, List.flatMap_nil, List.zip_cons_cons, List.zip_nil_left, List.zip_nil_right, Nat.not_lt_zero, cb_tidingsref01_char, b_tidingsref01_char, cr_tidingsref01_char, x_tidingsref01_char_k0, x_tidingsref01_char_l15, intsV, bytesV, propsV, propV, propC, bytesOf_map, h1, w0, byteV, Int.toNat_zero, Int.le_refl]
  by_cases h2 : (b0.toNat : Int) ≥ 192
  · by_cases h3 : (b0.toNat : Int) < 224
    · have w1 : IntKind.i64.wrap ((b0.toNat : Int) - 192) = b0.toNat - 192 := wrap_nat (by omega) (by omega)
      by_cases h6 : ((t.length + 1 : Nat) : Int) ≤ 1
      · rw [char_short b0 t (Or.inl ⟨by omega, by omega, by omega⟩), tupF0]
        simp -implicitDefEqProofs only [EVS0, EVS1, EVS2, EVS3, EVS4, EVS5, EVS6, EVS7, ite_tf, ite_ft, ite_tft, ite_ftf, ite_list, ite_tt, ite_ee, ite_nt, ite_ne, eq_self, implies_true, forall_const, exI, nsite, freeAt, execI, Opd.ev, tget, tins, tput, keepL, sitesOf, List.map_cons, List.map_nil, List.sum_cons, List.sum_nil, List.length_cons, List.length_nil, List.replicate_zero, List.replicate_succ, List.append_nil, List.nil_append, List.cons_append, List.getElem?_cons_zero, List.getElem?_cons_succ, List.set_cons_zero, List.set_cons_succ, Nat.add_zero, Nat.zero_add, Nat.reduceAdd, Nat.reduceSub, Nat.reduceLT, Nat.reduceLeDiff, Nat.reduceEqDiff, Nat.reduceBEq, Nat.reduceMul, beq_self_eq_true, Bool.true_or, Bool.false_or, Bool.or_true, Bool.or_false, Bool.and_true, Bool.true_and, Bool.and_self, Bool.and_false, Bool.false_and, if_true, if_false, ite_true, ite_false, Bool.false_eq_true, Option.map_some, Option.map_none, and_self, and_true, true_and, and_false, false_and, true_or, or_true, false_or, or_false, not_true_eq_false, not_false_eq_true, List.drop_zero, List.drop_succ_cons, List.take_succ_cons, List.take_zero, ldA, stA, partA, faddrA, setAt, List.all_cons, List.all_nil, binA, arithA, shiftA, strA, unA, gSpan, gSkip, unG, ne_eq, Option.some.injEq, reduceCtorEq, decide_true, decide_false, elemsA, resA, resAll, resOne, enterA, decide_eq_true_eq, Bool.not_eq_true, Bool.decide_eq_true, List.isEmpty_nil, Bool.not_false, Bool.not_true, List.length_map, Bool.bne_false, Bool.bne_true, List.isEmpty_cons, List.getD_cons_zero, List.getD_cons_succ, List.getD_nil, ite_self, ↓reduceIte, noRefL, clrA, gcT, gcA, gcIds, reach, rhoOf, heapOf, idxA, genB, newGen, renB, refsB, List.contains_cons, List.contains_nil, List.range_zero, List.range_succ, List.flatMap_cons, List.flatMap_nil, List.zip_cons_cons, List.zip_nil_left, List.zip_nil_right, Nat.not_lt_zero, cb_tidingsref01_char, b_tidingsref01_char, cr_tidingsref01_char, x_tidingsref01_char_k0, x_tidingsref01_char_l15, intsV, bytesV, propsV, propV, propC, bytesOf_map, h1, h2, h3, w0, w1, h6, byteV, Int.toNat_zero, Int.le_refl]
      · obtain ⟨b1, t, rfl⟩ : ∃ b1 t', t = b1 :: t' := by
          cases t with
          | nil => simp at h6
          | cons b1 t => exact ⟨b1, t, rfl⟩
        have key := q_charl (b0 :: b1 :: t) 128 1 (by omega) [b1] 1 (b0.toNat - 192) (by omega) rfl (fun j hj => by
          have : j = 0 := by simpa using hj
          subst this; rfl) (by omega) (by simp only [List.length_cons, List.length_nil]; omega) (by simp)
        rw [show (((1 : Nat) : Int)) = 1 from rfl, char1 b0 b1 t (by omega)] at key
        unfold K_tidingsref01_char_l15 at key
        simp -implicitDefEqProofs only [EVS0, EVS1, EVS2, EVS3, EVS4, EVS5, EVS6, EVS7, ite_tf, ite_ft, ite_tft, ite_ftf, ite_list, ite_tt, ite_ee, ite_nt, ite_ne, eq_self, implies_true, forall_const, exI, nsite, freeAt, execI, Opd.ev, tget, tins, tput, keepL, sitesOf, List.map_cons, List.map_nil, List.sum_cons, List.sum_nil, List.length_cons, List.length_nil, List.replicate_zero, List.replicate_succ, List.append_nil, List.nil_append, List.cons_append, List.getElem?_cons_zero, List.getElem?_cons_succ, List.set_cons_zero, List.set_cons_succ, Nat.add_zero, Nat.zero_add, Nat.reduceAdd, Nat.reduceSub, Nat.reduceLT, Nat.reduceLeDiff, Nat.reduceEqDiff, Nat.reduceBEq, Nat.reduceMul, beq_self_eq_true, Bool.true_or, Bool.false_or, Bool.or_true, Bool.or_false, Bool.and_true, Bool.true_and, Bool.and_self, Bool.and_false, Bool.false_and, if_true, if_false, ite_true, ite_false, Bool.false_eq_true, Option.map_some, Option.map_none, and_self, and_true, true_and, and_false, false_and, true_or, or_true, false_or, or_false, not_true_eq_false, not_false_eq_true, List.drop_zero, List.drop_succ_cons, List.take_succ_cons, List.take_zero, ldA, stA, partA, faddrA, setAt, List.all_cons, List.all_nil, binA, arithA, shiftA, strA, unA, gSpan, gSkip, unG, ne_eq, Option.some.injEq, reduceCtorEq, decide_true, decide_false, elemsA, resA, resAll, resOne, enterA, decide_eq_true_eq, Bool.not_eq_true, Bool.decide_eq_true, List.isEmpty_nil, Bool.not_false, Bool.not_true, List.length_map, Bool.bne_false, Bool.bne_true, List.isEmpty_cons, List.getD_cons_zero, List.getD_cons_succ, List.getD_nil, ite_self, ↓reduceIte, noRefL, clrA, gcT, gcA, gcIds, reach, rhoOf, heapOf, idxA, genB, newGen, renB, refsB, List.contains_cons, List.contains_nil, List.range_zero, List.range_succ, List.flatMap_cons, List.flatMap_nil, List.zip_cons_cons, List.zip_nil_left, List.zip_nil_right, Nat.not_lt_zero, cb_tidingsref01_char, b_tidingsref01_char, cr_tidingsref01_char, x_tidingsref01_char_k0, x_tidingsref01_char_l15, intsV, bytesV, propsV, propV, propC, bytesOf_map, h1, h2, h3, w0, w1, h6, byteV, Int.toNat_zero, Int.le_refl]
        exact key
    · by_cases h4 : (b0.toNat : Int) < 240
      · have h3' : (b0.toNat : Int) ≥ 224 := by omega
        have w1 : IntKind.i64.wrap ((b0.toNat : Int) - 224) = b0.toNat - 224 := wrap_nat (by omega) (by omega)
        by_cases h6 : ((t.length + 1 : Nat) : Int) ≤ 2
        · rw [char_short b0 t (Or.inr (Or.inl ⟨by omega, by omega, by omega⟩)), tupF0]
          simp -implicitDefEqProofs only [EVS0, EVS1, EVS2, EVS3, EVS4, EVS5, EVS6, EVS7, ite_tf, ite_ft, ite_tft, ite_ftf, ite_list, ite_tt, ite_ee, ite_nt, ite_ne, eq_self, implies_true, forall_const, exI, nsite, freeAt, execI, Opd.ev, tget, tins, tput, keepL, sitesOf, List.map_cons, List.map_nil, List.sum_cons, List.sum_nil, List.length_cons, List.length_nil, List.replicate_zero, List.replicate_succ, List.append_nil, List.nil_append, List.cons_append, List.getElem?_cons_zero, List.getElem?_cons_succ, List.set_cons_zero, List.set_cons_succ, Nat.add_zero, Nat.zero_add, Nat.reduceAdd, Nat.reduceSub, Nat.reduceLT, Nat.reduceLeDiff, Nat.reduceEqDiff, Nat.reduceBEq, Nat.reduceMul, beq_self_eq_true, Bool.true_or, Bool.false_or, Bool.or_true, Bool.or_false, Bool.and_true, Bool.true_and, Bool.and_self, Bool.and_false, Bool.false_and, if_true, if_false, ite_true, ite_false, Bool.false_eq_true, Option.map_some, Option.map_none, and_self, and_true, true_and, and_false, false_and, true_or, or_true, false_or, or_false, not_true_eq_false, not_false_eq_true, List.drop_zero, List.drop_succ_cons, List.take_succ_cons, List.take_zero, ldA, stA, partA, faddrA, setAt, List.all_cons, List.all_nil, binA, arithA, shiftA, strA, unA, gSpan, gSkip, unG, ne_eq, Option.some.injEq, reduceCtorEq, decide_true, decide_false, elemsA, resA, resAll, resOne, enterA, decide_eq_true_eq, Bool.not_eq_true, Bool.decide_eq_true, List.isEmpty_nil, Bool.not_false, Bool.not_true, List.length_map, Bool.bne_false, Bool.bne_true, List.isEmpty_cons, List.getD_cons_zero, List.getD_cons_succ, List.getD_nil, ite_self, ↓reduceIte, noRefL, clrA, gcT, gcA, gcIds, reach, rhoOf, heapOf, idxA, genB, newGen, renB, refsB, List.contains_cons, List.contains_nil, List.range_zero, List.range_succ, List.flatMap_cons, List.flatMap_nil, List.zip_cons_cons, List.zip_nil_left, List.zip_nil_right, Nat.not_lt_zero, cb_tidingsref01_char, b_tidingsref01_char, cr_tidingsref01_char, x_tidingsref01_char_k0, x_tidingsref01_char_l15, intsV, bytesV, propsV, propV, propC, bytesOf_map, h1, h2, h3, h3', h4, w0, w1, h6, byteV, Int.toNat_zero, Int.le_refl]
        · obtain ⟨b1, b2, t, rfl⟩ : ∃ b1 b2 t', t = b1 :: b2 :: t' := by
            match t, h6 with
            | [], h6 => simp at h6
            | [_], h6 => simp at h6
            | b1 :: b2 :: t, _ => exact ⟨b1, b2, t, rfl⟩
          have key := q_charl (b0 :: b1 :: b2 :: t) 2048 2 (by omega) [b1, b2] 1 (b0.toNat - 224) (by omega) rfl (fun j hj => by
            match j, hj with
            | 0, _ => rfl
            | 1, _ => rfl
            | j + 2, hj => simp at hj; omega) (by omega) (by simp only [List.length_cons, List.length_nil]; omega) (by simp)
          rw [show (((2 : Nat) : Int)) = 2 from rfl, show (((1 : Nat) : Int)) = 1 from rfl, char2 b0 b1 b2 t (by omega)] at key
          unfold K_tidingsref01_char_l15 at key
          simp -implicitDefEqProofs only [EVS0, EVS1, EVS2, EVS3, EVS4, EVS5, EVS6, EVS7, ite_tf, ite_ft, ite_tft, ite_ftf, ite_list, ite_tt, ite_ee, ite_nt, ite_ne, eq_self, implies_true, forall_const, exI, nsite, freeAt, execI, Opd.ev, tget, tins, tput, keepL, sitesOf, List.map_cons, List.map_nil, List.sum_cons, List.sum_nil, List.length_cons, List.length_nil, List.replicate_zero, List.replicate_succ, List.append_nil, List.nil_append, List.cons_append, List.getElem?_cons_zero, List.getElem?_cons_succ, List.set_cons_zero, List.set_cons_succ, Nat.add_zero, Nat.zero_add, Nat.reduceAdd, Nat.reduceSub, Nat.reduceLT, Nat.reduceLeDiff, Nat.reduceEqDiff, Nat.reduceBEq, Nat.reduceMul, beq_self_eq_true, Bool.true_or, Bool.false_or, Bool.or_true, Bool.or_false, Bool.and_true, Bool.true_and, Bool.and_self, Bool.and_false, Bool.false_and, if_true, if_false, ite_true, ite_false, Bool.false_eq_true, Option.map_some, Option.map_none, and_self, and_true, true_and, and_false, false_and, true_or, or_true, false_or, or_false, not_true_eq_false, not_false_eq_true, List.drop_zero, List.drop_succ_cons, List.take_succ_cons, List.take_zero, ldA, stA, partA, faddrA, setAt, List.all_cons, List.all_nil, binA, arithA, shiftA, strA, unA, gSpan, gSkip, unG, ne_eq, Option.some.injEq, reduceCtorEq, decide_true, decide_false, elemsA, resA, resAll, resOne, enterA, decide_eq_true_eq, Bool.not_eq_true, Bool.decide_eq_true, List.isEmpty_nil, Bool.not_false, Bool.not_true, List.length_map, Bool.bne_false, Bool.bne_true, List.isEmpty_cons, List.getD_cons_zero, List.getD_cons_succ, List.getD_nil, ite_self, ↓reduceIte, noRefL, clrA, gcT, gcA, gcIds, reach, rhoOf, heapOf, idxA, genB, newGen, renB, refsB, List.contains_cons, List.contains_nil, List.range_zero, List.range_succ, List.flatMap_cons, List.flatMap_nil, List.zip_cons_cons, List.zip_nil_left, List.zip_nil_right, Nat.not_lt_zero, cb_tidingsref01_char, b_tidingsref01_char, cr_tidingsref01_char, x_tidingsref01_char_k0, x_tidingsref01_char_l15, intsV, bytesV, propsV, propV, propC, bytesOf_map, h1, h2, h3, h3', h4, w0, w1, h6, byteV, Int.toNat_zero, Int.le_refl]
          exact key
      · by_cases h5 : (b0.toNat : Int) < 248
        · have h3' : (b0.toNat : Int) ≥ 224 := by omega
          have h4' : (b0.toNat : Int) ≥ 240 := by omega
          have w1 : IntKind.i64.wrap ((b0.toNat : Int) - 240) = b0.toNat - 240 := wrap_nat (by omega) (by omega)
          by_cases h6 : ((t.length + 1 : Nat) : Int) ≤ 3
          · rw [char_short b0 t (Or.inr (Or.inr (Or.inl ⟨by omega, by omega, by omega⟩))), tupF0]
            simp -implicitDefEqProofs only [EVS0, EVS1, EVS2, EVS3, EVS4, EVS5, EVS6, EVS7, ite_tf, ite_ft, ite_tft, ite_ftf, ite_list, ite_tt, ite_ee, ite_nt, ite_ne, eq_self, implies_true, forall_const, exI, nsite, freeAt, execI, Opd.ev, tget, tins, tput, keepL, sitesOf, List.map_cons, List.map_nil, List.sum_cons, List.sum_nil, List.length_cons, List.length_nil, List.replicate_zero, List.replicate_succ, List.append_nil, List.nil_append, List.cons_append, List.getElem?_cons_zero, List.getElem?_cons_succ, List.set_cons_zero, List.set_cons_succ, Nat.add_zero, Nat.zero_add, Nat.reduceAdd, Nat.reduceSub, Nat.reduceLT, Nat.reduceLeDiff, Nat.reduceEqDiff, Nat.reduceBEq, Nat.reduceMul, beq_self_eq_true, Bool.true_or, Bool.false_or, Bool.or_true, Bool.or_false, Bool.and_true, Bool.true_and, Bool.and_self, Bool.and_false, Bool.false_and, if_true, if_false, ite_true, ite_false, Bool.false_eq_true, Option.map_some, Option.map_none, and_self, and_true, true_and, and_false, false_and, true_or, or_true, false_or, or_false, not_true_eq_false, not_false_eq_true, List.drop_zero, List.drop_succ_cons, List.take_succ_cons, List.take_zero, ldA, stA, partA, faddrA, setAt, List.all_cons, List.all_nil, binA, arithA, shiftA, strA, unA, gSpan, gSkip, unG, ne_eq, Option.some.injEq, reduceCtorEq, decide_true, decide_false, elemsA, resA, resAll, resOne, enterA, decide_eq_true_eq, Bool.not_eq_true, Bool.decide_eq_true, List.isEmpty_nil, Bool.not_false, Bool.not_true, List.length_map, Bool.bne_false, Bool.bne_true, List.isEmpty_cons, List.getD_cons_zero, List.getD_cons_succ, List.getD_nil, ite_self, ↓reduceIte, noRefL, clrA, gcT, gcA, gcIds, reach, rhoOf, heapOf, idxA, genB, newGen, renB, refsB, List.contains_cons, List.contains_nil, List.range_zero, List.range_succ, List.flatMap_cons, List.flatMap_nil, List.zip_cons_cons, List.zip_nil_left, List.zip_nil_right, Nat.not_lt_zero, cb_tidingsref01_char, b_tidingsref01_char, cr_tidingsref01_char, x_tidingsref01_char_k0, x_tidingsref01_char_l15, intsV, bytesV, propsV, propV, propC, bytesOf_map, h1, h2, h3, h3', h4, h4', h5, w0, w1, h6, byteV, Int.toNat_zero, Int.le_refl]
          · obtain ⟨b1, b2, b3, t, rfl⟩ : ∃ b1 b2 b3 t', t = b1 :: b2 :: b3 :: t' := by
              match t, h6 with
              | [], h6 => simp at h6
              | [_], h6 => simp at h6
              | [_, _], h6 => simp at h6
              | b1 :: b2 :: b3 :: t, _ => exact ⟨b1, b2, b3, t, rfl⟩
            have key := q_charl (b0 :: b1 :: b2 :: b3 :: t) 65536 3 (by omega) [b1, b2, b3] 1 (b0.toNat - 240) (by omega) rfl (fun j hj => by
              match j, hj with
              | 0, _ => rfl
              | 1, _ => rfl
              | 2, _ => rfl
              | j + 3, hj => simp at hj; omega) (by omega) (by simp only [List.length_cons, List.length_nil]; omega) (by simp)
            rw [show (((3 : Nat) : Int)) = 3 from rfl, show (((1 : Nat) : Int)) = 1 from rfl, char3 b0 b1 b2 b3 t (by omega)] at key
            unfold K_tidingsref01_char_l15 at key
            simp -implicitDefEqProofs only [EVS0, EVS1, EVS2, EVS3, EVS4, EVS5, EVS6, EVS7, ite_tf, ite_ft, ite_tft, ite_ftf, ite_list, ite_tt, ite_ee, ite_nt, ite_ne, eq_self, implies_true, forall_const, exI, nsite, freeAt, execI, Opd.ev, tget, tins, tput, keepL, sitesOf, List.map_cons, List.map_nil, List.sum_cons, List.sum_nil, List.length_cons, List.length_nil, List.replicate_zero, List.replicate_succ, List.append_nil, List.nil_append, List.cons_append, List.getElem?_cons_zero, List.getElem?_cons_succ, List.set_cons_zero, List.set_cons_succ, Nat.add_zero, Nat.zero_add, Nat.reduceAdd, Nat.reduceSub, Nat.reduceLT, Nat.reduceLeDiff, Nat.reduceEqDiff, Nat.reduceBEq, Nat.reduceMul, beq_self_eq_true, Bool.true_or, Bool.false_or, Bool.or_true, Bool.or_false, Bool.and_true, Bool.true_and, Bool.and_self, Bool.and_false, Bool.false_and, if_true, if_false, ite_true, ite_false, Bool.false_eq_true, Option.map_some, Option.map_none, and_self, and_true, true_and, and_false, false_and, true_or, or_true, false_or, or_false, not_true_eq_false, not_false_eq_true, List.drop_zero, List.drop_succ_cons, List.take_succ_cons, List.take_zero, ldA, stA, partA, faddrA, setAt, List.all_cons, List.all_nil, binA, arithA, shiftA, strA, unA, gSpan, gSkip, unG, ne_eq, Option.some.injEq, reduceCtorEq, decide_true, decide_false, elemsA, resA, resAll, resOne, enterA, decide_eq_true_eq, Bool.not_eq_true, Bool.decide_eq_true, List.isEmpty_nil, Bool.not_false, Bool.not_true, List.length_map, Bool.bne_false, Bool.bne_true, List.isEmpty_cons, List.getD_cons_zero, List.getD_cons_succ, List.getD_nil, ite_self, ↓reduceIte, noRefL, clrA, gcT, gcA, gcIds, reach, rhoOf, heapOf, idxA, genB, newGen, renB, refsB, List.contains_cons, List.contains_nil, List.range_zero, List.range_succ, List.flatMap_cons, List.flatMap_nil, List.zip_cons_cons, List.zip_nil_left, List.zip_nil_right, Nat.not_lt_zero, cb_tidingsref01_char, b_tidingsref01_char, cr_tidingsref01_char, x_tidingsref01_char_k0, x_tidingsref01_char_l15, intsV, bytesV, propsV, propV, propC, bytesOf_map, h1, h2, h3, h3', h4, h4', h5, w0, w1, h6, byteV, Int.toNat_zero, Int.le_refl]
            exact key
        · have h3' : (b0.toNat : Int) ≥ 224 := by omega
          have h4' : (b0.toNat : Int) ≥ 240 := by omega
          rw [char_short b0 t (Or.inr (Or.inr (Or.inr (Or.inr (by omega))))), tupF0]
          simp -implicitDefEqProofs only [EVS0, EVS1, EVS2, EVS3, EVS4, EVS5, EVS6, EVS7, ite_tf, ite_ft, ite_tft, ite_ftf, ite_list, ite_tt, ite_ee, ite_nt, ite_ne, eq_self, implies_true, forall_const, exI, nsite, freeAt, execI, Opd.ev, tget, tins, tput, keepL, sitesOf, List.map_cons, List.map_nil, List.sum_cons, List.sum_nil, List.length_cons, List.length_nil, List.replicate_zero, List.replicate_succ, List.append_nil, List.nil_append, List.cons_append, List.getElem?_cons_zero, List.getElem?_cons_succ, List.set_cons_zero, List.set_cons_succ, Nat.add_zero, Nat.zero_add, Nat.reduceAdd, Nat.reduceSub, Nat.reduceLT, Nat.reduceLeDiff, Nat.reduceEqDiff, Nat.reduceBEq, Nat.reduceMul, beq_self_eq_true, Bool.true_or, Bool.false_or, Bool.or_true, Bool.or_false, Bool.and_true, Bool.true_and, Bool.and_self, Bool.and_false, Bool.false_and, if_true, if_false, ite_true, ite_false, Bool.false_eq_true, Option.map_some, Option.map_none, and_self, and_true, true_and, and_false, false_and, true_or, or_true, false_or, or_false, not_true_eq_false, not_false_eq_true, List.drop_zero, List.drop_succ_cons, List.take_succ_cons, List.take_zero, ldA, stA, partA, faddrA, setAt, List.all_cons, List.all_nil, binA, arithA, shiftA, strA, unA, gSpan, gSkip, unG, ne_eq, Option.some.injEq, reduceCtorEq, decide_true, decide_false, elemsA, resA, resAll, resOne, enterA, decide_eq_true_eq, Bool.not_eq_true, Bool.decide_eq_true, List.isEmpty_nil, Bool.not_false, Bool.not_true, List.length_map, Bool.bne_false, Bool.bne_true, List.isEmpty_cons, List.getD_cons_zero, List.getD_cons_succ, List.getD_nil, ite_self, ↓reduceIte, noRefL, clrA, gcT, gcA, gcIds, reach, rhoOf, heapOf, idxA, genB, newGen, renB, refsB, List.contains_cons, List.contains_nil, List.range_zero, List.range_succ, List.flatMap_cons, List.flatMap_nil, List.zip_cons_cons, List.zip_nil_left, List.zip_nil_right, Nat.not_lt_zero, cb_tidingsref01_char, b_tidingsref01_char, cr_tidingsref01_char, x_tidingsref01_char_k0, x_tidingsref01_char_l15, intsV, bytesV, propsV, propV, propC, bytesOf_map, h1, h2, h3, h3', h4, h4', h5, w0, byteV, Int.toNat_zero, Int.le_refl]
  · have h3 : ¬ (b0.toNat : Int) ≥ 224 := by omega
    have h4 : ¬ (b0.toNat : Int) ≥ 240 := by omega
    rw [char_short b0 t (Or.inr (Or.inr (Or.inr (Or.inl (by omega))))), tupF0]
    simp -implicitDefEqProofs only [EVS0, EVS1, EVS2, EVS3, EVS4, EVS5, EVS6, EVS7, ite_tf, ite_ft, ite_tft, ite_ftf, ite_list, ite_tt, ite_ee, ite_nt, ite_ne, eq_self, implies_true, forall_const, exI, nsite, freeAt, execI, Opd.ev, tget, tins, tput, keepL, sitesOf, List.map_cons, List.map_nil, List.sum_cons, List.sum_nil, List.length_cons, List.length_nil, List.replicate_zero, List.replicate_succ, List.append_nil, List.nil_append, List.cons_append, List.getElem?_cons_zero, List.getElem?_cons_succ, List.set_cons_zero, List.set_cons_succ, Nat.add_zero, Nat.zero_add, Nat.reduceAdd, Nat.reduceSub, Nat.reduceLT, Nat.reduceLeDiff, Nat.reduceEqDiff, Nat.reduceBEq, Nat.reduceMul, beq_self_eq_true, Bool.true_or, Bool.false_or, Bool.or_true, Bool.or_false, Bool.and_true, Bool.true_and, Bool.and_self, Bool.and_false, Bool.false_and, if_true, if_false, ite_true, ite_false, Bool.false_eq_true, Option.map_some, Option.map_none, and_self, and_true, true_and, and_false, false_and, true_or, or_true, false_or, or_false, not_true_eq_false, not_false_eq_true, List.drop_zero, List.drop_succ_cons, List.take_succ_cons, List.take_zero, ldA, stA, partA, faddrA, setAt, List.all_cons, List.all_nil, binA, arithA, shiftA, strA, unA, gSpan, gSkip, unG, ne_eq, Option.some.injEq, reduceCtorEq, decide_true, decide_false, elemsA, resA, resAll, resOne, enterA, decide_eq_true_eq, Bool.not_eq_true, Bool.decide_eq_true, List.isEmpty_nil, Bool.not_false, Bool.not_true, List.length_map, Bool.bne_false, Bool.bne_true, List.isEmpty_cons, List.getD_cons_zero, List.getD_cons_succ, List.getD_nil, ite_self, ↓reduceIte, noRefL, clrA, gcT, gcA, gcIds, reach, rhoOf, heapOf, idxA, genB, newGen, renB, refsB, List.contains_cons, List.contains_nil, List.range_zero, List.range_succ, List.flatMap_cons, List.flatMap_nil, List.zip_cons_cons, List.zip_nil_left, List.zip_nil_right, Nat.not_lt_zero, cb_tidingsref01_char, b_tidingsref01_char, cr_tidingsref01_char, x_tidingsref01_char_k0, x_tidingsref01_char_l15, intsV, bytesV, propsV, propV, propC, bytesOf_map, h1, h2, h3, h4, w0, byteV, Int.toNat_zero, Int.le_refl]
theorem call_char (σ : AHeap) (site own : Nat) (view : Bool) (b0 : UInt8) (t : List UInt8) : callG E BY σ site 52 own view [.str (b0 :: t)] = some (tupF (charF (b0 :: t)), σ, {}) :=
  call_flat (q_char b0 t) (by kernel_rfl) (by simp -implicitDefEqProofs only [EVS0, EVS1, EVS2, EVS3, EVS4, EVS5, EVS6, EVS7, List.all_cons, List.all_nil, List.map_cons, List.map_nil, Bool.and_self, Bool.and_true, Bool.true_and, eq_self, and_self, List.length_map, implies_true, Bool.false_eq_true, if_false, if_true, intsV, bytesV, propsV, propV, propC, tupF]) (by simp -implicitDefEqProofs only [EVS0, EVS1, EVS2, EVS3, EVS4, EVS5, EVS6, EVS7, List.all_cons, List.all_nil, List.map_cons, List.map_nil, Bool.and_self, Bool.and_true, Bool.true_and, eq_self, and_self, List.length_map, implies_true, Bool.false_eq_true, if_false, if_true, intsV, bytesV, propsV, propV, propC, tupF]) rfl (fun _ => rfl) _ _ _ _
theorem q_ristl : ∀ (n : Nat) (l : List UInt8), l.length ≤ n → l.length ≤ 9223372036854775807 → K_tidingsref01_IsText_l1 0 [(0, .str l)] [] = some (.bool (zfG n l && Lib.validGoD n l), [])
  | n, [], _, _ => by
    have e : (zfG n [] && Lib.validGoD n []) = true := by cases n <;> rfl
    rw [e]
    unfold K_tidingsref01_IsText_l1
    rw [evL_eq]
    simp -implicitDefEqProofs only [EVS0, EVS1, EVS2, EVS3, EVS4, EVS5, EVS6, EVS7, ite_tf, ite_ft, ite_tft, ite_ftf, ite_list, ite_tt, ite_ee, ite_nt, ite_ne, eq_self, implies_true, forall_const, exI, nsite, freeAt, execI, Opd.ev, tget, tins, tput, keepL, sitesOf, List.map_cons, List.map_nil, List.sum_cons, List.sum_nil, List.length_cons, List.length_nil, List.replicate_zero, List.replicate_succ, List.append_nil, List.nil_append, List.cons_append, List.getElem?_cons_zero, List.getElem?_cons_succ, List.set_cons_zero, List.set_cons_succ, Nat.add_zero, Nat.zero_add, Nat.reduceAdd, Nat.reduceSub, Nat.reduceLT, Nat.reduceLeDiff, Nat.reduceEqDiff, Nat.reduceBEq, Nat.reduceMul, beq_self_eq_true, Bool.true_or, Bool.false_or, Bool.or_true, Bool.or_false, Bool.and_true, Bool.true_and, Bool.and_self, Bool.and_false, Bool.false_and, if_true, if_false, ite_true, ite_false, Bool.false_eq_true, Option.map_some, Option.map_none, and_self, and_true, true_and, and_false, false_and, true_or, or_true, false_or, or_false, not_true_eq_false, not_false_eq_true, List.drop_zero, List.drop_succ_cons, List.take_succ_cons, List.take_zero, ldA, stA, partA, faddrA, setAt, List.all_cons, List.all_nil, binA, arithA, shiftA, strA, unA, gSpan, gSkip, unG, ne_eq, Option.some.injEq, reduceCtorEq, decide_true, decide_false, elemsA, resA, resAll, resOne, enterA, decide_eq_true_eq, Bool.not_eq_true, Bool.decide_eq_true, List.isEmpty_nil, Bool.not_false, Bool.not_true, List.length_map, Bool.bne_false, Bool.bne_true, List.isEmpty_cons, List.getD_cons_zero, List.getD_cons_succ, List.getD_nil, ite_self, ↓reduceIte, noRefL, clrA, gcT, gcA, gcIds, reach, rhoOf, heapOf, idxA, genB, newGen, renB, refsB, List.contains_cons, List.contains_nil, List.range_zero, List.range_succ, List.flatMap_cons, List.flatMap_nil, List.zip_cons_cons, List.zip_nil_left, List.zip_nil_right, Nat.not_lt_zero, cb_tidingsref01_IsText, b_tidingsref01_IsText, cr_tidingsref01_IsText, x_tidingsref01_IsText_k0, x_tidingsref01_IsText_l1, intsV, bytesV, propsV, propV, propC, bytesOf_map, intsV]
  | 0, b0 :: t, h, _ => by simp at h
  | n + 1, b0 :: t, h, hl => by
    have hw := Lib.decodeL_width (b0 :: t)
    have hle := Lib.decodeL_le (b0 :: t) (by simp)
    have e0 : ((b0 :: t) == ([] : List UInt8)) = false := by simp
    have hne : (b0 :: t) ≠ ([] : List UInt8) := by simp
    unfold K_tidingsref01_IsText_l1
    rw [evL_eq]
    by_cases hb : (Lib.decodeL (b0 :: t)).1 = 65533 ∧ (Lib.decodeL (b0 :: t)).2 = 1
    · have hc : charF (b0 :: t) = (0, 0) := if_pos hb
      have e : (zfG (n + 1) (b0 :: t) && Lib.validGoD (n + 1) (b0 :: t)) = false := by
        simp only [Lib.validGoD]
        rw [if_neg hne, if_pos hb, Bool.and_false]
      rw [e]
      simp -implicitDefEqProofs only [EVS0, EVS1, EVS2, EVS3, EVS4, EVS5, EVS6, EVS7, ite_tf, ite_ft, ite_tft, ite_ftf, ite_list, ite_tt, ite_ee, ite_nt, ite_ne, eq_self, implies_true, forall_const, exI, nsite, freeAt, execI, Opd.ev, tget, tins, tput, keepL, sitesOf, List.map_cons, List.map_nil, List.sum_cons, List.sum_nil, List.length_cons, List.length_nil, List.replicate_zero, List.replicate_succ, List.append_nil, List.nil_append, List.cons_append, List.getElem?_cons_zero, List.getElem?_cons_succ, List.set_cons_zero, List.set_cons_succ, Nat.add_zero, Nat.zero_add, Nat.reduceAdd, Nat.reduceSub, Nat.reduceLT, Nat.reduceLeDiff, Nat.reduceEqDiff, Nat.reduceBEq, Nat.reduceMul, beq_self_eq_true, Bool.true_or, Bool.false_or, Bool.or_true, Bool.or_false, Bool.and_true, Bool.true_and, Bool.and_self, Bool.and_false, Bool.false_and, if_true, if_false, ite_true, ite_false, Bool.false_eq_true, Option.map_some, Option.map_none, and_self, and_true, true_and, and_false, false_and, true_or, or_true, false_or, or_false, not_true_eq_false, not_false_eq_true, List.drop_zero, List.drop_succ_cons, List.take_succ_cons, List.take_zero, ldA, stA, partA, faddrA, setAt, List.all_cons, List.all_nil, binA, arithA, shiftA, strA, unA, gSpan, gSkip, unG, ne_eq, Option.some.injEq, reduceCtorEq, decide_true, decide_false, elemsA, resA, resAll, resOne, enterA, decide_eq_true_eq, Bool.not_eq_true, Bool.decide_eq_true, List.isEmpty_nil, Bool.not_false, Bool.not_true, List.length_map, Bool.bne_false, Bool.bne_true, List.isEmpty_cons, List.getD_cons_zero, List.getD_cons_succ, List.getD_nil, ite_self, ↓reduceIte, noRefL, clrA, gcT, gcA, gcIds, reach, rhoOf, heapOf, idxA, genB, newGen, renB, refsB, List.contains_cons, List.contains_nil, List.range_zero, List.range_succ, List.flatMap_cons, List.flatMap_nil, List.zip_cons_cons, List.zip_nil_left, List.zip_nil_right, Nat.not_lt_zero, cb_tidingsref01_IsText, b_tidingsref01_IsText, cr_tidingsref01_IsText, x_tidingsref01_IsText_k0, x_tidingsref01_IsText_l1, intsV, bytesV, propsV, propV, propC, bytesOf_map, e0, call_char, hc, tupF0]
    · have hc : charF (b0 :: t) = Lib.decodeL (b0 :: t) := if_neg hb
      have n1 : (((Lib.decodeL (b0 :: t)).2 : Int) == 0) = false := by rw [beq_eq_false_iff_ne]; omega
      by_cases hz : (Lib.decodeL (b0 :: t)).1 = 0
      · have z1 : (((Lib.decodeL (b0 :: t)).1 : Int) == 0) = true := by rw [beq_iff_eq]; omega
        have e : (zfG (n + 1) (b0 :: t) && Lib.validGoD (n + 1) (b0 :: t)) = false := by
          rw [zfG, if_neg hne, if_pos hz, Bool.false_and]
        rw [e]
        simp -implicitDefEqProofs only [EVS0, EVS1, EVS2, EVS3, EVS4, EVS5, EVS6, EVS7, ite_tf, ite_ft, ite_tft, ite_ftf, ite_list, ite_tt, ite_ee, ite_nt, ite_ne, eq_self, implies_true, forall_const, exI, nsite, freeAt, execI, Opd.ev, tget, tins, tput, keepL, sitesOf, List.map_cons, List.map_nil, List.sum_cons, List.sum_nil, List.length_cons, List.length_nil, List.replicate_zero, List.replicate_succ, List.append_nil, List.nil_append, List.cons_append, List.getElem?_cons_zero, List.getElem?_cons_succ, List.set_cons_zero, List.set_cons_succ, Nat.add_zero, Nat.zero_add, Nat.reduceAdd, Nat.reduceSub, Nat.reduceLT, Nat.reduceLeDiff, Nat.reduceEqDiff, Nat.reduceBEq, Nat.reduceMul, beq_self_eq_true, Bool.true_or, Bool.false_or, Bool.or_true, Bool.or_false, Bool.and_true, Bool.true_and, Bool.and_self, Bool.and_false, Bool.false_and, if_true, if_false, ite_true, ite_false, Bool.false_eq_true, Option.map_some, Option.map_none, and_self, and_true, true_and, and_false, false_and, true_or, or_true, false_or, or_false, not_true_eq_false, not_false_eq_true, List.drop_zero, List.drop_succ_cons, List.take_succ_cons, List.take_zero, ldA, stA, partA, faddrA, setAt, List.all_cons, List.all_nil, binA, arithA, shiftA, strA, unA, gSpan, gSkip, unG, ne_eq, Option.some.injEq, reduceCtorEq, decide_true, decide_false, elemsA, resA, resAll, resOne, enterA, decide_eq_true_eq, Bool.not_eq_true, Bool.decide_eq_true, List.isEmpty_nil, Bool.not_false, Bool.not_true, List.length_map, Bool.bne_false, Bool.bne_true, List.isEmpty_cons, List.getD_cons_zero, List.getD_cons_succ, List.getD_nil, ite_self, ↓reduceIte, noRefL, clrA, gcT, gcA, gcIds, reach, rhoOf, heapOf, idxA, genB, newGen, renB, refsB, List.contains_cons, List.contains_nil, List.range_zero, List.range_succ, List.flatMap_cons, List.flatMap_nil, List.zip_cons_cons, List.zip_nil_left, List.zip_nil_right, Nat.not_lt_zero, cb_tidingsref01_IsText, b_tidingsref01_IsText, cr_tidingsref01_IsText, x_tidingsref01_IsText_k0, x_tidingsref01_IsText_l1, intsV, bytesV, propsV, propV, propC, bytesOf_map, e0, call_char, hc, tupF, n1, z1]
      · have z1 : (((Lib.decodeL (b0 :: t)).1 : Int) == 0) = false := by rw [beq_eq_false_iff_ne]; omega
        have e : (zfG (n + 1) (b0 :: t) && Lib.validGoD (n + 1) (b0 :: t)) = (zfG n ((b0 :: t).drop (Lib.decodeL (b0 :: t)).2) && Lib.validGoD n ((b0 :: t).drop (Lib.decodeL (b0 :: t)).2)) := by
          rw [zfG, if_neg hne, if_neg hz, Lib.validGoD, if_neg hne, if_neg hb]
        have ih := q_ristl n ((b0 :: t).drop (Lib.decodeL (b0 :: t)).2) (by simp only [List.length_drop] at *; omega) (by simp only [List.length_drop]; omega)
        rw [e]
        unfold K_tidingsref01_IsText_l1 at ih
        have l0 : (0 : Int) ≤ ((Lib.decodeL (b0 :: t)).2 : Int) := by omega
        have l1 : ((Lib.decodeL (b0 :: t)).2 : Int) ≤ ((t.length + 1 : Nat) : Int) := by simp only [List.length_cons] at hle; omega
        have l2 : (b0 :: t).take (t.length + 1) = b0 :: t := List.take_of_length_le (by simp)
        simp -implicitDefEqProofs only [EVS0, EVS1, EVS2, EVS3, EVS4, EVS5, EVS6, EVS7, ite_tf, ite_ft, ite_tft, ite_ftf, ite_list, ite_tt, ite_ee, ite_nt, ite_ne, eq_self, implies_true, forall_const, exI, nsite, freeAt, execI, Opd.ev, tget, tins, tput, keepL, sitesOf, List.map_cons, List.map_nil, List.sum_cons, List.sum_nil, List.length_cons, List.length_nil, List.replicate_zero, List.replicate_succ, List.append_nil, List.nil_append, List.cons_append, List.getElem?_cons_zero, List.getElem?_cons_succ, List.set_cons_zero, List.set_cons_succ, Nat.add_zero, Nat.zero_add, Nat.reduceAdd, Nat.reduceSub, Nat.reduceLT, Nat.reduceLeDiff, Nat.reduceEqDiff, Nat.reduceBEq, Nat.reduceMul, beq_self_eq_true, Bool.true_or, Bool.false_or, Bool.or_true, Bool.or_false, Bool.and_true, Bool.true_and, Bool.and_self, Bool.and_false, Bool.false_and, if_true, if_false, ite_true, ite_false, Bool.false_eq_true, Option.map_some, Option.map_none, and_self, and_true, true_and, and_false, false_and, true_or, or_true, false_or, or_false, not_true_eq_false, not_false_eq_true, List.drop_zero, List.drop_succ_cons, List.take_succ_cons, List.take_zero, ldA, stA, partA, faddrA, setAt, List.all_cons, List.all_nil, binA, arithA, shiftA, strA, unA, gSpan, gSkip, unG, ne_eq, Option.some.injEq, reduceCtorEq, decide_true, decide_false, elemsA, resA, resAll, resOne, enterA, decide_eq_true_eq, Bool.not_eq_true, Bool.decide_eq_true, List.isEmpty_nil, Bool.not_false, Bool.not_true, List.length_map, Bool.bne_false, Bool.bne_true, List.isEmpty_cons, List.getD_cons_zero, List.getD_cons_succ, List.getD_nil, ite_self, ↓reduceIte, noRefL, clrA, gcT, gcA, gcIds, reach, rhoOf, heapOf, idxA, genB, newGen, renB, refsB, List.contains_cons, List.contains_nil, List.range_zero, List.range_succ, List.flatMap_cons, List.flatMap_nil, List.zip_cons_cons, List.zip_nil_left, List.zip_nil_right, Nat.not_lt_zero, cb_tidingsref01_IsText, b_tidingsref01_IsText, cr_tidingsref01_IsText, x_tidingsref01_IsText_k0, x_tidingsref01_IsText_l1, intsV, bytesV, propsV, propV, propC, bytesOf_map, e0, call_char, hc, tupF, n1, z1, optB, boundA, l0, l1, l2, Int.toNat_natCast]
        exact ih
theorem q_ristext (l : List UInt8) (hl : l.length ≤ 9223372036854775807) : E 41 [.str l] [] = some (.bool (textB l), []) := by
  rw [E_eq (by rfl) cf_tidingsref01_IsText]
  have := q_ristl l.length l (Nat.le_refl _) hl
  unfold K_tidingsref01_IsText_l1 at this
  simp -implicitDefEqProofs only [EVS0, EVS1, EVS2, EVS3, EVS4, EVS5, EVS6, EVS7, ite_tf, ite_ft, ite_tft, ite_ftf, ite_list, ite_tt, ite_ee, ite_nt, ite_ne, eq_self, implies_true, forall_const, exI, nsite, freeAt, execI, Opd.ev, tget, tins, tput, keepL, sitesOf, List.map_cons, List.map_nil, List.sum_cons, List.sum_nil, List.length_cons, List.length_nil, List.replicate_zero, List.replicate_succ, List.append_nil, List.nil_append, List.cons_append, List.getElem?_cons_zero, List.getElem?_cons_succ, List.set_cons_zero, List.set_cons_succ, Nat.add_zero, Nat.zero_add, Nat.reduceAdd, Nat.reduceSub, Nat.reduceLT, Nat.reduceLeDiff, Nat.reduceEqDiff, Nat.reduceBEq, Nat.reduceMul, beq_self_eq_true, Bool.true_or, Bool.false_or, Bool.or_true, Bool.or_false, Bool.and_true, Bool.true_and, Bool.and_self, Bool.and_false, Bool.false_and, if_true, if_false, ite_true, ite_false, Bool.false_eq_true, Option.map_some, Option.map_none, and_self, and_true, true_and, and_false, false_and, true_or, or_true, false_or, or_false, not_true_eq_false, not_false_eq_true, List.drop_zero, List.drop_succ_cons, List.take_succ_cons, List.take_zero, ldA, stA, partA, faddrA, setAt, List.all_cons, List.all_nil, binA, arithA, shiftA, strA, unA, gSpan, gSkip, unG, ne_eq, Option.some.injEq, reduceCtorEq, decide_true, decide_false, elemsA, resA, resAll, resOne, enterA, decide_eq_true_eq, Bool.not_eq_true, Bool.decide_eq_true, List.isEmpty_nil, Bool.not_false, Bool.not_true, List.length_map, Bool.bne_false, Bool.bne_true, List.isEmpty_cons, List.getD_cons_zero, List.getD_cons_succ, List.getD_nil, ite_self, ↓reduceIte, noRefL, clrA, gcT, gcA, gcIds, reach, rhoOf, heapOf, idxA, genB, newGen, renB, refsB, List.contains_cons, List.contains_nil, List.range_zero, List.range_succ, List.flatMap_cons, List.flatMap_nil, List.zip_cons_cons, List.zip_nil_left, List.zip_nil_right, Nat.not_lt_zero, cb_tidingsref01_IsText, b_tidingsref01_IsText, cr_tidingsref01_IsText, x_tidingsref01_IsText_k0, x_tidingsref01_IsText_l1, intsV, bytesV, propsV, propV, propC, bytesOf_map, intsV]
  rw [this]; rfl
theorem q_ristextC (σ : AHeap) (site own : Nat) (view : Bool) (l : List UInt8) (hl : l.length ≤ 9223372036854775807) : callG E BY σ site 41 own view [.str l] = some (.bool (textB l), σ, {}) :=
  call_flat (q_ristext l hl) (by kernel_rfl) (by simp -implicitDefEqProofs only [EVS0, EVS1, EVS2, EVS3, EVS4, EVS5, EVS6, EVS7, List.all_cons, List.all_nil, List.map_cons, List.map_nil, Bool.and_self, Bool.and_true, Bool.true_and, eq_self, and_self, List.length_map, implies_true, Bool.false_eq_true, if_false, if_true, intsV, bytesV, propsV, propV, propC, intsV]) (by simp -implicitDefEqProofs only [EVS0, EVS1, EVS2, EVS3, EVS4, EVS5, EVS6, EVS7, List.all_cons, List.all_nil, List.map_cons, List.map_nil, Bool.and_self, Bool.and_true, Bool.true_and, eq_self, and_self, List.length_map, implies_true, Bool.false_eq_true, if_false, if_true, intsV, bytesV, propsV, propV, propC, intsV]) rfl (fun _ => rfl) _ _ _ _
end Go.Proofs.YtochhdiilicpgaaDoor
