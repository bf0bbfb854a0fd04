/- Texts: whether bytes are a text. strings.ContainsAny of "+#". Names of topics: what the program and the reference say of them. conn.refused, over any packet. The code of functions as the interpreter reads it: Note. Printed by a program. Which properties are kept: slices.Contains, prop.Only, note.kept; the reference's. slices.DeleteFunc, over an own row of properties, of those that are no expiry. The code of functions as the interpreter reads it: Keep. Printed by a program. Bytes that are lent, and taken back. Calls that are handed an own row as such. Rows of properties: what the program's functions say of them. Rows of numbers: what the program's functions say of them. Messages and items: what the program's functions say of them. -/
import Derived.Test.YtaaflagbhneakaaDoorMq3
import Derived.Lib.TrimUEq
import Derived.Lib.MapLaws
import Derived.Lib.ValidLaws
import Derived.Test.YtaaflagbhneakaaDoorMq2
namespace Go.Proofs.YtaaflagbhneakaaDoor
set_option linter.unusedSimpArgs false
set_option linter.unusedVariables false
set_option maxHeartbeats 4000000
set_option maxRecDepth 10000
theorem decA_drop (l : List UInt8) (p : Nat) : decA l p = Lib.decodeL (l.drop p) := by
  have := Lib.decodeL_drop ⟨l.toArray⟩ p
  simpa [decA] using this.symm
/-- no zero among the runes -/
def zfG : Nat → List UInt8 → Bool
  | 0, _ => true
  | n + 1, l => if l = [] then true else if (Lib.decodeL l).1 = 0 then false else zfG n (l.drop (Lib.decodeL l).2)
def textB (l : List UInt8) : Bool := zfG l.length l && Lib.validD l
theorem q_valid (l : List UInt8) : E 55 [.str l] [] = some (.bool (Lib.validD l), []) := EV_some.2 ⟨1, rfl⟩
theorem q_validC (σ : AHeap) (site own : Nat) (view : Bool) (l : List UInt8) : callG E BY σ site 55 own view [.str l] = some (.bool (Lib.validD l), σ, {}) :=
  call_flat (q_valid l) (by kernel_rfl) (by simp -implicitDefEqProofs only [EVS0, EVS1, EVS2, EVS3, EVS4, EVS5, EVS6, EVS7, EVL0, EVL1, eq_self, implies_true, Bool.false_eq_true, intsV, bytesV, propsV, propV, propC, intsV]) (by simp -implicitDefEqProofs only [EVS0, EVS1, EVS2, EVS3, EVS4, EVS5, EVS6, EVS7, EVL0, EVL1, eq_self, implies_true, Bool.false_eq_true, intsV, bytesV, propsV, propV, propC, intsV]) rfl (fun _ => rfl) _ _ _ _
theorem q_istl (s : List UInt8) : ∀ (n p : Nat), s.length - p ≤ n → p ≤ s.length → K_octet_IsText_l2 0 [(6, .ref 0 0), (0, .str s)] [.siter s p] = some (.bool (zfG n (s.drop p) && Lib.validD s), [])
  | n, p, hn, hp => by
    by_cases h : p < s.length
    · obtain ⟨n, rfl⟩ : ∃ m, n = m + 1 := ⟨n - 1, by omega⟩
      have hw := Lib.decodeL_width (s.drop p)
      have hne : s.drop p ≠ [] := by rw [ne_eq, List.drop_eq_nil_iff]; omega
      have hle := Lib.decodeL_le (s.drop p) hne
      rw [List.length_drop] at hle
      have ih := q_istl s n (p + (Lib.decodeL (s.drop p)).2) (by omega) (by omega)
      rw [← List.drop_drop] at ih
      unfold K_octet_IsText_l2 at ih ⊢
      rw [evL_eq]
      by_cases hz : (Lib.decodeL (s.drop p)).1 = 0
      · have hz' : ((Lib.decodeL (s.drop p)).1 : Int) = 0 := by omega
        simp -implicitDefEqProofs only [EVS0, EVS1, EVS2, EVS3, EVS4, EVS5, EVS6, EVS7, EVL0, EVL1, ite_tf, ite_ft, ite_tft, ite_ftf, ite_list, ite_tt, ite_ee, ite_nt, ite_ne, eq_self, implies_true, forall_const, exI, nsite, freeAt, execI, Opd.ev, tget, tins, tput, keepL, sitesOf, List.sum_cons, List.sum_nil, Nat.reduceAdd, Nat.reduceSub, Nat.reduceLT, Nat.reduceLeDiff, Nat.reduceEqDiff, Nat.reduceBEq, Nat.reduceMul, beq_self_eq_true, Bool.false_eq_true, ldA, stA, partA, faddrA, setAt, binA, arithA, shiftA, strA, unA, gSpan, gSkip, unG, ne_eq, Option.some.injEq, reduceCtorEq, decide_true, decide_false, elemsA, resA, resAll, resOne, enterA, decide_eq_true_eq, Bool.not_eq_true, Bool.decide_eq_true, ite_self, ↓reduceIte, noRefL, clrA, gcT, gcA, gcIds, reach, rhoOf, heapOf, idxA, genB, newGen, renB, refsB, List.contains_cons, List.range_succ, cb_octet_IsText, b_octet_IsText, cr_octet_IsText, x_octet_IsText_k0, x_octet_IsText_l2, intsV, bytesV, propsV, propV, propC, bytesOf_map, h, decA_drop, hz', q_validC]
        rw [zfG, if_neg hne, if_pos hz]; rfl
      · have hz' : (((Lib.decodeL (s.drop p)).1 : Int) == 0) = false := by rw [beq_eq_false_iff_ne]; omega
        simp -implicitDefEqProofs only [EVS0, EVS1, EVS2, EVS3, EVS4, EVS5, EVS6, EVS7, EVL0, EVL1, ite_tf, ite_ft, ite_tft, ite_ftf, ite_list, ite_tt, ite_ee, ite_nt, ite_ne, eq_self, implies_true, forall_const, exI, nsite, freeAt, execI, Opd.ev, tget, tins, tput, keepL, sitesOf, List.sum_cons, List.sum_nil, Nat.reduceAdd, Nat.reduceSub, Nat.reduceLT, Nat.reduceLeDiff, Nat.reduceEqDiff, Nat.reduceBEq, Nat.reduceMul, beq_self_eq_true, Bool.false_eq_true, ldA, stA, partA, faddrA, setAt, binA, arithA, shiftA, strA, unA, gSpan, gSkip, unG, ne_eq, Option.some.injEq, reduceCtorEq, decide_true, decide_false, elemsA, resA, resAll, resOne, enterA, decide_eq_true_eq, Bool.not_eq_true, Bool.decide_eq_true, ite_self, ↓reduceIte, noRefL, clrA, gcT, gcA, gcIds, reach, rhoOf, heapOf, idxA, genB, newGen, renB, refsB, List.contains_cons, List.range_succ, cb_octet_IsText, b_octet_IsText, cr_octet_IsText, x_octet_IsText_k0, x_octet_IsText_l2, intsV, bytesV, propsV, propV, propC, bytesOf_map, h, decA_drop, hz', q_validC]
        rw [ih, zfG, if_neg hne, if_neg hz]
    · have he : s.drop p = [] := by rw [List.drop_eq_nil_iff]; omega
      unfold K_octet_IsText_l2
      rw [evL_eq]
      simp -implicitDefEqProofs only [EVS0, EVS1, EVS2, EVS3, EVS4, EVS5, EVS6, EVS7, EVL0, EVL1, ite_tf, ite_ft, ite_tft, ite_ftf, ite_list, ite_tt, ite_ee, ite_nt, ite_ne, eq_self, implies_true, forall_const, exI, nsite, freeAt, execI, Opd.ev, tget, tins, tput, keepL, sitesOf, List.sum_cons, List.sum_nil, Nat.reduceAdd, Nat.reduceSub, Nat.reduceLT, Nat.reduceLeDiff, Nat.reduceEqDiff, Nat.reduceBEq, Nat.reduceMul, beq_self_eq_true, Bool.false_eq_true, ldA, stA, partA, faddrA, setAt, binA, arithA, shiftA, strA, unA, gSpan, gSkip, unG, ne_eq, Option.some.injEq, reduceCtorEq, decide_true, decide_false, elemsA, resA, resAll, resOne, enterA, decide_eq_true_eq, Bool.not_eq_true, Bool.decide_eq_true, ite_self, ↓reduceIte, noRefL, clrA, gcT, gcA, gcIds, reach, rhoOf, heapOf, idxA, genB, newGen, renB, refsB, List.contains_cons, List.range_succ, cb_octet_IsText, b_octet_IsText, cr_octet_IsText, x_octet_IsText_k0, x_octet_IsText_l2, intsV, bytesV, propsV, propV, propC, bytesOf_map, h, q_validC]
      rw [he]
      cases n <;> simp [zfG]
theorem q_istext (s : List UInt8) : E 51 [.str s] [] = some (.bool (textB s), []) := by
  rw [E_eq (by rfl) cf_octet_IsText]
  have := q_istl s s.length 0 (by omega) (by omega)
  unfold K_octet_IsText_l2 at this
  simp -implicitDefEqProofs only [EVS0, EVS1, EVS2, EVS3, EVS4, EVS5, EVS6, EVS7, EVL0, EVL1, ite_tf, ite_ft, ite_tft, ite_ftf, ite_list, ite_tt, ite_ee, ite_nt, ite_ne, eq_self, implies_true, forall_const, exI, nsite, freeAt, execI, Opd.ev, tget, tins, tput, keepL, sitesOf, List.sum_cons, List.sum_nil, Nat.reduceAdd, Nat.reduceSub, Nat.reduceLT, Nat.reduceLeDiff, Nat.reduceEqDiff, Nat.reduceBEq, Nat.reduceMul, beq_self_eq_true, Bool.false_eq_true, ldA, stA, partA, faddrA, setAt, binA, arithA, shiftA, strA, unA, gSpan, gSkip, unG, ne_eq, Option.some.injEq, reduceCtorEq, decide_true, decide_false, elemsA, resA, resAll, resOne, enterA, decide_eq_true_eq, Bool.not_eq_true, Bool.decide_eq_true, ite_self, ↓reduceIte, noRefL, clrA, gcT, gcA, gcIds, reach, rhoOf, heapOf, idxA, genB, newGen, renB, refsB, List.contains_cons, List.range_succ, cb_octet_IsText, b_octet_IsText, cr_octet_IsText, x_octet_IsText_k0, x_octet_IsText_l2, intsV, bytesV, propsV, propV, propC, bytesOf_map, intsV]
  rw [this, List.drop_zero]; rfl
theorem q_istextC (σ : AHeap) (site own : Nat) (view : Bool) (l : List UInt8) : callG E BY σ site 51 own view [.str l] = some (.bool (textB l), σ, {}) :=
  call_flat (q_istext l) (by kernel_rfl) (by simp -implicitDefEqProofs only [EVS0, EVS1, EVS2, EVS3, EVS4, EVS5, EVS6, EVS7, EVL0, EVL1, eq_self, implies_true, Bool.false_eq_true, intsV, bytesV, propsV, propV, propC, intsV]) (by simp -implicitDefEqProofs only [EVS0, EVS1, EVS2, EVS3, EVS4, EVS5, EVS6, EVS7, EVL0, EVL1, eq_self, implies_true, Bool.false_eq_true, intsV, bytesV, propsV, propV, propC, intsV]) rfl (fun _ => rfl) _ _ _ _
/-! the reference's -/
/-- the bytes that follow the first one of a character -/
def contC : List UInt8 → Int → Option Int
  | [], c => some c
  | b :: r, c => if b.toNat < 128 ∨ 192 ≤ b.toNat then none else contC r (c * 64 + b.toNat - 128)
def endC (n least : Int) : Option Int → AVal
  | none => .tup [.int .i64 0, .int .i64 0]
  | some c => if c < least ∨ 1114111 < c ∨ (55296 ≤ c ∧ c < 57344) then .tup [.int .i64 0, .int .i64 0] else .tup [.int .i64 c, .int .i64 (n + 1)]
theorem byte_lt (b : UInt8) : (b.toNat : Int) < 256 := by have := b.toNat_lt; omega
theorem wrap_i64 {n : Int} (h0 : -9223372036854775808 ≤ n) (h : n ≤ 9223372036854775807) : IntKind.i64.wrap n = n := wrap_nat h0 h
theorem q_charl (s : List UInt8) (least : Int) (n : Nat) (hn : n ≤ 3) : ∀ (r : List UInt8) (i : Nat) (c : Int), 1 ≤ i → i + r.length = n + 1 → (∀ j, j < r.length → s[i + j]? = r[j]?) → 0 ≤ c → (c + 1) * 64 ^ r.length ≤ 2 ^ 40 → n < s.length →
    K_tidingsref01_char_l15 0 [(7, .int .i64 i), (6, .int .i64 least), (5, .int .i64 n), (4, .int .i64 c), (0, .str s)] [] = some (endC n least (contC r c), [])
  | [], i, c, hi, hl, hs, hc, hb, hns => by
    simp only [List.length_nil, Nat.add_zero] at hl
    simp only [List.length_nil, Int.pow_zero, Int.mul_one] at hb
    have h1 : ¬ ((i : Int) ≤ n) := by omega
    have h2 : IntKind.i64.wrap ((n : Int) + 1) = n + 1 := wrap_nat (by omega) (by omega)
    unfold K_tidingsref01_char_l15
    rw [evL_eq]
    by_cases h4 : c < least
    · have e : endC n least (contC [] c) = .tup [.int .i64 0, .int .i64 0] := by simp [endC, contC, h4]
      rw [e]
      simp -implicitDefEqProofs only [EVS0, EVS1, EVS2, EVS3, EVS4, EVS5, EVS6, EVS7, EVL0, EVL1, ite_tf, ite_ft, ite_tft, ite_ftf, ite_list, ite_tt, ite_ee, ite_nt, ite_ne, eq_self, implies_true, forall_const, exI, nsite, freeAt, execI, Opd.ev, tget, tins, tput, keepL, sitesOf, List.sum_cons, List.sum_nil, Nat.reduceAdd, Nat.reduceSub, Nat.reduceLT, Nat.reduceLeDiff, Nat.reduceEqDiff, Nat.reduceBEq, Nat.reduceMul, beq_self_eq_true, Bool.false_eq_true, ldA, stA, partA, faddrA, setAt, binA, arithA, shiftA, strA, unA, gSpan, gSkip, unG, ne_eq, Option.some.injEq, reduceCtorEq, decide_true, decide_false, elemsA, resA, resAll, resOne, enterA, decide_eq_true_eq, Bool.not_eq_true, Bool.decide_eq_true, ite_self, ↓reduceIte, noRefL, clrA, gcT, gcA, gcIds, reach, rhoOf, heapOf, idxA, genB, newGen, renB, refsB, List.contains_cons, List.range_succ, cb_tidingsref01_char, b_tidingsref01_char, cr_tidingsref01_char, x_tidingsref01_char_k0, x_tidingsref01_char_l15, intsV, bytesV, propsV, propV, propC, bytesOf_map, h1, h2, h4]
    by_cases h5 : c > 1114111
    · have e : endC n least (contC [] c) = .tup [.int .i64 0, .int .i64 0] := by
        have h5' : 1114111 < c := h5
        simp [endC, contC, h5']
      rw [e]
      simp -implicitDefEqProofs only [EVS0, EVS1, EVS2, EVS3, EVS4, EVS5, EVS6, EVS7, EVL0, EVL1, ite_tf, ite_ft, ite_tft, ite_ftf, ite_list, ite_tt, ite_ee, ite_nt, ite_ne, eq_self, implies_true, forall_const, exI, nsite, freeAt, execI, Opd.ev, tget, tins, tput, keepL, sitesOf, List.sum_cons, List.sum_nil, Nat.reduceAdd, Nat.reduceSub, Nat.reduceLT, Nat.reduceLeDiff, Nat.reduceEqDiff, Nat.reduceBEq, Nat.reduceMul, beq_self_eq_true, Bool.false_eq_true, ldA, stA, partA, faddrA, setAt, binA, arithA, shiftA, strA, unA, gSpan, gSkip, unG, ne_eq, Option.some.injEq, reduceCtorEq, decide_true, decide_false, elemsA, resA, resAll, resOne, enterA, decide_eq_true_eq, Bool.not_eq_true, Bool.decide_eq_true, ite_self, ↓reduceIte, noRefL, clrA, gcT, gcA, gcIds, reach, rhoOf, heapOf, idxA, genB, newGen, renB, refsB, List.contains_cons, List.range_succ, cb_tidingsref01_char, b_tidingsref01_char, cr_tidingsref01_char, x_tidingsref01_char_k0, x_tidingsref01_char_l15, intsV, bytesV, propsV, propV, propC, bytesOf_map, h1, h2, h4, h5]
    by_cases h6 : c ≥ 55296
    · by_cases h7 : c < 57344
      · have e : endC n least (contC [] c) = .tup [.int .i64 0, .int .i64 0] := by
          simp only [endC, contC]; rw [if_pos (Or.inr (Or.inr ⟨h6, h7⟩))]
        rw [e]
        simp -implicitDefEqProofs only [EVS0, EVS1, EVS2, EVS3, EVS4, EVS5, EVS6, EVS7, EVL0, EVL1, ite_tf, ite_ft, ite_tft, ite_ftf, ite_list, ite_tt, ite_ee, ite_nt, ite_ne, eq_self, implies_true, forall_const, exI, nsite, freeAt, execI, Opd.ev, tget, tins, tput, keepL, sitesOf, List.sum_cons, List.sum_nil, Nat.reduceAdd, Nat.reduceSub, Nat.reduceLT, Nat.reduceLeDiff, Nat.reduceEqDiff, Nat.reduceBEq, Nat.reduceMul, beq_self_eq_true, Bool.false_eq_true, ldA, stA, partA, faddrA, setAt, binA, arithA, shiftA, strA, unA, gSpan, gSkip, unG, ne_eq, Option.some.injEq, reduceCtorEq, decide_true, decide_false, elemsA, resA, resAll, resOne, enterA, decide_eq_true_eq, Bool.not_eq_true, Bool.decide_eq_true, ite_self, ↓reduceIte, noRefL, clrA, gcT, gcA, gcIds, reach, rhoOf, heapOf, idxA, genB, newGen, renB, refsB, List.contains_cons, List.range_succ, cb_tidingsref01_char, b_tidingsref01_char, cr_tidingsref01_char, x_tidingsref01_char_k0, x_tidingsref01_char_l15, intsV, bytesV, propsV, propV, propC, bytesOf_map, h1, h2, h4, h5, h6, h7]
      · have e : endC n least (contC [] c) = .tup [.int .i64 c, .int .i64 (n + 1)] := by
          simp only [endC, contC]; rw [if_neg (by omega)]
        rw [e]
        simp -implicitDefEqProofs only [EVS0, EVS1, EVS2, EVS3, EVS4, EVS5, EVS6, EVS7, EVL0, EVL1, ite_tf, ite_ft, ite_tft, ite_ftf, ite_list, ite_tt, ite_ee, ite_nt, ite_ne, eq_self, implies_true, forall_const, exI, nsite, freeAt, execI, Opd.ev, tget, tins, tput, keepL, sitesOf, List.sum_cons, List.sum_nil, Nat.reduceAdd, Nat.reduceSub, Nat.reduceLT, Nat.reduceLeDiff, Nat.reduceEqDiff, Nat.reduceBEq, Nat.reduceMul, beq_self_eq_true, Bool.false_eq_true, ldA, stA, partA, faddrA, setAt, binA, arithA, shiftA, strA, unA, gSpan, gSkip, unG, ne_eq, Option.some.injEq, reduceCtorEq, decide_true, decide_false, elemsA, resA, resAll, resOne, enterA, decide_eq_true_eq, Bool.not_eq_true, Bool.decide_eq_true, ite_self, ↓reduceIte, noRefL, clrA, gcT, gcA, gcIds, reach, rhoOf, heapOf, idxA, genB, newGen, renB, refsB, List.contains_cons, List.range_succ, cb_tidingsref01_char, b_tidingsref01_char, cr_tidingsref01_char, x_tidingsref01_char_k0, x_tidingsref01_char_l15, intsV, bytesV, propsV, propV, propC, bytesOf_map, h1, h2, h4, h5, h6, h7]
    · have e : endC n least (contC [] c) = .tup [.int .i64 c, .int .i64 (n + 1)] := by
        simp only [endC, contC]; rw [if_neg (by omega)]
      rw [e]
      simp -implicitDefEqProofs only [EVS0, EVS1, EVS2, EVS3, EVS4, EVS5, EVS6, EVS7, EVL0, EVL1, ite_tf, ite_ft, ite_tft, ite_ftf, ite_list, ite_tt, ite_ee, ite_nt, ite_ne, eq_self, implies_true, forall_const, exI, nsite, freeAt, execI, Opd.ev, tget, tins, tput, keepL, sitesOf, List.sum_cons, List.sum_nil, Nat.reduceAdd, Nat.reduceSub, Nat.reduceLT, Nat.reduceLeDiff, Nat.reduceEqDiff, Nat.reduceBEq, Nat.reduceMul, beq_self_eq_true, Bool.false_eq_true, ldA, stA, partA, faddrA, setAt, binA, arithA, shiftA, strA, unA, gSpan, gSkip, unG, ne_eq, Option.some.injEq, reduceCtorEq, decide_true, decide_false, elemsA, resA, resAll, resOne, enterA, decide_eq_true_eq, Bool.not_eq_true, Bool.decide_eq_true, ite_self, ↓reduceIte, noRefL, clrA, gcT, gcA, gcIds, reach, rhoOf, heapOf, idxA, genB, newGen, renB, refsB, List.contains_cons, List.range_succ, cb_tidingsref01_char, b_tidingsref01_char, cr_tidingsref01_char, x_tidingsref01_char_k0, x_tidingsref01_char_l15, intsV, bytesV, propsV, propV, propC, bytesOf_map, h1, h2, h4, h5, h6]
  | b :: r, i, c, hi, hl, hs, hc, hb, hns => by
    simp only [List.length_cons] at hl hb
    have hb0 := byte_lt b
    have hs0 : s[i]? = some b := by have := hs 0 (by simp); simpa using this
    have h1 : ((i : Int) ≤ n) := by omega
    have h3 : IntKind.i64.wrap ((i : Int) + 1) = ((i + 1 : Nat) : Int) := by rw [wrap_nat (by omega) (by omega)]; rfl
    have hp : (1 : Int) ≤ 64 ^ r.length := by
      have : (0 : Int) < 64 ^ r.length := Int.pow_pos (by omega)
      omega
    have hc2 : c + 1 ≤ 2 ^ 40 := by
      have : (c + 1) * 1 ≤ (c + 1) * 64 ^ (r.length + 1) := Int.mul_le_mul_of_nonneg_left (by rw [Int.pow_succ]; omega) (by omega)
      omega
    have i0 : (0 : Int) ≤ (i : Int) := by omega
    have hlow : ((b.toNat : Int) < 128) ∨ ¬ ((b.toNat : Int) < 128) := by omega
    by_cases h4 : (b.toNat : Int) < 128
    · have e : endC n least (contC (b :: r) c) = .tup [.int .i64 0, .int .i64 0] := by simp only [contC]; rw [if_pos (Or.inl (by omega))]; rfl
      rw [e]
      unfold K_tidingsref01_char_l15
      rw [evL_eq]
      simp -implicitDefEqProofs only [EVS0, EVS1, EVS2, EVS3, EVS4, EVS5, EVS6, EVS7, EVL0, EVL1, ite_tf, ite_ft, ite_tft, ite_ftf, ite_list, ite_tt, ite_ee, ite_nt, ite_ne, eq_self, implies_true, forall_const, exI, nsite, freeAt, execI, Opd.ev, tget, tins, tput, keepL, sitesOf, List.sum_cons, List.sum_nil, Nat.reduceAdd, Nat.reduceSub, Nat.reduceLT, Nat.reduceLeDiff, Nat.reduceEqDiff, Nat.reduceBEq, Nat.reduceMul, beq_self_eq_true, Bool.false_eq_true, ldA, stA, partA, faddrA, setAt, binA, arithA, shiftA, strA, unA, gSpan, gSkip, unG, ne_eq, Option.some.injEq, reduceCtorEq, decide_true, decide_false, elemsA, resA, resAll, resOne, enterA, decide_eq_true_eq, Bool.not_eq_true, Bool.decide_eq_true, ite_self, ↓reduceIte, noRefL, clrA, gcT, gcA, gcIds, reach, rhoOf, heapOf, idxA, genB, newGen, renB, refsB, List.contains_cons, List.range_succ, cb_tidingsref01_char, b_tidingsref01_char, cr_tidingsref01_char, x_tidingsref01_char_k0, x_tidingsref01_char_l15, intsV, bytesV, propsV, propV, propC, bytesOf_map, h1, h3, h4, hs0, i0, Int.toNat_natCast, byteV]
    by_cases h5 : (b.toNat : Int) ≥ 192
    · have e : endC n least (contC (b :: r) c) = .tup [.int .i64 0, .int .i64 0] := by simp only [contC]; rw [if_pos (Or.inr (by omega))]; rfl
      rw [e]
      unfold K_tidingsref01_char_l15
      rw [evL_eq]
      simp -implicitDefEqProofs only [EVS0, EVS1, EVS2, EVS3, EVS4, EVS5, EVS6, EVS7, EVL0, EVL1, ite_tf, ite_ft, ite_tft, ite_ftf, ite_list, ite_tt, ite_ee, ite_nt, ite_ne, eq_self, implies_true, forall_const, exI, nsite, freeAt, execI, Opd.ev, tget, tins, tput, keepL, sitesOf, List.sum_cons, List.sum_nil, Nat.reduceAdd, Nat.reduceSub, Nat.reduceLT, Nat.reduceLeDiff, Nat.reduceEqDiff, Nat.reduceBEq, Nat.reduceMul, beq_self_eq_true, Bool.false_eq_true, ldA, stA, partA, faddrA, setAt, binA, arithA, shiftA, strA, unA, gSpan, gSkip, unG, ne_eq, Option.some.injEq, reduceCtorEq, decide_true, decide_false, elemsA, resA, resAll, resOne, enterA, decide_eq_true_eq, Bool.not_eq_true, Bool.decide_eq_true, ite_self, ↓reduceIte, noRefL, clrA, gcT, gcA, gcIds, reach, rhoOf, heapOf, idxA, genB, newGen, renB, refsB, List.contains_cons, List.range_succ, cb_tidingsref01_char, b_tidingsref01_char, cr_tidingsref01_char, x_tidingsref01_char_k0, x_tidingsref01_char_l15, intsV, bytesV, propsV, propV, propC, bytesOf_map, h1, h3, h4, h5, hs0, i0, Int.toNat_natCast, byteV]
    have ih := q_charl s least n hn r (i + 1) (c * 64 + b.toNat - 128) (by omega) (by omega) (fun j hj => by
      have := hs (j + 1) (by simp; omega)
      rw [show i + 1 + j = i + (j + 1) by omega, this]; simp) (by omega) (by
        have : (c * 64 + b.toNat - 128 + 1) * 64 ^ r.length ≤ (c + 1) * 64 * 64 ^ r.length := Int.mul_le_mul_of_nonneg_right (by omega) (by omega)
        rw [Int.pow_succ, Int.mul_comm (64 ^ r.length) 64, ← Int.mul_assoc] at hb
        omega) hns
    have w1 : IntKind.i64.wrap (c * 64) = c * 64 := wrap_nat (by omega) (by omega)
    have w2 : IntKind.i64.wrap (b.toNat : Int) = b.toNat := wrap_nat (by omega) (by omega)
    have w3 : IntKind.i64.wrap (c * 64 + b.toNat) = c * 64 + b.toNat := wrap_nat (by omega) (by omega)
    have w4 : IntKind.i64.wrap (c * 64 + b.toNat - 128) = c * 64 + b.toNat - 128 := wrap_nat (by omega) (by omega)
    unfold K_tidingsref01_char_l15 at ih ⊢
    rw [evL_eq]
    simp -implicitDefEqProofs only [EVS0, EVS1, EVS2, EVS3, EVS4, EVS5, EVS6, EVS7, EVL0, EVL1, ite_tf, ite_ft, ite_tft, ite_ftf, ite_list, ite_tt, ite_ee, ite_nt, ite_ne, eq_self, implies_true, forall_const, exI, nsite, freeAt, execI, Opd.ev, tget, tins, tput, keepL, sitesOf, List.sum_cons, List.sum_nil, Nat.reduceAdd, Nat.reduceSub, Nat.reduceLT, Nat.reduceLeDiff, Nat.reduceEqDiff, Nat.reduceBEq, Nat.reduceMul, beq_self_eq_true, Bool.false_eq_true, ldA, stA, partA, faddrA, setAt, binA, arithA, shiftA, strA, unA, gSpan, gSkip, unG, ne_eq, Option.some.injEq, reduceCtorEq, decide_true, decide_false, elemsA, resA, resAll, resOne, enterA, decide_eq_true_eq, Bool.not_eq_true, Bool.decide_eq_true, ite_self, ↓reduceIte, noRefL, clrA, gcT, gcA, gcIds, reach, rhoOf, heapOf, idxA, genB, newGen, renB, refsB, List.contains_cons, List.range_succ, cb_tidingsref01_char, b_tidingsref01_char, cr_tidingsref01_char, x_tidingsref01_char_k0, x_tidingsref01_char_l15, intsV, bytesV, propsV, propV, propC, bytesOf_map, h1, h3, h4, h5, hs0, i0, w1, w2, w3, w4, Int.toNat_natCast, byteV]
    rw [ih]
    simp only [contC]
    rw [if_neg (by omega)]
/-- the character at a text's beginning and its bytes, as the reference has it -/
def charF (l : List UInt8) : Nat × Nat := if (Lib.decodeL l).1 = 65533 ∧ (Lib.decodeL l).2 = 1 then (0, 0) else Lib.decodeL l
def tupF (p : Nat × Nat) : AVal := .tup [.int .i64 p.1, .int .i64 p.2]
theorem charF_N (l : List UInt8) : charF l = if (Lib.decodeN l.length (l.getD 0 0).toNat (l.getD 1 0).toNat (l.getD 2 0).toNat (l.getD 3 0).toNat).1 = 65533 ∧ (Lib.decodeN l.length (l.getD 0 0).toNat (l.getD 1 0).toNat (l.getD 2 0).toNat (l.getD 3 0).toNat).2 = 1 then (0, 0) else Lib.decodeN l.length (l.getD 0 0).toNat (l.getD 1 0).toNat (l.getD 2 0).toNat (l.getD 3 0).toNat := by
  unfold charF; rw [Lib.decodeL_N]
theorem tupF_zero {c n : Int} {p : Nat × Nat} (h1 : c = p.1) (h2 : n = p.2) : (.tup [.int .i64 c, .int .i64 n] : AVal) = tupF p := by simp [tupF, h1, h2]
theorem char1 (b0 b1 : UInt8) (t : List UInt8) (h : 192 ≤ b0.toNat ∧ b0.toNat < 224) : endC 1 128 (contC [b1] (b0.toNat - 192)) = tupF (charF (b0 :: b1 :: t)) := by
  rw [charF_N]
  simp only [List.length_cons, List.getD_cons_zero, List.getD_cons_succ, contC]
  have hb1 := b1.toNat_lt
  generalize b0.toNat = x0 at *
  generalize b1.toNat = x1 at *
  generalize ((t.getD 0 0).toNat) = x2
  generalize ((t.getD 1 0).toNat) = x3
  have e1 : ¬ x0 < 128 := by omega
  have e2 : x0 / 32 = 6 := by omega
  have e3 : 1 < t.length + 1 + 1 := by omega
  have e4 : ¬ x0 / 16 = 14 := by omega
  have e5 : ¬ x0 / 8 = 30 := by omega
  by_cases h1 : x1 < 128 ∨ 192 ≤ x1
  · rw [if_pos h1]
    have e6 : ¬ x1 / 64 = 2 := by omega
    simp [Lib.decodeN, e1, e2, e4, e5, e6, endC, tupF]
  · rw [if_neg h1]
    have e6 : x1 / 64 = 2 := by omega
    simp only [Lib.decodeN, e1, e2, e3, e6, if_false, and_self, if_true]
    simp only [endC]
    by_cases h2 : x0 % 32 * 64 + x1 % 64 ≥ 128
    · rw [if_neg (by omega), if_pos h2, if_neg (by simp)]
      exact tupF_zero (by simp only; omega) (by simp)
    · rw [if_pos (by omega), if_neg h2, if_pos (by simp)]
      rfl
theorem char2 (b0 b1 b2 : UInt8) (t : List UInt8) (h : 224 ≤ b0.toNat ∧ b0.toNat < 240) : endC 2 2048 (contC [b1, b2] (b0.toNat - 224)) = tupF (charF (b0 :: b1 :: b2 :: t)) := by
  rw [charF_N]
  simp only [List.length_cons, List.getD_cons_zero, List.getD_cons_succ, contC]
  have hb1 := b1.toNat_lt
  have hb2 := b2.toNat_lt
  generalize b0.toNat = x0 at *
  generalize b1.toNat = x1 at *
  generalize b2.toNat = x2 at *
  generalize ((t.getD 0 0).toNat) = x3
  have e1 : ¬ x0 < 128 := by omega
  have e2 : ¬ x0 / 32 = 6 := by omega
  have e3 : 1 < t.length + 1 + 1 + 1 := by omega
  have e3' : 2 < t.length + 1 + 1 + 1 := by omega
  have e4 : x0 / 16 = 14 := by omega
  have e5 : ¬ x0 / 8 = 30 := by omega
  by_cases h1 : x1 < 128 ∨ 192 ≤ x1
  · rw [if_pos h1]
    have e6 : ¬ x1 / 64 = 2 := by omega
    simp [Lib.decodeN, e1, e2, e4, e5, e6, endC, tupF]
  · rw [if_neg h1]
    have e6 : x1 / 64 = 2 := by omega
    by_cases h2 : x2 < 128 ∨ 192 ≤ x2
    · rw [if_pos h2]
      have e7 : ¬ x2 / 64 = 2 := by omega
      simp [Lib.decodeN, e1, e2, e4, e5, e6, e7, endC, tupF]
    · rw [if_neg h2]
      have e7 : x2 / 64 = 2 := by omega
      simp only [Lib.decodeN, e1, e2, e3, e3', e4, e6, e7, if_false, and_self, if_true, false_and]
      simp only [endC]
      by_cases h3 : x0 % 16 * 4096 + x1 % 64 * 64 + x2 % 64 ≥ 2048 ∧ (x0 % 16 * 4096 + x1 % 64 * 64 + x2 % 64 < 55296 ∨ (57344 ≤ x0 % 16 * 4096 + x1 % 64 * 64 + x2 % 64 ∧ x0 % 16 * 4096 + x1 % 64 * 64 + x2 % 64 ≤ 1114111))
      · rw [if_neg (by omega), if_pos h3, if_neg (by simp)]
        exact tupF_zero (by simp only; omega) (by simp)
      · rw [if_pos (by omega), if_neg h3, if_pos (by simp)]
        rfl
theorem char3 (b0 b1 b2 b3 : UInt8) (t : List UInt8) (h : 240 ≤ b0.toNat ∧ b0.toNat < 248) : endC 3 65536 (contC [b1, b2, b3] (b0.toNat - 240)) = tupF (charF (b0 :: b1 :: b2 :: b3 :: t)) := by
  rw [charF_N]
  simp only [List.length_cons, List.getD_cons_zero, List.getD_cons_succ, contC]
  have hb1 := b1.toNat_lt
  have hb2 := b2.toNat_lt
  have hb3 := b3.toNat_lt
  generalize b0.toNat = x0 at *
  generalize b1.toNat = x1 at *
  generalize b2.toNat = x2 at *
  generalize b3.toNat = x3 at *
  have e1 : ¬ x0 < 128 := by omega
  have e2 : ¬ x0 / 32 = 6 := by omega
  have e3 : 1 < t.length + 1 + 1 + 1 + 1 := by omega
  have e3' : 2 < t.length + 1 + 1 + 1 + 1 := by omega
  have e3'' : 3 < t.length + 1 + 1 + 1 + 1 := by omega
  have e4 : ¬ x0 / 16 = 14 := by omega
  have e5 : x0 / 8 = 30 := by omega
  by_cases h1 : x1 < 128 ∨ 192 ≤ x1
  · rw [if_pos h1]
    have e6 : ¬ x1 / 64 = 2 := by omega
    simp [Lib.decodeN, e1, e2, e4, e5, e6, endC, tupF]
  · rw [if_neg h1]
    have e6 : x1 / 64 = 2 := by omega
    by_cases h2 : x2 < 128 ∨ 192 ≤ x2
    · rw [if_pos h2]
      have e7 : ¬ x2 / 64 = 2 := by omega
      simp [Lib.decodeN, e1, e2, e4, e5, e6, e7, endC, tupF]
    · rw [if_neg h2]
      have e7 : x2 / 64 = 2 := by omega
      by_cases h4 : x3 < 128 ∨ 192 ≤ x3
      · rw [if_pos h4]
        have e8 : ¬ x3 / 64 = 2 := by omega
        simp [Lib.decodeN, e1, e2, e4, e5, e6, e7, e8, endC, tupF]
      · rw [if_neg h4]
        have e8 : x3 / 64 = 2 := by omega
        simp only [Lib.decodeN, e1, e2, e3, e3', e3'', e4, e5, e6, e7, e8, if_false, and_self, if_true, false_and]
        simp only [endC]
        by_cases h3 : x0 % 8 * 262144 + x1 % 64 * 4096 + x2 % 64 * 64 + x3 % 64 ≥ 65536 ∧ (x0 % 8 * 262144 + x1 % 64 * 4096 + x2 % 64 * 64 + x3 % 64 < 55296 ∨ (57344 ≤ x0 % 8 * 262144 + x1 % 64 * 4096 + x2 % 64 * 64 + x3 % 64 ∧ x0 % 8 * 262144 + x1 % 64 * 4096 + x2 % 64 * 64 + x3 % 64 ≤ 1114111))
        · rw [if_neg (by omega), if_pos h3, if_neg (by simp)]
          exact tupF_zero (by simp only; omega) (by simp)
        · rw [if_pos (by omega), if_neg h3, if_pos (by simp)]
          rfl
theorem char_short (b0 : UInt8) (t : List UInt8) (h : (192 ≤ b0.toNat ∧ b0.toNat < 224 ∧ t.length < 1) ∨ (224 ≤ b0.toNat ∧ b0.toNat < 240 ∧ t.length < 2) ∨ (240 ≤ b0.toNat ∧ b0.toNat < 248 ∧ t.length < 3) ∨ (128 ≤ b0.toNat ∧ b0.toNat < 192) ∨ 248 ≤ b0.toNat) : charF (b0 :: t) = (0, 0) := by
  rw [charF_N, if_pos]
  simp only [List.length_cons, List.getD_cons_zero, List.getD_cons_succ]
  have hb := b0.toNat_lt
  generalize b0.toNat = x0 at *
  generalize ((t.getD 0 0).toNat) = x1
  generalize ((t.getD 1 0).toNat) = x2
  generalize ((t.getD 2 0).toNat) = x3
  generalize t.length = m at *
  unfold Lib.decodeN
  repeat' split
  all_goals first | exact ⟨rfl, rfl⟩ | (exfalso; omega) | (constructor <;> omega)
theorem char_one (b0 : UInt8) (t : List UInt8) (h : b0.toNat < 128) : charF (b0 :: t) = (b0.toNat, 1) := by
  rw [charF_N]
  simp only [List.length_cons, List.getD_cons_zero, Lib.decodeN, h, if_true]
  rw [if_neg (by omega)]
theorem tupF0 : tupF (0, 0) = .tup [.int .i64 0, .int .i64 0] := rfl
theorem tupF1 (n : Nat) : tupF (n, 1) = .tup [.int .i64 n, .int .i64 1] := rfl
theorem drop_get {s : List UInt8} {n j : Nat} (hj : j < n) : s[1 + j]? = ((s.drop 1).take n)[j]? := by
  rw [List.getElem?_take, if_pos hj, List.getElem?_drop]
theorem q_char (b0 : UInt8) (t : List UInt8) : E 54 [.str (b0 :: t)] [] = some (tupF (charF (b0 :: t)), []) := by
  rw [E_eq (by rfl) cf_tidingsref01_char]
  have hb := byte_lt b0
  have w0 : IntKind.i64.wrap (b0.toNat : Int) = b0.toNat := wrap_nat (by omega) (by omega)
  by_cases h1 : (b0.toNat : Int) < 128
  · rw [char_one b0 t (by omega), tupF1]
    simp -implicitDefEqProofs only [EVS0, EVS1, EVS2, EVS3, EVS4, EVS5, EVS6, EVS7, EVL0, EVL1, ite_tf, ite_ft, ite_tft, ite_ftf, ite_list, ite_tt, ite_ee, ite_nt, ite_ne, eq_self, implies_true, forall_const, exI, nsite, freeAt, execI, Opd.ev, tget, tins, tput, keepL, sitesOf, List.sum_cons, List.sum_nil, Nat.reduceAdd, Nat.reduceSub, Nat.reduceLT, Nat.reduceLeDiff, Nat.reduceEqDiff, Nat.reduceBEq, Nat.reduceMul, beq_self_eq_true, Bool.false_eq_true, ldA, stA, partA, faddrA, setAt, binA, arithA, shiftA, strA, unA, gSpan, gSkip, unG, ne_eq, Option.some.injEq, reduceCtorEq, decide_true, decide_false, elemsA, resA, resAll, resOne, enterA, decide_eq_true_eq, Bool.not_eq_true, Bool.decide_eq_true, ite_self, ↓reduceIte, noRefL, clrA, gcT, gcA, gcIds, reach, rhoOf, heapOf, idxA, genB, newGen, renB, refsB, List.contains_cons, List.range_succ, cb_tidingsref01_char, b_tidingsref01_char, cr_tidingsref01_char, x_tidingsref01_char_k0, x_tidingsref01_char_l15, intsV, bytesV, propsV, propV, propC, bytesOf_map, h1, w0, byteV, Int.toNat_zero, Int.le_refl]
  by_cases h2 : (b0.toNat : Int) ≥ 192
  · by_cases h3 : (b0.toNat : Int) < 224
    · have w1 : IntKind.i64.wrap ((b0.toNat : Int) - 192) = b0.toNat - 192 := wrap_nat (by omega) (by omega)
      by_cases h6 : ((t.length + 1 : Nat) : Int) ≤ 1
      · rw [char_short b0 t (Or.inl ⟨by omega, by omega, by omega⟩), tupF0]
        simp -implicitDefEqProofs only [EVS0, EVS1, EVS2, EVS3, EVS4, EVS5, EVS6, EVS7, EVL0, EVL1, ite_tf, ite_ft, ite_tft, ite_ftf, ite_list, ite_tt, ite_ee, ite_nt, ite_ne, eq_self, implies_true, forall_const, exI, nsite, freeAt, execI, Opd.ev, tget, tins, tput, keepL, sitesOf, List.sum_cons, List.sum_nil, Nat.reduceAdd, Nat.reduceSub, Nat.reduceLT, Nat.reduceLeDiff, Nat.reduceEqDiff, Nat.reduceBEq, Nat.reduceMul, beq_self_eq_true, Bool.false_eq_true, ldA, stA, partA, faddrA, setAt, binA, arithA, shiftA, strA, unA, gSpan, gSkip, unG, ne_eq, Option.some.injEq, reduceCtorEq, decide_true, decide_false, elemsA, resA, resAll, resOne, enterA, decide_eq_true_eq, Bool.not_eq_true, Bool.decide_eq_true, ite_self, ↓reduceIte, noRefL, clrA, gcT, gcA, gcIds, reach, rhoOf, heapOf, idxA, genB, newGen, renB, refsB, List.contains_cons, List.range_succ, cb_tidingsref01_char, b_tidingsref01_char, cr_tidingsref01_char, x_tidingsref01_char_k0, x_tidingsref01_char_l15, intsV, bytesV, propsV, propV, propC, bytesOf_map, h1, h2, h3, w0, w1, h6, byteV, Int.toNat_zero, Int.le_refl]
      · obtain ⟨b1, t, rfl⟩ : ∃ b1 t', t = b1 :: t' := by
          cases t with
          | nil => simp at h6
          | cons b1 t => exact ⟨b1, t, rfl⟩
        have key := q_charl (b0 :: b1 :: t) 128 1 (by omega) [b1] 1 (b0.toNat - 192) (by omega) rfl (fun j hj => by
          have : j = 0 := by simpa using hj
          subst this; rfl) (by omega) (by simp only [List.length_cons, List.length_nil]; omega) (by simp)
        rw [show (((1 : Nat) : Int)) = 1 from rfl, char1 b0 b1 t (by omega)] at key
        unfold K_tidingsref01_char_l15 at key
        simp -implicitDefEqProofs only [EVS0, EVS1, EVS2, EVS3, EVS4, EVS5, EVS6, EVS7, EVL0, EVL1, ite_tf, ite_ft, ite_tft, ite_ftf, ite_list, ite_tt, ite_ee, ite_nt, ite_ne, eq_self, implies_true, forall_const, exI, nsite, freeAt, execI, Opd.ev, tget, tins, tput, keepL, sitesOf, List.sum_cons, List.sum_nil, Nat.reduceAdd, Nat.reduceSub, Nat.reduceLT, Nat.reduceLeDiff, Nat.reduceEqDiff, Nat.reduceBEq, Nat.reduceMul, beq_self_eq_true, Bool.false_eq_true, ldA, stA, partA, faddrA, setAt, binA, arithA, shiftA, strA, unA, gSpan, gSkip, unG, ne_eq, Option.some.injEq, reduceCtorEq, decide_true, decide_false, elemsA, resA, resAll, resOne, enterA, decide_eq_true_eq, Bool.not_eq_true, Bool.decide_eq_true, ite_self, ↓reduceIte, noRefL, clrA, gcT, gcA, gcIds, reach, rhoOf, heapOf, idxA, genB, newGen, renB, refsB, List.contains_cons, List.range_succ, cb_tidingsref01_char, b_tidingsref01_char, cr_tidingsref01_char, x_tidingsref01_char_k0, x_tidingsref01_char_l15, intsV, bytesV, propsV, propV, propC, bytesOf_map, h1, h2, h3, w0, w1, h6, byteV, Int.toNat_zero, Int.le_refl]
        exact key
    · by_cases h4 : (b0.toNat : Int) < 240
      · have h3' : (b0.toNat : Int) ≥ 224 := by omega
        have w1 : IntKind.i64.wrap ((b0.toNat : Int) - 224) = b0.toNat - 224 := wrap_nat (by omega) (by omega)
        by_cases h6 : ((t.length + 1 : Nat) : Int) ≤ 2
        · rw [char_short b0 t (Or.inr (Or.inl ⟨by omega, by omega, by omega⟩)), tupF0]
          simp -implicitDefEqProofs only [EVS0, EVS1, EVS2, EVS3, EVS4, EVS5, EVS6, EVS7, EVL0, EVL1, ite_tf, ite_ft, ite_tft, ite_ftf, ite_list, ite_tt, ite_ee, ite_nt, ite_ne, eq_self, implies_true, forall_const, exI, nsite, freeAt, execI, Opd.ev, tget, tins, tput, keepL, sitesOf, List.sum_cons, List.sum_nil, Nat.reduceAdd, Nat.reduceSub, Nat.reduceLT, Nat.reduceLeDiff, Nat.reduceEqDiff, Nat.reduceBEq, Nat.reduceMul, beq_self_eq_true, Bool.false_eq_true, ldA, stA, partA, faddrA, setAt, binA, arithA, shiftA, strA, unA, gSpan, gSkip, unG, ne_eq, Option.some.injEq, reduceCtorEq, decide_true, decide_false, elemsA, resA, resAll, resOne, enterA, decide_eq_true_eq, Bool.not_eq_true, Bool.decide_eq_true, ite_self, ↓reduceIte, noRefL, clrA, gcT, gcA, gcIds, reach, rhoOf, heapOf, idxA, genB, newGen, renB, refsB, List.contains_cons, List.range_succ, cb_tidingsref01_char, b_tidingsref01_char, cr_tidingsref01_char, x_tidingsref01_char_k0, x_tidingsref01_char_l15, intsV, bytesV, propsV, propV, propC, bytesOf_map, h1, h2, h3, h3', h4, w0, w1, h6, byteV, Int.toNat_zero, Int.le_refl]
        · obtain ⟨b1, b2, t, rfl⟩ : ∃ b1 b2 t', t = b1 :: b2 :: t' := by
            match t, h6 with
            | [], h6 => simp at h6
            | [_], h6 => simp at h6
            | b1 :: b2 :: t, _ => exact ⟨b1, b2, t, rfl⟩
          have key := q_charl (b0 :: b1 :: b2 :: t) 2048 2 (by omega) [b1, b2] 1 (b0.toNat - 224) (by omega) rfl (fun j hj => by
            match j, hj with
            | 0, _ => rfl
            | 1, _ => rfl
            | j + 2, hj => simp at hj; omega) (by omega) (by simp only [List.length_cons, List.length_nil]; omega) (by simp)
          rw [show (((2 : Nat) : Int)) = 2 from rfl, show (((1 : Nat) : Int)) = 1 from rfl, char2 b0 b1 b2 t (by omega)] at key
          unfold K_tidingsref01_char_l15 at key
          simp -implicitDefEqProofs only [EVS0, EVS1, EVS2, EVS3, EVS4, EVS5, EVS6, EVS7, EVL0, EVL1, ite_tf, ite_ft, ite_tft, ite_ftf, ite_list, ite_tt, ite_ee, ite_nt, ite_ne, eq_self, implies_true, forall_const, exI, nsite, freeAt, execI, Opd.ev, tget, tins, tput, keepL, sitesOf, List.sum_cons, List.sum_nil, Nat.reduceAdd, Nat.reduceSub, Nat.reduceLT, Nat.reduceLeDiff, Nat.reduceEqDiff, Nat.reduceBEq, Nat.reduceMul, beq_self_eq_true, Bool.false_eq_true, ldA, stA, partA, faddrA, setAt, binA, arithA, shiftA, strA, unA, gSpan, gSkip, unG, ne_eq, Option.some.injEq, reduceCtorEq, decide_true, decide_false, elemsA, resA, resAll, resOne, enterA, decide_eq_true_eq, Bool.not_eq_true, Bool.decide_eq_true, ite_self, ↓reduceIte, noRefL, clrA, gcT, gcA, gcIds, reach, rhoOf, heapOf, idxA, genB, newGen, renB, refsB, List.contains_cons, List.range_succ, cb_tidingsref01_char, b_tidingsref01_char, cr_tidingsref01_char, x_tidingsref01_char_k0, x_tidingsref01_char_l15, intsV, bytesV, propsV, propV, propC, bytesOf_map, h1, h2, h3, h3', h4, w0, w1, h6, byteV, Int.toNat_zero, Int.le_refl]
          exact key
      · by_cases h5 : (b0.toNat : Int) < 248
        · have h3' : (b0.toNat : Int) ≥ 224 := by omega
          have h4' : (b0.toNat : Int) ≥ 240 := by omega
          have w1 : IntKind.i64.wrap ((b0.toNat : Int) - 240) = b0.toNat - 240 := wrap_nat (by omega) (by omega)
          by_cases h6 : ((t.length + 1 : Nat) : Int) ≤ 3
          · rw [char_short b0 t (Or.inr (Or.inr (Or.inl ⟨by omega, by omega, by omega⟩))), tupF0]
            simp -implicitDefEqProofs only [EVS0, EVS1, EVS2, EVS3, EVS4, EVS5, EVS6, EVS7, EVL0, EVL1, ite_tf, ite_ft, ite_tft, ite_ftf, ite_list, ite_tt, ite_ee, ite_nt, ite_ne, eq_self, implies_true, forall_const, exI, nsite, freeAt, execI, Opd.ev, tget, tins, tput, keepL, sitesOf, List.sum_cons, List.sum_nil, Nat.reduceAdd, Nat.reduceSub, Nat.reduceLT, Nat.reduceLeDiff, Nat.reduceEqDiff, Nat.reduceBEq, Nat.reduceMul, beq_self_eq_true, Bool.false_eq_true, ldA, stA, partA, faddrA, setAt, binA, arithA, shiftA, strA, unA, gSpan, gSkip, unG, ne_eq, Option.some.injEq, reduceCtorEq, decide_true, decide_false, elemsA, resA, resAll, resOne, enterA, decide_eq_true_eq, Bool.not_eq_true, Bool.decide_eq_true, ite_self, ↓reduceIte, noRefL, clrA, gcT, gcA, gcIds, reach, rhoOf, heapOf, idxA, genB, newGen, renB, refsB, List.contains_cons, List.range_succ, cb_tidingsref01_char, b_tidingsref01_char, cr_tidingsref01_char, x_tidingsref01_char_k0, x_tidingsref01_char_l15, intsV, bytesV, propsV, propV, propC, bytesOf_map, h1, h2, h3, h3', h4, h4', h5, w0, w1, h6, byteV, Int.toNat_zero, Int.le_refl]
          · obtain ⟨b1, b2, b3, t, rfl⟩ : ∃ b1 b2 b3 t', t = b1 :: b2 :: b3 :: t' := by
              match t, h6 with
              | [], h6 => simp at h6
              | [_], h6 => simp at h6
              | [_, _], h6 => simp at h6
              | b1 :: b2 :: b3 :: t, _ => exact ⟨b1, b2, b3, t, rfl⟩
            have key := q_charl (b0 :: b1 :: b2 :: b3 :: t) 65536 3 (by omega) [b1, b2, b3] 1 (b0.toNat - 240) (by omega) rfl (fun j hj => by
              match j, hj with
              | 0, _ => rfl
              | 1, _ => rfl
              | 2, _ => rfl
              | j + 3, hj => simp at hj; omega) (by omega) (by simp only [List.length_cons, List.length_nil]; omega) (by simp)
            rw [show (((3 : Nat) : Int)) = 3 from rfl, show (((1 : Nat) : Int)) = 1 from rfl, char3 b0 b1 b2 b3 t (by omega)] at key
            unfold K_tidingsref01_char_l15 at key
            simp -implicitDefEqProofs only [EVS0, EVS1, EVS2, EVS3, EVS4, EVS5, EVS6, EVS7, EVL0, EVL1, ite_tf, ite_ft, ite_tft, ite_ftf, ite_list, ite_tt, ite_ee, ite_nt, ite_ne, eq_self, implies_true, forall_const, exI, nsite, freeAt, execI, Opd.ev, tget, tins, tput, keepL, sitesOf, List.sum_cons, List.sum_nil, Nat.reduceAdd, Nat.reduceSub, Nat.reduceLT, Nat.reduceLeDiff, Nat.reduceEqDiff, Nat.reduceBEq, Nat.reduceMul, beq_self_eq_true, Bool.false_eq_true, ldA, stA, partA, faddrA, setAt, binA, arithA, shiftA, strA, unA, gSpan, gSkip, unG, ne_eq, Option.some.injEq, reduceCtorEq, decide_true, decide_false, elemsA, resA, resAll, resOne, enterA, decide_eq_true_eq, Bool.not_eq_true, Bool.decide_eq_true, ite_self, ↓reduceIte, noRefL, clrA, gcT, gcA, gcIds, reach, rhoOf, heapOf, idxA, genB, newGen, renB, refsB, List.contains_cons, List.range_succ, cb_tidingsref01_char, b_tidingsref01_char, cr_tidingsref01_char, x_tidingsref01_char_k0, x_tidingsref01_char_l15, intsV, bytesV, propsV, propV, propC, bytesOf_map, h1, h2, h3, h3', h4, h4', h5, w0, w1, h6, byteV, Int.toNat_zero, Int.le_refl]
            exact key
        · have h3' : (b0.toNat : Int) ≥ 224 := by omega
          have h4' : (b0.toNat : Int) ≥ 240 := by omega
          rw [char_short b0 t (Or.inr (Or.inr (Or.inr (Or.inr (by omega))))), tupF0]
          simp -implicitDefEqProofs only [EVS0, EVS1, EVS2, EVS3, EVS4, EVS5, EVS6, EVS7, EVL0, EVL1, ite_tf, ite_ft, ite_tft, ite_ftf, ite_list, ite_tt, ite_ee, ite_nt, ite_ne, eq_self, implies_true, forall_const, exI, nsite, freeAt, execI, Opd.ev, tget, tins, tput, keepL, sitesOf, List.sum_cons, List.sum_nil, Nat.reduceAdd, Nat.reduceSub, Nat.reduceLT, Nat.reduceLeDiff, Nat.reduceEqDiff, Nat.reduceBEq, Nat.reduceMul, beq_self_eq_true, Bool.false_eq_true, ldA, stA, partA, faddrA, setAt, binA, arithA, shiftA, strA, unA, gSpan, gSkip, unG, ne_eq, Option.some.injEq, reduceCtorEq, decide_true, decide_false, elemsA, resA, resAll, resOne, enterA, decide_eq_true_eq, Bool.not_eq_true, Bool.decide_eq_true, ite_self, ↓reduceIte, noRefL, clrA, gcT, gcA, gcIds, reach, rhoOf, heapOf, idxA, genB, newGen, renB, refsB, List.contains_cons, List.range_succ, cb_tidingsref01_char, b_tidingsref01_char, cr_tidingsref01_char, x_tidingsref01_char_k0, x_tidingsref01_char_l15, intsV, bytesV, propsV, propV, propC, bytesOf_map, h1, h2, h3, h3', h4, h4', h5, w0, byteV, Int.toNat_zero, Int.le_refl]
  · have h3 : ¬ (b0.toNat : Int) ≥ 224 := by omega
    have h4 : ¬ (b0.toNat : Int) ≥ 240 := by omega
    rw [char_short b0 t (Or.inr (Or.inr (Or.inr (Or.inl (by omega))))), tupF0]
    simp -implicitDefEqProofs only [EVS0, EVS1, EVS2, EVS3, EVS4, EVS5, EVS6, EVS7, EVL0, EVL1, ite_tf, ite_ft, ite_tft, ite_ftf, ite_list, ite_tt, ite_ee, ite_nt, ite_ne, eq_self, implies_true, forall_const, exI, nsite, freeAt, execI, Opd.ev, tget, tins, tput, keepL, sitesOf, List.sum_cons, List.sum_nil, Nat.reduceAdd, Nat.reduceSub, Nat.reduceLT, Nat.reduceLeDiff, Nat.reduceEqDiff, Nat.reduceBEq, Nat.reduceMul, beq_self_eq_true, Bool.false_eq_true, ldA, stA, partA, faddrA, setAt, binA, arithA, shiftA, strA, unA, gSpan, gSkip, unG, ne_eq, Option.some.injEq, reduceCtorEq, decide_true, decide_false, elemsA, resA, resAll, resOne, enterA, decide_eq_true_eq, Bool.not_eq_true, Bool.decide_eq_true, ite_self, ↓reduceIte, noRefL, clrA, gcT, gcA, gcIds, reach, rhoOf, heapOf, idxA, genB, newGen, renB, refsB, List.contains_cons, List.range_succ, cb_tidingsref01_char, b_tidingsref01_char, cr_tidingsref01_char, x_tidingsref01_char_k0, x_tidingsref01_char_l15, intsV, bytesV, propsV, propV, propC, bytesOf_map, h1, h2, h3, h4, w0, byteV, Int.toNat_zero, Int.le_refl]
theorem call_char (σ : AHeap) (site own : Nat) (view : Bool) (b0 : UInt8) (t : List UInt8) : callG E BY σ site 54 own view [.str (b0 :: t)] = some (tupF (charF (b0 :: t)), σ, {}) :=
  call_flat (q_char b0 t) (by kernel_rfl) (by simp -implicitDefEqProofs only [EVS0, EVS1, EVS2, EVS3, EVS4, EVS5, EVS6, EVS7, EVL0, EVL1, eq_self, implies_true, Bool.false_eq_true, intsV, bytesV, propsV, propV, propC, tupF]) (by simp -implicitDefEqProofs only [EVS0, EVS1, EVS2, EVS3, EVS4, EVS5, EVS6, EVS7, EVL0, EVL1, eq_self, implies_true, Bool.false_eq_true, intsV, bytesV, propsV, propV, propC, tupF]) rfl (fun _ => rfl) _ _ _ _
theorem q_ristl : ∀ (n : Nat) (l : List UInt8), l.length ≤ n → l.length ≤ 9223372036854775807 → K_tidingsref01_IsText_l1 0 [(0, .str l)] [] = some (.bool (zfG n l && Lib.validGoD n l), [])
  | n, [], _, _ => by
    have e : (zfG n [] && Lib.validGoD n []) = true := by cases n <;> rfl
    rw [e]
    unfold K_tidingsref01_IsText_l1
    rw [evL_eq]
    simp -implicitDefEqProofs only [EVS0, EVS1, EVS2, EVS3, EVS4, EVS5, EVS6, EVS7, EVL0, EVL1, ite_tf, ite_ft, ite_tft, ite_ftf, ite_list, ite_tt, ite_ee, ite_nt, ite_ne, eq_self, implies_true, forall_const, exI, nsite, freeAt, execI, Opd.ev, tget, tins, tput, keepL, sitesOf, List.sum_cons, List.sum_nil, Nat.reduceAdd, Nat.reduceSub, Nat.reduceLT, Nat.reduceLeDiff, Nat.reduceEqDiff, Nat.reduceBEq, Nat.reduceMul, beq_self_eq_true, Bool.false_eq_true, ldA, stA, partA, faddrA, setAt, binA, arithA, shiftA, strA, unA, gSpan, gSkip, unG, ne_eq, Option.some.injEq, reduceCtorEq, decide_true, decide_false, elemsA, resA, resAll, resOne, enterA, decide_eq_true_eq, Bool.not_eq_true, Bool.decide_eq_true, ite_self, ↓reduceIte, noRefL, clrA, gcT, gcA, gcIds, reach, rhoOf, heapOf, idxA, genB, newGen, renB, refsB, List.contains_cons, List.range_succ, cb_tidingsref01_IsText, b_tidingsref01_IsText, cr_tidingsref01_IsText, x_tidingsref01_IsText_k0, x_tidingsref01_IsText_l1, intsV, bytesV, propsV, propV, propC, bytesOf_map, intsV]
  | 0, b0 :: t, h, _ => by simp at h
  | n + 1, b0 :: t, h, hl => by
    have hw := Lib.decodeL_width (b0 :: t)
    have hle := Lib.decodeL_le (b0 :: t) (by simp)
    have e0 : ((b0 :: t) == ([] : List UInt8)) = false := by simp
    have hne : (b0 :: t) ≠ ([] : List UInt8) := by simp
    unfold K_tidingsref01_IsText_l1
    rw [evL_eq]
    by_cases hb : (Lib.decodeL (b0 :: t)).1 = 65533 ∧ (Lib.decodeL (b0 :: t)).2 = 1
    · have hc : charF (b0 :: t) = (0, 0) := if_pos hb
      have e : (zfG (n + 1) (b0 :: t) && Lib.validGoD (n + 1) (b0 :: t)) = false := by
        simp only [Lib.validGoD]
        rw [if_neg hne, if_pos hb, Bool.and_false]
      rw [e]
      simp -implicitDefEqProofs only [EVS0, EVS1, EVS2, EVS3, EVS4, EVS5, EVS6, EVS7, EVL0, EVL1, ite_tf, ite_ft, ite_tft, ite_ftf, ite_list, ite_tt, ite_ee, ite_nt, ite_ne, eq_self, implies_true, forall_const, exI, nsite, freeAt, execI, Opd.ev, tget, tins, tput, keepL, sitesOf, List.sum_cons, List.sum_nil, Nat.reduceAdd, Nat.reduceSub, Nat.reduceLT, Nat.reduceLeDiff, Nat.reduceEqDiff, Nat.reduceBEq, Nat.reduceMul, beq_self_eq_true, Bool.false_eq_true, ldA, stA, partA, faddrA, setAt, binA, arithA, shiftA, strA, unA, gSpan, gSkip, unG, ne_eq, Option.some.injEq, reduceCtorEq, decide_true, decide_false, elemsA, resA, resAll, resOne, enterA, decide_eq_true_eq, Bool.not_eq_true, Bool.decide_eq_true, ite_self, ↓reduceIte, noRefL, clrA, gcT, gcA, gcIds, reach, rhoOf, heapOf, idxA, genB, newGen, renB, refsB, List.contains_cons, List.range_succ, cb_tidingsref01_IsText, b_tidingsref01_IsText, cr_tidingsref01_IsText, x_tidingsref01_IsText_k0, x_tidingsref01_IsText_l1, intsV, bytesV, propsV, propV, propC, bytesOf_map, e0, call_char, hc, tupF0]
    · have hc : charF (b0 :: t) = Lib.decodeL (b0 :: t) := if_neg hb
      have n1 : (((Lib.decodeL (b0 :: t)).2 : Int) == 0) = false := by rw [beq_eq_false_iff_ne]; omega
      by_cases hz : (Lib.decodeL (b0 :: t)).1 = 0
      · have z1 : (((Lib.decodeL (b0 :: t)).1 : Int) == 0) = true := by rw [beq_iff_eq]; omega
        have e : (zfG (n + 1) (b0 :: t) && Lib.validGoD (n + 1) (b0 :: t)) = false := by
          rw [zfG, if_neg hne, if_pos hz, Bool.false_and]
        rw [e]
        simp -implicitDefEqProofs only [EVS0, EVS1, EVS2, EVS3, EVS4, EVS5, EVS6, EVS7, EVL0, EVL1, ite_tf, ite_ft, ite_tft, ite_ftf, ite_list, ite_tt, ite_ee, ite_nt, ite_ne, eq_self, implies_true, forall_const, exI, nsite, freeAt, execI, Opd.ev, tget, tins, tput, keepL, sitesOf, List.sum_cons, List.sum_nil, Nat.reduceAdd, Nat.reduceSub, Nat.reduceLT, Nat.reduceLeDiff, Nat.reduceEqDiff, Nat.reduceBEq, Nat.reduceMul, beq_self_eq_true, Bool.false_eq_true, ldA, stA, partA, faddrA, setAt, binA, arithA, shiftA, strA, unA, gSpan, gSkip, unG, ne_eq, Option.some.injEq, reduceCtorEq, decide_true, decide_false, elemsA, resA, resAll, resOne, enterA, decide_eq_true_eq, Bool.not_eq_true, Bool.decide_eq_true, ite_self, ↓reduceIte, noRefL, clrA, gcT, gcA, gcIds, reach, rhoOf, heapOf, idxA, genB, newGen, renB, refsB, List.contains_cons, List.range_succ, cb_tidingsref01_IsText, b_tidingsref01_IsText, cr_tidingsref01_IsText, x_tidingsref01_IsText_k0, x_tidingsref01_IsText_l1, intsV, bytesV, propsV, propV, propC, bytesOf_map, e0, call_char, hc, tupF, n1, z1]
      · have z1 : (((Lib.decodeL (b0 :: t)).1 : Int) == 0) = false := by rw [beq_eq_false_iff_ne]; omega
        have e : (zfG (n + 1) (b0 :: t) && Lib.validGoD (n + 1) (b0 :: t)) = (zfG n ((b0 :: t).drop (Lib.decodeL (b0 :: t)).2) && Lib.validGoD n ((b0 :: t).drop (Lib.decodeL (b0 :: t)).2)) := by
          rw [zfG, if_neg hne, if_neg hz, Lib.validGoD, if_neg hne, if_neg hb]
        have ih := q_ristl n ((b0 :: t).drop (Lib.decodeL (b0 :: t)).2) (by simp only [List.length_drop] at *; omega) (by simp only [List.length_drop]; omega)
        rw [e]
        unfold K_tidingsref01_IsText_l1 at ih
        have l0 : (0 : Int) ≤ ((Lib.decodeL (b0 :: t)).2 : Int) := by omega
        have l1 : ((Lib.decodeL (b0 :: t)).2 : Int) ≤ ((t.length + 1 : Nat) : Int) := by simp only [List.length_cons] at hle; omega
        have l2 : (b0 :: t).take (t.length + 1) = b0 :: t := List.take_of_length_le (by simp)
        simp -implicitDefEqProofs only [EVS0, EVS1, EVS2, EVS3, EVS4, EVS5, EVS6, EVS7, EVL0, EVL1, ite_tf, ite_ft, ite_tft, ite_ftf, ite_list, ite_tt, ite_ee, ite_nt, ite_ne, eq_self, implies_true, forall_const, exI, nsite, freeAt, execI, Opd.ev, tget, tins, tput, keepL, sitesOf, List.sum_cons, List.sum_nil, Nat.reduceAdd, Nat.reduceSub, Nat.reduceLT, Nat.reduceLeDiff, Nat.reduceEqDiff, Nat.reduceBEq, Nat.reduceMul, beq_self_eq_true, Bool.false_eq_true, ldA, stA, partA, faddrA, setAt, binA, arithA, shiftA, strA, unA, gSpan, gSkip, unG, ne_eq, Option.some.injEq, reduceCtorEq, decide_true, decide_false, elemsA, resA, resAll, resOne, enterA, decide_eq_true_eq, Bool.not_eq_true, Bool.decide_eq_true, ite_self, ↓reduceIte, noRefL, clrA, gcT, gcA, gcIds, reach, rhoOf, heapOf, idxA, genB, newGen, renB, refsB, List.contains_cons, List.range_succ, cb_tidingsref01_IsText, b_tidingsref01_IsText, cr_tidingsref01_IsText, x_tidingsref01_IsText_k0, x_tidingsref01_IsText_l1, intsV, bytesV, propsV, propV, propC, bytesOf_map, e0, call_char, hc, tupF, n1, z1, optB, boundA, l0, l1, l2, Int.toNat_natCast]
        exact ih
theorem q_ristext (l : List UInt8) (hl : l.length ≤ 9223372036854775807) : E 48 [.str l] [] = some (.bool (textB l), []) := by
  rw [E_eq (by rfl) cf_tidingsref01_IsText]
  have := q_ristl l.length l (Nat.le_refl _) hl
  unfold K_tidingsref01_IsText_l1 at this
  simp -implicitDefEqProofs only [EVS0, EVS1, EVS2, EVS3, EVS4, EVS5, EVS6, EVS7, EVL0, EVL1, ite_tf, ite_ft, ite_tft, ite_ftf, ite_list, ite_tt, ite_ee, ite_nt, ite_ne, eq_self, implies_true, forall_const, exI, nsite, freeAt, execI, Opd.ev, tget, tins, tput, keepL, sitesOf, List.sum_cons, List.sum_nil, Nat.reduceAdd, Nat.reduceSub, Nat.reduceLT, Nat.reduceLeDiff, Nat.reduceEqDiff, Nat.reduceBEq, Nat.reduceMul, beq_self_eq_true, Bool.false_eq_true, ldA, stA, partA, faddrA, setAt, binA, arithA, shiftA, strA, unA, gSpan, gSkip, unG, ne_eq, Option.some.injEq, reduceCtorEq, decide_true, decide_false, elemsA, resA, resAll, resOne, enterA, decide_eq_true_eq, Bool.not_eq_true, Bool.decide_eq_true, ite_self, ↓reduceIte, noRefL, clrA, gcT, gcA, gcIds, reach, rhoOf, heapOf, idxA, genB, newGen, renB, refsB, List.contains_cons, List.range_succ, cb_tidingsref01_IsText, b_tidingsref01_IsText, cr_tidingsref01_IsText, x_tidingsref01_IsText_k0, x_tidingsref01_IsText_l1, intsV, bytesV, propsV, propV, propC, bytesOf_map, intsV]
  rw [this]; rfl
theorem q_ristextC (σ : AHeap) (site own : Nat) (view : Bool) (l : List UInt8) (hl : l.length ≤ 9223372036854775807) : callG E BY σ site 48 own view [.str l] = some (.bool (textB l), σ, {}) :=
  call_flat (q_ristext l hl) (by kernel_rfl) (by simp -implicitDefEqProofs only [EVS0, EVS1, EVS2, EVS3, EVS4, EVS5, EVS6, EVS7, EVL0, EVL1, eq_self, implies_true, Bool.false_eq_true, intsV, bytesV, propsV, propV, propC, intsV]) (by simp -implicitDefEqProofs only [EVS0, EVS1, EVS2, EVS3, EVS4, EVS5, EVS6, EVS7, EVL0, EVL1, eq_self, implies_true, Bool.false_eq_true, intsV, bytesV, propsV, propV, propC, intsV]) rfl (fun _ => rfl) _ _ _ _
end Go.Proofs.YtaaflagbhneakaaDoor
namespace Go.Proofs.YtaaflagbhneakaaDoor
set_option linter.unusedSimpArgs false
set_option linter.unusedVariables false
set_option maxHeartbeats 4000000
set_option maxRecDepth 10000
def isPH (b : UInt8) : Bool := b == 43 || b == 35
def plusHash (l : List UInt8) : Bool := l.any isPH
def setL : List AVal := (List.range 256).map fun n => .bool (n == 43 || n == 35)
theorem setL_len : setL.length = 256 := by simp [setL]
theorem setL_noRef : noRefL setL = true := by kernel_rfl
theorem setL_take : (setL.drop 0).take 256 = setL := by kernel_rfl
theorem setL_take' : setL.take 256 = setL := by kernel_rfl
theorem setL_at (b : UInt8) : setL[b.toNat]? = some (.bool (isPH b)) := by
  have hb := b.toNat_lt
  have : isPH b = (b.toNat == 43 || b.toNat == 35) := by
    unfold isPH
    rw [Bool.eq_iff_iff]
    simp [← UInt8.toNat_inj]
  rw [this]
  simp [setL, hb]
theorem setL_refs : refsL setL = [] := (noRefL_spec (fun _ _ => none) setL setL_noRef).2
theorem setL_ren (ρ : Rho) : renL ρ setL = setL := (noRefL_spec ρ setL setL_noRef).1
theorem q_mkset : E 58 [.str [43, 35]] [] = some (.tup [.agg setL, .bool true], []) := EV_some.2 ⟨8, by kernel_rfl⟩
theorem q_mksetC (σ : AHeap) (site own : Nat) (view : Bool) : callG E BY σ site 58 own view [.str [43, 35]] = some (.tup [.agg setL, .bool true], σ, {}) :=
  call_flat q_mkset (by kernel_rfl) rfl rfl (by kernel_rfl) (fun _ => by kernel_rfl) _ _ _ _
theorem q_has (b : UInt8) : E 59 [.ref 0 0, byteV b] [.var setL] = some (.bool (isPH b), [.var setL]) := by
  rw [E_eq (by rfl) cf_strings_asciiSet_contains]
  have h1 : (0 : Int) ≤ (b.toNat : Int) := by omega
  have h2 : (b.toNat : Int) < ((256 : Nat) : Int) := by have := byte_lt b; omega
  simp -implicitDefEqProofs only [EVS0, EVS1, EVS2, EVS3, EVS4, EVS5, EVS6, EVS7, EVL0, EVL1, ite_tf, ite_ft, ite_tft, ite_ftf, ite_list, ite_tt, ite_ee, ite_nt, ite_ne, eq_self, implies_true, forall_const, exI, nsite, freeAt, execI, Opd.ev, tget, tins, tput, keepL, sitesOf, List.sum_cons, List.sum_nil, Nat.reduceAdd, Nat.reduceSub, Nat.reduceLT, Nat.reduceLeDiff, Nat.reduceEqDiff, Nat.reduceBEq, Nat.reduceMul, beq_self_eq_true, Bool.false_eq_true, ldA, stA, partA, faddrA, setAt, binA, arithA, shiftA, strA, unA, gSpan, gSkip, unG, ne_eq, Option.some.injEq, reduceCtorEq, decide_true, decide_false, elemsA, resA, resAll, resOne, enterA, decide_eq_true_eq, Bool.not_eq_true, Bool.decide_eq_true, ite_self, ↓reduceIte, noRefL, clrA, gcT, gcA, gcIds, reach, rhoOf, heapOf, idxA, genB, newGen, renB, refsB, List.contains_cons, List.range_succ, cb_strings_asciiSet_contains, b_strings_asciiSet_contains, cr_strings_asciiSet_contains, intsV, bytesV, propsV, propV, propC, bytesOf_map, byteV, h1, h2, Int.toNat_natCast, Nat.mul_one, setL_at, setL_noRef]
theorem q_hasC (σ : AHeap) (site t : Nat) (view : Bool) (b : UInt8) (hs : σ[t]? = some (.var setL)) : callG E BY σ site 59 0 view [.ref t 0, .int .u8 b.toNat] = some (.bool (isPH b), σ.set t (.var setL), { any := true }) :=
  call_ref hs setL_noRef setL_noRef (by kernel_rfl) rfl rfl rfl rfl (q_has b)
theorem q_anyl (s : List UInt8) (hl : s.length ≤ 9223372036854775807) : ∀ (r : List UInt8) (i : Nat), s.drop i = r → ∃ z, K_strings_IndexAny_l12 0 [(8, .int .i64 i), (6, .ref 0 0), (0, .str s)] [.var setL] = some (.int .i64 z, []) ∧ decide (z ≥ 0) = plusHash r
  | [], i, h => by
    have h1 := drop_nil h
    refine ⟨-1, ?_, by simp [plusHash]⟩
    unfold K_strings_IndexAny_l12
    rw [evL_eq]
    simp -implicitDefEqProofs only [EVS0, EVS1, EVS2, EVS3, EVS4, EVS5, EVS6, EVS7, EVL0, EVL1, ite_tf, ite_ft, ite_tft, ite_ftf, ite_list, ite_tt, ite_ee, ite_nt, ite_ne, eq_self, implies_true, forall_const, exI, nsite, freeAt, execI, Opd.ev, tget, tins, tput, keepL, sitesOf, List.sum_cons, List.sum_nil, Nat.reduceAdd, Nat.reduceSub, Nat.reduceLT, Nat.reduceLeDiff, Nat.reduceEqDiff, Nat.reduceBEq, Nat.reduceMul, beq_self_eq_true, Bool.false_eq_true, ldA, stA, partA, faddrA, setAt, binA, arithA, shiftA, strA, unA, gSpan, gSkip, unG, ne_eq, Option.some.injEq, reduceCtorEq, decide_true, decide_false, elemsA, resA, resAll, resOne, enterA, decide_eq_true_eq, Bool.not_eq_true, Bool.decide_eq_true, ite_self, ↓reduceIte, noRefL, clrA, gcT, gcA, gcIds, reach, rhoOf, heapOf, idxA, genB, newGen, renB, refsB, List.contains_cons, List.range_succ, cb_strings_IndexAny, b_strings_IndexAny, cr_strings_IndexAny, x_strings_IndexAny_k0, x_strings_IndexAny_l18, x_strings_IndexAny_k1, x_strings_IndexAny_k2, x_strings_IndexAny_l12, intsV, bytesV, propsV, propV, propC, bytesOf_map, h1]
  | b :: r, i, h => by
    obtain ⟨z, ih, hz⟩ := q_anyl s hl r (i + 1) (drop_at h).2.1
    have h1 : (i : Int) < s.length := by have := (drop_at h).2.2; omega
    have h2 := (drop_at h).1
    have h3 := wrap_succ h1 hl
    have i0 : (0 : Int) ≤ (i : Int) := by omega
    unfold K_strings_IndexAny_l12 at ih ⊢
    cases hb : isPH b
    · refine ⟨z, ?_, by rw [hz]; simp [plusHash, hb]⟩
      rw [evL_eq]
      simp -implicitDefEqProofs only [EVS0, EVS1, EVS2, EVS3, EVS4, EVS5, EVS6, EVS7, EVL0, EVL1, ite_tf, ite_ft, ite_tft, ite_ftf, ite_list, ite_tt, ite_ee, ite_nt, ite_ne, eq_self, implies_true, forall_const, exI, nsite, freeAt, execI, Opd.ev, tget, tins, tput, keepL, sitesOf, List.sum_cons, List.sum_nil, Nat.reduceAdd, Nat.reduceSub, Nat.reduceLT, Nat.reduceLeDiff, Nat.reduceEqDiff, Nat.reduceBEq, Nat.reduceMul, beq_self_eq_true, Bool.false_eq_true, ldA, stA, partA, faddrA, setAt, binA, arithA, shiftA, strA, unA, gSpan, gSkip, unG, ne_eq, Option.some.injEq, reduceCtorEq, decide_true, decide_false, elemsA, resA, resAll, resOne, enterA, decide_eq_true_eq, Bool.not_eq_true, Bool.decide_eq_true, ite_self, ↓reduceIte, noRefL, clrA, gcT, gcA, gcIds, reach, rhoOf, heapOf, idxA, genB, newGen, renB, refsB, List.contains_cons, List.range_succ, cb_strings_IndexAny, b_strings_IndexAny, cr_strings_IndexAny, x_strings_IndexAny_k0, x_strings_IndexAny_l18, x_strings_IndexAny_k1, x_strings_IndexAny_k2, x_strings_IndexAny_l12, intsV, bytesV, propsV, propV, propC, bytesOf_map, h1, h2, h3, i0, Int.toNat_natCast, q_hasC, hb, byteV, setL_refs, setL_ren]
      exact ih
    · refine ⟨i, ?_, by simp [plusHash, hb]⟩
      rw [evL_eq]
      simp -implicitDefEqProofs only [EVS0, EVS1, EVS2, EVS3, EVS4, EVS5, EVS6, EVS7, EVL0, EVL1, ite_tf, ite_ft, ite_tft, ite_ftf, ite_list, ite_tt, ite_ee, ite_nt, ite_ne, eq_self, implies_true, forall_const, exI, nsite, freeAt, execI, Opd.ev, tget, tins, tput, keepL, sitesOf, List.sum_cons, List.sum_nil, Nat.reduceAdd, Nat.reduceSub, Nat.reduceLT, Nat.reduceLeDiff, Nat.reduceEqDiff, Nat.reduceBEq, Nat.reduceMul, beq_self_eq_true, Bool.false_eq_true, ldA, stA, partA, faddrA, setAt, binA, arithA, shiftA, strA, unA, gSpan, gSkip, unG, ne_eq, Option.some.injEq, reduceCtorEq, decide_true, decide_false, elemsA, resA, resAll, resOne, enterA, decide_eq_true_eq, Bool.not_eq_true, Bool.decide_eq_true, ite_self, ↓reduceIte, noRefL, clrA, gcT, gcA, gcIds, reach, rhoOf, heapOf, idxA, genB, newGen, renB, refsB, List.contains_cons, List.range_succ, cb_strings_IndexAny, b_strings_IndexAny, cr_strings_IndexAny, x_strings_IndexAny_k0, x_strings_IndexAny_l18, x_strings_IndexAny_k1, x_strings_IndexAny_k2, x_strings_IndexAny_l12, intsV, bytesV, propsV, propV, propC, bytesOf_map, h1, h2, h3, i0, Int.toNat_natCast, q_hasC, hb, byteV, setL_refs, setL_ren]
/-! IndexRune of "+#" -/
def idxPH (r : Int) : Int := if r = 43 then 0 else if r = 35 then 1 else -1
theorem q_idxByte (l : List UInt8) (c : Int) : E 62 [.str l, .int .u8 c] [] = some (.int .i64 (Lib.indexByte l c.toNat.toUInt8), []) := EV_some.2 ⟨1, rfl⟩
theorem q_idxByteC (σ : AHeap) (site own : Nat) (view : Bool) (l : List UInt8) (c : Int) : callG E BY σ site 62 own view [.str l, .int .u8 c] = some (.int .i64 (Lib.indexByte l c.toNat.toUInt8), σ, {}) :=
  call_flat (q_idxByte l c) (by kernel_rfl) (by simp -implicitDefEqProofs only [EVS0, EVS1, EVS2, EVS3, EVS4, EVS5, EVS6, EVS7, EVL0, EVL1, eq_self, implies_true, Bool.false_eq_true, intsV, bytesV, propsV, propV, propC, intsV]) (by simp -implicitDefEqProofs only [EVS0, EVS1, EVS2, EVS3, EVS4, EVS5, EVS6, EVS7, EVL0, EVL1, eq_self, implies_true, Bool.false_eq_true, intsV, bytesV, propsV, propV, propC, intsV]) rfl (fun _ => rfl) _ _ _ _
theorem q_validRune (r : Int) (h : (0 ≤ r ∧ r < 55296) ∨ (57344 ≤ r ∧ r ≤ 1114111)) : E 63 [.int .i32 r] [] = some (.bool true, []) := by
  rw [E_eq (by rfl) cf_unicode_utf8_ValidRune]
  rcases h with ⟨h1, h2⟩ | ⟨h1, h2⟩
  · simp -implicitDefEqProofs only [EVS0, EVS1, EVS2, EVS3, EVS4, EVS5, EVS6, EVS7, EVL0, EVL1, ite_tf, ite_ft, ite_tft, ite_ftf, ite_list, ite_tt, ite_ee, ite_nt, ite_ne, eq_self, implies_true, forall_const, exI, nsite, freeAt, execI, Opd.ev, tget, tins, tput, keepL, sitesOf, List.sum_cons, List.sum_nil, Nat.reduceAdd, Nat.reduceSub, Nat.reduceLT, Nat.reduceLeDiff, Nat.reduceEqDiff, Nat.reduceBEq, Nat.reduceMul, beq_self_eq_true, Bool.false_eq_true, ldA, stA, partA, faddrA, setAt, binA, arithA, shiftA, strA, unA, gSpan, gSkip, unG, ne_eq, Option.some.injEq, reduceCtorEq, decide_true, decide_false, elemsA, resA, resAll, resOne, enterA, decide_eq_true_eq, Bool.not_eq_true, Bool.decide_eq_true, ite_self, ↓reduceIte, noRefL, clrA, gcT, gcA, gcIds, reach, rhoOf, heapOf, idxA, genB, newGen, renB, refsB, List.contains_cons, List.range_succ, cb_unicode_utf8_ValidRune, b_unicode_utf8_ValidRune, cr_unicode_utf8_ValidRune, intsV, bytesV, propsV, propV, propC, bytesOf_map, h1, h2]
  · have h3 : ¬ r < 55296 := by omega
    have h4 : (57343 : Int) < r := by omega
    have h5 : (0 : Int) ≤ r := by omega
    simp -implicitDefEqProofs only [EVS0, EVS1, EVS2, EVS3, EVS4, EVS5, EVS6, EVS7, EVL0, EVL1, ite_tf, ite_ft, ite_tft, ite_ftf, ite_list, ite_tt, ite_ee, ite_nt, ite_ne, eq_self, implies_true, forall_const, exI, nsite, freeAt, execI, Opd.ev, tget, tins, tput, keepL, sitesOf, List.sum_cons, List.sum_nil, Nat.reduceAdd, Nat.reduceSub, Nat.reduceLT, Nat.reduceLeDiff, Nat.reduceEqDiff, Nat.reduceBEq, Nat.reduceMul, beq_self_eq_true, Bool.false_eq_true, ldA, stA, partA, faddrA, setAt, binA, arithA, shiftA, strA, unA, gSpan, gSkip, unG, ne_eq, Option.some.injEq, reduceCtorEq, decide_true, decide_false, elemsA, resA, resAll, resOne, enterA, decide_eq_true_eq, Bool.not_eq_true, Bool.decide_eq_true, ite_self, ↓reduceIte, noRefL, clrA, gcT, gcA, gcIds, reach, rhoOf, heapOf, idxA, genB, newGen, renB, refsB, List.contains_cons, List.range_succ, cb_unicode_utf8_ValidRune, b_unicode_utf8_ValidRune, cr_unicode_utf8_ValidRune, intsV, bytesV, propsV, propV, propC, bytesOf_map, h1, h2, h3, h4, h5]
theorem q_rune_err : E 56 [.str [43, 35], .int .i32 65533] [] = some (.int .i64 (-1), []) := EV_some.2 ⟨8, by kernel_rfl⟩
theorem q_validRuneC (σ : AHeap) (site own : Nat) (view : Bool) (r : Int) (h : (0 ≤ r ∧ r < 55296) ∨ (57344 ≤ r ∧ r ≤ 1114111)) : callG E BY σ site 63 own view [.int .i32 r] = some (.bool true, σ, {}) :=
  call_flat (q_validRune r h) (by kernel_rfl) (by simp -implicitDefEqProofs only [EVS0, EVS1, EVS2, EVS3, EVS4, EVS5, EVS6, EVS7, EVL0, EVL1, eq_self, implies_true, Bool.false_eq_true, intsV, bytesV, propsV, propV, propC, intsV]) (by simp -implicitDefEqProofs only [EVS0, EVS1, EVS2, EVS3, EVS4, EVS5, EVS6, EVS7, EVL0, EVL1, eq_self, implies_true, Bool.false_eq_true, intsV, bytesV, propsV, propV, propC, intsV]) rfl (fun _ => rfl) _ _ _ _
theorem idx_ascii (r : Int) (h0 : 0 ≤ r) (h1 : r < 128) : Lib.indexByte [43, 35] r.toNat.toUInt8 = idxPH r := by
  obtain ⟨n, rfl⟩ : ∃ n : Fin 128, r = (n.val : Int) := ⟨⟨r.toNat, by omega⟩, by simp; omega⟩
  clear h0 h1
  revert n
  decide
theorem q_rune_ascii (r : Int) (h0 : 0 ≤ r) (h1 : r < 128) : E 56 [.str [43, 35], .int .i32 r] [] = some (.int .i64 (idxPH r), []) := by
  rw [E_eq (by rfl) cf_strings_IndexRune]
  have w : IntKind.u8.wrap r = r := by rw [show IntKind.u8.wrap r = r % 256 from rfl]; omega
  simp -implicitDefEqProofs only [EVS0, EVS1, EVS2, EVS3, EVS4, EVS5, EVS6, EVS7, EVL0, EVL1, ite_tf, ite_ft, ite_tft, ite_ftf, ite_list, ite_tt, ite_ee, ite_nt, ite_ne, eq_self, implies_true, forall_const, exI, nsite, freeAt, execI, Opd.ev, tget, tins, tput, keepL, sitesOf, List.sum_cons, List.sum_nil, Nat.reduceAdd, Nat.reduceSub, Nat.reduceLT, Nat.reduceLeDiff, Nat.reduceEqDiff, Nat.reduceBEq, Nat.reduceMul, beq_self_eq_true, Bool.false_eq_true, ldA, stA, partA, faddrA, setAt, binA, arithA, shiftA, strA, unA, gSpan, gSkip, unG, ne_eq, Option.some.injEq, reduceCtorEq, decide_true, decide_false, elemsA, resA, resAll, resOne, enterA, decide_eq_true_eq, Bool.not_eq_true, Bool.decide_eq_true, ite_self, ↓reduceIte, noRefL, clrA, gcT, gcA, gcIds, reach, rhoOf, heapOf, idxA, genB, newGen, renB, refsB, List.contains_cons, List.range_succ, cb_strings_IndexRune, b_strings_IndexRune, cr_strings_IndexRune, x_strings_IndexRune_k0, x_strings_IndexRune_l38, x_strings_IndexRune_k1, x_strings_IndexRune_k2, x_strings_IndexRune_k3, x_strings_IndexRune_l29, x_strings_IndexRune_l25, x_strings_IndexRune_k4, x_strings_IndexRune_k5, x_strings_IndexRune_l12, x_strings_IndexRune_l5, intsV, bytesV, propsV, propV, propC, bytesOf_map, h0, h1, w, q_idxByteC, idx_ascii]
theorem enc2 (r : Int) (h0 : 128 ≤ r) (h1 : r < 2048) : ∃ a b : UInt8, (Utf8.encode r).data.toList = [a, b] ∧ ((35 : Int) == (b.toNat : Int)) = false := by
  have hv : Utf8.valid r = true := by simp [Utf8.valid]; omega
  refine ⟨_, _, by unfold Utf8.encode; simp only [hv, if_true]; rw [if_neg (by omega), if_pos (by omega)], ?_⟩
  rw [beq_eq_false_iff_ne]
  simp
  omega
theorem enc3 (r : Int) (h0 : 2048 ≤ r) (h1 : r < 65536) (hv : Utf8.valid r = true) : ∃ a b c : UInt8, (Utf8.encode r).data.toList = [a, b, c] := by
  refine ⟨_, _, _, by unfold Utf8.encode; simp only [hv, if_true]; rw [if_neg (by omega), if_neg (by omega), if_pos (by omega)]⟩
theorem enc4 (r : Int) (h1 : 65536 ≤ r) (hv : Utf8.valid r = true) : ∃ a b c d : UInt8, (Utf8.encode r).data.toList = [a, b, c, d] := by
  refine ⟨_, _, _, _, by unfold Utf8.encode; simp only [hv, if_true]; rw [if_neg (by omega), if_neg (by omega), if_neg (by omega)]⟩
theorem q_rune_wide (r : Int) (h0 : 128 ≤ r) (hv : (0 ≤ r ∧ r < 55296) ∨ (57344 ≤ r ∧ r ≤ 1114111)) (hne : r ≠ 65533) : E 56 [.str [43, 35], .int .i32 r] [] = some (.int .i64 (-1), []) := by
  rw [E_eq (by rfl) cf_strings_IndexRune]
  have h1 : (0 : Int) ≤ r := by omega
  have h2 : ¬ r < 128 := by omega
  have h3 : (r == 65533) = false := by rw [beq_eq_false_iff_ne]; exact hne
  have hv' : Utf8.valid r = true := by simp [Utf8.valid]; omega
  have hV := fun σ site own view => q_validRuneC σ site own view r hv
  by_cases h4 : r < 2048
  · obtain ⟨a, b, he, hb⟩ := enc2 r h0 h4
    have hi : Lib.indexByte [] ((b.toNat : Int).toNat.toUInt8) = -1 := rfl
    have w1 : IntKind.i64.wrap (((2 : Nat) : Int) - 1) = 1 := by decide
    have w2 : IntKind.i64.wrap ((1 : Int) + 1) = 2 := by decide
    have l1 : (1 : Int) < ((2 : Nat) : Int) := by decide
    have l2 : (2 : Int) ≤ ((2 : Nat) : Int) := by decide
    have l3 : (0 : Int) ≤ 1 := by decide
    have l4 : (0 : Int) ≤ 2 := by decide
    have t1 : (1 : Int).toNat = 1 := rfl
    have t2 : (2 : Int).toNat = 2 := rfl
    have n1 : ((-1 : Int) < 0) = True := by simp
    have hb' : (((35 : UInt8).toNat : Int) != (b.toNat : Int)) = true := by
      have : ((35 : UInt8).toNat : Int) = 35 := rfl
      rw [this]; simp only [bne, hb, Bool.not_false]
    simp -implicitDefEqProofs only [EVS0, EVS1, EVS2, EVS3, EVS4, EVS5, EVS6, EVS7, EVL0, EVL1, ite_tf, ite_ft, ite_tft, ite_ftf, ite_list, ite_tt, ite_ee, ite_nt, ite_ne, eq_self, implies_true, forall_const, exI, nsite, freeAt, execI, Opd.ev, tget, tins, tput, keepL, sitesOf, List.sum_cons, List.sum_nil, Nat.reduceAdd, Nat.reduceSub, Nat.reduceLT, Nat.reduceLeDiff, Nat.reduceEqDiff, Nat.reduceBEq, Nat.reduceMul, beq_self_eq_true, Bool.false_eq_true, ldA, stA, partA, faddrA, setAt, binA, arithA, shiftA, strA, unA, gSpan, gSkip, unG, ne_eq, Option.some.injEq, reduceCtorEq, decide_true, decide_false, elemsA, resA, resAll, resOne, enterA, decide_eq_true_eq, Bool.not_eq_true, Bool.decide_eq_true, ite_self, ↓reduceIte, noRefL, clrA, gcT, gcA, gcIds, reach, rhoOf, heapOf, idxA, genB, newGen, renB, refsB, List.contains_cons, List.range_succ, cb_strings_IndexRune, b_strings_IndexRune, cr_strings_IndexRune, x_strings_IndexRune_k0, x_strings_IndexRune_l38, x_strings_IndexRune_k1, x_strings_IndexRune_k2, x_strings_IndexRune_k3, x_strings_IndexRune_l29, x_strings_IndexRune_l25, x_strings_IndexRune_k4, x_strings_IndexRune_k5, x_strings_IndexRune_l12, x_strings_IndexRune_l5, intsV, bytesV, propsV, propV, propC, bytesOf_map, h1, h2, h3, hV, he, evL_eq, byteV, w1, w2, l1, l2, l3, l4, t1, t2, hb', optB, boundA, q_idxByteC, hi, n1]
  · by_cases h5 : r < 65536
    · obtain ⟨a, b, c, he⟩ := enc3 r (by omega) h5 hv'
      have w1 : IntKind.i64.wrap (((3 : Nat) : Int) - 1) = 2 := by decide
      have l1 : ¬ (2 : Int) < ((2 : Nat) : Int) := by decide
      simp -implicitDefEqProofs only [EVS0, EVS1, EVS2, EVS3, EVS4, EVS5, EVS6, EVS7, EVL0, EVL1, ite_tf, ite_ft, ite_tft, ite_ftf, ite_list, ite_tt, ite_ee, ite_nt, ite_ne, eq_self, implies_true, forall_const, exI, nsite, freeAt, execI, Opd.ev, tget, tins, tput, keepL, sitesOf, List.sum_cons, List.sum_nil, Nat.reduceAdd, Nat.reduceSub, Nat.reduceLT, Nat.reduceLeDiff, Nat.reduceEqDiff, Nat.reduceBEq, Nat.reduceMul, beq_self_eq_true, Bool.false_eq_true, ldA, stA, partA, faddrA, setAt, binA, arithA, shiftA, strA, unA, gSpan, gSkip, unG, ne_eq, Option.some.injEq, reduceCtorEq, decide_true, decide_false, elemsA, resA, resAll, resOne, enterA, decide_eq_true_eq, Bool.not_eq_true, Bool.decide_eq_true, ite_self, ↓reduceIte, noRefL, clrA, gcT, gcA, gcIds, reach, rhoOf, heapOf, idxA, genB, newGen, renB, refsB, List.contains_cons, List.range_succ, cb_strings_IndexRune, b_strings_IndexRune, cr_strings_IndexRune, x_strings_IndexRune_k0, x_strings_IndexRune_l38, x_strings_IndexRune_k1, x_strings_IndexRune_k2, x_strings_IndexRune_k3, x_strings_IndexRune_l29, x_strings_IndexRune_l25, x_strings_IndexRune_k4, x_strings_IndexRune_k5, x_strings_IndexRune_l12, x_strings_IndexRune_l5, intsV, bytesV, propsV, propV, propC, bytesOf_map, h1, h2, h3, hV, he, evL_eq, byteV, w1, l1]
    · obtain ⟨a, b, c, d, he⟩ := enc4 r (by omega) hv'
      have w1 : IntKind.i64.wrap (((4 : Nat) : Int) - 1) = 3 := by decide
      have l1 : ¬ (3 : Int) < ((2 : Nat) : Int) := by decide
      simp -implicitDefEqProofs only [EVS0, EVS1, EVS2, EVS3, EVS4, EVS5, EVS6, EVS7, EVL0, EVL1, ite_tf, ite_ft, ite_tft, ite_ftf, ite_list, ite_tt, ite_ee, ite_nt, ite_ne, eq_self, implies_true, forall_const, exI, nsite, freeAt, execI, Opd.ev, tget, tins, tput, keepL, sitesOf, List.sum_cons, List.sum_nil, Nat.reduceAdd, Nat.reduceSub, Nat.reduceLT, Nat.reduceLeDiff, Nat.reduceEqDiff, Nat.reduceBEq, Nat.reduceMul, beq_self_eq_true, Bool.false_eq_true, ldA, stA, partA, faddrA, setAt, binA, arithA, shiftA, strA, unA, gSpan, gSkip, unG, ne_eq, Option.some.injEq, reduceCtorEq, decide_true, decide_false, elemsA, resA, resAll, resOne, enterA, decide_eq_true_eq, Bool.not_eq_true, Bool.decide_eq_true, ite_self, ↓reduceIte, noRefL, clrA, gcT, gcA, gcIds, reach, rhoOf, heapOf, idxA, genB, newGen, renB, refsB, List.contains_cons, List.range_succ, cb_strings_IndexRune, b_strings_IndexRune, cr_strings_IndexRune, x_strings_IndexRune_k0, x_strings_IndexRune_l38, x_strings_IndexRune_k1, x_strings_IndexRune_k2, x_strings_IndexRune_k3, x_strings_IndexRune_l29, x_strings_IndexRune_l25, x_strings_IndexRune_k4, x_strings_IndexRune_k5, x_strings_IndexRune_l12, x_strings_IndexRune_l5, intsV, bytesV, propsV, propV, propC, bytesOf_map, h1, h2, h3, hV, he, evL_eq, byteV, w1, l1]
/-- what a decoded rune is -/
theorem decodeL_valid (l : List UInt8) : ((Lib.decodeL l).1 < 55296) ∨ (57344 ≤ (Lib.decodeL l).1 ∧ (Lib.decodeL l).1 ≤ 1114111) := by
  rw [Lib.decodeL_N]
  have h0 := (l.getD 0 0).toNat_lt
  unfold Lib.decodeN
  repeat' split
  all_goals (try simp only); omega
theorem q_rune (l : List UInt8) : E 56 [.str [43, 35], .int .i32 (Lib.decodeL l).1] [] = some (.int .i64 (idxPH (Lib.decodeL l).1), []) := by
  have hv := decodeL_valid l
  generalize (Lib.decodeL l).1 = n at hv
  by_cases h : n < 128
  · exact q_rune_ascii n (by omega) (by omega)
  · have e : idxPH (n : Int) = -1 := by unfold idxPH; rw [if_neg (by omega), if_neg (by omega)]
    rw [e]
    by_cases h2 : n = 65533
    · subst h2; exact q_rune_err
    · exact q_rune_wide n (by omega) (by omega) (by omega)
theorem q_runeC (σ : AHeap) (site own : Nat) (view : Bool) (l : List UInt8) : callG E BY σ site 56 own view [.str [43, 35], .int .i32 (Lib.decodeL l).1] = some (.int .i64 (idxPH (Lib.decodeL l).1), σ, {}) :=
  call_flat (q_rune l) (by kernel_rfl) (by simp -implicitDefEqProofs only [EVS0, EVS1, EVS2, EVS3, EVS4, EVS5, EVS6, EVS7, EVL0, EVL1, eq_self, implies_true, Bool.false_eq_true, intsV, bytesV, propsV, propV, propC, intsV]) (by simp -implicitDefEqProofs only [EVS0, EVS1, EVS2, EVS3, EVS4, EVS5, EVS6, EVS7, EVL0, EVL1, eq_self, implies_true, Bool.false_eq_true, intsV, bytesV, propsV, propV, propC, intsV]) rfl (fun _ => rfl) _ _ _ _
/-- a rune's bytes but the first one are no '+', no '#' -/
theorem plusHash_step (l : List UInt8) (hne : l ≠ []) : plusHash l = (decide (idxPH (Lib.decodeL l).1 ≥ 0) || plusHash (l.drop (Lib.decodeL l).2)) := by
  obtain ⟨b0, t, rfl⟩ : ∃ b t, l = b :: t := by
    cases l with
    | nil => exact absurd rfl hne
    | cons b t => exact ⟨b, t, rfl⟩
  have hc : ∀ b : UInt8, b.toNat / 64 = 2 → isPH b = false := by
    intro b hb
    unfold isPH
    simp only [Bool.or_eq_false_iff, beq_eq_false_iff_ne, ne_eq, ← UInt8.toNat_inj]
    have : (43 : UInt8).toNat = 43 := rfl
    have : (35 : UInt8).toNat = 35 := rfl
    omega
  have hi : ∀ n : Nat, n ≠ 43 → n ≠ 35 → decide (idxPH (n : Int) ≥ 0) = false := by
    intro n h1 h2
    unfold idxPH
    rw [if_neg (by omega), if_neg (by omega)]; rfl
  have hp : ∀ b : UInt8, isPH b = decide (idxPH (b.toNat : Int) ≥ 0) := by
    intro b
    unfold isPH idxPH
    have e1 : (43 : UInt8).toNat = 43 := rfl
    have e2 : (35 : UInt8).toNat = 35 := rfl
    rw [Bool.eq_iff_iff]
    simp only [Bool.or_eq_true, beq_iff_eq, ← UInt8.toNat_inj, e1, e2, decide_eq_true_eq]
    constructor
    · rintro (h | h) <;> simp [h]
    · intro h
      by_cases h1 : b.toNat = 43
      · exact Or.inl h1
      · by_cases h2 : b.toNat = 35
        · exact Or.inr h2
        · rw [if_neg (by omega), if_neg (by omega)] at h; omega
  rw [Lib.decodeL_N]
  simp only [List.length_cons, List.getD_cons_zero, List.getD_cons_succ]
  have hb := b0.toNat_lt
  have hlow : 128 ≤ b0.toNat → isPH b0 = false := by
    intro h; rw [hp]; exact hi _ (by omega) (by omega)
  unfold Lib.decodeN
  split
  · simp [plusHash, hp]
  rename_i h0
  have hl0 := hlow (by omega)
  have eE : decide (idxPH ((65533 : Nat) : Int) ≥ 0) = false := by decide
  split
  · rename_i h1
    obtain ⟨b1, t, rfl⟩ : ∃ b t', t = b :: t' := by
      cases t with
      | nil => simp at h1
      | cons b t => exact ⟨b, t, rfl⟩
    have h1c := hc b1 (by simpa using h1.2.2)
    split
    · rename_i h2
      rw [hi _ (by simp only; omega) (by simp only; omega)]
      simp [plusHash, hl0, h1c]
    · rw [eE]; simp [plusHash, hl0]
  split
  · rename_i h1
    obtain ⟨b1, b2, t, rfl⟩ : ∃ b c t', t = b :: c :: t' := by
      match t, h1 with
      | [], h1 => simp at h1
      | [_], h1 => simp at h1
      | b :: c :: t, _ => exact ⟨b, c, t, rfl⟩
    have h1c := hc b1 (by simpa using h1.2.1.2)
    have h2c := hc b2 (by simpa using h1.2.2.2)
    split
    · rename_i h2
      rw [hi _ (by simp only; omega) (by simp only; omega)]
      simp [plusHash, hl0, h1c, h2c]
    · rw [eE]; simp [plusHash, hl0]
  split
  · rename_i h1
    obtain ⟨b1, b2, b3, t, rfl⟩ : ∃ b c d t', t = b :: c :: d :: t' := by
      match t, h1 with
      | [], h1 => simp at h1
      | [_], h1 => simp at h1
      | [_, _], h1 => simp at h1
      | b :: c :: d :: t, _ => exact ⟨b, c, d, t, rfl⟩
    have h1c := hc b1 (by simpa using h1.2.1.2)
    have h2c := hc b2 (by simpa using h1.2.2.1.2)
    have h3c := hc b3 (by simpa using h1.2.2.2.2)
    split
    · rename_i h2
      rw [hi _ (by simp only; omega) (by simp only; omega)]
      simp [plusHash, hl0, h1c, h2c, h3c]
    · rw [eE]; simp [plusHash, hl0]
  · rw [eE]; simp [plusHash, hl0]
theorem q_anyr (s : List UInt8) : ∀ (n p : Nat), s.length - p ≤ n → p ≤ s.length → ∃ z, K_strings_IndexAny_l18 0 [(45, .ref 0 0), (1, .str [43, 35])] [.siter s p] = some (.int .i64 z, []) ∧ decide (z ≥ 0) = plusHash (s.drop p)
  | n, p, hn, hp => by
    by_cases h : p < s.length
    · obtain ⟨n, rfl⟩ : ∃ m, n = m + 1 := ⟨n - 1, by omega⟩
      have hw := Lib.decodeL_width (s.drop p)
      have hne : s.drop p ≠ [] := by rw [ne_eq, List.drop_eq_nil_iff]; omega
      have hle := Lib.decodeL_le (s.drop p) hne
      rw [List.length_drop] at hle
      obtain ⟨z, ih, hz⟩ := q_anyr s n (p + (Lib.decodeL (s.drop p)).2) (by omega) (by omega)
      rw [← List.drop_drop] at hz
      rw [plusHash_step _ hne, ← hz]
      unfold K_strings_IndexAny_l18 at ih ⊢
      by_cases hi : idxPH (Lib.decodeL (s.drop p)).1 ≥ 0
      · refine ⟨p, ?_, by simp [hi]⟩
        rw [evL_eq]
        simp -implicitDefEqProofs only [EVS0, EVS1, EVS2, EVS3, EVS4, EVS5, EVS6, EVS7, EVL0, EVL1, ite_tf, ite_ft, ite_tft, ite_ftf, ite_list, ite_tt, ite_ee, ite_nt, ite_ne, eq_self, implies_true, forall_const, exI, nsite, freeAt, execI, Opd.ev, tget, tins, tput, keepL, sitesOf, List.sum_cons, List.sum_nil, Nat.reduceAdd, Nat.reduceSub, Nat.reduceLT, Nat.reduceLeDiff, Nat.reduceEqDiff, Nat.reduceBEq, Nat.reduceMul, beq_self_eq_true, Bool.false_eq_true, ldA, stA, partA, faddrA, setAt, binA, arithA, shiftA, strA, unA, gSpan, gSkip, unG, ne_eq, Option.some.injEq, reduceCtorEq, decide_true, decide_false, elemsA, resA, resAll, resOne, enterA, decide_eq_true_eq, Bool.not_eq_true, Bool.decide_eq_true, ite_self, ↓reduceIte, noRefL, clrA, gcT, gcA, gcIds, reach, rhoOf, heapOf, idxA, genB, newGen, renB, refsB, List.contains_cons, List.range_succ, cb_strings_IndexAny, b_strings_IndexAny, cr_strings_IndexAny, x_strings_IndexAny_k0, x_strings_IndexAny_l18, x_strings_IndexAny_k1, x_strings_IndexAny_k2, x_strings_IndexAny_l12, intsV, bytesV, propsV, propV, propC, bytesOf_map, h, decA_drop, q_runeC, hi]
      · refine ⟨z, ?_, by simp [hi]⟩
        rw [evL_eq]
        simp -implicitDefEqProofs only [EVS0, EVS1, EVS2, EVS3, EVS4, EVS5, EVS6, EVS7, EVL0, EVL1, ite_tf, ite_ft, ite_tft, ite_ftf, ite_list, ite_tt, ite_ee, ite_nt, ite_ne, eq_self, implies_true, forall_const, exI, nsite, freeAt, execI, Opd.ev, tget, tins, tput, keepL, sitesOf, List.sum_cons, List.sum_nil, Nat.reduceAdd, Nat.reduceSub, Nat.reduceLT, Nat.reduceLeDiff, Nat.reduceEqDiff, Nat.reduceBEq, Nat.reduceMul, beq_self_eq_true, Bool.false_eq_true, ldA, stA, partA, faddrA, setAt, binA, arithA, shiftA, strA, unA, gSpan, gSkip, unG, ne_eq, Option.some.injEq, reduceCtorEq, decide_true, decide_false, elemsA, resA, resAll, resOne, enterA, decide_eq_true_eq, Bool.not_eq_true, Bool.decide_eq_true, ite_self, ↓reduceIte, noRefL, clrA, gcT, gcA, gcIds, reach, rhoOf, heapOf, idxA, genB, newGen, renB, refsB, List.contains_cons, List.range_succ, cb_strings_IndexAny, b_strings_IndexAny, cr_strings_IndexAny, x_strings_IndexAny_k0, x_strings_IndexAny_l18, x_strings_IndexAny_k1, x_strings_IndexAny_k2, x_strings_IndexAny_l12, intsV, bytesV, propsV, propV, propC, bytesOf_map, h, decA_drop, q_runeC, hi]
        exact ih
    · have he : s.drop p = [] := by rw [List.drop_eq_nil_iff]; omega
      refine ⟨-1, ?_, by rw [he]; rfl⟩
      unfold K_strings_IndexAny_l18
      rw [evL_eq]
      simp -implicitDefEqProofs only [EVS0, EVS1, EVS2, EVS3, EVS4, EVS5, EVS6, EVS7, EVL0, EVL1, ite_tf, ite_ft, ite_tft, ite_ftf, ite_list, ite_tt, ite_ee, ite_nt, ite_ne, eq_self, implies_true, forall_const, exI, nsite, freeAt, execI, Opd.ev, tget, tins, tput, keepL, sitesOf, List.sum_cons, List.sum_nil, Nat.reduceAdd, Nat.reduceSub, Nat.reduceLT, Nat.reduceLeDiff, Nat.reduceEqDiff, Nat.reduceBEq, Nat.reduceMul, beq_self_eq_true, Bool.false_eq_true, ldA, stA, partA, faddrA, setAt, binA, arithA, shiftA, strA, unA, gSpan, gSkip, unG, ne_eq, Option.some.injEq, reduceCtorEq, decide_true, decide_false, elemsA, resA, resAll, resOne, enterA, decide_eq_true_eq, Bool.not_eq_true, Bool.decide_eq_true, ite_self, ↓reduceIte, noRefL, clrA, gcT, gcA, gcIds, reach, rhoOf, heapOf, idxA, genB, newGen, renB, refsB, List.contains_cons, List.range_succ, cb_strings_IndexAny, b_strings_IndexAny, cr_strings_IndexAny, x_strings_IndexAny_k0, x_strings_IndexAny_l18, x_strings_IndexAny_k1, x_strings_IndexAny_k2, x_strings_IndexAny_l12, intsV, bytesV, propsV, propV, propC, bytesOf_map, h]
end Go.Proofs.YtaaflagbhneakaaDoor
namespace Go.Proofs.YtaaflagbhneakaaDoor
set_option linter.unusedSimpArgs false
set_option linter.unusedVariables false
set_option maxHeartbeats 4000000
set_option maxRecDepth 10000
theorem q_should (n : Int) : E 57 [.int .i64 n] [] = some (.bool (decide (n > 8)), []) := by
  rw [E_eq (by rfl) cf_strings_shouldUseASCIISet]
  simp -implicitDefEqProofs only [EVS0, EVS1, EVS2, EVS3, EVS4, EVS5, EVS6, EVS7, EVL0, EVL1, ite_tf, ite_ft, ite_tft, ite_ftf, ite_list, ite_tt, ite_ee, ite_nt, ite_ne, eq_self, implies_true, forall_const, exI, nsite, freeAt, execI, Opd.ev, tget, tins, tput, keepL, sitesOf, List.sum_cons, List.sum_nil, Nat.reduceAdd, Nat.reduceSub, Nat.reduceLT, Nat.reduceLeDiff, Nat.reduceEqDiff, Nat.reduceBEq, Nat.reduceMul, beq_self_eq_true, Bool.false_eq_true, ldA, stA, partA, faddrA, setAt, binA, arithA, shiftA, strA, unA, gSpan, gSkip, unG, ne_eq, Option.some.injEq, reduceCtorEq, decide_true, decide_false, elemsA, resA, resAll, resOne, enterA, decide_eq_true_eq, Bool.not_eq_true, Bool.decide_eq_true, ite_self, ↓reduceIte, noRefL, clrA, gcT, gcA, gcIds, reach, rhoOf, heapOf, idxA, genB, newGen, renB, refsB, List.contains_cons, List.range_succ, cb_strings_shouldUseASCIISet, b_strings_shouldUseASCIISet, cr_strings_shouldUseASCIISet, intsV, bytesV, propsV, propV, propC, bytesOf_map, intsV]
theorem q_shouldC (σ : AHeap) (site own : Nat) (view : Bool) (n : Int) : callG E BY σ site 57 own view [.int .i64 n] = some (.bool (decide (n > 8)), σ, {}) :=
  call_flat (q_should n) (by kernel_rfl) (by simp -implicitDefEqProofs only [EVS0, EVS1, EVS2, EVS3, EVS4, EVS5, EVS6, EVS7, EVL0, EVL1, eq_self, implies_true, Bool.false_eq_true, intsV, bytesV, propsV, propV, propC, intsV]) (by simp -implicitDefEqProofs only [EVS0, EVS1, EVS2, EVS3, EVS4, EVS5, EVS6, EVS7, EVL0, EVL1, eq_self, implies_true, Bool.false_eq_true, intsV, bytesV, propsV, propV, propC, intsV]) rfl (fun _ => rfl) _ _ _ _
theorem setL_ok : setL.all okCell = true := by kernel_rfl
theorem q_indexAny (s : List UInt8) (hl : s.length ≤ 9223372036854775807) : ∃ z, E 52 [.str s, .str [43, 35]] [] = some (.int .i64 z, []) ∧ decide (z ≥ 0) = plusHash s := by
  have e0 : (([43, 35] : List UInt8) == []) = false := rfl
  have e1 : ((((2 : Nat)) : Int) == 1) = false := rfl
  by_cases h : (s.length : Int) > 8
  · obtain ⟨z, h1, h2⟩ := q_anyl s hl s 0 rfl
    refine ⟨z, ?_, h2⟩
    rw [E_eq (by rfl) cf_strings_IndexAny]
    unfold K_strings_IndexAny_l12 at h1
    have z0 : ((0 : Nat) : Int) = 0 := rfl
    rw [z0] at h1
    simp -implicitDefEqProofs only [EVS0, EVS1, EVS2, EVS3, EVS4, EVS5, EVS6, EVS7, EVL0, EVL1, ite_tf, ite_ft, ite_tft, ite_ftf, ite_list, ite_tt, ite_ee, ite_nt, ite_ne, eq_self, implies_true, forall_const, exI, nsite, freeAt, execI, Opd.ev, tget, tins, tput, keepL, sitesOf, List.sum_cons, List.sum_nil, Nat.reduceAdd, Nat.reduceSub, Nat.reduceLT, Nat.reduceLeDiff, Nat.reduceEqDiff, Nat.reduceBEq, Nat.reduceMul, beq_self_eq_true, Bool.false_eq_true, ldA, stA, partA, faddrA, setAt, binA, arithA, shiftA, strA, unA, gSpan, gSkip, unG, ne_eq, Option.some.injEq, reduceCtorEq, decide_true, decide_false, elemsA, resA, resAll, resOne, enterA, decide_eq_true_eq, Bool.not_eq_true, Bool.decide_eq_true, ite_self, ↓reduceIte, noRefL, clrA, gcT, gcA, gcIds, reach, rhoOf, heapOf, idxA, genB, newGen, renB, refsB, List.contains_cons, List.range_succ, cb_strings_IndexAny, b_strings_IndexAny, cr_strings_IndexAny, x_strings_IndexAny_k0, x_strings_IndexAny_l18, x_strings_IndexAny_k1, x_strings_IndexAny_k2, x_strings_IndexAny_l12, intsV, bytesV, propsV, propV, propC, bytesOf_map, e0, e1, h, q_shouldC, q_mksetC, setL_take, setL_take', setL_len, setL_refs, setL_ren, setL_ok]
    exact h1
  · obtain ⟨z, h1, h2⟩ := q_anyr s s.length 0 (by omega) (by omega)
    refine ⟨z, ?_, h2⟩
    rw [E_eq (by rfl) cf_strings_IndexAny]
    unfold K_strings_IndexAny_l18 at h1
    simp -implicitDefEqProofs only [EVS0, EVS1, EVS2, EVS3, EVS4, EVS5, EVS6, EVS7, EVL0, EVL1, ite_tf, ite_ft, ite_tft, ite_ftf, ite_list, ite_tt, ite_ee, ite_nt, ite_ne, eq_self, implies_true, forall_const, exI, nsite, freeAt, execI, Opd.ev, tget, tins, tput, keepL, sitesOf, List.sum_cons, List.sum_nil, Nat.reduceAdd, Nat.reduceSub, Nat.reduceLT, Nat.reduceLeDiff, Nat.reduceEqDiff, Nat.reduceBEq, Nat.reduceMul, beq_self_eq_true, Bool.false_eq_true, ldA, stA, partA, faddrA, setAt, binA, arithA, shiftA, strA, unA, gSpan, gSkip, unG, ne_eq, Option.some.injEq, reduceCtorEq, decide_true, decide_false, elemsA, resA, resAll, resOne, enterA, decide_eq_true_eq, Bool.not_eq_true, Bool.decide_eq_true, ite_self, ↓reduceIte, noRefL, clrA, gcT, gcA, gcIds, reach, rhoOf, heapOf, idxA, genB, newGen, renB, refsB, List.contains_cons, List.range_succ, cb_strings_IndexAny, b_strings_IndexAny, cr_strings_IndexAny, x_strings_IndexAny_k0, x_strings_IndexAny_l18, x_strings_IndexAny_k1, x_strings_IndexAny_k2, x_strings_IndexAny_l12, intsV, bytesV, propsV, propV, propC, bytesOf_map, e0, e1, h, q_shouldC]
    exact h1
theorem q_containsAny (s : List UInt8) (hl : s.length ≤ 9223372036854775807) : E 45 [.str s, .str [43, 35]] [] = some (.bool (plusHash s), []) := by
  obtain ⟨z, h1, h2⟩ := q_indexAny s hl
  have hC : ∀ (σ : AHeap) (site own : Nat) (view : Bool), callG E BY σ site 52 own view [.str s, .str [43, 35]] = some (.int .i64 z, σ, {}) := fun _ _ _ _ => call_flat (h1) (by kernel_rfl) (by simp -implicitDefEqProofs only [EVS0, EVS1, EVS2, EVS3, EVS4, EVS5, EVS6, EVS7, EVL0, EVL1, eq_self, implies_true, Bool.false_eq_true, intsV, bytesV, propsV, propV, propC, intsV]) (by simp -implicitDefEqProofs only [EVS0, EVS1, EVS2, EVS3, EVS4, EVS5, EVS6, EVS7, EVL0, EVL1, eq_self, implies_true, Bool.false_eq_true, intsV, bytesV, propsV, propV, propC, intsV]) rfl (fun _ => rfl) _ _ _ _
  rw [E_eq (by rfl) cf_strings_ContainsAny, ← h2]
  simp -implicitDefEqProofs only [EVS0, EVS1, EVS2, EVS3, EVS4, EVS5, EVS6, EVS7, EVL0, EVL1, ite_tf, ite_ft, ite_tft, ite_ftf, ite_list, ite_tt, ite_ee, ite_nt, ite_ne, eq_self, implies_true, forall_const, exI, nsite, freeAt, execI, Opd.ev, tget, tins, tput, keepL, sitesOf, List.sum_cons, List.sum_nil, Nat.reduceAdd, Nat.reduceSub, Nat.reduceLT, Nat.reduceLeDiff, Nat.reduceEqDiff, Nat.reduceBEq, Nat.reduceMul, beq_self_eq_true, Bool.false_eq_true, ldA, stA, partA, faddrA, setAt, binA, arithA, shiftA, strA, unA, gSpan, gSkip, unG, ne_eq, Option.some.injEq, reduceCtorEq, decide_true, decide_false, elemsA, resA, resAll, resOne, enterA, decide_eq_true_eq, Bool.not_eq_true, Bool.decide_eq_true, ite_self, ↓reduceIte, noRefL, clrA, gcT, gcA, gcIds, reach, rhoOf, heapOf, idxA, genB, newGen, renB, refsB, List.contains_cons, List.range_succ, cb_strings_ContainsAny, b_strings_ContainsAny, cr_strings_ContainsAny, intsV, bytesV, propsV, propV, propC, bytesOf_map, hC]
theorem q_containsAnyC (σ : AHeap) (site own : Nat) (view : Bool) (s : List UInt8) (hl : s.length ≤ 9223372036854775807) : callG E BY σ site 45 own view [.str s, .str [43, 35]] = some (.bool (plusHash s), σ, {}) :=
  call_flat (q_containsAny s hl) (by kernel_rfl) (by simp -implicitDefEqProofs only [EVS0, EVS1, EVS2, EVS3, EVS4, EVS5, EVS6, EVS7, EVL0, EVL1, eq_self, implies_true, Bool.false_eq_true, intsV, bytesV, propsV, propV, propC, intsV]) (by simp -implicitDefEqProofs only [EVS0, EVS1, EVS2, EVS3, EVS4, EVS5, EVS6, EVS7, EVL0, EVL1, eq_self, implies_true, Bool.false_eq_true, intsV, bytesV, propsV, propV, propC, intsV]) rfl (fun _ => rfl) _ _ _ _
/-- a text of a topic's length -/
def fitsB (s : List UInt8) : Bool := decide (1 ≤ s.length) && decide (s.length ≤ 64) && textB s
theorem fits_int (s : List UInt8) : (decide ((s.length : Int) ≥ 1) && decide ((s.length : Int) ≤ 64) && textB s) = fitsB s := by
  unfold fitsB
  congr 2
  · congr 1; rw [eq_iff_iff]; omega
  · congr 1; rw [eq_iff_iff]; omega
theorem fits_len {s : List UInt8} (h : fitsB s = true) : s.length ≤ 64 := by
  simp only [fitsB, Bool.and_eq_true, decide_eq_true_eq] at h; exact h.1.2
theorem q_fits (s : List UInt8) : E 44 [.str s] [] = some (.bool (fitsB s), []) := by
  rw [E_eq (by rfl) cf_topic_fits, ← fits_int]
  by_cases h1 : (s.length : Int) ≥ 1 <;> by_cases h2 : (s.length : Int) ≤ 64
  all_goals simp -implicitDefEqProofs only [EVS0, EVS1, EVS2, EVS3, EVS4, EVS5, EVS6, EVS7, EVL0, EVL1, ite_tf, ite_ft, ite_tft, ite_ftf, ite_list, ite_tt, ite_ee, ite_nt, ite_ne, eq_self, implies_true, forall_const, exI, nsite, freeAt, execI, Opd.ev, tget, tins, tput, keepL, sitesOf, List.sum_cons, List.sum_nil, Nat.reduceAdd, Nat.reduceSub, Nat.reduceLT, Nat.reduceLeDiff, Nat.reduceEqDiff, Nat.reduceBEq, Nat.reduceMul, beq_self_eq_true, Bool.false_eq_true, ldA, stA, partA, faddrA, setAt, binA, arithA, shiftA, strA, unA, gSpan, gSkip, unG, ne_eq, Option.some.injEq, reduceCtorEq, decide_true, decide_false, elemsA, resA, resAll, resOne, enterA, decide_eq_true_eq, Bool.not_eq_true, Bool.decide_eq_true, ite_self, ↓reduceIte, noRefL, clrA, gcT, gcA, gcIds, reach, rhoOf, heapOf, idxA, genB, newGen, renB, refsB, List.contains_cons, List.range_succ, cb_topic_fits, b_topic_fits, cr_topic_fits, intsV, bytesV, propsV, propV, propC, bytesOf_map, h1, h2, q_istextC]
theorem q_fitsC (σ : AHeap) (site own : Nat) (view : Bool) (s : List UInt8) : callG E BY σ site 44 own view [.str s] = some (.bool (fitsB s), σ, {}) :=
  call_flat (q_fits s) (by kernel_rfl) (by simp -implicitDefEqProofs only [EVS0, EVS1, EVS2, EVS3, EVS4, EVS5, EVS6, EVS7, EVL0, EVL1, eq_self, implies_true, Bool.false_eq_true, intsV, bytesV, propsV, propV, propC, intsV]) (by simp -implicitDefEqProofs only [EVS0, EVS1, EVS2, EVS3, EVS4, EVS5, EVS6, EVS7, EVL0, EVL1, eq_self, implies_true, Bool.false_eq_true, intsV, bytesV, propsV, propV, propC, intsV]) rfl (fun _ => rfl) _ _ _ _
def nameB (s : List UInt8) : Bool := fitsB s && !plusHash s
theorem q_name (s : List UInt8) : E 34 [.str s] [] = some (.bool (nameB s), []) := by
  rw [E_eq (by rfl) cf_topic_Name]
  unfold nameB
  cases h : fitsB s
  · simp -implicitDefEqProofs only [EVS0, EVS1, EVS2, EVS3, EVS4, EVS5, EVS6, EVS7, EVL0, EVL1, ite_tf, ite_ft, ite_tft, ite_ftf, ite_list, ite_tt, ite_ee, ite_nt, ite_ne, eq_self, implies_true, forall_const, exI, nsite, freeAt, execI, Opd.ev, tget, tins, tput, keepL, sitesOf, List.sum_cons, List.sum_nil, Nat.reduceAdd, Nat.reduceSub, Nat.reduceLT, Nat.reduceLeDiff, Nat.reduceEqDiff, Nat.reduceBEq, Nat.reduceMul, beq_self_eq_true, Bool.false_eq_true, ldA, stA, partA, faddrA, setAt, binA, arithA, shiftA, strA, unA, gSpan, gSkip, unG, ne_eq, Option.some.injEq, reduceCtorEq, decide_true, decide_false, elemsA, resA, resAll, resOne, enterA, decide_eq_true_eq, Bool.not_eq_true, Bool.decide_eq_true, ite_self, ↓reduceIte, noRefL, clrA, gcT, gcA, gcIds, reach, rhoOf, heapOf, idxA, genB, newGen, renB, refsB, List.contains_cons, List.range_succ, cb_topic_Name, b_topic_Name, cr_topic_Name, intsV, bytesV, propsV, propV, propC, bytesOf_map, h, q_fitsC]
  · have hC := fun σ site own view => q_containsAnyC σ site own view s (by have := fits_len h; omega)
    simp -implicitDefEqProofs only [EVS0, EVS1, EVS2, EVS3, EVS4, EVS5, EVS6, EVS7, EVL0, EVL1, ite_tf, ite_ft, ite_tft, ite_ftf, ite_list, ite_tt, ite_ee, ite_nt, ite_ne, eq_self, implies_true, forall_const, exI, nsite, freeAt, execI, Opd.ev, tget, tins, tput, keepL, sitesOf, List.sum_cons, List.sum_nil, Nat.reduceAdd, Nat.reduceSub, Nat.reduceLT, Nat.reduceLeDiff, Nat.reduceEqDiff, Nat.reduceBEq, Nat.reduceMul, beq_self_eq_true, Bool.false_eq_true, ldA, stA, partA, faddrA, setAt, binA, arithA, shiftA, strA, unA, gSpan, gSkip, unG, ne_eq, Option.some.injEq, reduceCtorEq, decide_true, decide_false, elemsA, resA, resAll, resOne, enterA, decide_eq_true_eq, Bool.not_eq_true, Bool.decide_eq_true, ite_self, ↓reduceIte, noRefL, clrA, gcT, gcA, gcIds, reach, rhoOf, heapOf, idxA, genB, newGen, renB, refsB, List.contains_cons, List.range_succ, cb_topic_Name, b_topic_Name, cr_topic_Name, intsV, bytesV, propsV, propV, propC, bytesOf_map, h, q_fitsC, hC]
theorem q_nameC (σ : AHeap) (site own : Nat) (view : Bool) (s : List UInt8) : callG E BY σ site 34 own view [.str s] = some (.bool (nameB s), σ, {}) :=
  call_flat (q_name s) (by kernel_rfl) (by simp -implicitDefEqProofs only [EVS0, EVS1, EVS2, EVS3, EVS4, EVS5, EVS6, EVS7, EVL0, EVL1, eq_self, implies_true, Bool.false_eq_true, intsV, bytesV, propsV, propV, propC, intsV]) (by simp -implicitDefEqProofs only [EVS0, EVS1, EVS2, EVS3, EVS4, EVS5, EVS6, EVS7, EVL0, EVL1, eq_self, implies_true, Bool.false_eq_true, intsV, bytesV, propsV, propV, propC, intsV]) rfl (fun _ => rfl) _ _ _ _
/-! the reference's -/
def hasB (s : List UInt8) (c : UInt8) : Bool := s.any (· == c)
theorem q_hasl (s : List UInt8) (c : UInt8) (hl : s.length ≤ 9223372036854775807) : ∀ (r : List UInt8) (i : Nat), s.drop i = r → K_tidingsref14_has_l2 0 [(5, .int .i64 i), (1, byteV c), (0, .str s)] [] = some (.bool (hasB r c), [])
  | [], i, h => by
    have h1 := drop_nil h
    unfold K_tidingsref14_has_l2
    rw [evL_eq]
    simp -implicitDefEqProofs only [EVS0, EVS1, EVS2, EVS3, EVS4, EVS5, EVS6, EVS7, EVL0, EVL1, ite_tf, ite_ft, ite_tft, ite_ftf, ite_list, ite_tt, ite_ee, ite_nt, ite_ne, eq_self, implies_true, forall_const, exI, nsite, freeAt, execI, Opd.ev, tget, tins, tput, keepL, sitesOf, List.sum_cons, List.sum_nil, Nat.reduceAdd, Nat.reduceSub, Nat.reduceLT, Nat.reduceLeDiff, Nat.reduceEqDiff, Nat.reduceBEq, Nat.reduceMul, beq_self_eq_true, Bool.false_eq_true, ldA, stA, partA, faddrA, setAt, binA, arithA, shiftA, strA, unA, gSpan, gSkip, unG, ne_eq, Option.some.injEq, reduceCtorEq, decide_true, decide_false, elemsA, resA, resAll, resOne, enterA, decide_eq_true_eq, Bool.not_eq_true, Bool.decide_eq_true, ite_self, ↓reduceIte, noRefL, clrA, gcT, gcA, gcIds, reach, rhoOf, heapOf, idxA, genB, newGen, renB, refsB, List.contains_cons, List.range_succ, cb_tidingsref14_has, b_tidingsref14_has, cr_tidingsref14_has, x_tidingsref14_has_k0, x_tidingsref14_has_l2, intsV, bytesV, propsV, propV, propC, bytesOf_map, h1, byteV]
    rfl
  | b :: r, i, h => by
    have ih := q_hasl s c hl r (i + 1) (drop_at h).2.1
    have h1 : (i : Int) < s.length := by have := (drop_at h).2.2; omega
    have h2 := (drop_at h).1
    have h3 := wrap_succ h1 hl
    have i0 : (0 : Int) ≤ (i : Int) := by omega
    have e : hasB (b :: r) c = ((b.toNat : Int) == (c.toNat : Int) || hasB r c) := by
      unfold hasB
      rw [List.any_cons]
      congr 1
      rw [Bool.eq_iff_iff]
      simp only [beq_iff_eq, ← UInt8.toNat_inj]
      omega
    rw [e]
    unfold K_tidingsref14_has_l2 at ih ⊢
    rw [evL_eq]
    simp only [byteV] at ih
    cases hb : (b.toNat : Int) == (c.toNat : Int)
    · simp -implicitDefEqProofs only [EVS0, EVS1, EVS2, EVS3, EVS4, EVS5, EVS6, EVS7, EVL0, EVL1, ite_tf, ite_ft, ite_tft, ite_ftf, ite_list, ite_tt, ite_ee, ite_nt, ite_ne, eq_self, implies_true, forall_const, exI, nsite, freeAt, execI, Opd.ev, tget, tins, tput, keepL, sitesOf, List.sum_cons, List.sum_nil, Nat.reduceAdd, Nat.reduceSub, Nat.reduceLT, Nat.reduceLeDiff, Nat.reduceEqDiff, Nat.reduceBEq, Nat.reduceMul, beq_self_eq_true, Bool.false_eq_true, ldA, stA, partA, faddrA, setAt, binA, arithA, shiftA, strA, unA, gSpan, gSkip, unG, ne_eq, Option.some.injEq, reduceCtorEq, decide_true, decide_false, elemsA, resA, resAll, resOne, enterA, decide_eq_true_eq, Bool.not_eq_true, Bool.decide_eq_true, ite_self, ↓reduceIte, noRefL, clrA, gcT, gcA, gcIds, reach, rhoOf, heapOf, idxA, genB, newGen, renB, refsB, List.contains_cons, List.range_succ, cb_tidingsref14_has, b_tidingsref14_has, cr_tidingsref14_has, x_tidingsref14_has_k0, x_tidingsref14_has_l2, intsV, bytesV, propsV, propV, propC, bytesOf_map, h1, h2, h3, i0, hb, byteV, Int.toNat_natCast]
      exact ih
    · simp -implicitDefEqProofs only [EVS0, EVS1, EVS2, EVS3, EVS4, EVS5, EVS6, EVS7, EVL0, EVL1, ite_tf, ite_ft, ite_tft, ite_ftf, ite_list, ite_tt, ite_ee, ite_nt, ite_ne, eq_self, implies_true, forall_const, exI, nsite, freeAt, execI, Opd.ev, tget, tins, tput, keepL, sitesOf, List.sum_cons, List.sum_nil, Nat.reduceAdd, Nat.reduceSub, Nat.reduceLT, Nat.reduceLeDiff, Nat.reduceEqDiff, Nat.reduceBEq, Nat.reduceMul, beq_self_eq_true, Bool.false_eq_true, ldA, stA, partA, faddrA, setAt, binA, arithA, shiftA, strA, unA, gSpan, gSkip, unG, ne_eq, Option.some.injEq, reduceCtorEq, decide_true, decide_false, elemsA, resA, resAll, resOne, enterA, decide_eq_true_eq, Bool.not_eq_true, Bool.decide_eq_true, ite_self, ↓reduceIte, noRefL, clrA, gcT, gcA, gcIds, reach, rhoOf, heapOf, idxA, genB, newGen, renB, refsB, List.contains_cons, List.range_succ, cb_tidingsref14_has, b_tidingsref14_has, cr_tidingsref14_has, x_tidingsref14_has_k0, x_tidingsref14_has_l2, intsV, bytesV, propsV, propV, propC, bytesOf_map, h1, h2, h3, i0, hb, byteV, Int.toNat_natCast]
theorem q_rhas (s : List UInt8) (c : UInt8) (hl : s.length ≤ 9223372036854775807) : E 41 [.str s, .int .u8 c.toNat] [] = some (.bool (hasB s c), []) := by
  rw [E_eq (by rfl) cf_tidingsref14_has]
  have := q_hasl s c hl s 0 rfl
  unfold K_tidingsref14_has_l2 at this
  have z0 : ((0 : Nat) : Int) = 0 := rfl
  rw [z0] at this
  simp only [byteV] at this
  simp -implicitDefEqProofs only [EVS0, EVS1, EVS2, EVS3, EVS4, EVS5, EVS6, EVS7, EVL0, EVL1, ite_tf, ite_ft, ite_tft, ite_ftf, ite_list, ite_tt, ite_ee, ite_nt, ite_ne, eq_self, implies_true, forall_const, exI, nsite, freeAt, execI, Opd.ev, tget, tins, tput, keepL, sitesOf, List.sum_cons, List.sum_nil, Nat.reduceAdd, Nat.reduceSub, Nat.reduceLT, Nat.reduceLeDiff, Nat.reduceEqDiff, Nat.reduceBEq, Nat.reduceMul, beq_self_eq_true, Bool.false_eq_true, ldA, stA, partA, faddrA, setAt, binA, arithA, shiftA, strA, unA, gSpan, gSkip, unG, ne_eq, Option.some.injEq, reduceCtorEq, decide_true, decide_false, elemsA, resA, resAll, resOne, enterA, decide_eq_true_eq, Bool.not_eq_true, Bool.decide_eq_true, ite_self, ↓reduceIte, noRefL, clrA, gcT, gcA, gcIds, reach, rhoOf, heapOf, idxA, genB, newGen, renB, refsB, List.contains_cons, List.range_succ, cb_tidingsref14_has, b_tidingsref14_has, cr_tidingsref14_has, x_tidingsref14_has_k0, x_tidingsref14_has_l2, intsV, bytesV, propsV, propV, propC, bytesOf_map, intsV]
  exact this
theorem q_rhasC (σ : AHeap) (site own : Nat) (view : Bool) (s : List UInt8) (c : UInt8) (hl : s.length ≤ 9223372036854775807) : callG E BY σ site 41 own view [.str s, .int .u8 c.toNat] = some (.bool (hasB s c), σ, {}) :=
  call_flat (q_rhas s c hl) (by kernel_rfl) (by simp -implicitDefEqProofs only [EVS0, EVS1, EVS2, EVS3, EVS4, EVS5, EVS6, EVS7, EVL0, EVL1, eq_self, implies_true, Bool.false_eq_true, intsV, bytesV, propsV, propV, propC, intsV]) (by simp -implicitDefEqProofs only [EVS0, EVS1, EVS2, EVS3, EVS4, EVS5, EVS6, EVS7, EVL0, EVL1, eq_self, implies_true, Bool.false_eq_true, intsV, bytesV, propsV, propV, propC, intsV]) rfl (fun _ => rfl) _ _ _ _
theorem q_sized (s : List UInt8) : E 40 [.str s] [] = some (.bool (fitsB s), []) := by
  rw [E_eq (by rfl) cf_tidingsref14_sized, ← fits_int]
  by_cases h1 : (s.length : Int) ≥ 1 <;> by_cases h2 : (s.length : Int) ≤ 64
  all_goals first
    | (have hC := fun σ site own view => q_ristextC σ site own view s (by omega)
       simp -implicitDefEqProofs only [EVS0, EVS1, EVS2, EVS3, EVS4, EVS5, EVS6, EVS7, EVL0, EVL1, ite_tf, ite_ft, ite_tft, ite_ftf, ite_list, ite_tt, ite_ee, ite_nt, ite_ne, eq_self, implies_true, forall_const, exI, nsite, freeAt, execI, Opd.ev, tget, tins, tput, keepL, sitesOf, List.sum_cons, List.sum_nil, Nat.reduceAdd, Nat.reduceSub, Nat.reduceLT, Nat.reduceLeDiff, Nat.reduceEqDiff, Nat.reduceBEq, Nat.reduceMul, beq_self_eq_true, Bool.false_eq_true, ldA, stA, partA, faddrA, setAt, binA, arithA, shiftA, strA, unA, gSpan, gSkip, unG, ne_eq, Option.some.injEq, reduceCtorEq, decide_true, decide_false, elemsA, resA, resAll, resOne, enterA, decide_eq_true_eq, Bool.not_eq_true, Bool.decide_eq_true, ite_self, ↓reduceIte, noRefL, clrA, gcT, gcA, gcIds, reach, rhoOf, heapOf, idxA, genB, newGen, renB, refsB, List.contains_cons, List.range_succ, cb_tidingsref14_sized, b_tidingsref14_sized, cr_tidingsref14_sized, intsV, bytesV, propsV, propV, propC, bytesOf_map, h1, h2, hC])
    | simp -implicitDefEqProofs only [EVS0, EVS1, EVS2, EVS3, EVS4, EVS5, EVS6, EVS7, EVL0, EVL1, ite_tf, ite_ft, ite_tft, ite_ftf, ite_list, ite_tt, ite_ee, ite_nt, ite_ne, eq_self, implies_true, forall_const, exI, nsite, freeAt, execI, Opd.ev, tget, tins, tput, keepL, sitesOf, List.sum_cons, List.sum_nil, Nat.reduceAdd, Nat.reduceSub, Nat.reduceLT, Nat.reduceLeDiff, Nat.reduceEqDiff, Nat.reduceBEq, Nat.reduceMul, beq_self_eq_true, Bool.false_eq_true, ldA, stA, partA, faddrA, setAt, binA, arithA, shiftA, strA, unA, gSpan, gSkip, unG, ne_eq, Option.some.injEq, reduceCtorEq, decide_true, decide_false, elemsA, resA, resAll, resOne, enterA, decide_eq_true_eq, Bool.not_eq_true, Bool.decide_eq_true, ite_self, ↓reduceIte, noRefL, clrA, gcT, gcA, gcIds, reach, rhoOf, heapOf, idxA, genB, newGen, renB, refsB, List.contains_cons, List.range_succ, cb_tidingsref14_sized, b_tidingsref14_sized, cr_tidingsref14_sized, intsV, bytesV, propsV, propV, propC, bytesOf_map, h1, h2]
theorem q_sizedC (σ : AHeap) (site own : Nat) (view : Bool) (s : List UInt8) : callG E BY σ site 40 own view [.str s] = some (.bool (fitsB s), σ, {}) :=
  call_flat (q_sized s) (by kernel_rfl) (by simp -implicitDefEqProofs only [EVS0, EVS1, EVS2, EVS3, EVS4, EVS5, EVS6, EVS7, EVL0, EVL1, eq_self, implies_true, Bool.false_eq_true, intsV, bytesV, propsV, propV, propC, intsV]) (by simp -implicitDefEqProofs only [EVS0, EVS1, EVS2, EVS3, EVS4, EVS5, EVS6, EVS7, EVL0, EVL1, eq_self, implies_true, Bool.false_eq_true, intsV, bytesV, propsV, propV, propC, intsV]) rfl (fun _ => rfl) _ _ _ _
theorem has_plusHash (s : List UInt8) : plusHash s = (hasB s 43 || hasB s 35) := by
  unfold plusHash hasB isPH
  induction s with
  | nil => rfl
  | cons b s ih => simp only [List.any_cons, ih]; cases (b == 43) <;> cases (b == 35) <;> simp
theorem q_rname (s : List UInt8) : E 24 [.str s] [] = some (.bool (nameB s), []) := by
  rw [E_eq (by rfl) cf_tidingsref14_Name]
  unfold nameB
  rw [has_plusHash]
  cases h : fitsB s
  · simp -implicitDefEqProofs only [EVS0, EVS1, EVS2, EVS3, EVS4, EVS5, EVS6, EVS7, EVL0, EVL1, ite_tf, ite_ft, ite_tft, ite_ftf, ite_list, ite_tt, ite_ee, ite_nt, ite_ne, eq_self, implies_true, forall_const, exI, nsite, freeAt, execI, Opd.ev, tget, tins, tput, keepL, sitesOf, List.sum_cons, List.sum_nil, Nat.reduceAdd, Nat.reduceSub, Nat.reduceLT, Nat.reduceLeDiff, Nat.reduceEqDiff, Nat.reduceBEq, Nat.reduceMul, beq_self_eq_true, Bool.false_eq_true, ldA, stA, partA, faddrA, setAt, binA, arithA, shiftA, strA, unA, gSpan, gSkip, unG, ne_eq, Option.some.injEq, reduceCtorEq, decide_true, decide_false, elemsA, resA, resAll, resOne, enterA, decide_eq_true_eq, Bool.not_eq_true, Bool.decide_eq_true, ite_self, ↓reduceIte, noRefL, clrA, gcT, gcA, gcIds, reach, rhoOf, heapOf, idxA, genB, newGen, renB, refsB, List.contains_cons, List.range_succ, cb_tidingsref14_Name, b_tidingsref14_Name, cr_tidingsref14_Name, intsV, bytesV, propsV, propV, propC, bytesOf_map, h, q_sizedC]
  · have hC1 := fun σ site own view => q_rhasC σ site own view s 43 (by have := fits_len h; omega)
    have hC2 := fun σ site own view => q_rhasC σ site own view s 35 (by have := fits_len h; omega)
    simp only [show (((43 : UInt8).toNat : Nat) : Int) = 43 from rfl] at hC1
    simp only [show (((35 : UInt8).toNat : Nat) : Int) = 35 from rfl] at hC2
    cases h1 : hasB s 43
    · simp -implicitDefEqProofs only [EVS0, EVS1, EVS2, EVS3, EVS4, EVS5, EVS6, EVS7, EVL0, EVL1, ite_tf, ite_ft, ite_tft, ite_ftf, ite_list, ite_tt, ite_ee, ite_nt, ite_ne, eq_self, implies_true, forall_const, exI, nsite, freeAt, execI, Opd.ev, tget, tins, tput, keepL, sitesOf, List.sum_cons, List.sum_nil, Nat.reduceAdd, Nat.reduceSub, Nat.reduceLT, Nat.reduceLeDiff, Nat.reduceEqDiff, Nat.reduceBEq, Nat.reduceMul, beq_self_eq_true, Bool.false_eq_true, ldA, stA, partA, faddrA, setAt, binA, arithA, shiftA, strA, unA, gSpan, gSkip, unG, ne_eq, Option.some.injEq, reduceCtorEq, decide_true, decide_false, elemsA, resA, resAll, resOne, enterA, decide_eq_true_eq, Bool.not_eq_true, Bool.decide_eq_true, ite_self, ↓reduceIte, noRefL, clrA, gcT, gcA, gcIds, reach, rhoOf, heapOf, idxA, genB, newGen, renB, refsB, List.contains_cons, List.range_succ, cb_tidingsref14_Name, b_tidingsref14_Name, cr_tidingsref14_Name, intsV, bytesV, propsV, propV, propC, bytesOf_map, h, q_sizedC, hC1, hC2, h1]
    · simp -implicitDefEqProofs only [EVS0, EVS1, EVS2, EVS3, EVS4, EVS5, EVS6, EVS7, EVL0, EVL1, ite_tf, ite_ft, ite_tft, ite_ftf, ite_list, ite_tt, ite_ee, ite_nt, ite_ne, eq_self, implies_true, forall_const, exI, nsite, freeAt, execI, Opd.ev, tget, tins, tput, keepL, sitesOf, List.sum_cons, List.sum_nil, Nat.reduceAdd, Nat.reduceSub, Nat.reduceLT, Nat.reduceLeDiff, Nat.reduceEqDiff, Nat.reduceBEq, Nat.reduceMul, beq_self_eq_true, Bool.false_eq_true, ldA, stA, partA, faddrA, setAt, binA, arithA, shiftA, strA, unA, gSpan, gSkip, unG, ne_eq, Option.some.injEq, reduceCtorEq, decide_true, decide_false, elemsA, resA, resAll, resOne, enterA, decide_eq_true_eq, Bool.not_eq_true, Bool.decide_eq_true, ite_self, ↓reduceIte, noRefL, clrA, gcT, gcA, gcIds, reach, rhoOf, heapOf, idxA, genB, newGen, renB, refsB, List.contains_cons, List.range_succ, cb_tidingsref14_Name, b_tidingsref14_Name, cr_tidingsref14_Name, intsV, bytesV, propsV, propV, propC, bytesOf_map, h, q_sizedC, hC1, hC2, h1]
theorem q_rnameC (σ : AHeap) (site own : Nat) (view : Bool) (s : List UInt8) : callG E BY σ site 24 own view [.str s] = some (.bool (nameB s), σ, {}) :=
  call_flat (q_rname s) (by kernel_rfl) (by simp -implicitDefEqProofs only [EVS0, EVS1, EVS2, EVS3, EVS4, EVS5, EVS6, EVS7, EVL0, EVL1, eq_self, implies_true, Bool.false_eq_true, intsV, bytesV, propsV, propV, propC, intsV]) (by simp -implicitDefEqProofs only [EVS0, EVS1, EVS2, EVS3, EVS4, EVS5, EVS6, EVS7, EVL0, EVL1, eq_self, implies_true, Bool.false_eq_true, intsV, bytesV, propsV, propV, propC, intsV]) rfl (fun _ => rfl) _ _ _ _
end Go.Proofs.YtaaflagbhneakaaDoor
namespace Go.Proofs.YtaaflagbhneakaaDoor
set_option linter.unusedSimpArgs false
set_option linter.unusedVariables false
set_option maxHeartbeats 8000000
set_option maxRecDepth 10000
def badClient (p : PacketD) : Bool := (p.client == [] && !p.clean) || (p.client != [] && !cnameB p.client)
def dataOf : Option PropD → Bytes
  | none => []
  | some x => x.data
def proofL : Bytes := [112, 114, 111, 111, 102]
def methI (l : List UserD) (op : Bool) (p : PacketD) : Int :=
  match findP 21 p.props with
  | none => if (findP 22 p.props).isSome then 130 else enterI l op p
  | some m => if m.text != proofL then 140 else if (secP (dataOf (findP 22 p.props)) l).isNone then 135 else 0
def refI (l : List UserD) (op : Bool) (p : PacketD) : Int :=
  if badClient p then 133 else if p.hasWill && !nameB p.will.topic then 144 else methI l op p
theorem q_enterGC (σ : AHeap) (site own : Nat) (l : List UserD) (hl : l.length ≤ 9223372036854775807) (hd : ∀ u ∈ l, u.secret.length ≤ 140737488355328) (o : Int) (op : Bool) (p : PacketD) : callG E BY σ site 35 own true [.agg [.int .i64 o, .bool op, .lst false (l.map userV)], .agg [.int .i64 p.type, .bool p.dup, .int .i64 p.qos, .bool p.retain, .int .i64 p.id, .str p.topic, .lst false (p.payload.map byteV), .int .i64 p.code, .lst false (p.codes.map (AVal.int .i64)), .lst false (p.props.map propV), .lst false (p.subs.map subV), .lst false (p.filters.map AVal.str), .bool p.clean, .int .i64 p.keep, .str p.client, .bool p.hasWill, .str p.will.topic, .lst false (p.will.data.map byteV), .int .i64 p.will.qos, .bool p.will.retain, .lst false (p.will.props.map propV), .bool p.hasUser, .str p.user, .bool p.hasPassword, .lst false (p.password.map byteV), .bool p.present]] = some (.int .i64 (enterI l op p), σ, {}) :=
  call_norm (q_enterG l hl hd o op p) (by kernel_rfl) rfl rfl rfl (fun _ => rfl) _ _ _
theorem q_refusedG (l : List UserD) (hl : l.length ≤ 9223372036854775807) (hd : ∀ u ∈ l, u.secret.length ≤ 140737488355328) (o : Int) (op : Bool) (p : PacketD) (hp : p.props.length ≤ 9223372036854775807) (hpd : ∀ x ∈ p.props, x.data.length ≤ 140737488355328) (hc : p.client.length ≤ 9223372036854775807) : E 17 [.agg [.int .i64 o, .bool op, .lst false (l.map userV)], packV p] [] = some (.int .i64 (refI l op p), []) := by
  have hF := fun σ site own id => q_findC σ site own p.props hp hpd id
  have hN := fun σ site own => q_cnameC σ site own p.client hc
  have hT := fun σ site own => q_nameC σ site own true p.will.topic
  have hS := fun σ site own => q_secC σ site own l hl hd (dataOf (findP 22 p.props)) o op
  have hE := fun σ site own => q_enterGC σ site own l hl hd o op p
  have hm := fun σ site own => hF σ site own 21
  have hx := fun σ site own => hF σ site own 22
  clear hF
  have b1 : bytesOf ([] : List AVal) = some [] := rfl
  rw [E_eq (by rfl) cf_conn_refused]
  unfold packV refI badClient methI
  have hne : (p.client != []) = !(p.client == []) := rfl
  rw [hne]
  cases h5 : findP 21 p.props with
  | none =>
    rw [h5] at hm
    cases hs : secP (dataOf (findP 22 p.props)) l <;> rw [hs] at hS <;> cases h6 : findP 22 p.props <;> rw [h6] at hx hS <;> simp only [dataOf] at hS
    all_goals
      cases h1 : (p.client == [])
      case false =>
        rw [h1] at hne
        cases h3 : cnameB p.client
        case false =>
          rw [h3] at hN
          simp -implicitDefEqProofs only [EVS0, EVS1, EVS2, EVS3, EVS4, EVS5, EVS6, EVS7, EVL0, EVL1, ite_tf, ite_ft, ite_tft, ite_ftf, ite_list, ite_tt, ite_ee, ite_nt, ite_ne, eq_self, implies_true, forall_const, exI, nsite, freeAt, execI, Opd.ev, tget, tins, tput, keepL, sitesOf, List.sum_cons, List.sum_nil, Nat.reduceAdd, Nat.reduceSub, Nat.reduceLT, Nat.reduceLeDiff, Nat.reduceEqDiff, Nat.reduceBEq, Nat.reduceMul, beq_self_eq_true, Bool.false_eq_true, ldA, stA, partA, faddrA, setAt, binA, arithA, shiftA, strA, unA, gSpan, gSkip, unG, ne_eq, Option.some.injEq, reduceCtorEq, decide_true, decide_false, elemsA, resA, resAll, resOne, enterA, decide_eq_true_eq, Bool.not_eq_true, Bool.decide_eq_true, ite_self, ↓reduceIte, noRefL, clrA, gcT, gcA, gcIds, reach, rhoOf, heapOf, idxA, genB, newGen, renB, refsB, List.contains_cons, List.range_succ, cb_conn_refused, b_conn_refused, cr_conn_refused, intsV, bytesV, propsV, propV, propC, bytesOf_map, hm, hx, hN, hS, b1, h1, hne, fndV, noProp, secV, Option.isSome_none, Option.isSome_some, Option.isNone_none, Option.isNone_some, h3]
        case true =>
          rw [h3] at hN
          cases h7 : p.hasWill
          all_goals (rw [h7] at hE)
          case false =>
            simp -implicitDefEqProofs only [EVS0, EVS1, EVS2, EVS3, EVS4, EVS5, EVS6, EVS7, EVL0, EVL1, ite_tf, ite_ft, ite_tft, ite_ftf, ite_list, ite_tt, ite_ee, ite_nt, ite_ne, eq_self, implies_true, forall_const, exI, nsite, freeAt, execI, Opd.ev, tget, tins, tput, keepL, sitesOf, List.sum_cons, List.sum_nil, Nat.reduceAdd, Nat.reduceSub, Nat.reduceLT, Nat.reduceLeDiff, Nat.reduceEqDiff, Nat.reduceBEq, Nat.reduceMul, beq_self_eq_true, Bool.false_eq_true, ldA, stA, partA, faddrA, setAt, binA, arithA, shiftA, strA, unA, gSpan, gSkip, unG, ne_eq, Option.some.injEq, reduceCtorEq, decide_true, decide_false, elemsA, resA, resAll, resOne, enterA, decide_eq_true_eq, Bool.not_eq_true, Bool.decide_eq_true, ite_self, ↓reduceIte, noRefL, clrA, gcT, gcA, gcIds, reach, rhoOf, heapOf, idxA, genB, newGen, renB, refsB, List.contains_cons, List.range_succ, cb_conn_refused, b_conn_refused, cr_conn_refused, intsV, bytesV, propsV, propV, propC, bytesOf_map, hm, hx, hN, hS, b1, h1, hne, fndV, noProp, secV, Option.isSome_none, Option.isSome_some, Option.isNone_none, Option.isNone_some, h3, h7, hE]
          case true =>
            cases h8 : nameB p.will.topic
            case false =>
              rw [h8] at hT
              simp -implicitDefEqProofs only [EVS0, EVS1, EVS2, EVS3, EVS4, EVS5, EVS6, EVS7, EVL0, EVL1, ite_tf, ite_ft, ite_tft, ite_ftf, ite_list, ite_tt, ite_ee, ite_nt, ite_ne, eq_self, implies_true, forall_const, exI, nsite, freeAt, execI, Opd.ev, tget, tins, tput, keepL, sitesOf, List.sum_cons, List.sum_nil, Nat.reduceAdd, Nat.reduceSub, Nat.reduceLT, Nat.reduceLeDiff, Nat.reduceEqDiff, Nat.reduceBEq, Nat.reduceMul, beq_self_eq_true, Bool.false_eq_true, ldA, stA, partA, faddrA, setAt, binA, arithA, shiftA, strA, unA, gSpan, gSkip, unG, ne_eq, Option.some.injEq, reduceCtorEq, decide_true, decide_false, elemsA, resA, resAll, resOne, enterA, decide_eq_true_eq, Bool.not_eq_true, Bool.decide_eq_true, ite_self, ↓reduceIte, noRefL, clrA, gcT, gcA, gcIds, reach, rhoOf, heapOf, idxA, genB, newGen, renB, refsB, List.contains_cons, List.range_succ, cb_conn_refused, b_conn_refused, cr_conn_refused, intsV, bytesV, propsV, propV, propC, bytesOf_map, hm, hx, hN, hS, b1, h1, hne, fndV, noProp, secV, Option.isSome_none, Option.isSome_some, Option.isNone_none, Option.isNone_some, h3, h7, h8, hT]
            case true =>
              rw [h8] at hT
              simp -implicitDefEqProofs only [EVS0, EVS1, EVS2, EVS3, EVS4, EVS5, EVS6, EVS7, EVL0, EVL1, ite_tf, ite_ft, ite_tft, ite_ftf, ite_list, ite_tt, ite_ee, ite_nt, ite_ne, eq_self, implies_true, forall_const, exI, nsite, freeAt, execI, Opd.ev, tget, tins, tput, keepL, sitesOf, List.sum_cons, List.sum_nil, Nat.reduceAdd, Nat.reduceSub, Nat.reduceLT, Nat.reduceLeDiff, Nat.reduceEqDiff, Nat.reduceBEq, Nat.reduceMul, beq_self_eq_true, Bool.false_eq_true, ldA, stA, partA, faddrA, setAt, binA, arithA, shiftA, strA, unA, gSpan, gSkip, unG, ne_eq, Option.some.injEq, reduceCtorEq, decide_true, decide_false, elemsA, resA, resAll, resOne, enterA, decide_eq_true_eq, Bool.not_eq_true, Bool.decide_eq_true, ite_self, ↓reduceIte, noRefL, clrA, gcT, gcA, gcIds, reach, rhoOf, heapOf, idxA, genB, newGen, renB, refsB, List.contains_cons, List.range_succ, cb_conn_refused, b_conn_refused, cr_conn_refused, intsV, bytesV, propsV, propV, propC, bytesOf_map, hm, hx, hN, hS, b1, h1, hne, fndV, noProp, secV, Option.isSome_none, Option.isSome_some, Option.isNone_none, Option.isNone_some, h3, h7, h8, hT, hE]
      case true =>
        rw [h1] at hne
        cases h2 : p.clean
        all_goals (rw [h2] at hE)
        case false =>
          simp -implicitDefEqProofs only [EVS0, EVS1, EVS2, EVS3, EVS4, EVS5, EVS6, EVS7, EVL0, EVL1, ite_tf, ite_ft, ite_tft, ite_ftf, ite_list, ite_tt, ite_ee, ite_nt, ite_ne, eq_self, implies_true, forall_const, exI, nsite, freeAt, execI, Opd.ev, tget, tins, tput, keepL, sitesOf, List.sum_cons, List.sum_nil, Nat.reduceAdd, Nat.reduceSub, Nat.reduceLT, Nat.reduceLeDiff, Nat.reduceEqDiff, Nat.reduceBEq, Nat.reduceMul, beq_self_eq_true, Bool.false_eq_true, ldA, stA, partA, faddrA, setAt, binA, arithA, shiftA, strA, unA, gSpan, gSkip, unG, ne_eq, Option.some.injEq, reduceCtorEq, decide_true, decide_false, elemsA, resA, resAll, resOne, enterA, decide_eq_true_eq, Bool.not_eq_true, Bool.decide_eq_true, ite_self, ↓reduceIte, noRefL, clrA, gcT, gcA, gcIds, reach, rhoOf, heapOf, idxA, genB, newGen, renB, refsB, List.contains_cons, List.range_succ, cb_conn_refused, b_conn_refused, cr_conn_refused, intsV, bytesV, propsV, propV, propC, bytesOf_map, hm, hx, hN, hS, b1, h1, hne, fndV, noProp, secV, Option.isSome_none, Option.isSome_some, Option.isNone_none, Option.isNone_some, h2]
        case true =>
          cases h7 : p.hasWill
          all_goals (rw [h7] at hE)
          case false =>
            simp -implicitDefEqProofs only [EVS0, EVS1, EVS2, EVS3, EVS4, EVS5, EVS6, EVS7, EVL0, EVL1, ite_tf, ite_ft, ite_tft, ite_ftf, ite_list, ite_tt, ite_ee, ite_nt, ite_ne, eq_self, implies_true, forall_const, exI, nsite, freeAt, execI, Opd.ev, tget, tins, tput, keepL, sitesOf, List.sum_cons, List.sum_nil, Nat.reduceAdd, Nat.reduceSub, Nat.reduceLT, Nat.reduceLeDiff, Nat.reduceEqDiff, Nat.reduceBEq, Nat.reduceMul, beq_self_eq_true, Bool.false_eq_true, ldA, stA, partA, faddrA, setAt, binA, arithA, shiftA, strA, unA, gSpan, gSkip, unG, ne_eq, Option.some.injEq, reduceCtorEq, decide_true, decide_false, elemsA, resA, resAll, resOne, enterA, decide_eq_true_eq, Bool.not_eq_true, Bool.decide_eq_true, ite_self, ↓reduceIte, noRefL, clrA, gcT, gcA, gcIds, reach, rhoOf, heapOf, idxA, genB, newGen, renB, refsB, List.contains_cons, List.range_succ, cb_conn_refused, b_conn_refused, cr_conn_refused, intsV, bytesV, propsV, propV, propC, bytesOf_map, hm, hx, hN, hS, b1, h1, hne, fndV, noProp, secV, Option.isSome_none, Option.isSome_some, Option.isNone_none, Option.isNone_some, h2, h7, hE]
          case true =>
            cases h8 : nameB p.will.topic
            case false =>
              rw [h8] at hT
              simp -implicitDefEqProofs only [EVS0, EVS1, EVS2, EVS3, EVS4, EVS5, EVS6, EVS7, EVL0, EVL1, ite_tf, ite_ft, ite_tft, ite_ftf, ite_list, ite_tt, ite_ee, ite_nt, ite_ne, eq_self, implies_true, forall_const, exI, nsite, freeAt, execI, Opd.ev, tget, tins, tput, keepL, sitesOf, List.sum_cons, List.sum_nil, Nat.reduceAdd, Nat.reduceSub, Nat.reduceLT, Nat.reduceLeDiff, Nat.reduceEqDiff, Nat.reduceBEq, Nat.reduceMul, beq_self_eq_true, Bool.false_eq_true, ldA, stA, partA, faddrA, setAt, binA, arithA, shiftA, strA, unA, gSpan, gSkip, unG, ne_eq, Option.some.injEq, reduceCtorEq, decide_true, decide_false, elemsA, resA, resAll, resOne, enterA, decide_eq_true_eq, Bool.not_eq_true, Bool.decide_eq_true, ite_self, ↓reduceIte, noRefL, clrA, gcT, gcA, gcIds, reach, rhoOf, heapOf, idxA, genB, newGen, renB, refsB, List.contains_cons, List.range_succ, cb_conn_refused, b_conn_refused, cr_conn_refused, intsV, bytesV, propsV, propV, propC, bytesOf_map, hm, hx, hN, hS, b1, h1, hne, fndV, noProp, secV, Option.isSome_none, Option.isSome_some, Option.isNone_none, Option.isNone_some, h2, h7, h8, hT]
            case true =>
              rw [h8] at hT
              simp -implicitDefEqProofs only [EVS0, EVS1, EVS2, EVS3, EVS4, EVS5, EVS6, EVS7, EVL0, EVL1, ite_tf, ite_ft, ite_tft, ite_ftf, ite_list, ite_tt, ite_ee, ite_nt, ite_ne, eq_self, implies_true, forall_const, exI, nsite, freeAt, execI, Opd.ev, tget, tins, tput, keepL, sitesOf, List.sum_cons, List.sum_nil, Nat.reduceAdd, Nat.reduceSub, Nat.reduceLT, Nat.reduceLeDiff, Nat.reduceEqDiff, Nat.reduceBEq, Nat.reduceMul, beq_self_eq_true, Bool.false_eq_true, ldA, stA, partA, faddrA, setAt, binA, arithA, shiftA, strA, unA, gSpan, gSkip, unG, ne_eq, Option.some.injEq, reduceCtorEq, decide_true, decide_false, elemsA, resA, resAll, resOne, enterA, decide_eq_true_eq, Bool.not_eq_true, Bool.decide_eq_true, ite_self, ↓reduceIte, noRefL, clrA, gcT, gcA, gcIds, reach, rhoOf, heapOf, idxA, genB, newGen, renB, refsB, List.contains_cons, List.range_succ, cb_conn_refused, b_conn_refused, cr_conn_refused, intsV, bytesV, propsV, propV, propC, bytesOf_map, hm, hx, hN, hS, b1, h1, hne, fndV, noProp, secV, Option.isSome_none, Option.isSome_some, Option.isNone_none, Option.isNone_some, h2, h7, h8, hT, hE]
  | some m =>
    rw [h5] at hm
    have hb9 : (m.text != proofL) = !(m.text == proofL) := rfl
    cases hs : secP (dataOf (findP 22 p.props)) l <;> rw [hs] at hS <;> cases h6 : findP 22 p.props <;> rw [h6] at hx hS hs <;> simp only [dataOf] at hS hs
    all_goals
      cases h1 : (p.client == [])
      case false =>
        rw [h1] at hne
        cases h3 : cnameB p.client
        case false =>
          rw [h3] at hN
          simp -implicitDefEqProofs only [EVS0, EVS1, EVS2, EVS3, EVS4, EVS5, EVS6, EVS7, EVL0, EVL1, ite_tf, ite_ft, ite_tft, ite_ftf, ite_list, ite_tt, ite_ee, ite_nt, ite_ne, eq_self, implies_true, forall_const, exI, nsite, freeAt, execI, Opd.ev, tget, tins, tput, keepL, sitesOf, List.sum_cons, List.sum_nil, Nat.reduceAdd, Nat.reduceSub, Nat.reduceLT, Nat.reduceLeDiff, Nat.reduceEqDiff, Nat.reduceBEq, Nat.reduceMul, beq_self_eq_true, Bool.false_eq_true, ldA, stA, partA, faddrA, setAt, binA, arithA, shiftA, strA, unA, gSpan, gSkip, unG, ne_eq, Option.some.injEq, reduceCtorEq, decide_true, decide_false, elemsA, resA, resAll, resOne, enterA, decide_eq_true_eq, Bool.not_eq_true, Bool.decide_eq_true, ite_self, ↓reduceIte, noRefL, clrA, gcT, gcA, gcIds, reach, rhoOf, heapOf, idxA, genB, newGen, renB, refsB, List.contains_cons, List.range_succ, cb_conn_refused, b_conn_refused, cr_conn_refused, intsV, bytesV, propsV, propV, propC, bytesOf_map, hm, hx, hN, hS, b1, h1, hne, fndV, noProp, secV, Option.isSome_none, Option.isSome_some, Option.isNone_none, Option.isNone_some, h3]
        case true =>
          rw [h3] at hN
          cases h7 : p.hasWill
          all_goals (rw [h7] at hE)
          case false =>
            cases h9 : (m.text == proofL)
            all_goals (unfold proofL at h9 hb9; rw [h9] at hb9)
            all_goals
              simp -implicitDefEqProofs only [EVS0, EVS1, EVS2, EVS3, EVS4, EVS5, EVS6, EVS7, EVL0, EVL1, ite_tf, ite_ft, ite_tft, ite_ftf, ite_list, ite_tt, ite_ee, ite_nt, ite_ne, eq_self, implies_true, forall_const, exI, nsite, freeAt, execI, Opd.ev, tget, tins, tput, keepL, sitesOf, List.sum_cons, List.sum_nil, Nat.reduceAdd, Nat.reduceSub, Nat.reduceLT, Nat.reduceLeDiff, Nat.reduceEqDiff, Nat.reduceBEq, Nat.reduceMul, beq_self_eq_true, Bool.false_eq_true, ldA, stA, partA, faddrA, setAt, binA, arithA, shiftA, strA, unA, gSpan, gSkip, unG, ne_eq, Option.some.injEq, reduceCtorEq, decide_true, decide_false, elemsA, resA, resAll, resOne, enterA, decide_eq_true_eq, Bool.not_eq_true, Bool.decide_eq_true, ite_self, ↓reduceIte, noRefL, clrA, gcT, gcA, gcIds, reach, rhoOf, heapOf, idxA, genB, newGen, renB, refsB, List.contains_cons, List.range_succ, cb_conn_refused, b_conn_refused, cr_conn_refused, intsV, bytesV, propsV, propV, propC, bytesOf_map, hm, hx, hN, hS, b1, h1, hne, fndV, noProp, secV, Option.isSome_none, Option.isSome_some, Option.isNone_none, Option.isNone_some, h3, h7, h9, hb9, proofL]
          case true =>
            cases h8 : nameB p.will.topic
            case false =>
              rw [h8] at hT
              simp -implicitDefEqProofs only [EVS0, EVS1, EVS2, EVS3, EVS4, EVS5, EVS6, EVS7, EVL0, EVL1, ite_tf, ite_ft, ite_tft, ite_ftf, ite_list, ite_tt, ite_ee, ite_nt, ite_ne, eq_self, implies_true, forall_const, exI, nsite, freeAt, execI, Opd.ev, tget, tins, tput, keepL, sitesOf, List.sum_cons, List.sum_nil, Nat.reduceAdd, Nat.reduceSub, Nat.reduceLT, Nat.reduceLeDiff, Nat.reduceEqDiff, Nat.reduceBEq, Nat.reduceMul, beq_self_eq_true, Bool.false_eq_true, ldA, stA, partA, faddrA, setAt, binA, arithA, shiftA, strA, unA, gSpan, gSkip, unG, ne_eq, Option.some.injEq, reduceCtorEq, decide_true, decide_false, elemsA, resA, resAll, resOne, enterA, decide_eq_true_eq, Bool.not_eq_true, Bool.decide_eq_true, ite_self, ↓reduceIte, noRefL, clrA, gcT, gcA, gcIds, reach, rhoOf, heapOf, idxA, genB, newGen, renB, refsB, List.contains_cons, List.range_succ, cb_conn_refused, b_conn_refused, cr_conn_refused, intsV, bytesV, propsV, propV, propC, bytesOf_map, hm, hx, hN, hS, b1, h1, hne, fndV, noProp, secV, Option.isSome_none, Option.isSome_some, Option.isNone_none, Option.isNone_some, h3, h7, h8, hT]
            case true =>
              rw [h8] at hT
              cases h9 : (m.text == proofL)
              all_goals (unfold proofL at h9 hb9; rw [h9] at hb9)
              all_goals
                simp -implicitDefEqProofs only [EVS0, EVS1, EVS2, EVS3, EVS4, EVS5, EVS6, EVS7, EVL0, EVL1, ite_tf, ite_ft, ite_tft, ite_ftf, ite_list, ite_tt, ite_ee, ite_nt, ite_ne, eq_self, implies_true, forall_const, exI, nsite, freeAt, execI, Opd.ev, tget, tins, tput, keepL, sitesOf, List.sum_cons, List.sum_nil, Nat.reduceAdd, Nat.reduceSub, Nat.reduceLT, Nat.reduceLeDiff, Nat.reduceEqDiff, Nat.reduceBEq, Nat.reduceMul, beq_self_eq_true, Bool.false_eq_true, ldA, stA, partA, faddrA, setAt, binA, arithA, shiftA, strA, unA, gSpan, gSkip, unG, ne_eq, Option.some.injEq, reduceCtorEq, decide_true, decide_false, elemsA, resA, resAll, resOne, enterA, decide_eq_true_eq, Bool.not_eq_true, Bool.decide_eq_true, ite_self, ↓reduceIte, noRefL, clrA, gcT, gcA, gcIds, reach, rhoOf, heapOf, idxA, genB, newGen, renB, refsB, List.contains_cons, List.range_succ, cb_conn_refused, b_conn_refused, cr_conn_refused, intsV, bytesV, propsV, propV, propC, bytesOf_map, hm, hx, hN, hS, b1, h1, hne, fndV, noProp, secV, Option.isSome_none, Option.isSome_some, Option.isNone_none, Option.isNone_some, h3, h7, h8, hT, h9, hb9, proofL]
      case true =>
        rw [h1] at hne
        cases h2 : p.clean
        all_goals (rw [h2] at hE)
        case false =>
          simp -implicitDefEqProofs only [EVS0, EVS1, EVS2, EVS3, EVS4, EVS5, EVS6, EVS7, EVL0, EVL1, ite_tf, ite_ft, ite_tft, ite_ftf, ite_list, ite_tt, ite_ee, ite_nt, ite_ne, eq_self, implies_true, forall_const, exI, nsite, freeAt, execI, Opd.ev, tget, tins, tput, keepL, sitesOf, List.sum_cons, List.sum_nil, Nat.reduceAdd, Nat.reduceSub, Nat.reduceLT, Nat.reduceLeDiff, Nat.reduceEqDiff, Nat.reduceBEq, Nat.reduceMul, beq_self_eq_true, Bool.false_eq_true, ldA, stA, partA, faddrA, setAt, binA, arithA, shiftA, strA, unA, gSpan, gSkip, unG, ne_eq, Option.some.injEq, reduceCtorEq, decide_true, decide_false, elemsA, resA, resAll, resOne, enterA, decide_eq_true_eq, Bool.not_eq_true, Bool.decide_eq_true, ite_self, ↓reduceIte, noRefL, clrA, gcT, gcA, gcIds, reach, rhoOf, heapOf, idxA, genB, newGen, renB, refsB, List.contains_cons, List.range_succ, cb_conn_refused, b_conn_refused, cr_conn_refused, intsV, bytesV, propsV, propV, propC, bytesOf_map, hm, hx, hN, hS, b1, h1, hne, fndV, noProp, secV, Option.isSome_none, Option.isSome_some, Option.isNone_none, Option.isNone_some, h2]
        case true =>
          cases h7 : p.hasWill
          all_goals (rw [h7] at hE)
          case false =>
            cases h9 : (m.text == proofL)
            all_goals (unfold proofL at h9 hb9; rw [h9] at hb9)
            all_goals
              simp -implicitDefEqProofs only [EVS0, EVS1, EVS2, EVS3, EVS4, EVS5, EVS6, EVS7, EVL0, EVL1, ite_tf, ite_ft, ite_tft, ite_ftf, ite_list, ite_tt, ite_ee, ite_nt, ite_ne, eq_self, implies_true, forall_const, exI, nsite, freeAt, execI, Opd.ev, tget, tins, tput, keepL, sitesOf, List.sum_cons, List.sum_nil, Nat.reduceAdd, Nat.reduceSub, Nat.reduceLT, Nat.reduceLeDiff, Nat.reduceEqDiff, Nat.reduceBEq, Nat.reduceMul, beq_self_eq_true, Bool.false_eq_true, ldA, stA, partA, faddrA, setAt, binA, arithA, shiftA, strA, unA, gSpan, gSkip, unG, ne_eq, Option.some.injEq, reduceCtorEq, decide_true, decide_false, elemsA, resA, resAll, resOne, enterA, decide_eq_true_eq, Bool.not_eq_true, Bool.decide_eq_true, ite_self, ↓reduceIte, noRefL, clrA, gcT, gcA, gcIds, reach, rhoOf, heapOf, idxA, genB, newGen, renB, refsB, List.contains_cons, List.range_succ, cb_conn_refused, b_conn_refused, cr_conn_refused, intsV, bytesV, propsV, propV, propC, bytesOf_map, hm, hx, hN, hS, b1, h1, hne, fndV, noProp, secV, Option.isSome_none, Option.isSome_some, Option.isNone_none, Option.isNone_some, h2, h7, h9, hb9, proofL]
          case true =>
            cases h8 : nameB p.will.topic
            case false =>
              rw [h8] at hT
              simp -implicitDefEqProofs only [EVS0, EVS1, EVS2, EVS3, EVS4, EVS5, EVS6, EVS7, EVL0, EVL1, ite_tf, ite_ft, ite_tft, ite_ftf, ite_list, ite_tt, ite_ee, ite_nt, ite_ne, eq_self, implies_true, forall_const, exI, nsite, freeAt, execI, Opd.ev, tget, tins, tput, keepL, sitesOf, List.sum_cons, List.sum_nil, Nat.reduceAdd, Nat.reduceSub, Nat.reduceLT, Nat.reduceLeDiff, Nat.reduceEqDiff, Nat.reduceBEq, Nat.reduceMul, beq_self_eq_true, Bool.false_eq_true, ldA, stA, partA, faddrA, setAt, binA, arithA, shiftA, strA, unA, gSpan, gSkip, unG, ne_eq, Option.some.injEq, reduceCtorEq, decide_true, decide_false, elemsA, resA, resAll, resOne, enterA, decide_eq_true_eq, Bool.not_eq_true, Bool.decide_eq_true, ite_self, ↓reduceIte, noRefL, clrA, gcT, gcA, gcIds, reach, rhoOf, heapOf, idxA, genB, newGen, renB, refsB, List.contains_cons, List.range_succ, cb_conn_refused, b_conn_refused, cr_conn_refused, intsV, bytesV, propsV, propV, propC, bytesOf_map, hm, hx, hN, hS, b1, h1, hne, fndV, noProp, secV, Option.isSome_none, Option.isSome_some, Option.isNone_none, Option.isNone_some, h2, h7, h8, hT]
            case true =>
              rw [h8] at hT
              cases h9 : (m.text == proofL)
              all_goals (unfold proofL at h9 hb9; rw [h9] at hb9)
              all_goals
                simp -implicitDefEqProofs only [EVS0, EVS1, EVS2, EVS3, EVS4, EVS5, EVS6, EVS7, EVL0, EVL1, ite_tf, ite_ft, ite_tft, ite_ftf, ite_list, ite_tt, ite_ee, ite_nt, ite_ne, eq_self, implies_true, forall_const, exI, nsite, freeAt, execI, Opd.ev, tget, tins, tput, keepL, sitesOf, List.sum_cons, List.sum_nil, Nat.reduceAdd, Nat.reduceSub, Nat.reduceLT, Nat.reduceLeDiff, Nat.reduceEqDiff, Nat.reduceBEq, Nat.reduceMul, beq_self_eq_true, Bool.false_eq_true, ldA, stA, partA, faddrA, setAt, binA, arithA, shiftA, strA, unA, gSpan, gSkip, unG, ne_eq, Option.some.injEq, reduceCtorEq, decide_true, decide_false, elemsA, resA, resAll, resOne, enterA, decide_eq_true_eq, Bool.not_eq_true, Bool.decide_eq_true, ite_self, ↓reduceIte, noRefL, clrA, gcT, gcA, gcIds, reach, rhoOf, heapOf, idxA, genB, newGen, renB, refsB, List.contains_cons, List.range_succ, cb_conn_refused, b_conn_refused, cr_conn_refused, intsV, bytesV, propsV, propV, propC, bytesOf_map, hm, hx, hN, hS, b1, h1, hne, fndV, noProp, secV, Option.isSome_none, Option.isSome_some, Option.isNone_none, Option.isNone_some, h2, h7, h8, hT, h9, hb9, proofL]
end Go.Proofs.YtaaflagbhneakaaDoor
namespace Go.Proofs.YtaaflagbhneakaaDoor
set_option linter.unusedSimpArgs false
set_option linter.unusedVariables false
def b_note_Of : ACode := (.seq (.region [⟨(some 4), (.box (.t 0)), none, []⟩, ⟨(some 8), (.alloc [(.str []), (.lst true []), (.int .i64 0), (.bool false), (.str []), (.int .i64 0), (.lst true []), (.int .i64 0), (.int .i64 0), (.int .i64 0)]), none, []⟩] none [8, 4, 3, 2, 1]) (.seq (.region [⟨(some 12), (.mov (.t 1)), none, []⟩, ⟨(some 13), (.faddr 6 (.t 4)), none, []⟩, ⟨(some 14), (.ld none (.t 13)), none, []⟩, ⟨(some 15), (.call 38 1 false [(.t 14)]), none, []⟩, ⟨(some 16), (.faddr 2 (.t 4)), none, []⟩, ⟨(some 17), (.ld none (.t 16)), none, []⟩, ⟨(some 18), (.faddr 3 (.t 4)), none, []⟩, ⟨(some 19), (.ld none (.t 18)), none, []⟩, ⟨(some 20), (.mov (.t 2)), none, []⟩, ⟨(some 21), (.faddr 9 (.t 4)), none, []⟩, ⟨(some 22), (.ld none (.t 21)), none, []⟩, ⟨(some 23), (.call 39 0 true [(.t 22)]), none, []⟩, ⟨(some 24), (.build [(.str []), (.lst true []), (.int .i64 0), (.bool false), (.str []), (.int .i64 0), (.lst true []), (.int .i64 0), (.int .i64 0), (.int .i64 0)] [(0, 1, (.t 12)), (1, 1, (.t 15)), (2, 1, (.t 17)), (3, 1, (.t 19)), (4, 1, (.t 20)), (6, 1, (.t 23))]), none, []⟩, ⟨(some 9), (.alloc [(.str []), (.lst true []), (.int .i64 0), (.bool false), (.str []), (.int .i64 0), (.lst true []), (.int .i64 0), (.int .i64 0), (.int .i64 0)]), none, []⟩, ⟨none, (.st 10 (.t 9) (.t 24)), none, []⟩] (some [(2, 5), (3, 5), (2, 7), (3, 7), (5, 7), (2, 10), (3, 10), (5, 10), (7, 10), (5, 11), (7, 11), (2, 13), (3, 13), (5, 13), (7, 13), (10, 13), (11, 13)]) [9, 8, 4, 3]) (.seq (.seq (.region [⟨(some 26), (.faddr 9 (.t 4)), none, []⟩, ⟨(some 27), (.ld none (.t 26)), none, []⟩, ⟨(some 28), (.call 18 0 true [(.c (.int .i64 2)), (.t 27)]), none, []⟩, ⟨(some 25), (.mov (.t 28)), none, []⟩, ⟨(some 29), (.ext (.t 25) 0), none, []⟩, ⟨(some 30), (.ext (.t 25) 1), none, []⟩, ⟨(some 10), (.alloc [(.int .i64 0), (.int .i64 0), (.str []), (.str []), (.lst true [])]), none, []⟩, ⟨none, (.st 5 (.t 10) (.t 29)), none, []⟩, ⟨(some 11), (.mov (.t 30)), none, []⟩] none [11, 10, 9, 8, 3]) (.seq (.region [⟨(some 31), (.mov (.t 11)), none, []⟩] none [31, 10, 9, 8, 3]) (.cond (.t 31) (.region [⟨(some 32), (.mov (.t 3)), none, []⟩, ⟨(some 33), (.faddr 1 (.t 10)), none, []⟩, ⟨(some 34), (.ld none (.t 33)), none, []⟩, ⟨(some 35), (.bin .add (.t 32) (.t 34)), none, []⟩, ⟨(some 36), (.faddr 5 (.t 9)), none, []⟩, ⟨none, (.st 1 (.t 36) (.t 35)), none, []⟩] none [9, 8]) .skip))) (.seq (.region [⟨(some 37), (.ld (some 10) (.t 9)), none, []⟩, ⟨none, (.st 10 (.t 8) (.t 37)), none, []⟩] none [8]) .ret))))
def c_note_Of : AFunc := ⟨[(.cell 8 (some 10))], b_note_Of⟩
theorem cf_note_Of : FC 23 = some c_note_Of := by kernel_rfl
theorem cb_note_Of : c_note_Of.body = b_note_Of := rfl
theorem cr_note_Of : c_note_Of.res = [(.cell 8 (some 10))] := rfl
def b_note_kept : ACode := (.seq (.region [⟨(some 2), (.mov (.c (.lst true []))), none, []⟩] none [0]) (.seq (.region [⟨(some 3), (.mov (.t 0)), none, []⟩, ⟨(some 4), (.bslice false 1 5 (.int .i64 0) [(0, (.c (.int .i64 1))), (1, (.c (.int .i64 3))), (2, (.c (.int .i64 8))), (3, (.c (.int .i64 9))), (4, (.c (.int .i64 38)))]), none, []⟩, ⟨(some 5), (.call 47 0 true [(.t 3), (.t 4)]), none, []⟩, ⟨(some 2), (.mov (.t 5)), none, []⟩] none [2]) .ret))
def c_note_kept : AFunc := ⟨[(.tmp 2)], b_note_kept⟩
theorem cf_note_kept : FC 39 = some c_note_kept := by kernel_rfl
theorem cb_note_kept : c_note_kept.body = b_note_kept := rfl
theorem cr_note_kept : c_note_kept.res = [(.tmp 2)] := rfl
def b_tidingsref19_Kept : ACode := (.seq (.region [⟨(some 2), (.mov (.c (.lst true []))), none, []⟩] none [0]) (.seq (.region [⟨(some 3), (.mov (.t 0)), none, []⟩, ⟨(some 4), (.bslice false 1 5 (.int .i64 0) [(0, (.c (.int .i64 1))), (1, (.c (.int .i64 3))), (2, (.c (.int .i64 8))), (3, (.c (.int .i64 9))), (4, (.c (.int .i64 38)))]), none, []⟩, ⟨(some 5), (.call 42 0 true [(.t 3), (.t 4)]), none, []⟩, ⟨(some 2), (.mov (.t 5)), none, []⟩] none [2]) .ret))
def c_tidingsref19_Kept : AFunc := ⟨[(.tmp 2)], b_tidingsref19_Kept⟩
theorem cf_tidingsref19_Kept : FC 29 = some c_tidingsref19_Kept := by kernel_rfl
theorem cb_tidingsref19_Kept : c_tidingsref19_Kept.body = b_tidingsref19_Kept := rfl
theorem cr_tidingsref19_Kept : c_tidingsref19_Kept.res = [(.tmp 2)] := rfl
def b_tidingsref19_Of : ACode := (.seq (.region [⟨(some 4), (.box (.t 0)), none, []⟩, ⟨(some 8), (.alloc [(.str []), (.lst true []), (.int .i64 0), (.bool false), (.str []), (.int .i64 0), (.lst true []), (.int .i64 0), (.int .i64 0), (.int .i64 0)]), none, []⟩] none [8, 4, 3, 2, 1]) (.seq (.region [⟨(some 12), (.mov (.t 1)), none, []⟩, ⟨(some 13), (.bslice false 1 0 (.int .u8 0) []), none, []⟩, ⟨(some 14), (.faddr 6 (.t 4)), none, []⟩, ⟨(some 15), (.ld none (.t 14)), none, []⟩, ⟨(some 16), (.app 1 1 (.int .u8 0) (.t 13) (.t 15)), none, []⟩, ⟨(some 17), (.faddr 2 (.t 4)), none, []⟩, ⟨(some 18), (.ld none (.t 17)), none, []⟩, ⟨(some 19), (.faddr 3 (.t 4)), none, []⟩, ⟨(some 20), (.ld none (.t 19)), none, []⟩, ⟨(some 21), (.mov (.t 2)), none, []⟩, ⟨(some 22), (.faddr 9 (.t 4)), none, []⟩, ⟨(some 23), (.ld none (.t 22)), none, []⟩, ⟨(some 24), (.call 29 0 true [(.t 23)]), none, []⟩, ⟨(some 25), (.build [(.str []), (.lst true []), (.int .i64 0), (.bool false), (.str []), (.int .i64 0), (.lst true []), (.int .i64 0), (.int .i64 0), (.int .i64 0)] [(0, 1, (.t 12)), (1, 1, (.t 16)), (2, 1, (.t 18)), (3, 1, (.t 20)), (4, 1, (.t 21)), (6, 1, (.t 24))]), none, []⟩, ⟨(some 9), (.alloc [(.str []), (.lst true []), (.int .i64 0), (.bool false), (.str []), (.int .i64 0), (.lst true []), (.int .i64 0), (.int .i64 0), (.int .i64 0)]), none, []⟩, ⟨none, (.st 10 (.t 9) (.t 25)), none, []⟩] (some [(1, 3), (1, 6), (3, 6), (4, 6), (1, 8), (3, 8), (4, 8), (6, 8), (1, 11), (3, 11), (4, 11), (6, 11), (8, 11), (6, 12), (8, 12), (1, 14), (3, 14), (4, 14), (6, 14), (8, 14), (11, 14), (12, 14)]) [9, 8, 4, 3]) (.seq (.seq (.region [⟨(some 27), (.faddr 9 (.t 4)), none, []⟩, ⟨(some 28), (.ld none (.t 27)), none, []⟩, ⟨(some 29), (.call 25 0 true [(.c (.int .i64 2)), (.t 28)]), none, []⟩, ⟨(some 26), (.mov (.t 29)), none, []⟩, ⟨(some 30), (.ext (.t 26) 0), none, []⟩, ⟨(some 31), (.ext (.t 26) 1), none, []⟩, ⟨(some 10), (.alloc [(.int .i64 0), (.int .i64 0), (.str []), (.str []), (.lst true [])]), none, []⟩, ⟨none, (.st 5 (.t 10) (.t 30)), none, []⟩, ⟨(some 11), (.mov (.t 31)), none, []⟩] none [11, 10, 9, 8, 3]) (.seq (.region [⟨(some 32), (.mov (.t 11)), none, []⟩] none [32, 10, 9, 8, 3]) (.cond (.t 32) (.region [⟨(some 33), (.mov (.t 3)), none, []⟩, ⟨(some 34), (.faddr 1 (.t 10)), none, []⟩, ⟨(some 35), (.ld none (.t 34)), none, []⟩, ⟨(some 36), (.bin .add (.t 33) (.t 35)), none, []⟩, ⟨(some 37), (.faddr 5 (.t 9)), none, []⟩, ⟨none, (.st 1 (.t 37) (.t 36)), none, []⟩] none [9, 8]) .skip))) (.seq (.region [⟨(some 38), (.ld (some 10) (.t 9)), none, []⟩, ⟨none, (.st 10 (.t 8) (.t 38)), none, []⟩] none [8]) .ret))))
def c_tidingsref19_Of : AFunc := ⟨[(.cell 8 (some 10))], b_tidingsref19_Of⟩
theorem cf_tidingsref19_Of : FC 30 = some c_tidingsref19_Of := by kernel_rfl
theorem cb_tidingsref19_Of : c_tidingsref19_Of.body = b_tidingsref19_Of := rfl
theorem cr_tidingsref19_Of : c_tidingsref19_Of.res = [(.cell 8 (some 10))] := rfl
def b_tidingsref19_Same : ACode := (.seq (.region [⟨(some 2), (.box (.t 0)), none, []⟩, ⟨(some 3), (.box (.t 1)), none, []⟩, ⟨(some 4), (.mov (.c (.bool false))), none, []⟩] none [3, 2]) (.seq (.region [⟨(some 5), (.faddr 0 (.t 2)), none, []⟩, ⟨(some 6), (.ld none (.t 5)), none, []⟩, ⟨(some 7), (.faddr 0 (.t 3)), none, []⟩, ⟨(some 8), (.ld none (.t 7)), none, []⟩, ⟨(some 9), (.bin .eql (.t 6) (.t 8)), none, []⟩, ⟨(some 10), (.mov (.t 9)), none, []⟩, ⟨(some 11), (.faddr 1 (.t 2)), (some (10, true)), []⟩, ⟨(some 12), (.ld none (.t 11)), (some (10, true)), []⟩, ⟨(some 13), (.b2s (.t 12)), (some (10, true)), []⟩, ⟨(some 14), (.faddr 1 (.t 3)), (some (10, true)), []⟩, ⟨(some 15), (.ld none (.t 14)), (some (10, true)), []⟩, ⟨(some 16), (.b2s (.t 15)), (some (10, true)), []⟩, ⟨(some 17), (.bin .eql (.t 13) (.t 16)), (some (10, true)), []⟩, ⟨(some 18), (.pick (.t 10) (.t 17) (.c (.bool false))), none, []⟩, ⟨(some 19), (.mov (.t 18)), none, []⟩, ⟨(some 20), (.faddr 2 (.t 2)), (some (19, true)), []⟩, ⟨(some 21), (.ld none (.t 20)), (some (19, true)), []⟩, ⟨(some 22), (.faddr 2 (.t 3)), (some (19, true)), []⟩, ⟨(some 23), (.ld none (.t 22)), (some (19, true)), []⟩, ⟨(some 24), (.bin .eql (.t 21) (.t 23)), (some (19, true)), []⟩, ⟨(some 25), (.pick (.t 19) (.t 24) (.c (.bool false))), none, []⟩, ⟨(some 26), (.mov (.t 25)), none, []⟩, ⟨(some 27), (.faddr 3 (.t 2)), (some (26, true)), []⟩, ⟨(some 28), (.ld none (.t 27)), (some (26, true)), []⟩, ⟨(some 29), (.faddr 3 (.t 3)), (some (26, true)), []⟩, ⟨(some 30), (.ld none (.t 29)), (some (26, true)), []⟩, ⟨(some 31), (.beq false (.t 28) (.t 30)), (some (26, true)), []⟩, ⟨(some 32), (.pick (.t 26) (.t 31) (.c (.bool false))), none, []⟩, ⟨(some 33), (.mov (.t 32)), none, []⟩, ⟨(some 34), (.faddr 4 (.t 2)), (some (33, true)), []⟩, ⟨(some 35), (.ld none (.t 34)), (some (33, true)), []⟩, ⟨(some 36), (.faddr 4 (.t 3)), (some (33, true)), []⟩, ⟨(some 37), (.ld none (.t 36)), (some (33, true)), []⟩, ⟨(some 38), (.bin .eql (.t 35) (.t 37)), (some (33, true)), []⟩, ⟨(some 39), (.pick (.t 33) (.t 38) (.c (.bool false))), none, []⟩, ⟨(some 40), (.mov (.t 39)), none, []⟩, ⟨(some 41), (.faddr 5 (.t 2)), (some (40, true)), []⟩, ⟨(some 42), (.ld none (.t 41)), (some (40, true)), []⟩, ⟨(some 43), (.faddr 5 (.t 3)), (some (40, true)), []⟩, ⟨(some 44), (.ld none (.t 43)), (some (40, true)), []⟩, ⟨(some 45), (.bin .eql (.t 42) (.t 44)), (some (40, true)), []⟩, ⟨(some 46), (.pick (.t 40) (.t 45) (.c (.bool false))), none, []⟩, ⟨(some 47), (.mov (.t 46)), none, []⟩, ⟨(some 48), (.faddr 6 (.t 2)), (some (47, true)), []⟩, ⟨(some 49), (.ld none (.t 48)), (some (47, true)), []⟩, ⟨(some 50), (.faddr 6 (.t 3)), (some (47, true)), []⟩, ⟨(some 51), (.ld none (.t 50)), (some (47, true)), []⟩, ⟨(some 52), (.call 43 0 true [(.t 49), (.t 51)]), (some (47, true)), []⟩, ⟨(some 53), (.pick (.t 47) (.t 52) (.c (.bool false))), none, []⟩, ⟨(some 54), (.mov (.t 53)), none, []⟩, ⟨(some 55), (.faddr 7 (.t 2)), (some (54, true)), []⟩, ⟨(some 56), (.ld none (.t 55)), (some (54, true)), []⟩, ⟨(some 57), (.faddr 7 (.t 3)), (some (54, true)), []⟩, ⟨(some 58), (.ld none (.t 57)), (some (54, true)), []⟩, ⟨(some 59), (.bin .eql (.t 56) (.t 58)), (some (54, true)), []⟩, ⟨(some 60), (.pick (.t 54) (.t 59) (.c (.bool false))), none, []⟩, ⟨(some 61), (.mov (.t 60)), none, []⟩, ⟨(some 62), (.faddr 8 (.t 2)), (some (61, true)), []⟩, ⟨(some 63), (.ld none (.t 62)), (some (61, true)), []⟩, ⟨(some 64), (.faddr 8 (.t 3)), (some (61, true)), []⟩, ⟨(some 65), (.ld none (.t 64)), (some (61, true)), []⟩, ⟨(some 66), (.bin .eql (.t 63) (.t 65)), (some (61, true)), []⟩, ⟨(some 67), (.pick (.t 61) (.t 66) (.c (.bool false))), none, []⟩, ⟨(some 68), (.mov (.t 67)), none, []⟩, ⟨(some 69), (.faddr 9 (.t 2)), (some (68, true)), []⟩, ⟨(some 70), (.ld none (.t 69)), (some (68, true)), []⟩, ⟨(some 71), (.faddr 9 (.t 3)), (some (68, true)), []⟩, ⟨(some 72), (.ld none (.t 71)), (some (68, true)), []⟩, ⟨(some 73), (.bin .eql (.t 70) (.t 72)), (some (68, true)), []⟩, ⟨(some 74), (.pick (.t 68) (.t 73) (.c (.bool false))), none, []⟩, ⟨(some 4), (.mov (.t 74)), none, []⟩] none [4]) .ret))
def c_tidingsref19_Same : AFunc := ⟨[(.tmp 4)], b_tidingsref19_Same⟩
theorem cf_tidingsref19_Same : FC 32 = some c_tidingsref19_Same := by kernel_rfl
theorem cb_tidingsref19_Same : c_tidingsref19_Same.body = b_tidingsref19_Same := rfl
theorem cr_tidingsref19_Same : c_tidingsref19_Same.res = [(.tmp 4)] := rfl
end Go.Proofs.YtaaflagbhneakaaDoor
namespace Go.Proofs.YtaaflagbhneakaaDoor
set_option linter.unusedSimpArgs false
set_option linter.unusedVariables false
set_option maxHeartbeats 4000000
set_option maxRecDepth 10000
theorem q_sidxl (l : List Int) (hl : l.length ≤ 9223372036854775807) (v : Int) : ∀ (r : List Int) (i : Nat), l.drop i = r →
    ∃ z, K_slices_Index_int_int_l2 0 [(8, .int .i64 i), (7, .int .i64 l.length), (1, .int .i64 v), (0, .lst false (l.map (AVal.int .i64 ·)))] [] = some (.int .i64 z, []) ∧ decide (z ≥ 0) = r.contains v
  | [], i, h => by
    have h1 := drop_nil h
    refine ⟨-1, ?_, by simp⟩
    unfold K_slices_Index_int_int_l2
    rw [evL_eq]
    simp -implicitDefEqProofs only [EVS0, EVS1, EVS2, EVS3, EVS4, EVS5, EVS6, EVS7, EVL0, EVL1, ite_tf, ite_ft, ite_tft, ite_ftf, ite_list, ite_tt, ite_ee, ite_nt, ite_ne, eq_self, implies_true, forall_const, exI, nsite, freeAt, execI, Opd.ev, tget, tins, tput, keepL, sitesOf, List.sum_cons, List.sum_nil, Nat.reduceAdd, Nat.reduceSub, Nat.reduceLT, Nat.reduceLeDiff, Nat.reduceEqDiff, Nat.reduceBEq, Nat.reduceMul, beq_self_eq_true, Bool.false_eq_true, ldA, stA, partA, faddrA, setAt, binA, arithA, shiftA, strA, unA, gSpan, gSkip, unG, ne_eq, Option.some.injEq, reduceCtorEq, decide_true, decide_false, elemsA, resA, resAll, resOne, enterA, decide_eq_true_eq, Bool.not_eq_true, Bool.decide_eq_true, ite_self, ↓reduceIte, noRefL, clrA, gcT, gcA, gcIds, reach, rhoOf, heapOf, idxA, genB, newGen, renB, refsB, List.contains_cons, List.range_succ, cb_slices_Index_int_int, b_slices_Index_int_int, cr_slices_Index_int_int, x_slices_Index_int_int_k0, x_slices_Index_int_int_l2, intsV, bytesV, propsV, propV, propC, bytesOf_map, h1]
  | x :: r, i, h => by
    obtain ⟨z, ih, hz⟩ := q_sidxl l hl v r (i + 1) (drop_at h).2.1
    have h1 : (i : Int) < l.length := by have := (drop_at h).2.2; omega
    have e1 := iad (drop_at h).1 (AVal.int .i64 ·) (k := 1) rfl
    have e3 := wrap_succ h1 hl
    cases hb : (v == x)
    · refine ⟨z, ?_, by rw [hz]; simp only [List.contains_cons, hb, Bool.false_or]⟩
      unfold K_slices_Index_int_int_l2 at ih ⊢
      rw [evL_eq]
      have hb' : (x == v) = false := by simp only [beq_eq_false_iff_ne, ne_eq] at hb ⊢; exact fun e => hb e.symm
      simp -implicitDefEqProofs only [EVS0, EVS1, EVS2, EVS3, EVS4, EVS5, EVS6, EVS7, EVL0, EVL1, ite_tf, ite_ft, ite_tft, ite_ftf, ite_list, ite_tt, ite_ee, ite_nt, ite_ne, eq_self, implies_true, forall_const, exI, nsite, freeAt, execI, Opd.ev, tget, tins, tput, keepL, sitesOf, List.sum_cons, List.sum_nil, Nat.reduceAdd, Nat.reduceSub, Nat.reduceLT, Nat.reduceLeDiff, Nat.reduceEqDiff, Nat.reduceBEq, Nat.reduceMul, beq_self_eq_true, Bool.false_eq_true, ldA, stA, partA, faddrA, setAt, binA, arithA, shiftA, strA, unA, gSpan, gSkip, unG, ne_eq, Option.some.injEq, reduceCtorEq, decide_true, decide_false, elemsA, resA, resAll, resOne, enterA, decide_eq_true_eq, Bool.not_eq_true, Bool.decide_eq_true, ite_self, ↓reduceIte, noRefL, clrA, gcT, gcA, gcIds, reach, rhoOf, heapOf, idxA, genB, newGen, renB, refsB, List.contains_cons, List.range_succ, cb_slices_Index_int_int, b_slices_Index_int_int, cr_slices_Index_int_int, x_slices_Index_int_int_k0, x_slices_Index_int_int_l2, intsV, bytesV, propsV, propV, propC, bytesOf_map, h1, e1, e3, hb, hb']
      exact ih
    · refine ⟨i, ?_, by simp only [List.contains_cons, hb, Bool.true_or]; simp⟩
      have hb' : (x == v) = true := by simp only [beq_iff_eq] at hb ⊢; exact hb.symm
      unfold K_slices_Index_int_int_l2 at ih ⊢
      rw [evL_eq]
      simp -implicitDefEqProofs only [EVS0, EVS1, EVS2, EVS3, EVS4, EVS5, EVS6, EVS7, EVL0, EVL1, ite_tf, ite_ft, ite_tft, ite_ftf, ite_list, ite_tt, ite_ee, ite_nt, ite_ne, eq_self, implies_true, forall_const, exI, nsite, freeAt, execI, Opd.ev, tget, tins, tput, keepL, sitesOf, List.sum_cons, List.sum_nil, Nat.reduceAdd, Nat.reduceSub, Nat.reduceLT, Nat.reduceLeDiff, Nat.reduceEqDiff, Nat.reduceBEq, Nat.reduceMul, beq_self_eq_true, Bool.false_eq_true, ldA, stA, partA, faddrA, setAt, binA, arithA, shiftA, strA, unA, gSpan, gSkip, unG, ne_eq, Option.some.injEq, reduceCtorEq, decide_true, decide_false, elemsA, resA, resAll, resOne, enterA, decide_eq_true_eq, Bool.not_eq_true, Bool.decide_eq_true, ite_self, ↓reduceIte, noRefL, clrA, gcT, gcA, gcIds, reach, rhoOf, heapOf, idxA, genB, newGen, renB, refsB, List.contains_cons, List.range_succ, cb_slices_Index_int_int, b_slices_Index_int_int, cr_slices_Index_int_int, x_slices_Index_int_int_k0, x_slices_Index_int_int_l2, intsV, bytesV, propsV, propV, propC, bytesOf_map, h1, e1, e3, hb, hb']
theorem q_sidx (l : List Int) (hl : l.length ≤ 9223372036854775807) (v : Int) : ∃ z, E 60 [intsV l, .int .i64 v] [] = some (.int .i64 z, []) ∧ decide (z ≥ 0) = l.contains v := by
  obtain ⟨z, h, hz⟩ := q_sidxl l hl v l 0 rfl
  refine ⟨z, ?_, hz⟩
  have z0 : ((0 : Nat) : Int) = 0 := rfl
  rw [z0] at h
  unfold K_slices_Index_int_int_l2 at h
  rw [E_eq (by rfl) cf_slices_Index_int_int]
  simp -implicitDefEqProofs only [EVS0, EVS1, EVS2, EVS3, EVS4, EVS5, EVS6, EVS7, EVL0, EVL1, ite_tf, ite_ft, ite_tft, ite_ftf, ite_list, ite_tt, ite_ee, ite_nt, ite_ne, eq_self, implies_true, forall_const, exI, nsite, freeAt, execI, Opd.ev, tget, tins, tput, keepL, sitesOf, List.sum_cons, List.sum_nil, Nat.reduceAdd, Nat.reduceSub, Nat.reduceLT, Nat.reduceLeDiff, Nat.reduceEqDiff, Nat.reduceBEq, Nat.reduceMul, beq_self_eq_true, Bool.false_eq_true, ldA, stA, partA, faddrA, setAt, binA, arithA, shiftA, strA, unA, gSpan, gSkip, unG, ne_eq, Option.some.injEq, reduceCtorEq, decide_true, decide_false, elemsA, resA, resAll, resOne, enterA, decide_eq_true_eq, Bool.not_eq_true, Bool.decide_eq_true, ite_self, ↓reduceIte, noRefL, clrA, gcT, gcA, gcIds, reach, rhoOf, heapOf, idxA, genB, newGen, renB, refsB, List.contains_cons, List.range_succ, cb_slices_Index_int_int, b_slices_Index_int_int, cr_slices_Index_int_int, x_slices_Index_int_int_k0, x_slices_Index_int_int_l2, intsV, bytesV, propsV, propV, propC, bytesOf_map, intsV]
  exact h
theorem q_contains (l : List Int) (hl : l.length ≤ 9223372036854775807) (v : Int) : E 53 [intsV l, .int .i64 v] [] = some (.bool (l.contains v), []) := by
  obtain ⟨z, h, hz⟩ := q_sidx l hl v
  have hC : ∀ (σ : AHeap) (site own : Nat) (view : Bool), callG E BY σ site 60 own view [.lst false (l.map (AVal.int .i64 ·)), .int .i64 v] = some (.int .i64 z, σ, {}) := fun σ site own view => call_flat (h) (by kernel_rfl) (by simp -implicitDefEqProofs only [EVS0, EVS1, EVS2, EVS3, EVS4, EVS5, EVS6, EVS7, EVL0, EVL1, eq_self, implies_true, Bool.false_eq_true, intsV, bytesV, propsV, propV, propC, intsV]) (by simp -implicitDefEqProofs only [EVS0, EVS1, EVS2, EVS3, EVS4, EVS5, EVS6, EVS7, EVL0, EVL1, eq_self, implies_true, Bool.false_eq_true, intsV, bytesV, propsV, propV, propC, intsV]) rfl (fun _ => rfl) _ _ _ _
  rw [E_eq (by rfl) cf_slices_Contains_int_int]
  rw [← hz]
  simp -implicitDefEqProofs only [EVS0, EVS1, EVS2, EVS3, EVS4, EVS5, EVS6, EVS7, EVL0, EVL1, ite_tf, ite_ft, ite_tft, ite_ftf, ite_list, ite_tt, ite_ee, ite_nt, ite_ne, eq_self, implies_true, forall_const, exI, nsite, freeAt, execI, Opd.ev, tget, tins, tput, keepL, sitesOf, List.sum_cons, List.sum_nil, Nat.reduceAdd, Nat.reduceSub, Nat.reduceLT, Nat.reduceLeDiff, Nat.reduceEqDiff, Nat.reduceBEq, Nat.reduceMul, beq_self_eq_true, Bool.false_eq_true, ldA, stA, partA, faddrA, setAt, binA, arithA, shiftA, strA, unA, gSpan, gSkip, unG, ne_eq, Option.some.injEq, reduceCtorEq, decide_true, decide_false, elemsA, resA, resAll, resOne, enterA, decide_eq_true_eq, Bool.not_eq_true, Bool.decide_eq_true, ite_self, ↓reduceIte, noRefL, clrA, gcT, gcA, gcIds, reach, rhoOf, heapOf, idxA, genB, newGen, renB, refsB, List.contains_cons, List.range_succ, cb_slices_Contains_int_int, b_slices_Contains_int_int, cr_slices_Contains_int_int, intsV, bytesV, propsV, propV, propC, bytesOf_map, hC]
theorem q_containsC (σ : AHeap) (site own : Nat) (l : List Int) (hl : l.length ≤ 9223372036854775807) (v : Int) (b : Bool) : callG E BY σ site 53 own true [.lst b (l.map (AVal.int .i64 ·)), .int .i64 v] = some (.bool (l.contains v), σ, {}) :=
  call_norm (q_contains l hl v) (by kernel_rfl) rfl rfl rfl (fun _ => rfl) _ _ _
theorem out_row0 (k n : Nat) (xs : List AVal) (σ : AHeap) : outA 0 (.row 0 k xs :: σ) (.sl 0 0 0 n) = some (.sl 0 0 0 n, [.row 0 k xs]) := by
  simp [outA, gcA, gcIds, reach, refsL, refsV, rhoOf, heapOf, idxA, genB, newGen, renL, renV, renB, refsB]
theorem out_row1 (k n : Nat) (xs : List AVal) (σ : AHeap) : outA 0 (.row 1 k xs :: σ) (.sl 0 1 0 n) = some (.sl 0 0 0 n, [.row 0 k xs]) := by
  simp [outA, gcA, gcIds, reach, refsL, refsV, rhoOf, heapOf, idxA, genB, newGen, renL, renV, renB, refsB]
/-- a row that grows: nothing yet, or an own one -/
def growV : List AVal → AVal
  | [] => .lst true []
  | x :: xs => .sl 0 0 0 (x :: xs).length
def growH (k : Nat) : List AVal → AHeap
  | [] => []
  | x :: xs => [.row 0 k (x :: xs)]
theorem growV_nil : growV [] = .lst true [] := rfl
theorem growV_cons (x : AVal) (xs : List AVal) : growV (x :: xs) = .sl 0 0 0 (x :: xs).length := rfl
theorem growH_nil (k : Nat) : growH k [] = [] := rfl
theorem growH_cons (k : Nat) (x : AVal) (xs : List AVal) : growH k (x :: xs) = [.row 0 k (x :: xs)] := rfl
def onlyL (ids : List Int) (l : List PropD) : List PropD := l.filter fun p => ids.contains p.id
theorem kOk_props (l : List PropD) : kOk 5 (l.map propV) = true := by cases l <;> rfl
theorem q_onlyl (ids : List Int) (hi : ids.length ≤ 9223372036854775807) (l : List PropD) (hl : l.length * 72 ≤ 140737488355328) (hd : ∀ p ∈ l, p.data.length ≤ 140737488355328) (full : List AVal) : ∀ (r : List PropD) (i : Nat) (acc : List PropD), l.drop i = r → acc.length + r.length ≤ l.length → full = (acc ++ onlyL ids r).map propV →
    K_prop_Only_l3 0 [(10, .int .i64 i), (9, .int .i64 l.length), (8, .lst false (l.map propV)), (5, growV (acc.map propV)), (1, .lst false (ids.map (AVal.int .i64 ·)))] (growH 5 (acc.map propV)) = some (growV full, growH 5 full)
  | [], i, acc, h, _, hf => by
    have h1 := drop_nil h
    have e : acc ++ onlyL ids [] = acc := by simp [onlyL]
    rw [e] at hf
    subst hf
    unfold K_prop_Only_l3
    rw [evL_eq]
    cases acc with
    | nil => simp -implicitDefEqProofs only [EVS0, EVS1, EVS2, EVS3, EVS4, EVS5, EVS6, EVS7, EVL0, EVL1, ite_tf, ite_ft, ite_tft, ite_ftf, ite_list, ite_tt, ite_ee, ite_nt, ite_ne, eq_self, implies_true, forall_const, exI, nsite, freeAt, execI, Opd.ev, tget, tins, tput, keepL, sitesOf, List.sum_cons, List.sum_nil, Nat.reduceAdd, Nat.reduceSub, Nat.reduceLT, Nat.reduceLeDiff, Nat.reduceEqDiff, Nat.reduceBEq, Nat.reduceMul, beq_self_eq_true, Bool.false_eq_true, ldA, stA, partA, faddrA, setAt, binA, arithA, shiftA, strA, unA, gSpan, gSkip, unG, ne_eq, Option.some.injEq, reduceCtorEq, decide_true, decide_false, elemsA, resA, resAll, resOne, enterA, decide_eq_true_eq, Bool.not_eq_true, Bool.decide_eq_true, ite_self, ↓reduceIte, noRefL, clrA, gcT, gcA, gcIds, reach, rhoOf, heapOf, idxA, genB, newGen, renB, refsB, List.contains_cons, List.range_succ, cb_prop_Only, b_prop_Only, cr_prop_Only, x_prop_Only_k0, x_prop_Only_l3, intsV, bytesV, propsV, propV, propC, bytesOf_map, h1, growV_nil, growH_nil, List.map_nil]
    | cons a acc => simp -implicitDefEqProofs only [EVS0, EVS1, EVS2, EVS3, EVS4, EVS5, EVS6, EVS7, EVL0, EVL1, ite_tf, ite_ft, ite_tft, ite_ftf, ite_list, ite_tt, ite_ee, ite_nt, ite_ne, eq_self, implies_true, forall_const, exI, nsite, freeAt, execI, Opd.ev, tget, tins, tput, keepL, sitesOf, List.sum_cons, List.sum_nil, Nat.reduceAdd, Nat.reduceSub, Nat.reduceLT, Nat.reduceLeDiff, Nat.reduceEqDiff, Nat.reduceBEq, Nat.reduceMul, beq_self_eq_true, Bool.false_eq_true, ldA, stA, partA, faddrA, setAt, binA, arithA, shiftA, strA, unA, gSpan, gSkip, unG, ne_eq, Option.some.injEq, reduceCtorEq, decide_true, decide_false, elemsA, resA, resAll, resOne, enterA, decide_eq_true_eq, Bool.not_eq_true, Bool.decide_eq_true, ite_self, ↓reduceIte, noRefL, clrA, gcT, gcA, gcIds, reach, rhoOf, heapOf, idxA, genB, newGen, renB, refsB, List.contains_cons, List.range_succ, cb_prop_Only, b_prop_Only, cr_prop_Only, x_prop_Only_k0, x_prop_Only_l3, intsV, bytesV, propsV, propV, propC, bytesOf_map, h1, growV_cons, growH_cons, List.map_cons, out_row0]
  | p :: r, i, acc, h, hn, hf => by
    have h1 : (i : Int) < l.length := by have := (drop_at h).2.2; omega
    have e1 := iad (drop_at h).1 propV (k := 5) rfl
    have e3 := wrap_succ h1 (by omega)
    have hC := fun σ site own => q_copiedC σ site own p (hd p (List.mem_of_getElem? (drop_at h).1))
    have hK := fun σ site own b => q_containsC σ site own ids hi p.id b
    cases hb : ids.contains p.id
    · have e : onlyL ids (p :: r) = onlyL ids r := by unfold onlyL; rw [List.filter_cons, hb]; rfl
      rw [e] at hf
      have ih := q_onlyl ids hi l hl hd full r (i + 1) acc (drop_at h).2.1 (by simp at hn; omega) hf
      clear hf
      rw [hb] at hK
      unfold K_prop_Only_l3 at ih ⊢
      rw [evL_eq]
      cases acc with
      | nil =>
        simp -implicitDefEqProofs only [EVS0, EVS1, EVS2, EVS3, EVS4, EVS5, EVS6, EVS7, EVL0, EVL1, ite_tf, ite_ft, ite_tft, ite_ftf, ite_list, ite_tt, ite_ee, ite_nt, ite_ne, eq_self, implies_true, forall_const, exI, nsite, freeAt, execI, Opd.ev, tget, tins, tput, keepL, sitesOf, List.sum_cons, List.sum_nil, Nat.reduceAdd, Nat.reduceSub, Nat.reduceLT, Nat.reduceLeDiff, Nat.reduceEqDiff, Nat.reduceBEq, Nat.reduceMul, beq_self_eq_true, Bool.false_eq_true, ldA, stA, partA, faddrA, setAt, binA, arithA, shiftA, strA, unA, gSpan, gSkip, unG, ne_eq, Option.some.injEq, reduceCtorEq, decide_true, decide_false, elemsA, resA, resAll, resOne, enterA, decide_eq_true_eq, Bool.not_eq_true, Bool.decide_eq_true, ite_self, ↓reduceIte, noRefL, clrA, gcT, gcA, gcIds, reach, rhoOf, heapOf, idxA, genB, newGen, renB, refsB, List.contains_cons, List.range_succ, cb_prop_Only, b_prop_Only, cr_prop_Only, x_prop_Only_k0, x_prop_Only_l3, intsV, bytesV, propsV, propV, propC, bytesOf_map, h1, e1, e3, hK, growV_nil, growH_nil, List.map_nil]
        exact ih
      | cons a acc =>
        simp -implicitDefEqProofs only [EVS0, EVS1, EVS2, EVS3, EVS4, EVS5, EVS6, EVS7, EVL0, EVL1, ite_tf, ite_ft, ite_tft, ite_ftf, ite_list, ite_tt, ite_ee, ite_nt, ite_ne, eq_self, implies_true, forall_const, exI, nsite, freeAt, execI, Opd.ev, tget, tins, tput, keepL, sitesOf, List.sum_cons, List.sum_nil, Nat.reduceAdd, Nat.reduceSub, Nat.reduceLT, Nat.reduceLeDiff, Nat.reduceEqDiff, Nat.reduceBEq, Nat.reduceMul, beq_self_eq_true, Bool.false_eq_true, ldA, stA, partA, faddrA, setAt, binA, arithA, shiftA, strA, unA, gSpan, gSkip, unG, ne_eq, Option.some.injEq, reduceCtorEq, decide_true, decide_false, elemsA, resA, resAll, resOne, enterA, decide_eq_true_eq, Bool.not_eq_true, Bool.decide_eq_true, ite_self, ↓reduceIte, noRefL, clrA, gcT, gcA, gcIds, reach, rhoOf, heapOf, idxA, genB, newGen, renB, refsB, List.contains_cons, List.range_succ, cb_prop_Only, b_prop_Only, cr_prop_Only, x_prop_Only_k0, x_prop_Only_l3, intsV, bytesV, propsV, propV, propC, bytesOf_map, h1, e1, e3, hK, growV_cons, growH_cons, List.map_cons]
        simp only [List.map_append, List.map_cons, List.map_nil, List.nil_append, List.cons_append, growV_cons, growV_nil, growH_cons, growH_nil, List.length_append, List.length_cons, List.length_map, List.length_nil, propV, propC, bytesV, Nat.zero_add, Nat.add_assoc, Nat.reduceAdd, intsV] at ih
        exact ih
    · have e : acc ++ onlyL ids (p :: r) = (acc ++ [p]) ++ onlyL ids r := by unfold onlyL; rw [List.filter_cons, hb]; simp
      rw [e] at hf
      have ih := q_onlyl ids hi l hl hd full r (i + 1) (acc ++ [p]) (drop_at h).2.1 (by simp at hn ⊢; omega) hf
      clear hf
      rw [hb] at hK
      unfold K_prop_Only_l3 at ih ⊢
      rw [evL_eq]
      cases acc with
      | nil =>
        simp -implicitDefEqProofs only [EVS0, EVS1, EVS2, EVS3, EVS4, EVS5, EVS6, EVS7, EVL0, EVL1, ite_tf, ite_ft, ite_tft, ite_ftf, ite_list, ite_tt, ite_ee, ite_nt, ite_ne, eq_self, implies_true, forall_const, exI, nsite, freeAt, execI, Opd.ev, tget, tins, tput, keepL, sitesOf, List.sum_cons, List.sum_nil, Nat.reduceAdd, Nat.reduceSub, Nat.reduceLT, Nat.reduceLeDiff, Nat.reduceEqDiff, Nat.reduceBEq, Nat.reduceMul, beq_self_eq_true, Bool.false_eq_true, ldA, stA, partA, faddrA, setAt, binA, arithA, shiftA, strA, unA, gSpan, gSkip, unG, ne_eq, Option.some.injEq, reduceCtorEq, decide_true, decide_false, elemsA, resA, resAll, resOne, enterA, decide_eq_true_eq, Bool.not_eq_true, Bool.decide_eq_true, ite_self, ↓reduceIte, noRefL, clrA, gcT, gcA, gcIds, reach, rhoOf, heapOf, idxA, genB, newGen, renB, refsB, List.contains_cons, List.range_succ, cb_prop_Only, b_prop_Only, cr_prop_Only, x_prop_Only_k0, x_prop_Only_l3, intsV, bytesV, propsV, propV, propC, bytesOf_map, h1, e1, e3, hK, hC, growV_nil, growH_nil, List.map_nil, appA, kOk, viewAs, viewA, viewA1, viewsA, freezeA, List.foldl_cons, List.foldl_nil, List.length_singleton, Nat.one_mul, AVal.cells]
        simp only [List.map_append, List.map_cons, List.map_nil, List.nil_append, List.cons_append, growV_cons, growV_nil, growH_cons, growH_nil, List.length_append, List.length_cons, List.length_map, List.length_nil, propV, propC, bytesV, Nat.zero_add, Nat.add_assoc, Nat.reduceAdd, intsV] at ih
        exact ih
      | cons a acc =>
        have hz : (acc.length + 1 + 1) * 72 ≤ 140737488355328 := by simp at hn; omega
        simp -implicitDefEqProofs only [EVS0, EVS1, EVS2, EVS3, EVS4, EVS5, EVS6, EVS7, EVL0, EVL1, ite_tf, ite_ft, ite_tft, ite_ftf, ite_list, ite_tt, ite_ee, ite_nt, ite_ne, eq_self, implies_true, forall_const, exI, nsite, freeAt, execI, Opd.ev, tget, tins, tput, keepL, sitesOf, List.sum_cons, List.sum_nil, Nat.reduceAdd, Nat.reduceSub, Nat.reduceLT, Nat.reduceLeDiff, Nat.reduceEqDiff, Nat.reduceBEq, Nat.reduceMul, beq_self_eq_true, Bool.false_eq_true, ldA, stA, partA, faddrA, setAt, binA, arithA, shiftA, strA, unA, gSpan, gSkip, unG, ne_eq, Option.some.injEq, reduceCtorEq, decide_true, decide_false, elemsA, resA, resAll, resOne, enterA, decide_eq_true_eq, Bool.not_eq_true, Bool.decide_eq_true, ite_self, ↓reduceIte, noRefL, clrA, gcT, gcA, gcIds, reach, rhoOf, heapOf, idxA, genB, newGen, renB, refsB, List.contains_cons, List.range_succ, cb_prop_Only, b_prop_Only, cr_prop_Only, x_prop_Only_k0, x_prop_Only_l3, intsV, bytesV, propsV, propV, propC, bytesOf_map, h1, e1, e3, hK, hC, growV_cons, growH_cons, List.map_cons, appA, kOk, viewAs, viewA, viewA1, viewsA, freezeA, List.foldl_cons, List.foldl_nil, List.length_singleton, Nat.one_mul, AVal.cells, hz]
        simp only [List.map_append, List.map_cons, List.map_nil, List.nil_append, List.cons_append, growV_cons, growV_nil, growH_cons, growH_nil, List.length_append, List.length_cons, List.length_map, List.length_nil, propV, propC, bytesV, Nat.zero_add, Nat.add_assoc, Nat.reduceAdd, intsV] at ih
        exact ih
theorem view_grow {O : Oracle} {byref : Nat → Bool} {f k : Nat} {args args' : List AVal} {full : List AVal} (h : O f args' [] = some (growV full, growH k full)) (hb : byref f = false) (hp : args.all plainV = true) (hn : args.map normV = args') (σ : AHeap) (site own : Nat) : callG O byref σ site f own true args = some (.lst false full, σ, {}) := by
  cases full with
  | nil => exact call_norm h hb hp hn rfl (fun _ => rfl) σ site own
  | cons x xs =>
    rw [growV_cons, growH_cons] at h
    rw [callG_plain hb hp, hn, h]
    have : askO true 0 (some (.sl 0 0 0 (x :: xs).length, [.row 0 k (x :: xs)])) = some (.lst false (x :: xs), []) := by
      unfold askO
      rw [if_pos rfl, resV_row (k := k) (g := 0) (t := 0) (xs := x :: xs) rfl (by omega), List.take_of_length_le (by omega)]
    rw [this, backG_plain _ _ _ _ rfl]
theorem q_only (ids : List Int) (hi : ids.length ≤ 9223372036854775807) (l : List PropD) (hl : l.length * 72 ≤ 140737488355328) (hd : ∀ p ∈ l, p.data.length ≤ 140737488355328) : E 47 [propsV l, intsV ids] [] = some (growV ((onlyL ids l).map propV), growH 5 ((onlyL ids l).map propV)) := by
  have := q_onlyl ids hi l hl hd ((onlyL ids l).map propV) l 0 [] rfl (by simp) (by simp)
  have z0 : ((0 : Nat) : Int) = 0 := rfl
  rw [z0, List.map_nil, growV_nil, growH_nil] at this
  unfold K_prop_Only_l3 at this
  rw [E_eq (by rfl) cf_prop_Only]
  simp -implicitDefEqProofs only [EVS0, EVS1, EVS2, EVS3, EVS4, EVS5, EVS6, EVS7, EVL0, EVL1, ite_tf, ite_ft, ite_tft, ite_ftf, ite_list, ite_tt, ite_ee, ite_nt, ite_ne, eq_self, implies_true, forall_const, exI, nsite, freeAt, execI, Opd.ev, tget, tins, tput, keepL, sitesOf, List.sum_cons, List.sum_nil, Nat.reduceAdd, Nat.reduceSub, Nat.reduceLT, Nat.reduceLeDiff, Nat.reduceEqDiff, Nat.reduceBEq, Nat.reduceMul, beq_self_eq_true, Bool.false_eq_true, ldA, stA, partA, faddrA, setAt, binA, arithA, shiftA, strA, unA, gSpan, gSkip, unG, ne_eq, Option.some.injEq, reduceCtorEq, decide_true, decide_false, elemsA, resA, resAll, resOne, enterA, decide_eq_true_eq, Bool.not_eq_true, Bool.decide_eq_true, ite_self, ↓reduceIte, noRefL, clrA, gcT, gcA, gcIds, reach, rhoOf, heapOf, idxA, genB, newGen, renB, refsB, List.contains_cons, List.range_succ, cb_prop_Only, b_prop_Only, cr_prop_Only, x_prop_Only_k0, x_prop_Only_l3, intsV, bytesV, propsV, propV, propC, bytesOf_map, intsV]
  exact this
theorem q_onlyC (σ : AHeap) (site own : Nat) (b : Bool) (ids : List Int) (hi : ids.length ≤ 9223372036854775807) (l : List PropD) (hl : l.length * 72 ≤ 140737488355328) (hd : ∀ p ∈ l, p.data.length ≤ 140737488355328) (b' : Bool) : callG E BY σ site 47 own true [.lst b' (l.map propV), .lst b (ids.map (AVal.int .i64 ·))] = some (.lst false ((onlyL ids l).map propV), σ, {}) :=
  view_grow (q_only ids hi l hl hd) (by kernel_rfl) rfl rfl σ site own
def keptL (l : List PropD) : List PropD := onlyL [1, 3, 8, 9, 38] l
theorem q_kept (l : List PropD) (hl : l.length * 72 ≤ 140737488355328) (hd : ∀ p ∈ l, p.data.length ≤ 140737488355328) : E 39 [propsV l] [] = some (propsV (keptL l), []) := by
  have hC := fun σ site own b b' => q_onlyC σ site own b [1, 3, 8, 9, 38] (by decide) l hl hd b'
  simp only [List.map_cons, List.map_nil] at hC
  have e : onlyL [1, 3, 8, 9, 38] l = keptL l := rfl
  rw [e] at hC
  rw [E_eq (by rfl) cf_note_kept]
  simp -implicitDefEqProofs only [EVS0, EVS1, EVS2, EVS3, EVS4, EVS5, EVS6, EVS7, EVL0, EVL1, ite_tf, ite_ft, ite_tft, ite_ftf, ite_list, ite_tt, ite_ee, ite_nt, ite_ne, eq_self, implies_true, forall_const, exI, nsite, freeAt, execI, Opd.ev, tget, tins, tput, keepL, sitesOf, List.sum_cons, List.sum_nil, Nat.reduceAdd, Nat.reduceSub, Nat.reduceLT, Nat.reduceLeDiff, Nat.reduceEqDiff, Nat.reduceBEq, Nat.reduceMul, beq_self_eq_true, Bool.false_eq_true, ldA, stA, partA, faddrA, setAt, binA, arithA, shiftA, strA, unA, gSpan, gSkip, unG, ne_eq, Option.some.injEq, reduceCtorEq, decide_true, decide_false, elemsA, resA, resAll, resOne, enterA, decide_eq_true_eq, Bool.not_eq_true, Bool.decide_eq_true, ite_self, ↓reduceIte, noRefL, clrA, gcT, gcA, gcIds, reach, rhoOf, heapOf, idxA, genB, newGen, renB, refsB, List.contains_cons, List.range_succ, cb_note_kept, b_note_kept, cr_note_kept, intsV, bytesV, propsV, propV, propC, bytesOf_map, hC, viewAs, viewA, viewA1, viewsA, freezeA, AVal.cells, List.foldl_cons, List.foldl_nil]
theorem q_keptC (σ : AHeap) (site own : Nat) (b : Bool) (l : List PropD) (hl : l.length * 72 ≤ 140737488355328) (hd : ∀ p ∈ l, p.data.length ≤ 140737488355328) : callG E BY σ site 39 own true [.lst b (l.map propV)] = some (.lst false ((keptL l).map propV), σ, {}) :=
  call_norm (q_kept l hl hd) (by kernel_rfl) rfl rfl rfl (fun _ => rfl) σ site own
theorem q_ramongl (l : List Int) (hl : l.length ≤ 9223372036854775807) (v : Int) : ∀ (r : List Int) (i : Nat), l.drop i = r →
    K_tidingsref11_among_l2 0 [(5, .int .i64 i), (1, .lst false (l.map (AVal.int .i64 ·))), (0, .int .i64 v)] [] = some (.bool (r.contains v), [])
  | [], i, h => by
    have h1 := drop_nil h
    unfold K_tidingsref11_among_l2
    rw [evL_eq]
    simp -implicitDefEqProofs only [EVS0, EVS1, EVS2, EVS3, EVS4, EVS5, EVS6, EVS7, EVL0, EVL1, ite_tf, ite_ft, ite_tft, ite_ftf, ite_list, ite_tt, ite_ee, ite_nt, ite_ne, eq_self, implies_true, forall_const, exI, nsite, freeAt, execI, Opd.ev, tget, tins, tput, keepL, sitesOf, List.sum_cons, List.sum_nil, Nat.reduceAdd, Nat.reduceSub, Nat.reduceLT, Nat.reduceLeDiff, Nat.reduceEqDiff, Nat.reduceBEq, Nat.reduceMul, beq_self_eq_true, Bool.false_eq_true, ldA, stA, partA, faddrA, setAt, binA, arithA, shiftA, strA, unA, gSpan, gSkip, unG, ne_eq, Option.some.injEq, reduceCtorEq, decide_true, decide_false, elemsA, resA, resAll, resOne, enterA, decide_eq_true_eq, Bool.not_eq_true, Bool.decide_eq_true, ite_self, ↓reduceIte, noRefL, clrA, gcT, gcA, gcIds, reach, rhoOf, heapOf, idxA, genB, newGen, renB, refsB, List.contains_cons, List.range_succ, cb_tidingsref11_among, b_tidingsref11_among, cr_tidingsref11_among, x_tidingsref11_among_k0, x_tidingsref11_among_l2, intsV, bytesV, propsV, propV, propC, bytesOf_map, h1]
  | x :: r, i, h => by
    have ih := q_ramongl l hl v r (i + 1) (drop_at h).2.1
    have h1 : (i : Int) < l.length := by have := (drop_at h).2.2; omega
    have e1 := iad (drop_at h).1 (AVal.int .i64 ·) (k := 1) rfl
    have e3 := wrap_succ h1 hl
    unfold K_tidingsref11_among_l2 at ih ⊢
    rw [evL_eq, List.contains_cons]
    cases hb : (v == x)
    · have hb' : (x == v) = false := by simp only [beq_eq_false_iff_ne, ne_eq] at hb ⊢; exact fun e => hb e.symm
      rw [Bool.false_or]
      simp -implicitDefEqProofs only [EVS0, EVS1, EVS2, EVS3, EVS4, EVS5, EVS6, EVS7, EVL0, EVL1, ite_tf, ite_ft, ite_tft, ite_ftf, ite_list, ite_tt, ite_ee, ite_nt, ite_ne, eq_self, implies_true, forall_const, exI, nsite, freeAt, execI, Opd.ev, tget, tins, tput, keepL, sitesOf, List.sum_cons, List.sum_nil, Nat.reduceAdd, Nat.reduceSub, Nat.reduceLT, Nat.reduceLeDiff, Nat.reduceEqDiff, Nat.reduceBEq, Nat.reduceMul, beq_self_eq_true, Bool.false_eq_true, ldA, stA, partA, faddrA, setAt, binA, arithA, shiftA, strA, unA, gSpan, gSkip, unG, ne_eq, Option.some.injEq, reduceCtorEq, decide_true, decide_false, elemsA, resA, resAll, resOne, enterA, decide_eq_true_eq, Bool.not_eq_true, Bool.decide_eq_true, ite_self, ↓reduceIte, noRefL, clrA, gcT, gcA, gcIds, reach, rhoOf, heapOf, idxA, genB, newGen, renB, refsB, List.contains_cons, List.range_succ, cb_tidingsref11_among, b_tidingsref11_among, cr_tidingsref11_among, x_tidingsref11_among_k0, x_tidingsref11_among_l2, intsV, bytesV, propsV, propV, propC, bytesOf_map, h1, e1, e3, hb']
      exact ih
    · have hb' : (x == v) = true := by simp only [beq_iff_eq] at hb ⊢; exact hb.symm
      rw [Bool.true_or]
      simp -implicitDefEqProofs only [EVS0, EVS1, EVS2, EVS3, EVS4, EVS5, EVS6, EVS7, EVL0, EVL1, ite_tf, ite_ft, ite_tft, ite_ftf, ite_list, ite_tt, ite_ee, ite_nt, ite_ne, eq_self, implies_true, forall_const, exI, nsite, freeAt, execI, Opd.ev, tget, tins, tput, keepL, sitesOf, List.sum_cons, List.sum_nil, Nat.reduceAdd, Nat.reduceSub, Nat.reduceLT, Nat.reduceLeDiff, Nat.reduceEqDiff, Nat.reduceBEq, Nat.reduceMul, beq_self_eq_true, Bool.false_eq_true, ldA, stA, partA, faddrA, setAt, binA, arithA, shiftA, strA, unA, gSpan, gSkip, unG, ne_eq, Option.some.injEq, reduceCtorEq, decide_true, decide_false, elemsA, resA, resAll, resOne, enterA, decide_eq_true_eq, Bool.not_eq_true, Bool.decide_eq_true, ite_self, ↓reduceIte, noRefL, clrA, gcT, gcA, gcIds, reach, rhoOf, heapOf, idxA, genB, newGen, renB, refsB, List.contains_cons, List.range_succ, cb_tidingsref11_among, b_tidingsref11_among, cr_tidingsref11_among, x_tidingsref11_among_k0, x_tidingsref11_among_l2, intsV, bytesV, propsV, propV, propC, bytesOf_map, h1, e1, e3, hb']
theorem q_ramong (l : List Int) (hl : l.length ≤ 9223372036854775807) (v : Int) : E 49 [.int .i64 v, intsV l] [] = some (.bool (l.contains v), []) := by
  have h := q_ramongl l hl v l 0 rfl
  have z0 : ((0 : Nat) : Int) = 0 := rfl
  rw [z0] at h
  unfold K_tidingsref11_among_l2 at h
  rw [E_eq (by rfl) cf_tidingsref11_among]
  simp -implicitDefEqProofs only [EVS0, EVS1, EVS2, EVS3, EVS4, EVS5, EVS6, EVS7, EVL0, EVL1, ite_tf, ite_ft, ite_tft, ite_ftf, ite_list, ite_tt, ite_ee, ite_nt, ite_ne, eq_self, implies_true, forall_const, exI, nsite, freeAt, execI, Opd.ev, tget, tins, tput, keepL, sitesOf, List.sum_cons, List.sum_nil, Nat.reduceAdd, Nat.reduceSub, Nat.reduceLT, Nat.reduceLeDiff, Nat.reduceEqDiff, Nat.reduceBEq, Nat.reduceMul, beq_self_eq_true, Bool.false_eq_true, ldA, stA, partA, faddrA, setAt, binA, arithA, shiftA, strA, unA, gSpan, gSkip, unG, ne_eq, Option.some.injEq, reduceCtorEq, decide_true, decide_false, elemsA, resA, resAll, resOne, enterA, decide_eq_true_eq, Bool.not_eq_true, Bool.decide_eq_true, ite_self, ↓reduceIte, noRefL, clrA, gcT, gcA, gcIds, reach, rhoOf, heapOf, idxA, genB, newGen, renB, refsB, List.contains_cons, List.range_succ, cb_tidingsref11_among, b_tidingsref11_among, cr_tidingsref11_among, x_tidingsref11_among_k0, x_tidingsref11_among_l2, intsV, bytesV, propsV, propV, propC, bytesOf_map, intsV]
  exact h
theorem q_ramongC (σ : AHeap) (site own : Nat) (l : List Int) (hl : l.length ≤ 9223372036854775807) (v : Int) (b : Bool) : callG E BY σ site 49 own true [.int .i64 v, .lst b (l.map (AVal.int .i64 ·))] = some (.bool (l.contains v), σ, {}) :=
  call_norm (q_ramong l hl v) (by kernel_rfl) rfl rfl rfl (fun _ => rfl) _ _ _
theorem q_ronlyl (ids : List Int) (hi : ids.length ≤ 9223372036854775807) (l : List PropD) (hl : l.length * 72 ≤ 140737488355328) (full : List AVal) : ∀ (r : List PropD) (i : Nat) (acc : List PropD), l.drop i = r → acc.length + r.length ≤ l.length → full = (acc ++ onlyL ids r).map propV →
    K_tidingsref11_Only_l3 0 [(6, .int .i64 i), (5, growV (acc.map propV)), (1, .lst false (ids.map (AVal.int .i64 ·))), (0, .lst false (l.map propV))] (growH 5 (acc.map propV)) = some (growV full, growH 5 full)
  | [], i, acc, h, _, hf => by
    have h1 := drop_nil h
    have e : acc ++ onlyL ids [] = acc := by simp [onlyL]
    rw [e] at hf
    subst hf
    unfold K_tidingsref11_Only_l3
    rw [evL_eq]
    cases acc with
    | nil => simp -implicitDefEqProofs only [EVS0, EVS1, EVS2, EVS3, EVS4, EVS5, EVS6, EVS7, EVL0, EVL1, ite_tf, ite_ft, ite_tft, ite_ftf, ite_list, ite_tt, ite_ee, ite_nt, ite_ne, eq_self, implies_true, forall_const, exI, nsite, freeAt, execI, Opd.ev, tget, tins, tput, keepL, sitesOf, List.sum_cons, List.sum_nil, Nat.reduceAdd, Nat.reduceSub, Nat.reduceLT, Nat.reduceLeDiff, Nat.reduceEqDiff, Nat.reduceBEq, Nat.reduceMul, beq_self_eq_true, Bool.false_eq_true, ldA, stA, partA, faddrA, setAt, binA, arithA, shiftA, strA, unA, gSpan, gSkip, unG, ne_eq, Option.some.injEq, reduceCtorEq, decide_true, decide_false, elemsA, resA, resAll, resOne, enterA, decide_eq_true_eq, Bool.not_eq_true, Bool.decide_eq_true, ite_self, ↓reduceIte, noRefL, clrA, gcT, gcA, gcIds, reach, rhoOf, heapOf, idxA, genB, newGen, renB, refsB, List.contains_cons, List.range_succ, cb_tidingsref11_Only, b_tidingsref11_Only, cr_tidingsref11_Only, x_tidingsref11_Only_k0, x_tidingsref11_Only_l3, intsV, bytesV, propsV, propV, propC, bytesOf_map, h1, growV_nil, growH_nil, List.map_nil]
    | cons a acc => simp -implicitDefEqProofs only [EVS0, EVS1, EVS2, EVS3, EVS4, EVS5, EVS6, EVS7, EVL0, EVL1, ite_tf, ite_ft, ite_tft, ite_ftf, ite_list, ite_tt, ite_ee, ite_nt, ite_ne, eq_self, implies_true, forall_const, exI, nsite, freeAt, execI, Opd.ev, tget, tins, tput, keepL, sitesOf, List.sum_cons, List.sum_nil, Nat.reduceAdd, Nat.reduceSub, Nat.reduceLT, Nat.reduceLeDiff, Nat.reduceEqDiff, Nat.reduceBEq, Nat.reduceMul, beq_self_eq_true, Bool.false_eq_true, ldA, stA, partA, faddrA, setAt, binA, arithA, shiftA, strA, unA, gSpan, gSkip, unG, ne_eq, Option.some.injEq, reduceCtorEq, decide_true, decide_false, elemsA, resA, resAll, resOne, enterA, decide_eq_true_eq, Bool.not_eq_true, Bool.decide_eq_true, ite_self, ↓reduceIte, noRefL, clrA, gcT, gcA, gcIds, reach, rhoOf, heapOf, idxA, genB, newGen, renB, refsB, List.contains_cons, List.range_succ, cb_tidingsref11_Only, b_tidingsref11_Only, cr_tidingsref11_Only, x_tidingsref11_Only_k0, x_tidingsref11_Only_l3, intsV, bytesV, propsV, propV, propC, bytesOf_map, h1, growV_cons, growH_cons, List.map_cons, out_row0]
  | p :: r, i, acc, h, hn, hf => by
    have h1 : (i : Int) < l.length := by have := (drop_at h).2.2; omega
    have e1 := iad (drop_at h).1 propV (k := 5) rfl
    have e3 := wrap_succ h1 (by omega)
    have hK := fun σ site own b => q_ramongC σ site own ids hi p.id b
    cases hb : ids.contains p.id
    · have e : onlyL ids (p :: r) = onlyL ids r := by unfold onlyL; rw [List.filter_cons, hb]; rfl
      rw [e] at hf
      have ih := q_ronlyl ids hi l hl full r (i + 1) acc (drop_at h).2.1 (by simp at hn; omega) hf
      clear hf
      rw [hb] at hK
      unfold K_tidingsref11_Only_l3 at ih ⊢
      rw [evL_eq]
      cases acc with
      | nil =>
        simp -implicitDefEqProofs only [EVS0, EVS1, EVS2, EVS3, EVS4, EVS5, EVS6, EVS7, EVL0, EVL1, ite_tf, ite_ft, ite_tft, ite_ftf, ite_list, ite_tt, ite_ee, ite_nt, ite_ne, eq_self, implies_true, forall_const, exI, nsite, freeAt, execI, Opd.ev, tget, tins, tput, keepL, sitesOf, List.sum_cons, List.sum_nil, Nat.reduceAdd, Nat.reduceSub, Nat.reduceLT, Nat.reduceLeDiff, Nat.reduceEqDiff, Nat.reduceBEq, Nat.reduceMul, beq_self_eq_true, Bool.false_eq_true, ldA, stA, partA, faddrA, setAt, binA, arithA, shiftA, strA, unA, gSpan, gSkip, unG, ne_eq, Option.some.injEq, reduceCtorEq, decide_true, decide_false, elemsA, resA, resAll, resOne, enterA, decide_eq_true_eq, Bool.not_eq_true, Bool.decide_eq_true, ite_self, ↓reduceIte, noRefL, clrA, gcT, gcA, gcIds, reach, rhoOf, heapOf, idxA, genB, newGen, renB, refsB, List.contains_cons, List.range_succ, cb_tidingsref11_Only, b_tidingsref11_Only, cr_tidingsref11_Only, x_tidingsref11_Only_k0, x_tidingsref11_Only_l3, intsV, bytesV, propsV, propV, propC, bytesOf_map, h1, e1, e3, hK, growV_nil, growH_nil, List.map_nil]
        exact ih
      | cons a acc =>
        simp -implicitDefEqProofs only [EVS0, EVS1, EVS2, EVS3, EVS4, EVS5, EVS6, EVS7, EVL0, EVL1, ite_tf, ite_ft, ite_tft, ite_ftf, ite_list, ite_tt, ite_ee, ite_nt, ite_ne, eq_self, implies_true, forall_const, exI, nsite, freeAt, execI, Opd.ev, tget, tins, tput, keepL, sitesOf, List.sum_cons, List.sum_nil, Nat.reduceAdd, Nat.reduceSub, Nat.reduceLT, Nat.reduceLeDiff, Nat.reduceEqDiff, Nat.reduceBEq, Nat.reduceMul, beq_self_eq_true, Bool.false_eq_true, ldA, stA, partA, faddrA, setAt, binA, arithA, shiftA, strA, unA, gSpan, gSkip, unG, ne_eq, Option.some.injEq, reduceCtorEq, decide_true, decide_false, elemsA, resA, resAll, resOne, enterA, decide_eq_true_eq, Bool.not_eq_true, Bool.decide_eq_true, ite_self, ↓reduceIte, noRefL, clrA, gcT, gcA, gcIds, reach, rhoOf, heapOf, idxA, genB, newGen, renB, refsB, List.contains_cons, List.range_succ, cb_tidingsref11_Only, b_tidingsref11_Only, cr_tidingsref11_Only, x_tidingsref11_Only_k0, x_tidingsref11_Only_l3, intsV, bytesV, propsV, propV, propC, bytesOf_map, h1, e1, e3, hK, growV_cons, growH_cons, List.map_cons]
        simp only [List.map_append, List.map_cons, List.map_nil, List.nil_append, List.cons_append, growV_cons, growV_nil, growH_cons, growH_nil, List.length_append, List.length_cons, List.length_map, List.length_nil, propV, propC, bytesV, Nat.zero_add, Nat.add_assoc, Nat.reduceAdd, intsV] at ih
        exact ih
    · have e : acc ++ onlyL ids (p :: r) = (acc ++ [p]) ++ onlyL ids r := by unfold onlyL; rw [List.filter_cons, hb]; simp
      rw [e] at hf
      have ih := q_ronlyl ids hi l hl full r (i + 1) (acc ++ [p]) (drop_at h).2.1 (by simp at hn ⊢; omega) hf
      clear hf
      rw [hb] at hK
      unfold K_tidingsref11_Only_l3 at ih ⊢
      rw [evL_eq]
      cases acc with
      | nil =>
        simp -implicitDefEqProofs only [EVS0, EVS1, EVS2, EVS3, EVS4, EVS5, EVS6, EVS7, EVL0, EVL1, ite_tf, ite_ft, ite_tft, ite_ftf, ite_list, ite_tt, ite_ee, ite_nt, ite_ne, eq_self, implies_true, forall_const, exI, nsite, freeAt, execI, Opd.ev, tget, tins, tput, keepL, sitesOf, List.sum_cons, List.sum_nil, Nat.reduceAdd, Nat.reduceSub, Nat.reduceLT, Nat.reduceLeDiff, Nat.reduceEqDiff, Nat.reduceBEq, Nat.reduceMul, beq_self_eq_true, Bool.false_eq_true, ldA, stA, partA, faddrA, setAt, binA, arithA, shiftA, strA, unA, gSpan, gSkip, unG, ne_eq, Option.some.injEq, reduceCtorEq, decide_true, decide_false, elemsA, resA, resAll, resOne, enterA, decide_eq_true_eq, Bool.not_eq_true, Bool.decide_eq_true, ite_self, ↓reduceIte, noRefL, clrA, gcT, gcA, gcIds, reach, rhoOf, heapOf, idxA, genB, newGen, renB, refsB, List.contains_cons, List.range_succ, cb_tidingsref11_Only, b_tidingsref11_Only, cr_tidingsref11_Only, x_tidingsref11_Only_k0, x_tidingsref11_Only_l3, intsV, bytesV, propsV, propV, propC, bytesOf_map, h1, e1, e3, hK, growV_nil, growH_nil, List.map_nil, appA, kOk, viewAs, viewA, viewA1, viewsA, freezeA, List.foldl_cons, List.foldl_nil, List.length_singleton, Nat.one_mul, AVal.cells]
        simp only [List.map_append, List.map_cons, List.map_nil, List.nil_append, List.cons_append, growV_cons, growV_nil, growH_cons, growH_nil, List.length_append, List.length_cons, List.length_map, List.length_nil, propV, propC, bytesV, Nat.zero_add, Nat.add_assoc, Nat.reduceAdd, intsV] at ih
        exact ih
      | cons a acc =>
        have hz : (acc.length + 1 + 1) * 72 ≤ 140737488355328 := by simp at hn; omega
        simp -implicitDefEqProofs only [EVS0, EVS1, EVS2, EVS3, EVS4, EVS5, EVS6, EVS7, EVL0, EVL1, ite_tf, ite_ft, ite_tft, ite_ftf, ite_list, ite_tt, ite_ee, ite_nt, ite_ne, eq_self, implies_true, forall_const, exI, nsite, freeAt, execI, Opd.ev, tget, tins, tput, keepL, sitesOf, List.sum_cons, List.sum_nil, Nat.reduceAdd, Nat.reduceSub, Nat.reduceLT, Nat.reduceLeDiff, Nat.reduceEqDiff, Nat.reduceBEq, Nat.reduceMul, beq_self_eq_true, Bool.false_eq_true, ldA, stA, partA, faddrA, setAt, binA, arithA, shiftA, strA, unA, gSpan, gSkip, unG, ne_eq, Option.some.injEq, reduceCtorEq, decide_true, decide_false, elemsA, resA, resAll, resOne, enterA, decide_eq_true_eq, Bool.not_eq_true, Bool.decide_eq_true, ite_self, ↓reduceIte, noRefL, clrA, gcT, gcA, gcIds, reach, rhoOf, heapOf, idxA, genB, newGen, renB, refsB, List.contains_cons, List.range_succ, cb_tidingsref11_Only, b_tidingsref11_Only, cr_tidingsref11_Only, x_tidingsref11_Only_k0, x_tidingsref11_Only_l3, intsV, bytesV, propsV, propV, propC, bytesOf_map, h1, e1, e3, hK, growV_cons, growH_cons, List.map_cons, appA, kOk, viewAs, viewA, viewA1, viewsA, freezeA, List.foldl_cons, List.foldl_nil, List.length_singleton, Nat.one_mul, AVal.cells, hz]
        simp only [List.map_append, List.map_cons, List.map_nil, List.nil_append, List.cons_append, growV_cons, growV_nil, growH_cons, growH_nil, List.length_append, List.length_cons, List.length_map, List.length_nil, propV, propC, bytesV, Nat.zero_add, Nat.add_assoc, Nat.reduceAdd, intsV] at ih
        exact ih
theorem q_ronly (ids : List Int) (hi : ids.length ≤ 9223372036854775807) (l : List PropD) (hl : l.length * 72 ≤ 140737488355328) : E 42 [propsV l, intsV ids] [] = some (growV ((onlyL ids l).map propV), growH 5 ((onlyL ids l).map propV)) := by
  have := q_ronlyl ids hi l hl ((onlyL ids l).map propV) l 0 [] rfl (by simp) (by simp)
  have z0 : ((0 : Nat) : Int) = 0 := rfl
  rw [z0, List.map_nil, growV_nil, growH_nil] at this
  unfold K_tidingsref11_Only_l3 at this
  rw [E_eq (by rfl) cf_tidingsref11_Only]
  simp -implicitDefEqProofs only [EVS0, EVS1, EVS2, EVS3, EVS4, EVS5, EVS6, EVS7, EVL0, EVL1, ite_tf, ite_ft, ite_tft, ite_ftf, ite_list, ite_tt, ite_ee, ite_nt, ite_ne, eq_self, implies_true, forall_const, exI, nsite, freeAt, execI, Opd.ev, tget, tins, tput, keepL, sitesOf, List.sum_cons, List.sum_nil, Nat.reduceAdd, Nat.reduceSub, Nat.reduceLT, Nat.reduceLeDiff, Nat.reduceEqDiff, Nat.reduceBEq, Nat.reduceMul, beq_self_eq_true, Bool.false_eq_true, ldA, stA, partA, faddrA, setAt, binA, arithA, shiftA, strA, unA, gSpan, gSkip, unG, ne_eq, Option.some.injEq, reduceCtorEq, decide_true, decide_false, elemsA, resA, resAll, resOne, enterA, decide_eq_true_eq, Bool.not_eq_true, Bool.decide_eq_true, ite_self, ↓reduceIte, noRefL, clrA, gcT, gcA, gcIds, reach, rhoOf, heapOf, idxA, genB, newGen, renB, refsB, List.contains_cons, List.range_succ, cb_tidingsref11_Only, b_tidingsref11_Only, cr_tidingsref11_Only, x_tidingsref11_Only_k0, x_tidingsref11_Only_l3, intsV, bytesV, propsV, propV, propC, bytesOf_map, intsV]
  exact this
theorem q_ronlyC (σ : AHeap) (site own : Nat) (b : Bool) (ids : List Int) (hi : ids.length ≤ 9223372036854775807) (l : List PropD) (hl : l.length * 72 ≤ 140737488355328) (b' : Bool) : callG E BY σ site 42 own true [.lst b' (l.map propV), .lst b (ids.map (AVal.int .i64 ·))] = some (.lst false ((onlyL ids l).map propV), σ, {}) :=
  view_grow (q_ronly ids hi l hl) (by kernel_rfl) rfl rfl σ site own
theorem q_rkept (l : List PropD) (hl : l.length * 72 ≤ 140737488355328) : E 29 [propsV l] [] = some (propsV (keptL l), []) := by
  have hC := fun σ site own b b' => q_ronlyC σ site own b [1, 3, 8, 9, 38] (by decide) l hl b'
  simp only [List.map_cons, List.map_nil] at hC
  have e : onlyL [1, 3, 8, 9, 38] l = keptL l := rfl
  rw [e] at hC
  rw [E_eq (by rfl) cf_tidingsref19_Kept]
  simp -implicitDefEqProofs only [EVS0, EVS1, EVS2, EVS3, EVS4, EVS5, EVS6, EVS7, EVL0, EVL1, ite_tf, ite_ft, ite_tft, ite_ftf, ite_list, ite_tt, ite_ee, ite_nt, ite_ne, eq_self, implies_true, forall_const, exI, nsite, freeAt, execI, Opd.ev, tget, tins, tput, keepL, sitesOf, List.sum_cons, List.sum_nil, Nat.reduceAdd, Nat.reduceSub, Nat.reduceLT, Nat.reduceLeDiff, Nat.reduceEqDiff, Nat.reduceBEq, Nat.reduceMul, beq_self_eq_true, Bool.false_eq_true, ldA, stA, partA, faddrA, setAt, binA, arithA, shiftA, strA, unA, gSpan, gSkip, unG, ne_eq, Option.some.injEq, reduceCtorEq, decide_true, decide_false, elemsA, resA, resAll, resOne, enterA, decide_eq_true_eq, Bool.not_eq_true, Bool.decide_eq_true, ite_self, ↓reduceIte, noRefL, clrA, gcT, gcA, gcIds, reach, rhoOf, heapOf, idxA, genB, newGen, renB, refsB, List.contains_cons, List.range_succ, cb_tidingsref19_Kept, b_tidingsref19_Kept, cr_tidingsref19_Kept, intsV, bytesV, propsV, propV, propC, bytesOf_map, hC, viewAs, viewA, viewA1, viewsA, freezeA, AVal.cells, List.foldl_cons, List.foldl_nil]
theorem q_rkeptC (σ : AHeap) (site own : Nat) (b : Bool) (l : List PropD) (hl : l.length * 72 ≤ 140737488355328) : callG E BY σ site 29 own true [.lst b (l.map propV)] = some (.lst false ((keptL l).map propV), σ, {}) :=
  call_norm (q_rkept l hl) (by kernel_rfl) rfl rfl rfl (fun _ => rfl) σ site own
end Go.Proofs.YtaaflagbhneakaaDoor
namespace Go.Proofs.YtaaflagbhneakaaDoor
set_option linter.unusedSimpArgs false
set_option linter.unusedVariables false
set_option maxHeartbeats 4000000
set_option maxRecDepth 10000
def noExp (p : PropD) : Bool := !(p.id == 2)
theorem q_clos (p : PropD) : E 22 [propV p] [] = some (.bool (p.id == 2), []) := by
  rw [E_eq (by rfl) cf_conn_Meet_1]
  simp -implicitDefEqProofs only [EVS0, EVS1, EVS2, EVS3, EVS4, EVS5, EVS6, EVS7, EVL0, EVL1, ite_tf, ite_ft, ite_tft, ite_ftf, ite_list, ite_tt, ite_ee, ite_nt, ite_ne, eq_self, implies_true, forall_const, exI, nsite, freeAt, execI, Opd.ev, tget, tins, tput, keepL, sitesOf, List.sum_cons, List.sum_nil, Nat.reduceAdd, Nat.reduceSub, Nat.reduceLT, Nat.reduceLeDiff, Nat.reduceEqDiff, Nat.reduceBEq, Nat.reduceMul, beq_self_eq_true, Bool.false_eq_true, ldA, stA, partA, faddrA, setAt, binA, arithA, shiftA, strA, unA, gSpan, gSkip, unG, ne_eq, Option.some.injEq, reduceCtorEq, decide_true, decide_false, elemsA, resA, resAll, resOne, enterA, decide_eq_true_eq, Bool.not_eq_true, Bool.decide_eq_true, ite_self, ↓reduceIte, noRefL, clrA, gcT, gcA, gcIds, reach, rhoOf, heapOf, idxA, genB, newGen, renB, refsB, List.contains_cons, List.range_succ, cb_conn_Meet_1, b_conn_Meet_1, cr_conn_Meet_1, intsV, bytesV, propsV, propV, propC, bytesOf_map, intsV]
theorem q_closC (σ : AHeap) (site own : Nat) (view : Bool) (p : PropD) : callG E BY σ site 22 own view [.agg [.int .i64 p.id, .int .i64 p.num, .str p.text, .str p.pair, .lst false (p.data.map byteV)]] = some (.bool (p.id == 2), σ, {}) :=
  call_flat (q_clos p) (by kernel_rfl) (by simp -implicitDefEqProofs only [EVS0, EVS1, EVS2, EVS3, EVS4, EVS5, EVS6, EVS7, EVL0, EVL1, eq_self, implies_true, Bool.false_eq_true, intsV, bytesV, propsV, propV, propC, intsV]) (by simp -implicitDefEqProofs only [EVS0, EVS1, EVS2, EVS3, EVS4, EVS5, EVS6, EVS7, EVL0, EVL1, eq_self, implies_true, Bool.false_eq_true, intsV, bytesV, propsV, propV, propC, intsV]) rfl (fun _ => rfl) _ _ _ _
theorem q_idxPl (l : List PropD) (hl : l.length ≤ 9223372036854775807) : ∀ (r : List PropD) (i : Nat), l.drop i = r →
    ∃ z, K_slices_IndexFunc_api_Prop_api_Prop_l2 0 [(8, .int .i64 i), (7, .int .i64 l.length), (1, .fn 22 []), (0, .lst false (l.map propV))] [] = some (.int .i64 z, []) ∧ ((z = -1 ∧ r.filter noExp = r) ∨ ∃ a p b, r = a ++ p :: b ∧ z = (i + a.length : Nat) ∧ a.filter noExp = a ∧ noExp p = false)
  | [], i, h => by
    have h1 := drop_nil h
    refine ⟨-1, ?_, Or.inl ⟨rfl, rfl⟩⟩
    unfold K_slices_IndexFunc_api_Prop_api_Prop_l2
    rw [evL_eq]
    simp -implicitDefEqProofs only [EVS0, EVS1, EVS2, EVS3, EVS4, EVS5, EVS6, EVS7, EVL0, EVL1, ite_tf, ite_ft, ite_tft, ite_ftf, ite_list, ite_tt, ite_ee, ite_nt, ite_ne, eq_self, implies_true, forall_const, exI, nsite, freeAt, execI, Opd.ev, tget, tins, tput, keepL, sitesOf, List.sum_cons, List.sum_nil, Nat.reduceAdd, Nat.reduceSub, Nat.reduceLT, Nat.reduceLeDiff, Nat.reduceEqDiff, Nat.reduceBEq, Nat.reduceMul, beq_self_eq_true, Bool.false_eq_true, ldA, stA, partA, faddrA, setAt, binA, arithA, shiftA, strA, unA, gSpan, gSkip, unG, ne_eq, Option.some.injEq, reduceCtorEq, decide_true, decide_false, elemsA, resA, resAll, resOne, enterA, decide_eq_true_eq, Bool.not_eq_true, Bool.decide_eq_true, ite_self, ↓reduceIte, noRefL, clrA, gcT, gcA, gcIds, reach, rhoOf, heapOf, idxA, genB, newGen, renB, refsB, List.contains_cons, List.range_succ, cb_slices_IndexFunc_api_Prop_api_Prop, b_slices_IndexFunc_api_Prop_api_Prop, cr_slices_IndexFunc_api_Prop_api_Prop, x_slices_IndexFunc_api_Prop_api_Prop_k0, x_slices_IndexFunc_api_Prop_api_Prop_l2, intsV, bytesV, propsV, propV, propC, bytesOf_map, h1]
  | p :: r, i, h => by
    obtain ⟨z, ih, hz⟩ := q_idxPl l hl r (i + 1) (drop_at h).2.1
    have h1 : (i : Int) < l.length := by have := (drop_at h).2.2; omega
    have e1 := iad (drop_at h).1 propV (k := 5) rfl
    have e3 := wrap_succ h1 hl
    have hC := fun σ site own view => q_closC σ site own view p
    cases hb : (p.id == 2)
    · refine ⟨z, ?_, ?_⟩
      · rw [hb] at hC
        unfold K_slices_IndexFunc_api_Prop_api_Prop_l2 at ih ⊢
        rw [evL_eq]
        simp -implicitDefEqProofs only [EVS0, EVS1, EVS2, EVS3, EVS4, EVS5, EVS6, EVS7, EVL0, EVL1, ite_tf, ite_ft, ite_tft, ite_ftf, ite_list, ite_tt, ite_ee, ite_nt, ite_ne, eq_self, implies_true, forall_const, exI, nsite, freeAt, execI, Opd.ev, tget, tins, tput, keepL, sitesOf, List.sum_cons, List.sum_nil, Nat.reduceAdd, Nat.reduceSub, Nat.reduceLT, Nat.reduceLeDiff, Nat.reduceEqDiff, Nat.reduceBEq, Nat.reduceMul, beq_self_eq_true, Bool.false_eq_true, ldA, stA, partA, faddrA, setAt, binA, arithA, shiftA, strA, unA, gSpan, gSkip, unG, ne_eq, Option.some.injEq, reduceCtorEq, decide_true, decide_false, elemsA, resA, resAll, resOne, enterA, decide_eq_true_eq, Bool.not_eq_true, Bool.decide_eq_true, ite_self, ↓reduceIte, noRefL, clrA, gcT, gcA, gcIds, reach, rhoOf, heapOf, idxA, genB, newGen, renB, refsB, List.contains_cons, List.range_succ, cb_slices_IndexFunc_api_Prop_api_Prop, b_slices_IndexFunc_api_Prop_api_Prop, cr_slices_IndexFunc_api_Prop_api_Prop, x_slices_IndexFunc_api_Prop_api_Prop_k0, x_slices_IndexFunc_api_Prop_api_Prop_l2, intsV, bytesV, propsV, propV, propC, bytesOf_map, h1, e1, e3, hC]
        exact ih
      · have hp : noExp p = true := by unfold noExp; rw [hb]; rfl
        rcases hz with ⟨hz, hf⟩ | ⟨a, q, b, hr, hz, ha, hq⟩
        · exact Or.inl ⟨hz, by rw [List.filter_cons, hp, if_pos rfl, hf]⟩
        · exact Or.inr ⟨p :: a, q, b, by rw [hr]; rfl, by rw [hz]; simp; omega, by rw [List.filter_cons, hp, if_pos rfl, ha], hq⟩
    · refine ⟨i, ?_, Or.inr ⟨[], p, r, rfl, by simp, rfl, by unfold noExp; rw [hb]; rfl⟩⟩
      rw [hb] at hC
      unfold K_slices_IndexFunc_api_Prop_api_Prop_l2 at ih ⊢
      rw [evL_eq]
      simp -implicitDefEqProofs only [EVS0, EVS1, EVS2, EVS3, EVS4, EVS5, EVS6, EVS7, EVL0, EVL1, ite_tf, ite_ft, ite_tft, ite_ftf, ite_list, ite_tt, ite_ee, ite_nt, ite_ne, eq_self, implies_true, forall_const, exI, nsite, freeAt, execI, Opd.ev, tget, tins, tput, keepL, sitesOf, List.sum_cons, List.sum_nil, Nat.reduceAdd, Nat.reduceSub, Nat.reduceLT, Nat.reduceLeDiff, Nat.reduceEqDiff, Nat.reduceBEq, Nat.reduceMul, beq_self_eq_true, Bool.false_eq_true, ldA, stA, partA, faddrA, setAt, binA, arithA, shiftA, strA, unA, gSpan, gSkip, unG, ne_eq, Option.some.injEq, reduceCtorEq, decide_true, decide_false, elemsA, resA, resAll, resOne, enterA, decide_eq_true_eq, Bool.not_eq_true, Bool.decide_eq_true, ite_self, ↓reduceIte, noRefL, clrA, gcT, gcA, gcIds, reach, rhoOf, heapOf, idxA, genB, newGen, renB, refsB, List.contains_cons, List.range_succ, cb_slices_IndexFunc_api_Prop_api_Prop, b_slices_IndexFunc_api_Prop_api_Prop, cr_slices_IndexFunc_api_Prop_api_Prop, x_slices_IndexFunc_api_Prop_api_Prop_k0, x_slices_IndexFunc_api_Prop_api_Prop_l2, intsV, bytesV, propsV, propV, propC, bytesOf_map, h1, e1, e3, hC]
theorem q_idxP (l : List PropD) (hl : l.length ≤ 9223372036854775807) : ∃ z, E 37 [propsV l, .fn 22 []] [] = some (.int .i64 z, []) ∧ ((z = -1 ∧ l.filter noExp = l) ∨ ∃ a p b, l = a ++ p :: b ∧ z = (a.length : Nat) ∧ a.filter noExp = a ∧ noExp p = false) := by
  obtain ⟨z, h, hz⟩ := q_idxPl l hl l 0 rfl
  refine ⟨z, ?_, by simpa using hz⟩
  have z0 : ((0 : Nat) : Int) = 0 := rfl
  rw [z0] at h
  unfold K_slices_IndexFunc_api_Prop_api_Prop_l2 at h
  rw [E_eq (by rfl) cf_slices_IndexFunc_api_Prop_api_Prop]
  simp -implicitDefEqProofs only [EVS0, EVS1, EVS2, EVS3, EVS4, EVS5, EVS6, EVS7, EVL0, EVL1, ite_tf, ite_ft, ite_tft, ite_ftf, ite_list, ite_tt, ite_ee, ite_nt, ite_ne, eq_self, implies_true, forall_const, exI, nsite, freeAt, execI, Opd.ev, tget, tins, tput, keepL, sitesOf, List.sum_cons, List.sum_nil, Nat.reduceAdd, Nat.reduceSub, Nat.reduceLT, Nat.reduceLeDiff, Nat.reduceEqDiff, Nat.reduceBEq, Nat.reduceMul, beq_self_eq_true, Bool.false_eq_true, ldA, stA, partA, faddrA, setAt, binA, arithA, shiftA, strA, unA, gSpan, gSkip, unG, ne_eq, Option.some.injEq, reduceCtorEq, decide_true, decide_false, elemsA, resA, resAll, resOne, enterA, decide_eq_true_eq, Bool.not_eq_true, Bool.decide_eq_true, ite_self, ↓reduceIte, noRefL, clrA, gcT, gcA, gcIds, reach, rhoOf, heapOf, idxA, genB, newGen, renB, refsB, List.contains_cons, List.range_succ, cb_slices_IndexFunc_api_Prop_api_Prop, b_slices_IndexFunc_api_Prop_api_Prop, cr_slices_IndexFunc_api_Prop_api_Prop, x_slices_IndexFunc_api_Prop_api_Prop_k0, x_slices_IndexFunc_api_Prop_api_Prop_l2, intsV, bytesV, propsV, propV, propC, bytesOf_map, intsV]
  exact h
def zProp : AVal := .agg [.int .i64 0, .int .i64 0, .str [], .str [], .lst true []]
def delRow (n : Nat) (k : List AVal) : List AVal := k ++ List.replicate (n - k.length) zProp
theorem set_mid {α : Type} (a : List α) (y z : α) (b : List α) : (a ++ y :: b).set a.length z = a ++ z :: b := by
  rw [List.set_append_right _ _ (Nat.le_refl _)]; simp
theorem out_rown (k n : Nat) (xs : List AVal) (σ : AHeap) : outA 1 (.row 0 k xs :: σ) (.sl 0 0 0 n) = some (.sl 0 0 0 n, [.row 0 k xs]) := by
  simp [outA, gcA, gcIds, reach, refsL, refsV, rhoOf, heapOf, idxA, genB, newGen, renL, renV, renB, refsB]
theorem q_dell (N : Nat) (hN : N ≤ 9223372036854775807) (full : List AVal) : ∀ (r : List PropD) (kept : List PropD) (y : PropD) (junk : List PropD), N = kept.length + (junk.length + 1) + r.length → full = (kept ++ r.filter noExp).map propV →
    K_slices_DeleteFunc_api_Prop_api_Prop_l5 1 [(6, .int .i64 (kept.length + (junk.length + 1) : Nat)), (5, .int .i64 (kept.length : Nat)), (1, .fn 22 []), (0, .sl 0 0 0 N)] [.row 0 5 (kept.map propV ++ propV y :: (junk.map propV ++ r.map propV))] = some (.sl 0 0 0 full.length, [.row 0 5 (delRow N full)])
  | [], kept, y, junk, hn, hf => by
    simp only [List.filter_nil, List.append_nil] at hf
    simp only [List.length_nil, Nat.add_zero] at hn
    subst hf
    have h1 : ¬ ((kept.length + (junk.length + 1) : Nat) : Int) < (N : Int) := by omega
    have i0 : (0 : Int) ≤ (kept.length : Int) := by omega
    have i1 : (kept.length : Int) ≤ (N : Int) := by omega
    have hlen : (kept.map propV ++ propV y :: junk.map propV).length = N := by simp; omega
    have hlen' : (kept.map propV ++ propV y :: (junk.map propV ++ List.map propV [])).length = N := by simp; omega
    have hX : (kept.map propV ++ propV y :: (junk.map propV ++ List.map propV [])).take kept.length = kept.map propV := by
      rw [List.take_append_of_le_length (by simp)]; simp [List.take_of_length_le]
    have hD : (kept.map propV ++ propV y :: (junk.map propV ++ List.map propV [])).drop N = [] := List.drop_eq_nil_of_le (by omega)
    have hc : kept.length + (N - kept.length) = N := by omega
    have hR : (delRow N (kept.map propV)) = kept.map propV ++ List.replicate (N - kept.length) zProp := by simp [delRow]
    have hM : (kept.map propV).length = kept.length := by simp
    have le0 : N ≤ N := Nat.le_refl _
    rw [hR, hM]
    unfold zProp
    generalize hG : kept.map propV ++ propV y :: (junk.map propV ++ List.map propV []) = X at *
    generalize (kept.length + (junk.length + 1)) = j at *
    have hlR : (kept.map propV ++ List.replicate (N - kept.length) (AVal.agg [.int .i64 0, .int .i64 0, .str [], .str [], .lst true []])).length = N := by simp; omega
    generalize hQ : kept.map propV ++ List.replicate (N - kept.length) (AVal.agg [.int .i64 0, .int .i64 0, .str [], .str [], .lst true []]) = Q at *
    have hlR' : N ≤ Q.length := by omega
    have i2 : (kept.length : Int) ≤ (Q.length : Int) := by omega
    unfold K_slices_DeleteFunc_api_Prop_api_Prop_l5
    rw [evL_eq]
    simp -implicitDefEqProofs only [EVS0, EVS1, EVS2, EVS3, EVS4, EVS5, EVS6, EVS7, EVL0, EVL1, ite_tf, ite_ft, ite_tft, ite_ftf, ite_list, ite_tt, ite_ee, ite_nt, ite_ne, eq_self, implies_true, forall_const, exI, nsite, freeAt, execI, Opd.ev, tget, tins, tput, keepL, sitesOf, List.sum_cons, List.sum_nil, Nat.reduceAdd, Nat.reduceSub, Nat.reduceLT, Nat.reduceLeDiff, Nat.reduceEqDiff, Nat.reduceBEq, Nat.reduceMul, beq_self_eq_true, Bool.false_eq_true, ldA, stA, partA, faddrA, setAt, binA, arithA, shiftA, strA, unA, gSpan, gSkip, unG, ne_eq, Option.some.injEq, reduceCtorEq, decide_true, decide_false, elemsA, resA, resAll, resOne, enterA, decide_eq_true_eq, Bool.not_eq_true, Bool.decide_eq_true, ite_self, ↓reduceIte, noRefL, clrA, gcT, gcA, gcIds, reach, rhoOf, heapOf, idxA, genB, newGen, renB, refsB, List.contains_cons, List.range_succ, cb_slices_DeleteFunc_api_Prop_api_Prop, b_slices_DeleteFunc_api_Prop_api_Prop, cr_slices_DeleteFunc_api_Prop_api_Prop, x_slices_DeleteFunc_api_Prop_api_Prop_k0, x_slices_DeleteFunc_api_Prop_api_Prop_l5, intsV, bytesV, propsV, propV, propC, bytesOf_map, h1, i0, i1, hlen', hX, hD, hc, le0, sliceA, clrA, optB, boundA, Int.toNat_natCast, AVal.cells, Nat.sub_zero, List.append_nil, hQ, hlR', i2, out_rown]
  | p :: r, kept, y, junk, hn, hf => by
    have h1 : ((kept.length + (junk.length + 1) : Nat) : Int) < (N : Int) := by simp at hn; omega
    have hC := fun σ site own view => q_closC σ site own view p
    have hj : kept.length + (junk.length + 1) < N := by omega
    have i0 : (0 : Int) ≤ ((kept.length + (junk.length + 1) : Nat) : Int) := by omega
    have hg : (kept.map propV ++ propV y :: (junk.map propV ++ (p :: r).map propV))[kept.length + (junk.length + 1)]? = some (propV p) := by
      rw [List.getElem?_append_right (by simp)]
      simp only [List.length_map, Nat.add_sub_cancel_left, List.getElem?_cons_succ]
      rw [List.getElem?_append_right (by simp)]; simp
    have hw : IntKind.i64.wrap (((kept.length + (junk.length + 1) : Nat) : Int) + 1) = ((kept.length + (junk.length + 1) + 1 : Nat) : Int) := wrap_succ h1 hN
    cases hb : (p.id == 2)
    · have hp : noExp p = true := by unfold noExp; rw [hb]; rfl
      rw [hb] at hC
      rw [List.filter_cons, hp, if_pos rfl, show kept ++ p :: r.filter noExp = (kept ++ [p]) ++ r.filter noExp by simp] at hf
      have k0 : (0 : Int) ≤ (kept.length : Int) := by omega
      have k1 : kept.length < N := by omega
      have hs : (kept.map propV ++ propV y :: (junk.map propV ++ (p :: r).map propV)).set kept.length (propV p) = kept.map propV ++ propV p :: (junk.map propV ++ (p :: r).map propV) := by
        have := set_mid (kept.map propV) (propV y) (propV p) (junk.map propV ++ (p :: r).map propV)
        simp only [List.length_map] at this; exact this
      have hgy : (kept.map propV ++ propV y :: (junk.map propV ++ (p :: r).map propV))[kept.length]? = some (propV y) := by
        rw [List.getElem?_append_right (by simp)]; simp
      have hk1 : (kept.length : Int) < (N : Int) := by omega
      have hwk : IntKind.i64.wrap ((kept.length : Int) + 1) = ((kept.length + 1 : Nat) : Int) := wrap_succ hk1 hN
      have ih : ∃ y' junk', (junk = [] ∧ y' = p ∧ junk' = [] ∨ ∃ z j, junk = z :: j ∧ y' = z ∧ junk' = j ++ [p]) ∧ K_slices_DeleteFunc_api_Prop_api_Prop_l5 1 [(6, .int .i64 ((kept ++ [p]).length + (junk'.length + 1) : Nat)), (5, .int .i64 ((kept ++ [p]).length : Nat)), (1, .fn 22 []), (0, .sl 0 0 0 N)] [.row 0 5 ((kept ++ [p]).map propV ++ propV y' :: (junk'.map propV ++ r.map propV))] = some (.sl 0 0 0 full.length, [.row 0 5 (delRow N full)]) := by
        cases junk with
        | nil => exact ⟨p, [], Or.inl ⟨rfl, rfl, rfl⟩, q_dell N hN full r (kept ++ [p]) p [] (by simp at hn ⊢; omega) hf⟩
        | cons z j => exact ⟨z, j ++ [p], Or.inr ⟨z, j, rfl, rfl, rfl⟩, q_dell N hN full r (kept ++ [p]) z (j ++ [p]) (by simp at hn ⊢; omega) hf⟩
      obtain ⟨y', junk', hj', ih⟩ := ih
      have e1 : (kept ++ [p]).length + (junk'.length + 1) = kept.length + (junk.length + 1) + 1 := by
        rcases hj' with ⟨rfl, rfl, rfl⟩ | ⟨z, j, rfl, rfl, rfl⟩ <;> simp <;> omega
      have e2 : (kept ++ [p]).map propV ++ propV y' :: (junk'.map propV ++ r.map propV) = kept.map propV ++ propV p :: (junk.map propV ++ (p :: r).map propV) := by
        rcases hj' with ⟨rfl, rfl, rfl⟩ | ⟨z, j, rfl, rfl, rfl⟩ <;> simp
      have e3 : (kept ++ [p]).length = kept.length + 1 := by simp
      rw [e1, e2, e3] at ih
      clear hj' e1 e2 e3 hn hf
      generalize hG : kept.map propV ++ propV y :: (junk.map propV ++ (p :: r).map propV) = X at *
      generalize hG' : kept.map propV ++ propV p :: (junk.map propV ++ (p :: r).map propV) = X' at *
      have hs' : X.set kept.length (AVal.agg [.int .i64 p.id, .int .i64 p.num, .str p.text, .str p.pair, .lst false (p.data.map byteV)]) = X' := hs
      generalize (kept.length + (junk.length + 1)) = j at *
      unfold K_slices_DeleteFunc_api_Prop_api_Prop_l5 at ih ⊢
      rw [evL_eq]
      simp -implicitDefEqProofs only [EVS0, EVS1, EVS2, EVS3, EVS4, EVS5, EVS6, EVS7, EVL0, EVL1, ite_tf, ite_ft, ite_tft, ite_ftf, ite_list, ite_tt, ite_ee, ite_nt, ite_ne, eq_self, implies_true, forall_const, exI, nsite, freeAt, execI, Opd.ev, tget, tins, tput, keepL, sitesOf, List.sum_cons, List.sum_nil, Nat.reduceAdd, Nat.reduceSub, Nat.reduceLT, Nat.reduceLeDiff, Nat.reduceEqDiff, Nat.reduceBEq, Nat.reduceMul, beq_self_eq_true, Bool.false_eq_true, ldA, stA, partA, faddrA, setAt, binA, arithA, shiftA, strA, unA, gSpan, gSkip, unG, ne_eq, Option.some.injEq, reduceCtorEq, decide_true, decide_false, elemsA, resA, resAll, resOne, enterA, decide_eq_true_eq, Bool.not_eq_true, Bool.decide_eq_true, ite_self, ↓reduceIte, noRefL, clrA, gcT, gcA, gcIds, reach, rhoOf, heapOf, idxA, genB, newGen, renB, refsB, List.contains_cons, List.range_succ, cb_slices_DeleteFunc_api_Prop_api_Prop, b_slices_DeleteFunc_api_Prop_api_Prop, cr_slices_DeleteFunc_api_Prop_api_Prop, x_slices_DeleteFunc_api_Prop_api_Prop_k0, x_slices_DeleteFunc_api_Prop_api_Prop_l5, intsV, bytesV, propsV, propV, propC, bytesOf_map, h1, i0, hj, hg, hw, hC, k0, k1, hgy, hs', hwk, iaddrA, Int.toNat_natCast, AVal.cells, viewsA, viewA1, putE, freezeA]
      exact ih
    · have hp : noExp p = false := by unfold noExp; rw [hb]; rfl
      rw [hb] at hC
      rw [List.filter_cons, hp, if_neg (by simp)] at hf
      have ih := q_dell N hN full r kept y (junk ++ [p]) (by simp at hn ⊢; omega) hf
      have e1 : kept.length + ((junk ++ [p]).length + 1) = kept.length + (junk.length + 1) + 1 := by simp; omega
      have e2 : kept.map propV ++ propV y :: ((junk ++ [p]).map propV ++ r.map propV) = kept.map propV ++ propV y :: (junk.map propV ++ (p :: r).map propV) := by simp
      rw [e1, e2] at ih
      generalize hG : kept.map propV ++ propV y :: (junk.map propV ++ (p :: r).map propV) = X at *
      generalize (kept.length + (junk.length + 1)) = j at *
      unfold K_slices_DeleteFunc_api_Prop_api_Prop_l5 at ih ⊢
      rw [evL_eq]
      simp -implicitDefEqProofs only [EVS0, EVS1, EVS2, EVS3, EVS4, EVS5, EVS6, EVS7, EVL0, EVL1, ite_tf, ite_ft, ite_tft, ite_ftf, ite_list, ite_tt, ite_ee, ite_nt, ite_ne, eq_self, implies_true, forall_const, exI, nsite, freeAt, execI, Opd.ev, tget, tins, tput, keepL, sitesOf, List.sum_cons, List.sum_nil, Nat.reduceAdd, Nat.reduceSub, Nat.reduceLT, Nat.reduceLeDiff, Nat.reduceEqDiff, Nat.reduceBEq, Nat.reduceMul, beq_self_eq_true, Bool.false_eq_true, ldA, stA, partA, faddrA, setAt, binA, arithA, shiftA, strA, unA, gSpan, gSkip, unG, ne_eq, Option.some.injEq, reduceCtorEq, decide_true, decide_false, elemsA, resA, resAll, resOne, enterA, decide_eq_true_eq, Bool.not_eq_true, Bool.decide_eq_true, ite_self, ↓reduceIte, noRefL, clrA, gcT, gcA, gcIds, reach, rhoOf, heapOf, idxA, genB, newGen, renB, refsB, List.contains_cons, List.range_succ, cb_slices_DeleteFunc_api_Prop_api_Prop, b_slices_DeleteFunc_api_Prop_api_Prop, cr_slices_DeleteFunc_api_Prop_api_Prop, x_slices_DeleteFunc_api_Prop_api_Prop_k0, x_slices_DeleteFunc_api_Prop_api_Prop_l5, intsV, bytesV, propsV, propV, propC, bytesOf_map, h1, i0, hj, hg, hw, hC, iaddrA, Int.toNat_natCast, AVal.cells]
      exact ih
theorem q_idxPC (l : List PropD) (hl : l.length ≤ 9223372036854775807) : ∃ z, (∀ (σ : AHeap) (site own : Nat), σ[0]? = some (.row 0 5 (l.map propV)) → callG E BY σ site 37 own true [.sl 0 0 0 l.length, .fn 22 []] = some (.int .i64 z, σ, { rd := [0] })) ∧ ((z = -1 ∧ l.filter noExp = l) ∨ ∃ a p b, l = a ++ p :: b ∧ z = (a.length : Nat) ∧ a.filter noExp = a ∧ noExp p = false) := by
  obtain ⟨z, h, hz⟩ := q_idxP l hl
  refine ⟨z, fun σ site own hs => ?_, hz⟩
  refine call_shown_flat (vs := [propsV l, .fn 22 []]) (by kernel_rfl) ?_ rfl rfl h rfl rfl site own
  have : 0 + l.length ≤ (l.map propV).length := by simp
  simp only [showAs, showA, showA1, elemsA, hs, this, and_self, if_true, List.drop_zero, propsV]
  simp [List.take_of_length_le]
theorem q_del (l : List PropD) (hl : l.length ≤ 9223372036854775807) : E 20 [.sl 0 0 0 l.length, .fn 22 []] [.row 0 5 (l.map propV)] = some (.sl 0 0 0 (l.filter noExp).length, [.row 0 5 (delRow l.length ((l.filter noExp).map propV))]) := by
  obtain ⟨z, hI, hz⟩ := q_idxPC l hl
  rw [E_eq (by rfl) cf_slices_DeleteFunc_api_Prop_api_Prop]
  rcases hz with ⟨rfl, hf⟩ | ⟨a, p, b, rfl, rfl, ha, hp⟩
  · rw [hf]
    have e : delRow l.length (l.map propV) = l.map propV := by simp [delRow]
    rw [e]
    simp -implicitDefEqProofs only [EVS0, EVS1, EVS2, EVS3, EVS4, EVS5, EVS6, EVS7, EVL0, EVL1, ite_tf, ite_ft, ite_tft, ite_ftf, ite_list, ite_tt, ite_ee, ite_nt, ite_ne, eq_self, implies_true, forall_const, exI, nsite, freeAt, execI, Opd.ev, tget, tins, tput, keepL, sitesOf, List.sum_cons, List.sum_nil, Nat.reduceAdd, Nat.reduceSub, Nat.reduceLT, Nat.reduceLeDiff, Nat.reduceEqDiff, Nat.reduceBEq, Nat.reduceMul, beq_self_eq_true, Bool.false_eq_true, ldA, stA, partA, faddrA, setAt, binA, arithA, shiftA, strA, unA, gSpan, gSkip, unG, ne_eq, Option.some.injEq, reduceCtorEq, decide_true, decide_false, elemsA, resA, resAll, resOne, enterA, decide_eq_true_eq, Bool.not_eq_true, Bool.decide_eq_true, ite_self, ↓reduceIte, noRefL, clrA, gcT, gcA, gcIds, reach, rhoOf, heapOf, idxA, genB, newGen, renB, refsB, List.contains_cons, List.range_succ, cb_slices_DeleteFunc_api_Prop_api_Prop, b_slices_DeleteFunc_api_Prop_api_Prop, cr_slices_DeleteFunc_api_Prop_api_Prop, x_slices_DeleteFunc_api_Prop_api_Prop_k0, x_slices_DeleteFunc_api_Prop_api_Prop_l5, intsV, bytesV, propsV, propV, propC, bytesOf_map, hI, out_rown]
  · have key := q_dell (a ++ p :: b).length hl (((a ++ p :: b).filter noExp).map propV) b a p [] (by simp; omega) (by rw [List.filter_append, List.filter_cons, hp, ha]; rfl)
    have w1 : IntKind.i64.wrap ((a.length : Int) + 1) = ((a.length + ([] : List PropD).length + 1 : Nat) : Int) := wrap_succ (n := (a ++ p :: b).length) (by simp; omega) hl
    have n1 : ((a.length : Int) == -1) = false := by simp <;> omega
    have e1 : a.map propV ++ propV p :: (List.map propV [] ++ b.map propV) = (a ++ p :: b).map propV := by simp
    rw [e1] at key
    simp only [List.length_nil, Nat.add_zero, Nat.zero_add] at key w1
    rw [show (((a ++ p :: b).filter noExp).map propV).length = ((a ++ p :: b).filter noExp).length by simp] at key
    generalize a ++ p :: b = l at *
    generalize (l.filter noExp) = F at *
    unfold K_slices_DeleteFunc_api_Prop_api_Prop_l5 at key
    simp -implicitDefEqProofs only [EVS0, EVS1, EVS2, EVS3, EVS4, EVS5, EVS6, EVS7, EVL0, EVL1, ite_tf, ite_ft, ite_tft, ite_ftf, ite_list, ite_tt, ite_ee, ite_nt, ite_ne, eq_self, implies_true, forall_const, exI, nsite, freeAt, execI, Opd.ev, tget, tins, tput, keepL, sitesOf, List.sum_cons, List.sum_nil, Nat.reduceAdd, Nat.reduceSub, Nat.reduceLT, Nat.reduceLeDiff, Nat.reduceEqDiff, Nat.reduceBEq, Nat.reduceMul, beq_self_eq_true, Bool.false_eq_true, ldA, stA, partA, faddrA, setAt, binA, arithA, shiftA, strA, unA, gSpan, gSkip, unG, ne_eq, Option.some.injEq, reduceCtorEq, decide_true, decide_false, elemsA, resA, resAll, resOne, enterA, decide_eq_true_eq, Bool.not_eq_true, Bool.decide_eq_true, ite_self, ↓reduceIte, noRefL, clrA, gcT, gcA, gcIds, reach, rhoOf, heapOf, idxA, genB, newGen, renB, refsB, List.contains_cons, List.range_succ, cb_slices_DeleteFunc_api_Prop_api_Prop, b_slices_DeleteFunc_api_Prop_api_Prop, cr_slices_DeleteFunc_api_Prop_api_Prop, x_slices_DeleteFunc_api_Prop_api_Prop_k0, x_slices_DeleteFunc_api_Prop_api_Prop_l5, intsV, bytesV, propsV, propV, propC, bytesOf_map, hI, w1, n1]
    exact key
end Go.Proofs.YtaaflagbhneakaaDoor
namespace Go.Proofs.YtaaflagbhneakaaDoor
set_option linter.unusedSimpArgs false
set_option linter.unusedVariables false
def c_tidingskeep_Back_k0 : ACode := (.seq (.region [⟨(some 4), (.mov (.c (.bool true))), none, []⟩] none [4]) .ret)
theorem x_tidingskeep_Back_k0 (m : Nat) (tm : Tms) (σ : AHeap) : evC FC PR BY m c_tidingskeep_Back_k0 tm σ = evC FC PR BY m (.seq (.region [⟨(some 4), (.mov (.c (.bool true))), none, []⟩] none [4]) .ret) tm σ := rfl
def c_tidingskeep_Back_l7 : ACode := (.seq (.seq (.region [⟨(some 31), (.mov (.t 6)), none, []⟩, ⟨(some 32), (.mov (.t 0)), none, []⟩, ⟨(some 33), (.len (.t 32)), none, []⟩, ⟨(some 34), (.bin .lss (.t 31) (.t 33)), none, []⟩] none [34, 6, 0]) (.cond (.t 34) .skip (.exit 0))) (.seq (.block 1 (.region [⟨(some 37), (.mov (.t 0)), none, []⟩, ⟨(some 38), (.mov (.t 6)), none, []⟩, ⟨(some 39), (.mov (.t 0)), none, []⟩, ⟨(some 40), (.mov (.t 6)), none, []⟩, ⟨(some 41), (.iaddr 1 (.t 39) (.t 40)), none, []⟩, ⟨(some 42), (.ld none (.t 41)), none, []⟩, ⟨(some 43), (.bin .add (.t 42) (.c (.int .u8 77))), none, []⟩, ⟨(some 44), (.iaddr 1 (.t 37) (.t 38)), none, []⟩, ⟨none, (.st 1 (.t 44) (.t 43)), none, []⟩] none [6, 0])) (.region [⟨(some 35), (.mov (.t 6)), none, []⟩, ⟨(some 36), (.bin .add (.t 35) (.c (.int .i64 1))), none, []⟩, ⟨(some 6), (.mov (.t 36)), none, []⟩] none [6, 0])))
theorem x_tidingskeep_Back_l7 (m : Nat) (tm : Tms) (σ : AHeap) : evC FC PR BY m c_tidingskeep_Back_l7 tm σ = evC FC PR BY m (.seq (.seq (.region [⟨(some 31), (.mov (.t 6)), none, []⟩, ⟨(some 32), (.mov (.t 0)), none, []⟩, ⟨(some 33), (.len (.t 32)), none, []⟩, ⟨(some 34), (.bin .lss (.t 31) (.t 33)), none, []⟩] none [34, 6, 0]) (.cond (.t 34) .skip (.exit 0))) (.seq (.block 1 (.region [⟨(some 37), (.mov (.t 0)), none, []⟩, ⟨(some 38), (.mov (.t 6)), none, []⟩, ⟨(some 39), (.mov (.t 0)), none, []⟩, ⟨(some 40), (.mov (.t 6)), none, []⟩, ⟨(some 41), (.iaddr 1 (.t 39) (.t 40)), none, []⟩, ⟨(some 42), (.ld none (.t 41)), none, []⟩, ⟨(some 43), (.bin .add (.t 42) (.c (.int .u8 77))), none, []⟩, ⟨(some 44), (.iaddr 1 (.t 37) (.t 38)), none, []⟩, ⟨none, (.st 1 (.t 44) (.t 43)), none, []⟩] none [6, 0])) (.region [⟨(some 35), (.mov (.t 6)), none, []⟩, ⟨(some 36), (.bin .add (.t 35) (.c (.int .i64 1))), none, []⟩, ⟨(some 6), (.mov (.t 36)), none, []⟩] none [6, 0]))) tm σ := rfl
def b_tidingskeep_Back : ACode := (.seq (.region [⟨(some 4), (.mov (.c (.bool false))), none, []⟩] none [1, 0]) (.seq (.seq (.region [⟨(some 7), (.mov (.t 0)), none, []⟩, ⟨(some 8), (.mov (.t 1)), none, []⟩, ⟨(some 9), (.call 31 0 true [(.t 7), (.t 8)]), none, []⟩, ⟨(some 10), (.un .not (.t 9)), none, []⟩] none [10, 1, 0]) (.cond (.t 10) (.seq (.region [⟨(some 4), (.mov (.c (.bool false))), none, []⟩] none [4]) .ret) .skip)) (.seq (.region [⟨(some 11), (.mov (.t 0)), none, []⟩, ⟨(some 12), (.mov (.t 1)), none, []⟩, ⟨(some 13), (.len (.t 12)), none, []⟩, ⟨(some 14), (.bin .add (.t 13) (.c (.int .i64 2))), none, []⟩, ⟨(some 15), (.slice 1 (.t 11) none (some (.t 14)) none), none, []⟩, ⟨(some 5), (.mov (.t 15)), none, []⟩] none [5, 1, 0]) (.seq (.seq (.region [⟨(some 16), (.mov (.t 5)), none, []⟩, ⟨(some 17), (.mov (.t 1)), none, []⟩, ⟨(some 18), (.len (.t 17)), none, []⟩, ⟨(some 19), (.iaddr 1 (.t 16) (.t 18)), none, []⟩, ⟨(some 20), (.ld none (.t 19)), none, []⟩, ⟨(some 21), (.bin .neq (.t 20) (.c (.int .u8 165))), none, []⟩, ⟨(some 22), (.mov (.t 21)), none, []⟩, ⟨(some 23), (.mov (.t 5)), (some (22, false)), []⟩, ⟨(some 24), (.mov (.t 1)), (some (22, false)), []⟩, ⟨(some 25), (.len (.t 24)), (some (22, false)), []⟩, ⟨(some 26), (.bin .add (.t 25) (.c (.int .i64 1))), (some (22, false)), []⟩, ⟨(some 27), (.iaddr 1 (.t 23) (.t 26)), (some (22, false)), []⟩, ⟨(some 28), (.ld none (.t 27)), (some (22, false)), []⟩, ⟨(some 29), (.bin .neq (.t 28) (.c (.int .u8 90))), (some (22, false)), []⟩, ⟨(some 30), (.pick (.t 22) (.c (.bool true)) (.t 29)), none, []⟩] none [30, 0]) (.cond (.t 30) (.seq (.region [⟨(some 4), (.mov (.c (.bool false))), none, []⟩] none [4]) .ret) .skip)) (.seq (.seq (.region [⟨(some 6), (.mov (.c (.int .i64 0))), none, []⟩] none [6, 0]) (.block 0 (.loop [6, 0] c_tidingskeep_Back_l7))) c_tidingskeep_Back_k0)))))
def c_tidingskeep_Back : AFunc := ⟨[(.tmp 4)], b_tidingskeep_Back⟩
theorem cf_tidingskeep_Back : FC 11 = some c_tidingskeep_Back := by kernel_rfl
theorem cb_tidingskeep_Back : c_tidingskeep_Back.body = b_tidingskeep_Back := rfl
theorem cr_tidingskeep_Back : c_tidingskeep_Back.res = [(.tmp 4)] := rfl
/-- slots [6, 0] -/
noncomputable def K_tidingskeep_Back_l7 (m : Nat) (tm : Tms) (σ : AHeap) : Option (AVal × AHeap) := (finA m c_tidingskeep_Back (seqX FC PR BY m c_tidingskeep_Back_k0 (Option.map (blockA 0) (evL FC PR BY m [6, 0] c_tidingskeep_Back_l7 tm σ))))
def b_tidingskeep_Cut : ACode := (.seq (.region [⟨(some 4), (.mov (.c (.lst true []))), none, []⟩] none [1, 0]) (.seq (.seq (.region [⟨(some 5), (.mov (.t 0)), none, []⟩, ⟨(some 6), (.len (.t 5)), none, []⟩, ⟨(some 7), (.mov (.t 1)), none, []⟩, ⟨(some 8), (.bin .gtr (.t 6) (.t 7)), none, []⟩] none [8, 1, 0]) (.cond (.t 8) (.seq (.region [⟨(some 9), (.mov (.t 0)), none, []⟩, ⟨(some 10), (.mov (.t 1)), none, []⟩, ⟨(some 11), (.slice 1 (.t 9) none (some (.t 10)) none), none, []⟩, ⟨(some 4), (.mov (.t 11)), none, []⟩] none [4]) .ret) .skip)) (.seq (.region [⟨(some 12), (.mov (.t 0)), none, []⟩, ⟨(some 4), (.mov (.t 12)), none, []⟩] none [4]) .ret)))
def c_tidingskeep_Cut : AFunc := ⟨[(.tmp 4)], b_tidingskeep_Cut⟩
theorem cf_tidingskeep_Cut : FC 16 = some c_tidingskeep_Cut := by kernel_rfl
theorem cb_tidingskeep_Cut : c_tidingskeep_Cut.body = b_tidingskeep_Cut := rfl
theorem cr_tidingskeep_Cut : c_tidingskeep_Cut.res = [(.tmp 4)] := rfl
def b_tidingskeep_Lend : ACode := (.seq (.region [⟨(some 2), (.mov (.c (.lst true []))), none, []⟩] none [0]) (.seq (.region [⟨(some 4), (.mov (.t 0)), none, []⟩, ⟨(some 5), (.len (.t 4)), none, []⟩, ⟨(some 6), (.bin .add (.t 5) (.c (.int .i64 2))), none, []⟩, ⟨(some 7), (.mkslice 1 1 (.int .u8 0) (.c (.int .i64 0)) (.t 6)), none, []⟩, ⟨(some 3), (.mov (.t 7)), none, []⟩] none [3, 0]) (.seq (.region [⟨(some 8), (.mov (.t 3)), none, []⟩, ⟨(some 9), (.mov (.t 0)), none, []⟩, ⟨(some 10), (.app 1 1 (.int .u8 0) (.t 8) (.t 9)), none, []⟩, ⟨(some 3), (.mov (.t 10)), none, []⟩] none [3, 0]) (.seq (.region [⟨(some 11), (.mov (.t 3)), none, []⟩, ⟨(some 12), (.bslice false 1 2 (.int .u8 0) [(0, (.c (.int .u8 165))), (1, (.c (.int .u8 90)))]), none, []⟩, ⟨(some 13), (.app 1 1 (.int .u8 0) (.t 11) (.t 12)), none, []⟩, ⟨(some 3), (.mov (.t 13)), none, []⟩] none [3, 0]) (.seq (.region [⟨(some 14), (.mov (.t 3)), none, []⟩, ⟨(some 15), (.mov (.t 0)), none, []⟩, ⟨(some 16), (.len (.t 15)), none, []⟩, ⟨(some 17), (.slice 1 (.t 14) none (some (.t 16)) none), none, []⟩, ⟨(some 2), (.mov (.t 17)), none, []⟩] none [2]) .ret)))))
def c_tidingskeep_Lend : AFunc := ⟨[(.tmp 2)], b_tidingskeep_Lend⟩
theorem cf_tidingskeep_Lend : FC 8 = some c_tidingskeep_Lend := by kernel_rfl
theorem cb_tidingskeep_Lend : c_tidingskeep_Lend.body = b_tidingskeep_Lend := rfl
theorem cr_tidingskeep_Lend : c_tidingskeep_Lend.res = [(.tmp 2)] := rfl
def b_tidingskeep_Same : ACode := (.seq (.region [⟨(some 4), (.mov (.c (.bool false))), none, []⟩] none [1, 0]) (.seq (.region [⟨(some 5), (.mov (.t 0)), none, []⟩, ⟨(some 6), (.b2s (.t 5)), none, []⟩, ⟨(some 7), (.mov (.t 1)), none, []⟩, ⟨(some 8), (.b2s (.t 7)), none, []⟩, ⟨(some 9), (.bin .eql (.t 6) (.t 8)), none, []⟩, ⟨(some 4), (.mov (.t 9)), none, []⟩] none [4]) .ret))
def c_tidingskeep_Same : AFunc := ⟨[(.tmp 4)], b_tidingskeep_Same⟩
theorem cf_tidingskeep_Same : FC 31 = some c_tidingskeep_Same := by kernel_rfl
theorem cb_tidingskeep_Same : c_tidingskeep_Same.body = b_tidingskeep_Same := rfl
theorem cr_tidingskeep_Same : c_tidingskeep_Same.res = [(.tmp 4)] := rfl
def b_tidingskeep_Within : ACode := (.seq (.region [⟨(some 6), (.mov (.c (.int .i64 0))), none, []⟩] none [2, 1, 0]) (.seq (.region [⟨(some 8), (.mov (.t 2)), none, []⟩, ⟨(some 9), (.mov (.t 1)), none, []⟩, ⟨(some 10), (.bin .sub (.t 8) (.t 9)), none, []⟩, ⟨(some 11), (.bin .add (.t 10) (.c (.int .i64 1))), none, []⟩, ⟨(some 7), (.mov (.t 11)), none, []⟩] none [7, 1, 0]) (.seq (.region [⟨(some 12), (.mov (.t 0)), none, []⟩, ⟨(some 13), (.mov (.t 7)), none, []⟩, ⟨(some 14), (.bin .rem (.t 12) (.t 13)), none, []⟩, ⟨(some 0), (.mov (.t 14)), none, []⟩] none [7, 1, 0]) (.seq (.seq (.region [⟨(some 15), (.mov (.t 0)), none, []⟩, ⟨(some 16), (.bin .lss (.t 15) (.c (.int .i64 0))), none, []⟩] none [16, 7, 1, 0]) (.cond (.t 16) (.region [⟨(some 17), (.mov (.t 0)), none, []⟩, ⟨(some 18), (.mov (.t 7)), none, []⟩, ⟨(some 19), (.bin .add (.t 17) (.t 18)), none, []⟩, ⟨(some 0), (.mov (.t 19)), none, []⟩] none [1, 0]) .skip)) (.seq (.region [⟨(some 20), (.mov (.t 1)), none, []⟩, ⟨(some 21), (.mov (.t 0)), none, []⟩, ⟨(some 22), (.bin .add (.t 20) (.t 21)), none, []⟩, ⟨(some 6), (.mov (.t 22)), none, []⟩] none [6]) .ret)))))
def c_tidingskeep_Within : AFunc := ⟨[(.tmp 6)], b_tidingskeep_Within⟩
theorem cf_tidingskeep_Within : FC 7 = some c_tidingskeep_Within := by kernel_rfl
theorem cb_tidingskeep_Within : c_tidingskeep_Within.body = b_tidingskeep_Within := rfl
theorem cr_tidingskeep_Within : c_tidingskeep_Within.res = [(.tmp 6)] := rfl
end Go.Proofs.YtaaflagbhneakaaDoor
namespace Go.Proofs.YtaaflagbhneakaaDoor
set_option linter.unusedSimpArgs false
set_option linter.unusedVariables false
set_option maxHeartbeats 4000000
set_option maxRecDepth 10000
def lentB (b : Bytes) : List AVal := b.map byteV ++ [.int .u8 165, .int .u8 90]
theorem q_lend (b : Bytes) (hb : b.length ≤ 140737488355326) : E 8 [bytesV b] [] = some (.sl 0 0 0 b.length, [.row 0 1 (lentB b)]) := by
  obtain ⟨n2, hn⟩ : ∃ n2, n2 = b.length + 2 := ⟨_, rfl⟩
  have w1 : IntKind.i64.wrap ((b.length : Int) + 2) = ((n2 : Nat) : Int) := by rw [wrap_nat (by omega) (by omega)]; omega
  have m1 : (0 : Int) ≤ ((n2 : Nat) : Int) := by omega
  have m2 : ((n2 : Nat) : Int) ≤ 9223372036854775807 := by omega
  have m3 : ((1 : Nat) : Int) * ((n2 : Nat) : Int) ≤ 140737488355328 := by omega
  have r2 : b.length ≤ n2 := by omega
  have r3 : b.length * 1 ≤ 140737488355328 := by omega
  have r4 : (0 = n2) = False := by simp; omega
  have k1 := kOk_bytes b
  have k2 : kOk 1 [AVal.int .u8 165, .int .u8 90] = true := rfl
  have hD : (List.replicate n2 (AVal.int .u8 0)).drop b.length = [.int .u8 0, .int .u8 0] := by simp [List.drop_replicate, hn]
  have L1 : (b.map byteV ++ [AVal.int .u8 0, .int .u8 0]).length = n2 := by simp; omega
  have L1' : b.length + 1 + 1 = n2 := by omega
  have L2 : (b.length = n2) = False := by simp; omega
  have L3 : (b.map byteV ++ [AVal.int .u8 0, .int .u8 0]).take b.length = b.map byteV := by rw [List.take_append_of_le_length (by simp)]; simp [List.take_of_length_le]
  have L4 : (b.map byteV ++ [AVal.int .u8 0, .int .u8 0]).drop n2 = [] := List.drop_eq_nil_of_le (by simp; omega)
  have L5 : n2 * 1 ≤ 140737488355328 := by omega
  have L6 : (b.map byteV ++ [AVal.int .u8 165, .int .u8 90]).length = n2 := by simp; omega
  have L7 : (b.length : Int) ≤ ((n2 : Nat) : Int) := by omega
  have L8 : (0 : Int) ≤ (b.length : Int) := by omega
  have L9 : n2 ≤ n2 := Nat.le_refl _
  clear hn
  rw [E_eq (by rfl) cf_tidingskeep_Lend]
  unfold lentB
  simp -implicitDefEqProofs only [EVS0, EVS1, EVS2, EVS3, EVS4, EVS5, EVS6, EVS7, EVL0, EVL1, ite_tf, ite_ft, ite_tft, ite_ftf, ite_list, ite_tt, ite_ee, ite_nt, ite_ne, eq_self, implies_true, forall_const, exI, nsite, freeAt, execI, Opd.ev, tget, tins, tput, keepL, sitesOf, List.sum_cons, List.sum_nil, Nat.reduceAdd, Nat.reduceSub, Nat.reduceLT, Nat.reduceLeDiff, Nat.reduceEqDiff, Nat.reduceBEq, Nat.reduceMul, beq_self_eq_true, Bool.false_eq_true, ldA, stA, partA, faddrA, setAt, binA, arithA, shiftA, strA, unA, gSpan, gSkip, unG, ne_eq, Option.some.injEq, reduceCtorEq, decide_true, decide_false, elemsA, resA, resAll, resOne, enterA, decide_eq_true_eq, Bool.not_eq_true, Bool.decide_eq_true, ite_self, ↓reduceIte, noRefL, clrA, gcT, gcA, gcIds, reach, rhoOf, heapOf, idxA, genB, newGen, renB, refsB, List.contains_cons, List.range_succ, cb_tidingskeep_Lend, b_tidingskeep_Lend, cr_tidingskeep_Lend, intsV, bytesV, propsV, propV, propC, bytesOf_map, w1, m1, m2, m3, r2, r3, r4, hD, k1, k2, L1, L1', L2, L3, L4, L5, L6, L7, L8, L9, Int.le_refl, Int.toNat_zero, Int.toNat_natCast, Nat.sub_zero, AVal.cells, sliceA, optB, boundA, appA, viewAs, viewA, viewA1, freezeA, List.foldl_cons, List.foldl_nil, List.append_assoc, List.length_append, List.length_replicate, out_row0]
theorem q_ksame (a b : Bytes) : E 31 [bytesV a, bytesV b] [] = some (.bool (a == b), []) := by
  rw [E_eq (by rfl) cf_tidingskeep_Same]
  simp -implicitDefEqProofs only [EVS0, EVS1, EVS2, EVS3, EVS4, EVS5, EVS6, EVS7, EVL0, EVL1, ite_tf, ite_ft, ite_tft, ite_ftf, ite_list, ite_tt, ite_ee, ite_nt, ite_ne, eq_self, implies_true, forall_const, exI, nsite, freeAt, execI, Opd.ev, tget, tins, tput, keepL, sitesOf, List.sum_cons, List.sum_nil, Nat.reduceAdd, Nat.reduceSub, Nat.reduceLT, Nat.reduceLeDiff, Nat.reduceEqDiff, Nat.reduceBEq, Nat.reduceMul, beq_self_eq_true, Bool.false_eq_true, ldA, stA, partA, faddrA, setAt, binA, arithA, shiftA, strA, unA, gSpan, gSkip, unG, ne_eq, Option.some.injEq, reduceCtorEq, decide_true, decide_false, elemsA, resA, resAll, resOne, enterA, decide_eq_true_eq, Bool.not_eq_true, Bool.decide_eq_true, ite_self, ↓reduceIte, noRefL, clrA, gcT, gcA, gcIds, reach, rhoOf, heapOf, idxA, genB, newGen, renB, refsB, List.contains_cons, List.range_succ, cb_tidingskeep_Same, b_tidingskeep_Same, cr_tidingskeep_Same, intsV, bytesV, propsV, propV, propC, bytesOf_map, intsV]
theorem q_ksameS (σ : AHeap) (site own : Nat) (a b : Bytes) (t : Nat) (X : List AVal) (hs : σ[t]? = some (.row 0 1 (a.map byteV ++ X))) : callG E BY σ site 31 own true [.sl t 0 0 a.length, .lst false (b.map byteV)] = some (.bool (a == b), σ, { rd := [t] }) := by
  refine call_shown_flat (vs := [bytesV a, bytesV b]) (by kernel_rfl) ?_ rfl rfl (q_ksame a b) rfl rfl site own
  have h1 : 0 + a.length ≤ (a.map byteV ++ X).length := by simp
  have h2 : (a.map byteV ++ X).take a.length = a.map byteV := by rw [List.take_append_of_le_length (by simp)]; simp [List.take_of_length_le]
  simp only [showAs, showA, showA1, elemsA, hs, h1, and_self, if_true, List.drop_zero, h2, bytesV]
  rfl
theorem out_row1' (k : Nat) (b : Bool) (xs : List AVal) (σ : AHeap) : outA 1 (.row 0 k xs :: σ) (.bool b) = some (.bool b, [.row 0 k xs]) := by
  simp [outA, gcA, gcIds, reach, refsL, refsV, rhoOf, heapOf, idxA, genB, newGen, renL, renV, renB, refsB]
/-- what stands there behind -/
theorem q_backl (N : Nat) (hN : N ≤ 9223372036854775807) : ∀ (m i : Nat) (X : List AVal), i + m = N → (∀ j, j < N → ∃ b : UInt8, X[j]? = some (byteV b)) → N ≤ X.length →
    ∃ X', K_tidingskeep_Back_l7 1 [(6, .int .i64 i), (0, .sl 0 0 0 N)] [.row 0 1 X] = some (.bool true, [.row 0 1 X'])
  | 0, i, X, h, _, _ => by
    have h1 : ¬ (i : Int) < (N : Int) := by omega
    refine ⟨X, ?_⟩
    unfold K_tidingskeep_Back_l7
    rw [evL_eq]
    simp -implicitDefEqProofs only [EVS0, EVS1, EVS2, EVS3, EVS4, EVS5, EVS6, EVS7, EVL0, EVL1, ite_tf, ite_ft, ite_tft, ite_ftf, ite_list, ite_tt, ite_ee, ite_nt, ite_ne, eq_self, implies_true, forall_const, exI, nsite, freeAt, execI, Opd.ev, tget, tins, tput, keepL, sitesOf, List.sum_cons, List.sum_nil, Nat.reduceAdd, Nat.reduceSub, Nat.reduceLT, Nat.reduceLeDiff, Nat.reduceEqDiff, Nat.reduceBEq, Nat.reduceMul, beq_self_eq_true, Bool.false_eq_true, ldA, stA, partA, faddrA, setAt, binA, arithA, shiftA, strA, unA, gSpan, gSkip, unG, ne_eq, Option.some.injEq, reduceCtorEq, decide_true, decide_false, elemsA, resA, resAll, resOne, enterA, decide_eq_true_eq, Bool.not_eq_true, Bool.decide_eq_true, ite_self, ↓reduceIte, noRefL, clrA, gcT, gcA, gcIds, reach, rhoOf, heapOf, idxA, genB, newGen, renB, refsB, List.contains_cons, List.range_succ, cb_tidingskeep_Back, b_tidingskeep_Back, cr_tidingskeep_Back, x_tidingskeep_Back_k0, x_tidingskeep_Back_l7, intsV, bytesV, propsV, propV, propC, bytesOf_map, h1, out_row1']
  | m + 1, i, X, h, hb, hX => by
    have h1 : (i : Int) < (N : Int) := by omega
    have h2 : i < N := by omega
    have i0 : (0 : Int) ≤ (i : Int) := by omega
    have hw := wrap_succ h1 hN
    obtain ⟨b, hg⟩ := hb i h2
    obtain ⟨X', ih⟩ := q_backl N hN m (i + 1) (X.set i (.int .u8 (IntKind.u8.wrap ((b.toNat : Int) + 77)))) (by omega) (fun j hj => by
      by_cases e : i = j
      · subst e
        refine ⟨UInt8.ofNat (IntKind.u8.wrap ((b.toNat : Int) + 77)).toNat, ?_⟩
        rw [List.getElem?_set_self (by omega)]
        simp only [byteV, IntKind.wrap_u8]
        rw [UInt8.toNat_ofNat']
        congr 2
        have := Int.emod_nonneg ((b.toNat : Int) + 77) (show (256 : Int) ≠ 0 by decide)
        have := Int.emod_lt_of_pos ((b.toNat : Int) + 77) (show (0 : Int) < 256 by decide)
        omega
      · rw [List.getElem?_set_ne e]; exact hb j hj) (by simpa using hX)
    refine ⟨X', ?_⟩
    unfold byteV at hg
    unfold K_tidingskeep_Back_l7 at ih ⊢
    rw [evL_eq]
    simp -implicitDefEqProofs only [EVS0, EVS1, EVS2, EVS3, EVS4, EVS5, EVS6, EVS7, EVL0, EVL1, ite_tf, ite_ft, ite_tft, ite_ftf, ite_list, ite_tt, ite_ee, ite_nt, ite_ne, eq_self, implies_true, forall_const, exI, nsite, freeAt, execI, Opd.ev, tget, tins, tput, keepL, sitesOf, List.sum_cons, List.sum_nil, Nat.reduceAdd, Nat.reduceSub, Nat.reduceLT, Nat.reduceLeDiff, Nat.reduceEqDiff, Nat.reduceBEq, Nat.reduceMul, beq_self_eq_true, Bool.false_eq_true, ldA, stA, partA, faddrA, setAt, binA, arithA, shiftA, strA, unA, gSpan, gSkip, unG, ne_eq, Option.some.injEq, reduceCtorEq, decide_true, decide_false, elemsA, resA, resAll, resOne, enterA, decide_eq_true_eq, Bool.not_eq_true, Bool.decide_eq_true, ite_self, ↓reduceIte, noRefL, clrA, gcT, gcA, gcIds, reach, rhoOf, heapOf, idxA, genB, newGen, renB, refsB, List.contains_cons, List.range_succ, cb_tidingskeep_Back, b_tidingskeep_Back, cr_tidingskeep_Back, x_tidingskeep_Back_k0, x_tidingskeep_Back_l7, intsV, bytesV, propsV, propV, propC, bytesOf_map, h1, h2, i0, hw, hg, iaddrA, Int.toNat_natCast, AVal.cells, viewsA, viewA1, putE, freezeA]
    exact ih
theorem q_back (b : Bytes) (hb : b.length ≤ 140737488355326) : ∃ X', E 11 [.sl 0 0 0 b.length, bytesV b] [.row 0 1 (lentB b)] = some (.bool true, [.row 0 1 X']) := by
  obtain ⟨n2, hn⟩ : ∃ n2, n2 = b.length + 2 := ⟨_, rfl⟩
  obtain ⟨X', key⟩ := q_backl b.length (by omega) b.length 0 (lentB b) (by omega) (fun j hj => by
    unfold lentB
    rw [List.getElem?_append_left (by simpa using hj)]
    exact ⟨b[j], by simp [hj]⟩) (by simp [lentB])
  refine ⟨X', ?_⟩
  have w1 : IntKind.i64.wrap ((b.length : Int) + 2) = ((n2 : Nat) : Int) := by rw [wrap_nat (by omega) (by omega)]; omega
  have w2 : IntKind.i64.wrap ((b.length : Int) + 1) = ((b.length + 1 : Nat) : Int) := by rw [wrap_nat (by omega) (by omega)]; rfl
  have hS : ∀ (σ : AHeap) (site own : Nat), σ[0]? = some (.row 0 1 (b.map byteV ++ [AVal.int .u8 165, .int .u8 90])) → _ := fun σ site own h => q_ksameS σ site own b b 0 [.int .u8 165, .int .u8 90] h
  have e0 : (b == b) = true := by simp
  have L6 : (lentB b).length = n2 := by unfold lentB; simp; omega
  have L7 : (0 : Int) ≤ ((n2 : Nat) : Int) := by omega
  have L8 : ((n2 : Nat) : Int) ≤ ((n2 : Nat) : Int) := by omega
  have L9 : b.length < n2 := by omega
  have L10 : b.length + 1 < n2 := by omega
  have L11 : (0 : Int) ≤ (b.length : Int) := by omega
  have L12 : (0 : Int) ≤ ((b.length + 1 : Nat) : Int) := by omega
  have L13 : b.length ≤ n2 := by omega
  have g1 : (lentB b)[b.length]? = some (.int .u8 165) := by unfold lentB; rw [List.getElem?_append_right (by simp)]; simp
  have g2 : (lentB b)[b.length + 1]? = some (.int .u8 90) := by unfold lentB; rw [List.getElem?_append_right (by simp)]; simp
  have n1 : ((165 : Int) != 165) = false := rfl
  have n3 : ((90 : Int) != 90) = false := rfl
  clear hn
  rw [show b.map byteV ++ [AVal.int .u8 165, .int .u8 90] = lentB b from rfl, e0] at hS
  unfold bytesV
  have z0 : ((0 : Nat) : Int) = 0 := rfl
  rw [z0] at key
  generalize lentB b = X at *
  unfold K_tidingskeep_Back_l7 at key
  rw [E_eq (by rfl) cf_tidingskeep_Back]
  simp -implicitDefEqProofs only [EVS0, EVS1, EVS2, EVS3, EVS4, EVS5, EVS6, EVS7, EVL0, EVL1, ite_tf, ite_ft, ite_tft, ite_ftf, ite_list, ite_tt, ite_ee, ite_nt, ite_ne, eq_self, implies_true, forall_const, exI, nsite, freeAt, execI, Opd.ev, tget, tins, tput, keepL, sitesOf, List.sum_cons, List.sum_nil, Nat.reduceAdd, Nat.reduceSub, Nat.reduceLT, Nat.reduceLeDiff, Nat.reduceEqDiff, Nat.reduceBEq, Nat.reduceMul, beq_self_eq_true, Bool.false_eq_true, ldA, stA, partA, faddrA, setAt, binA, arithA, shiftA, strA, unA, gSpan, gSkip, unG, ne_eq, Option.some.injEq, reduceCtorEq, decide_true, decide_false, elemsA, resA, resAll, resOne, enterA, decide_eq_true_eq, Bool.not_eq_true, Bool.decide_eq_true, ite_self, ↓reduceIte, noRefL, clrA, gcT, gcA, gcIds, reach, rhoOf, heapOf, idxA, genB, newGen, renB, refsB, List.contains_cons, List.range_succ, cb_tidingskeep_Back, b_tidingskeep_Back, cr_tidingskeep_Back, x_tidingskeep_Back_k0, x_tidingskeep_Back_l7, intsV, bytesV, propsV, propV, propC, bytesOf_map, hS, w1, w2, L6, L7, L8, L9, L10, L11, L12, L13, g1, g2, n1, n3, Int.toNat_natCast, Nat.sub_zero, AVal.cells, sliceA, iaddrA, optB, boundA]
  exact key
end Go.Proofs.YtaaflagbhneakaaDoor
namespace Go.Proofs.YtaaflagbhneakaaDoor
set_option linter.unusedSimpArgs false
set_option linter.unusedVariables false
set_option maxHeartbeats 4000000
set_option maxRecDepth 10000
theorem call_byrow {O : Oracle} {byref : Nat → Bool} {σ : AHeap} {t site f own k : Nat} {view : Bool} {args args' xs xs' : List AVal} {r : AVal} {b' : ABlk} (hs : σ[t]? = some (.row 0 k xs)) (hb : byref f = true) (hff : freeFrom σ site own = true)
    (href : refsL args = [t]) (hren : ∀ ρ : Rho, ρ t 0 = some (0, 0) → renL ρ args = args') (hr : ∀ ρ : Rho, renV ρ r = r) (hb' : b' = .row 0 k xs' ∨ b' = .frow 0 k xs')
    (h : askO view 1 (O f args' [.row 0 k xs]) = some (r, [b'])) : callG O byref σ site f own view args = some (r, σ.set t b', { any := true }) := by
  have hd : σ.getD t .free = .row 0 k xs := by simp [List.getD_eq_getElem?_getD, hs]
  have hf0 : freezeA σ [] = σ := rfl
  unfold callG showIf
  rw [hb]
  simp only [if_true, hf0, href]
  have hreach : reach σ 1000 [t] [] = [t] := by
    simp only [reach, List.contains_nil, Bool.false_eq_true, if_false, hd, refsB, List.nil_append]
  rw [hreach]
  unfold callI
  have hall : ([t].all fun t => okB (σ.getD t .free)) = true := by simp [List.all_cons, List.all_nil, hs, okB]
  rw [if_pos hall]
  have hρ : rhoOf σ 0 [t] t 0 = some (0, 0) := by simp [rhoOf, idxA, hs, genB, newGen]
  have hheap : heapOf σ 0 [t] (rhoOf σ 0 [t]) [t] 0 = [.row 0 k xs] := by
    simp only [heapOf, hd, newGen, genB, renB, Nat.not_lt_zero, false_and, if_false]
  rw [hren _ hρ, hheap]
  simp only [List.length_cons, List.length_nil, Nat.zero_add]
  rw [h]
  have hk : okBack σ [t] [b'] 0 = true := by
    rcases hb' with rfl | rfl <;> simp [okBack, okB, hs, sameKind, genB]
  have hren' : ∀ ρ, renB ρ (genBack σ [t] 0 b') b' = b' := by
    intro ρ
    rcases hb' with rfl | rfl <;> simp [genBack, hs, genB, renB]
  simp only [backG, List.isEmpty_cons, Bool.false_and, Bool.false_eq_true, if_false, List.length_cons, List.length_nil, Nat.zero_add, Nat.le_add_right, Nat.le_refl, decide_true, hk, hff, Bool.and_self, if_true, layBack, tgtBack, List.getD_cons_zero, hr, hren']
theorem ask_row {k n : Nat} {xs : List AVal} (hn : n ≤ xs.length) : askO true 1 (some (.sl 0 0 0 n, [.row 0 k xs])) = some (.lst false (xs.take n), [.frow 0 k xs]) := by
  unfold askO
  have : 0 + n ≤ xs.length := by omega
  simp [resV, viewR, viewA, viewA1, elemsA, this, hn, freezeA, gcA, gcIds, reach, refsL, refsV, renL, renV, heapOf, refsB, newGen, genB, renB, List.range_succ]
theorem q_delC (σ : AHeap) (site t own : Nat) (l : List PropD) (hl : l.length ≤ 9223372036854775807) (hs : σ[t]? = some (.row 0 5 (l.map propV))) (hff : freeFrom σ site own = true) :
    callG E BY σ site 20 own true [.sl t 0 0 l.length, .fn 22 []] = some (.lst false ((l.filter noExp).map propV), σ.set t (.frow 0 5 (delRow l.length ((l.filter noExp).map propV))), { any := true }) := by
  have hle := List.length_filter_le noExp l
  refine call_byrow (args' := [.sl 0 0 0 l.length, .fn 22 []]) hs (by kernel_rfl) hff rfl (fun ρ h => by simp only [renL, renV, h]) (fun ρ => rfl) (Or.inr rfl) ?_
  rw [q_del l hl, ask_row (by simp [delRow])]
  simp [delRow]
theorem q_ownP (l : List PropD) (h : l.length * 72 ≤ 140737488355328) : E 21 [.lst false (l.map propV)] [] = some (.sl 0 0 0 l.length, [.row 0 5 (l.map propV)]) := by
  refine EV_some.2 ⟨1, ?_⟩
  show clonePrim 5 72 [.lst false (l.map propV)] [] = _
  have h1 : (l.map propV).length * 72 ≤ 140737488355328 ∧ kOk 5 (l.map propV) = true := ⟨by simpa using h, kOk_props l⟩
  simp only [clonePrim, elemsA]
  rw [if_pos h1]; simp
theorem flat_bytes (l : Bytes) : (l.map byteV).all flat2 = true := by
  rw [List.all_eq_true]
  intro x hx
  obtain ⟨b, _, rfl⟩ := List.mem_map.1 hx
  rfl
theorem treeL_props : (List.map propV []) = [] := rfl
theorem clone_props (l : List PropD) (hl : l ≠ []) : (l.map propV).all flat2 = false := by
  cases l with
  | nil => exact absurd rfl hl
  | cons p r => simp [propV, propC, flat2, flat1, bytesV]
/-- bytes of an own row, as a new own row -/
theorem q_cloneS (σ : AHeap) (site t : Nat) (l : Bytes) (X : List AVal) (h : l.length ≤ 140737488355328) (hs : σ[t]? = some (.row 0 1 (l.map byteV ++ X))) : callG E BY σ site 38 1 false [.sl t 0 0 l.length] = some (.sl site 0 0 l.length, σ.set site (.row 0 1 (l.map byteV)), { rd := [t] }) := by
  have h1 : 0 + l.length ≤ (l.map byteV ++ X).length := by simp
  have h2 : (l.map byteV ++ X).take l.length = l.map byteV := by rw [List.take_append_of_le_length (by simp)]; simp [List.take_of_length_le]
  have hsh : showAs σ [.sl t 0 0 l.length] = some ([.lst false (l.map byteV)], [t]) := by
    simp only [showAs, showA, showA1, elemsA, hs, h1, and_self, if_true, List.drop_zero, h2]
    rfl
  have hb : BY 38 = false := by kernel_rfl
  unfold callG showIf
  rw [hb]
  simp only [Bool.false_eq_true, if_false, hsh]
  have h0 : reach (freezeA σ [t]) 1000 (refsL [.lst false (l.map byteV)]) [] = [] := rfl
  rw [h0]
  unfold callI
  simp only [List.all_nil, if_true, heapOf, List.length_nil, renL, renV, askO, Bool.false_eq_true, if_false]
  rw [q_cloneB l h]
  have hf := flat_bytes l
  simp only [backG, List.isEmpty_nil, List.isEmpty_cons, Bool.and_false, Bool.false_eq_true, if_false, if_true, cloneR, hf, decide_true, Bool.and_self, List.length_map]
end Go.Proofs.YtaaflagbhneakaaDoor
namespace Go.Proofs.YtaaflagbhneakaaDoor
set_option linter.unusedSimpArgs false
set_option linter.unusedVariables false
set_option maxHeartbeats 2000000
set_option maxRecDepth 10000
theorem q_ralike (a b : PropD) : E 50 [propV a, propV b] [] = some (.bool (a.id == b.id && a.num == b.num && a.text == b.text && a.pair == b.pair && a.data == b.data), []) := by
  rw [E_eq (by rfl) cf_tidingsref11_Alike]
  simp -implicitDefEqProofs only [EVS0, EVS1, EVS2, EVS3, EVS4, EVS5, EVS6, EVS7, EVL0, EVL1, ite_tf, ite_ft, ite_tft, ite_ftf, ite_list, ite_tt, ite_ee, ite_nt, ite_ne, eq_self, implies_true, forall_const, exI, nsite, freeAt, execI, Opd.ev, tget, tins, tput, keepL, sitesOf, List.sum_cons, List.sum_nil, Nat.reduceAdd, Nat.reduceSub, Nat.reduceLT, Nat.reduceLeDiff, Nat.reduceEqDiff, Nat.reduceBEq, Nat.reduceMul, beq_self_eq_true, Bool.false_eq_true, ldA, stA, partA, faddrA, setAt, binA, arithA, shiftA, strA, unA, gSpan, gSkip, unG, ne_eq, Option.some.injEq, reduceCtorEq, decide_true, decide_false, elemsA, resA, resAll, resOne, enterA, decide_eq_true_eq, Bool.not_eq_true, Bool.decide_eq_true, ite_self, ↓reduceIte, noRefL, clrA, gcT, gcA, gcIds, reach, rhoOf, heapOf, idxA, genB, newGen, renB, refsB, List.contains_cons, List.range_succ, cb_tidingsref11_Alike, b_tidingsref11_Alike, cr_tidingsref11_Alike, intsV, bytesV, propsV, propV, propC, bytesOf_map, bytesOf_map]
theorem alike_beq (a b : PropD) : (a.id == b.id && a.num == b.num && a.text == b.text && a.pair == b.pair && a.data == b.data) = (a == b) := by
  obtain ⟨i, n, t, p, d⟩ := a
  obtain ⟨i', n', t', p', d'⟩ := b
  rw [Bool.eq_iff_iff]
  simp [and_assoc]
theorem plain_prop (a : PropD) : plainV (propV a) = true := by
  simp -implicitDefEqProofs only [eq_self, implies_true, forall_const, x_seq, x_cond, evC_block, evC_region, evC_skip, evC_exit, evC_ret, reg_none, runN_nil, runN_cons, runN_guard, kN_some, kN_pan, kN_none, isPan_ite, exI, nsite, freeAt, execI, Opd.ev, tget, tins, tput, keepL, sitesOf, List.map_cons, List.map_nil, List.sum_cons, List.sum_nil, List.length_cons, List.length_nil, List.replicate_zero, List.replicate_succ, List.append_nil, List.nil_append, List.cons_append, List.getElem?_cons_zero, List.getElem?_cons_succ, List.set_cons_zero, List.set_cons_succ, Nat.add_zero, Nat.zero_add, Nat.reduceAdd, Nat.reduceSub, Nat.reduceLT, Nat.reduceLeDiff, Nat.reduceEqDiff, Nat.reduceBEq, Nat.reduceMul, beq_self_eq_true, Bool.true_or, Bool.false_or, Bool.or_true, Bool.or_false, Bool.and_true, Bool.true_and, Bool.and_self, Bool.and_false, Bool.false_and, if_true, if_false, ite_true, ite_false, Bool.false_eq_true, Option.map_some, Option.map_none, and_self, and_true, true_and, and_false, false_and, true_or, or_true, false_or, or_false, not_true_eq_false, not_false_eq_true, List.drop_zero, List.drop_succ_cons, List.take_succ_cons, List.take_zero, ldA, stA, partA, faddrA, setAt, List.all_cons, List.all_nil, binA, arithA, shiftA, strA, unA, seqX_n, seqX_e, seqX_r, seqX_p, condX_b, block_n, block_e, block_r, block_p, pickX_b, gRun_eq, gW_bool, gW_off, gK_some, gSpan, gSkip, unG, sitesOf, ne_eq, Option.some.injEq, reduceCtorEq, decide_true, decide_false, elemsA, bytesOf_map, resA, resAll, resOne, enterA, decide_eq_true_eq, Bool.not_eq_true, Bool.decide_eq_true, ite_exn, ite_exr, ite_exg, ite_slot, ite_val, ite_vcl, seqX_ite, block_ite, fin_ite, evM_ite, evM_e, evM_r, evM_p, reg_some, C_nil, C_cons, C_guard, consC_some, consC_none, consC_ite, appC_some, appC_none, appC_ite, kC_some, kC_pan, kC_none, kC_ite, regC_quiet, regC_none, regC_ite, gKC_some, gKC_ite, gRunC_eq, gWC_bool, gWC_off, ite_exc, blockA_n, blockA_e, blockA_r, blockA_p, List.isEmpty_nil, Bool.not_false, Bool.not_true, List.length_map, Bool.bne_false, Bool.bne_true, ite_tf, ite_ft, ite_tft, ite_ftf, chkA_nil, chkA_cons, pairFree_eq, emptyOp_eq, noWr_eq, regC_some, List.isEmpty_cons, List.getD_cons_zero, List.getD_cons_succ, List.getD_nil, ite_list, ite_int, ite_bool, ite_str, ite_lst, ite_agg, ite_var, ite_row, ite_ref, ite_tt, ite_ee, ite_nt, ite_ne, ite_self, out_tree, fin_ret, fin_normal, fin_panic, s_isPan_top, s_isPan_any, s_isPan_int, s_isPan_bool, s_isPan_str, s_isPan_nilp, s_isPan_ref, s_isPan_eref, s_isPan_iptr, s_isPan_lst, s_isPan_sl, s_isPan_agg, s_isPan_tup, s_isPan_fn, s_isPan_nilm, s_isPan_map, s_isPan_nili, s_isPan_iface, s_isPan_pan, s_okCell_top, s_okCell_any, s_okCell_int, s_okCell_bool, s_okCell_str, s_okCell_nilp, s_okCell_ref, s_okCell_eref, s_okCell_iptr, s_okCell_lst, s_okCell_sl, s_okCell_agg, s_okCell_tup, s_okCell_fn, s_okCell_nilm, s_okCell_map, s_okCell_nili, s_okCell_iface, s_okCell_pan, s_ntop_top, s_ntop_any, s_ntop_int, s_ntop_bool, s_ntop_str, s_ntop_nilp, s_ntop_ref, s_ntop_eref, s_ntop_iptr, s_ntop_lst, s_ntop_sl, s_ntop_agg, s_ntop_tup, s_ntop_fn, s_ntop_nilm, s_ntop_map, s_ntop_nili, s_ntop_iface, s_ntop_pan, s_flat1_top, s_flat1_any, s_flat1_int, s_flat1_bool, s_flat1_str, s_flat1_nilp, s_flat1_ref, s_flat1_eref, s_flat1_iptr, s_flat1_lst, s_flat1_sl, s_flat1_agg, s_flat1_tup, s_flat1_fn, s_flat1_nilm, s_flat1_map, s_flat1_nili, s_flat1_iface, s_flat1_pan, s_flat2_top, s_flat2_any, s_flat2_int, s_flat2_bool, s_flat2_str, s_flat2_nilp, s_flat2_ref, s_flat2_eref, s_flat2_iptr, s_flat2_lst, s_flat2_sl, s_flat2_agg, s_flat2_tup, s_flat2_fn, s_flat2_nilm, s_flat2_map, s_flat2_nili, s_flat2_iface, s_flat2_pan, s_flatA_top, s_flatA_any, s_flatA_int, s_flatA_bool, s_flatA_str, s_flatA_nilp, s_flatA_ref, s_flatA_eref, s_flatA_iptr, s_flatA_lst, s_flatA_sl, s_flatA_agg, s_flatA_tup, s_flatA_fn, s_flatA_nilm, s_flatA_map, s_flatA_nili, s_flatA_iface, s_plain1_top, s_plain1_any, s_plain1_int, s_plain1_bool, s_plain1_str, s_plain1_nilp, s_plain1_ref, s_plain1_eref, s_plain1_iptr, s_plain1_lst, s_plain1_sl, s_plain1_agg, s_plain1_tup, s_plain1_nilm, s_plain1_map, s_plain1_nili, s_plain1_iface, s_plain1_pan, s_plainV_top, s_plainV_any, s_plainV_int, s_plainV_bool, s_plainV_str, s_plainV_nilp, s_plainV_ref, s_plainV_eref, s_plainV_iptr, s_plainV_lst, s_plainV_sl, s_plainV_agg, s_plainV_tup, s_plainV_nilm, s_plainV_map, s_plainV_nili, s_plainV_iface, s_plainV_pan, s_norm1_top, s_norm1_any, s_norm1_int, s_norm1_bool, s_norm1_str, s_norm1_nilp, s_norm1_ref, s_norm1_eref, s_norm1_iptr, s_norm1_lst, s_norm1_sl, s_norm1_agg, s_norm1_tup, s_norm1_fn, s_norm1_nilm, s_norm1_map, s_norm1_nili, s_norm1_iface, s_norm1_pan, s_normV_top, s_normV_any, s_normV_int, s_normV_bool, s_normV_str, s_normV_nilp, s_normV_ref, s_normV_eref, s_normV_iptr, s_normV_lst, s_normV_sl, s_normV_agg, s_normV_tup, s_normV_fn, s_normV_nilm, s_normV_map, s_normV_nili, s_normV_iface, s_normV_pan, s_cells_top, s_cells_any, s_cells_int, s_cells_bool, s_cells_str, s_cells_nilp, s_cells_ref, s_cells_eref, s_cells_iptr, s_cells_lst, s_cells_sl, s_cells_agg, s_cells_tup, s_cells_fn, s_cells_nilm, s_cells_map, s_cells_nili, s_cells_iface, s_cells_pan, s_valOf_top, s_valOf_any, s_valOf_int, s_valOf_bool, s_valOf_str, s_valOf_nilp, s_valOf_ref, s_valOf_eref, s_valOf_iptr, s_valOf_lst, s_valOf_sl, s_valOf_agg, s_valOf_tup, s_valOf_fn, s_valOf_nilm, s_valOf_map, s_valOf_nili, s_valOf_iface, s_valOf_pan, s_kindA_top, s_kindA_any, s_kindA_int, s_kindA_bool, s_kindA_str, s_kindA_nilp, s_kindA_ref, s_kindA_eref, s_kindA_iptr, s_kindA_lst, s_kindA_sl, s_kindA_agg, s_kindA_tup, s_kindA_fn, s_kindA_nilm, s_kindA_map, s_kindA_nili, s_kindA_iface, s_kindA_pan, s_refsV_top, s_refsV_any, s_refsV_int, s_refsV_bool, s_refsV_str, s_refsV_nilp, s_refsV_ref, s_refsV_eref, s_refsV_iptr, s_refsV_lst, s_refsV_sl, s_refsV_agg, s_refsV_tup, s_refsV_fn, s_refsV_nilm, s_refsV_map, s_refsV_nili, s_refsV_iface, s_refsV_pan, s_renV_top, s_renV_any, s_renV_int, s_renV_bool, s_renV_str, s_renV_nilp, s_renV_iptr, s_renV_lst, s_renV_agg, s_renV_tup, s_renV_fn, s_renV_nilm, s_renV_nili, s_renV_iface, s_renV_pan, s_plain1_fn, s_plainV_fn, s_flatA_pan, s_regN_some, s_regN_pan, s_regN_none, s_renV_ref, s_renV_map, s_renV_sl, s_renV_eref, s_refsL_nil, s_refsL_cons, s_renL_nil, s_renL_cons, s_noRef_top, s_noRef_any, s_noRef_int, s_noRef_bool, s_noRef_str, s_noRef_nilp, s_noRef_ref, s_noRef_eref, s_noRef_iptr, s_noRef_lst, s_noRef_sl, s_noRef_agg, s_noRef_tup, s_noRef_fn, s_noRef_nilm, s_noRef_map, s_noRef_nili, s_noRef_iface, s_noRef_pan, s_nofn1_top, s_nofn1_any, s_nofn1_int, s_nofn1_bool, s_nofn1_str, s_nofn1_nilp, s_nofn1_ref, s_nofn1_eref, s_nofn1_iptr, s_nofn1_lst, s_nofn1_sl, s_nofn1_agg, s_nofn1_tup, s_nofn1_fn, s_nofn1_nilm, s_nofn1_map, s_nofn1_nili, s_nofn1_iface, s_nofn1_pan, s_nofnV_top, s_nofnV_any, s_nofnV_int, s_nofnV_bool, s_nofnV_str, s_nofnV_nilp, s_nofnV_ref, s_nofnV_eref, s_nofnV_iptr, s_nofnV_lst, s_nofnV_sl, s_nofnV_agg, s_nofnV_tup, s_nofnV_fn, s_nofnV_nilm, s_nofnV_map, s_nofnV_nili, s_nofnV_iface, s_nofnV_pan, s_nofnR_top, s_nofnR_any, s_nofnR_int, s_nofnR_bool, s_nofnR_str, s_nofnR_nilp, s_nofnR_ref, s_nofnR_eref, s_nofnR_iptr, s_nofnR_lst, s_nofnR_sl, s_nofnR_agg, s_nofnR_tup, s_nofnR_fn, s_nofnR_nilm, s_nofnR_map, s_nofnR_nili, s_nofnR_iface, s_nofnR_pan, s_plainR_top, s_plainR_any, s_plainR_int, s_plainR_bool, s_plainR_str, s_plainR_nilp, s_plainR_ref, s_plainR_eref, s_plainR_iptr, s_plainR_lst, s_plainR_sl, s_plainR_agg, s_plainR_tup, s_plainR_nilm, s_plainR_map, s_plainR_nili, s_plainR_iface, s_plainR_pan, s_normR_top, s_normR_any, s_normR_int, s_normR_bool, s_normR_str, s_normR_nilp, s_normR_ref, s_normR_eref, s_normR_iptr, s_normR_lst, s_normR_sl, s_normR_agg, s_normR_tup, s_normR_fn, s_normR_nilm, s_normR_map, s_normR_nili, s_normR_iface, s_normR_pan, s_noRefL_nil, s_noRefL_cons, s_plainR_fn, s_if_and, s_if_or, s_if_nand, s_if_nor, s_if_fand, s_if_for, s_if_fnand, s_if_fnor, ↓reduceIte, out_one, noRefL, clrA, propV, propC, bytesV]
theorem norm_prop (a : PropD) : normV (propV a) = propV a := by
  simp -implicitDefEqProofs only [eq_self, implies_true, forall_const, x_seq, x_cond, evC_block, evC_region, evC_skip, evC_exit, evC_ret, reg_none, runN_nil, runN_cons, runN_guard, kN_some, kN_pan, kN_none, isPan_ite, exI, nsite, freeAt, execI, Opd.ev, tget, tins, tput, keepL, sitesOf, List.map_cons, List.map_nil, List.sum_cons, List.sum_nil, List.length_cons, List.length_nil, List.replicate_zero, List.replicate_succ, List.append_nil, List.nil_append, List.cons_append, List.getElem?_cons_zero, List.getElem?_cons_succ, List.set_cons_zero, List.set_cons_succ, Nat.add_zero, Nat.zero_add, Nat.reduceAdd, Nat.reduceSub, Nat.reduceLT, Nat.reduceLeDiff, Nat.reduceEqDiff, Nat.reduceBEq, Nat.reduceMul, beq_self_eq_true, Bool.true_or, Bool.false_or, Bool.or_true, Bool.or_false, Bool.and_true, Bool.true_and, Bool.and_self, Bool.and_false, Bool.false_and, if_true, if_false, ite_true, ite_false, Bool.false_eq_true, Option.map_some, Option.map_none, and_self, and_true, true_and, and_false, false_and, true_or, or_true, false_or, or_false, not_true_eq_false, not_false_eq_true, List.drop_zero, List.drop_succ_cons, List.take_succ_cons, List.take_zero, ldA, stA, partA, faddrA, setAt, List.all_cons, List.all_nil, binA, arithA, shiftA, strA, unA, seqX_n, seqX_e, seqX_r, seqX_p, condX_b, block_n, block_e, block_r, block_p, pickX_b, gRun_eq, gW_bool, gW_off, gK_some, gSpan, gSkip, unG, sitesOf, ne_eq, Option.some.injEq, reduceCtorEq, decide_true, decide_false, elemsA, bytesOf_map, resA, resAll, resOne, enterA, decide_eq_true_eq, Bool.not_eq_true, Bool.decide_eq_true, ite_exn, ite_exr, ite_exg, ite_slot, ite_val, ite_vcl, seqX_ite, block_ite, fin_ite, evM_ite, evM_e, evM_r, evM_p, reg_some, C_nil, C_cons, C_guard, consC_some, consC_none, consC_ite, appC_some, appC_none, appC_ite, kC_some, kC_pan, kC_none, kC_ite, regC_quiet, regC_none, regC_ite, gKC_some, gKC_ite, gRunC_eq, gWC_bool, gWC_off, ite_exc, blockA_n, blockA_e, blockA_r, blockA_p, List.isEmpty_nil, Bool.not_false, Bool.not_true, List.length_map, Bool.bne_false, Bool.bne_true, ite_tf, ite_ft, ite_tft, ite_ftf, chkA_nil, chkA_cons, pairFree_eq, emptyOp_eq, noWr_eq, regC_some, List.isEmpty_cons, List.getD_cons_zero, List.getD_cons_succ, List.getD_nil, ite_list, ite_int, ite_bool, ite_str, ite_lst, ite_agg, ite_var, ite_row, ite_ref, ite_tt, ite_ee, ite_nt, ite_ne, ite_self, out_tree, fin_ret, fin_normal, fin_panic, s_isPan_top, s_isPan_any, s_isPan_int, s_isPan_bool, s_isPan_str, s_isPan_nilp, s_isPan_ref, s_isPan_eref, s_isPan_iptr, s_isPan_lst, s_isPan_sl, s_isPan_agg, s_isPan_tup, s_isPan_fn, s_isPan_nilm, s_isPan_map, s_isPan_nili, s_isPan_iface, s_isPan_pan, s_okCell_top, s_okCell_any, s_okCell_int, s_okCell_bool, s_okCell_str, s_okCell_nilp, s_okCell_ref, s_okCell_eref, s_okCell_iptr, s_okCell_lst, s_okCell_sl, s_okCell_agg, s_okCell_tup, s_okCell_fn, s_okCell_nilm, s_okCell_map, s_okCell_nili, s_okCell_iface, s_okCell_pan, s_ntop_top, s_ntop_any, s_ntop_int, s_ntop_bool, s_ntop_str, s_ntop_nilp, s_ntop_ref, s_ntop_eref, s_ntop_iptr, s_ntop_lst, s_ntop_sl, s_ntop_agg, s_ntop_tup, s_ntop_fn, s_ntop_nilm, s_ntop_map, s_ntop_nili, s_ntop_iface, s_ntop_pan, s_flat1_top, s_flat1_any, s_flat1_int, s_flat1_bool, s_flat1_str, s_flat1_nilp, s_flat1_ref, s_flat1_eref, s_flat1_iptr, s_flat1_lst, s_flat1_sl, s_flat1_agg, s_flat1_tup, s_flat1_fn, s_flat1_nilm, s_flat1_map, s_flat1_nili, s_flat1_iface, s_flat1_pan, s_flat2_top, s_flat2_any, s_flat2_int, s_flat2_bool, s_flat2_str, s_flat2_nilp, s_flat2_ref, s_flat2_eref, s_flat2_iptr, s_flat2_lst, s_flat2_sl, s_flat2_agg, s_flat2_tup, s_flat2_fn, s_flat2_nilm, s_flat2_map, s_flat2_nili, s_flat2_iface, s_flat2_pan, s_flatA_top, s_flatA_any, s_flatA_int, s_flatA_bool, s_flatA_str, s_flatA_nilp, s_flatA_ref, s_flatA_eref, s_flatA_iptr, s_flatA_lst, s_flatA_sl, s_flatA_agg, s_flatA_tup, s_flatA_fn, s_flatA_nilm, s_flatA_map, s_flatA_nili, s_flatA_iface, s_plain1_top, s_plain1_any, s_plain1_int, s_plain1_bool, s_plain1_str, s_plain1_nilp, s_plain1_ref, s_plain1_eref, s_plain1_iptr, s_plain1_lst, s_plain1_sl, s_plain1_agg, s_plain1_tup, s_plain1_nilm, s_plain1_map, s_plain1_nili, s_plain1_iface, s_plain1_pan, s_plainV_top, s_plainV_any, s_plainV_int, s_plainV_bool, s_plainV_str, s_plainV_nilp, s_plainV_ref, s_plainV_eref, s_plainV_iptr, s_plainV_lst, s_plainV_sl, s_plainV_agg, s_plainV_tup, s_plainV_nilm, s_plainV_map, s_plainV_nili, s_plainV_iface, s_plainV_pan, s_norm1_top, s_norm1_any, s_norm1_int, s_norm1_bool, s_norm1_str, s_norm1_nilp, s_norm1_ref, s_norm1_eref, s_norm1_iptr, s_norm1_lst, s_norm1_sl, s_norm1_agg, s_norm1_tup, s_norm1_fn, s_norm1_nilm, s_norm1_map, s_norm1_nili, s_norm1_iface, s_norm1_pan, s_normV_top, s_normV_any, s_normV_int, s_normV_bool, s_normV_str, s_normV_nilp, s_normV_ref, s_normV_eref, s_normV_iptr, s_normV_lst, s_normV_sl, s_normV_agg, s_normV_tup, s_normV_fn, s_normV_nilm, s_normV_map, s_normV_nili, s_normV_iface, s_normV_pan, s_cells_top, s_cells_any, s_cells_int, s_cells_bool, s_cells_str, s_cells_nilp, s_cells_ref, s_cells_eref, s_cells_iptr, s_cells_lst, s_cells_sl, s_cells_agg, s_cells_tup, s_cells_fn, s_cells_nilm, s_cells_map, s_cells_nili, s_cells_iface, s_cells_pan, s_valOf_top, s_valOf_any, s_valOf_int, s_valOf_bool, s_valOf_str, s_valOf_nilp, s_valOf_ref, s_valOf_eref, s_valOf_iptr, s_valOf_lst, s_valOf_sl, s_valOf_agg, s_valOf_tup, s_valOf_fn, s_valOf_nilm, s_valOf_map, s_valOf_nili, s_valOf_iface, s_valOf_pan, s_kindA_top, s_kindA_any, s_kindA_int, s_kindA_bool, s_kindA_str, s_kindA_nilp, s_kindA_ref, s_kindA_eref, s_kindA_iptr, s_kindA_lst, s_kindA_sl, s_kindA_agg, s_kindA_tup, s_kindA_fn, s_kindA_nilm, s_kindA_map, s_kindA_nili, s_kindA_iface, s_kindA_pan, s_refsV_top, s_refsV_any, s_refsV_int, s_refsV_bool, s_refsV_str, s_refsV_nilp, s_refsV_ref, s_refsV_eref, s_refsV_iptr, s_refsV_lst, s_refsV_sl, s_refsV_agg, s_refsV_tup, s_refsV_fn, s_refsV_nilm, s_refsV_map, s_refsV_nili, s_refsV_iface, s_refsV_pan, s_renV_top, s_renV_any, s_renV_int, s_renV_bool, s_renV_str, s_renV_nilp, s_renV_iptr, s_renV_lst, s_renV_agg, s_renV_tup, s_renV_fn, s_renV_nilm, s_renV_nili, s_renV_iface, s_renV_pan, s_plain1_fn, s_plainV_fn, s_flatA_pan, s_regN_some, s_regN_pan, s_regN_none, s_renV_ref, s_renV_map, s_renV_sl, s_renV_eref, s_refsL_nil, s_refsL_cons, s_renL_nil, s_renL_cons, s_noRef_top, s_noRef_any, s_noRef_int, s_noRef_bool, s_noRef_str, s_noRef_nilp, s_noRef_ref, s_noRef_eref, s_noRef_iptr, s_noRef_lst, s_noRef_sl, s_noRef_agg, s_noRef_tup, s_noRef_fn, s_noRef_nilm, s_noRef_map, s_noRef_nili, s_noRef_iface, s_noRef_pan, s_nofn1_top, s_nofn1_any, s_nofn1_int, s_nofn1_bool, s_nofn1_str, s_nofn1_nilp, s_nofn1_ref, s_nofn1_eref, s_nofn1_iptr, s_nofn1_lst, s_nofn1_sl, s_nofn1_agg, s_nofn1_tup, s_nofn1_fn, s_nofn1_nilm, s_nofn1_map, s_nofn1_nili, s_nofn1_iface, s_nofn1_pan, s_nofnV_top, s_nofnV_any, s_nofnV_int, s_nofnV_bool, s_nofnV_str, s_nofnV_nilp, s_nofnV_ref, s_nofnV_eref, s_nofnV_iptr, s_nofnV_lst, s_nofnV_sl, s_nofnV_agg, s_nofnV_tup, s_nofnV_fn, s_nofnV_nilm, s_nofnV_map, s_nofnV_nili, s_nofnV_iface, s_nofnV_pan, s_nofnR_top, s_nofnR_any, s_nofnR_int, s_nofnR_bool, s_nofnR_str, s_nofnR_nilp, s_nofnR_ref, s_nofnR_eref, s_nofnR_iptr, s_nofnR_lst, s_nofnR_sl, s_nofnR_agg, s_nofnR_tup, s_nofnR_fn, s_nofnR_nilm, s_nofnR_map, s_nofnR_nili, s_nofnR_iface, s_nofnR_pan, s_plainR_top, s_plainR_any, s_plainR_int, s_plainR_bool, s_plainR_str, s_plainR_nilp, s_plainR_ref, s_plainR_eref, s_plainR_iptr, s_plainR_lst, s_plainR_sl, s_plainR_agg, s_plainR_tup, s_plainR_nilm, s_plainR_map, s_plainR_nili, s_plainR_iface, s_plainR_pan, s_normR_top, s_normR_any, s_normR_int, s_normR_bool, s_normR_str, s_normR_nilp, s_normR_ref, s_normR_eref, s_normR_iptr, s_normR_lst, s_normR_sl, s_normR_agg, s_normR_tup, s_normR_fn, s_normR_nilm, s_normR_map, s_normR_nili, s_normR_iface, s_normR_pan, s_noRefL_nil, s_noRefL_cons, s_plainR_fn, s_if_and, s_if_or, s_if_nand, s_if_nor, s_if_fand, s_if_for, s_if_fnand, s_if_fnor, ↓reduceIte, out_one, noRefL, clrA, propV, propC, bytesV]
theorem q_ralikeC (σ : AHeap) (site own : Nat) (view : Bool) (i n : Int) (t p d : Bytes) (i' n' : Int) (t' p' d' : Bytes) : callG E BY σ site 50 own view [.agg [.int .i64 i, .int .i64 n, .str t, .str p, .lst false (d.map byteV)], .agg [.int .i64 i', .int .i64 n', .str t', .str p', .lst false (d'.map byteV)]] = some (.bool (i == i' && n == n' && t == t' && p == p' && d == d'), σ, {}) :=
  call_flat (q_ralike ⟨i, n, t, p, d⟩ ⟨i', n', t', p', d'⟩) (by kernel_rfl) (by simp only [List.all_cons, plain_prop]; rfl) (by simp only [List.map_cons, norm_prop]; rfl) rfl (fun _ => rfl) _ _ _ _
theorem q_rsamel (a b : List PropD) (h : a.length = b.length) (hl : a.length ≤ 9223372036854775807) : ∀ (r s : List PropD) (i : Nat), a.drop i = r → b.drop i = s → K_tidingsref11_Same_l4 0 [(5, .int .i64 i), (1, propsV b), (0, propsV a)] [] = some (.bool (r == s), [])
  | [], s, i, ha, hb => by
    have hs : s = [] := by
      subst hb; rw [List.drop_eq_nil_iff] at ha ⊢; omega
    subst hs
    have h1 := drop_nil ha
    unfold K_tidingsref11_Same_l4
    rw [evL_eq]
    simp -implicitDefEqProofs only [EVS0, EVS1, EVS2, EVS3, EVS4, EVS5, EVS6, EVS7, EVL0, EVL1, ite_tf, ite_ft, ite_tft, ite_ftf, ite_list, ite_tt, ite_ee, ite_nt, ite_ne, eq_self, implies_true, forall_const, exI, nsite, freeAt, execI, Opd.ev, tget, tins, tput, keepL, sitesOf, List.sum_cons, List.sum_nil, Nat.reduceAdd, Nat.reduceSub, Nat.reduceLT, Nat.reduceLeDiff, Nat.reduceEqDiff, Nat.reduceBEq, Nat.reduceMul, beq_self_eq_true, Bool.false_eq_true, ldA, stA, partA, faddrA, setAt, binA, arithA, shiftA, strA, unA, gSpan, gSkip, unG, ne_eq, Option.some.injEq, reduceCtorEq, decide_true, decide_false, elemsA, resA, resAll, resOne, enterA, decide_eq_true_eq, Bool.not_eq_true, Bool.decide_eq_true, ite_self, ↓reduceIte, noRefL, clrA, gcT, gcA, gcIds, reach, rhoOf, heapOf, idxA, genB, newGen, renB, refsB, List.contains_cons, List.range_succ, cb_tidingsref11_Same, b_tidingsref11_Same, cr_tidingsref11_Same, x_tidingsref11_Same_k0, x_tidingsref11_Same_l4, intsV, bytesV, propsV, propV, propC, bytesOf_map, h1]
  | x :: r, [], i, ha, hb => by
    have := (drop_at ha).2.2; rw [List.drop_eq_nil_iff] at hb; omega
  | x :: r, y :: s, i, ha, hb => by
    have ih := q_rsamel a b h hl r s (i + 1) (drop_at ha).2.1 (drop_at hb).2.1
    have h1 : (i : Int) < a.length := by have := (drop_at ha).2.2; omega
    have e1 := iad (drop_at ha).1 propV (k := 5) rfl
    have e2 := iad (drop_at hb).1 propV (k := 5) rfl
    have e3 := wrap_succ h1 hl
    unfold K_tidingsref11_Same_l4 at ih ⊢
    rw [evL_eq]
    simp -implicitDefEqProofs only [EVS0, EVS1, EVS2, EVS3, EVS4, EVS5, EVS6, EVS7, EVL0, EVL1, ite_tf, ite_ft, ite_tft, ite_ftf, ite_list, ite_tt, ite_ee, ite_nt, ite_ne, eq_self, implies_true, forall_const, exI, nsite, freeAt, execI, Opd.ev, tget, tins, tput, keepL, sitesOf, List.sum_cons, List.sum_nil, Nat.reduceAdd, Nat.reduceSub, Nat.reduceLT, Nat.reduceLeDiff, Nat.reduceEqDiff, Nat.reduceBEq, Nat.reduceMul, beq_self_eq_true, Bool.false_eq_true, ldA, stA, partA, faddrA, setAt, binA, arithA, shiftA, strA, unA, gSpan, gSkip, unG, ne_eq, Option.some.injEq, reduceCtorEq, decide_true, decide_false, elemsA, resA, resAll, resOne, enterA, decide_eq_true_eq, Bool.not_eq_true, Bool.decide_eq_true, ite_self, ↓reduceIte, noRefL, clrA, gcT, gcA, gcIds, reach, rhoOf, heapOf, idxA, genB, newGen, renB, refsB, List.contains_cons, List.range_succ, cb_tidingsref11_Same, b_tidingsref11_Same, cr_tidingsref11_Same, x_tidingsref11_Same_k0, x_tidingsref11_Same_l4, intsV, bytesV, propsV, propV, propC, bytesOf_map, h1, e1, e2, e3, q_ralikeC]
    simp only [propsV] at ih
    rw [ih, alike_beq]
    by_cases hx : x = y <;> simp [hx]
theorem q_rsame (a b : List PropD) (hl : a.length ≤ 9223372036854775807) : E 43 [propsV a, propsV b] [] = some (.bool (a == b), []) := by
  rw [E_eq (by rfl) cf_tidingsref11_Same]
  by_cases h : a.length = b.length
  · have := q_rsamel a b h hl a b 0 rfl rfl
    unfold K_tidingsref11_Same_l4 at this
    simp only [propsV] at this
    have e := len_eq h
    simp -implicitDefEqProofs only [EVS0, EVS1, EVS2, EVS3, EVS4, EVS5, EVS6, EVS7, EVL0, EVL1, ite_tf, ite_ft, ite_tft, ite_ftf, ite_list, ite_tt, ite_ee, ite_nt, ite_ne, eq_self, implies_true, forall_const, exI, nsite, freeAt, execI, Opd.ev, tget, tins, tput, keepL, sitesOf, List.sum_cons, List.sum_nil, Nat.reduceAdd, Nat.reduceSub, Nat.reduceLT, Nat.reduceLeDiff, Nat.reduceEqDiff, Nat.reduceBEq, Nat.reduceMul, beq_self_eq_true, Bool.false_eq_true, ldA, stA, partA, faddrA, setAt, binA, arithA, shiftA, strA, unA, gSpan, gSkip, unG, ne_eq, Option.some.injEq, reduceCtorEq, decide_true, decide_false, elemsA, resA, resAll, resOne, enterA, decide_eq_true_eq, Bool.not_eq_true, Bool.decide_eq_true, ite_self, ↓reduceIte, noRefL, clrA, gcT, gcA, gcIds, reach, rhoOf, heapOf, idxA, genB, newGen, renB, refsB, List.contains_cons, List.range_succ, cb_tidingsref11_Same, b_tidingsref11_Same, cr_tidingsref11_Same, x_tidingsref11_Same_k0, x_tidingsref11_Same_l4, intsV, bytesV, propsV, propV, propC, bytesOf_map, e]
    exact this
  · have e := len_ne h
    simp -implicitDefEqProofs only [EVS0, EVS1, EVS2, EVS3, EVS4, EVS5, EVS6, EVS7, EVL0, EVL1, ite_tf, ite_ft, ite_tft, ite_ftf, ite_list, ite_tt, ite_ee, ite_nt, ite_ne, eq_self, implies_true, forall_const, exI, nsite, freeAt, execI, Opd.ev, tget, tins, tput, keepL, sitesOf, List.sum_cons, List.sum_nil, Nat.reduceAdd, Nat.reduceSub, Nat.reduceLT, Nat.reduceLeDiff, Nat.reduceEqDiff, Nat.reduceBEq, Nat.reduceMul, beq_self_eq_true, Bool.false_eq_true, ldA, stA, partA, faddrA, setAt, binA, arithA, shiftA, strA, unA, gSpan, gSkip, unG, ne_eq, Option.some.injEq, reduceCtorEq, decide_true, decide_false, elemsA, resA, resAll, resOne, enterA, decide_eq_true_eq, Bool.not_eq_true, Bool.decide_eq_true, ite_self, ↓reduceIte, noRefL, clrA, gcT, gcA, gcIds, reach, rhoOf, heapOf, idxA, genB, newGen, renB, refsB, List.contains_cons, List.range_succ, cb_tidingsref11_Same, b_tidingsref11_Same, cr_tidingsref11_Same, x_tidingsref11_Same_k0, x_tidingsref11_Same_l4, intsV, bytesV, propsV, propV, propC, bytesOf_map, e, beq_len h]
theorem q_rsameC (σ : AHeap) (site own : Nat) (view : Bool) (a b : List PropD) (hl : a.length ≤ 9223372036854775807) : callG E BY σ site 43 own view [.lst false (a.map propV), .lst false (b.map propV)] = some (.bool (a == b), σ, {}) :=
  call_flat (q_rsame a b hl) (by kernel_rfl) (by simp -implicitDefEqProofs only [EVS0, EVS1, EVS2, EVS3, EVS4, EVS5, EVS6, EVS7, EVL0, EVL1, eq_self, implies_true, Bool.false_eq_true, intsV, bytesV, propsV, propV, propC, intsV]) (by simp -implicitDefEqProofs only [EVS0, EVS1, EVS2, EVS3, EVS4, EVS5, EVS6, EVS7, EVL0, EVL1, eq_self, implies_true, Bool.false_eq_true, intsV, bytesV, propsV, propV, propC, intsV]) rfl (fun _ => rfl) _ _ _ _
end Go.Proofs.YtaaflagbhneakaaDoor
namespace Go.Proofs.YtaaflagbhneakaaDoor
set_option linter.unusedSimpArgs false
set_option linter.unusedVariables false
set_option maxHeartbeats 2000000
set_option maxRecDepth 10000
theorem q_beq (a b : Bytes) : E 46 [bytesV a, bytesV b] [] = some (.bool (a == b), []) := by
  rw [E_eq (by rfl) cf_bytes_Equal]
  simp -implicitDefEqProofs only [EVS0, EVS1, EVS2, EVS3, EVS4, EVS5, EVS6, EVS7, EVL0, EVL1, ite_tf, ite_ft, ite_tft, ite_ftf, ite_list, ite_tt, ite_ee, ite_nt, ite_ne, eq_self, implies_true, forall_const, exI, nsite, freeAt, execI, Opd.ev, tget, tins, tput, keepL, sitesOf, List.sum_cons, List.sum_nil, Nat.reduceAdd, Nat.reduceSub, Nat.reduceLT, Nat.reduceLeDiff, Nat.reduceEqDiff, Nat.reduceBEq, Nat.reduceMul, beq_self_eq_true, Bool.false_eq_true, ldA, stA, partA, faddrA, setAt, binA, arithA, shiftA, strA, unA, gSpan, gSkip, unG, ne_eq, Option.some.injEq, reduceCtorEq, decide_true, decide_false, elemsA, resA, resAll, resOne, enterA, decide_eq_true_eq, Bool.not_eq_true, Bool.decide_eq_true, ite_self, ↓reduceIte, noRefL, clrA, gcT, gcA, gcIds, reach, rhoOf, heapOf, idxA, genB, newGen, renB, refsB, List.contains_cons, List.range_succ, cb_bytes_Equal, b_bytes_Equal, cr_bytes_Equal, intsV, bytesV, propsV, propV, propC, bytesOf_map, bytesOf_map]
theorem q_beqC (σ : AHeap) (site own : Nat) (view : Bool) (a b : Bytes) : callG E BY σ site 46 own view [.lst false (a.map byteV), .lst false (b.map byteV)] = some (.bool (a == b), σ, {}) :=
  call_flat (q_beq a b) (by kernel_rfl) (by simp -implicitDefEqProofs only [EVS0, EVS1, EVS2, EVS3, EVS4, EVS5, EVS6, EVS7, EVL0, EVL1, eq_self, implies_true, Bool.false_eq_true, intsV, bytesV, propsV, propV, propC, intsV]) (by simp -implicitDefEqProofs only [EVS0, EVS1, EVS2, EVS3, EVS4, EVS5, EVS6, EVS7, EVL0, EVL1, eq_self, implies_true, Bool.false_eq_true, intsV, bytesV, propsV, propV, propC, intsV]) rfl (fun _ => rfl) _ _ _ _
end Go.Proofs.YtaaflagbhneakaaDoor
namespace Go.Proofs.YtaaflagbhneakaaDoor
set_option linter.unusedSimpArgs false
set_option linter.unusedVariables false
set_option maxHeartbeats 4000000
set_option maxRecDepth 10000
structure NoteD where
  topic : Bytes
  payload : Bytes
  qos : Int
  retain : Bool
  sender : Bytes
  expires : Int
  props : List PropD
  origin : Int
  number : Int
  hops : Int
  deriving DecidableEq
structure ItemD where
  note : NoteD
  qos : Int
  retain : Bool
  ids : List Int
  share : Bytes
  deriving DecidableEq
def noteC (n : NoteD) : List AVal := [.str n.topic, bytesV n.payload, .int .i64 n.qos, .bool n.retain, .str n.sender, .int .i64 n.expires, propsV n.props, .int .i64 n.origin, .int .i64 n.number, .int .i64 n.hops]
def noteV (n : NoteD) : AVal := .agg (noteC n)
def itemC (n : ItemD) : List AVal := [.str n.note.topic, bytesV n.note.payload, .int .i64 n.note.qos, .bool n.note.retain, .str n.note.sender, .int .i64 n.note.expires, propsV n.note.props, .int .i64 n.note.origin, .int .i64 n.note.number, .int .i64 n.note.hops, .int .i64 n.qos, .bool n.retain, intsV n.ids, .str n.share]
def itemV (n : ItemD) : AVal := .agg (itemC n)
def nsameB (a b : NoteD) : Bool := a.topic == b.topic && a.payload == b.payload && a.qos == b.qos && a.retain == b.retain && a.sender == b.sender && a.expires == b.expires && a.props == b.props && a.origin == b.origin && a.number == b.number && a.hops == b.hops
theorem q_rnsame (a b : NoteD) (hl : a.props.length ≤ 9223372036854775807) : E 32 [noteV a, noteV b] [] = some (.bool (nsameB a b), []) := by
  rw [E_eq (by rfl) cf_tidingsref19_Same]
  simp -implicitDefEqProofs only [EVS0, EVS1, EVS2, EVS3, EVS4, EVS5, EVS6, EVS7, EVL0, EVL1, ite_tf, ite_ft, ite_tft, ite_ftf, ite_list, ite_tt, ite_ee, ite_nt, ite_ne, eq_self, implies_true, forall_const, exI, nsite, freeAt, execI, Opd.ev, tget, tins, tput, keepL, sitesOf, List.sum_cons, List.sum_nil, Nat.reduceAdd, Nat.reduceSub, Nat.reduceLT, Nat.reduceLeDiff, Nat.reduceEqDiff, Nat.reduceBEq, Nat.reduceMul, beq_self_eq_true, Bool.false_eq_true, ldA, stA, partA, faddrA, setAt, binA, arithA, shiftA, strA, unA, gSpan, gSkip, unG, ne_eq, Option.some.injEq, reduceCtorEq, decide_true, decide_false, elemsA, resA, resAll, resOne, enterA, decide_eq_true_eq, Bool.not_eq_true, Bool.decide_eq_true, ite_self, ↓reduceIte, noRefL, clrA, gcT, gcA, gcIds, reach, rhoOf, heapOf, idxA, genB, newGen, renB, refsB, List.contains_cons, List.range_succ, cb_tidingsref19_Same, b_tidingsref19_Same, cr_tidingsref19_Same, intsV, bytesV, propsV, propV, propC, bytesOf_map, noteV, noteC, q_rsameC, hl, nsameB]
theorem q_rnsameC (σ : AHeap) (site own : Nat) (view : Bool) (a b : NoteD) (hl : a.props.length ≤ 9223372036854775807) : callG E BY σ site 32 own view [.agg [.str a.topic, .lst false (a.payload.map byteV), .int .i64 a.qos, .bool a.retain, .str a.sender, .int .i64 a.expires, .lst false (a.props.map propV), .int .i64 a.origin, .int .i64 a.number, .int .i64 a.hops], .agg [.str b.topic, .lst false (b.payload.map byteV), .int .i64 b.qos, .bool b.retain, .str b.sender, .int .i64 b.expires, .lst false (b.props.map propV), .int .i64 b.origin, .int .i64 b.number, .int .i64 b.hops]] = some (.bool (nsameB a b), σ, {}) :=
  call_flat (q_rnsame a b hl) (by kernel_rfl) (by simp -implicitDefEqProofs only [EVS0, EVS1, EVS2, EVS3, EVS4, EVS5, EVS6, EVS7, EVL0, EVL1, eq_self, implies_true, Bool.false_eq_true, intsV, bytesV, propsV, propV, propC, noteV, noteC]) (by simp -implicitDefEqProofs only [EVS0, EVS1, EVS2, EVS3, EVS4, EVS5, EVS6, EVS7, EVL0, EVL1, eq_self, implies_true, Bool.false_eq_true, intsV, bytesV, propsV, propV, propC, noteV, noteC]) rfl (fun _ => rfl) _ _ _ _
end Go.Proofs.YtaaflagbhneakaaDoor
