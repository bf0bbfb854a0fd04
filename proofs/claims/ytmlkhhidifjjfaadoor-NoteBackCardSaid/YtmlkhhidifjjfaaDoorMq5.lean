/- The card of NoteBack: for every input the law returns true, and each argument reads afterwards as it read before. No other condition; the tables of unicode/utf8 are tied to the program. -/
import Derived.Test.YtmlkhhidifjjfaaDoorMq4
import Derived.Test.YtmlkhhidifjjfaaDoorMq2
import Derived.Test.YtmlkhhidifjjfaaDoorMq3
import Derived.Lib.TrimAscii
import Derived.Test.YtmlkhhidifjjfaaDoorProg
import Derived.Shelf.Unicode.ValidAny
import Derived.Lib.LaidU8T
import Derived.Test.YtmlkhhidifjjfaaDoorRows
import Derived.Deep.Slices
import Derived.Test.YtmlkhhidifjjfaaDoorCards
import Derived.Test.YtmlkhhidifjjfaaDoorTie
import Derived.WalkKit
import Derived.ProofKit
import Derived.OpenShut
import Derived.ShutString
import Derived.ChangeOld
import Derived.Below
import Derived.SevenTiedAt
import Derived.LaidByTextLater
import Derived.Lib.LaidIn
import Derived.Deep.DeepHandedRow
import Derived.MakeChecks
namespace Go.Proofs.YtmlkhhidifjjfaaDoor
set_option linter.unusedSimpArgs false
set_option linter.unusedVariables false
set_option maxHeartbeats 16000000
set_option maxRecDepth 10000
theorem takeF_le (n : Nat) (c : CurD) : (takeF n c).1.length ≤ n := by
  unfold takeF
  split
  · simp
  · simp; omega
theorem num_1 {b : Bytes} (h : b.length ≤ 1) : 0 ≤ numI b ∧ numI b ≤ 255 := by
  have := getU1 b h
  unfold numI
  rw [wrap_nat (by omega) (by omega)]
  omega
theorem q_ritl1 (b : Bytes) (hb : b.length ≤ 140737488355328) (nt : NoteD) (hnt : OkNote nt) (q : Int) (rt : Bool) (n : Nat) (hn : n ≤ 300) : ∀ (m i : Nat) (ids : List Int) (c : CurD) (f : Bool), i + m = n → 0 < ids.length → ids.length ≤ i → c.b.length ≤ 140737488355328 →
    K_note_ReadItem_l7 0 [(42, .int .i64 i), (41, .int .i64 (n : Nat)), (8, .bool f), (7, .ref 0 0), (4, .ref 2 0), (2, .ref 3 0), (0, .lst false (b.map byteV))] [.var (itC nt q rt (.sl 1 0 0 (ids.map (AVal.int .i64)).length) []), .row 0 1 (ids.map (AVal.int .i64)), .var [.lst false (c.b.map byteV), .bool c.short], .var itZ] = some (itR (endI b nt q rt (ids ++ (idsF m c f).1) (idsF m c f).2.1 (idsF m c f).2.2))
  | 0, i, ids, c, f, h, h0, hi, hc => by
    simp only [idsF, List.append_nil]
    exact q_ritE1 b hb nt hnt q rt ids h0 (by omega) c hc f i n (by omega)
  | m + 1, i, ids, c, f, h, h0, hi, hc => by
    have hl := (takeF_len 4 c).2
    have ih := fun f' => q_ritl1 b hb nt hnt q rt n hn m (i + 1) (ids ++ [numI (takeF 4 c).1]) (takeF 4 c).2 f' (by omega) (by simp) (by simp; omega) (by omega)
    have hT := fun σ site hs => q_cnumC 4 (by omega) c hc σ 2 site hs
    have z4 : ((4 : Nat) : Int) = 4 := rfl
    rw [z4] at hT
    have h1 : (i : Int) < (n : Int) := by omega
    have hw : IntKind.i64.wrap ((i : Int) + 1) = ((i + 1 : Nat) : Int) := by rw [wrap_nat (by omega) (by omega)]; rfl
    simp only [idsF]
    simp only [List.append_assoc, List.singleton_append] at ih
    generalize numI (takeF 4 c).1 = x at *
    generalize (takeF 4 c).2 = c' at *
    simp only [List.map_append, List.map_cons, List.map_nil, List.length_append, List.length_cons, List.length_nil, Nat.zero_add] at ih
    have hXl : (ids.map (AVal.int .i64)).length = ids.length := by simp
    have hk : kOk 1 [AVal.int .i64 x] = true := rfl
    have k2 : ((ids.map (AVal.int .i64)).length + 1) * 8 ≤ 140737488355328 := by rw [hXl]; omega
    generalize ids.map (AVal.int .i64) = X at *
    unfold itC itZ at ih ⊢
    unfold K_note_ReadItem_l7 at ih ⊢
    cases f
    · have ih := ih false
      simp only [Bool.false_and] at ih ⊢
      rw [evL_eq]
      simp -implicitDefEqProofs only [EVS0, EVS1, EVS2, EVS3, EVS4, EVS5, EVS6, EVS7, EVL0, EVL1, ite_tf, ite_ft, ite_tft, ite_ftf, ite_list, ite_tt, ite_ee, ite_nt, ite_ne, eq_self, implies_true, forall_const, exI, nsite, freeAt, execI, Opd.ev, tget, tins, tput, keepL, sitesOf, List.sum_cons, List.sum_nil, Nat.reduceAdd, Nat.reduceSub, Nat.reduceLT, Nat.reduceLeDiff, Nat.reduceEqDiff, Nat.reduceBEq, Nat.reduceMul, beq_self_eq_true, Bool.false_eq_true, ldA, stA, partA, faddrA, setAt, binA, arithA, shiftA, strA, unA, gSpan, gSkip, unG, ne_eq, Option.some.injEq, reduceCtorEq, decide_true, decide_false, elemsA, resA, resAll, resOne, enterA, decide_eq_true_eq, Bool.not_eq_true, Bool.decide_eq_true, ite_self, ↓reduceIte, noRefL, clrA, gcT, gcA, gcIds, reach, rhoOf, heapOf, idxA, genB, newGen, renB, refsB, List.contains_cons, List.range_succ, cb_note_ReadItem, b_note_ReadItem, cr_note_ReadItem, x_note_ReadItem_k0, d_note_ReadItem_k0, x_note_ReadItem_l7, d_note_ReadItem_l7, oI, oN, intsV, bytesV, propsV, propV, propC, bytesOf_map, h1, hT, hw, hk, k2, fillA, setAt, AVal.cells, faddrA, appA, viewAs, viewA, viewA1, viewsA, freezeA, List.foldl_cons, List.foldl_nil, List.length_singleton, Nat.one_mul, Nat.le_refl]
      exact ih
    · by_cases c1 : x ≥ 1
      · by_cases c2 : x ≤ 268435455
        · have ih := ih true
          have d1 : (true && decide (x ≥ 1) && decide (x ≤ 268435455)) = true := by simp [c1, c2]
          rw [d1]
          rw [evL_eq]
          simp -implicitDefEqProofs only [EVS0, EVS1, EVS2, EVS3, EVS4, EVS5, EVS6, EVS7, EVL0, EVL1, ite_tf, ite_ft, ite_tft, ite_ftf, ite_list, ite_tt, ite_ee, ite_nt, ite_ne, eq_self, implies_true, forall_const, exI, nsite, freeAt, execI, Opd.ev, tget, tins, tput, keepL, sitesOf, List.sum_cons, List.sum_nil, Nat.reduceAdd, Nat.reduceSub, Nat.reduceLT, Nat.reduceLeDiff, Nat.reduceEqDiff, Nat.reduceBEq, Nat.reduceMul, beq_self_eq_true, Bool.false_eq_true, ldA, stA, partA, faddrA, setAt, binA, arithA, shiftA, strA, unA, gSpan, gSkip, unG, ne_eq, Option.some.injEq, reduceCtorEq, decide_true, decide_false, elemsA, resA, resAll, resOne, enterA, decide_eq_true_eq, Bool.not_eq_true, Bool.decide_eq_true, ite_self, ↓reduceIte, noRefL, clrA, gcT, gcA, gcIds, reach, rhoOf, heapOf, idxA, genB, newGen, renB, refsB, List.contains_cons, List.range_succ, cb_note_ReadItem, b_note_ReadItem, cr_note_ReadItem, x_note_ReadItem_k0, d_note_ReadItem_k0, x_note_ReadItem_l7, d_note_ReadItem_l7, oI, oN, intsV, bytesV, propsV, propV, propC, bytesOf_map, h1, hT, hw, hk, k2, c1, c2, fillA, setAt, AVal.cells, faddrA, appA, viewAs, viewA, viewA1, viewsA, freezeA, List.foldl_cons, List.foldl_nil, List.length_singleton, Nat.one_mul, Nat.le_refl]
          exact ih
        · have ih := ih false
          have d1 : (true && decide (x ≥ 1) && decide (x ≤ 268435455)) = false := by simp [c2]
          rw [d1]
          rw [evL_eq]
          simp -implicitDefEqProofs only [EVS0, EVS1, EVS2, EVS3, EVS4, EVS5, EVS6, EVS7, EVL0, EVL1, ite_tf, ite_ft, ite_tft, ite_ftf, ite_list, ite_tt, ite_ee, ite_nt, ite_ne, eq_self, implies_true, forall_const, exI, nsite, freeAt, execI, Opd.ev, tget, tins, tput, keepL, sitesOf, List.sum_cons, List.sum_nil, Nat.reduceAdd, Nat.reduceSub, Nat.reduceLT, Nat.reduceLeDiff, Nat.reduceEqDiff, Nat.reduceBEq, Nat.reduceMul, beq_self_eq_true, Bool.false_eq_true, ldA, stA, partA, faddrA, setAt, binA, arithA, shiftA, strA, unA, gSpan, gSkip, unG, ne_eq, Option.some.injEq, reduceCtorEq, decide_true, decide_false, elemsA, resA, resAll, resOne, enterA, decide_eq_true_eq, Bool.not_eq_true, Bool.decide_eq_true, ite_self, ↓reduceIte, noRefL, clrA, gcT, gcA, gcIds, reach, rhoOf, heapOf, idxA, genB, newGen, renB, refsB, List.contains_cons, List.range_succ, cb_note_ReadItem, b_note_ReadItem, cr_note_ReadItem, x_note_ReadItem_k0, d_note_ReadItem_k0, x_note_ReadItem_l7, d_note_ReadItem_l7, oI, oN, intsV, bytesV, propsV, propV, propC, bytesOf_map, h1, hT, hw, hk, k2, c1, c2, fillA, setAt, AVal.cells, faddrA, appA, viewAs, viewA, viewA1, viewsA, freezeA, List.foldl_cons, List.foldl_nil, List.length_singleton, Nat.one_mul, Nat.le_refl]
          exact ih
      · have ih := ih false
        have d1 : (true && decide (x ≥ 1) && decide (x ≤ 268435455)) = false := by simp [c1]
        rw [d1]
        rw [evL_eq]
        simp -implicitDefEqProofs only [EVS0, EVS1, EVS2, EVS3, EVS4, EVS5, EVS6, EVS7, EVL0, EVL1, ite_tf, ite_ft, ite_tft, ite_ftf, ite_list, ite_tt, ite_ee, ite_nt, ite_ne, eq_self, implies_true, forall_const, exI, nsite, freeAt, execI, Opd.ev, tget, tins, tput, keepL, sitesOf, List.sum_cons, List.sum_nil, Nat.reduceAdd, Nat.reduceSub, Nat.reduceLT, Nat.reduceLeDiff, Nat.reduceEqDiff, Nat.reduceBEq, Nat.reduceMul, beq_self_eq_true, Bool.false_eq_true, ldA, stA, partA, faddrA, setAt, binA, arithA, shiftA, strA, unA, gSpan, gSkip, unG, ne_eq, Option.some.injEq, reduceCtorEq, decide_true, decide_false, elemsA, resA, resAll, resOne, enterA, decide_eq_true_eq, Bool.not_eq_true, Bool.decide_eq_true, ite_self, ↓reduceIte, noRefL, clrA, gcT, gcA, gcIds, reach, rhoOf, heapOf, idxA, genB, newGen, renB, refsB, List.contains_cons, List.range_succ, cb_note_ReadItem, b_note_ReadItem, cr_note_ReadItem, x_note_ReadItem_k0, d_note_ReadItem_k0, x_note_ReadItem_l7, d_note_ReadItem_l7, oI, oN, intsV, bytesV, propsV, propV, propC, bytesOf_map, h1, hT, hw, hk, k2, c1, fillA, setAt, AVal.cells, faddrA, appA, viewAs, viewA, viewA1, viewsA, freezeA, List.foldl_cons, List.foldl_nil, List.length_singleton, Nat.one_mul, Nat.le_refl]
        exact ih
theorem q_ritl0 (b : Bytes) (hb : b.length ≤ 140737488355328) (nt : NoteD) (hnt : OkNote nt) (q : Int) (rt : Bool) (n : Nat) (hn : n ≤ 300) (c : CurD) (f : Bool) (hc : c.b.length ≤ 140737488355328) :
    K_note_ReadItem_l7 0 [(42, .int .i64 0), (41, .int .i64 (n : Nat)), (8, .bool f), (7, .ref 0 0), (4, .ref 1 0), (2, .ref 2 0), (0, .lst false (b.map byteV))] [.var (itC nt q rt (.lst true []) []), .var [.lst false (c.b.map byteV), .bool c.short], .var itZ] = some (itR (endI b nt q rt (idsF n c f).1 (idsF n c f).2.1 (idsF n c f).2.2)) := by
  cases n with
  | zero => exact q_ritE0 b hb nt hnt q rt c hc f 0 0 (by omega)
  | succ m =>
    have hl := (takeF_len 4 c).2
    have ih := fun f' => q_ritl1 b hb nt hnt q rt (m + 1) hn m 1 [numI (takeF 4 c).1] (takeF 4 c).2 f' (by omega) (by simp) (by simp) (by omega)
    have hT := fun σ site hs => q_cnumC 4 (by omega) c hc σ 1 site hs
    have z4 : ((4 : Nat) : Int) = 4 := rfl
    have z1 : ((1 : Nat) : Int) = 1 := rfl
    rw [z4] at hT
    have h1 : (0 : Int) < ((m + 1 : Nat) : Int) := by omega
    have hw : IntKind.i64.wrap (0 + 1) = 1 := rfl
    simp only [idsF]
    simp only [List.singleton_append, z1, List.map_cons, List.map_nil, List.length_cons, List.length_nil, Nat.zero_add] at ih
    generalize numI (takeF 4 c).1 = x at *
    generalize (takeF 4 c).2 = c' at *
    have hk : kOk 1 [AVal.int .i64 x] = true := rfl
    have k2 : 1 * 8 ≤ 140737488355328 := by omega
    unfold itC itZ at ih ⊢
    unfold K_note_ReadItem_l7 at ih ⊢
    generalize ((m + 1 : Nat) : Int) = N at *
    cases f
    · have ih := ih false
      simp only [Bool.false_and] at ih ⊢
      rw [evL_eq]
      simp -implicitDefEqProofs only [EVS0, EVS1, EVS2, EVS3, EVS4, EVS5, EVS6, EVS7, EVL0, EVL1, ite_tf, ite_ft, ite_tft, ite_ftf, ite_list, ite_tt, ite_ee, ite_nt, ite_ne, eq_self, implies_true, forall_const, exI, nsite, freeAt, execI, Opd.ev, tget, tins, tput, keepL, sitesOf, List.sum_cons, List.sum_nil, Nat.reduceAdd, Nat.reduceSub, Nat.reduceLT, Nat.reduceLeDiff, Nat.reduceEqDiff, Nat.reduceBEq, Nat.reduceMul, beq_self_eq_true, Bool.false_eq_true, ldA, stA, partA, faddrA, setAt, binA, arithA, shiftA, strA, unA, gSpan, gSkip, unG, ne_eq, Option.some.injEq, reduceCtorEq, decide_true, decide_false, elemsA, resA, resAll, resOne, enterA, decide_eq_true_eq, Bool.not_eq_true, Bool.decide_eq_true, ite_self, ↓reduceIte, noRefL, clrA, gcT, gcA, gcIds, reach, rhoOf, heapOf, idxA, genB, newGen, renB, refsB, List.contains_cons, List.range_succ, cb_note_ReadItem, b_note_ReadItem, cr_note_ReadItem, x_note_ReadItem_k0, d_note_ReadItem_k0, x_note_ReadItem_l7, d_note_ReadItem_l7, oI, oN, intsV, bytesV, propsV, propV, propC, bytesOf_map, h1, hT, hw, hk, k2, fillA, setAt, AVal.cells, faddrA, appA, viewAs, viewA, viewA1, viewsA, freezeA, List.foldl_cons, List.foldl_nil, List.length_singleton, Nat.one_mul, Nat.le_refl, Nat.reduceMul, Nat.reduceLeDiff]
      exact ih
    · by_cases c1 : x ≥ 1
      · by_cases c2 : x ≤ 268435455
        · have ih := ih true
          have d1 : (true && decide (x ≥ 1) && decide (x ≤ 268435455)) = true := by simp [c1, c2]
          rw [d1]
          rw [evL_eq]
          simp -implicitDefEqProofs only [EVS0, EVS1, EVS2, EVS3, EVS4, EVS5, EVS6, EVS7, EVL0, EVL1, ite_tf, ite_ft, ite_tft, ite_ftf, ite_list, ite_tt, ite_ee, ite_nt, ite_ne, eq_self, implies_true, forall_const, exI, nsite, freeAt, execI, Opd.ev, tget, tins, tput, keepL, sitesOf, List.sum_cons, List.sum_nil, Nat.reduceAdd, Nat.reduceSub, Nat.reduceLT, Nat.reduceLeDiff, Nat.reduceEqDiff, Nat.reduceBEq, Nat.reduceMul, beq_self_eq_true, Bool.false_eq_true, ldA, stA, partA, faddrA, setAt, binA, arithA, shiftA, strA, unA, gSpan, gSkip, unG, ne_eq, Option.some.injEq, reduceCtorEq, decide_true, decide_false, elemsA, resA, resAll, resOne, enterA, decide_eq_true_eq, Bool.not_eq_true, Bool.decide_eq_true, ite_self, ↓reduceIte, noRefL, clrA, gcT, gcA, gcIds, reach, rhoOf, heapOf, idxA, genB, newGen, renB, refsB, List.contains_cons, List.range_succ, cb_note_ReadItem, b_note_ReadItem, cr_note_ReadItem, x_note_ReadItem_k0, d_note_ReadItem_k0, x_note_ReadItem_l7, d_note_ReadItem_l7, oI, oN, intsV, bytesV, propsV, propV, propC, bytesOf_map, h1, hT, hw, hk, k2, c1, c2, fillA, setAt, AVal.cells, faddrA, appA, viewAs, viewA, viewA1, viewsA, freezeA, List.foldl_cons, List.foldl_nil, List.length_singleton, Nat.one_mul, Nat.le_refl, Nat.reduceMul, Nat.reduceLeDiff]
          exact ih
        · have ih := ih false
          have d1 : (true && decide (x ≥ 1) && decide (x ≤ 268435455)) = false := by simp [c2]
          rw [d1]
          rw [evL_eq]
          simp -implicitDefEqProofs only [EVS0, EVS1, EVS2, EVS3, EVS4, EVS5, EVS6, EVS7, EVL0, EVL1, ite_tf, ite_ft, ite_tft, ite_ftf, ite_list, ite_tt, ite_ee, ite_nt, ite_ne, eq_self, implies_true, forall_const, exI, nsite, freeAt, execI, Opd.ev, tget, tins, tput, keepL, sitesOf, List.sum_cons, List.sum_nil, Nat.reduceAdd, Nat.reduceSub, Nat.reduceLT, Nat.reduceLeDiff, Nat.reduceEqDiff, Nat.reduceBEq, Nat.reduceMul, beq_self_eq_true, Bool.false_eq_true, ldA, stA, partA, faddrA, setAt, binA, arithA, shiftA, strA, unA, gSpan, gSkip, unG, ne_eq, Option.some.injEq, reduceCtorEq, decide_true, decide_false, elemsA, resA, resAll, resOne, enterA, decide_eq_true_eq, Bool.not_eq_true, Bool.decide_eq_true, ite_self, ↓reduceIte, noRefL, clrA, gcT, gcA, gcIds, reach, rhoOf, heapOf, idxA, genB, newGen, renB, refsB, List.contains_cons, List.range_succ, cb_note_ReadItem, b_note_ReadItem, cr_note_ReadItem, x_note_ReadItem_k0, d_note_ReadItem_k0, x_note_ReadItem_l7, d_note_ReadItem_l7, oI, oN, intsV, bytesV, propsV, propV, propC, bytesOf_map, h1, hT, hw, hk, k2, c1, c2, fillA, setAt, AVal.cells, faddrA, appA, viewAs, viewA, viewA1, viewsA, freezeA, List.foldl_cons, List.foldl_nil, List.length_singleton, Nat.one_mul, Nat.le_refl, Nat.reduceMul, Nat.reduceLeDiff]
          exact ih
      · have ih := ih false
        have d1 : (true && decide (x ≥ 1) && decide (x ≤ 268435455)) = false := by simp [c1]
        rw [d1]
        rw [evL_eq]
        simp -implicitDefEqProofs only [EVS0, EVS1, EVS2, EVS3, EVS4, EVS5, EVS6, EVS7, EVL0, EVL1, ite_tf, ite_ft, ite_tft, ite_ftf, ite_list, ite_tt, ite_ee, ite_nt, ite_ne, eq_self, implies_true, forall_const, exI, nsite, freeAt, execI, Opd.ev, tget, tins, tput, keepL, sitesOf, List.sum_cons, List.sum_nil, Nat.reduceAdd, Nat.reduceSub, Nat.reduceLT, Nat.reduceLeDiff, Nat.reduceEqDiff, Nat.reduceBEq, Nat.reduceMul, beq_self_eq_true, Bool.false_eq_true, ldA, stA, partA, faddrA, setAt, binA, arithA, shiftA, strA, unA, gSpan, gSkip, unG, ne_eq, Option.some.injEq, reduceCtorEq, decide_true, decide_false, elemsA, resA, resAll, resOne, enterA, decide_eq_true_eq, Bool.not_eq_true, Bool.decide_eq_true, ite_self, ↓reduceIte, noRefL, clrA, gcT, gcA, gcIds, reach, rhoOf, heapOf, idxA, genB, newGen, renB, refsB, List.contains_cons, List.range_succ, cb_note_ReadItem, b_note_ReadItem, cr_note_ReadItem, x_note_ReadItem_k0, d_note_ReadItem_k0, x_note_ReadItem_l7, d_note_ReadItem_l7, oI, oN, intsV, bytesV, propsV, propV, propC, bytesOf_map, h1, hT, hw, hk, k2, c1, fillA, setAt, AVal.cells, faddrA, appA, viewAs, viewA, viewA1, viewsA, freezeA, List.foldl_cons, List.foldl_nil, List.length_singleton, Nat.one_mul, Nat.le_refl, Nat.reduceMul, Nat.reduceLeDiff]
        exact ih
theorem noteZ_ok : OkNote noteZ := ⟨by simp [noteZ], by simp [noteZ], by simp [noteZ], by simp [noteZ], by simp [noteZ], by simp [noteZ]⟩
theorem readN_ok (b : Bytes) : OkNote (readN b).1 := by
  unfold readN
  split
  · exact noteZ_ok
  · exact noteF_ok _
structure Four where
  d : Bytes × CurD
  m : Bytes × CurD
  k : Bytes × CurD
def fourF (b : Bytes) : Four :=
  let d := cdataF ⟨b, false⟩
  let m := takeF 1 d.2
  ⟨d, m, takeF 1 m.2⟩
def fineF (x : Four) : Bool := decide (and3 (numI x.m.1) < 3) && ((readN x.d.1).2 == 0)
def readitF (b : Bytes) : ItemD × Int :=
  let x := fourF b
  let z := idsF (numI x.k.1).toNat x.k.2 (fineF x)
  endI b (readN x.d.1).1 (and3 (numI x.m.1)) (and4 (numI x.m.1) != 0) z.1 z.2.1 z.2.2
theorem q_nreadit (b : Bytes) (hb : b.length ≤ 140737488355328) : E 23 [bytesV b] [] = some (itR (readitF b)) := by
  have l1 : (fourF b).d.2.b.length ≤ b.length := cdataF_len ⟨b, false⟩
  have l1' : (fourF b).d.1.length ≤ 65535 := getData_len b
  have l2 : (fourF b).m.2.b.length ≤ (fourF b).d.2.b.length := (takeF_len 1 _).2
  have l3 : (fourF b).k.2.b.length ≤ (fourF b).m.2.b.length := (takeF_len 1 _).2
  have l4 : 0 ≤ numI (fourF b).k.1 ∧ numI (fourF b).k.1 ≤ 255 := num_1 (takeF_le 1 (fourF b).m.2)
  have h1 := fun σ t site hs => q_cdataC ⟨b, false⟩ hb σ t site hs
  have h2 := fun σ site own f => q_nreadC σ site own f (fourF b).d.1 (by omega)
  have h3 := fun σ t site hs => q_nmarksC (fourF b).d.2 (by omega) σ t site hs
  have h4 := fun σ t site hs => q_cnumC 1 (by omega) (fourF b).m.2 (by omega) σ t site hs
  have z1 : ((1 : Nat) : Int) = 1 := rfl
  have hok := readN_ok (fourF b).d.1
  have key := fun f => q_ritl0 b hb (readN (fourF b).d.1).1 hok (and3 (numI (fourF b).m.1)) (and4 (numI (fourF b).m.1) != 0) (numI (fourF b).k.1).toNat (by omega) (fourF b).k.2 f (by omega)
  have e4 : (((numI (fourF b).k.1).toNat : Nat) : Int) = numI (fourF b).k.1 := by omega
  have e1 : cdataF ⟨b, false⟩ = (fourF b).d := rfl
  have e2 : takeF 1 (fourF b).d.2 = (fourF b).m := rfl
  have e3 : takeF 1 (fourF b).m.2 = (fourF b).k := rfl
  rw [e1] at h1
  rw [e2] at h3
  rw [e3, z1] at h4
  rw [e4] at key
  unfold readitF fineF
  simp only at h1 ⊢
  unfold readV at h2
  clear hok l1 l1' l2 l3 l4 e4 e1 e2 e3
  generalize fourF b = x at *
  obtain ⟨⟨d1, ⟨d2, d3⟩⟩, ⟨m1, ⟨m2, m3⟩⟩, ⟨k1, ⟨k2, k3⟩⟩⟩ := x
  simp only at h1 h2 h3 h4 key ⊢
  generalize readN d1 = rn at *
  obtain ⟨nt, e⟩ := rn
  simp only at h2 key ⊢
  unfold itC itZ at key
  unfold K_note_ReadItem_l7 at key
  generalize and3 (numI m1) = q at *
  cases he : (e == 0)
  · have key := key false
    simp only [Bool.and_false]
    rw [E_eq (by rfl) cf_note_ReadItem]
    by_cases c1 : q < 3
    · simp -implicitDefEqProofs only [EVS0, EVS1, EVS2, EVS3, EVS4, EVS5, EVS6, EVS7, EVL0, EVL1, ite_tf, ite_ft, ite_tft, ite_ftf, ite_list, ite_tt, ite_ee, ite_nt, ite_ne, eq_self, implies_true, forall_const, exI, nsite, freeAt, execI, Opd.ev, tget, tins, tput, keepL, sitesOf, List.sum_cons, List.sum_nil, Nat.reduceAdd, Nat.reduceSub, Nat.reduceLT, Nat.reduceLeDiff, Nat.reduceEqDiff, Nat.reduceBEq, Nat.reduceMul, beq_self_eq_true, Bool.false_eq_true, ldA, stA, partA, faddrA, setAt, binA, arithA, shiftA, strA, unA, gSpan, gSkip, unG, ne_eq, Option.some.injEq, reduceCtorEq, decide_true, decide_false, elemsA, resA, resAll, resOne, enterA, decide_eq_true_eq, Bool.not_eq_true, Bool.decide_eq_true, ite_self, ↓reduceIte, noRefL, clrA, gcT, gcA, gcIds, reach, rhoOf, heapOf, idxA, genB, newGen, renB, refsB, List.contains_cons, List.range_succ, cb_note_ReadItem, b_note_ReadItem, cr_note_ReadItem, x_note_ReadItem_k0, d_note_ReadItem_k0, x_note_ReadItem_l7, d_note_ReadItem_l7, oI, oN, intsV, bytesV, propsV, propV, propC, bytesOf_map, h1, h2, h3, h4, he, c1, fillA, setAt, AVal.cells, faddrA, reg_some, regC_some, chkA_cons, chkA_nil, pairFree_eq, emptyOp_eq, noWr_eq, List.getD_cons_zero, List.getD_cons_succ, isCallI, isLdI, gotOk, same1, List.lookup_cons, List.lookup_nil]
      exact key
    · simp -implicitDefEqProofs only [EVS0, EVS1, EVS2, EVS3, EVS4, EVS5, EVS6, EVS7, EVL0, EVL1, ite_tf, ite_ft, ite_tft, ite_ftf, ite_list, ite_tt, ite_ee, ite_nt, ite_ne, eq_self, implies_true, forall_const, exI, nsite, freeAt, execI, Opd.ev, tget, tins, tput, keepL, sitesOf, List.sum_cons, List.sum_nil, Nat.reduceAdd, Nat.reduceSub, Nat.reduceLT, Nat.reduceLeDiff, Nat.reduceEqDiff, Nat.reduceBEq, Nat.reduceMul, beq_self_eq_true, Bool.false_eq_true, ldA, stA, partA, faddrA, setAt, binA, arithA, shiftA, strA, unA, gSpan, gSkip, unG, ne_eq, Option.some.injEq, reduceCtorEq, decide_true, decide_false, elemsA, resA, resAll, resOne, enterA, decide_eq_true_eq, Bool.not_eq_true, Bool.decide_eq_true, ite_self, ↓reduceIte, noRefL, clrA, gcT, gcA, gcIds, reach, rhoOf, heapOf, idxA, genB, newGen, renB, refsB, List.contains_cons, List.range_succ, cb_note_ReadItem, b_note_ReadItem, cr_note_ReadItem, x_note_ReadItem_k0, d_note_ReadItem_k0, x_note_ReadItem_l7, d_note_ReadItem_l7, oI, oN, intsV, bytesV, propsV, propV, propC, bytesOf_map, h1, h2, h3, h4, he, c1, fillA, setAt, AVal.cells, faddrA, reg_some, regC_some, chkA_cons, chkA_nil, pairFree_eq, emptyOp_eq, noWr_eq, List.getD_cons_zero, List.getD_cons_succ, isCallI, isLdI, gotOk, same1, List.lookup_cons, List.lookup_nil]
      exact key
  · rw [E_eq (by rfl) cf_note_ReadItem]
    by_cases c1 : q < 3
    · have key := key true
      simp only [c1, decide_true, Bool.and_self]
      simp -implicitDefEqProofs only [EVS0, EVS1, EVS2, EVS3, EVS4, EVS5, EVS6, EVS7, EVL0, EVL1, ite_tf, ite_ft, ite_tft, ite_ftf, ite_list, ite_tt, ite_ee, ite_nt, ite_ne, eq_self, implies_true, forall_const, exI, nsite, freeAt, execI, Opd.ev, tget, tins, tput, keepL, sitesOf, List.sum_cons, List.sum_nil, Nat.reduceAdd, Nat.reduceSub, Nat.reduceLT, Nat.reduceLeDiff, Nat.reduceEqDiff, Nat.reduceBEq, Nat.reduceMul, beq_self_eq_true, Bool.false_eq_true, ldA, stA, partA, faddrA, setAt, binA, arithA, shiftA, strA, unA, gSpan, gSkip, unG, ne_eq, Option.some.injEq, reduceCtorEq, decide_true, decide_false, elemsA, resA, resAll, resOne, enterA, decide_eq_true_eq, Bool.not_eq_true, Bool.decide_eq_true, ite_self, ↓reduceIte, noRefL, clrA, gcT, gcA, gcIds, reach, rhoOf, heapOf, idxA, genB, newGen, renB, refsB, List.contains_cons, List.range_succ, cb_note_ReadItem, b_note_ReadItem, cr_note_ReadItem, x_note_ReadItem_k0, d_note_ReadItem_k0, x_note_ReadItem_l7, d_note_ReadItem_l7, oI, oN, intsV, bytesV, propsV, propV, propC, bytesOf_map, h1, h2, h3, h4, he, c1, fillA, setAt, AVal.cells, faddrA, reg_some, regC_some, chkA_cons, chkA_nil, pairFree_eq, emptyOp_eq, noWr_eq, List.getD_cons_zero, List.getD_cons_succ, isCallI, isLdI, gotOk, same1, List.lookup_cons, List.lookup_nil]
      exact key
    · have key := key false
      simp only [c1, decide_false, Bool.false_and]
      simp -implicitDefEqProofs only [EVS0, EVS1, EVS2, EVS3, EVS4, EVS5, EVS6, EVS7, EVL0, EVL1, ite_tf, ite_ft, ite_tft, ite_ftf, ite_list, ite_tt, ite_ee, ite_nt, ite_ne, eq_self, implies_true, forall_const, exI, nsite, freeAt, execI, Opd.ev, tget, tins, tput, keepL, sitesOf, List.sum_cons, List.sum_nil, Nat.reduceAdd, Nat.reduceSub, Nat.reduceLT, Nat.reduceLeDiff, Nat.reduceEqDiff, Nat.reduceBEq, Nat.reduceMul, beq_self_eq_true, Bool.false_eq_true, ldA, stA, partA, faddrA, setAt, binA, arithA, shiftA, strA, unA, gSpan, gSkip, unG, ne_eq, Option.some.injEq, reduceCtorEq, decide_true, decide_false, elemsA, resA, resAll, resOne, enterA, decide_eq_true_eq, Bool.not_eq_true, Bool.decide_eq_true, ite_self, ↓reduceIte, noRefL, clrA, gcT, gcA, gcIds, reach, rhoOf, heapOf, idxA, genB, newGen, renB, refsB, List.contains_cons, List.range_succ, cb_note_ReadItem, b_note_ReadItem, cr_note_ReadItem, x_note_ReadItem_k0, d_note_ReadItem_k0, x_note_ReadItem_l7, d_note_ReadItem_l7, oI, oN, intsV, bytesV, propsV, propV, propC, bytesOf_map, h1, h2, h3, h4, he, c1, fillA, setAt, AVal.cells, faddrA, reg_some, regC_some, chkA_cons, chkA_nil, pairFree_eq, emptyOp_eq, noWr_eq, List.getD_cons_zero, List.getD_cons_succ, isCallI, isLdI, gotOk, same1, List.lookup_cons, List.lookup_nil]
      exact key
theorem view_itR (x : ItemD × Int) (hx : x.2 ≠ 0 → x = (itemZ, x.2)) : resV 0 (some (itR x)) = some (.tup [.agg (itC x.1.note x.1.qos x.1.retain (.lst false (x.1.ids.map (AVal.int .i64))) x.1.share), .int .i64 x.2], []) := by
  unfold itR
  by_cases h : x.2 = 0
  · rw [if_pos h, h]
    cases hids : x.1.ids with
    | nil =>
      simp [growV, growH, itC, resV, viewR, viewAs, viewA, viewsA, viewA1, freezeA, gcA, gcIds, reach, refsL, refsV, renL, renV, heapOf]
    | cons a l =>
      simp only [List.map_cons, growV_cons, growH_cons]
      generalize AVal.int .i64 a :: l.map (AVal.int .i64) = X
      simp [itC, resV, viewR, viewAs, viewA, viewsA, viewA1, elemsA, freezeA, gcA, gcIds, reach, refsL, refsV, renL, renV, heapOf]
  · rw [if_neg h, hx h]
    rfl
theorem readitF_err (b : Bytes) : (readitF b).2 ≠ 0 → readitF b = (itemZ, (readitF b).2) := by
  unfold readitF endI
  simp only
  intro h
  split at h
  · rename_i hc; rw [if_pos hc]
  · simp at h
theorem q_nreaditC (σ : AHeap) (site own : Nat) (f : Bool) (b : Bytes) (hb : b.length ≤ 140737488355328) : callG E BY σ site 23 own true [.lst f (b.map byteV)] = some (.tup [.agg [.str (readitF b).1.note.topic, .lst false ((readitF b).1.note.payload.map byteV), .int .i64 (readitF b).1.note.qos, .bool (readitF b).1.note.retain, .str (readitF b).1.note.sender, .int .i64 (readitF b).1.note.expires, .lst false ((readitF b).1.note.props.map propV), .int .i64 (readitF b).1.note.origin, .int .i64 (readitF b).1.note.number, .int .i64 (readitF b).1.note.hops, .int .i64 (readitF b).1.qos, .bool (readitF b).1.retain, .lst false ((readitF b).1.ids.map (.int .i64 ·)), .str (readitF b).1.share], .int .i64 (readitF b).2], σ, {}) := by
  rw [callG_plain (by kernel_rfl) rfl]
  have hm : [AVal.lst f (b.map byteV)].map normV = [bytesV b] := rfl
  rw [hm, q_nreadit b hb]
  have : askO true 0 (some (itR (readitF b))) = _ := (if_pos rfl).trans (view_itR _ (readitF_err b))
  rw [this]
  rw [backG_plain _ _ _ _ rfl]
  rfl
end Go.Proofs.YtmlkhhidifjjfaaDoor
namespace Go.Proofs.YtmlkhhidifjjfaaDoor
set_option linter.unusedSimpArgs false
set_option linter.unusedVariables false
set_option maxHeartbeats 4000000
set_option maxRecDepth 10000
def isameB (a b : ItemD) : Bool := nsameB a.note b.note && a.qos == b.qos && a.retain == b.retain && a.ids == b.ids && a.share == b.share
theorem q_isame (a b : ItemD) (hl : a.note.props.length ≤ 9223372036854775807) (hi : a.ids.length ≤ 9223372036854775807) : E 31 [itemV a, itemV b] [] = some (.bool (isameB a b), []) := by
  rw [E_eq (by rfl) cf_note_SameItem]
  simp -implicitDefEqProofs only [EVS0, EVS1, EVS2, EVS3, EVS4, EVS5, EVS6, EVS7, EVL0, EVL1, ite_tf, ite_ft, ite_tft, ite_ftf, ite_list, ite_tt, ite_ee, ite_nt, ite_ne, eq_self, implies_true, forall_const, exI, nsite, freeAt, execI, Opd.ev, tget, tins, tput, keepL, sitesOf, List.sum_cons, List.sum_nil, Nat.reduceAdd, Nat.reduceSub, Nat.reduceLT, Nat.reduceLeDiff, Nat.reduceEqDiff, Nat.reduceBEq, Nat.reduceMul, beq_self_eq_true, Bool.false_eq_true, ldA, stA, partA, faddrA, setAt, binA, arithA, shiftA, strA, unA, gSpan, gSkip, unG, ne_eq, Option.some.injEq, reduceCtorEq, decide_true, decide_false, elemsA, resA, resAll, resOne, enterA, decide_eq_true_eq, Bool.not_eq_true, Bool.decide_eq_true, ite_self, ↓reduceIte, noRefL, clrA, gcT, gcA, gcIds, reach, rhoOf, heapOf, idxA, genB, newGen, renB, refsB, List.contains_cons, List.range_succ, cb_note_SameItem, b_note_SameItem, cr_note_SameItem, oI, oN, intsV, bytesV, propsV, propV, propC, bytesOf_map, itemV, itemC, q_nsameC, q_ieqC, hl, hi, isameB]
theorem q_isameC (σ : AHeap) (site own : Nat) (view : Bool) (a b : ItemD) (hl : a.note.props.length ≤ 9223372036854775807) (hi : a.ids.length ≤ 9223372036854775807) : callG E BY σ site 31 own view [.agg [.str a.note.topic, .lst false (a.note.payload.map byteV), .int .i64 a.note.qos, .bool a.note.retain, .str a.note.sender, .int .i64 a.note.expires, .lst false (a.note.props.map propV), .int .i64 a.note.origin, .int .i64 a.note.number, .int .i64 a.note.hops, .int .i64 a.qos, .bool a.retain, .lst false (a.ids.map (.int .i64 ·)), .str a.share], .agg [.str b.note.topic, .lst false (b.note.payload.map byteV), .int .i64 b.note.qos, .bool b.note.retain, .str b.note.sender, .int .i64 b.note.expires, .lst false (b.note.props.map propV), .int .i64 b.note.origin, .int .i64 b.note.number, .int .i64 b.note.hops, .int .i64 b.qos, .bool b.retain, .lst false (b.ids.map (.int .i64 ·)), .str b.share]] = some (.bool (isameB a b), σ, {}) :=
  call_flat (q_isame a b hl hi) (by kernel_rfl) (by simp -implicitDefEqProofs only [EVS0, EVS1, EVS2, EVS3, EVS4, EVS5, EVS6, EVS7, EVL0, EVL1, eq_self, implies_true, Bool.false_eq_true, intsV, bytesV, propsV, propV, propC, itemV, itemC]) (by simp -implicitDefEqProofs only [EVS0, EVS1, EVS2, EVS3, EVS4, EVS5, EVS6, EVS7, EVL0, EVL1, eq_self, implies_true, Bool.false_eq_true, intsV, bytesV, propsV, propV, propC, itemV, itemC]) rfl (fun _ => rfl) _ _ _ _
end Go.Proofs.YtmlkhhidifjjfaaDoor
namespace Go.Proofs.YtmlkhhidifjjfaaDoor
set_option linter.unusedSimpArgs false
set_option linter.unusedVariables false
set_option maxHeartbeats 4000000
set_option maxRecDepth 100000
theorem q_wakes : E 29 [] [] = some (.bool true, []) := EV_some.2 ⟨30, by kernel_rfl⟩
end Go.Proofs.YtmlkhhidifjjfaaDoor
namespace Go.Proofs.YtmlkhhidifjjfaaDoor
set_option linter.unusedSimpArgs false
set_option linter.unusedVariables false
set_option maxHeartbeats 8000000
set_option maxRecDepth 10000
/-! ### numbers -/
theorem getA_append (x : Nat) (a b : Bytes) : getA x (a ++ b) = getA (getA x a) b := by
  unfold getA; rw [List.foldl_append]
theorem getA_beB : ∀ (w n : Nat), w ≤ 8 → n < 256 ^ w → getA 0 (beB n w) = n
  | 0, n, _, h => by simp at h; subst h; rfl
  | w + 1, n, hw, h => by
    have h1 : n / 256 < 256 ^ w := by rw [Nat.pow_succ] at h; omega
    have ih := getA_beB w (n / 256) (by omega) h1
    have h2 : 256 ^ w ≤ 256 ^ 7 := Nat.pow_le_pow_right (by decide) (by omega)
    rw [beB, getA_append, ih, getA_cons, getA_nil, UInt8.toNat_ofNat']
    have h3 : (256 : Nat) ^ 7 = 72057594037927936 := rfl
    omega
theorem getU_beB {w n : Nat} (hw : w ≤ 8) (h : n < 256 ^ w) : getU (beB n w) = n := getA_beB w n hw h
theorem numI_beB {w n : Nat} (hw : w ≤ 8) (h : n < 256 ^ w) (h2 : n ≤ 9223372036854775807) : numI (beB n w) = (n : Int) := by
  unfold numI
  rw [getU_beB hw h, wrap_nat (by omega) (by omega)]
/-! ### bytes and texts with their lengths -/
theorem getData_lay (b rest : Bytes) (h : b.length ≤ 65535) : getDataF ((dataF b).1 ++ rest) = (b, 2 + b.length, 0) := by
  have hd : (dataF b).1 = beB b.length 2 ++ b := by unfold dataF; rw [if_neg (by omega)]
  have hl := beB_len 2 b.length
  have ht : (beB b.length 2 ++ b ++ rest).take 2 = beB b.length 2 := by
    rw [List.append_assoc]; exact List.take_left' hl
  have hdr : (beB b.length 2 ++ b ++ rest).drop 2 = b ++ rest := by
    rw [List.append_assoc]; exact List.drop_left' hl
  have hu : getU (beB b.length 2) = b.length := getU_beB (by decide) (by omega)
  unfold getDataF
  rw [hd, ht, hu, hdr, if_neg, List.take_left]
  simp only [List.length_append, hl]
  omega
theorem getText_lay (s rest : Bytes) (ht : textB s = true) (h : s.length ≤ 65535) : getTextF ((textF s).1 ++ rest) = (s, 2 + s.length, 0) := by
  have e : (textF s).1 = (dataF s).1 := by unfold textF; rw [if_pos ht]
  have hg := getData_lay s rest h
  unfold getTextF
  rw [e, hg]
  simp only [ne_eq, not_true_eq_false, if_false, ht, if_true]
theorem data_len {b : Bytes} (h : b.length ≤ 65535) : (dataF b).1.length = 2 + b.length := by
  unfold dataF; rw [if_neg (by omega)]; simp [beB_len]
theorem text_len {s : Bytes} (ht : textB s = true) (h : s.length ≤ 65535) : (textF s).1.length = 2 + s.length := by
  unfold textF; rw [if_pos ht]; exact data_len h
theorem takeF_lay (a rest : Bytes) : takeF a.length ⟨a ++ rest, false⟩ = (a, ⟨rest, false⟩) := by
  unfold takeF
  rw [if_neg (by simp)]
  simp
theorem ctext_lay (s rest : Bytes) (ht : textB s = true) (h : s.length ≤ 65535) : ctextF ⟨(textF s).1 ++ rest, false⟩ = (s, ⟨rest, false⟩) := by
  have hg := getText_lay s rest ht h
  unfold ctextF
  simp only
  rw [hg]
  have := takeF_lay (textF s).1 rest
  rw [text_len ht h] at this
  simp only [Bool.false_or, bne_self_eq_false, this]
theorem cdata_lay (s rest : Bytes) (h : s.length ≤ 65535) : cdataF ⟨(dataF s).1 ++ rest, false⟩ = (s, ⟨rest, false⟩) := by
  have hg := getData_lay s rest h
  unfold cdataF
  simp only
  rw [hg]
  have := takeF_lay (dataF s).1 rest
  rw [data_len h] at this
  simp only [Bool.false_or, bne_self_eq_false, this]
/-! ### numbers in base 128 -/
theorem gvA_varL : ∀ (k n i acc : Nat) (rest : Bytes), i + k ≤ 3 → n < 128 ^ (k + 1) → (0 < i → 0 < n) → gvA i acc (varL k n ++ rest) = (acc + n * 128 ^ i, i + (varL k n).length, 0)
  | 0, n, i, acc, rest, hi, hn, hp => by
    have h1 : (UInt8.ofNat n).toNat = n := by rw [UInt8.toNat_ofNat']; omega
    have h2 : n % 128 = n := by omega
    unfold varL
    rw [List.singleton_append]
    unfold gvA
    rw [if_neg (by omega), h1, if_pos (by omega), if_neg, h2]
    · rfl
    · rintro ⟨a, b⟩
      have := hp b
      have := congrArg UInt8.toNat a
      rw [h1] at this
      simp at this; omega
  | k + 1, n, i, acc, rest, hi, hn, hp => by
    unfold varL
    by_cases h : n < 128
    · have h1 : (UInt8.ofNat n).toNat = n := by rw [UInt8.toNat_ofNat']; omega
      have h2 : n % 128 = n := by omega
      rw [if_pos h, List.singleton_append]
      unfold gvA
      rw [if_neg (by omega), h1, if_pos (by omega), if_neg, h2]
      · rfl
      · rintro ⟨a, b⟩
        have := hp b
        have := congrArg UInt8.toNat a
        rw [h1] at this
        simp at this; omega
    · have h1 : (UInt8.ofNat (n % 128 + 128)).toNat = n % 128 + 128 := by rw [UInt8.toNat_ofNat']; omega
      have hd : n / 128 < 128 ^ (k + 1) := by rw [Nat.pow_succ] at hn; omega
      have ih := gvA_varL k (n / 128) (i + 1) (acc + n % 128 * 128 ^ i) rest (by omega) hd (by omega)
      rw [if_neg h, List.cons_append]
      unfold gvA
      rw [if_neg (by omega), h1, if_neg (by omega)]
      have h3 : (n % 128 + 128) % 128 = n % 128 := by omega
      rw [h3, ih, List.length_cons, Nat.pow_succ]
      have h4 : n = n / 128 * 128 + n % 128 := by omega
      refine Prod.ext ?_ (Prod.ext ?_ rfl)
      · simp only
        conv => rhs; rw [h4]
        rw [Nat.add_mul, Nat.mul_assoc, Nat.mul_comm 128 (128 ^ i)]
        omega
      · simp only; omega
theorem getVar_lay (n : Nat) (rest : Bytes) (h : n < 268435456) : getVarF ((varF (n : Int)).1 ++ rest) = (n, (varF (n : Int)).1.length, 0) := by
  have e : (varF (n : Int)).1 = varL 3 n := by
    unfold varF
    rw [if_neg (by omega)]
    rfl
  have := gvA_varL 3 n 0 0 rest (by omega) h (by omega)
  rw [e]
  unfold getVarF
  rw [this]
  simp
/-! ### properties -/
theorem u64N_nat {x : Int} (h0 : 0 ≤ x) (h : x < 18446744073709551616) : u64N x = x.toNat := by unfold u64N; omega
theorem textF_ok {s : Bytes} (h : (textF s).2 = 0) : textB s = true ∧ s.length ≤ 65535 := by
  unfold textF at h
  split at h
  · rename_i ht
    unfold dataF at h
    split at h
    · simp at h
    · exact ⟨ht, by omega⟩
  · simp at h
theorem dataF_ok {s : Bytes} (h : (dataF s).2 = 0) : s.length ≤ 65535 := by
  unfold dataF at h
  split at h
  · simp at h
  · omega
def canonP (k : Int) (p : PropD) : Prop :=
  if k = 1 ∨ k = 2 ∨ k = 3 ∨ k = 4 then p.text = [] ∧ p.pair = [] ∧ p.data = [] else if k = 5 then p.num = 0 ∧ p.pair = [] ∧ p.data = []
  else if k = 6 then p.num = 0 ∧ p.text = [] ∧ p.pair = [] else p.num = 0 ∧ p.data = []
theorem numV_lay (id num : Int) (W : Nat) (rest : Bytes) (hW : W ≤ 4) (h0 : 0 ≤ num) (h : num.toNat < 256 ^ W) : numV id W (beB (u64N num) W ++ rest) = (⟨id, num, [], [], []⟩, W, true) := by
  have hb : 256 ^ W ≤ 256 ^ 4 := Nat.pow_le_pow_right (by decide) hW
  have e4 : (256 : Nat) ^ 4 = 4294967296 := rfl
  have hu : u64N num = num.toNat := u64N_nat h0 (by omega)
  have hl := beB_len W (u64N num)
  unfold numV
  rw [if_neg (by simp [hl]), List.take_left' hl, getU_beB (by omega) (by rw [hu]; exact h), hu]
  have : ((num.toNat : Nat) : Int) = num := by omega
  rw [this]
theorem value_lay (p : PropD) (rest : Bytes) (hok : okV (kindI p.id) p = true) (hc : canonP (kindI p.id) p) (h0 : kindI p.id ≠ 0) : valueF p.id (valB p ++ rest) = (p, (valB p).length, true) := by
  obtain ⟨id, num, text, pair, data⟩ := p
  unfold valueF valB
  simp only at hok hc h0 ⊢
  rcases kind_cases id with e | e | e | e | e | e | e | e
  · exact absurd e h0
  all_goals rw [e] at hok hc ⊢
  · simp only [okV, if_true, Bool.and_eq_true, decide_eq_true_eq] at hok
    obtain ⟨rfl, rfl, rfl⟩ : text = [] ∧ pair = [] ∧ data = [] := hc
    have := numV_lay id num 1 rest (by omega) (by omega) (by omega)
    simp only [valueK, laidK, if_true, List.append_nil, beB_len]
    exact this
  · simp only [okV, show ¬ ((2 : Int) = 1) by decide, if_false, if_true, Bool.and_eq_true, decide_eq_true_eq] at hok
    obtain ⟨rfl, rfl, rfl⟩ : text = [] ∧ pair = [] ∧ data = [] := hc
    have := numV_lay id num 2 rest (by omega) (by omega) (by omega)
    simp only [valueK, laidK, show ¬ ((2 : Int) = 1) by decide, if_false, if_true, List.append_nil, beB_len]
    exact this
  · simp only [okV, show ¬ ((3 : Int) = 1) by decide, show ¬ ((3 : Int) = 2) by decide, if_false, if_true, Bool.and_eq_true, decide_eq_true_eq] at hok
    obtain ⟨rfl, rfl, rfl⟩ : text = [] ∧ pair = [] ∧ data = [] := hc
    have := numV_lay id num 4 rest (by omega) (by omega) (by omega)
    simp only [valueK, laidK, show ¬ ((3 : Int) = 1) by decide, show ¬ ((3 : Int) = 2) by decide, if_false, if_true, List.append_nil, beB_len]
    exact this
  · simp only [okV, show ¬ ((4 : Int) = 1) by decide, show ¬ ((4 : Int) = 2) by decide, show ¬ ((4 : Int) = 3) by decide, if_false, if_true, beq_iff_eq] at hok
    obtain ⟨rfl, rfl, rfl⟩ : text = [] ∧ pair = [] ∧ data = [] := hc
    have hr : 0 ≤ num ∧ num ≤ 268435455 := by
      unfold varF at hok
      split at hok
      · simp at hok
      · omega
    have := getVar_lay num.toNat rest (by omega)
    have e1 : ((num.toNat : Nat) : Int) = num := by omega
    rw [e1] at this
    simp only [valueK, laidK, show ¬ ((4 : Int) = 1) by decide, show ¬ ((4 : Int) = 2) by decide, show ¬ ((4 : Int) = 3) by decide, if_false, if_true, List.append_nil, this, e1, beq_self_eq_true]
  · simp only [okV, show ¬ ((5 : Int) = 1) by decide, show ¬ ((5 : Int) = 2) by decide, show ¬ ((5 : Int) = 3) by decide, show ¬ ((5 : Int) = 4) by decide, if_false, if_true, beq_iff_eq] at hok
    obtain ⟨rfl, rfl, rfl⟩ : num = 0 ∧ pair = [] ∧ data = [] := hc
    obtain ⟨t1, t2⟩ := textF_ok hok
    have := getText_lay text rest t1 t2
    simp only [valueK, laidK, show ¬ ((5 : Int) = 1) by decide, show ¬ ((5 : Int) = 2) by decide, show ¬ ((5 : Int) = 3) by decide, show ¬ ((5 : Int) = 4) by decide, if_false, if_true, List.append_nil, this, text_len t1 t2, beq_self_eq_true]
  · simp only [okV, show ¬ ((6 : Int) = 1) by decide, show ¬ ((6 : Int) = 2) by decide, show ¬ ((6 : Int) = 3) by decide, show ¬ ((6 : Int) = 4) by decide, show ¬ ((6 : Int) = 5) by decide, if_false, if_true, beq_iff_eq] at hok
    obtain ⟨rfl, rfl, rfl⟩ : num = 0 ∧ text = [] ∧ pair = [] := hc
    have t2 := dataF_ok hok
    have := getData_lay data rest t2
    simp only [valueK, laidK, show ¬ ((6 : Int) = 1) by decide, show ¬ ((6 : Int) = 2) by decide, show ¬ ((6 : Int) = 3) by decide, show ¬ ((6 : Int) = 4) by decide, show ¬ ((6 : Int) = 5) by decide, if_false, if_true, List.append_nil, this, data_len t2, beq_self_eq_true]
  · simp only [okV, show ¬ ((7 : Int) = 1) by decide, show ¬ ((7 : Int) = 2) by decide, show ¬ ((7 : Int) = 3) by decide, show ¬ ((7 : Int) = 4) by decide, show ¬ ((7 : Int) = 5) by decide, show ¬ ((7 : Int) = 6) by decide, if_false, if_true, Bool.and_eq_true, beq_iff_eq] at hok
    obtain ⟨rfl, rfl⟩ : num = 0 ∧ data = [] := hc
    obtain ⟨t1, t2⟩ := textF_ok hok.1
    obtain ⟨t3, t4⟩ := textF_ok hok.2
    have g1 := getText_lay text ((textF pair).1 ++ rest) t1 t2
    have g2 := getText_lay pair rest t3 t4
    have l1 := text_len t1 t2
    have l2 := text_len t3 t4
    have hd : ((textF text).1 ++ ((textF pair).1 ++ rest)).drop (2 + text.length) = (textF pair).1 ++ rest := List.drop_left' l1
    simp only [valueK, laidK, show ¬ ((7 : Int) = 1) by decide, show ¬ ((7 : Int) = 2) by decide, show ¬ ((7 : Int) = 3) by decide, show ¬ ((7 : Int) = 4) by decide, show ¬ ((7 : Int) = 5) by decide, show ¬ ((7 : Int) = 6) by decide, if_false, if_true, pairV, List.append_assoc, g1, hd, g2, beq_self_eq_true, List.length_append, l1, l2]
/-- a property that may stand where it stands -/
structure GoodAt (w : Int) (acc : List PropD) (p : PropD) : Prop where
  good : goodB p = true
  may : mayB p.id w = true
  canon : canonP (kindI p.id) p
  fits : fitsB p.id p.num = true
  dup : ((findP p.id acc).isSome && !oftenB p.id w) = false
theorem one_lay {w : Int} {acc : List PropD} {p : PropD} (h : GoodAt w acc p) (rest : Bytes) : oneF w (laidF p ++ rest) acc = (p, (laidF p).length, 0) := by
  have hT : inTab p.id := by
    refine Decidable.byContradiction fun hT => ?_
    have := h.may
    rw [may_not hT w] at this
    cases this
  obtain ⟨t1, t2, t3⟩ := tab_kind hT
  have hok : okV (kindI p.id) p = true := by
    have := h.good
    unfold goodB at this
    simp only [Bool.and_eq_true] at this
    exact this.2
  have e : laidF p = (varF p.id).1 ++ valB p := rfl
  have g := getVar_lay p.id.toNat (valB p ++ rest) (by omega)
  have ei : ((p.id.toNat : Nat) : Int) = p.id := by omega
  rw [ei, ← List.append_assoc, ← e] at g
  have hv := value_lay p rest hok h.canon t3
  have hd : (laidF p ++ rest).drop (varF p.id).1.length = valB p ++ rest := by
    rw [e, List.append_assoc]; exact List.drop_left' rfl
  unfold oneF
  rw [g]
  simp only
  rw [ei, hd, hv, h.may]
  rw [if_neg (by simp)]
  unfold oneK
  simp only [h.dup, h.fits, Bool.false_eq_true, if_false, if_true, Bool.true_eq_false]
  rw [e, List.length_append]
def GoodSeq (w : Int) : List PropD → List PropD → Prop
  | _, [] => True
  | acc, p :: r => GoodAt w acc p ∧ GoodSeq w (acc ++ [p]) r
theorem laidF_pos (p : PropD) (h : ¬ (p.id < 1 ∨ p.id > 127)) : 0 < (laidF p).length := by rw [laid_good h]; simp
theorem good_id {p : PropD} (h : goodB p = true) : ¬ (p.id < 1 ∨ p.id > 127) := by
  unfold goodB at h
  simp only [Bool.and_eq_true, Bool.not_eq_true', Bool.or_eq_false_iff, decide_eq_false_iff_not] at h
  exact fun hc => hc.elim h.1.1 h.1.2
theorem readL_lay (w : Int) : ∀ (l acc : List PropD) (n : Nat), GoodSeq w acc l → (l.map laidF).flatten.length ≤ n → readL w n (l.map laidF).flatten acc = (acc ++ l, 0)
  | [], acc, n, _, _ => by simp [readL_nil]
  | p :: r, acc, n, h, hn => by
    obtain ⟨h1, h2⟩ := h
    have hp := laidF_pos p (good_id h1.good)
    simp only [List.map_cons, List.flatten_cons, List.length_append] at hn ⊢
    obtain ⟨n, rfl⟩ : ∃ m, n = m + 1 := ⟨n - 1, by omega⟩
    have ho := one_lay h1 (r.map laidF).flatten
    obtain ⟨c, t, hct⟩ : ∃ c t, laidF p ++ (r.map laidF).flatten = c :: t := by
      cases hl : laidF p with
      | nil => rw [hl] at hp; simp at hp
      | cons c t => exact ⟨c, _, rfl⟩
    rw [hct, readL_cons, ← hct, ho]
    simp only [if_true, List.drop_left' rfl]
    rw [readL_lay w r (acc ++ [p]) n h2 (by omega)]
    simp
theorem readF_lay (w : Int) (l : List PropD) (h : GoodSeq w [] l) (hb : (l.map laidF).flatten.length < 268435456) : readF w ((varF ((l.map laidF).flatten.length : Nat)).1 ++ (l.map laidF).flatten) = (l, (varF ((l.map laidF).flatten.length : Nat)).1.length + (l.map laidF).flatten.length, 0) := by
  generalize hB : (l.map laidF).flatten = b at *
  have g := getVar_lay b.length b hb
  have hr := readL_lay w l [] b.length h (by rw [hB]; exact Nat.le_refl _)
  rw [hB, List.nil_append] at hr
  have hs : (((varF (b.length : Nat)).1 ++ b).take ((varF (b.length : Nat)).1.length + b.length)).drop (varF (b.length : Nat)).1.length = b := by
    rw [List.take_of_length_le (by simp)]
    exact List.drop_left' rfl
  unfold readF
  rw [g]
  simp only
  rw [if_neg (by simp; omega), hs, hr]
  simp
theorem layF_lay (w : Int) (l : List PropD) (h : GoodSeq w [] l) (hb : (l.map laidF).flatten.length < 268435456) : layF w l = ((varF ((l.map laidF).flatten.length : Nat)).1 ++ (l.map laidF).flatten, 0) := by
  have hr := readF_lay w l h hb
  unfold layF layE
  rw [if_neg (by rw [var_ok hb]; simp), hr, if_neg (by simp)]
theorem readF_layF (w : Int) (l : List PropD) (h : GoodSeq w [] l) (hb : (l.map laidF).flatten.length < 268435456) : readF w (layF w l).1 = (l, (layF w l).1.length, 0) := by
  rw [layF_lay w l h hb]
  simp only
  rw [readF_lay w l h hb, List.length_append]
end Go.Proofs.YtmlkhhidifjjfaaDoor
namespace Go.Proofs.YtmlkhhidifjjfaaDoor
set_option linter.unusedSimpArgs false
set_option linter.unusedVariables false
set_option maxHeartbeats 8000000
set_option maxRecDepth 10000
/-! ### letters are texts -/
def asc (l : Bytes) : Prop := ∀ b ∈ l, 0 < b.toNat ∧ b.toNat < 128
theorem zf_asc : ∀ l : Bytes, asc l → zfG l.length l = true
  | [], _ => rfl
  | b :: t, h => by
    have hb := h b (by simp)
    rw [List.length_cons, zfG, if_neg (by simp), Lib.decodeL_ascii b t hb.2]
    simp only
    rw [if_neg (by omega)]
    exact zf_asc t fun c hc => h c (by simp [hc])
theorem valid_asc : ∀ l : Bytes, asc l → Lib.validD l = true
  | [], _ => rfl
  | b :: t, h => by
    rw [Lib.validD_cons b t (h b (by simp)).2]
    exact valid_asc t fun c hc => h c (by simp [hc])
theorem text_asc {l : Bytes} (h : asc l) : textB l = true := by
  unfold textB; rw [zf_asc l h, valid_asc l h]; rfl
theorem let_asc (c : UInt8) : 0 < (letB c).toNat ∧ (letB c).toNat < 128 := by
  unfold letB; rw [UInt8.toNat_ofNat']; omega
theorem plain_asc (b : Bytes) : asc (plainF b) := by
  intro c hc
  unfold plainF at hc
  obtain ⟨d, _, rfl⟩ := List.mem_map.1 hc
  exact let_asc d
theorem topic_asc (b : Bytes) : asc (116 :: plainF b) := by
  intro c hc
  rcases List.mem_cons.1 hc with rfl | hc
  · decide
  · exact plain_asc b c hc
theorem share_asc (m : MadeD) : asc (shareM m) := by
  unfold shareM
  split
  · intro c hc
    rcases List.mem_append.1 hc with hc | hc
    · have : ∀ c ∈ ([36, 115, 104, 97, 114, 101, 47, 103, 47] : Bytes), 0 < c.toNat ∧ c.toNat < 128 := by decide
      exact this c hc
    · exact plain_asc _ c hc
  · intro c hc; simp at hc
theorem share_len (m : MadeD) : (shareM m).length ≤ 39 := by
  have := plainF_len m.share
  unfold shareM
  split <;> simp; omega
/-! ### masks -/
theorem andI_le (x : Int) (k : Nat) (hk : k < 9223372036854775808) : 0 ≤ andI x k ∧ andI x k ≤ k := by
  unfold andI
  have hb : IntKind.i64.bits = 64 := rfl
  rw [hb, BitVec.toNat_and, BitVec.ofInt_natCast, BitVec.toNat_ofNat]
  have h1 : k % 2 ^ 64 = k := by omega
  rw [h1]
  have h2 := @Nat.and_le_right (BitVec.ofInt 64 x).toNat k
  rw [wrap_nat (by omega) (by omega)]
  omega
theorem and1_le (x : Int) : 0 ≤ and1 x ∧ and1 x ≤ 1 := andI_le x 1 (by decide)
/-! ### the properties -/
theorem may_p : mayB 1 3 = true ∧ mayB 3 3 = true ∧ mayB 9 3 = true ∧ mayB 38 3 = true := by decide +kernel
theorem kind_p : kindI 1 = 1 ∧ kindI 3 = 5 ∧ kindI 9 = 6 ∧ kindI 38 = 7 := by decide
theorem textF_zero {s : Bytes} (h : asc s) (hl : s.length ≤ 65535) : (textF s).2 = 0 := by
  unfold textF; rw [if_pos (text_asc h)]; exact data_ok hl
theorem good_1 {acc : List PropD} (x : Int) (h : findP 1 acc = none) : GoodAt 3 acc ⟨1, and1 x, [], [], []⟩ := by
  have hx := and1_le x
  refine ⟨?_, may_p.1, ?_, ?_, ?_⟩
  · unfold goodB okV
    simp only [kind_p.1, if_true, Bool.and_eq_true, Bool.not_eq_true', Bool.or_eq_false_iff, decide_eq_false_iff_not, decide_eq_true_eq]
    omega
  · unfold canonP; simp [kind_p.1]
  · unfold fitsB; simp [kind_p.1]; omega
  · simp [h]
theorem good_3 {acc : List PropD} (s : Bytes) (hs : asc s) (hl : s.length ≤ 65535) (h : findP 3 acc = none) : GoodAt 3 acc ⟨3, 0, s, [], []⟩ := by
  refine ⟨?_, may_p.2.1, ?_, ?_, ?_⟩
  · unfold goodB okV
    simp [kind_p.2.1, textF_zero hs hl]
  · unfold canonP; simp [kind_p.2.1]
  · unfold fitsB; simp [kind_p.2.1]
  · simp [h]
theorem good_9 {acc : List PropD} (d : Bytes) (hl : d.length ≤ 65535) (h : findP 9 acc = none) : GoodAt 3 acc ⟨9, 0, [], [], d⟩ := by
  refine ⟨?_, may_p.2.2.1, ?_, ?_, ?_⟩
  · unfold goodB okV
    simp [kind_p.2.2.1, data_ok hl]
  · unfold canonP; simp [kind_p.2.2.1]
  · unfold fitsB; simp [kind_p.2.2.1]
  · simp [h]
theorem good_38 {acc : List PropD} (s t : Bytes) (hs : asc s) (hl : s.length ≤ 65535) (ht : asc t) (hm : t.length ≤ 65535) : GoodAt 3 acc ⟨38, 0, s, t, []⟩ := by
  refine ⟨?_, may_p.2.2.2, ?_, ?_, ?_⟩
  · unfold goodB okV
    simp [kind_p.2.2.2, textF_zero hs hl, textF_zero ht hm]
  · unfold canonP; simp [kind_p.2.2.2]
  · unfold fitsB; simp [kind_p.2.2.2]
  · simp [oftenB]
theorem seq_append {w : Int} : ∀ {l r acc : List PropD}, GoodSeq w acc l → GoodSeq w (acc ++ l) r → GoodSeq w acc (l ++ r)
  | [], r, acc, _, h => by simpa using h
  | p :: l, r, acc, h1, h2 => ⟨h1.1, seq_append h1.2 (by simpa using h2)⟩
theorem seq_users (u : Bytes) : ∀ (l : Bytes) (acc : List PropD), GoodSeq 3 acc (l.map (userP u))
  | [], _ => trivial
  | c :: l, acc => ⟨good_38 _ _ (plain_asc _) (by have := plainF_len [c]; omega) (plain_asc _) (by have := plainF_len u; omega), seq_users u l _⟩
theorem seq_list (p : PropsD) : GoodSeq 3 [] (listF p) := by
  have hc := plainF_len p.content
  unfold listF headL
  refine seq_append ?_ (seq_users _ _ _)
  refine seq_append ?_ (seq_append ?_ ?_)
  · split
    · exact ⟨good_1 _ rfl, trivial⟩
    · trivial
  · split <;> split
    · exact ⟨good_3 _ (plain_asc _) (by omega) rfl, trivial⟩
    · trivial
    · exact ⟨good_3 _ (plain_asc _) (by omega) rfl, trivial⟩
    · trivial
  · split <;> split <;> split
    all_goals first
      | trivial
      | exact ⟨good_9 _ (by simp; omega) rfl, trivial⟩
theorem list_cnt (p : PropsD) : (listF p).length ≤ 7 := by
  unfold listF headL
  simp only [List.length_append, List.length_map, List.length_take]
  repeat' split
  all_goals simp
  all_goals omega
theorem list_mem (p : PropsD) : ∀ q ∈ listF p, q.text.length ≤ 30 ∧ q.pair.length ≤ 30 ∧ q.data.length ≤ 30 ∧ [(1 : Int), 3, 8, 9, 38].contains q.id = true := by
  have hc := plainF_len p.content
  intro q hq
  unfold listF headL at hq
  simp only [List.mem_append, List.mem_map] at hq
  rcases hq with (h | h | h) | ⟨c, _, rfl⟩
  · split at h
    · simp only [List.mem_singleton] at h; subst h; simp
    · simp at h
  · split at h
    · simp only [List.mem_singleton] at h; subst h; simp; omega
    · simp at h
  · split at h
    · simp only [List.mem_singleton] at h; subst h; simp; omega
    · simp at h
  · have h1 := plainF_len [c]
    have h2 := plainF_len p.users
    simp [userP, h1, h2]
theorem laid_le (q : PropD) (h : q.text.length ≤ 30 ∧ q.pair.length ≤ 30 ∧ q.data.length ≤ 30) : (laidF q).length ≤ 100 := by
  have h1 := varF_len q.id
  have h2 := varF_len q.num
  have ht : ∀ s : Bytes, s.length ≤ 30 → (textF s).1.length ≤ 32 := by
    intro s hs
    unfold textF
    split
    · rw [data_len (by omega)]; omega
    · simp
  have a1 := ht _ h.1
  have a2 := ht _ h.2.1
  have a3 : (dataF q.data).1.length ≤ 32 := by rw [data_len (by omega)]; omega
  unfold laidF laidK
  rw [List.length_append, List.length_append]
  repeat' split
  all_goals simp only [beB_len, List.length_nil]
  all_goals omega
theorem flat_le : ∀ l : List PropD, (∀ q ∈ l, q.text.length ≤ 30 ∧ q.pair.length ≤ 30 ∧ q.data.length ≤ 30) → (l.map laidF).flatten.length ≤ l.length * 100
  | [], _ => by simp
  | p :: r, h => by
    have h1 := laid_le p (h p (by simp))
    have h2 := flat_le r fun q hq => h q (by simp [hq])
    simp only [List.map_cons, List.flatten_cons, List.length_append, List.length_cons]
    omega
theorem list_flat (p : PropsD) : ((listF p).map laidF).flatten.length ≤ 700 := by
  have h1 := flat_le (listF p) fun q hq => ⟨(list_mem p q hq).1, (list_mem p q hq).2.1, (list_mem p q hq).2.2.1⟩
  have h2 := list_cnt p
  omega
theorem list_kept (p : PropsD) : keptL (listF p) = listF p := by
  unfold keptL onlyL
  rw [List.filter_eq_self]
  exact fun q hq => (list_mem p q hq).2.2.2
/-! ### marks -/
theorem marks_lay (q : Int) (r : Bool) (h : q = 0 ∨ q = 1 ∨ q = 2) : and3 (numI (markF q r)) = q ∧ (and4 (numI (markF q r)) != 0) = r := by
  rcases h with rfl | rfl | rfl <;> cases r <;> decide +kernel
theorem one_u8 (x : Int) (h0 : 0 ≤ x) (h : x ≤ 255) : numI [u8B x] = x := by
  have e : (u8B x).toNat = x.toNat := by
    unfold u8B
    rw [UInt8.toNat_ofNat']; omega
  unfold numI getU
  rw [getA_cons, getA_nil, e, wrap_nat (by omega) (by omega)]
  omega
theorem eight_lay (x : Int) (h0 : 0 ≤ x) (h : x ≤ 4611686018427387904) : numI (beB (u64N x) 8) = x := by
  have hu : u64N x = x.toNat := u64N_nat h0 (by omega)
  have e8 : (256 : Nat) ^ 8 = 18446744073709551616 := rfl
  rw [hu, numI_beB (by omega) (by omega) (by omega)]
  omega
theorem four_lay (x : Int) (h0 : 0 ≤ x) (h : x ≤ 4294967295) : numI (beB (u64N x) 4) = x := by
  have hu : u64N x = x.toNat := u64N_nat h0 (by omega)
  have e4 : (256 : Nat) ^ 4 = 4294967296 := rfl
  rw [hu, numI_beB (by omega) (by omega) (by omega)]
  omega
/-! ### the message -/
structure NiceN (n : NoteD) : Prop where
  topic : textB n.topic = true ∧ n.topic.length ≤ 65535
  payload : n.payload.length ≤ 65535
  qos : n.qos = 0 ∨ n.qos = 1 ∨ n.qos = 2
  sender : textB n.sender = true ∧ n.sender.length ≤ 65535
  expires : 0 ≤ n.expires ∧ n.expires ≤ 4611686018427387904
  number : 0 ≤ n.number ∧ n.number ≤ 4611686018427387904
  origin : 0 ≤ n.origin ∧ n.origin ≤ 255
  hops : 0 ≤ n.hops ∧ n.hops ≤ 255
  seq : GoodSeq 3 [] n.props
  flat : (n.props.map laidF).flatten.length < 268435456
  kept : keptL n.props = n.props
theorem take1 (x : UInt8) (r : Bytes) : takeF 1 ⟨x :: r, false⟩ = ([x], ⟨r, false⟩) := takeF_lay [x] r
theorem noteF_lay (n : NoteD) (h : NiceN n) : noteF ⟨nlayF n, false⟩ = (n, ⟨(layF 3 n.props).1, false⟩) := by
  obtain ⟨topic, payload, qos, retain, sender, expires, props, origin, number, hops⟩ := n
  have e1 := ctext_lay topic ((dataF payload).1 ++ (markF qos retain ++ ((textF sender).1 ++ (beB (u64N expires) 8 ++ (beB (u64N number) 8 ++ ([u8B origin, u8B hops] ++ (layF 3 props).1)))))) h.topic.1 h.topic.2
  have e2 := cdata_lay payload (markF qos retain ++ ((textF sender).1 ++ (beB (u64N expires) 8 ++ (beB (u64N number) 8 ++ ([u8B origin, u8B hops] ++ (layF 3 props).1))))) h.payload
  have e3 : takeF 1 ⟨markF qos retain ++ ((textF sender).1 ++ (beB (u64N expires) 8 ++ (beB (u64N number) 8 ++ ([u8B origin, u8B hops] ++ (layF 3 props).1)))), false⟩ = (markF qos retain, ⟨(textF sender).1 ++ (beB (u64N expires) 8 ++ (beB (u64N number) 8 ++ ([u8B origin, u8B hops] ++ (layF 3 props).1))), false⟩) := take1 _ _
  have e4 := ctext_lay sender (beB (u64N expires) 8 ++ (beB (u64N number) 8 ++ ([u8B origin, u8B hops] ++ (layF 3 props).1))) h.sender.1 h.sender.2
  have e5 := takeF_lay (beB (u64N expires) 8) (beB (u64N number) 8 ++ ([u8B origin, u8B hops] ++ (layF 3 props).1))
  have e6 := takeF_lay (beB (u64N number) 8) ([u8B origin, u8B hops] ++ (layF 3 props).1)
  rw [beB_len] at e5 e6
  have e7 : takeF 1 ⟨[u8B origin, u8B hops] ++ (layF 3 props).1, false⟩ = ([u8B origin], ⟨u8B hops :: (layF 3 props).1, false⟩) := take1 _ _
  have e8 := take1 (u8B hops) (layF 3 props).1
  have e9 := readF_layF 3 props h.seq h.flat
  obtain ⟨m1, m2⟩ := marks_lay qos retain h.qos
  have n1 := eight_lay expires h.expires.1 h.expires.2
  have n2 := eight_lay number h.number.1 h.number.2
  have n3 := one_u8 origin h.origin.1 h.origin.2
  have n4 := one_u8 hops h.hops.1 h.hops.2
  unfold noteF nineF nlayF
  simp only [e1, e2, e3, e4, e5, e6, e7, e8, e9, m1, m2, n1, n2, n3, n4, bne_self_eq_false, Bool.or_self]
theorem readN_nice (n : NoteD) (h : NiceN n) : readN (nlayF n) = (n, 0) := by
  have hm : mayN n = true := by
    unfold mayN
    rw [h.kept]
    have := h.qos
    have := h.expires
    have := h.number
    simp only [Bool.and_eq_true, decide_eq_true_eq, beq_self_eq_true, and_true]
    omega
  unfold readN
  rw [noteF_lay n h, if_neg (by simp [hm])]
theorem nice_m (m : MadeD) : NiceN (noteM m) := by
  have h1 := plainF_len m.topic
  have h2 := plainF_len m.sender
  have a1 : 0 ≤ andI m.life 65535 ∧ andI m.life 65535 ≤ 65535 := andI_le m.life 65535 (by decide)
  have a2 : 0 ≤ andI m.origin 255 ∧ andI m.origin 255 ≤ 255 := andI_le m.origin 255 (by decide)
  have a3 : 0 ≤ andI m.number 16777215 ∧ andI m.number 16777215 ≤ 16777215 := andI_le m.number 16777215 (by decide)
  have a4 := list_flat m.p
  refine ⟨⟨text_asc (topic_asc _), ?_⟩, ?_, with_2 _, ⟨text_asc (plain_asc _), ?_⟩, ?_, ?_, ?_, ⟨Int.le_refl 0, show (0 : Int) ≤ 255 by decide⟩, seq_list _, ?_, list_kept _⟩
  · simp only [noteM, List.length_cons]; omega
  · simp only [noteM, List.length_take]; omega
  · simp only [noteM]; omega
  · simp only [noteM]; split <;> omega
  · simp only [noteM]; omega
  · simp only [noteM]; omega
  · simp only [noteM]; omega
theorem readN_lay (m : MadeD) : readN (nlayF (itemM m).note) = ((itemM m).note, 0) := readN_nice _ (nice_m m)
theorem itemM_ok (m : MadeD) : OkItem (itemM m) := by
  have h1 := plainF_len m.topic
  have h2 := plainF_len m.sender
  have h3 := share_len m
  have h4 := list_cnt m.p
  refine ⟨⟨?_, ?_, ?_, ?_, ?_, ?_⟩, ?_, ?_⟩
  · simp only [itemM, noteM, List.length_cons]; omega
  · simp only [itemM, noteM, List.length_take]; omega
  · simp only [itemM, noteM]; omega
  · simp only [itemM, noteM]; omega
  · intro p hp
    have := list_mem m.p p hp
    exact ⟨by omega, by omega, by omega⟩
  · intro p hp
    have := list_mem m.p p hp
    omega
  · simp only [itemM, List.length_map, List.length_take]; omega
  · simp only [itemM]; omega
theorem nlay_le (m : MadeD) : (nlayF (noteM m)).length ≤ 2000 := by
  have h := nice_m m
  have h1 := plainF_len m.topic
  have h2 := plainF_len m.sender
  have a4 := list_flat m.p
  have l1 := text_len h.topic.1 h.topic.2
  have l2 := data_len h.payload
  have l3 := text_len h.sender.1 h.sender.2
  have l4 := varF_len (((listF m.p).map laidF).flatten.length : Nat)
  have e := layF_lay 3 (noteM m).props h.seq h.flat
  unfold nlayF
  rw [e]
  simp only [List.length_append, beB_len, markF, List.length_cons, List.length_nil, l1, l2, l3]
  simp only [noteM, List.length_cons, List.length_take]
  omega
theorem item_len (m : MadeD) : (itlayF (itemM m)).length ≤ 100000000 := by
  have h1 := nlay_le m
  have l1 := dataF_len (nlayF (itemM m).note)
  have l2 := textF_len (itemM m).share
  have l3 := idsB_len (itemM m).ids
  have l4 : (itemM m).ids.length ≤ 4 := by simp only [itemM, List.length_map, List.length_take]; omega
  unfold itlayF
  simp only [List.length_append, markF, List.length_cons, List.length_nil]
  omega
/-! ### the item -/
theorem ids_lay : ∀ (l : List Int) (rest : Bytes), (∀ x ∈ l, 1 ≤ x ∧ x ≤ 268435455) → idsF l.length ⟨idsB l ++ rest, false⟩ true = (l, ⟨rest, false⟩, true)
  | [], rest, _ => rfl
  | x :: l, rest, h => by
    have hx := h x (by simp)
    have ih := ids_lay l rest fun y hy => h y (by simp [hy])
    have hl := beB_len 4 (u64N x)
    have e : idsB (x :: l) ++ rest = beB (u64N x) 4 ++ (idsB l ++ rest) := by simp [idsB]
    have ht := takeF_lay (beB (u64N x) 4) (idsB l ++ rest)
    rw [hl, ← e] at ht
    have hn := four_lay x (by omega) (by omega)
    have c : (true && decide (x ≥ 1) && decide (x ≤ 268435455)) = true := by simp; omega
    rw [List.length_cons, idsF, ht]
    simp only [hn, c, ih]
theorem one_le (x : Int) : 1 ≤ oneI x ∧ oneI x ≤ 268435455 := by
  have : 0 ≤ andI x 16777215 ∧ andI x 16777215 ≤ 16777215 := andI_le x 16777215 (by decide)
  unfold oneI
  rw [wrap_nat (by omega) (by omega)]
  omega
theorem readit_lay (m : MadeD) : readitF (itlayF (itemM m)) = (itemM m, 0) := by
  have hn := nlay_le m
  have hi : (itemM m).ids.length ≤ 4 := by simp only [itemM, List.length_map, List.length_take]; omega
  have e0 : itlayF (itemM m) = (dataF (nlayF (noteM m))).1 ++ (markF (itemM m).qos (itemM m).retain ++ (u8B (itemM m).ids.length :: (idsB (itemM m).ids ++ (textF (itemM m).share).1))) := by
    unfold itlayF
    rw [show (itemM m).note = noteM m from rfl]
    simp
  have e1 := cdata_lay (nlayF (noteM m)) (markF (itemM m).qos (itemM m).retain ++ (u8B (itemM m).ids.length :: (idsB (itemM m).ids ++ (textF (itemM m).share).1))) (by omega)
  rw [← e0] at e1
  have e2 : takeF 1 ⟨markF (itemM m).qos (itemM m).retain ++ (u8B (itemM m).ids.length :: (idsB (itemM m).ids ++ (textF (itemM m).share).1)), false⟩ = (markF (itemM m).qos (itemM m).retain, ⟨u8B (itemM m).ids.length :: (idsB (itemM m).ids ++ (textF (itemM m).share).1), false⟩) := take1 _ _
  have e3 := take1 (u8B (itemM m).ids.length) (idsB (itemM m).ids ++ (textF (itemM m).share).1)
  have e4 : numI [u8B (itemM m).ids.length] = ((itemM m).ids.length : Int) := one_u8 _ (by omega) (by omega)
  have e5 := ids_lay (itemM m).ids (textF (itemM m).share).1 (fun x hx => by
    simp only [itemM] at hx
    obtain ⟨y, _, rfl⟩ := List.mem_map.1 hx
    exact one_le y)
  have hs := share_len m
  have e6 := ctext_lay (itemM m).share [] (text_asc (share_asc m)) (by show (shareM m).length ≤ _; omega)
  rw [List.append_nil] at e6
  have hr := readN_nice _ (nice_m m)
  have hq : (itemM m).qos = 0 ∨ (itemM m).qos = 1 ∨ (itemM m).qos = 2 := with_2 _
  obtain ⟨m1, m2⟩ := marks_lay (itemM m).qos (itemM m).retain hq
  have hf : decide ((itemM m).qos < 3) = true := by simp; omega
  have hit : (⟨noteM m, (itemM m).qos, (itemM m).retain, (itemM m).ids, (itemM m).share⟩ : ItemD) = itemM m := rfl
  unfold readitF fineF fourF
  simp only [e1, e2, e3, hr, m1, m2, e4, Int.toNat_natCast, hf, beq_self_eq_true, Bool.and_self, e5]
  unfold endI
  simp only [e6, hit]
  rw [if_neg (by simp)]
end Go.Proofs.YtmlkhhidifjjfaaDoor
namespace Go.Proofs.YtmlkhhidifjjfaaDoor
set_option linter.unusedSimpArgs false
set_option linter.unusedVariables false
set_option maxHeartbeats 16000000
set_option maxRecDepth 10000
theorem view_itO (it : ItemD) : resV 0 (some (itO it)) = some (.agg (itC it.note it.qos it.retain (.lst false (it.ids.map (AVal.int .i64))) it.share), []) := by
  unfold itO
  cases it.ids with
  | nil =>
    simp [growV, growH, itC, resV, viewR, viewA, viewsA, viewA1, freezeA, gcA, gcIds, reach, refsL, refsV, renL, renV, heapOf]
  | cons a l =>
    simp only [List.map_cons, growV_cons, growH_cons]
    generalize AVal.int .i64 a :: l.map (AVal.int .i64) = X
    simp [itC, resV, viewR, viewA, viewsA, viewA1, elemsA, freezeA, gcA, gcIds, reach, refsL, refsV, renL, renV, heapOf]
theorem q_madeC (σ : AHeap) (site own : Nat) (m : MadeD) (hm : OkMade m) : callG E BY σ site 12 own true [.agg (mC m)] = some (.agg [.str (itemM m).note.topic, .lst false ((itemM m).note.payload.map byteV), .int .i64 (itemM m).note.qos, .bool (itemM m).note.retain, .str (itemM m).note.sender, .int .i64 (itemM m).note.expires, .lst false ((itemM m).note.props.map propV), .int .i64 (itemM m).note.origin, .int .i64 (itemM m).note.number, .int .i64 (itemM m).note.hops, .int .i64 (itemM m).qos, .bool (itemM m).retain, .lst false ((itemM m).ids.map (.int .i64 ·)), .str (itemM m).share], σ, {}) := by
  rw [callG_plain (by kernel_rfl) rfl]
  have hn : [AVal.agg (mC m)].map normV = [.agg (mC m)] := rfl
  rw [hn, q_made m hm]
  have : askO true 0 (some (itO (itemM m))) = _ := (if_pos rfl).trans (view_itO _)
  rw [this]
  rw [backG_plain _ _ _ _ rfl]
  rfl
theorem q_num19 (e : Int) : E 25 [.int .i64 e] [] = some (.int .i64 e, []) := by
  rw [E_eq (by rfl) cf_tidingslaw19_num]
  simp -implicitDefEqProofs only [EVS0, EVS1, EVS2, EVS3, EVS4, EVS5, EVS6, EVS7, EVL0, EVL1, ite_tf, ite_ft, ite_tft, ite_ftf, ite_list, ite_tt, ite_ee, ite_nt, ite_ne, eq_self, implies_true, forall_const, exI, nsite, freeAt, execI, Opd.ev, tget, tins, tput, keepL, sitesOf, List.sum_cons, List.sum_nil, Nat.reduceAdd, Nat.reduceSub, Nat.reduceLT, Nat.reduceLeDiff, Nat.reduceEqDiff, Nat.reduceBEq, Nat.reduceMul, beq_self_eq_true, Bool.false_eq_true, ldA, stA, partA, faddrA, setAt, binA, arithA, shiftA, strA, unA, gSpan, gSkip, unG, ne_eq, Option.some.injEq, reduceCtorEq, decide_true, decide_false, elemsA, resA, resAll, resOne, enterA, decide_eq_true_eq, Bool.not_eq_true, Bool.decide_eq_true, ite_self, ↓reduceIte, noRefL, clrA, gcT, gcA, gcIds, reach, rhoOf, heapOf, idxA, genB, newGen, renB, refsB, List.contains_cons, List.range_succ, cb_tidingslaw19_num, b_tidingslaw19_num, cr_tidingslaw19_num, oI, oN, intsV, bytesV, propsV, propV, propC, bytesOf_map, intsV]
theorem q_num19C (σ : AHeap) (site own : Nat) (view : Bool) (e : Int) : callG E BY σ site 25 own view [.int .i64 e] = some (.int .i64 e, σ, {}) :=
  call_flat (q_num19 e) (by kernel_rfl) rfl rfl rfl (fun _ => rfl) _ _ _ _
theorem q_wakesC (σ : AHeap) (site own : Nat) (view : Bool) : callG E BY σ site 29 own view [] = some (.bool true, σ, {}) :=
  call_flat q_wakes (by kernel_rfl) rfl rfl rfl (fun _ => rfl) _ _ _ _
theorem q_noteback (m : MadeD) (hm : OkMade m) : E 4 [.agg (mC m)] [] = some (.bool true, []) := by
  have hM := fun σ site own => q_madeC σ site own m hm
  have ok := itemM_ok m
  have l1 := nlayF_len (itemM m).note
  have l2 := item_len m
  have hL := fun σ site own => q_nlayC σ site own (itemM m).note ok.note
  have hR := fun σ site own f => q_nreadC σ site own f (nlayF (itemM m).note) (by omega)
  rw [readN_lay m] at hR
  have hI := fun σ site own => q_nlayitC σ site own (itemM m) ok
  have hJ := fun σ site own f => q_nreaditC σ site own f (itlayF (itemM m)) (by omega)
  rw [readit_lay m] at hJ
  have hS := fun σ site own view => q_nsameC σ site own view (itemM m).note (itemM m).note (by have := ok.note.props; omega)
  have hT := fun σ site own view => q_isameC σ site own view (itemM m) (itemM m) (by have := ok.note.props; omega) (by have := ok.ids; omega)
  have e1 : nsameB (itemM m).note (itemM m).note = true := by simp [nsameB]
  have e2 : isameB (itemM m) (itemM m) = true := by simp [isameB, nsameB]
  rw [e1] at hS
  rw [e2] at hT
  unfold readV at hR
  simp only at hR hJ
  unfold mC at hM ⊢
  clear ok l1 l2 e1 e2
  generalize itemM m = it at *
  generalize nlayF it.note = y at *
  generalize itlayF it = z at *
  have n0 : ((0 : Int) == 0) = true := rfl
  rw [E_eq (by rfl) cf_tidingslaw19_NoteBack]
  simp -implicitDefEqProofs only [EVS0, EVS1, EVS2, EVS3, EVS4, EVS5, EVS6, EVS7, EVL0, EVL1, ite_tf, ite_ft, ite_tft, ite_ftf, ite_list, ite_tt, ite_ee, ite_nt, ite_ne, eq_self, implies_true, forall_const, exI, nsite, freeAt, execI, Opd.ev, tget, tins, tput, keepL, sitesOf, List.sum_cons, List.sum_nil, Nat.reduceAdd, Nat.reduceSub, Nat.reduceLT, Nat.reduceLeDiff, Nat.reduceEqDiff, Nat.reduceBEq, Nat.reduceMul, beq_self_eq_true, Bool.false_eq_true, ldA, stA, partA, faddrA, setAt, binA, arithA, shiftA, strA, unA, gSpan, gSkip, unG, ne_eq, Option.some.injEq, reduceCtorEq, decide_true, decide_false, elemsA, resA, resAll, resOne, enterA, decide_eq_true_eq, Bool.not_eq_true, Bool.decide_eq_true, ite_self, ↓reduceIte, noRefL, clrA, gcT, gcA, gcIds, reach, rhoOf, heapOf, idxA, genB, newGen, renB, refsB, List.contains_cons, List.range_succ, cb_tidingslaw19_NoteBack, b_tidingslaw19_NoteBack, cr_tidingslaw19_NoteBack, oI, oN, intsV, bytesV, propsV, propV, propC, bytesOf_map, hM, hL, hR, hI, hJ, hS, hT, n0, q_num19C, q_wakesC, fillA, setAt, AVal.cells, faddrA]
end Go.Proofs.YtmlkhhidifjjfaaDoor
namespace Go.Proofs.YtmlkhhidifjjfaaDoor
set_option linter.unusedSimpArgs false
set_option linter.unusedVariables false
open Go.RowKit
theorem rows_of {α : Type} {T : Ty} {s : Bool} {f : α → AVal} (h : ∀ y, TyC T y → ∃ a, elemV s y = f a) {xs : List AVal} (hx : TyC (.slice s T) xs) : ∃ l : List α, xs = [.lst false (l.map f)] ∧ l.length ≤ 9223372036854775807 := by
  simp only [TyC] at hx
  obtain ⟨ys, rfl, h1, h2⟩ := hx
  have : ∀ ys : List (List AVal), (∀ y ∈ ys, TyC T y) → ∃ l : List α, ys.map (elemV s) = l.map f := by
    intro ys
    induction ys with
    | nil => intro _; exact ⟨[], rfl⟩
    | cons y ys ih =>
      intro hy
      obtain ⟨a, ha⟩ := h y (hy y (by simp))
      obtain ⟨l, hl⟩ := ih fun y' h' => hy y' (by simp [h'])
      exact ⟨a :: l, by simp [ha, hl]⟩
  obtain ⟨l, hl⟩ := this ys h2
  refine ⟨l, by rw [hl], ?_⟩
  have := congrArg List.length hl
  simp only [List.length_map] at this
  omega
theorem byte_of {y : List AVal} (h : TyC (.int .u8) y) : ∃ b, elemV false y = byteV b := by
  simp only [TyC] at h
  obtain ⟨n, hw, rfl⟩ := h
  have h1 : 0 ≤ n ∧ n ≤ 255 := by
    simp only [Lit.wf, Bool.and_eq_true, decide_eq_true_eq] at hw
    exact hw
  refine ⟨UInt8.ofNat n.toNat, ?_⟩
  simp only [elemV, Bool.false_eq_true, if_false, List.headD_cons, byteV, AVal.int.injEq, true_and]
  rw [UInt8.toNat_ofNat']
  omega
theorem bytes_of {xs : List AVal} (h : TyC (.slice false (.int .u8)) xs) : ∃ b : Bytes, xs = [bytesV b] ∧ b.length ≤ 9223372036854775807 := rows_of (fun _ => byte_of) h
theorem ints_of {xs : List AVal} (h : TyC (.slice false (.int .i64)) xs) : ∃ b : List Int, xs = [intsV b] ∧ b.length ≤ 9223372036854775807 := rows_of (fun y hy => by
  simp only [TyC] at hy
  obtain ⟨n, _, rfl⟩ := hy
  exact ⟨n, rfl⟩) h
def propT : Ty := .struct [.int .i64, .int .i64, .str, .str, .slice false (.int .u8)]
def noteT : Ty := .struct [.str, .slice false (.int .u8), .int .i64, .bool, .str, .int .i64, .slice true propT, .int .i64, .int .i64, .int .i64]
def itemT : Ty := .struct [noteT, .int .i64, .bool, .slice false (.int .i64), .str]
example : tyOf Tryd.prog 8 32 = some itemT := by kernel_rfl
example : isRowD (Tryd.prog.underlying 32) = true := by kernel_rfl
end Go.Proofs.YtmlkhhidifjjfaaDoor
namespace Go.Proofs.YtmlkhhidifjjfaaDoor
set_option linter.unusedSimpArgs false
set_option linter.unusedVariables false
open Go.RowKit
def madeT : Ty := .struct [.slice false (.int .u8), .slice false (.int .u8), .slice false (.int .u8), .slice false (.int .u8), .int .i64, .int .i64, .bool, .bool, .int .i64, .struct [.int .i64, .slice false (.int .u8), .slice false (.int .u8), .slice false (.int .u8)], .slice false (.int .i64), .int .i64, .int .i64]
theorem made_of {x : AVal} (h : ArgC true madeT x) : ∃ m, OkMade m ∧ x = .agg (mC m) := by
  obtain ⟨y, h, rfl⟩ := h
  unfold madeT at h
  rw [TyC] at h
  simp only [TysC] at h
  obtain ⟨_, _, rfl, h1, _, _, rfl, h2, _, _, rfl, h3, _, _, rfl, h4, _, _, rfl, h5, _, _, rfl, h6, _, _, rfl, h7, _, _, rfl, h8, _, _, rfl, h9, _, _, rfl, h10, _, _, rfl, h11, _, _, rfl, h12, _, _, rfl, h13, rfl⟩ := h
  rw [TyC] at h10
  simp only [TysC] at h10
  obtain ⟨_, _, rfl, g1, _, _, rfl, g2, _, _, rfl, g3, _, _, rfl, g4, rfl⟩ := h10
  obtain ⟨b1, rfl, l1⟩ := bytes_of h1
  obtain ⟨b2, rfl, l2⟩ := bytes_of h2
  obtain ⟨b3, rfl, l3⟩ := bytes_of h3
  obtain ⟨b4, rfl, l4⟩ := bytes_of h4
  obtain ⟨c2, rfl, m2⟩ := bytes_of g2
  obtain ⟨c3, rfl, m3⟩ := bytes_of g3
  obtain ⟨c4, rfl, m4⟩ := bytes_of g4
  obtain ⟨is, rfl, li⟩ := ints_of h11
  simp only [TyC] at h5 h6 h7 h8 h9 h12 h13 g1
  obtain ⟨a5, _, rfl⟩ := h5
  obtain ⟨a6, _, rfl⟩ := h6
  obtain ⟨a7, rfl⟩ := h7
  obtain ⟨a8, rfl⟩ := h8
  obtain ⟨a9, _, rfl⟩ := h9
  obtain ⟨a12, _, rfl⟩ := h12
  obtain ⟨a13, _, rfl⟩ := h13
  obtain ⟨f1, _, rfl⟩ := g1
  exact ⟨⟨b1, b2, b3, b4, a5, a6, a7, a8, a9, ⟨f1, c2, c3, c4⟩, is, a12, a13⟩, ⟨l1, l2, l3, m2, m4, li⟩, rfl⟩
end Go.Proofs.YtmlkhhidifjjfaaDoor
namespace Go.Proofs.YtmlkhhidifjjfaaDoor
set_option linter.unusedSimpArgs false
set_option linter.unusedVariables false
open Go.Shelf
def ren196 : Ren := ⟨fun | 196 => 142 | 259 => 157 | n => n, fun | 9 => 9 | 4 => 4 | 3 => 3 | 5 => 5 | 12 => 12 | 119 => 213 | 0 => 0 | 46 => 139 | 139 => 216 | 138 => 215 | 53 => 101 | n => n, fun | 3 => 0 | 4 => 1 | n => n⟩
theorem lay196 : Go.Proofs.Lays.n196 Tryd.prog ren196 := { mixed := by kernel_rfl, f196 := Tryd.func142.trans (congrArg some (by kernel_rfl)), f259 := Tryd.func157.trans (congrArg some (by kernel_rfl)), t0 := Tryd.underlying0, a0 := Tryd.isAgg0, z0 := Tryd.sizeOf0, v0 := Tryd.zeroValue0, t3 := Tryd.underlying3, a3 := Tryd.isAgg3, z3 := Tryd.sizeOf3, v3 := Tryd.zeroValue3, t4 := Tryd.underlying4, a4 := Tryd.isAgg4, z4 := Tryd.sizeOf4, v4 := Tryd.zeroValue4, t5 := Tryd.underlying5, a5 := Tryd.isAgg5, z5 := Tryd.sizeOf5, v5 := Tryd.zeroValue5, t9 := Tryd.underlying9, a9 := Tryd.isAgg9, z9 := Tryd.sizeOf9, v9 := Tryd.zeroValue9, t12 := Tryd.underlying12, a12 := Tryd.isAgg12, z12 := Tryd.sizeOf12, v12 := Tryd.zeroValue12, t46 := Tryd.underlying139, a46 := Tryd.isAgg139, z46 := Tryd.sizeOf139, v46 := Tryd.zeroValue139, t53 := Tryd.underlying101, a53 := Tryd.isAgg101, z53 := Tryd.sizeOf101, v53 := Tryd.zeroValue101, t119 := Tryd.underlying213, a119 := Tryd.isAgg213, z119 := Tryd.sizeOf213, t138 := Tryd.underlying215, a138 := Tryd.isAgg215, z138 := Tryd.sizeOf215, v138 := Tryd.zeroValue215, t139 := Tryd.underlying216, a139 := Tryd.isAgg216, z139 := Tryd.sizeOf216, v139 := Tryd.zeroValue216, g3 := by kernel_rfl, g4 := by kernel_rfl }
end Go.Proofs.YtmlkhhidifjjfaaDoor
namespace Go.Proofs.YtmlkhhidifjjfaaDoor
set_option linter.unusedSimpArgs false
set_option linter.unusedVariables false
set_option maxRecDepth 100000
set_option maxHeartbeats 2000000
theorem follows_ok : Tryd.prog.follows .mixedOrders = true := by kernel_rfl
theorem pr_clone_bytes : CloneB Tryd.prog 22 1 1 (.int .u8 0) 111 := ⟨_, _, _, _, _, _, _, _, _, _, _, rfl, rfl, rfl, by kernel_rfl, rfl, rfl, rfl, rfl, rfl, rfl, rfl, rfl, by kernel_rfl, by kernel_rfl, ⟨_, _, _, _, rfl⟩, rfl, by decide⟩
theorem pr_clone_props : CloneB Tryd.prog 28 5 72 (.agg [.int .i64 0, .int .i64 0, .str [], .str [], .lst true []]) 137 := ⟨_, _, _, _, _, _, _, _, _, _, _, rfl, rfl, rfl, by kernel_rfl, rfl, rfl, rfl, rfl, rfl, rfl, rfl, rfl, by kernel_rfl, by kernel_rfl, ⟨_, _, _, _, rfl⟩, rfl, by decide⟩

theorem lookT_mem {α : Type} {d v : α} : ∀ {l : List (Nat × α)} {n : Nat}, lookT d l n = v → v = d ∨ (n, v) ∈ l
  | [], n, h => Or.inl h.symm
  | (k, w) :: r, n, h => by
    simp only [lookT] at h
    split at h
    · rename_i e; subst e h; exact Or.inr (by simp)
    · rcases lookT_mem h with h | h
      · exact Or.inl h
      · exact Or.inr (by simp [h])
theorem prim_ok : PrimOk Tryd.prog PR := by
  intro f g h args σ r σ' hg
  rcases lookT_mem h with h | h
  · cases h
  unfold primT at h
  simp only [List.mem_cons, Prod.mk.injEq, Option.some.injEq, List.not_mem_nil, or_false] at h
  rcases h with ⟨rfl, rfl⟩ | h
  · exact clone_ok follows_ok pr_clone_bytes hg
  rcases h with ⟨rfl, rfl⟩ | h
  · exact clone_ok follows_ok pr_clone_props hg
  rcases h with ⟨rfl, rfl⟩ | h
  · exact valid_ok ⟨Tryd.f142, Tryd.func142, by kernel_rfl, by kernel_rfl⟩ (fun s w hs hT => Any.utf8_ValidString lay196 s w hs hT) hg
  exact absurd h.2 (by simp)
/-- what E tells, the program does -/
theorem E_ok : OrOk Tryd.prog E := by
  have h : E = EV CF PR BY := EV_strip CF PR BY
  rw [h]
  exact EV_sound follows_ok prim_ok ann BY
end Go.Proofs.YtmlkhhidifjjfaaDoor
namespace Go.Proofs.YtmlkhhidifjjfaaDoor
set_option linter.unusedSimpArgs false
set_option linter.unusedVariables false
open Go.RowKit Go.Shelf Go.Lib
theorem gl_of_tabs {W : World} (h : Lib.Utf8Tabs 0 1 W) : Gl.le (Imm.of W) := by
  intro b o u hu
  unfold Gl at hu
  unfold Imm.of
  split at hu
  · rename_i e; subst e
    split at hu
    · rename_i ho
      rw [h.1 o ho, ← hu]
    · cases hu
  · split at hu
    · rename_i e; subst e
      split at hu
      · rename_i ho
        rw [← hu]
        obtain ⟨h1, h2⟩ := h.2 (o / 2) (by omega)
        by_cases hp : o % 2 = 0
        · rw [if_pos hp, ← h1]; congr 2; omega
        · rw [if_neg hp, ← h2]; congr 2; omega
      · cases hu
    · cases hu
section
open Go.RowKit
variable {H : Type} {enc : TypeId × Value → H} {P : Program} {w : World} {spare : Nat → Bool} {held : Bool}
end
end Go.Proofs.YtmlkhhidifjjfaaDoor
namespace Go.Proofs.YtmlkhhidifjjfaaDoor
set_option linter.unusedSimpArgs false
set_option linter.unusedVariables false
open Go.ChangeShapes Go.WideShapes Go.ChangeAt Go.RowKit Go.Deep
theorem noteBack_own : ownKnob Tryd.prog.godebug = none := by kernel_rfl
theorem noteBack_laidOut : laidOutB Tryd.prog = true := by kernel_rfl
theorem noteBack_glob {W : World} (hLH : laidMetH Tryd.prog Rows.noteBackRow.laid W) : Gl.le (Imm.of W) := by
  have hL : laidMet Tryd.prog Rows.noteBackRow.laid W := by rw [← MakeChecks.laidMetH_plain _ _ _ (by kernel_rfl)]; exact hLH
  have e1 : Rows.laid_unicode_utf8_first = Lib.firstData := by kernel_rfl
  have e2 : (Rows.laid_unicode_utf8_acceptRanges : DataW Unit) = Lib.acceptData := by kernel_rfl
  have h1 : Lib.VarReads Tryd.prog W "unicode/utf8.first" Lib.firstData := by rw [← e1]; exact Lib.laidMet.reads hL (.tail _ (.head _))
  have h2 : Lib.VarReads Tryd.prog W "unicode/utf8.acceptRanges" Lib.acceptData := by rw [← e2]; exact Lib.laidMet.reads hL (.head _)
  exact gl_of_tabs (utf8Tabs_of_readsT (U8Types.of196 lay196) ⟨by kernel_rfl, by kernel_rfl, by kernel_rfl, by kernel_rfl, by kernel_rfl, by kernel_rfl, by kernel_rfl⟩ h1 h2)
set_option maxRecDepth 100000 in
set_option maxHeartbeats 1000000 in
theorem noteBack_contract (H : Type) (enc : TypeId × Value → H) (W : World) (base : Nat) (args : Array Value) (ds gs : List (DataW H)) (before : List MemPlace)
    (hval0 : ∀ (j : Nat) t v, Tryd.f4.params[j]? = some t → args[j]? = some v → Value.okWide Tryd.prog W .any base t v)
    (hW : DataW.Whole enc Tryd.prog Tryd.f4.params.toList Rows.noteBackSpec.vars false W args.toList ds gs before) (hL : laidMetH Tryd.prog Rows.noteBackRow.laid W) :
    Calls Tryd.prog 4 args W fun e W' => ∃ v, e = .returned v ∧ Rows.noteBackSpec.post enc Tryd.prog Tryd.f4 false true false false W args v W' := by
  have hW' := hW
  obtain ⟨p, q, hA0, hV, rfl, hfz, hnd⟩ := hW
  have hval : ∀ (j : Nat) t v, Tryd.f4.params[j]? = some t → args[j]? = some v → Value.okWide Tryd.prog W .any base t v := hval0
  have hA : DataW.TrodAll enc Tryd.prog W 0 (fun _ => true) true Tryd.f4.params.toList args.toList ds p := hA0
  rw [Tryd.params4] at hA hval
  obtain ⟨v0, vs0, d0, ds0, p0, q0, hargs, rfl, rfl, h0, r0⟩ := trodAll_cons hA
  obtain ⟨rfl, rfl, rfl⟩ := trodAll_nil r0
  obtain rfl : args = #[v0] := by cases args; simp_all
  obtain ⟨rfl, rfl⟩ := trodVars_none hV
  have k0 := h0
  have lt0 : ∀ x ∈ p0, x.block < W.heap.size := by obtain ⟨m, hm⟩ := k0; exact DataW.trod_lt m _ _ _ hm
  obtain ⟨x0, y0, z0, _⟩ := arg_ty (n := 12) (T := madeT) (by kernel_rfl) (hval 0 27 v0 rfl rfl) h0
  rw [Tryd.underlying27] at y0
  obtain ⟨a0, b0, rfl⟩ := made_of y0
  clear hA0 hval0
  refine (walk_of E_ok (noteBack_glob hL) (args := [.agg (mC a0)]) (by simp only [VRs]; exact ⟨_, _, rfl, z0, rfl⟩) (q_noteback a0 b0)).mono fun e W' ⟨he, bel⟩ => ?_
  subst he
  exact ⟨_, rfl, _, _, _, [], _, [], hW', trodAll_mk1 (shut_bool Tryd.underlying4 _), (trodAll_cons_mk (Below.trod noteBack_laidOut (by kernel_rfl) (of_decide_eq_true (by kernel_rfl)) k0 bel lt0) trodAll_mk0), rfl, bel.frame _, fun h => by cases h⟩
noncomputable def noteBack_world (os : Os) : World :=
  let w0 := World.holding Tryd.prog os ⟨#[], #[], []⟩
  let put (h : Array Obj) (g : Nat) (us : Array Value) : Array Obj := h.modify g fun
    | .cells _ t frozen => .cells us t frozen
    | o => o
  let h1 := put w0.heap 0 (Lib.firstTab.map fun z => Value.int .u8 z).toArray
  let h2 := put h1 1 ((List.range 16).flatMap fun i => [Value.int .u8 (Lib.accLo i), Value.int .u8 (Lib.accHi i)]).toArray
  { w0 with heap := h2 }
theorem noteBack_met (os : Os) : laidMet Tryd.prog Rows.noteBackRow.laid ((noteBack_world os).forCall (fun _ _ => 0) ⟨#[], #[.agg #[.slice none 0 0, .slice none 0 0, .slice none 0 0, .slice none 0 0, .int .i64 0, .int .i64 0, .bool false, .bool false, .int .i64 0, .int .i64 0, .slice none 0 0, .slice none 0 0, .slice none 0 0, .slice none 0 0, .int .i64 0, .int .i64 0]], []⟩).memory :=
  laidMet_of_run' 8 (by kernel_rfl) (by kernel_rfl)
theorem noteBack_reads (os : Os) {H : Type} (enc : TypeId × Value → H) : ∃ ds places, DataW.whole enc Tryd.prog ((noteBack_world os).forCall (fun _ _ => 0) ⟨#[], #[.agg #[.slice none 0 0, .slice none 0 0, .slice none 0 0, .slice none 0 0, .int .i64 0, .int .i64 0, .bool false, .bool false, .int .i64 0, .int .i64 0, .slice none 0 0, .slice none 0 0, .slice none 0 0, .slice none 0 0, .int .i64 0, .int .i64 0]], []⟩).memory Tryd.f4.params.toList Rows.noteBackSpec.vars false #[.agg #[.slice none 0 0, .slice none 0 0, .slice none 0 0, .slice none 0 0, .int .i64 0, .int .i64 0, .bool false, .bool false, .int .i64 0, .int .i64 0, .slice none 0 0, .slice none 0 0, .slice none 0 0, .slice none 0 0, .int .i64 0, .int .i64 0]].toList 8 = some (ds, [], places) :=
  ⟨[.agg [.nil, .nil, .nil, .nil, .lit (.int .i64 0), .lit (.int .i64 0), .lit (.bool false), .lit (.bool false), .lit (.int .i64 0), .agg [.lit (.int .i64 0), .nil, .nil, .nil], .nil, .lit (.int .i64 0), .lit (.int .i64 0)]], [], by kernel_rfl⟩
set_option maxRecDepth 100000 in
set_option maxHeartbeats 1000000 in
theorem noteBack_lifted (os : Os) (started : os.Started) (H : Type) (enc : TypeId × Value → H) (F : Stop.Interp) :
    ReturnsInHanded {} Tryd.checked os 4 .any ((OpenSpec.ofChange Rows.noteBackSpec).preRow enc Tryd.prog Tryd.f4 Rows.noteBackRow.domain false Rows.noteBackRow.laid) (((OpenSpec.ofChange Rows.noteBackSpec).at F).post enc Tryd.prog Tryd.f4 false true false false) := by
  obtain ⟨ds, places, hx⟩ := noteBack_reads os enc
  refine returnsInHanded_of_row (C := Tryd.checked) (s := (OpenSpec.ofChange Rows.noteBackSpec)) noteBack_own started (by kernel_rfl) Tryd.func4
    (witness_row_at (enc := enc) (C := Tryd.checked) false (noteBack_world os) #[.agg #[.slice none 0 0, .slice none 0 0, .slice none 0 0, .slice none 0 0, .int .i64 0, .int .i64 0, .bool false, .bool false, .int .i64 0, .int .i64 0, .slice none 0 0, .slice none 0 0, .slice none 0 0, .slice none 0 0, .int .i64 0, .int .i64 0]] rfl (by kernel_rfl) (by kernel_rfl) (by kernel_rfl)
      (OpenSpec.preRow_of_cond 8 hx (by kernel_rfl) (fun k hk => by cases hk) (by kernel_rfl) (noteBack_met os))) ?_
  intro W base args ds gs before hval hW _ hcond _ hL _ _
  exact noteBack_contract H enc W base args ds gs before hval hW hL
theorem noteBack_said : Rows.NoteBackSaid :=
  OpenClaim.holds_of_cond 4 Tryd.f4 rfl rfl rfl rfl rfl rfl rfl ⟨rfl, rfl, rfl, rfl, rfl⟩ rfl rfl rfl rfl rfl (by kernel_rfl) Tryd.func4 (by kernel_rfl)
    (of_decide_eq_true (by kernel_rfl)) (by unfold Func.isWrapper; first | (rw [if_pos (by decide +kernel)]; kernel_rfl) | (rw [if_neg (by decide +kernel)]; exact ⟨rfl, rfl⟩))
    (fun os started H enc _ F => by rw [OpenClaim.pre_eq_preRow]; exact noteBack_lifted os started H enc F)
theorem noteBack_plain (f : FuncId) (fn : Func) (hf : Tryd.pinned.checked.prog.funcNamed "tidings/tidingslaw19.NoteBack" = some f) (hfn : Tryd.pinned.checked.prog.funcs[f]? = some fn) :
    true = Tryd.pinned.checked.prog.looks [] ∧ ∀ (j : Nat) t, fn.params[j]? = some t → Tryd.pinned.checked.prog.wantsStandIn t = false := by
  obtain rfl : f = 4 := Option.some.inj ((show Tryd.prog.funcNamed "tidings/tidingslaw19.NoteBack" = some 4 by kernel_rfl).symm.trans hf) |>.symm
  obtain rfl : fn = Tryd.f4 := (Option.some.inj (Tryd.func4.symm.trans hfn)).symm
  refine ⟨by kernel_rfl, fun j t ht => ?_⟩
  rw [Tryd.params4] at ht
  have hm : t = 27 := by
    have := Array.mem_of_getElem? ht
    simp at this
    first | exact this | exact this.symm | omega | (rcases this with h | h | h <;> simp [h]) | (rcases this with h | h | h | h <;> simp [h]) | (rcases this with h | h | h | h | h <;> simp [h]) | (rcases this with h | h | h | h | h | h <;> simp [h]) | (rcases this with h | h | h | h | h | h | h <;> simp [h])
  subst hm
  exact (show Tryd.prog.wantsStandIn 27 = false by kernel_rfl)
theorem noteBack_card : Rows.NoteBackCardSaid :=
  Claim7.holds_tied_plain_at .later [] _ _ _ _ noteBack_said (fun _ h => by cases h) (by kernel_rfl) (fun _ h => by cases h) noteBack_row_tie rfl ⟨rfl, rfl⟩ (by kernel_rfl) rfl noteBack_plain (by kernel_rfl)
#print axioms noteBack_card
end Go.Proofs.YtmlkhhidifjjfaaDoor
