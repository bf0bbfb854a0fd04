/- TopicLevels, by evaluation. -/
import Derived.Test.YtochhdiilicpgaaDoorTForms
namespace Go.Proofs.YtochhdiilicpgaaDoor
set_option linter.unusedSimpArgs false
set_option linter.unusedVariables false
set_option maxHeartbeats 4000000
set_option maxRecDepth 10000
def joinL : List (List UInt8) → List UInt8
  | [] => []
  | x :: r => 47 :: (x ++ joinL r)
theorem join_split : ∀ s : List UInt8, joinL (splitL s) = 47 :: s
  | [] => by simp [splitL, joinL]
  | b :: s => by
    have ih := join_split s
    by_cases h : b = 47
    · subst h; rw [splitL]; simp only [beq_self_eq_true, if_true, joinL, ih, List.nil_append]
    · cases e : splitL s with
      | nil => exact absurd e (splitL_ne s)
      | cons p r =>
        rw [e, joinL] at ih
        simp only [List.cons.injEq, true_and] at ih
        have : splitL (b :: s) = (b :: p) :: r := by rw [splitL]; simp [h, e]
        rw [this, joinL, List.cons_append, ih]
theorem split_no (s : List UInt8) : ∀ x ∈ splitL s, ∀ b ∈ x, b ≠ 47 := by
  induction s with
  | nil => simp [splitL]
  | cons b s ih =>
    by_cases h : b = 47
    · subst h; rw [splitL]; simp only [beq_self_eq_true, if_true, List.mem_cons]
      rintro x (rfl | hx)
      · simp
      · exact ih x hx
    · cases e : splitL s with
      | nil => exact absurd e (splitL_ne s)
      | cons p r =>
        have : splitL (b :: s) = (b :: p) :: r := by rw [splitL]; simp [h, e]
        rw [this]
        rw [e] at ih
        intro x hx c hc
        rcases List.mem_cons.1 hx with rfl | hx
        · rcases List.mem_cons.1 hc with rfl | hc
          · exact h
          · exact ih p (by simp) c hc
        · exact ih x (by simp [hx]) c hc
theorem q_levsIn (L : List (List UInt8)) (x : List UInt8) (j : Nat) (hx : L[j]? = some x) (hl : x.length ≤ 9223372036854775807) (hn : ∀ b ∈ x, b ≠ 47) (t s : List UInt8) : ∀ (r : List UInt8) (k : Nat), x.drop k = r → k ≤ x.length →
    evL FC PR BY 0 [6, 5, 4, 3, 0] c_tidingslaw14_TopicLevels_l10 [(6, .int .i64 k), (5, .int .i64 j), (4, .str t), (3, .lst false (L.map AVal.str)), (0, .str s)] [] = some (.exit 2, [(27, .bool false), (6, .int .i64 x.length), (5, .int .i64 j), (4, .str t), (3, .lst false (L.map AVal.str)), (0, .str s)], [])
  | [], k, h, hk => by
    have h1 := drop_nil h
    have e1 := iad hx AVal.str (k := 1) rfl
    have e2 : k = x.length := by omega
    rw [evL_eq]
    simp -implicitDefEqProofs only [EVS0, EVS1, EVS2, EVS3, EVS4, EVS5, EVS6, EVS7, ite_tf, ite_ft, ite_tft, ite_ftf, ite_list, ite_tt, ite_ee, ite_nt, ite_ne, eq_self, implies_true, forall_const, exI, nsite, freeAt, execI, Opd.ev, tget, tins, tput, keepL, sitesOf, List.map_cons, List.map_nil, List.sum_cons, List.sum_nil, List.length_cons, List.length_nil, List.replicate_zero, List.replicate_succ, List.append_nil, List.nil_append, List.cons_append, List.getElem?_cons_zero, List.getElem?_cons_succ, List.set_cons_zero, List.set_cons_succ, Nat.add_zero, Nat.zero_add, Nat.reduceAdd, Nat.reduceSub, Nat.reduceLT, Nat.reduceLeDiff, Nat.reduceEqDiff, Nat.reduceBEq, Nat.reduceMul, beq_self_eq_true, Bool.true_or, Bool.false_or, Bool.or_true, Bool.or_false, Bool.and_true, Bool.true_and, Bool.and_self, Bool.and_false, Bool.false_and, if_true, if_false, ite_true, ite_false, Bool.false_eq_true, Option.map_some, Option.map_none, and_self, and_true, true_and, and_false, false_and, true_or, or_true, false_or, or_false, not_true_eq_false, not_false_eq_true, List.drop_zero, List.drop_succ_cons, List.take_succ_cons, List.take_zero, ldA, stA, partA, faddrA, setAt, List.all_cons, List.all_nil, binA, arithA, shiftA, strA, unA, gSpan, gSkip, unG, ne_eq, Option.some.injEq, reduceCtorEq, decide_true, decide_false, elemsA, resA, resAll, resOne, enterA, decide_eq_true_eq, Bool.not_eq_true, Bool.decide_eq_true, List.isEmpty_nil, Bool.not_false, Bool.not_true, List.length_map, Bool.bne_false, Bool.bne_true, List.isEmpty_cons, List.getD_cons_zero, List.getD_cons_succ, List.getD_nil, ite_self, ↓reduceIte, noRefL, clrA, gcT, gcA, gcIds, reach, rhoOf, heapOf, idxA, genB, newGen, renB, refsB, List.contains_cons, List.contains_nil, List.range_zero, List.range_succ, List.flatMap_cons, List.flatMap_nil, List.zip_cons_cons, List.zip_nil_left, List.zip_nil_right, Nat.not_lt_zero, cb_tidingslaw14_TopicLevels, b_tidingslaw14_TopicLevels, cr_tidingslaw14_TopicLevels, x_tidingslaw14_TopicLevels_k0, x_tidingslaw14_TopicLevels_k1, x_tidingslaw14_TopicLevels_k2, x_tidingslaw14_TopicLevels_l10, x_tidingslaw14_TopicLevels_l5, intsV, bytesV, propsV, propV, propC, bytesOf_map, h1, e1]
    rw [e2]
  | b :: r, k, h, hk => by
    have ih := q_levsIn L x j hx hl hn t s r (k + 1) (drop_at h).2.1 (drop_at h).2.2
    have h1 : (k : Int) < x.length := by have := (drop_at h).2.2; omega
    have h2 := (drop_at h).1
    have h3 := wrap_succ h1 hl
    have i0 : (0 : Int) ≤ (k : Int) := by omega
    have e1 := iad hx AVal.str (k := 1) rfl
    have hb : ((b.toNat : Int) == 47) = false := by
      have := hn b (List.mem_of_getElem? h2)
      rw [beq_eq_false_iff_ne, ne_eq]
      intro h4
      exact this (UInt8.toNat_inj.1 (by show b.toNat = 47; omega))
    rw [evL_eq]
    simp -implicitDefEqProofs only [EVS0, EVS1, EVS2, EVS3, EVS4, EVS5, EVS6, EVS7, ite_tf, ite_ft, ite_tft, ite_ftf, ite_list, ite_tt, ite_ee, ite_nt, ite_ne, eq_self, implies_true, forall_const, exI, nsite, freeAt, execI, Opd.ev, tget, tins, tput, keepL, sitesOf, List.map_cons, List.map_nil, List.sum_cons, List.sum_nil, List.length_cons, List.length_nil, List.replicate_zero, List.replicate_succ, List.append_nil, List.nil_append, List.cons_append, List.getElem?_cons_zero, List.getElem?_cons_succ, List.set_cons_zero, List.set_cons_succ, Nat.add_zero, Nat.zero_add, Nat.reduceAdd, Nat.reduceSub, Nat.reduceLT, Nat.reduceLeDiff, Nat.reduceEqDiff, Nat.reduceBEq, Nat.reduceMul, beq_self_eq_true, Bool.true_or, Bool.false_or, Bool.or_true, Bool.or_false, Bool.and_true, Bool.true_and, Bool.and_self, Bool.and_false, Bool.false_and, if_true, if_false, ite_true, ite_false, Bool.false_eq_true, Option.map_some, Option.map_none, and_self, and_true, true_and, and_false, false_and, true_or, or_true, false_or, or_false, not_true_eq_false, not_false_eq_true, List.drop_zero, List.drop_succ_cons, List.take_succ_cons, List.take_zero, ldA, stA, partA, faddrA, setAt, List.all_cons, List.all_nil, binA, arithA, shiftA, strA, unA, gSpan, gSkip, unG, ne_eq, Option.some.injEq, reduceCtorEq, decide_true, decide_false, elemsA, resA, resAll, resOne, enterA, decide_eq_true_eq, Bool.not_eq_true, Bool.decide_eq_true, List.isEmpty_nil, Bool.not_false, Bool.not_true, List.length_map, Bool.bne_false, Bool.bne_true, List.isEmpty_cons, List.getD_cons_zero, List.getD_cons_succ, List.getD_nil, ite_self, ↓reduceIte, noRefL, clrA, gcT, gcA, gcIds, reach, rhoOf, heapOf, idxA, genB, newGen, renB, refsB, List.contains_cons, List.contains_nil, List.range_zero, List.range_succ, List.flatMap_cons, List.flatMap_nil, List.zip_cons_cons, List.zip_nil_left, List.zip_nil_right, Nat.not_lt_zero, cb_tidingslaw14_TopicLevels, b_tidingslaw14_TopicLevels, cr_tidingslaw14_TopicLevels, x_tidingslaw14_TopicLevels_k0, x_tidingslaw14_TopicLevels_k1, x_tidingslaw14_TopicLevels_k2, x_tidingslaw14_TopicLevels_l10, x_tidingslaw14_TopicLevels_l5, intsV, bytesV, propsV, propV, propC, bytesOf_map, h1, h2, h3, i0, e1, hb, Int.toNat_natCast, byteV]
    exact ih
def restL (i : Nat) (r : List (List UInt8)) : List UInt8 := if i = 0 then (joinL r).drop 1 else joinL r
theorem q_levsOut (L : List (List UInt8)) (s : List UInt8) (hs : s.length ≤ 200) (hL : L.length ≤ 9223372036854775807) (h0 : 0 < L.length) (hn : ∀ x ∈ L, ∀ b ∈ x, b ≠ 47) (hx : ∀ x ∈ L, x.length ≤ 9223372036854775807) : ∀ (r : List (List UInt8)) (i : Nat) (t : List UInt8), L.drop i = r → t ++ restL i r = s →
    K_tidingslaw14_TopicLevels_l5 0 [(5, .int .i64 i), (4, .str t), (3, .lst false (L.map AVal.str)), (0, .str s)] [] = some (.bool true, [])
  | [], i, t, h, ht => by
    have h1 := drop_nil h
    have h2 : (0 : Int) < L.length := by omega
    have h3 : t = s := by simpa [restL, joinL] using ht
    subst h3
    unfold K_tidingslaw14_TopicLevels_l5
    rw [evL_eq]
    simp -implicitDefEqProofs only [EVS0, EVS1, EVS2, EVS3, EVS4, EVS5, EVS6, EVS7, ite_tf, ite_ft, ite_tft, ite_ftf, ite_list, ite_tt, ite_ee, ite_nt, ite_ne, eq_self, implies_true, forall_const, exI, nsite, freeAt, execI, Opd.ev, tget, tins, tput, keepL, sitesOf, List.map_cons, List.map_nil, List.sum_cons, List.sum_nil, List.length_cons, List.length_nil, List.replicate_zero, List.replicate_succ, List.append_nil, List.nil_append, List.cons_append, List.getElem?_cons_zero, List.getElem?_cons_succ, List.set_cons_zero, List.set_cons_succ, Nat.add_zero, Nat.zero_add, Nat.reduceAdd, Nat.reduceSub, Nat.reduceLT, Nat.reduceLeDiff, Nat.reduceEqDiff, Nat.reduceBEq, Nat.reduceMul, beq_self_eq_true, Bool.true_or, Bool.false_or, Bool.or_true, Bool.or_false, Bool.and_true, Bool.true_and, Bool.and_self, Bool.and_false, Bool.false_and, if_true, if_false, ite_true, ite_false, Bool.false_eq_true, Option.map_some, Option.map_none, and_self, and_true, true_and, and_false, false_and, true_or, or_true, false_or, or_false, not_true_eq_false, not_false_eq_true, List.drop_zero, List.drop_succ_cons, List.take_succ_cons, List.take_zero, ldA, stA, partA, faddrA, setAt, List.all_cons, List.all_nil, binA, arithA, shiftA, strA, unA, gSpan, gSkip, unG, ne_eq, Option.some.injEq, reduceCtorEq, decide_true, decide_false, elemsA, resA, resAll, resOne, enterA, decide_eq_true_eq, Bool.not_eq_true, Bool.decide_eq_true, List.isEmpty_nil, Bool.not_false, Bool.not_true, List.length_map, Bool.bne_false, Bool.bne_true, List.isEmpty_cons, List.getD_cons_zero, List.getD_cons_succ, List.getD_nil, ite_self, ↓reduceIte, noRefL, clrA, gcT, gcA, gcIds, reach, rhoOf, heapOf, idxA, genB, newGen, renB, refsB, List.contains_cons, List.contains_nil, List.range_zero, List.range_succ, List.flatMap_cons, List.flatMap_nil, List.zip_cons_cons, List.zip_nil_left, List.zip_nil_right, Nat.not_lt_zero, cb_tidingslaw14_TopicLevels, b_tidingslaw14_TopicLevels, cr_tidingslaw14_TopicLevels, x_tidingslaw14_TopicLevels_k0, x_tidingslaw14_TopicLevels_k1, x_tidingslaw14_TopicLevels_k2, x_tidingslaw14_TopicLevels_l10, x_tidingslaw14_TopicLevels_l5, intsV, bytesV, propsV, propV, propC, bytesOf_map, h1, h2, q_wakes14C, gt_iff_lt]
  | x :: r, i, t, h, ht => by
    have hd := drop_at h
    have h1 : (i : Int) < L.length := by have := hd.2.2; omega
    have hm : x ∈ L := List.mem_of_getElem? hd.1
    have e1 := iad hd.1 AVal.str (k := 1) rfl
    have e3 := wrap_succ h1 hL
    have z0 : ((0 : Nat) : Int) = 0 := rfl
    cases i with
    | zero =>
      have ih := q_levsOut L s hs hL h0 hn hx r 1 (t ++ x) hd.2.1 (by simpa [restL, joinL] using ht)
      have hin := q_levsIn L x 0 hd.1 (hx x hm) (hn x hm) t s x 0 rfl (by omega)
      rw [z0] at hin e1 e3
      have h2 : ¬ ((0 : Int) > 0) := by decide
      have hj : t.length + x.length ≤ 9223372036854775807 := by
        have := congrArg List.length ht
        simp [restL, joinL] at this
        omega
      have h5 : (0 : Int) < L.length := by omega
      unfold K_tidingslaw14_TopicLevels_l5 at ih ⊢
      rw [evL_eq]
      simp -implicitDefEqProofs only [EVS0, EVS1, EVS2, EVS3, EVS4, EVS5, EVS6, EVS7, ite_tf, ite_ft, ite_tft, ite_ftf, ite_list, ite_tt, ite_ee, ite_nt, ite_ne, eq_self, implies_true, forall_const, exI, nsite, freeAt, execI, Opd.ev, tget, tins, tput, keepL, sitesOf, List.map_cons, List.map_nil, List.sum_cons, List.sum_nil, List.length_cons, List.length_nil, List.replicate_zero, List.replicate_succ, List.append_nil, List.nil_append, List.cons_append, List.getElem?_cons_zero, List.getElem?_cons_succ, List.set_cons_zero, List.set_cons_succ, Nat.add_zero, Nat.zero_add, Nat.reduceAdd, Nat.reduceSub, Nat.reduceLT, Nat.reduceLeDiff, Nat.reduceEqDiff, Nat.reduceBEq, Nat.reduceMul, beq_self_eq_true, Bool.true_or, Bool.false_or, Bool.or_true, Bool.or_false, Bool.and_true, Bool.true_and, Bool.and_self, Bool.and_false, Bool.false_and, if_true, if_false, ite_true, ite_false, Bool.false_eq_true, Option.map_some, Option.map_none, and_self, and_true, true_and, and_false, false_and, true_or, or_true, false_or, or_false, not_true_eq_false, not_false_eq_true, List.drop_zero, List.drop_succ_cons, List.take_succ_cons, List.take_zero, ldA, stA, partA, faddrA, setAt, List.all_cons, List.all_nil, binA, arithA, shiftA, strA, unA, gSpan, gSkip, unG, ne_eq, Option.some.injEq, reduceCtorEq, decide_true, decide_false, elemsA, resA, resAll, resOne, enterA, decide_eq_true_eq, Bool.not_eq_true, Bool.decide_eq_true, List.isEmpty_nil, Bool.not_false, Bool.not_true, List.length_map, Bool.bne_false, Bool.bne_true, List.isEmpty_cons, List.getD_cons_zero, List.getD_cons_succ, List.getD_nil, ite_self, ↓reduceIte, noRefL, clrA, gcT, gcA, gcIds, reach, rhoOf, heapOf, idxA, genB, newGen, renB, refsB, List.contains_cons, List.contains_nil, List.range_zero, List.range_succ, List.flatMap_cons, List.flatMap_nil, List.zip_cons_cons, List.zip_nil_left, List.zip_nil_right, Nat.not_lt_zero, cb_tidingslaw14_TopicLevels, b_tidingslaw14_TopicLevels, cr_tidingslaw14_TopicLevels, x_tidingslaw14_TopicLevels_k0, x_tidingslaw14_TopicLevels_k1, x_tidingslaw14_TopicLevels_k2, x_tidingslaw14_TopicLevels_l10, x_tidingslaw14_TopicLevels_l5, intsV, bytesV, propsV, propV, propC, bytesOf_map, z0, h5, h2, e1, e3, hin, hj]
      exact ih
    | succ i =>
      have ih := q_levsOut L s hs hL h0 hn hx r (i + 2) (t ++ [47] ++ x) hd.2.1 (by simpa [restL, joinL] using ht)
      have hin := q_levsIn L x (i + 1) hd.1 (hx x hm) (hn x hm) (t ++ [47]) s x 0 rfl (by omega)
      rw [z0] at hin
      have h2 : ((i + 1 : Nat) : Int) > 0 := by omega
      have hj0 : t.length + x.length + 1 ≤ 200 := by
        have := congrArg List.length ht
        simp [restL, joinL] at this
        omega
      have hj1 : t.length + 1 ≤ 9223372036854775807 := by omega
      have hj2 : (t ++ [47]).length + x.length ≤ 9223372036854775807 := by simp; omega
      unfold K_tidingslaw14_TopicLevels_l5 at ih ⊢
      rw [evL_eq]
      simp -implicitDefEqProofs only [EVS0, EVS1, EVS2, EVS3, EVS4, EVS5, EVS6, EVS7, ite_tf, ite_ft, ite_tft, ite_ftf, ite_list, ite_tt, ite_ee, ite_nt, ite_ne, eq_self, implies_true, forall_const, exI, nsite, freeAt, execI, Opd.ev, tget, tins, tput, keepL, sitesOf, List.map_cons, List.map_nil, List.sum_cons, List.sum_nil, List.length_cons, List.length_nil, List.replicate_zero, List.replicate_succ, List.append_nil, List.nil_append, List.cons_append, List.getElem?_cons_zero, List.getElem?_cons_succ, List.set_cons_zero, List.set_cons_succ, Nat.add_zero, Nat.zero_add, Nat.reduceAdd, Nat.reduceSub, Nat.reduceLT, Nat.reduceLeDiff, Nat.reduceEqDiff, Nat.reduceBEq, Nat.reduceMul, beq_self_eq_true, Bool.true_or, Bool.false_or, Bool.or_true, Bool.or_false, Bool.and_true, Bool.true_and, Bool.and_self, Bool.and_false, Bool.false_and, if_true, if_false, ite_true, ite_false, Bool.false_eq_true, Option.map_some, Option.map_none, and_self, and_true, true_and, and_false, false_and, true_or, or_true, false_or, or_false, not_true_eq_false, not_false_eq_true, List.drop_zero, List.drop_succ_cons, List.take_succ_cons, List.take_zero, ldA, stA, partA, faddrA, setAt, List.all_cons, List.all_nil, binA, arithA, shiftA, strA, unA, gSpan, gSkip, unG, ne_eq, Option.some.injEq, reduceCtorEq, decide_true, decide_false, elemsA, resA, resAll, resOne, enterA, decide_eq_true_eq, Bool.not_eq_true, Bool.decide_eq_true, List.isEmpty_nil, Bool.not_false, Bool.not_true, List.length_map, Bool.bne_false, Bool.bne_true, List.isEmpty_cons, List.getD_cons_zero, List.getD_cons_succ, List.getD_nil, ite_self, ↓reduceIte, noRefL, clrA, gcT, gcA, gcIds, reach, rhoOf, heapOf, idxA, genB, newGen, renB, refsB, List.contains_cons, List.contains_nil, List.range_zero, List.range_succ, List.flatMap_cons, List.flatMap_nil, List.zip_cons_cons, List.zip_nil_left, List.zip_nil_right, Nat.not_lt_zero, cb_tidingslaw14_TopicLevels, b_tidingslaw14_TopicLevels, cr_tidingslaw14_TopicLevels, x_tidingslaw14_TopicLevels_k0, x_tidingslaw14_TopicLevels_k1, x_tidingslaw14_TopicLevels_k2, x_tidingslaw14_TopicLevels_l10, x_tidingslaw14_TopicLevels_l5, intsV, bytesV, propsV, propV, propC, bytesOf_map, h1, h2, e1, e3, hin, hj1, hj2]
      exact ih
theorem q_levs (s0 : List UInt8) : E 6 [.str s0] [] = some (.bool true, []) := by
  have hs : (s0.take 200).length ≤ 200 := by simp; omega
  rw [E_eq (by rfl) cf_tidingslaw14_TopicLevels]
  have hc := fun σ site own view => q_cut14C σ site own view s0
  generalize s0.take 200 = s at *
  have h4 := fun σ site own view => q_levelsC σ site own view s (by omega)
  have hlen := split_len s
  have hcl := List.count_le_length (a := (47 : UInt8)) (l := s)
  have key := q_levsOut (splitL s) s hs (by omega) (by omega) (split_no s) (fun x hx => by have := split_mem s x hx; omega) (splitL s) 0 [] rfl (by simp [restL, join_split])
  have z0 : ((0 : Nat) : Int) = 0 := rfl
  rw [z0] at key
  unfold K_tidingslaw14_TopicLevels_l5 at key
  simp -implicitDefEqProofs only [EVS0, EVS1, EVS2, EVS3, EVS4, EVS5, EVS6, EVS7, ite_tf, ite_ft, ite_tft, ite_ftf, ite_list, ite_tt, ite_ee, ite_nt, ite_ne, eq_self, implies_true, forall_const, exI, nsite, freeAt, execI, Opd.ev, tget, tins, tput, keepL, sitesOf, List.map_cons, List.map_nil, List.sum_cons, List.sum_nil, List.length_cons, List.length_nil, List.replicate_zero, List.replicate_succ, List.append_nil, List.nil_append, List.cons_append, List.getElem?_cons_zero, List.getElem?_cons_succ, List.set_cons_zero, List.set_cons_succ, Nat.add_zero, Nat.zero_add, Nat.reduceAdd, Nat.reduceSub, Nat.reduceLT, Nat.reduceLeDiff, Nat.reduceEqDiff, Nat.reduceBEq, Nat.reduceMul, beq_self_eq_true, Bool.true_or, Bool.false_or, Bool.or_true, Bool.or_false, Bool.and_true, Bool.true_and, Bool.and_self, Bool.and_false, Bool.false_and, if_true, if_false, ite_true, ite_false, Bool.false_eq_true, Option.map_some, Option.map_none, and_self, and_true, true_and, and_false, false_and, true_or, or_true, false_or, or_false, not_true_eq_false, not_false_eq_true, List.drop_zero, List.drop_succ_cons, List.take_succ_cons, List.take_zero, ldA, stA, partA, faddrA, setAt, List.all_cons, List.all_nil, binA, arithA, shiftA, strA, unA, gSpan, gSkip, unG, ne_eq, Option.some.injEq, reduceCtorEq, decide_true, decide_false, elemsA, resA, resAll, resOne, enterA, decide_eq_true_eq, Bool.not_eq_true, Bool.decide_eq_true, List.isEmpty_nil, Bool.not_false, Bool.not_true, List.length_map, Bool.bne_false, Bool.bne_true, List.isEmpty_cons, List.getD_cons_zero, List.getD_cons_succ, List.getD_nil, ite_self, ↓reduceIte, noRefL, clrA, gcT, gcA, gcIds, reach, rhoOf, heapOf, idxA, genB, newGen, renB, refsB, List.contains_cons, List.contains_nil, List.range_zero, List.range_succ, List.flatMap_cons, List.flatMap_nil, List.zip_cons_cons, List.zip_nil_left, List.zip_nil_right, Nat.not_lt_zero, cb_tidingslaw14_TopicLevels, b_tidingslaw14_TopicLevels, cr_tidingslaw14_TopicLevels, x_tidingslaw14_TopicLevels_k0, x_tidingslaw14_TopicLevels_k1, x_tidingslaw14_TopicLevels_k2, x_tidingslaw14_TopicLevels_l10, x_tidingslaw14_TopicLevels_l5, intsV, bytesV, propsV, propV, propC, bytesOf_map, hc, h4]
  exact key
end Go.Proofs.YtochhdiilicpgaaDoor
