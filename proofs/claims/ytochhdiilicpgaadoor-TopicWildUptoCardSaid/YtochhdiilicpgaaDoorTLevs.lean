/- TopicLevels, by evaluation. -/
import Derived.Test.YtochhdiilicpgaaDoorTForms
namespace Go.Proofs.YtochhdiilicpgaaDoor
set_option linter.unusedSimpArgs false
set_option linter.unusedVariables false
set_option maxHeartbeats 4000000
set_option maxRecDepth 10000
def joinL : List (List UInt8) → List UInt8
  | [] => []
  | x :: r => 47 :: (x ++ joinL r)
theorem join_split : ∀ s : List UInt8, joinL (splitL s) = 47 :: s
  | [] => by simp [splitL, joinL]
  | b :: s => by
    have ih := join_split s
    by_cases h : b = 47
    · subst h; rw [splitL]; simp only [beq_self_eq_true, if_true, joinL, ih, List.nil_append]
    · cases e : splitL s with
      | nil => exact absurd e (splitL_ne s)
      | cons p r =>
        rw [e, joinL] at ih
        simp only [List.cons.injEq, true_and] at ih
        have : splitL (b :: s) = (b :: p) :: r := by rw [splitL]; simp [h, e]
        rw [this, joinL, List.cons_append, ih]
theorem split_no (s : List UInt8) : ∀ x ∈ splitL s, ∀ b ∈ x, b ≠ 47 := by
  induction s with
  | nil => simp [splitL]
  | cons b s ih =>
    by_cases h : b = 47
    · subst h; rw [splitL]; simp only [beq_self_eq_true, if_true, List.mem_cons]
      rintro x (rfl | hx)
      · simp
      · exact ih x hx
    · cases e : splitL s with
      | nil => exact absurd e (splitL_ne s)
      | cons p r =>
        have : splitL (b :: s) = (b :: p) :: r := by rw [splitL]; simp [h, e]
        rw [this]
        rw [e] at ih
        intro x hx c hc
        rcases List.mem_cons.1 hx with rfl | hx
        · rcases List.mem_cons.1 hc with rfl | hc
          · exact h
          · exact ih p (by simp) c hc
        · exact ih x (by simp [hx]) c hc
theorem q_levsIn (L : List (List UInt8)) (x : List UInt8) (j : Nat) (hx : L[j]? = some x) (hl : x.length ≤ 9223372036854775807) (hn : ∀ b ∈ x, b ≠ 47) (t s : List UInt8) : ∀ (r : List UInt8) (k : Nat), x.drop k = r → k ≤ x.length →
    evL FC PR BY 0 [6, 5, 4, 3, 0] c_tidingslaw14_TopicLevels_l10 [(6, .int .i64 k), (5, .int .i64 j), (4, .str t), (3, .lst false (L.map AVal.str)), (0, .str s)] [] = some (.exit 2, [(27, .bool false), (6, .int .i64 x.length), (5, .int .i64 j), (4, .str t), (3, .lst false (L.map AVal.str)), (0, .str s)], [])
  | [], k, h, hk => by
    have h1 := drop_nil h
    have e1 := iad hx AVal.str (k := 1) rfl
    have e2 : k = x.length := by omega
    rw [evL_eq]
    simp -implicitDefEqProofs only [EVS0, EVS1, EVS2, EVS3, EVS4, EVS5, EVS6, EVS7, ite_tf, ite_ft, ite_tft, ite_ftf, ite_list, ite_tt, ite_ee, ite_nt, ite_ne, eq_self, implies_true, forall_const, exI, nsite, freeAt, execI, Opd.ev, tget, tins, tput, keepL, sitesOf, List.map_cons, List.map_nil, List.sum_cons, List.sum_nil, List.length_cons, List.length_nil, List.replicate_zero, List.replicate_succ, List.append_nil, List.nil_append, List.cons_append, List.getElem?_cons_zero, List.getElem?_cons_succ, List.set_cons_zero, List.set_cons_succ, Nat.add_zero, Nat.zero_add, Nat.reduceAdd, Nat.reduceSub, Nat.reduceLT, Nat.reduceLeDiff, Nat.reduceEqDiff, Nat.reduceBEq, Nat.reduceMul, beq_self_eq_true, Bool.true_or, Bool.false_or, Bool.or_true, Bool.or_false, Bool.and_true, Bool.true_and, Bool.and_self, Bool.and_false, Bool.false_and, if_true, if_false, ite_true, ite_false, Bool.false_eq_true, Option.map_some, Option.map_none, and_self, and_true, true_and, and_false, false_and, true_or, or_true, false_or, or_false, not_true_eq_false, not_false_eq_true, List.drop_zero, List.drop_succ_cons, List.take_succ_cons, List.take_zero, ldA, stA, partA, faddrA, setAt, List.all_cons, List.all_nil, binA, arithA, shiftA, strA, unA, gSpan, gSkip, unG, ne_eq, Option.some.injEq, reduceCtorEq, decide_true, decide_false, elemsA, resA, resAll, resOne, enterA, decide_eq_true_eq, Bool.not_eq_true, Bool.decide_eq_true, List.isEmpty_nil, Bool.not_false, Bool.not_true, List.length_map, Bool.bne_false, Bool.bne_true, List.isEmpty_cons, List.getD_cons_zero, List.getD_cons_succ, List.getD_nil, ite_self, ↓reduceIte, noRefL, clrA, gcT, gcA, gcIds, reach, rhoOf, heapOf, idxA, genB, newGen, renB, refsB, List.contains_cons, List.contains_nil, List.range_zero, List.range_succ, List.flatMap_cons, List.flatMap_nil, List.zip_cons_cons, List.zip_nil_left, List.zip_nil_right, Nat.not_lt_zero, cb_tidingslaw14_TopicLevels, b_tidingslaw14_TopicLevels, cr_tidingslaw14_TopicLevels, x_tidingslaw14_TopicLevels_k0, x_tidingslaw14_TopicLevels_k1, x_tidingslaw14_TopicLevels_k2, x_tidingslaw14_TopicLevels_l10, x_tidingslaw14_TopicLevels_l5, intsV, bytesV, propsV, propV, propC, bytesOf_map, h1, e1]
    rw [e2]
  | b :: r, k, h, hk => by
    have ih := q_levsIn L x j hx hl hn t s r (k + 1) (drop_at h).2.1 (drop_at h).2.2
    have h1 : (k : Int) < x.length := by have := (drop_at h).2.2; omega
    have h2 := (drop_at h).1
    have h3 := wrap_succ h1 hl
    have i0 : (0 : Int) ≤ (k : Int) := by omega
    have e1 := iad hx AVal.str (k := 1) rfl
    have hb : ((b.toNat : Int) == 47) = false := by
      have := hn b (List.mem_of_getElem? h2)
      rw [beq_eq_false_iff_ne, ne_eq]
      intro h4
      exact this (UInt8.toNat_inj.1 (by show b.toNat = 47; omega))
    rw [evL_eq]
    simp -implicitDefEqProofs only [EVS0, EVS1, EVS2, EVS3, EVS4, EVS5, EVS6, EVS7, ite_tf, ite_ft, ite_tft, ite_ftf, ite_list, ite_tt, ite_ee, ite_nt, ite_ne, eq_self, implies_true, forall_const, exI, nsite, freeAt, execI, Opd.ev, tget, tins, tput, keepL, sitesOf, List.map_cons, List.map_nil, List.sum_cons, List.sum_nil, List.length_cons, List.length_nil, List.replicate_zero, List.replicate_succ, List.append_nil, List.nil_append, List.cons_append, List.getElem?_cons_zero, List.getElem?_cons_succ, List.set_cons_zero, List.set_cons_succ, Nat.add_zero, Nat.zero_add, Nat.reduceAdd, Nat.reduceSub, Nat.reduceLT, Nat.reduceLeDiff, Nat.reduceEqDiff, Nat.reduceBEq, Nat.reduceMul, beq_self_eq_true, Bool.true_or, Bool.false_or, Bool.or_true, Bool.or_false, Bool.and_true, Bool.true_and, Bool.and_self, Bool.and_false, Bool.false_and, if_true, if_false, ite_true, ite_false, Bool.false_eq_true, Option.map_some, Option.map_none, and_self, and_true, true_and, and_false, false_and, true_or, or_true, false_or, or_false, not_true_eq_false, not_false_eq_true, List.drop_zero, List.drop_succ_cons, List.take_succ_cons, List.take_zero, ldA, stA, partA, faddrA, setAt, List.all_cons, List.all_nil, binA, arithA, shiftA, strA, unA, gSpan, gSkip, unG, ne_eq, Option.some.injEq, reduceCtorEq, decide_true, decide_false, elemsA, resA, resAll, resOne, enterA, decide_eq_true_eq, Bool.not_eq_true, Bool.decide_eq_true, List.isEmpty_nil, Bool.not_false, Bool.not_true, List.length_map, Bool.bne_false, Bool.bne_true, List.isEmpty_cons, List.getD_cons_zero, List.getD_cons_succ, List.getD_nil, ite_self, ↓reduceIte, noRefL, clrA, gcT, gcA, gcIds, reach, rhoOf, heapOf, idxA, genB, newGen, renB, refsB, List.contains_cons, List.contains_nil, List.range_zero, List.range_succ, List.flatMap_cons, List.flatMap_nil, List.zip_cons_cons, List.zip_nil_left, List.zip_nil_right, Nat.not_lt_zero, cb_tidingslaw14_TopicLevels, b_tidingslaw14_TopicLevels, cr_tidingslaw14_TopicLevels, x_tidingslaw14_TopicLevels_k0, x_tidingslaw14_TopicLevels_k1, x_tidingslaw14_TopicLevels_k2, x_tidingslaw14_TopicLevels_l10, x_tidingslaw14_TopicLevels_l5, intsV, bytesV, propsV, propV, propC, bytesOf_map, h1, h2, h3, i0, e1, hb, Int.toNat_natCast, byteV]
    exact ih
def restL (i : Nat) (r : List (List UInt8)) : List UInt8 := if i = 0 then (joinL r).drop 1 else joinL r
theorem q_levsOut (L : List (List UInt8)) (s : List UInt8) (hs : s.length ≤ 200) (hL : L.length ≤ 9223372036854775807) (h0 : 0 < L.length) (hn : ∀ x ∈ L, ∀ b ∈ x, b ≠ 47) (hx : ∀ x ∈ L, x.length ≤ 9223372036854775807) : ∀ (r : List (List UInt8)) (i : Nat) (t : List UInt8), L.drop i = r → t ++ restL i r = s →
    K_tidingslaw14_TopicLevels_l5 0 [(5, .int .i64 i), (4, .str t), (3, .lst false (L.map AVal.str)), (0, .str s)] [] = some (.bool true, [])
  | [], i, t, h, ht => by
    have h1 := drop_nil h
    have h2 : (0 : Int) < L.length := by omega
    have h3 : t = s := by simpa [restL, joinL] using ht
    subst h3
    unfold K_tidingslaw14_TopicLevels_l5
    rw [evL_eq]
    simp -implicitDefEqProofs only [EVS0, EVS1, EVS2, EVS3, EVS4, EVS5, EVS6, EVS7, ite_tf, ite_ft, ite_tft, ite_ftf, ite_list, ite_tt, ite_ee, ite_nt, ite_ne, eq_self, implies_true, forall_const, exI, nsite, freeAt, execI, Opd.ev, tget, tins, tput, keepL, sitesOf, List.map_cons, List.map_nil, List.sum_cons, List.sum_nil, List.length_cons, List.length_nil, List.replicate_zero, List.replicate_succ, List.append_nil, List.nil_append, List.cons_append, List.getElem?_cons_zero, List.getElem?_cons_succ, List.set_cons_zero, List.set_cons_succ, Nat.add_zero, Nat.zero_add, Nat.reduceAdd, Nat.reduceSub, Nat.reduceLT, Nat.reduceLeDiff, Nat.reduceEqDiff, Nat.reduceBEq, Nat.reduceMul, beq_self_eq_true, Bool.true_or, Bool.false_or, Bool.or_true, Bool.or_false, Bool.and_true, Bool.true_and, Bool.and_self, Bool.and_false, Bool.false_and, if_true, if_false, ite_true, ite_false, Bool.false_eq_true, Option.map_some, Option.map_none, and_self, and_true, true_and, and_false, false_and, true_or, or_true, false_or, or_false, not_true_eq_false, not_false_eq_true, List.drop_zero, List.drop_succ_cons, List.take_succ_cons, List.take_zero, ldA, stA, partA, faddrA, setAt, List.all_cons, List.all_nil, binA, arithA, shiftA, strA, unA, gSpan, gSkip, unG, ne_eq, Option.some.injEq, reduceCtorEq, decide_true, decide_false, elemsA, resA, resAll, resOne, enterA, decide_eq_true_eq, Bool.not_eq_true, Bool.decide_eq_true, List.isEmpty_nil, Bool.not_false, Bool.not_true, List.length_map, Bool.bne_false, Bool.bne_true, List.isEmpty_cons, List.getD_cons_zero, List.getD_cons_succ, List.getD_nil, ite_self, ↓reduceIte, noRefL, clrA, gcT, gcA, gcIds, reach, rhoOf, heapOf, idxA, genB, newGen, renB, refsB, List.contains_cons, List.contains_nil, List.range_zero, List.range_succ, List.flatMap_cons, List.flatMap_nil, List.zip_cons_cons, List.zip_nil_left, List.zip_nil_right, Nat.not_lt_zero, cb_tidingslaw14_TopicLevels, b_tidingslaw14_TopicLevels, cr_tidingslaw14_TopicLevels, x_tidingslaw14_TopicLevels_k0, x_tidingslaw14_TopicLevels_k1, x_tidingslaw14_TopicLevels_k2, x_tidingslaw14_TopicLevels_l10, x_tidingslaw14_TopicLevels_l5, intsV, bytesV, propsV, propV, propC, bytesOf_map, h1, h2, q_wakes14C, gt_iff_lt]
  | x :: r, i, t, h, ht => by
    have hd := drop_at h
    have h1 : (i : Int) < L.length := by have := hd.2.2; omega
    have hm : x ∈ L := List.mem_of_getElem? hd.1
    have e1 := iad hd.1 AVal.str (k := 1) rfl
    have e3 := wrap_succ h1 hL
    have z0 : ((0 : Nat) : Int) = 0 := rfl
    cases i with
    | zero =>
      have ih := q_levsOut L s hs hL h0 hn hx r 1 (t ++ x) hd.2.1 (by simpa [restL, joinL] using ht)
      have hin := q_levsIn L x 0 hd.1 (hx x hm) (hn x hm) t s x 0 rfl (by omega)
      rw [z0] at hin e1 e3
      have h2 : ¬ ((0 : Int) > 0) := by decide
      have hj : t.length + x.length ≤ 9223372036854775807 := by
        have := congrArg List.length ht
        simp [restL, joinL] at this
        omega
      have h5 : (0 : Int) < L.length := by omega
      unfold K_tidingslaw14_TopicLevels_l5 at ih ⊢
      rw [evL_eq]
      simp -implicitDefEqProofs only [EVS0, EVS1, EVS2, EVS3, EVS4, EVS5, EVS6, EVS7, ite_tf, ite_ft, ite_tft, ite_ftf, ite_list, ite_tt, ite_ee, ite_nt, ite_ne, eq_self, implies_true, forall_const, exI, nsite, freeAt, execI, Opd.ev, tget, tins, tput, keepL, sitesOf, List.map_cons, List.map_nil, List.sum_cons, List.sum_nil, List.length_cons, List.length_nil, List.replicate_zero, List.replicate_succ, List.append_nil, List.nil_append, List.cons_append, List.getElem?_cons_zero, List.getElem?_cons_succ, List.set_cons_zero, List.set_cons_succ, Nat.add_zero, Nat.zero_add, Nat.reduceAdd, Nat.reduceSub, Nat.reduceLT, Nat.reduceLeDiff, Nat.reduceEqDiff, Nat.reduceBEq, Nat.reduceMul, beq_self_eq_true, Bool.true_or, Bool.false_or, Bool.or_true, Bool.or_false, Bool.and_true, Bool.true_and, Bool.and_self, Bool.and_false, Bool.false_and, if_true, if_false, ite_true, ite_false, Bool.false_eq_true, Option.map_some, Option.map_none, and_self, and_true, true_and, and_false, false_and, true_or, or_true, false_or, or_false, not_true_eq_false, not_false_eq_true, List.drop_zero, List.drop_succ_cons, List.take_succ_cons, List.take_zero, ldA, stA, partA, faddrA, setAt, List.all_cons, List.all_nil, binA, arithA, shiftA, strA, unA, gSpan, gSkip, unG, ne_eq, Option.some.injEq, reduceCtorEq, decide_true, decide_false, elemsA, resA, resAll, resOne, enterA, decide_eq_true_eq, Bool.not_eq_true, Bool.decide_eq_true, List.isEmpty_nil, Bool.not_false, Bool.not_true, List.length_map, Bool.bne_false, Bool.bne_true, List.isEmpty_cons, List.getD_cons_zero, List.getD_cons_succ, List.getD_nil, ite_self, ↓reduceIte, noRefL, clrA, gcT, gcA, gcIds, reach, rhoOf, heapOf, idxA, genB, newGen, renB, refsB, List.contains_cons, List.contains_nil, List.range_zero, List.range_succ, List.flatMap_cons, List.flatMap_nil, List.zip_cons_cons, List.zip_nil_left, List.zip_nil_right, Nat.not_lt_zero, cb_tidingslaw14_TopicLevels, b_tidingslaw14_TopicLevels, cr_tidingslaw14_TopicLevels, x_tidingslaw14_TopicLevels_k0, x_tidingslaw14_TopicLevels_k1, x_tidingslaw14_TopicLevels_k2, x_tidingslaw14_TopicLevels_l10, x_tidingslaw14_TopicLevels_l5, intsV, bytesV, propsV, propV, propC, bytesOf_map, z0, h5, h2, e1, e3, hin, hj]
      exact ih
    | succ i =>
      have ih := q_levsOut L s hs hL h0 hn hx r (i + 2) (t ++ [47] ++ x) hd.2.1 (by simpa [restL, joinL] using ht)
      have hin := q_levsIn L x (i + 1) hd.1 (hx x hm) (hn x hm) (t ++ [47]) s x 0 rfl (by omega)
      rw [z0] at hin
      have h2 : ((i + 1 : Nat) : Int) > 0 := by omega
      have hj0 : t.length + x.length + 1 ≤ 200 := by
        have := congrArg List.length ht
        simp [restL, joinL] at this
        omega
      have hj1 : t.length + 1 ≤ 9223372036854775807 := by omega
      have hj2 : (t ++ [47]).length + x.length ≤ 9223372036854775807 := by simp; omega
      unfold K_tidingslaw14_TopicLevels_l5 at ih ⊢
      rw [evL_eq]
      simp -implicitDefEqProofs only [EVS0, EVS1, EVS2, EVS3, EVS4, EVS5, EVS6, EVS7, ite_tf, ite_ft, ite_tft, ite_ftf, ite_list, ite_tt, ite_ee, ite_nt, ite_ne, eq_self, implies_true, forall_const, exI, nsite, freeAt, execI, Opd.ev, tget, tins, tput, keepL, sitesOf, List.map_cons, List.map_nil, List.sum_cons, List.sum_nil, List.length_cons, List.length_nil, List.replicate_zero, List.replicate_succ, List.append_nil, List.nil_append, List.cons_append, List.getElem?_cons_zero, List.getElem?_cons_succ, List.set_cons_zero, List.set_cons_succ, Nat.add_zero, Nat.zero_add, Nat.reduceAdd, Nat.reduceSub, Nat.reduceLT, Nat.reduceLeDiff, Nat.reduceEqDiff, Nat.reduceBEq, Nat.reduceMul, beq_self_eq_true, Bool.true_or, Bool.false_or, Bool.or_true, Bool.or_false, Bool.and_true, Bool.true_and, Bool.and_self, Bool.and_false, Bool.false_and, if_true, if_false, ite_true, ite_false, Bool.false_eq_true, Option.map_some, Option.map_none, and_self, and_true, true_and, and_false, false_and, true_or, or_true, false_or, or_false, not_true_eq_false, not_false_eq_true, List.drop_zero, List.drop_succ_cons, List.take_succ_cons, List.take_zero, ldA, stA, partA, faddrA, setAt, List.all_cons, List.all_nil, binA, arithA, shiftA, strA, unA, gSpan, gSkip, unG, ne_eq, Option.some.injEq, reduceCtorEq, decide_true, decide_false, elemsA, resA, resAll, resOne, enterA, decide_eq_true_eq, Bool.not_eq_true, Bool.decide_eq_true, List.isEmpty_nil, Bool.not_false, Bool.not_true, List.length_map, Bool.bne_false, Bool.bne_true, List.isEmpty_cons, List.getD_cons_zero, List.getD_cons_succ, List.getD_nil, ite_self, ↓reduceIte, noRefL, clrA, gcT, gcA, gcIds, reach, rhoOf, heapOf, idxA, genB, newGen, renB, refsB, List.contains_cons, List.contains_nil, List.range_zero, List.range_succ, List.flatMap_cons, List.flatMap_nil, List.zip_cons_cons, List.zip_nil_left, List.zip_nil_right, Nat.not_lt_zero, cb_tidingslaw14_TopicLevels, b_tidingslaw14_TopicLevels, cr_tidingslaw14_TopicLevels, x_tidingslaw14_TopicLevels_k0, x_tidingslaw14_TopicLevels_k1, x_tidingslaw14_TopicLevels_k2, x_tidingslaw14_TopicLevels_l10, x_tidingslaw14_TopicLevels_l5, intsV, bytesV, propsV, propV, propC, bytesOf_map, h1, h2, e1, e3, hin, hj1, hj2]
      exact ih
theorem q_levs (s0 : List UInt8) : E 6 [.str s0] [] = some (.bool true, []) := by
  have hs : (s0.take 200).length ≤ 200 := by simp; omega
  rw [E_eq (by rfl) cf_tidingslaw14_TopicLevels]
  have hc := fun σ site own view => q_cut14C σ site own view s0
  generalize s0.take 200 = s at *
  have h4 := fun σ site own view => q_levelsC σ site own view s (by omega)
  have hlen := split_len s
  have hcl := List.count_le_length (a := (47 : UInt8)) (l := s)
  have key := q_levsOut (splitL s) s hs (by omega) (by omega) (split_no s) (fun x hx => by have := split_mem s x hx; omega) (splitL s) 0 [] rfl (by simp [restL, join_split])
  have z0 : ((0 : Nat) : Int) = 0 := rfl
  rw [z0] at key
  unfold K_tidingslaw14_TopicLevels_l5 at key
  simp -implicitDefEqProofs only [EVS0, EVS1, EVS2, EVS3, EVS4, EVS5, EVS6, EVS7, ite_tf, ite_ft, ite_tft, ite_ftf, ite_list, ite_tt, ite_ee, ite_nt, ite_ne, eq_self, implies_true, forall_const, exI, nsite, freeAt, execI, Opd.ev, tget, tins, tput, keepL, sitesOf, List.map_cons, List.map_nil, List.sum_cons, List.sum_nil, List.length_cons, List.length_nil, List.replicate_zero, List.replicate_succ, List.append_nil, List.nil_append, List.cons_append, List.getElem?_cons_zero, List.getElem?_cons_succ, List.set_cons_zero, List.set_cons_succ, Nat.add_zero, Nat.zero_add, Nat.reduceAdd, Nat.reduceSub, Nat.reduceLT, Nat.reduceLeDiff, Nat.reduceEqDiff, Nat.reduceBEq, Nat.reduceMul, beq_self_eq_true, Bool.true_or, Bool.false_or, Bool.or_true, Bool.or_false, Bool.and_true, Bool.true_and, Bool.and_self, Bool.and_false, Bool.false_and, if_true, if_false, ite_true, ite_false, Bool.false_eq_true, Option.map_some, Option.map_none, and_self, and_true, true_and, and_false, false_and, true_or, or_true, false_or, or_false, not_true_eq_false, not_false_eq_true, List.drop_zero, List.drop_succ_cons, List.take_succ_cons, List.take_zero, ldA, stA, partA, faddrA, setAt, List.all_cons, List.all_nil, binA, arithA, shiftA, strA, unA, gSpan, gSkip, unG, ne_eq, Option.some.injEq, reduceCtorEq, decide_true, decide_false, elemsA, resA, resAll, resOne, enterA, decide_eq_true_eq, Bool.not_eq_true, Bool.decide_eq_true, List.isEmpty_nil, Bool.not_false, Bool.not_true, List.length_map, Bool.bne_false, Bool.bne_true, List.isEmpty_cons, List.getD_cons_zero, List.getD_cons_succ, List.getD_nil, ite_self, ↓reduceIte, noRefL, clrA, gcT, gcA, gcIds, reach, rhoOf, heapOf, idxA, genB, newGen, renB, refsB, List.contains_cons, List.contains_nil, List.range_zero, List.range_succ, List.flatMap_cons, List.flatMap_nil, List.zip_cons_cons, List.zip_nil_left, List.zip_nil_right, Nat.not_lt_zero, cb_tidingslaw14_TopicLevels, b_tidingslaw14_TopicLevels, cr_tidingslaw14_TopicLevels, x_tidingslaw14_TopicLevels_k0, x_tidingslaw14_TopicLevels_k1, x_tidingslaw14_TopicLevels_k2, x_tidingslaw14_TopicLevels_l10, x_tidingslaw14_TopicLevels_l5, intsV, bytesV, propsV, propV, propC, bytesOf_map, hc, h4]
  exact key
/-! ### texts, level by level -/
def tG : Nat → List UInt8 → Bool
  | 0, _ => true
  | n + 1, l => if l = [] then true else if (Lib.decodeL l).1 = 0 ∨ ((Lib.decodeL l).1 = 65533 ∧ (Lib.decodeL l).2 = 1) then false else tG n (l.drop (Lib.decodeL l).2)
theorem tG_eq : ∀ (n : Nat) (l : List UInt8), (zfG n l && Lib.validGoD n l) = tG n l
  | 0, _ => rfl
  | n + 1, l => by
    have ih := tG_eq n (l.drop (Lib.decodeL l).2)
    simp only [zfG, Lib.validGoD, tG]
    by_cases h : l = []
    · simp [h]
    · by_cases h1 : (Lib.decodeL l).1 = 0
      · simp [h, h1]
      · by_cases h2 : (Lib.decodeL l).1 = 65533 ∧ (Lib.decodeL l).2 = 1
        · simp [h, h2]
        · simp only [h, h1, h2, if_false, false_or, ih]
theorem text_tG (l : List UInt8) : textB l = tG l.length l := tG_eq _ _
theorem dec_pos {l : List UInt8} (h : l ≠ []) : 1 ≤ (Lib.decodeL l).2 := by
  have := Lib.decodeL_width l; omega
theorem tG_fuel : ∀ (n m : Nat) (l : List UInt8), l.length ≤ n → l.length ≤ m → tG n l = tG m l
  | 0, m, l, h, _ => by
    obtain rfl : l = [] := List.length_eq_zero_iff.1 (by omega)
    cases m <;> simp [tG]
  | n + 1, 0, l, _, h => by
    obtain rfl : l = [] := List.length_eq_zero_iff.1 (by omega)
    simp [tG]
  | n + 1, m + 1, l, h, h' => by
    simp only [tG]
    by_cases h0 : l = []
    · simp [h0]
    · have := dec_pos h0
      rw [tG_fuel n m (l.drop (Lib.decodeL l).2) (by rw [List.length_drop]; omega) (by rw [List.length_drop]; omega)]
theorem dec_app (p : List UInt8) (b : UInt8) (q : List UInt8) (hp : p ≠ []) (hb : b.toNat < 128) : Lib.decodeL (p ++ b :: q) = Lib.decodeL p := by
  rw [Lib.decodeL_N, Lib.decodeL_N]
  match p, hp with
  | [b0], _ =>
    simp only [List.cons_append, List.nil_append, List.length_cons, List.length_nil, List.getD_cons_zero, List.getD_cons_succ, List.getD_nil]
    by_cases h : b0.toNat < 128
    · simp only [Lib.decodeN, h, if_true]
    · rw [Lib.decodeN_alone _ _ _ _ _ (by omega) (Or.inr (by omega)), Lib.decodeN_alone _ _ _ _ _ (by omega) (Or.inl (by omega))]
  | [b0, b1], _ =>
    simp only [List.cons_append, List.nil_append, List.length_cons, List.length_nil, List.getD_cons_zero, List.getD_cons_succ, List.getD_nil]
    generalize b0.toNat = x0 at *
    generalize b1.toNat = x1 at *
    generalize b.toNat = x2 at *
    generalize (q.getD 0 0).toNat = x3 at *
    generalize q.length = k at *
    unfold Lib.decodeN
    have e1 : ¬ (x2 / 64 = 2) := by omega
    have e2 : (1 < k + 1 + 1 + 1) := by omega
    simp only [e1, e2, and_false, false_and, if_false, true_and, Nat.reduceAdd, Nat.reduceLT, Nat.lt_irrefl]
  | [b0, b1, b2], _ =>
    simp only [List.cons_append, List.nil_append, List.length_cons, List.length_nil, List.getD_cons_zero, List.getD_cons_succ, List.getD_nil]
    generalize b0.toNat = x0 at *
    generalize b1.toNat = x1 at *
    generalize b2.toNat = x2 at *
    generalize b.toNat = x3 at *
    generalize q.length = k at *
    unfold Lib.decodeN
    have e1 : ¬ (x3 / 64 = 2) := by omega
    have e2 : (1 < k + 1 + 1 + 1 + 1) := by omega
    have e3 : (2 < k + 1 + 1 + 1 + 1) := by omega
    simp only [e1, e2, e3, and_false, false_and, if_false, true_and, Nat.reduceAdd, Nat.reduceLT, Nat.lt_irrefl]
  | b0 :: b1 :: b2 :: b3 :: t, _ =>
    simp only [List.cons_append, List.length_cons, List.length_append, List.getD_cons_zero, List.getD_cons_succ]
    unfold Lib.decodeN
    have e1 : (1 < t.length + 1 + 1 + 1 + 1) := by omega
    have e2 : (2 < t.length + 1 + 1 + 1 + 1) := by omega
    have e3 : (3 < t.length + 1 + 1 + 1 + 1) := by omega
    have f1 : (1 < t.length + (q.length + 1) + 1 + 1 + 1 + 1) := by omega
    have f2 : (2 < t.length + (q.length + 1) + 1 + 1 + 1 + 1) := by omega
    have f3 : (3 < t.length + (q.length + 1) + 1 + 1 + 1 + 1) := by omega
    simp only [e1, e2, e3, f1, f2, f3, true_and]
theorem tG_cons (n : Nat) (b : UInt8) (q : List UInt8) (hb : b.toNat < 128) (h0 : b.toNat ≠ 0) : tG (n + 1) (b :: q) = tG n q := by
  have h1 : ¬ (b.toNat = 65533) := by omega
  simp only [tG, Lib.decodeL_ascii b q hb, h0, h1, reduceCtorEq, if_false, false_and, or_self, List.drop_succ_cons, List.drop_zero]
theorem tG_succ (n : Nat) (l : List UInt8) (h : l ≠ []) : tG (n + 1) l = if (Lib.decodeL l).1 = 0 ∨ ((Lib.decodeL l).1 = 65533 ∧ (Lib.decodeL l).2 = 1) then false else tG n (l.drop (Lib.decodeL l).2) := by
  simp only [tG, h, if_false]
theorem tG_app (b : UInt8) (q : List UInt8) (hb : b.toNat < 128) : ∀ (n : Nat) (p : List UInt8), p.length ≤ n → tG (n + (q.length + 1)) (p ++ b :: q) = (tG n p && tG (q.length + 1) (b :: q))
  | n, [], _ => by
    have : tG n [] = true := by cases n <;> simp [tG]
    rw [this, List.nil_append, Bool.true_and]
    exact tG_fuel _ _ _ (by simp) (by simp)
  | 0, c :: p, h => by simp at h
  | n + 1, c :: p, h => by
    have hne : c :: p ≠ [] := by simp
    have hw := dec_pos hne
    have hle := Lib.decodeL_le (c :: p) hne
    have ih := tG_app b q hb n ((c :: p).drop (Lib.decodeL (c :: p)).2) (by rw [List.length_drop]; simp only [List.length_cons] at h ⊢; omega)
    have e : n + 1 + (q.length + 1) = (n + (q.length + 1)) + 1 := by omega
    have hne2 : c :: p ++ b :: q ≠ [] := by simp
    generalize tG (q.length + 1) (b :: q) = R at ih ⊢
    rw [e, tG_succ _ _ hne2, tG_succ _ _ hne, dec_app (c :: p) b q hne hb]
    by_cases h1 : (Lib.decodeL (c :: p)).1 = 0 ∨ ((Lib.decodeL (c :: p)).1 = 65533 ∧ (Lib.decodeL (c :: p)).2 = 1)
    · rw [if_pos h1, if_pos h1, Bool.false_and]
    · rw [if_neg h1, if_neg h1, List.drop_append_of_le_length hle, ih]
theorem text_app (p q : List UInt8) : textB (p ++ 47 :: q) = (textB p && textB q) := by
  rw [text_tG, text_tG, text_tG]
  have := tG_app 47 q (by decide) p.length p (Nat.le_refl _)
  rw [tG_cons q.length 47 q (by decide) (by decide)] at this
  rw [← this]
  congr 1
  simp
theorem text_one (b : UInt8) (hb : b.toNat < 128) (h0 : b.toNat ≠ 0) : textB [b] = true := by
  rw [text_tG]; exact tG_cons 0 b [] hb h0
theorem text_nil : textB [] = true := rfl
/-- the levels with slashes between -/
def inter (M : List (List UInt8)) : List UInt8 := (joinL M).drop 1
theorem inter_one (x : List UInt8) : inter [x] = x := by simp [inter, joinL]
theorem inter_cons (x y : List UInt8) (M : List (List UInt8)) : inter (x :: y :: M) = x ++ 47 :: inter (y :: M) := by simp [inter, joinL]
theorem inter_split (s : List UInt8) : inter (splitL s) = s := by simp [inter, join_split]
theorem text_inter : ∀ M : List (List UInt8), textB (inter M) = M.all textB
  | [] => rfl
  | [x] => by simp [inter_one]
  | x :: y :: M => by rw [inter_cons, text_app, text_inter (y :: M)]; simp only [List.all_cons]
theorem split_app : ∀ (x r : List UInt8), (∀ b ∈ x, b ≠ 47) → splitL (x ++ 47 :: r) = x :: splitL r
  | [], r, _ => by simp [splitL]
  | b :: x, r, h => by
    have hb : b ≠ 47 := h b (by simp)
    rw [List.cons_append, splitL, split_app x r fun c hc => h c (by simp [hc])]
    simp [hb]
theorem split_no47 : ∀ (x : List UInt8), (∀ b ∈ x, b ≠ 47) → splitL x = [x]
  | [], _ => by simp [splitL]
  | b :: x, h => by
    have hb : b ≠ 47 := h b (by simp)
    rw [splitL, split_no47 x fun c hc => h c (by simp [hc])]
    simp [hb]
theorem split_inter : ∀ M : List (List UInt8), M ≠ [] → (∀ x ∈ M, ∀ b ∈ x, b ≠ 47) → splitL (inter M) = M
  | [], h, _ => absurd rfl h
  | [x], _, h => by rw [inter_one]; exact split_no47 x (h x (by simp))
  | x :: y :: M, _, h => by
    rw [inter_cons, split_app x _ (h x (by simp)), split_inter (y :: M) (by simp) fun z hz => h z (by simp [hz])]
theorem inter_len (B : Nat) : ∀ M : List (List UInt8), (∀ x ∈ M, x.length ≤ B) → (inter M).length ≤ M.length * (B + 1)
  | [], _ => by simp [inter, joinL]
  | [x], h => by have := h x (by simp); simp only [inter_one, List.length_cons, List.length_nil]; omega
  | x :: y :: M, h => by
    have h1 := h x (by simp)
    have ih := inter_len B (y :: M) fun z hz => h z (by simp [hz])
    rw [inter_cons, List.length_append, List.length_cons, List.length_cons, Nat.succ_mul]
    omega
theorem plus_app (p q : List UInt8) : plusHash (p ++ 47 :: q) = (plusHash p || plusHash q) := by simp [plusHash, isPH]
theorem plus_inter : ∀ M : List (List UInt8), plusHash (inter M) = M.any plusHash
  | [] => rfl
  | [x] => by simp [inter_one]
  | x :: y :: M => by rw [inter_cons, plus_app, plus_inter (y :: M)]; simp only [List.any_cons]
theorem levs_plain : ∀ M : List (List UInt8), M.any plusHash = false → levsOk M = true
  | [], _ => rfl
  | x :: M, h => by
    simp only [List.any_cons, Bool.or_eq_false_iff] at h
    rw [levsOk, levs_plain M h.2, Bool.and_true]
    simp [levOk, h.1]
theorem wild_plain {x : List UInt8} (h : plusHash x = false) : wild0 x = false := by
  unfold wild0
  rw [Bool.or_eq_false_iff]
  constructor
  · rw [beq_eq_false_iff_ne]; rintro rfl; simp [plusHash, isPH] at h
  · rw [beq_eq_false_iff_ne]; rintro rfl; simp [plusHash, isPH] at h
/-- a name's levels -/
theorem name_levels {s : List UInt8} (h : nameB s = true) : (splitL s).all textB = true ∧ (splitL s).any plusHash = false ∧ 1 ≤ s.length ∧ s.length ≤ 64 := by
  simp only [nameB, fitsB, Bool.and_eq_true, decide_eq_true_eq, Bool.not_eq_true'] at h
  obtain ⟨⟨⟨h1, h2⟩, h3⟩, h4⟩ := h
  have e := inter_split s
  exact ⟨by rw [← text_inter, e]; exact h3, by rw [← plus_inter, e]; exact h4, h1, h2⟩
end Go.Proofs.YtochhdiilicpgaaDoor
