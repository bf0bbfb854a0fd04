/- TopicNarrow, by evaluation. -/
import Derived.Test.YtochhdiilicpgaaDoorTLevs
namespace Go.Proofs.YtochhdiilicpgaaDoor
set_option linter.unusedSimpArgs false
set_option linter.unusedVariables false
set_option maxHeartbeats 4000000
set_option maxRecDepth 10000
/-- the filter's levels with the name's in the place of all but # -/
def narL : List (List UInt8) → List (List UInt8) → List (List UInt8)
  | [], _ => []
  | x :: f, n => (if x = [35] then [35] else n.headD []) :: narL f n.tail
theorem narL_len : ∀ f n, (narL f n).length = f.length
  | [], _ => rfl
  | x :: f, n => by simp [narL, narL_len f n.tail]
theorem narL_mem : ∀ (f n : List (List UInt8)), ∀ z ∈ narL f n, z = [35] ∨ z = [] ∨ z ∈ n
  | [], n, z, h => by simp [narL] at h
  | x :: f, n, z, h => by
    rw [narL, List.mem_cons] at h
    rcases h with h | h
    · split at h
      · exact Or.inl h
      · cases n with
        | nil => exact Or.inr (Or.inl h)
        | cons y n => exact Or.inr (Or.inr (by rw [h]; simp))
    · rcases narL_mem f n.tail z h with h | h | h
      · exact Or.inl h
      · exact Or.inr (Or.inl h)
      · exact Or.inr (Or.inr (List.mem_of_mem_tail h))
theorem hash_last {last : Bool} (h : levOk last [35] = true) : last = true := by
  cases last
  · simp [levOk, plusHash, isPH] at h
  · rfl
theorem narL_match : ∀ (f n : List (List UInt8)), levsOk f = true → matchL f n = true → matchL (narL f n) n = true
  | [], n, _, h => h
  | x :: f, n, ho, h => by
    rw [narL]
    by_cases hx : x = [35]
    · simp [hx, matchL]
    · rw [if_neg hx]
      rw [levsOk, Bool.and_eq_true] at ho
      cases n with
      | nil => simp [hx, matchL] at h
      | cons y n =>
        simp only [matchL, Bool.or_eq_true, beq_iff_eq, hx, false_or, Bool.and_eq_true] at h
        rw [List.headD_cons]
        simp only [matchL, List.tail_cons, narL_match f n ho.2 h.2, beq_self_eq_true, Bool.or_true, Bool.and_true]
theorem narL_levs : ∀ (f n : List (List UInt8)), levsOk f = true → n.any plusHash = false → levsOk (narL f n) = true
  | [], n, _, _ => rfl
  | x :: f, n, ho, hn => by
    rw [levsOk, Bool.and_eq_true] at ho
    have ht : n.tail.any plusHash = false := by
      cases n with
      | nil => rfl
      | cons y n => simp only [List.any_cons, Bool.or_eq_false_iff] at hn; exact hn.2
    rw [narL, levsOk, narL_levs f n.tail ho.2 ht, Bool.and_true]
    by_cases hx : x = [35]
    · subst hx
      have := hash_last ho.1
      cases f with
      | nil => simp [narL, levOk]
      | cons z f => simp at this
    · rw [if_neg hx]
      cases n with
      | nil => simp [levOk, plusHash]
      | cons y n => simp only [List.any_cons, Bool.or_eq_false_iff] at hn; simp [levOk, hn.1]
theorem narrow_law (f s : List UInt8) (h : matchB f s = true) : (inter (narL (splitL f) (splitL s))).length ≤ 8192 ∧ (¬ ((inter (narL (splitL f) (splitL s))).length : Int) > 64 → matchB (inter (narL (splitL f) (splitL s))) s = true) := by
  simp only [matchB, Bool.and_eq_true, Bool.not_eq_true'] at h
  obtain ⟨⟨⟨hf, hn⟩, hw⟩, hm⟩ := h
  have hf' := hf
  simp only [filterB, Bool.and_eq_true] at hf'
  obtain ⟨n1, n2, n3, n4⟩ := name_levels hn
  have hfl := filter_len hf
  have hF := split_len f
  have hcl := List.count_le_length (a := (47 : UInt8)) (l := f)
  have hne := splitL_ne f
  have hml : ∀ z ∈ narL (splitL f) (splitL s), z.length ≤ 64 := by
    intro z hz
    rcases narL_mem _ _ z hz with rfl | rfl | hz
    · simp
    · simp
    · have := split_mem s z hz; omega
  have h47 : ∀ z ∈ narL (splitL f) (splitL s), ∀ b ∈ z, b ≠ 47 := by
    intro z hz
    rcases narL_mem _ _ z hz with rfl | rfl | hz
    · simp
    · simp
    · exact split_no s z hz
  have hMne : narL (splitL f) (splitL s) ≠ [] := by
    intro he; have := congrArg List.length he; rw [narL_len] at this; simp at this; exact hne this
  constructor
  · have := inter_len 64 _ hml
    rw [narL_len] at this
    have : (splitL f).length * (64 + 1) ≤ 65 * 65 := Nat.mul_le_mul (by omega) (by omega)
    omega
  · intro hlen
    have hsp := split_inter _ hMne h47
    have hlv := narL_levs (splitL f) (splitL s) hf'.1 n2
    have hmt := narL_match (splitL f) (splitL s) hf'.1 hm
    have htx : textB (inter (narL (splitL f) (splitL s))) = true := by
      rw [text_inter, List.all_eq_true]
      intro z hz
      rcases narL_mem _ _ z hz with rfl | rfl | hz
      · exact text_one 35 (by decide) (by decide)
      · rfl
      · exact List.all_eq_true.1 n1 z hz
    have hpos : 1 ≤ (inter (narL (splitL f) (splitL s))).length := by
      cases hS : splitL f with
      | nil => exact absurd hS hne
      | cons x r =>
        cases r with
        | cons y r => simp only [narL, inter_cons, List.length_append, List.length_cons]; omega
        | nil =>
          simp only [narL, inter_one]
          by_cases hx : x = [35]
          · simp [hx]
          · rw [if_neg hx]
            rw [hS] at hm
            cases hN : splitL s with
            | nil => exact absurd hN (splitL_ne s)
            | cons y t =>
              rw [hN, matchL] at hm
              simp only [hx, beq_iff_eq, Bool.or_eq_true, Bool.and_eq_true, matchL, List.isEmpty_iff, false_or] at hm
              have := inter_split s
              rw [hN, hm.2, inter_one] at this
              simp only [List.headD_cons, this]
              exact n3
    have hwd : ((s.headD 0 == 36) && wild0 ((narL (splitL f) (splitL s)).headD [])) = false := by
      rw [Bool.and_eq_false_iff] at hw ⊢
      rcases hw with hw | hw
      · exact Or.inl hw
      · refine Or.inr ?_
        cases hS : splitL f with
        | nil => exact absurd hS hne
        | cons x r =>
          rw [hS] at hw
          simp only [List.headD_cons] at hw
          simp only [narL, List.headD_cons]
          by_cases hx : x = [35]
          · subst hx; simp [wild0] at hw
          · rw [if_neg hx]
            cases hN : splitL s with
            | nil => exact absurd hN (splitL_ne s)
            | cons y t =>
              rw [hN] at n2
              simp only [List.any_cons, Bool.or_eq_false_iff] at n2
              exact wild_plain n2.1
    simp only [matchB, filterB, fitsB, hsp, hlv, hmt, htx, hn, hwd, Bool.and_true, Bool.true_and, Bool.not_false, Bool.and_eq_true, decide_eq_true_eq]
    exact ⟨hpos, by omega⟩
theorem q_narl (F S : List (List UInt8)) (g s : List UInt8) (hF : F.length ≤ 9223372036854775807) (hg : g.length ≤ 9223372036854775807) (hq : g.length * 16 ≤ 140737488355328 - 64) (hlaw : ¬ (g.length : Int) > 64 → matchB g s = true) : ∀ (r m : List (List UInt8)) (i : Nat) (t : List UInt8), F.drop i = r → S.drop i = m → (r = [] ∨ (levsOk r = true ∧ matchL r m = true)) → t ++ restL i (narL r m) = g →
    K_tidingslaw14_TopicNarrow_l6 0 [(8, .int .i64 i), (7, .str t), (6, .lst false (S.map AVal.str)), (5, .lst false (F.map AVal.str)), (1, .str s)] [] = some (.bool true, [])
  | [], m, i, t, h, hm, ho, ht => by
    have h1 := drop_nil h
    have h3 : t = g := by simpa [restL, joinL, narL] using ht
    subst h3
    have hc := fun σ site own view => q_matchC σ site own view t s hq
    unfold K_tidingslaw14_TopicNarrow_l6
    rw [evL_eq]
    by_cases h4 : (t.length : Int) > 64
    · simp -implicitDefEqProofs only [EVS0, EVS1, EVS2, EVS3, EVS4, EVS5, EVS6, EVS7, ite_tf, ite_ft, ite_tft, ite_ftf, ite_list, ite_tt, ite_ee, ite_nt, ite_ne, eq_self, implies_true, forall_const, exI, nsite, freeAt, execI, Opd.ev, tget, tins, tput, keepL, sitesOf, List.map_cons, List.map_nil, List.sum_cons, List.sum_nil, List.length_cons, List.length_nil, List.replicate_zero, List.replicate_succ, List.append_nil, List.nil_append, List.cons_append, List.getElem?_cons_zero, List.getElem?_cons_succ, List.set_cons_zero, List.set_cons_succ, Nat.add_zero, Nat.zero_add, Nat.reduceAdd, Nat.reduceSub, Nat.reduceLT, Nat.reduceLeDiff, Nat.reduceEqDiff, Nat.reduceBEq, Nat.reduceMul, beq_self_eq_true, Bool.true_or, Bool.false_or, Bool.or_true, Bool.or_false, Bool.and_true, Bool.true_and, Bool.and_self, Bool.and_false, Bool.false_and, if_true, if_false, ite_true, ite_false, Bool.false_eq_true, Option.map_some, Option.map_none, and_self, and_true, true_and, and_false, false_and, true_or, or_true, false_or, or_false, not_true_eq_false, not_false_eq_true, List.drop_zero, List.drop_succ_cons, List.take_succ_cons, List.take_zero, ldA, stA, partA, faddrA, setAt, List.all_cons, List.all_nil, binA, arithA, shiftA, strA, unA, gSpan, gSkip, unG, ne_eq, Option.some.injEq, reduceCtorEq, decide_true, decide_false, elemsA, resA, resAll, resOne, enterA, decide_eq_true_eq, Bool.not_eq_true, Bool.decide_eq_true, List.isEmpty_nil, Bool.not_false, Bool.not_true, List.length_map, Bool.bne_false, Bool.bne_true, List.isEmpty_cons, List.getD_cons_zero, List.getD_cons_succ, List.getD_nil, ite_self, ↓reduceIte, noRefL, clrA, gcT, gcA, gcIds, reach, rhoOf, heapOf, idxA, genB, newGen, renB, refsB, List.contains_cons, List.contains_nil, List.range_zero, List.range_succ, List.flatMap_cons, List.flatMap_nil, List.zip_cons_cons, List.zip_nil_left, List.zip_nil_right, Nat.not_lt_zero, cb_tidingslaw14_TopicNarrow, b_tidingslaw14_TopicNarrow, cr_tidingslaw14_TopicNarrow, x_tidingslaw14_TopicNarrow_k0, x_tidingslaw14_TopicNarrow_l6, intsV, bytesV, propsV, propV, propC, bytesOf_map, h1, h4, q_wakes14C]
    · rw [hlaw h4] at hc
      simp -implicitDefEqProofs only [EVS0, EVS1, EVS2, EVS3, EVS4, EVS5, EVS6, EVS7, ite_tf, ite_ft, ite_tft, ite_ftf, ite_list, ite_tt, ite_ee, ite_nt, ite_ne, eq_self, implies_true, forall_const, exI, nsite, freeAt, execI, Opd.ev, tget, tins, tput, keepL, sitesOf, List.map_cons, List.map_nil, List.sum_cons, List.sum_nil, List.length_cons, List.length_nil, List.replicate_zero, List.replicate_succ, List.append_nil, List.nil_append, List.cons_append, List.getElem?_cons_zero, List.getElem?_cons_succ, List.set_cons_zero, List.set_cons_succ, Nat.add_zero, Nat.zero_add, Nat.reduceAdd, Nat.reduceSub, Nat.reduceLT, Nat.reduceLeDiff, Nat.reduceEqDiff, Nat.reduceBEq, Nat.reduceMul, beq_self_eq_true, Bool.true_or, Bool.false_or, Bool.or_true, Bool.or_false, Bool.and_true, Bool.true_and, Bool.and_self, Bool.and_false, Bool.false_and, if_true, if_false, ite_true, ite_false, Bool.false_eq_true, Option.map_some, Option.map_none, and_self, and_true, true_and, and_false, false_and, true_or, or_true, false_or, or_false, not_true_eq_false, not_false_eq_true, List.drop_zero, List.drop_succ_cons, List.take_succ_cons, List.take_zero, ldA, stA, partA, faddrA, setAt, List.all_cons, List.all_nil, binA, arithA, shiftA, strA, unA, gSpan, gSkip, unG, ne_eq, Option.some.injEq, reduceCtorEq, decide_true, decide_false, elemsA, resA, resAll, resOne, enterA, decide_eq_true_eq, Bool.not_eq_true, Bool.decide_eq_true, List.isEmpty_nil, Bool.not_false, Bool.not_true, List.length_map, Bool.bne_false, Bool.bne_true, List.isEmpty_cons, List.getD_cons_zero, List.getD_cons_succ, List.getD_nil, ite_self, ↓reduceIte, noRefL, clrA, gcT, gcA, gcIds, reach, rhoOf, heapOf, idxA, genB, newGen, renB, refsB, List.contains_cons, List.contains_nil, List.range_zero, List.range_succ, List.flatMap_cons, List.flatMap_nil, List.zip_cons_cons, List.zip_nil_left, List.zip_nil_right, Nat.not_lt_zero, cb_tidingslaw14_TopicNarrow, b_tidingslaw14_TopicNarrow, cr_tidingslaw14_TopicNarrow, x_tidingslaw14_TopicNarrow_k0, x_tidingslaw14_TopicNarrow_l6, intsV, bytesV, propsV, propV, propC, bytesOf_map, h1, h4, hc, q_wakes14C]
  | x :: r, m, i, t, h, hm, ho, ht => by
    have hd := drop_at h
    have h1 : (i : Int) < F.length := by have := hd.2.2; omega
    have e1 := iad hd.1 AVal.str (k := 1) rfl
    have e3 := wrap_succ h1 hF
    have z0 : ((0 : Nat) : Int) = 0 := rfl
    have hm' : S.drop (i + 1) = m.tail := by rw [← hm, List.tail_drop]
    have ho : levsOk (x :: r) = true ∧ matchL (x :: r) m = true := by
      rcases ho with ho | ho
      · cases ho
      · exact ho
    have ho1 := ho.1
    rw [levsOk, Bool.and_eq_true] at ho1
    by_cases hx : x = [35]
    · subst hx
      have hr : r = [] := by
        have := hash_last ho1.1
        simpa using this
      have hx2 : (([35] : List UInt8) == [35]) = true := rfl
      cases i with
      | zero =>
        have ht' : t ++ [35] ++ restL 1 (narL r m.tail) = g := by rw [← ht]; simp [restL, narL, joinL]
        have ih := q_narl F S g s hF hg hq hlaw r m.tail 1 (t ++ [35]) hd.2.1 hm' (Or.inl hr) ht'
        have hj : t.length + 1 ≤ 9223372036854775807 := by
          have := congrArg List.length ht'; simp only [List.length_append, List.length_cons, List.length_nil] at this; omega
        rw [z0] at e1 e3
        have h2 : ¬ ((0 : Int) > 0) := by decide
        have h5 : (0 : Int) < F.length := by omega
        unfold K_tidingslaw14_TopicNarrow_l6 at ih ⊢
        rw [evL_eq]
        simp -implicitDefEqProofs only [EVS0, EVS1, EVS2, EVS3, EVS4, EVS5, EVS6, EVS7, ite_tf, ite_ft, ite_tft, ite_ftf, ite_list, ite_tt, ite_ee, ite_nt, ite_ne, eq_self, implies_true, forall_const, exI, nsite, freeAt, execI, Opd.ev, tget, tins, tput, keepL, sitesOf, List.map_cons, List.map_nil, List.sum_cons, List.sum_nil, List.length_cons, List.length_nil, List.replicate_zero, List.replicate_succ, List.append_nil, List.nil_append, List.cons_append, List.getElem?_cons_zero, List.getElem?_cons_succ, List.set_cons_zero, List.set_cons_succ, Nat.add_zero, Nat.zero_add, Nat.reduceAdd, Nat.reduceSub, Nat.reduceLT, Nat.reduceLeDiff, Nat.reduceEqDiff, Nat.reduceBEq, Nat.reduceMul, beq_self_eq_true, Bool.true_or, Bool.false_or, Bool.or_true, Bool.or_false, Bool.and_true, Bool.true_and, Bool.and_self, Bool.and_false, Bool.false_and, if_true, if_false, ite_true, ite_false, Bool.false_eq_true, Option.map_some, Option.map_none, and_self, and_true, true_and, and_false, false_and, true_or, or_true, false_or, or_false, not_true_eq_false, not_false_eq_true, List.drop_zero, List.drop_succ_cons, List.take_succ_cons, List.take_zero, ldA, stA, partA, faddrA, setAt, List.all_cons, List.all_nil, binA, arithA, shiftA, strA, unA, gSpan, gSkip, unG, ne_eq, Option.some.injEq, reduceCtorEq, decide_true, decide_false, elemsA, resA, resAll, resOne, enterA, decide_eq_true_eq, Bool.not_eq_true, Bool.decide_eq_true, List.isEmpty_nil, Bool.not_false, Bool.not_true, List.length_map, Bool.bne_false, Bool.bne_true, List.isEmpty_cons, List.getD_cons_zero, List.getD_cons_succ, List.getD_nil, ite_self, ↓reduceIte, noRefL, clrA, gcT, gcA, gcIds, reach, rhoOf, heapOf, idxA, genB, newGen, renB, refsB, List.contains_cons, List.contains_nil, List.range_zero, List.range_succ, List.flatMap_cons, List.flatMap_nil, List.zip_cons_cons, List.zip_nil_left, List.zip_nil_right, Nat.not_lt_zero, cb_tidingslaw14_TopicNarrow, b_tidingslaw14_TopicNarrow, cr_tidingslaw14_TopicNarrow, x_tidingslaw14_TopicNarrow_k0, x_tidingslaw14_TopicNarrow_l6, intsV, bytesV, propsV, propV, propC, bytesOf_map, z0, h5, h2, e1, e3, hj]
        exact ih
      | succ i =>
        have ht' : t ++ [47] ++ [35] ++ restL (i + 2) (narL r m.tail) = g := by rw [← ht]; simp [restL, narL, joinL]
        have ih := q_narl F S g s hF hg hq hlaw r m.tail (i + 2) (t ++ [47] ++ [35]) hd.2.1 hm' (Or.inl hr) ht'
        have hj0 : t.length + 1 + 1 ≤ g.length := by
          have := congrArg List.length ht'; simp only [List.length_append, List.length_cons, List.length_nil] at this; omega
        have hj1 : t.length + 1 ≤ 9223372036854775807 := by omega
        have hj2 : (t ++ [47]).length + 1 ≤ 9223372036854775807 := by simp only [List.length_append, List.length_cons, List.length_nil]; omega
        have h2 : ((i + 1 : Nat) : Int) > 0 := by omega
        unfold K_tidingslaw14_TopicNarrow_l6 at ih ⊢
        rw [evL_eq]
        simp -implicitDefEqProofs only [EVS0, EVS1, EVS2, EVS3, EVS4, EVS5, EVS6, EVS7, ite_tf, ite_ft, ite_tft, ite_ftf, ite_list, ite_tt, ite_ee, ite_nt, ite_ne, eq_self, implies_true, forall_const, exI, nsite, freeAt, execI, Opd.ev, tget, tins, tput, keepL, sitesOf, List.map_cons, List.map_nil, List.sum_cons, List.sum_nil, List.length_cons, List.length_nil, List.replicate_zero, List.replicate_succ, List.append_nil, List.nil_append, List.cons_append, List.getElem?_cons_zero, List.getElem?_cons_succ, List.set_cons_zero, List.set_cons_succ, Nat.add_zero, Nat.zero_add, Nat.reduceAdd, Nat.reduceSub, Nat.reduceLT, Nat.reduceLeDiff, Nat.reduceEqDiff, Nat.reduceBEq, Nat.reduceMul, beq_self_eq_true, Bool.true_or, Bool.false_or, Bool.or_true, Bool.or_false, Bool.and_true, Bool.true_and, Bool.and_self, Bool.and_false, Bool.false_and, if_true, if_false, ite_true, ite_false, Bool.false_eq_true, Option.map_some, Option.map_none, and_self, and_true, true_and, and_false, false_and, true_or, or_true, false_or, or_false, not_true_eq_false, not_false_eq_true, List.drop_zero, List.drop_succ_cons, List.take_succ_cons, List.take_zero, ldA, stA, partA, faddrA, setAt, List.all_cons, List.all_nil, binA, arithA, shiftA, strA, unA, gSpan, gSkip, unG, ne_eq, Option.some.injEq, reduceCtorEq, decide_true, decide_false, elemsA, resA, resAll, resOne, enterA, decide_eq_true_eq, Bool.not_eq_true, Bool.decide_eq_true, List.isEmpty_nil, Bool.not_false, Bool.not_true, List.length_map, Bool.bne_false, Bool.bne_true, List.isEmpty_cons, List.getD_cons_zero, List.getD_cons_succ, List.getD_nil, ite_self, ↓reduceIte, noRefL, clrA, gcT, gcA, gcIds, reach, rhoOf, heapOf, idxA, genB, newGen, renB, refsB, List.contains_cons, List.contains_nil, List.range_zero, List.range_succ, List.flatMap_cons, List.flatMap_nil, List.zip_cons_cons, List.zip_nil_left, List.zip_nil_right, Nat.not_lt_zero, cb_tidingslaw14_TopicNarrow, b_tidingslaw14_TopicNarrow, cr_tidingslaw14_TopicNarrow, x_tidingslaw14_TopicNarrow_k0, x_tidingslaw14_TopicNarrow_l6, intsV, bytesV, propsV, propV, propC, bytesOf_map, h1, h2, e1, e3, hj1, hj2]
        exact ih
    · have hx2 : (x == [35]) = false := by simpa using hx
      have hmm := ho.2
      cases m with
      | nil => simp [hx2, matchL] at hmm
      | cons y m =>
        simp only [matchL, hx2, Bool.false_or, Bool.and_eq_true] at hmm
        have hdS := drop_at hm
        have e5 := iad hdS.1 AVal.str (k := 1) rfl
        have h6 : ¬ ((i : Int) ≥ (S.length : Int)) := by have := hdS.2.2; omega
        cases i with
        | zero =>
          have ht' : t ++ y ++ restL 1 (narL r m) = g := by rw [← ht]; simp [restL, narL, joinL, hx]
          have ih := q_narl F S g s hF hg hq hlaw r m 1 (t ++ y) hd.2.1 hdS.2.1 (Or.inr ⟨ho1.2, hmm.2⟩) ht'
          have hj : t.length + y.length ≤ 9223372036854775807 := by
            have := congrArg List.length ht'; simp only [List.length_append] at this; omega
          rw [z0] at e1 e3 e5 h6
          have h2 : ¬ ((0 : Int) > 0) := by decide
          have h5 : (0 : Int) < F.length := by omega
          unfold K_tidingslaw14_TopicNarrow_l6 at ih ⊢
          rw [evL_eq]
          simp -implicitDefEqProofs only [EVS0, EVS1, EVS2, EVS3, EVS4, EVS5, EVS6, EVS7, ite_tf, ite_ft, ite_tft, ite_ftf, ite_list, ite_tt, ite_ee, ite_nt, ite_ne, eq_self, implies_true, forall_const, exI, nsite, freeAt, execI, Opd.ev, tget, tins, tput, keepL, sitesOf, List.map_cons, List.map_nil, List.sum_cons, List.sum_nil, List.length_cons, List.length_nil, List.replicate_zero, List.replicate_succ, List.append_nil, List.nil_append, List.cons_append, List.getElem?_cons_zero, List.getElem?_cons_succ, List.set_cons_zero, List.set_cons_succ, Nat.add_zero, Nat.zero_add, Nat.reduceAdd, Nat.reduceSub, Nat.reduceLT, Nat.reduceLeDiff, Nat.reduceEqDiff, Nat.reduceBEq, Nat.reduceMul, beq_self_eq_true, Bool.true_or, Bool.false_or, Bool.or_true, Bool.or_false, Bool.and_true, Bool.true_and, Bool.and_self, Bool.and_false, Bool.false_and, if_true, if_false, ite_true, ite_false, Bool.false_eq_true, Option.map_some, Option.map_none, and_self, and_true, true_and, and_false, false_and, true_or, or_true, false_or, or_false, not_true_eq_false, not_false_eq_true, List.drop_zero, List.drop_succ_cons, List.take_succ_cons, List.take_zero, ldA, stA, partA, faddrA, setAt, List.all_cons, List.all_nil, binA, arithA, shiftA, strA, unA, gSpan, gSkip, unG, ne_eq, Option.some.injEq, reduceCtorEq, decide_true, decide_false, elemsA, resA, resAll, resOne, enterA, decide_eq_true_eq, Bool.not_eq_true, Bool.decide_eq_true, List.isEmpty_nil, Bool.not_false, Bool.not_true, List.length_map, Bool.bne_false, Bool.bne_true, List.isEmpty_cons, List.getD_cons_zero, List.getD_cons_succ, List.getD_nil, ite_self, ↓reduceIte, noRefL, clrA, gcT, gcA, gcIds, reach, rhoOf, heapOf, idxA, genB, newGen, renB, refsB, List.contains_cons, List.contains_nil, List.range_zero, List.range_succ, List.flatMap_cons, List.flatMap_nil, List.zip_cons_cons, List.zip_nil_left, List.zip_nil_right, Nat.not_lt_zero, cb_tidingslaw14_TopicNarrow, b_tidingslaw14_TopicNarrow, cr_tidingslaw14_TopicNarrow, x_tidingslaw14_TopicNarrow_k0, x_tidingslaw14_TopicNarrow_l6, intsV, bytesV, propsV, propV, propC, bytesOf_map, z0, h5, h2, e1, e3, hj, hx2, e5, h6]
          exact ih
        | succ i =>
          have ht' : t ++ [47] ++ y ++ restL (i + 2) (narL r m) = g := by rw [← ht]; simp [restL, narL, joinL, hx]
          have ih := q_narl F S g s hF hg hq hlaw r m (i + 2) (t ++ [47] ++ y) hd.2.1 hdS.2.1 (Or.inr ⟨ho1.2, hmm.2⟩) ht'
          have hj0 : t.length + 1 + y.length ≤ g.length := by
            have := congrArg List.length ht'; simp only [List.length_append, List.length_cons, List.length_nil] at this; omega
          have hj1 : t.length + 1 ≤ 9223372036854775807 := by omega
          have hj2 : (t ++ [47]).length + y.length ≤ 9223372036854775807 := by simp only [List.length_append, List.length_cons, List.length_nil]; omega
          have h2 : ((i + 1 : Nat) : Int) > 0 := by omega
          unfold K_tidingslaw14_TopicNarrow_l6 at ih ⊢
          rw [evL_eq]
          simp -implicitDefEqProofs only [EVS0, EVS1, EVS2, EVS3, EVS4, EVS5, EVS6, EVS7, ite_tf, ite_ft, ite_tft, ite_ftf, ite_list, ite_tt, ite_ee, ite_nt, ite_ne, eq_self, implies_true, forall_const, exI, nsite, freeAt, execI, Opd.ev, tget, tins, tput, keepL, sitesOf, List.map_cons, List.map_nil, List.sum_cons, List.sum_nil, List.length_cons, List.length_nil, List.replicate_zero, List.replicate_succ, List.append_nil, List.nil_append, List.cons_append, List.getElem?_cons_zero, List.getElem?_cons_succ, List.set_cons_zero, List.set_cons_succ, Nat.add_zero, Nat.zero_add, Nat.reduceAdd, Nat.reduceSub, Nat.reduceLT, Nat.reduceLeDiff, Nat.reduceEqDiff, Nat.reduceBEq, Nat.reduceMul, beq_self_eq_true, Bool.true_or, Bool.false_or, Bool.or_true, Bool.or_false, Bool.and_true, Bool.true_and, Bool.and_self, Bool.and_false, Bool.false_and, if_true, if_false, ite_true, ite_false, Bool.false_eq_true, Option.map_some, Option.map_none, and_self, and_true, true_and, and_false, false_and, true_or, or_true, false_or, or_false, not_true_eq_false, not_false_eq_true, List.drop_zero, List.drop_succ_cons, List.take_succ_cons, List.take_zero, ldA, stA, partA, faddrA, setAt, List.all_cons, List.all_nil, binA, arithA, shiftA, strA, unA, gSpan, gSkip, unG, ne_eq, Option.some.injEq, reduceCtorEq, decide_true, decide_false, elemsA, resA, resAll, resOne, enterA, decide_eq_true_eq, Bool.not_eq_true, Bool.decide_eq_true, List.isEmpty_nil, Bool.not_false, Bool.not_true, List.length_map, Bool.bne_false, Bool.bne_true, List.isEmpty_cons, List.getD_cons_zero, List.getD_cons_succ, List.getD_nil, ite_self, ↓reduceIte, noRefL, clrA, gcT, gcA, gcIds, reach, rhoOf, heapOf, idxA, genB, newGen, renB, refsB, List.contains_cons, List.contains_nil, List.range_zero, List.range_succ, List.flatMap_cons, List.flatMap_nil, List.zip_cons_cons, List.zip_nil_left, List.zip_nil_right, Nat.not_lt_zero, cb_tidingslaw14_TopicNarrow, b_tidingslaw14_TopicNarrow, cr_tidingslaw14_TopicNarrow, x_tidingslaw14_TopicNarrow_k0, x_tidingslaw14_TopicNarrow_l6, intsV, bytesV, propsV, propV, propC, bytesOf_map, h1, h2, e1, e3, hj1, hj2, hx2, e5, h6]
          exact ih
theorem q_narrow (f s : List UInt8) (hf : f.length * 16 ≤ 140737488355328 - 64) (hs : s.length * 16 ≤ 140737488355328 - 64) : E 5 [.str f, .str s] [] = some (.bool true, []) := by
  rw [E_eq (by rfl) cf_tidingslaw14_TopicNarrow]
  have hc := fun σ site own view => q_matchC σ site own view f s hf
  cases h : matchB f s
  · rw [h] at hc
    simp -implicitDefEqProofs only [EVS0, EVS1, EVS2, EVS3, EVS4, EVS5, EVS6, EVS7, ite_tf, ite_ft, ite_tft, ite_ftf, ite_list, ite_tt, ite_ee, ite_nt, ite_ne, eq_self, implies_true, forall_const, exI, nsite, freeAt, execI, Opd.ev, tget, tins, tput, keepL, sitesOf, List.map_cons, List.map_nil, List.sum_cons, List.sum_nil, List.length_cons, List.length_nil, List.replicate_zero, List.replicate_succ, List.append_nil, List.nil_append, List.cons_append, List.getElem?_cons_zero, List.getElem?_cons_succ, List.set_cons_zero, List.set_cons_succ, Nat.add_zero, Nat.zero_add, Nat.reduceAdd, Nat.reduceSub, Nat.reduceLT, Nat.reduceLeDiff, Nat.reduceEqDiff, Nat.reduceBEq, Nat.reduceMul, beq_self_eq_true, Bool.true_or, Bool.false_or, Bool.or_true, Bool.or_false, Bool.and_true, Bool.true_and, Bool.and_self, Bool.and_false, Bool.false_and, if_true, if_false, ite_true, ite_false, Bool.false_eq_true, Option.map_some, Option.map_none, and_self, and_true, true_and, and_false, false_and, true_or, or_true, false_or, or_false, not_true_eq_false, not_false_eq_true, List.drop_zero, List.drop_succ_cons, List.take_succ_cons, List.take_zero, ldA, stA, partA, faddrA, setAt, List.all_cons, List.all_nil, binA, arithA, shiftA, strA, unA, gSpan, gSkip, unG, ne_eq, Option.some.injEq, reduceCtorEq, decide_true, decide_false, elemsA, resA, resAll, resOne, enterA, decide_eq_true_eq, Bool.not_eq_true, Bool.decide_eq_true, List.isEmpty_nil, Bool.not_false, Bool.not_true, List.length_map, Bool.bne_false, Bool.bne_true, List.isEmpty_cons, List.getD_cons_zero, List.getD_cons_succ, List.getD_nil, ite_self, ↓reduceIte, noRefL, clrA, gcT, gcA, gcIds, reach, rhoOf, heapOf, idxA, genB, newGen, renB, refsB, List.contains_cons, List.contains_nil, List.range_zero, List.range_succ, List.flatMap_cons, List.flatMap_nil, List.zip_cons_cons, List.zip_nil_left, List.zip_nil_right, Nat.not_lt_zero, cb_tidingslaw14_TopicNarrow, b_tidingslaw14_TopicNarrow, cr_tidingslaw14_TopicNarrow, x_tidingslaw14_TopicNarrow_k0, x_tidingslaw14_TopicNarrow_l6, intsV, bytesV, propsV, propV, propC, bytesOf_map, hc, q_wakes14C]
  · rw [h] at hc
    have hl1 := fun σ site own view => q_levelsC σ site own view f (by omega)
    have hl2 := fun σ site own view => q_levelsC σ site own view s (by omega)
    obtain ⟨hlen, hlaw⟩ := narrow_law f s h
    have hF := split_len f
    have hcl := List.count_le_length (a := (47 : UInt8)) (l := f)
    have hb := h
    simp only [matchB, filterB, Bool.and_eq_true] at hb
    have key := q_narl (splitL f) (splitL s) (inter (narL (splitL f) (splitL s))) s (by omega) (by omega) (by omega) hlaw (splitL f) (splitL s) 0 [] rfl rfl (Or.inr ⟨hb.1.1.1.1, hb.2⟩) (by simp [restL, inter])
    have z0 : ((0 : Nat) : Int) = 0 := rfl
    rw [z0] at key
    unfold K_tidingslaw14_TopicNarrow_l6 at key
    simp -implicitDefEqProofs only [EVS0, EVS1, EVS2, EVS3, EVS4, EVS5, EVS6, EVS7, ite_tf, ite_ft, ite_tft, ite_ftf, ite_list, ite_tt, ite_ee, ite_nt, ite_ne, eq_self, implies_true, forall_const, exI, nsite, freeAt, execI, Opd.ev, tget, tins, tput, keepL, sitesOf, List.map_cons, List.map_nil, List.sum_cons, List.sum_nil, List.length_cons, List.length_nil, List.replicate_zero, List.replicate_succ, List.append_nil, List.nil_append, List.cons_append, List.getElem?_cons_zero, List.getElem?_cons_succ, List.set_cons_zero, List.set_cons_succ, Nat.add_zero, Nat.zero_add, Nat.reduceAdd, Nat.reduceSub, Nat.reduceLT, Nat.reduceLeDiff, Nat.reduceEqDiff, Nat.reduceBEq, Nat.reduceMul, beq_self_eq_true, Bool.true_or, Bool.false_or, Bool.or_true, Bool.or_false, Bool.and_true, Bool.true_and, Bool.and_self, Bool.and_false, Bool.false_and, if_true, if_false, ite_true, ite_false, Bool.false_eq_true, Option.map_some, Option.map_none, and_self, and_true, true_and, and_false, false_and, true_or, or_true, false_or, or_false, not_true_eq_false, not_false_eq_true, List.drop_zero, List.drop_succ_cons, List.take_succ_cons, List.take_zero, ldA, stA, partA, faddrA, setAt, List.all_cons, List.all_nil, binA, arithA, shiftA, strA, unA, gSpan, gSkip, unG, ne_eq, Option.some.injEq, reduceCtorEq, decide_true, decide_false, elemsA, resA, resAll, resOne, enterA, decide_eq_true_eq, Bool.not_eq_true, Bool.decide_eq_true, List.isEmpty_nil, Bool.not_false, Bool.not_true, List.length_map, Bool.bne_false, Bool.bne_true, List.isEmpty_cons, List.getD_cons_zero, List.getD_cons_succ, List.getD_nil, ite_self, ↓reduceIte, noRefL, clrA, gcT, gcA, gcIds, reach, rhoOf, heapOf, idxA, genB, newGen, renB, refsB, List.contains_cons, List.contains_nil, List.range_zero, List.range_succ, List.flatMap_cons, List.flatMap_nil, List.zip_cons_cons, List.zip_nil_left, List.zip_nil_right, Nat.not_lt_zero, cb_tidingslaw14_TopicNarrow, b_tidingslaw14_TopicNarrow, cr_tidingslaw14_TopicNarrow, x_tidingslaw14_TopicNarrow_k0, x_tidingslaw14_TopicNarrow_l6, intsV, bytesV, propsV, propV, propC, bytesOf_map, hc, hl1, hl2]
    exact key
end Go.Proofs.YtochhdiilicpgaaDoor
