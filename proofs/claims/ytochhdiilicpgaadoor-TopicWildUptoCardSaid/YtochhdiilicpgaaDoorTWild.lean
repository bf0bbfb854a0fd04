/- TopicWild, by evaluation. -/
import Derived.Test.YtochhdiilicpgaaDoorTLevs
namespace Go.Proofs.YtochhdiilicpgaaDoor
set_option linter.unusedSimpArgs false
set_option linter.unusedVariables false
set_option maxHeartbeats 4000000
set_option maxRecDepth 10000
theorem match_self : ∀ l : List (List UInt8), matchL l l = true
  | [] => rfl
  | x :: l => by simp [matchL, match_self l]
theorem match_plus : ∀ (l : List (List UInt8)) (k : Nat), matchL (l.set k [43]) l = true
  | [], _ => rfl
  | x :: l, 0 => by simp [matchL, match_self l]
  | x :: l, k + 1 => by simp [matchL, match_plus l k]
theorem match_hash : ∀ (l : List (List UInt8)) (k : Nat), matchL (l.take k ++ [[35]]) l = true
  | [], k => by simp [matchL]
  | x :: l, 0 => by simp [matchL]
  | x :: l, k + 1 => by simp [matchL, match_hash l k]
theorem levs_plus : ∀ (l : List (List UInt8)) (k : Nat), l.any plusHash = false → levsOk (l.set k [43]) = true
  | [], _, _ => rfl
  | x :: l, 0, h => by
    simp only [List.any_cons, Bool.or_eq_false_iff] at h
    rw [List.set_cons_zero, levsOk, levs_plain l h.2]; simp [levOk]
  | x :: l, k + 1, h => by
    simp only [List.any_cons, Bool.or_eq_false_iff] at h
    rw [List.set_cons_succ, levsOk, levs_plus l k h.2, Bool.and_true]; simp [levOk, h.1]
theorem levs_hash : ∀ (l : List (List UInt8)) (k : Nat), l.any plusHash = false → levsOk (l.take k ++ [[35]]) = true
  | [], k, _ => by simp [levsOk, levOk]
  | x :: l, 0, h => by simp [levsOk, levOk]
  | x :: l, k + 1, h => by
    simp only [List.any_cons, Bool.or_eq_false_iff] at h
    rw [List.take_succ_cons, List.cons_append, levsOk, levs_hash l k h.2, Bool.and_true]; simp [levOk, h.1]
theorem self_law (s : List UInt8) (h : nameB s = true) : matchB s s = true := by
  obtain ⟨n1, n2, n3, n4⟩ := name_levels h
  have hf := h
  simp only [nameB, Bool.and_eq_true] at hf
  have hw : wild0 ((splitL s).headD []) = false := by
    cases hN : splitL s with
    | nil => exact absurd hN (splitL_ne s)
    | cons y t =>
      rw [hN] at n2; simp only [List.any_cons, Bool.or_eq_false_iff] at n2
      exact wild_plain n2.1
  simp only [matchB, filterB, levs_plain _ n2, hf.1, h, hw, match_self, Bool.and_false, Bool.not_false, Bool.and_true]
/-- a filter over a name's levels -/
theorem over_law (s : List UInt8) (h : nameB s = true) (M : List (List UInt8)) (hM : M ≠ []) (h47 : ∀ z ∈ M, ∀ b ∈ z, b ≠ 47) (ht : M.all textB = true) (hl : levsOk M = true) (hm : matchL M (splitL s) = true) (hp : 1 ≤ (inter M).length) (hn : ¬ ((inter M).length : Int) > 64) :
    matchB (inter M) s = !((s.headD 0 == 36) && wild0 (M.headD [])) := by
  have htx : textB (inter M) = true := by rw [text_inter]; exact ht
  have h1 : decide (1 ≤ (inter M).length) = true := by simpa using hp
  have h2 : decide ((inter M).length ≤ 64) = true := by simp; omega
  simp only [matchB, filterB, fitsB, split_inter M hM h47, hl, hm, htx, h, h1, h2, Bool.and_true, Bool.true_and]
theorem set_mem {l : List (List UInt8)} {k : Nat} {z : List UInt8} (h : z ∈ l.set k [43]) : z = [43] ∨ z ∈ l := by
  rcases List.mem_or_eq_of_mem_set h with h | h
  · exact Or.inr h
  · exact Or.inl h
def plusM (s : List UInt8) (k : Nat) : List (List UInt8) := (splitL s).set k [43]
def hashM (s : List UInt8) (k : Nat) : List (List UInt8) := (splitL s).take k ++ [[35]]
theorem inter_pos {M : List (List UInt8)} (h : 2 ≤ M.length ∨ ∃ x, M = [x] ∧ 1 ≤ x.length) : 1 ≤ (inter M).length := by
  match M, h with
  | [], h => rcases h with h | ⟨x, h, _⟩ <;> simp at h
  | [x], h =>
    rcases h with h | ⟨y, h, h1⟩
    · simp at h
    · injection h with h _; subst h; rw [inter_one]; exact h1
  | x :: y :: M, _ => rw [inter_cons]; simp only [List.length_append, List.length_cons]; omega
def wantB (s : List UInt8) (k : Nat) : Bool := !((k == 0) && (s.headD 0 == 36))
theorem plus_law (s : List UInt8) (h : nameB s = true) (k : Nat) (hk : k < (splitL s).length) (hn : ¬ ((inter (plusM s k)).length : Int) > 64) : matchB (inter (plusM s k)) s = wantB s k := by
  obtain ⟨n1, n2, n3, n4⟩ := name_levels h
  have hlen : (plusM s k).length = (splitL s).length := by simp [plusM]
  rw [over_law s h (plusM s k) (by intro he; rw [he] at hlen; simp at hlen; omega) ?_ ?_ (levs_plus _ k n2) (match_plus _ k) ?_ hn]
  · unfold wantB plusM
    cases hN : splitL s with
    | nil => exact absurd hN (splitL_ne s)
    | cons y t =>
      rw [hN] at n2; simp only [List.any_cons, Bool.or_eq_false_iff] at n2
      cases k with
      | zero => simp [wild0]
      | succ k => simp [wild_plain n2.1]
  · intro z hz
    rcases set_mem hz with rfl | hz
    · simp
    · exact split_no s z hz
  · rw [List.all_eq_true]
    intro z hz
    rcases set_mem hz with rfl | hz
    · exact text_one 43 (by decide) (by decide)
    · exact List.all_eq_true.1 n1 z hz
  · apply inter_pos
    unfold plusM
    cases hN : splitL s with
    | nil => exact absurd hN (splitL_ne s)
    | cons y t =>
      cases t with
      | cons z t => left; simp
      | nil =>
        rw [hN] at hk
        obtain rfl : k = 0 := by simpa using hk
        exact Or.inr ⟨[43], rfl, by simp⟩
theorem hash_law (s : List UInt8) (h : nameB s = true) (k : Nat) (hk : k < (splitL s).length) (hn : ¬ ((inter (hashM s k)).length : Int) > 64) : matchB (inter (hashM s k)) s = wantB s k := by
  obtain ⟨n1, n2, n3, n4⟩ := name_levels h
  rw [over_law s h (hashM s k) (by simp [hashM]) ?_ ?_ (levs_hash _ k n2) (match_hash _ k) ?_ hn]
  · unfold wantB hashM
    cases hN : splitL s with
    | nil => exact absurd hN (splitL_ne s)
    | cons y t =>
      rw [hN] at n2; simp only [List.any_cons, Bool.or_eq_false_iff] at n2
      cases k with
      | zero => simp [wild0]
      | succ k => simp [wild_plain n2.1]
  · intro z hz
    rcases List.mem_append.1 hz with hz | hz
    · exact split_no s z (List.mem_of_mem_take hz)
    · obtain rfl : z = [35] := by simpa using hz
      simp
  · rw [List.all_eq_true]
    intro z hz
    rcases List.mem_append.1 hz with hz | hz
    · exact List.all_eq_true.1 n1 z (List.mem_of_mem_take hz)
    · obtain rfl : z = [35] := by simpa using hz
      exact text_one 35 (by decide) (by decide)
  · apply inter_pos
    unfold hashM
    cases k with
    | zero => exact Or.inr ⟨[35], rfl, by simp⟩
    | succ k => left; simp only [List.length_append, List.length_take, List.length_cons, List.length_nil]; omega
theorem restL_cons (i : Nat) (x : List UInt8) (r : List (List UInt8)) : restL (i + 1) (x :: r) = 47 :: (x ++ restL (i + 2) r) := by simp [restL, joinL]
theorem restL_zero (x : List UInt8) (r : List (List UInt8)) : restL 0 (x :: r) = x ++ restL 1 r := by simp [restL, joinL]
theorem restL_nil (i : Nat) : restL i [] = [] := by unfold restL; split <;> rfl
theorem plusM_drop {s : List UInt8} {k i : Nat} {x : List UInt8} {r : List (List UInt8)} (h : (splitL s).drop i = x :: r) : (plusM s k).drop i = (if i = k then [43] else x) :: (plusM s k).drop (i + 1) := by
  obtain ⟨h1, _, h3⟩ := drop_at h
  have hl : i < (plusM s k).length := by simpa [plusM] using h3
  rw [List.drop_eq_getElem_cons hl]
  congr 1
  have : (splitL s)[i] = x := by rw [List.getElem?_eq_getElem h3] at h1; exact Option.some.inj h1
  simp only [plusM, List.getElem_set, this]
  by_cases hk : k = i
  · simp [hk]
  · have hk' : ¬ i = k := fun h => hk h.symm
    simp [hk, hk']
theorem hashM_drop {s : List UInt8} {k i : Nat} {x : List UInt8} {r : List (List UInt8)} (h : (splitL s).drop i = x :: r) (hk : i < k) : (hashM s k).drop i = x :: (hashM s k).drop (i + 1) := by
  obtain ⟨h1, _, h3⟩ := drop_at h
  have hl : i < (hashM s k).length := by simp only [hashM, List.length_append, List.length_take, List.length_cons, List.length_nil]; omega
  have e : (hashM s k)[i]? = some x := by
    unfold hashM
    rw [List.getElem?_append_left (by rw [List.length_take]; omega), List.getElem?_take, if_pos hk, h1]
  rw [List.drop_eq_getElem_cons hl]
  rw [List.getElem?_eq_getElem hl] at e
  rw [Option.some.inj e]
theorem hashM_at {s : List UInt8} {k : Nat} (hk : k ≤ (splitL s).length) : (hashM s k).drop k = [[35]] := by
  unfold hashM
  have : ((splitL s).take k).length = k := by rw [List.length_take]; omega
  rw [List.drop_append_of_le_length (by omega), List.drop_of_length_le (by omega), List.nil_append]
theorem plusM_len (s : List UInt8) (k : Nat) (hs : s.length ≤ 64) : (inter (plusM s k)).length ≤ 8192 := by
  have hF := split_len s
  have hcl := List.count_le_length (a := (47 : UInt8)) (l := s)
  have h := inter_len 64 (plusM s k) (by
    intro z hz
    rcases set_mem hz with rfl | hz
    · simp
    · have := split_mem s z hz; omega)
  have e : (plusM s k).length = (splitL s).length := by simp [plusM]
  have : (plusM s k).length * (64 + 1) ≤ 65 * 65 := Nat.mul_le_mul (by omega) (by omega)
  omega
theorem hashM_len (s : List UInt8) (k : Nat) (hs : s.length ≤ 64) : (inter (hashM s k)).length ≤ 8192 := by
  have hF := split_len s
  have hcl := List.count_le_length (a := (47 : UInt8)) (l := s)
  have h := inter_len 64 (hashM s k) (by
    intro z hz
    rcases List.mem_append.1 hz with hz | hz
    · have := split_mem s z (List.mem_of_mem_take hz); omega
    · obtain rfl : z = [35] := by simpa using hz
      simp)
  have e : (hashM s k).length ≤ (splitL s).length + 1 := by simp only [hashM, List.length_append, List.length_take, List.length_cons, List.length_nil]; omega
  have : (hashM s k).length * (64 + 1) ≤ 66 * 65 := Nat.mul_le_mul (by omega) (by omega)
  omega
theorem q_wildEnd (s : List UInt8) (hN : nameB s = true) (k : Nat) (hk : k < (splitL s).length) (i : Nat) (hi : (splitL s).drop i = []) :
    K_tidingslaw14_TopicWild_l9 0 [(8, .int .i64 i), (7, .str (inter (hashM s k))), (6, .str (inter (plusM s k))), (5, .lst false ((splitL s).map AVal.str)), (1, .int .i64 k), (0, .str s)] [] = some (.bool true, []) := by
  have h1 := drop_nil hi
  obtain ⟨n1, n2, n3, n4⟩ := name_levels hN
  have hp := plusM_len s k n4
  have hh := hashM_len s k n4
  have lp := plus_law s hN k hk
  have lh := hash_law s hN k hk
  have ls := self_law s hN
  have c0 := fun σ site own view => q_matchC σ site own view s s (by omega)
  have c1 := fun σ site own view => q_matchC σ site own view (inter (plusM s k)) s (by omega)
  have c2 := fun σ site own view => q_matchC σ site own view (inter (hashM s k)) s (by omega)
  rw [ls] at c0
  generalize inter (plusM s k) = P at *
  generalize inter (hashM s k) = H at *
  obtain ⟨b, t, hs⟩ := name_cons hN
  generalize hL : splitL s = L at *
  unfold K_tidingslaw14_TopicWild_l9
  rw [evL_eq]
  have hb : ((b.toNat : Int) == 36) = (b == 36) := by
    rw [Bool.eq_iff_iff, beq_iff_eq, beq_iff_eq]
    constructor
    · intro h; exact UInt8.toNat_inj.1 (by show b.toNat = 36; omega)
    · rintro rfl; rfl
  have z0 : (0 : Int) ≤ 0 := by decide
  have g0 : s[(0 : Int).toNat]? = some b := by rw [hs]; rfl
  have w : wantB s k = !((k == 0) && (b == 36)) := by unfold wantB; rw [hs]; rfl
  have hkz : ((k : Int) == 0) = (k == 0) := by
    rw [Bool.eq_iff_iff, beq_iff_eq, beq_iff_eq]; omega
  clear hs
  by_cases h2 : (P.length : Int) > 64
  · cases e1 : (k == 0) <;> cases e2 : (b == 36)
    all_goals (rw [e1] at hkz; rw [e2] at hb)
    · simp -implicitDefEqProofs only [EVS0, EVS1, EVS2, EVS3, EVS4, EVS5, EVS6, EVS7, ite_tf, ite_ft, ite_tft, ite_ftf, ite_list, ite_tt, ite_ee, ite_nt, ite_ne, eq_self, implies_true, forall_const, exI, nsite, freeAt, execI, Opd.ev, tget, tins, tput, keepL, sitesOf, List.map_cons, List.map_nil, List.sum_cons, List.sum_nil, List.length_cons, List.length_nil, List.replicate_zero, List.replicate_succ, List.append_nil, List.nil_append, List.cons_append, List.getElem?_cons_zero, List.getElem?_cons_succ, List.set_cons_zero, List.set_cons_succ, Nat.add_zero, Nat.zero_add, Nat.reduceAdd, Nat.reduceSub, Nat.reduceLT, Nat.reduceLeDiff, Nat.reduceEqDiff, Nat.reduceBEq, Nat.reduceMul, beq_self_eq_true, Bool.true_or, Bool.false_or, Bool.or_true, Bool.or_false, Bool.and_true, Bool.true_and, Bool.and_self, Bool.and_false, Bool.false_and, if_true, if_false, ite_true, ite_false, Bool.false_eq_true, Option.map_some, Option.map_none, and_self, and_true, true_and, and_false, false_and, true_or, or_true, false_or, or_false, not_true_eq_false, not_false_eq_true, List.drop_zero, List.drop_succ_cons, List.take_succ_cons, List.take_zero, ldA, stA, partA, faddrA, setAt, List.all_cons, List.all_nil, binA, arithA, shiftA, strA, unA, gSpan, gSkip, unG, ne_eq, Option.some.injEq, reduceCtorEq, decide_true, decide_false, elemsA, resA, resAll, resOne, enterA, decide_eq_true_eq, Bool.not_eq_true, Bool.decide_eq_true, List.isEmpty_nil, Bool.not_false, Bool.not_true, List.length_map, Bool.bne_false, Bool.bne_true, List.isEmpty_cons, List.getD_cons_zero, List.getD_cons_succ, List.getD_nil, ite_self, ↓reduceIte, noRefL, clrA, gcT, gcA, gcIds, reach, rhoOf, heapOf, idxA, genB, newGen, renB, refsB, List.contains_cons, List.contains_nil, List.range_zero, List.range_succ, List.flatMap_cons, List.flatMap_nil, List.zip_cons_cons, List.zip_nil_left, List.zip_nil_right, Nat.not_lt_zero, cb_tidingslaw14_TopicWild, b_tidingslaw14_TopicWild, cr_tidingslaw14_TopicWild, x_tidingslaw14_TopicWild_k0, x_tidingslaw14_TopicWild_l9, intsV, bytesV, propsV, propV, propC, bytesOf_map, h1, h2, c0, hkz, hb, g0, z0, byteV]
    · simp -implicitDefEqProofs only [EVS0, EVS1, EVS2, EVS3, EVS4, EVS5, EVS6, EVS7, ite_tf, ite_ft, ite_tft, ite_ftf, ite_list, ite_tt, ite_ee, ite_nt, ite_ne, eq_self, implies_true, forall_const, exI, nsite, freeAt, execI, Opd.ev, tget, tins, tput, keepL, sitesOf, List.map_cons, List.map_nil, List.sum_cons, List.sum_nil, List.length_cons, List.length_nil, List.replicate_zero, List.replicate_succ, List.append_nil, List.nil_append, List.cons_append, List.getElem?_cons_zero, List.getElem?_cons_succ, List.set_cons_zero, List.set_cons_succ, Nat.add_zero, Nat.zero_add, Nat.reduceAdd, Nat.reduceSub, Nat.reduceLT, Nat.reduceLeDiff, Nat.reduceEqDiff, Nat.reduceBEq, Nat.reduceMul, beq_self_eq_true, Bool.true_or, Bool.false_or, Bool.or_true, Bool.or_false, Bool.and_true, Bool.true_and, Bool.and_self, Bool.and_false, Bool.false_and, if_true, if_false, ite_true, ite_false, Bool.false_eq_true, Option.map_some, Option.map_none, and_self, and_true, true_and, and_false, false_and, true_or, or_true, false_or, or_false, not_true_eq_false, not_false_eq_true, List.drop_zero, List.drop_succ_cons, List.take_succ_cons, List.take_zero, ldA, stA, partA, faddrA, setAt, List.all_cons, List.all_nil, binA, arithA, shiftA, strA, unA, gSpan, gSkip, unG, ne_eq, Option.some.injEq, reduceCtorEq, decide_true, decide_false, elemsA, resA, resAll, resOne, enterA, decide_eq_true_eq, Bool.not_eq_true, Bool.decide_eq_true, List.isEmpty_nil, Bool.not_false, Bool.not_true, List.length_map, Bool.bne_false, Bool.bne_true, List.isEmpty_cons, List.getD_cons_zero, List.getD_cons_succ, List.getD_nil, ite_self, ↓reduceIte, noRefL, clrA, gcT, gcA, gcIds, reach, rhoOf, heapOf, idxA, genB, newGen, renB, refsB, List.contains_cons, List.contains_nil, List.range_zero, List.range_succ, List.flatMap_cons, List.flatMap_nil, List.zip_cons_cons, List.zip_nil_left, List.zip_nil_right, Nat.not_lt_zero, cb_tidingslaw14_TopicWild, b_tidingslaw14_TopicWild, cr_tidingslaw14_TopicWild, x_tidingslaw14_TopicWild_k0, x_tidingslaw14_TopicWild_l9, intsV, bytesV, propsV, propV, propC, bytesOf_map, h1, h2, c0, hkz, hb, g0, z0, byteV]
    · simp -implicitDefEqProofs only [EVS0, EVS1, EVS2, EVS3, EVS4, EVS5, EVS6, EVS7, ite_tf, ite_ft, ite_tft, ite_ftf, ite_list, ite_tt, ite_ee, ite_nt, ite_ne, eq_self, implies_true, forall_const, exI, nsite, freeAt, execI, Opd.ev, tget, tins, tput, keepL, sitesOf, List.map_cons, List.map_nil, List.sum_cons, List.sum_nil, List.length_cons, List.length_nil, List.replicate_zero, List.replicate_succ, List.append_nil, List.nil_append, List.cons_append, List.getElem?_cons_zero, List.getElem?_cons_succ, List.set_cons_zero, List.set_cons_succ, Nat.add_zero, Nat.zero_add, Nat.reduceAdd, Nat.reduceSub, Nat.reduceLT, Nat.reduceLeDiff, Nat.reduceEqDiff, Nat.reduceBEq, Nat.reduceMul, beq_self_eq_true, Bool.true_or, Bool.false_or, Bool.or_true, Bool.or_false, Bool.and_true, Bool.true_and, Bool.and_self, Bool.and_false, Bool.false_and, if_true, if_false, ite_true, ite_false, Bool.false_eq_true, Option.map_some, Option.map_none, and_self, and_true, true_and, and_false, false_and, true_or, or_true, false_or, or_false, not_true_eq_false, not_false_eq_true, List.drop_zero, List.drop_succ_cons, List.take_succ_cons, List.take_zero, ldA, stA, partA, faddrA, setAt, List.all_cons, List.all_nil, binA, arithA, shiftA, strA, unA, gSpan, gSkip, unG, ne_eq, Option.some.injEq, reduceCtorEq, decide_true, decide_false, elemsA, resA, resAll, resOne, enterA, decide_eq_true_eq, Bool.not_eq_true, Bool.decide_eq_true, List.isEmpty_nil, Bool.not_false, Bool.not_true, List.length_map, Bool.bne_false, Bool.bne_true, List.isEmpty_cons, List.getD_cons_zero, List.getD_cons_succ, List.getD_nil, ite_self, ↓reduceIte, noRefL, clrA, gcT, gcA, gcIds, reach, rhoOf, heapOf, idxA, genB, newGen, renB, refsB, List.contains_cons, List.contains_nil, List.range_zero, List.range_succ, List.flatMap_cons, List.flatMap_nil, List.zip_cons_cons, List.zip_nil_left, List.zip_nil_right, Nat.not_lt_zero, cb_tidingslaw14_TopicWild, b_tidingslaw14_TopicWild, cr_tidingslaw14_TopicWild, x_tidingslaw14_TopicWild_k0, x_tidingslaw14_TopicWild_l9, intsV, bytesV, propsV, propV, propC, bytesOf_map, h1, h2, c0, hkz, hb, g0, z0, byteV]
    · simp -implicitDefEqProofs only [EVS0, EVS1, EVS2, EVS3, EVS4, EVS5, EVS6, EVS7, ite_tf, ite_ft, ite_tft, ite_ftf, ite_list, ite_tt, ite_ee, ite_nt, ite_ne, eq_self, implies_true, forall_const, exI, nsite, freeAt, execI, Opd.ev, tget, tins, tput, keepL, sitesOf, List.map_cons, List.map_nil, List.sum_cons, List.sum_nil, List.length_cons, List.length_nil, List.replicate_zero, List.replicate_succ, List.append_nil, List.nil_append, List.cons_append, List.getElem?_cons_zero, List.getElem?_cons_succ, List.set_cons_zero, List.set_cons_succ, Nat.add_zero, Nat.zero_add, Nat.reduceAdd, Nat.reduceSub, Nat.reduceLT, Nat.reduceLeDiff, Nat.reduceEqDiff, Nat.reduceBEq, Nat.reduceMul, beq_self_eq_true, Bool.true_or, Bool.false_or, Bool.or_true, Bool.or_false, Bool.and_true, Bool.true_and, Bool.and_self, Bool.and_false, Bool.false_and, if_true, if_false, ite_true, ite_false, Bool.false_eq_true, Option.map_some, Option.map_none, and_self, and_true, true_and, and_false, false_and, true_or, or_true, false_or, or_false, not_true_eq_false, not_false_eq_true, List.drop_zero, List.drop_succ_cons, List.take_succ_cons, List.take_zero, ldA, stA, partA, faddrA, setAt, List.all_cons, List.all_nil, binA, arithA, shiftA, strA, unA, gSpan, gSkip, unG, ne_eq, Option.some.injEq, reduceCtorEq, decide_true, decide_false, elemsA, resA, resAll, resOne, enterA, decide_eq_true_eq, Bool.not_eq_true, Bool.decide_eq_true, List.isEmpty_nil, Bool.not_false, Bool.not_true, List.length_map, Bool.bne_false, Bool.bne_true, List.isEmpty_cons, List.getD_cons_zero, List.getD_cons_succ, List.getD_nil, ite_self, ↓reduceIte, noRefL, clrA, gcT, gcA, gcIds, reach, rhoOf, heapOf, idxA, genB, newGen, renB, refsB, List.contains_cons, List.contains_nil, List.range_zero, List.range_succ, List.flatMap_cons, List.flatMap_nil, List.zip_cons_cons, List.zip_nil_left, List.zip_nil_right, Nat.not_lt_zero, cb_tidingslaw14_TopicWild, b_tidingslaw14_TopicWild, cr_tidingslaw14_TopicWild, x_tidingslaw14_TopicWild_k0, x_tidingslaw14_TopicWild_l9, intsV, bytesV, propsV, propV, propC, bytesOf_map, h1, h2, c0, hkz, hb, g0, z0, byteV]
  · by_cases h3 : (H.length : Int) > 64
    · cases e1 : (k == 0) <;> cases e2 : (b == 36)
      all_goals (rw [e1] at hkz; rw [e2] at hb)
      · simp -implicitDefEqProofs only [EVS0, EVS1, EVS2, EVS3, EVS4, EVS5, EVS6, EVS7, ite_tf, ite_ft, ite_tft, ite_ftf, ite_list, ite_tt, ite_ee, ite_nt, ite_ne, eq_self, implies_true, forall_const, exI, nsite, freeAt, execI, Opd.ev, tget, tins, tput, keepL, sitesOf, List.map_cons, List.map_nil, List.sum_cons, List.sum_nil, List.length_cons, List.length_nil, List.replicate_zero, List.replicate_succ, List.append_nil, List.nil_append, List.cons_append, List.getElem?_cons_zero, List.getElem?_cons_succ, List.set_cons_zero, List.set_cons_succ, Nat.add_zero, Nat.zero_add, Nat.reduceAdd, Nat.reduceSub, Nat.reduceLT, Nat.reduceLeDiff, Nat.reduceEqDiff, Nat.reduceBEq, Nat.reduceMul, beq_self_eq_true, Bool.true_or, Bool.false_or, Bool.or_true, Bool.or_false, Bool.and_true, Bool.true_and, Bool.and_self, Bool.and_false, Bool.false_and, if_true, if_false, ite_true, ite_false, Bool.false_eq_true, Option.map_some, Option.map_none, and_self, and_true, true_and, and_false, false_and, true_or, or_true, false_or, or_false, not_true_eq_false, not_false_eq_true, List.drop_zero, List.drop_succ_cons, List.take_succ_cons, List.take_zero, ldA, stA, partA, faddrA, setAt, List.all_cons, List.all_nil, binA, arithA, shiftA, strA, unA, gSpan, gSkip, unG, ne_eq, Option.some.injEq, reduceCtorEq, decide_true, decide_false, elemsA, resA, resAll, resOne, enterA, decide_eq_true_eq, Bool.not_eq_true, Bool.decide_eq_true, List.isEmpty_nil, Bool.not_false, Bool.not_true, List.length_map, Bool.bne_false, Bool.bne_true, List.isEmpty_cons, List.getD_cons_zero, List.getD_cons_succ, List.getD_nil, ite_self, ↓reduceIte, noRefL, clrA, gcT, gcA, gcIds, reach, rhoOf, heapOf, idxA, genB, newGen, renB, refsB, List.contains_cons, List.contains_nil, List.range_zero, List.range_succ, List.flatMap_cons, List.flatMap_nil, List.zip_cons_cons, List.zip_nil_left, List.zip_nil_right, Nat.not_lt_zero, cb_tidingslaw14_TopicWild, b_tidingslaw14_TopicWild, cr_tidingslaw14_TopicWild, x_tidingslaw14_TopicWild_k0, x_tidingslaw14_TopicWild_l9, intsV, bytesV, propsV, propV, propC, bytesOf_map, h1, h2, h3, c0, hkz, hb, g0, z0, byteV]
      · simp -implicitDefEqProofs only [EVS0, EVS1, EVS2, EVS3, EVS4, EVS5, EVS6, EVS7, ite_tf, ite_ft, ite_tft, ite_ftf, ite_list, ite_tt, ite_ee, ite_nt, ite_ne, eq_self, implies_true, forall_const, exI, nsite, freeAt, execI, Opd.ev, tget, tins, tput, keepL, sitesOf, List.map_cons, List.map_nil, List.sum_cons, List.sum_nil, List.length_cons, List.length_nil, List.replicate_zero, List.replicate_succ, List.append_nil, List.nil_append, List.cons_append, List.getElem?_cons_zero, List.getElem?_cons_succ, List.set_cons_zero, List.set_cons_succ, Nat.add_zero, Nat.zero_add, Nat.reduceAdd, Nat.reduceSub, Nat.reduceLT, Nat.reduceLeDiff, Nat.reduceEqDiff, Nat.reduceBEq, Nat.reduceMul, beq_self_eq_true, Bool.true_or, Bool.false_or, Bool.or_true, Bool.or_false, Bool.and_true, Bool.true_and, Bool.and_self, Bool.and_false, Bool.false_and, if_true, if_false, ite_true, ite_false, Bool.false_eq_true, Option.map_some, Option.map_none, and_self, and_true, true_and, and_false, false_and, true_or, or_true, false_or, or_false, not_true_eq_false, not_false_eq_true, List.drop_zero, List.drop_succ_cons, List.take_succ_cons, List.take_zero, ldA, stA, partA, faddrA, setAt, List.all_cons, List.all_nil, binA, arithA, shiftA, strA, unA, gSpan, gSkip, unG, ne_eq, Option.some.injEq, reduceCtorEq, decide_true, decide_false, elemsA, resA, resAll, resOne, enterA, decide_eq_true_eq, Bool.not_eq_true, Bool.decide_eq_true, List.isEmpty_nil, Bool.not_false, Bool.not_true, List.length_map, Bool.bne_false, Bool.bne_true, List.isEmpty_cons, List.getD_cons_zero, List.getD_cons_succ, List.getD_nil, ite_self, ↓reduceIte, noRefL, clrA, gcT, gcA, gcIds, reach, rhoOf, heapOf, idxA, genB, newGen, renB, refsB, List.contains_cons, List.contains_nil, List.range_zero, List.range_succ, List.flatMap_cons, List.flatMap_nil, List.zip_cons_cons, List.zip_nil_left, List.zip_nil_right, Nat.not_lt_zero, cb_tidingslaw14_TopicWild, b_tidingslaw14_TopicWild, cr_tidingslaw14_TopicWild, x_tidingslaw14_TopicWild_k0, x_tidingslaw14_TopicWild_l9, intsV, bytesV, propsV, propV, propC, bytesOf_map, h1, h2, h3, c0, hkz, hb, g0, z0, byteV]
      · simp -implicitDefEqProofs only [EVS0, EVS1, EVS2, EVS3, EVS4, EVS5, EVS6, EVS7, ite_tf, ite_ft, ite_tft, ite_ftf, ite_list, ite_tt, ite_ee, ite_nt, ite_ne, eq_self, implies_true, forall_const, exI, nsite, freeAt, execI, Opd.ev, tget, tins, tput, keepL, sitesOf, List.map_cons, List.map_nil, List.sum_cons, List.sum_nil, List.length_cons, List.length_nil, List.replicate_zero, List.replicate_succ, List.append_nil, List.nil_append, List.cons_append, List.getElem?_cons_zero, List.getElem?_cons_succ, List.set_cons_zero, List.set_cons_succ, Nat.add_zero, Nat.zero_add, Nat.reduceAdd, Nat.reduceSub, Nat.reduceLT, Nat.reduceLeDiff, Nat.reduceEqDiff, Nat.reduceBEq, Nat.reduceMul, beq_self_eq_true, Bool.true_or, Bool.false_or, Bool.or_true, Bool.or_false, Bool.and_true, Bool.true_and, Bool.and_self, Bool.and_false, Bool.false_and, if_true, if_false, ite_true, ite_false, Bool.false_eq_true, Option.map_some, Option.map_none, and_self, and_true, true_and, and_false, false_and, true_or, or_true, false_or, or_false, not_true_eq_false, not_false_eq_true, List.drop_zero, List.drop_succ_cons, List.take_succ_cons, List.take_zero, ldA, stA, partA, faddrA, setAt, List.all_cons, List.all_nil, binA, arithA, shiftA, strA, unA, gSpan, gSkip, unG, ne_eq, Option.some.injEq, reduceCtorEq, decide_true, decide_false, elemsA, resA, resAll, resOne, enterA, decide_eq_true_eq, Bool.not_eq_true, Bool.decide_eq_true, List.isEmpty_nil, Bool.not_false, Bool.not_true, List.length_map, Bool.bne_false, Bool.bne_true, List.isEmpty_cons, List.getD_cons_zero, List.getD_cons_succ, List.getD_nil, ite_self, ↓reduceIte, noRefL, clrA, gcT, gcA, gcIds, reach, rhoOf, heapOf, idxA, genB, newGen, renB, refsB, List.contains_cons, List.contains_nil, List.range_zero, List.range_succ, List.flatMap_cons, List.flatMap_nil, List.zip_cons_cons, List.zip_nil_left, List.zip_nil_right, Nat.not_lt_zero, cb_tidingslaw14_TopicWild, b_tidingslaw14_TopicWild, cr_tidingslaw14_TopicWild, x_tidingslaw14_TopicWild_k0, x_tidingslaw14_TopicWild_l9, intsV, bytesV, propsV, propV, propC, bytesOf_map, h1, h2, h3, c0, hkz, hb, g0, z0, byteV]
      · simp -implicitDefEqProofs only [EVS0, EVS1, EVS2, EVS3, EVS4, EVS5, EVS6, EVS7, ite_tf, ite_ft, ite_tft, ite_ftf, ite_list, ite_tt, ite_ee, ite_nt, ite_ne, eq_self, implies_true, forall_const, exI, nsite, freeAt, execI, Opd.ev, tget, tins, tput, keepL, sitesOf, List.map_cons, List.map_nil, List.sum_cons, List.sum_nil, List.length_cons, List.length_nil, List.replicate_zero, List.replicate_succ, List.append_nil, List.nil_append, List.cons_append, List.getElem?_cons_zero, List.getElem?_cons_succ, List.set_cons_zero, List.set_cons_succ, Nat.add_zero, Nat.zero_add, Nat.reduceAdd, Nat.reduceSub, Nat.reduceLT, Nat.reduceLeDiff, Nat.reduceEqDiff, Nat.reduceBEq, Nat.reduceMul, beq_self_eq_true, Bool.true_or, Bool.false_or, Bool.or_true, Bool.or_false, Bool.and_true, Bool.true_and, Bool.and_self, Bool.and_false, Bool.false_and, if_true, if_false, ite_true, ite_false, Bool.false_eq_true, Option.map_some, Option.map_none, and_self, and_true, true_and, and_false, false_and, true_or, or_true, false_or, or_false, not_true_eq_false, not_false_eq_true, List.drop_zero, List.drop_succ_cons, List.take_succ_cons, List.take_zero, ldA, stA, partA, faddrA, setAt, List.all_cons, List.all_nil, binA, arithA, shiftA, strA, unA, gSpan, gSkip, unG, ne_eq, Option.some.injEq, reduceCtorEq, decide_true, decide_false, elemsA, resA, resAll, resOne, enterA, decide_eq_true_eq, Bool.not_eq_true, Bool.decide_eq_true, List.isEmpty_nil, Bool.not_false, Bool.not_true, List.length_map, Bool.bne_false, Bool.bne_true, List.isEmpty_cons, List.getD_cons_zero, List.getD_cons_succ, List.getD_nil, ite_self, ↓reduceIte, noRefL, clrA, gcT, gcA, gcIds, reach, rhoOf, heapOf, idxA, genB, newGen, renB, refsB, List.contains_cons, List.contains_nil, List.range_zero, List.range_succ, List.flatMap_cons, List.flatMap_nil, List.zip_cons_cons, List.zip_nil_left, List.zip_nil_right, Nat.not_lt_zero, cb_tidingslaw14_TopicWild, b_tidingslaw14_TopicWild, cr_tidingslaw14_TopicWild, x_tidingslaw14_TopicWild_k0, x_tidingslaw14_TopicWild_l9, intsV, bytesV, propsV, propV, propC, bytesOf_map, h1, h2, h3, c0, hkz, hb, g0, z0, byteV]
    · rw [lp h2] at c1
      rw [lh h3] at c2
      rw [w] at c1 c2
      cases e1 : (k == 0) <;> cases e2 : (b == 36)
      all_goals (rw [e1] at hkz; rw [e2] at hb; rw [e1, e2] at c1 c2)
      · simp -implicitDefEqProofs only [EVS0, EVS1, EVS2, EVS3, EVS4, EVS5, EVS6, EVS7, ite_tf, ite_ft, ite_tft, ite_ftf, ite_list, ite_tt, ite_ee, ite_nt, ite_ne, eq_self, implies_true, forall_const, exI, nsite, freeAt, execI, Opd.ev, tget, tins, tput, keepL, sitesOf, List.map_cons, List.map_nil, List.sum_cons, List.sum_nil, List.length_cons, List.length_nil, List.replicate_zero, List.replicate_succ, List.append_nil, List.nil_append, List.cons_append, List.getElem?_cons_zero, List.getElem?_cons_succ, List.set_cons_zero, List.set_cons_succ, Nat.add_zero, Nat.zero_add, Nat.reduceAdd, Nat.reduceSub, Nat.reduceLT, Nat.reduceLeDiff, Nat.reduceEqDiff, Nat.reduceBEq, Nat.reduceMul, beq_self_eq_true, Bool.true_or, Bool.false_or, Bool.or_true, Bool.or_false, Bool.and_true, Bool.true_and, Bool.and_self, Bool.and_false, Bool.false_and, if_true, if_false, ite_true, ite_false, Bool.false_eq_true, Option.map_some, Option.map_none, and_self, and_true, true_and, and_false, false_and, true_or, or_true, false_or, or_false, not_true_eq_false, not_false_eq_true, List.drop_zero, List.drop_succ_cons, List.take_succ_cons, List.take_zero, ldA, stA, partA, faddrA, setAt, List.all_cons, List.all_nil, binA, arithA, shiftA, strA, unA, gSpan, gSkip, unG, ne_eq, Option.some.injEq, reduceCtorEq, decide_true, decide_false, elemsA, resA, resAll, resOne, enterA, decide_eq_true_eq, Bool.not_eq_true, Bool.decide_eq_true, List.isEmpty_nil, Bool.not_false, Bool.not_true, List.length_map, Bool.bne_false, Bool.bne_true, List.isEmpty_cons, List.getD_cons_zero, List.getD_cons_succ, List.getD_nil, ite_self, ↓reduceIte, noRefL, clrA, gcT, gcA, gcIds, reach, rhoOf, heapOf, idxA, genB, newGen, renB, refsB, List.contains_cons, List.contains_nil, List.range_zero, List.range_succ, List.flatMap_cons, List.flatMap_nil, List.zip_cons_cons, List.zip_nil_left, List.zip_nil_right, Nat.not_lt_zero, cb_tidingslaw14_TopicWild, b_tidingslaw14_TopicWild, cr_tidingslaw14_TopicWild, x_tidingslaw14_TopicWild_k0, x_tidingslaw14_TopicWild_l9, intsV, bytesV, propsV, propV, propC, bytesOf_map, h1, h2, h3, c0, c1, c2, hkz, hb, g0, z0, byteV, q_wakes14C]
      · simp -implicitDefEqProofs only [EVS0, EVS1, EVS2, EVS3, EVS4, EVS5, EVS6, EVS7, ite_tf, ite_ft, ite_tft, ite_ftf, ite_list, ite_tt, ite_ee, ite_nt, ite_ne, eq_self, implies_true, forall_const, exI, nsite, freeAt, execI, Opd.ev, tget, tins, tput, keepL, sitesOf, List.map_cons, List.map_nil, List.sum_cons, List.sum_nil, List.length_cons, List.length_nil, List.replicate_zero, List.replicate_succ, List.append_nil, List.nil_append, List.cons_append, List.getElem?_cons_zero, List.getElem?_cons_succ, List.set_cons_zero, List.set_cons_succ, Nat.add_zero, Nat.zero_add, Nat.reduceAdd, Nat.reduceSub, Nat.reduceLT, Nat.reduceLeDiff, Nat.reduceEqDiff, Nat.reduceBEq, Nat.reduceMul, beq_self_eq_true, Bool.true_or, Bool.false_or, Bool.or_true, Bool.or_false, Bool.and_true, Bool.true_and, Bool.and_self, Bool.and_false, Bool.false_and, if_true, if_false, ite_true, ite_false, Bool.false_eq_true, Option.map_some, Option.map_none, and_self, and_true, true_and, and_false, false_and, true_or, or_true, false_or, or_false, not_true_eq_false, not_false_eq_true, List.drop_zero, List.drop_succ_cons, List.take_succ_cons, List.take_zero, ldA, stA, partA, faddrA, setAt, List.all_cons, List.all_nil, binA, arithA, shiftA, strA, unA, gSpan, gSkip, unG, ne_eq, Option.some.injEq, reduceCtorEq, decide_true, decide_false, elemsA, resA, resAll, resOne, enterA, decide_eq_true_eq, Bool.not_eq_true, Bool.decide_eq_true, List.isEmpty_nil, Bool.not_false, Bool.not_true, List.length_map, Bool.bne_false, Bool.bne_true, List.isEmpty_cons, List.getD_cons_zero, List.getD_cons_succ, List.getD_nil, ite_self, ↓reduceIte, noRefL, clrA, gcT, gcA, gcIds, reach, rhoOf, heapOf, idxA, genB, newGen, renB, refsB, List.contains_cons, List.contains_nil, List.range_zero, List.range_succ, List.flatMap_cons, List.flatMap_nil, List.zip_cons_cons, List.zip_nil_left, List.zip_nil_right, Nat.not_lt_zero, cb_tidingslaw14_TopicWild, b_tidingslaw14_TopicWild, cr_tidingslaw14_TopicWild, x_tidingslaw14_TopicWild_k0, x_tidingslaw14_TopicWild_l9, intsV, bytesV, propsV, propV, propC, bytesOf_map, h1, h2, h3, c0, c1, c2, hkz, hb, g0, z0, byteV, q_wakes14C]
      · simp -implicitDefEqProofs only [EVS0, EVS1, EVS2, EVS3, EVS4, EVS5, EVS6, EVS7, ite_tf, ite_ft, ite_tft, ite_ftf, ite_list, ite_tt, ite_ee, ite_nt, ite_ne, eq_self, implies_true, forall_const, exI, nsite, freeAt, execI, Opd.ev, tget, tins, tput, keepL, sitesOf, List.map_cons, List.map_nil, List.sum_cons, List.sum_nil, List.length_cons, List.length_nil, List.replicate_zero, List.replicate_succ, List.append_nil, List.nil_append, List.cons_append, List.getElem?_cons_zero, List.getElem?_cons_succ, List.set_cons_zero, List.set_cons_succ, Nat.add_zero, Nat.zero_add, Nat.reduceAdd, Nat.reduceSub, Nat.reduceLT, Nat.reduceLeDiff, Nat.reduceEqDiff, Nat.reduceBEq, Nat.reduceMul, beq_self_eq_true, Bool.true_or, Bool.false_or, Bool.or_true, Bool.or_false, Bool.and_true, Bool.true_and, Bool.and_self, Bool.and_false, Bool.false_and, if_true, if_false, ite_true, ite_false, Bool.false_eq_true, Option.map_some, Option.map_none, and_self, and_true, true_and, and_false, false_and, true_or, or_true, false_or, or_false, not_true_eq_false, not_false_eq_true, List.drop_zero, List.drop_succ_cons, List.take_succ_cons, List.take_zero, ldA, stA, partA, faddrA, setAt, List.all_cons, List.all_nil, binA, arithA, shiftA, strA, unA, gSpan, gSkip, unG, ne_eq, Option.some.injEq, reduceCtorEq, decide_true, decide_false, elemsA, resA, resAll, resOne, enterA, decide_eq_true_eq, Bool.not_eq_true, Bool.decide_eq_true, List.isEmpty_nil, Bool.not_false, Bool.not_true, List.length_map, Bool.bne_false, Bool.bne_true, List.isEmpty_cons, List.getD_cons_zero, List.getD_cons_succ, List.getD_nil, ite_self, ↓reduceIte, noRefL, clrA, gcT, gcA, gcIds, reach, rhoOf, heapOf, idxA, genB, newGen, renB, refsB, List.contains_cons, List.contains_nil, List.range_zero, List.range_succ, List.flatMap_cons, List.flatMap_nil, List.zip_cons_cons, List.zip_nil_left, List.zip_nil_right, Nat.not_lt_zero, cb_tidingslaw14_TopicWild, b_tidingslaw14_TopicWild, cr_tidingslaw14_TopicWild, x_tidingslaw14_TopicWild_k0, x_tidingslaw14_TopicWild_l9, intsV, bytesV, propsV, propV, propC, bytesOf_map, h1, h2, h3, c0, c1, c2, hkz, hb, g0, z0, byteV, q_wakes14C]
      · simp -implicitDefEqProofs only [EVS0, EVS1, EVS2, EVS3, EVS4, EVS5, EVS6, EVS7, ite_tf, ite_ft, ite_tft, ite_ftf, ite_list, ite_tt, ite_ee, ite_nt, ite_ne, eq_self, implies_true, forall_const, exI, nsite, freeAt, execI, Opd.ev, tget, tins, tput, keepL, sitesOf, List.map_cons, List.map_nil, List.sum_cons, List.sum_nil, List.length_cons, List.length_nil, List.replicate_zero, List.replicate_succ, List.append_nil, List.nil_append, List.cons_append, List.getElem?_cons_zero, List.getElem?_cons_succ, List.set_cons_zero, List.set_cons_succ, Nat.add_zero, Nat.zero_add, Nat.reduceAdd, Nat.reduceSub, Nat.reduceLT, Nat.reduceLeDiff, Nat.reduceEqDiff, Nat.reduceBEq, Nat.reduceMul, beq_self_eq_true, Bool.true_or, Bool.false_or, Bool.or_true, Bool.or_false, Bool.and_true, Bool.true_and, Bool.and_self, Bool.and_false, Bool.false_and, if_true, if_false, ite_true, ite_false, Bool.false_eq_true, Option.map_some, Option.map_none, and_self, and_true, true_and, and_false, false_and, true_or, or_true, false_or, or_false, not_true_eq_false, not_false_eq_true, List.drop_zero, List.drop_succ_cons, List.take_succ_cons, List.take_zero, ldA, stA, partA, faddrA, setAt, List.all_cons, List.all_nil, binA, arithA, shiftA, strA, unA, gSpan, gSkip, unG, ne_eq, Option.some.injEq, reduceCtorEq, decide_true, decide_false, elemsA, resA, resAll, resOne, enterA, decide_eq_true_eq, Bool.not_eq_true, Bool.decide_eq_true, List.isEmpty_nil, Bool.not_false, Bool.not_true, List.length_map, Bool.bne_false, Bool.bne_true, List.isEmpty_cons, List.getD_cons_zero, List.getD_cons_succ, List.getD_nil, ite_self, ↓reduceIte, noRefL, clrA, gcT, gcA, gcIds, reach, rhoOf, heapOf, idxA, genB, newGen, renB, refsB, List.contains_cons, List.contains_nil, List.range_zero, List.range_succ, List.flatMap_cons, List.flatMap_nil, List.zip_cons_cons, List.zip_nil_left, List.zip_nil_right, Nat.not_lt_zero, cb_tidingslaw14_TopicWild, b_tidingslaw14_TopicWild, cr_tidingslaw14_TopicWild, x_tidingslaw14_TopicWild_k0, x_tidingslaw14_TopicWild_l9, intsV, bytesV, propsV, propV, propC, bytesOf_map, h1, h2, h3, c0, c1, c2, hkz, hb, g0, z0, byteV, q_wakes14C]
theorem q_wildl (s : List UInt8) (hN : nameB s = true) (k : Nat) (hk : k < (splitL s).length) : ∀ (r : List (List UInt8)) (i : Nat) (t u : List UInt8), (splitL s).drop i = r → t ++ restL i ((plusM s k).drop i) = inter (plusM s k) →
    ((i ≤ k ∧ u = [] ∧ t ++ restL i ((hashM s k).drop i) = inter (hashM s k)) ∨ (k < i ∧ u = inter (hashM s k))) →
    K_tidingslaw14_TopicWild_l9 0 [(8, .int .i64 i), (7, .str u), (6, .str t), (5, .lst false ((splitL s).map AVal.str)), (1, .int .i64 k), (0, .str s)] [] = some (.bool true, [])
  | [], i, t, u, h, ht, hu => by
    have hi : k < i := by have := List.drop_eq_nil_iff.1 h; omega
    have e : (plusM s k).drop i = [] := by rw [List.drop_eq_nil_iff]; have := List.drop_eq_nil_iff.1 h; simpa [plusM] using this
    rw [e, restL_nil, List.append_nil] at ht
    rcases hu with ⟨h1, _⟩ | ⟨_, hu⟩
    · omega
    · rw [ht, hu]; exact q_wildEnd s hN k hk i h
  | x :: r, i, t, u, h, ht, hu => by
    obtain ⟨n1, n2, n3, n4⟩ := name_levels hN
    have hd := drop_at h
    have hsl := split_len s
    have hcl := List.count_le_length (a := (47 : UInt8)) (l := s)
    have h1 : (i : Int) < (splitL s).length := by have := hd.2.2; omega
    have e1 := iad hd.1 AVal.str (k := 1) rfl
    have e3 := wrap_succ h1 (by omega)
    have hp := plusM_len s k n4
    have hh := hashM_len s k n4
    have z0 : ((0 : Nat) : Int) = 0 := rfl
    rw [plusM_drop h] at ht
    by_cases hik : i = k
    · rw [if_pos hik] at ht
      have hu : u = [] ∧ t ++ restL i [[35]] = inter (hashM s k) := by
        rcases hu with ⟨_, hu1, hu2⟩ | ⟨hu1, _⟩
        · have e9 : (hashM s k).drop i = [[35]] := by rw [hik]; exact hashM_at (by omega)
          rw [e9] at hu2; exact ⟨hu1, hu2⟩
        · omega
      have hq : ((i : Int) == (k : Int)) = true := by rw [beq_iff_eq, hik]
      cases i with
      | zero =>
        rw [restL_zero, ← List.append_assoc] at ht
        have hu2 : t ++ [35] = inter (hashM s k) := by have := hu.2; simpa [restL, joinL] using this
        have ih := q_wildl s hN k hk r 1 (t ++ [43]) (inter (hashM s k)) hd.2.1 ht (Or.inr ⟨by omega, rfl⟩)
        rw [← hu2] at ih
        have hj : t.length + 1 ≤ 9223372036854775807 := by
          have := congrArg List.length ht; simp only [List.length_append, List.length_cons, List.length_nil] at this; omega
        rw [z0] at e1 e3 hq
        have h2 : ¬ ((0 : Int) > 0) := by decide
        have h5 : (0 : Int) < (splitL s).length := by omega
        generalize splitL s = L at *
        unfold K_tidingslaw14_TopicWild_l9 at ih ⊢
        rw [evL_eq]
        simp -implicitDefEqProofs only [EVS0, EVS1, EVS2, EVS3, EVS4, EVS5, EVS6, EVS7, ite_tf, ite_ft, ite_tft, ite_ftf, ite_list, ite_tt, ite_ee, ite_nt, ite_ne, eq_self, implies_true, forall_const, exI, nsite, freeAt, execI, Opd.ev, tget, tins, tput, keepL, sitesOf, List.map_cons, List.map_nil, List.sum_cons, List.sum_nil, List.length_cons, List.length_nil, List.replicate_zero, List.replicate_succ, List.append_nil, List.nil_append, List.cons_append, List.getElem?_cons_zero, List.getElem?_cons_succ, List.set_cons_zero, List.set_cons_succ, Nat.add_zero, Nat.zero_add, Nat.reduceAdd, Nat.reduceSub, Nat.reduceLT, Nat.reduceLeDiff, Nat.reduceEqDiff, Nat.reduceBEq, Nat.reduceMul, beq_self_eq_true, Bool.true_or, Bool.false_or, Bool.or_true, Bool.or_false, Bool.and_true, Bool.true_and, Bool.and_self, Bool.and_false, Bool.false_and, if_true, if_false, ite_true, ite_false, Bool.false_eq_true, Option.map_some, Option.map_none, and_self, and_true, true_and, and_false, false_and, true_or, or_true, false_or, or_false, not_true_eq_false, not_false_eq_true, List.drop_zero, List.drop_succ_cons, List.take_succ_cons, List.take_zero, ldA, stA, partA, faddrA, setAt, List.all_cons, List.all_nil, binA, arithA, shiftA, strA, unA, gSpan, gSkip, unG, ne_eq, Option.some.injEq, reduceCtorEq, decide_true, decide_false, elemsA, resA, resAll, resOne, enterA, decide_eq_true_eq, Bool.not_eq_true, Bool.decide_eq_true, List.isEmpty_nil, Bool.not_false, Bool.not_true, List.length_map, Bool.bne_false, Bool.bne_true, List.isEmpty_cons, List.getD_cons_zero, List.getD_cons_succ, List.getD_nil, ite_self, ↓reduceIte, noRefL, clrA, gcT, gcA, gcIds, reach, rhoOf, heapOf, idxA, genB, newGen, renB, refsB, List.contains_cons, List.contains_nil, List.range_zero, List.range_succ, List.flatMap_cons, List.flatMap_nil, List.zip_cons_cons, List.zip_nil_left, List.zip_nil_right, Nat.not_lt_zero, cb_tidingslaw14_TopicWild, b_tidingslaw14_TopicWild, cr_tidingslaw14_TopicWild, x_tidingslaw14_TopicWild_k0, x_tidingslaw14_TopicWild_l9, intsV, bytesV, propsV, propV, propC, bytesOf_map, z0, h5, h2, e1, e3, hj, hq]
        exact ih
      | succ i =>
        rw [restL_cons] at ht
        have ht2 : t ++ [47] ++ [43] ++ restL (i + 2) ((plusM s k).drop (i + 2)) = inter (plusM s k) := by rw [← ht]; simp
        have hu2 : t ++ [47] ++ [35] = inter (hashM s k) := by have := hu.2; simpa [restL, joinL] using this
        have ih := q_wildl s hN k hk r (i + 2) (t ++ [47] ++ [43]) (inter (hashM s k)) hd.2.1 ht2 (Or.inr ⟨by omega, rfl⟩)
        rw [← hu2] at ih
        have hj0 : t.length + 1 + 1 ≤ 8192 := by
          have := congrArg List.length ht2; simp only [List.length_append, List.length_cons, List.length_nil] at this; omega
        have hj1 : t.length + 1 ≤ 9223372036854775807 := by omega
        have hj2 : (t ++ [47]).length + 1 ≤ 9223372036854775807 := by simp only [List.length_append, List.length_cons, List.length_nil]; omega
        have h2 : ((i + 1 : Nat) : Int) > 0 := by omega
        generalize splitL s = L at *
        unfold K_tidingslaw14_TopicWild_l9 at ih ⊢
        rw [evL_eq]
        simp -implicitDefEqProofs only [EVS0, EVS1, EVS2, EVS3, EVS4, EVS5, EVS6, EVS7, ite_tf, ite_ft, ite_tft, ite_ftf, ite_list, ite_tt, ite_ee, ite_nt, ite_ne, eq_self, implies_true, forall_const, exI, nsite, freeAt, execI, Opd.ev, tget, tins, tput, keepL, sitesOf, List.map_cons, List.map_nil, List.sum_cons, List.sum_nil, List.length_cons, List.length_nil, List.replicate_zero, List.replicate_succ, List.append_nil, List.nil_append, List.cons_append, List.getElem?_cons_zero, List.getElem?_cons_succ, List.set_cons_zero, List.set_cons_succ, Nat.add_zero, Nat.zero_add, Nat.reduceAdd, Nat.reduceSub, Nat.reduceLT, Nat.reduceLeDiff, Nat.reduceEqDiff, Nat.reduceBEq, Nat.reduceMul, beq_self_eq_true, Bool.true_or, Bool.false_or, Bool.or_true, Bool.or_false, Bool.and_true, Bool.true_and, Bool.and_self, Bool.and_false, Bool.false_and, if_true, if_false, ite_true, ite_false, Bool.false_eq_true, Option.map_some, Option.map_none, and_self, and_true, true_and, and_false, false_and, true_or, or_true, false_or, or_false, not_true_eq_false, not_false_eq_true, List.drop_zero, List.drop_succ_cons, List.take_succ_cons, List.take_zero, ldA, stA, partA, faddrA, setAt, List.all_cons, List.all_nil, binA, arithA, shiftA, strA, unA, gSpan, gSkip, unG, ne_eq, Option.some.injEq, reduceCtorEq, decide_true, decide_false, elemsA, resA, resAll, resOne, enterA, decide_eq_true_eq, Bool.not_eq_true, Bool.decide_eq_true, List.isEmpty_nil, Bool.not_false, Bool.not_true, List.length_map, Bool.bne_false, Bool.bne_true, List.isEmpty_cons, List.getD_cons_zero, List.getD_cons_succ, List.getD_nil, ite_self, ↓reduceIte, noRefL, clrA, gcT, gcA, gcIds, reach, rhoOf, heapOf, idxA, genB, newGen, renB, refsB, List.contains_cons, List.contains_nil, List.range_zero, List.range_succ, List.flatMap_cons, List.flatMap_nil, List.zip_cons_cons, List.zip_nil_left, List.zip_nil_right, Nat.not_lt_zero, cb_tidingslaw14_TopicWild, b_tidingslaw14_TopicWild, cr_tidingslaw14_TopicWild, x_tidingslaw14_TopicWild_k0, x_tidingslaw14_TopicWild_l9, intsV, bytesV, propsV, propV, propC, bytesOf_map, h1, h2, e1, e3, hj1, hj2, hq]
        exact ih
    · rw [if_neg hik] at ht
      have hq : ((i : Int) == (k : Int)) = false := by rw [beq_eq_false_iff_ne]; omega
      have hu : (i + 1 ≤ k ∧ u = [] ∧ t ++ restL i (x :: (hashM s k).drop (i + 1)) = inter (hashM s k)) ∨ (k < i + 1 ∧ u = inter (hashM s k)) := by
        rcases hu with ⟨hu0, hu1, hu2⟩ | ⟨hu1, hu2⟩
        · rw [hashM_drop h (by omega)] at hu2; exact Or.inl ⟨by omega, hu1, hu2⟩
        · exact Or.inr ⟨by omega, hu2⟩
      cases i with
      | zero =>
        rw [restL_zero, ← List.append_assoc] at ht
        rw [restL_zero, ← List.append_assoc] at hu
        have ih := q_wildl s hN k hk r 1 (t ++ x) u hd.2.1 ht hu
        have hj : t.length + x.length ≤ 9223372036854775807 := by
          have := congrArg List.length ht; simp only [List.length_append] at this; omega
        rw [z0] at e1 e3 hq
        have h2 : ¬ ((0 : Int) > 0) := by decide
        have h5 : (0 : Int) < (splitL s).length := by omega
        generalize splitL s = L at *
        unfold K_tidingslaw14_TopicWild_l9 at ih ⊢
        rw [evL_eq]
        simp -implicitDefEqProofs only [EVS0, EVS1, EVS2, EVS3, EVS4, EVS5, EVS6, EVS7, ite_tf, ite_ft, ite_tft, ite_ftf, ite_list, ite_tt, ite_ee, ite_nt, ite_ne, eq_self, implies_true, forall_const, exI, nsite, freeAt, execI, Opd.ev, tget, tins, tput, keepL, sitesOf, List.map_cons, List.map_nil, List.sum_cons, List.sum_nil, List.length_cons, List.length_nil, List.replicate_zero, List.replicate_succ, List.append_nil, List.nil_append, List.cons_append, List.getElem?_cons_zero, List.getElem?_cons_succ, List.set_cons_zero, List.set_cons_succ, Nat.add_zero, Nat.zero_add, Nat.reduceAdd, Nat.reduceSub, Nat.reduceLT, Nat.reduceLeDiff, Nat.reduceEqDiff, Nat.reduceBEq, Nat.reduceMul, beq_self_eq_true, Bool.true_or, Bool.false_or, Bool.or_true, Bool.or_false, Bool.and_true, Bool.true_and, Bool.and_self, Bool.and_false, Bool.false_and, if_true, if_false, ite_true, ite_false, Bool.false_eq_true, Option.map_some, Option.map_none, and_self, and_true, true_and, and_false, false_and, true_or, or_true, false_or, or_false, not_true_eq_false, not_false_eq_true, List.drop_zero, List.drop_succ_cons, List.take_succ_cons, List.take_zero, ldA, stA, partA, faddrA, setAt, List.all_cons, List.all_nil, binA, arithA, shiftA, strA, unA, gSpan, gSkip, unG, ne_eq, Option.some.injEq, reduceCtorEq, decide_true, decide_false, elemsA, resA, resAll, resOne, enterA, decide_eq_true_eq, Bool.not_eq_true, Bool.decide_eq_true, List.isEmpty_nil, Bool.not_false, Bool.not_true, List.length_map, Bool.bne_false, Bool.bne_true, List.isEmpty_cons, List.getD_cons_zero, List.getD_cons_succ, List.getD_nil, ite_self, ↓reduceIte, noRefL, clrA, gcT, gcA, gcIds, reach, rhoOf, heapOf, idxA, genB, newGen, renB, refsB, List.contains_cons, List.contains_nil, List.range_zero, List.range_succ, List.flatMap_cons, List.flatMap_nil, List.zip_cons_cons, List.zip_nil_left, List.zip_nil_right, Nat.not_lt_zero, cb_tidingslaw14_TopicWild, b_tidingslaw14_TopicWild, cr_tidingslaw14_TopicWild, x_tidingslaw14_TopicWild_k0, x_tidingslaw14_TopicWild_l9, intsV, bytesV, propsV, propV, propC, bytesOf_map, z0, h5, h2, e1, e3, hj, hq]
        exact ih
      | succ i =>
        rw [restL_cons] at ht
        rw [restL_cons] at hu
        have ht2 : t ++ [47] ++ x ++ restL (i + 2) ((plusM s k).drop (i + 2)) = inter (plusM s k) := by rw [← ht]; simp
        have hu2 : (i + 2 ≤ k ∧ u = [] ∧ t ++ [47] ++ x ++ restL (i + 2) ((hashM s k).drop (i + 2)) = inter (hashM s k)) ∨ (k < i + 2 ∧ u = inter (hashM s k)) := by
          rcases hu with ⟨hu0, hu1, hu2⟩ | hu
          · exact Or.inl ⟨hu0, hu1, by rw [← hu2]; simp⟩
          · exact Or.inr hu
        have ih := q_wildl s hN k hk r (i + 2) (t ++ [47] ++ x) u hd.2.1 ht2 hu2
        have hj0 : t.length + 1 + x.length ≤ 8192 := by
          have := congrArg List.length ht2; simp only [List.length_append, List.length_cons, List.length_nil] at this; omega
        have hj1 : t.length + 1 ≤ 9223372036854775807 := by omega
        have hj2 : (t ++ [47]).length + x.length ≤ 9223372036854775807 := by simp only [List.length_append, List.length_cons, List.length_nil]; omega
        have h2 : ((i + 1 : Nat) : Int) > 0 := by omega
        generalize splitL s = L at *
        unfold K_tidingslaw14_TopicWild_l9 at ih ⊢
        rw [evL_eq]
        simp -implicitDefEqProofs only [EVS0, EVS1, EVS2, EVS3, EVS4, EVS5, EVS6, EVS7, ite_tf, ite_ft, ite_tft, ite_ftf, ite_list, ite_tt, ite_ee, ite_nt, ite_ne, eq_self, implies_true, forall_const, exI, nsite, freeAt, execI, Opd.ev, tget, tins, tput, keepL, sitesOf, List.map_cons, List.map_nil, List.sum_cons, List.sum_nil, List.length_cons, List.length_nil, List.replicate_zero, List.replicate_succ, List.append_nil, List.nil_append, List.cons_append, List.getElem?_cons_zero, List.getElem?_cons_succ, List.set_cons_zero, List.set_cons_succ, Nat.add_zero, Nat.zero_add, Nat.reduceAdd, Nat.reduceSub, Nat.reduceLT, Nat.reduceLeDiff, Nat.reduceEqDiff, Nat.reduceBEq, Nat.reduceMul, beq_self_eq_true, Bool.true_or, Bool.false_or, Bool.or_true, Bool.or_false, Bool.and_true, Bool.true_and, Bool.and_self, Bool.and_false, Bool.false_and, if_true, if_false, ite_true, ite_false, Bool.false_eq_true, Option.map_some, Option.map_none, and_self, and_true, true_and, and_false, false_and, true_or, or_true, false_or, or_false, not_true_eq_false, not_false_eq_true, List.drop_zero, List.drop_succ_cons, List.take_succ_cons, List.take_zero, ldA, stA, partA, faddrA, setAt, List.all_cons, List.all_nil, binA, arithA, shiftA, strA, unA, gSpan, gSkip, unG, ne_eq, Option.some.injEq, reduceCtorEq, decide_true, decide_false, elemsA, resA, resAll, resOne, enterA, decide_eq_true_eq, Bool.not_eq_true, Bool.decide_eq_true, List.isEmpty_nil, Bool.not_false, Bool.not_true, List.length_map, Bool.bne_false, Bool.bne_true, List.isEmpty_cons, List.getD_cons_zero, List.getD_cons_succ, List.getD_nil, ite_self, ↓reduceIte, noRefL, clrA, gcT, gcA, gcIds, reach, rhoOf, heapOf, idxA, genB, newGen, renB, refsB, List.contains_cons, List.contains_nil, List.range_zero, List.range_succ, List.flatMap_cons, List.flatMap_nil, List.zip_cons_cons, List.zip_nil_left, List.zip_nil_right, Nat.not_lt_zero, cb_tidingslaw14_TopicWild, b_tidingslaw14_TopicWild, cr_tidingslaw14_TopicWild, x_tidingslaw14_TopicWild_k0, x_tidingslaw14_TopicWild_l9, intsV, bytesV, propsV, propV, propC, bytesOf_map, h1, h2, e1, e3, hj1, hj2, hq]
        exact ih
theorem q_wild (s : List UInt8) (at0 : Int) (hs : s.length * 16 ≤ 140737488355328 - 64) (ha : -9223372036854775808 ≤ at0 ∧ at0 ≤ 9223372036854775807) : E 4 [.str s, .int .i64 at0] [] = some (.bool true, []) := by
  rw [E_eq (by rfl) cf_tidingslaw14_TopicWild]
  cases hN : nameB s
  · have c0 := fun σ site own view => q_matchC σ site own view s s hs
    have hm : matchB s s = false := by simp [matchB, hN]
    rw [hm] at c0
    simp -implicitDefEqProofs only [EVS0, EVS1, EVS2, EVS3, EVS4, EVS5, EVS6, EVS7, ite_tf, ite_ft, ite_tft, ite_ftf, ite_list, ite_tt, ite_ee, ite_nt, ite_ne, eq_self, implies_true, forall_const, exI, nsite, freeAt, execI, Opd.ev, tget, tins, tput, keepL, sitesOf, List.map_cons, List.map_nil, List.sum_cons, List.sum_nil, List.length_cons, List.length_nil, List.replicate_zero, List.replicate_succ, List.append_nil, List.nil_append, List.cons_append, List.getElem?_cons_zero, List.getElem?_cons_succ, List.set_cons_zero, List.set_cons_succ, Nat.add_zero, Nat.zero_add, Nat.reduceAdd, Nat.reduceSub, Nat.reduceLT, Nat.reduceLeDiff, Nat.reduceEqDiff, Nat.reduceBEq, Nat.reduceMul, beq_self_eq_true, Bool.true_or, Bool.false_or, Bool.or_true, Bool.or_false, Bool.and_true, Bool.true_and, Bool.and_self, Bool.and_false, Bool.false_and, if_true, if_false, ite_true, ite_false, Bool.false_eq_true, Option.map_some, Option.map_none, and_self, and_true, true_and, and_false, false_and, true_or, or_true, false_or, or_false, not_true_eq_false, not_false_eq_true, List.drop_zero, List.drop_succ_cons, List.take_succ_cons, List.take_zero, ldA, stA, partA, faddrA, setAt, List.all_cons, List.all_nil, binA, arithA, shiftA, strA, unA, gSpan, gSkip, unG, ne_eq, Option.some.injEq, reduceCtorEq, decide_true, decide_false, elemsA, resA, resAll, resOne, enterA, decide_eq_true_eq, Bool.not_eq_true, Bool.decide_eq_true, List.isEmpty_nil, Bool.not_false, Bool.not_true, List.length_map, Bool.bne_false, Bool.bne_true, List.isEmpty_cons, List.getD_cons_zero, List.getD_cons_succ, List.getD_nil, ite_self, ↓reduceIte, noRefL, clrA, gcT, gcA, gcIds, reach, rhoOf, heapOf, idxA, genB, newGen, renB, refsB, List.contains_cons, List.contains_nil, List.range_zero, List.range_succ, List.flatMap_cons, List.flatMap_nil, List.zip_cons_cons, List.zip_nil_left, List.zip_nil_right, Nat.not_lt_zero, cb_tidingslaw14_TopicWild, b_tidingslaw14_TopicWild, cr_tidingslaw14_TopicWild, x_tidingslaw14_TopicWild_k0, x_tidingslaw14_TopicWild_l9, intsV, bytesV, propsV, propV, propC, bytesOf_map, q_nameC, hN, c0, q_wakes14C]
  · have hl1 := fun σ site own view => q_levelsC σ site own view s (by omega)
    obtain ⟨a, ha0, ha1⟩ : ∃ a : Int, a = (if at0 < 0 then -(at0 + 1) else at0) ∧ 0 ≤ a := ⟨_, rfl, by split <;> omega⟩
    have hlen := split_len s
    have hl0 : ¬ (((splitL s).length : Int) = 0) := by omega
    obtain ⟨k, hk1, hk2⟩ : ∃ k : Nat, a.tmod ((splitL s).length : Int) = (k : Int) ∧ k < (splitL s).length := by
      refine ⟨(a.tmod ((splitL s).length : Int)).toNat, ?_, ?_⟩
      · rw [Int.toNat_of_nonneg (Int.tmod_nonneg _ ha1)]
      · have h1 := Int.tmod_lt_of_pos a (b := ((splitL s).length : Int)) (by omega)
        have h2 := Int.tmod_nonneg ((splitL s).length : Int) ha1
        omega
    have key := q_wildl s hN k hk2 (splitL s) 0 [] [] rfl (by simp [restL, inter]) (Or.inl ⟨by omega, rfl, by simp [restL, inter]⟩)
    have z0 : ((0 : Nat) : Int) = 0 := rfl
    rw [z0] at key
    generalize splitL s = L at *
    unfold K_tidingslaw14_TopicWild_l9 at key
    by_cases hneg : at0 < 0
    · rw [if_pos hneg] at ha0
      have w1 : IntKind.i64.wrap (at0 + 1) = at0 + 1 := wrap_nat (by omega) (by omega)
      have w2 : IntKind.i64.wrap (0 - (at0 + 1)) = a := by rw [wrap_nat (by omega) (by omega)]; omega
      simp -implicitDefEqProofs only [EVS0, EVS1, EVS2, EVS3, EVS4, EVS5, EVS6, EVS7, ite_tf, ite_ft, ite_tft, ite_ftf, ite_list, ite_tt, ite_ee, ite_nt, ite_ne, eq_self, implies_true, forall_const, exI, nsite, freeAt, execI, Opd.ev, tget, tins, tput, keepL, sitesOf, List.map_cons, List.map_nil, List.sum_cons, List.sum_nil, List.length_cons, List.length_nil, List.replicate_zero, List.replicate_succ, List.append_nil, List.nil_append, List.cons_append, List.getElem?_cons_zero, List.getElem?_cons_succ, List.set_cons_zero, List.set_cons_succ, Nat.add_zero, Nat.zero_add, Nat.reduceAdd, Nat.reduceSub, Nat.reduceLT, Nat.reduceLeDiff, Nat.reduceEqDiff, Nat.reduceBEq, Nat.reduceMul, beq_self_eq_true, Bool.true_or, Bool.false_or, Bool.or_true, Bool.or_false, Bool.and_true, Bool.true_and, Bool.and_self, Bool.and_false, Bool.false_and, if_true, if_false, ite_true, ite_false, Bool.false_eq_true, Option.map_some, Option.map_none, and_self, and_true, true_and, and_false, false_and, true_or, or_true, false_or, or_false, not_true_eq_false, not_false_eq_true, List.drop_zero, List.drop_succ_cons, List.take_succ_cons, List.take_zero, ldA, stA, partA, faddrA, setAt, List.all_cons, List.all_nil, binA, arithA, shiftA, strA, unA, gSpan, gSkip, unG, ne_eq, Option.some.injEq, reduceCtorEq, decide_true, decide_false, elemsA, resA, resAll, resOne, enterA, decide_eq_true_eq, Bool.not_eq_true, Bool.decide_eq_true, List.isEmpty_nil, Bool.not_false, Bool.not_true, List.length_map, Bool.bne_false, Bool.bne_true, List.isEmpty_cons, List.getD_cons_zero, List.getD_cons_succ, List.getD_nil, ite_self, ↓reduceIte, noRefL, clrA, gcT, gcA, gcIds, reach, rhoOf, heapOf, idxA, genB, newGen, renB, refsB, List.contains_cons, List.contains_nil, List.range_zero, List.range_succ, List.flatMap_cons, List.flatMap_nil, List.zip_cons_cons, List.zip_nil_left, List.zip_nil_right, Nat.not_lt_zero, cb_tidingslaw14_TopicWild, b_tidingslaw14_TopicWild, cr_tidingslaw14_TopicWild, x_tidingslaw14_TopicWild_k0, x_tidingslaw14_TopicWild_l9, intsV, bytesV, propsV, propV, propC, bytesOf_map, q_nameC, hN, hl1, hneg, w1, w2, hk1, hl0]
      exact key
    · rw [if_neg hneg] at ha0
      subst ha0
      simp -implicitDefEqProofs only [EVS0, EVS1, EVS2, EVS3, EVS4, EVS5, EVS6, EVS7, ite_tf, ite_ft, ite_tft, ite_ftf, ite_list, ite_tt, ite_ee, ite_nt, ite_ne, eq_self, implies_true, forall_const, exI, nsite, freeAt, execI, Opd.ev, tget, tins, tput, keepL, sitesOf, List.map_cons, List.map_nil, List.sum_cons, List.sum_nil, List.length_cons, List.length_nil, List.replicate_zero, List.replicate_succ, List.append_nil, List.nil_append, List.cons_append, List.getElem?_cons_zero, List.getElem?_cons_succ, List.set_cons_zero, List.set_cons_succ, Nat.add_zero, Nat.zero_add, Nat.reduceAdd, Nat.reduceSub, Nat.reduceLT, Nat.reduceLeDiff, Nat.reduceEqDiff, Nat.reduceBEq, Nat.reduceMul, beq_self_eq_true, Bool.true_or, Bool.false_or, Bool.or_true, Bool.or_false, Bool.and_true, Bool.true_and, Bool.and_self, Bool.and_false, Bool.false_and, if_true, if_false, ite_true, ite_false, Bool.false_eq_true, Option.map_some, Option.map_none, and_self, and_true, true_and, and_false, false_and, true_or, or_true, false_or, or_false, not_true_eq_false, not_false_eq_true, List.drop_zero, List.drop_succ_cons, List.take_succ_cons, List.take_zero, ldA, stA, partA, faddrA, setAt, List.all_cons, List.all_nil, binA, arithA, shiftA, strA, unA, gSpan, gSkip, unG, ne_eq, Option.some.injEq, reduceCtorEq, decide_true, decide_false, elemsA, resA, resAll, resOne, enterA, decide_eq_true_eq, Bool.not_eq_true, Bool.decide_eq_true, List.isEmpty_nil, Bool.not_false, Bool.not_true, List.length_map, Bool.bne_false, Bool.bne_true, List.isEmpty_cons, List.getD_cons_zero, List.getD_cons_succ, List.getD_nil, ite_self, ↓reduceIte, noRefL, clrA, gcT, gcA, gcIds, reach, rhoOf, heapOf, idxA, genB, newGen, renB, refsB, List.contains_cons, List.contains_nil, List.range_zero, List.range_succ, List.flatMap_cons, List.flatMap_nil, List.zip_cons_cons, List.zip_nil_left, List.zip_nil_right, Nat.not_lt_zero, cb_tidingslaw14_TopicWild, b_tidingslaw14_TopicWild, cr_tidingslaw14_TopicWild, x_tidingslaw14_TopicWild_k0, x_tidingslaw14_TopicWild_l9, intsV, bytesV, propsV, propV, propC, bytesOf_map, q_nameC, hN, hl1, hneg, hk1, hl0]
      exact key
end Go.Proofs.YtochhdiilicpgaaDoor
