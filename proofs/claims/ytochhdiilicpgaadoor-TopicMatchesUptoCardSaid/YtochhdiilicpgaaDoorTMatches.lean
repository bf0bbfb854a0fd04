/- TopicMatches, by evaluation. -/
import Derived.Test.YtochhdiilicpgaaDoorTForms
import Derived.Test.YtochhdiilicpgaaDoorCSlices
import Derived.Test.YtochhdiilicpgaaDoorRows
import Derived.Deep.Slices
namespace Go.Proofs.YtochhdiilicpgaaDoor
set_option linter.unusedSimpArgs false
set_option linter.unusedVariables false
set_option maxHeartbeats 4000000
set_option maxRecDepth 10000
section
theorem call_cap {O : Oracle} {byref : Nat → Bool} {σ : AHeap} {t site f own : Nat} {view : Bool} {args vs vs' : List AVal} {cs cs' : List AVal} {r : AVal} (hs : σ[t]? = some (.var cs)) (hc : noRefL cs = true) (hc' : noRefL cs' = true) (hb : byref f = false) (hff : freeFrom σ site own = true)
    (hsh : showAs σ args = some (vs, [])) (href : refsL vs = [t]) (hren : ∀ ρ : Rho, ρ t 0 = some (0, 0) → renL ρ vs = vs') (hn : noRef r = true) (hv : viewR [.var cs'] r = some (r, []))
    (h : O f vs' [.var cs] = some (r, [.var cs'])) : callG O byref σ site f own view args = some (r, σ.set t (.var cs'), { any := true }) := by
  have hd : σ.getD t .free = .var cs := by simp [List.getD_eq_getElem?_getD, hs]
  have hf0 : freezeA σ [] = σ := rfl
  unfold callG showIf
  rw [hb]
  simp only [Bool.false_eq_true, if_false, hsh, hf0, href, reach_one hs hc]
  unfold callI
  have hall : ([t].all fun t => okB (σ.getD t .free)) = true := by simp [List.all_cons, List.all_nil, hs, okB]
  rw [if_pos hall]
  have hρ : rhoOf σ 0 [t] t 0 = some (0, 0) := by simp [rhoOf, idxA, hs, genB, newGen]
  have hheap : heapOf σ 0 [t] (rhoOf σ 0 [t]) [t] 0 = [.var cs] := by
    simp only [heapOf, hd, newGen, genB, renB, (noRefL_spec _ cs hc).1]
  rw [hren _ hρ, hheap, h]
  have hask : askO view [t].length (some (r, [.var cs'])) = some (r, [.var cs']) := by
    unfold askO
    split
    · have hnp : ∀ x, r ≠ .pan x := by rintro x rfl; simp [viewR, viewA, viewA1] at hv
      rw [show resV [t].length (some (r, [.var cs'])) = (match viewR [.var cs'] r with
        | some (r', ts) => match gcA [t].length [r'] (freezeA [.var cs'] ts) with
          | ([r''], σ') => some (r'', σ')
          | _ => none
        | none => none) from by cases r <;> first | rfl | exact absurd rfl (hnp _)]
      rw [hv]
      simp only [List.length_cons, List.length_nil, Nat.zero_add, show freezeA [ABlk.var cs'] [] = [.var cs'] from rfl, gc_one hn hc']
    · rfl
  rw [hask]
  have hk : okBack σ [t] [.var cs'] 0 = true := by
    simp [okBack, okB, hs, sameKind, genB]
  simp only [backG, List.isEmpty_cons, Bool.false_and, Bool.false_eq_true, if_false, List.length_cons, List.length_nil, Nat.zero_add, Nat.add_zero, Nat.le_add_right, Nat.le_refl, decide_true, hk, hff, Bool.and_self, if_true, layBack, tgtBack, List.getD_cons_zero, genBack, List.getElem?_cons_zero, hd, genB, renB, (noRef_spec _ r hn).1, (noRefL_spec _ cs' hc').1]
end
theorem out_int (z : Int) (s : List UInt8) (σ : AHeap) : outA 1 (.var [.str s] :: σ) (.int .i64 z) = some (.int .i64 z, [.var [.str s]]) := out_one rfl rfl
theorem out_bool (z : Bool) (s : List UInt8) (σ : AHeap) : outA 1 (.var [.str s] :: σ) (.bool z) = some (.bool z, [.var [.str s]]) := out_one rfl rfl
theorem q_any1 (f s : List UInt8) (hf : f.length * 16 ≤ 140737488355328 - 64) : E 26 [.str f, .ref 0 0] [.var [.str s]] = some (.bool (matchB f s), [.var [.str s]]) := by
  rw [E_eq (by rfl) cf_topic_Any_1]
  have h := fun σ site own view => q_matchC σ site own view f s hf
  simp -implicitDefEqProofs only [EVS0, EVS1, EVS2, EVS3, EVS4, EVS5, EVS6, EVS7, ite_tf, ite_ft, ite_tft, ite_ftf, ite_list, ite_tt, ite_ee, ite_nt, ite_ne, eq_self, implies_true, forall_const, exI, nsite, freeAt, execI, Opd.ev, tget, tins, tput, keepL, sitesOf, List.map_cons, List.map_nil, List.sum_cons, List.sum_nil, List.length_cons, List.length_nil, List.replicate_zero, List.replicate_succ, List.append_nil, List.nil_append, List.cons_append, List.getElem?_cons_zero, List.getElem?_cons_succ, List.set_cons_zero, List.set_cons_succ, Nat.add_zero, Nat.zero_add, Nat.reduceAdd, Nat.reduceSub, Nat.reduceLT, Nat.reduceLeDiff, Nat.reduceEqDiff, Nat.reduceBEq, Nat.reduceMul, beq_self_eq_true, Bool.true_or, Bool.false_or, Bool.or_true, Bool.or_false, Bool.and_true, Bool.true_and, Bool.and_self, Bool.and_false, Bool.false_and, if_true, if_false, ite_true, ite_false, Bool.false_eq_true, Option.map_some, Option.map_none, and_self, and_true, true_and, and_false, false_and, true_or, or_true, false_or, or_false, not_true_eq_false, not_false_eq_true, List.drop_zero, List.drop_succ_cons, List.take_succ_cons, List.take_zero, ldA, stA, partA, faddrA, setAt, List.all_cons, List.all_nil, binA, arithA, shiftA, strA, unA, gSpan, gSkip, unG, ne_eq, Option.some.injEq, reduceCtorEq, decide_true, decide_false, elemsA, resA, resAll, resOne, enterA, decide_eq_true_eq, Bool.not_eq_true, Bool.decide_eq_true, List.isEmpty_nil, Bool.not_false, Bool.not_true, List.length_map, Bool.bne_false, Bool.bne_true, List.isEmpty_cons, List.getD_cons_zero, List.getD_cons_succ, List.getD_nil, ite_self, ↓reduceIte, noRefL, clrA, gcT, gcA, gcIds, reach, rhoOf, heapOf, idxA, genB, newGen, renB, refsB, List.contains_cons, List.contains_nil, List.range_zero, List.range_succ, List.flatMap_cons, List.flatMap_nil, List.zip_cons_cons, List.zip_nil_left, List.zip_nil_right, Nat.not_lt_zero, cb_topic_Any_1, b_topic_Any_1, cr_topic_Any_1, intsV, bytesV, propsV, propV, propC, bytesOf_map, h]
theorem q_any1C (σ : AHeap) (site t own : Nat) (view : Bool) (f s : List UInt8) (hf : f.length * 16 ≤ 140737488355328 - 64) (hs : σ[t]? = some (.var [.str s])) (hff : freeFrom σ site own = true) : callG E BY σ site 26 own view [.str f, .ref t 0] = some (.bool (matchB f s), σ.set t (.var [.str s]), { any := true }) :=
  call_cap hs rfl rfl (by kernel_rfl) hff rfl rfl (fun ρ h => by simp only [renL, renV, h]) rfl rfl (q_any1 f s hf)
theorem q_idxFl (L : List (List UInt8)) (s : List UInt8) (hL : L.length ≤ 9223372036854775807) (hx : ∀ x ∈ L, x.length * 16 ≤ 140737488355328 - 64) : ∀ (r : List (List UInt8)) (i : Nat), L.drop i = r →
    ∃ z, K_slices_IndexFunc_string_string_l2 1 [(8, .int .i64 i), (7, .int .i64 L.length), (1, .fn 26 [.ref 0 0]), (0, .lst false (L.map AVal.str))] [.var [.str s]] = some (.int .i64 z, [.var [.str s]]) ∧ decide (z ≥ 0) = r.any fun f => matchB f s
  | [], i, h => by
    have h1 := drop_nil h
    refine ⟨-1, ?_, by simp⟩
    unfold K_slices_IndexFunc_string_string_l2
    rw [evL_eq]
    simp -implicitDefEqProofs only [EVS0, EVS1, EVS2, EVS3, EVS4, EVS5, EVS6, EVS7, ite_tf, ite_ft, ite_tft, ite_ftf, ite_list, ite_tt, ite_ee, ite_nt, ite_ne, eq_self, implies_true, forall_const, exI, nsite, freeAt, execI, Opd.ev, tget, tins, tput, keepL, sitesOf, List.map_cons, List.map_nil, List.sum_cons, List.sum_nil, List.length_cons, List.length_nil, List.replicate_zero, List.replicate_succ, List.append_nil, List.nil_append, List.cons_append, List.getElem?_cons_zero, List.getElem?_cons_succ, List.set_cons_zero, List.set_cons_succ, Nat.add_zero, Nat.zero_add, Nat.reduceAdd, Nat.reduceSub, Nat.reduceLT, Nat.reduceLeDiff, Nat.reduceEqDiff, Nat.reduceBEq, Nat.reduceMul, beq_self_eq_true, Bool.true_or, Bool.false_or, Bool.or_true, Bool.or_false, Bool.and_true, Bool.true_and, Bool.and_self, Bool.and_false, Bool.false_and, if_true, if_false, ite_true, ite_false, Bool.false_eq_true, Option.map_some, Option.map_none, and_self, and_true, true_and, and_false, false_and, true_or, or_true, false_or, or_false, not_true_eq_false, not_false_eq_true, List.drop_zero, List.drop_succ_cons, List.take_succ_cons, List.take_zero, ldA, stA, partA, faddrA, setAt, List.all_cons, List.all_nil, binA, arithA, shiftA, strA, unA, gSpan, gSkip, unG, ne_eq, Option.some.injEq, reduceCtorEq, decide_true, decide_false, elemsA, resA, resAll, resOne, enterA, decide_eq_true_eq, Bool.not_eq_true, Bool.decide_eq_true, List.isEmpty_nil, Bool.not_false, Bool.not_true, List.length_map, Bool.bne_false, Bool.bne_true, List.isEmpty_cons, List.getD_cons_zero, List.getD_cons_succ, List.getD_nil, ite_self, ↓reduceIte, noRefL, clrA, gcT, gcA, gcIds, reach, rhoOf, heapOf, idxA, genB, newGen, renB, refsB, List.contains_cons, List.contains_nil, List.range_zero, List.range_succ, List.flatMap_cons, List.flatMap_nil, List.zip_cons_cons, List.zip_nil_left, List.zip_nil_right, Nat.not_lt_zero, cb_slices_IndexFunc_string_string, b_slices_IndexFunc_string_string, cr_slices_IndexFunc_string_string, x_slices_IndexFunc_string_string_k0, x_slices_IndexFunc_string_string_l2, intsV, bytesV, propsV, propV, propC, bytesOf_map, h1, out_int]
  | x :: r, i, h => by
    obtain ⟨z, ih, hz⟩ := q_idxFl L s hL hx r (i + 1) (drop_at h).2.1
    have h1 : (i : Int) < L.length := by have := (drop_at h).2.2; omega
    have e1 := iad (drop_at h).1 AVal.str (k := 1) rfl
    have e3 := wrap_succ h1 hL
    have hm : x ∈ L := List.mem_of_getElem? (drop_at h).1
    have hc := fun σ site t own view hs hff => q_any1C σ site t own view x s (hx x hm) hs hff
    unfold K_slices_IndexFunc_string_string_l2 at ih ⊢
    cases hb : matchB x s
    · refine ⟨z, ?_, by rw [hz]; simp [hb]⟩
      rw [evL_eq]
      simp -implicitDefEqProofs only [EVS0, EVS1, EVS2, EVS3, EVS4, EVS5, EVS6, EVS7, ite_tf, ite_ft, ite_tft, ite_ftf, ite_list, ite_tt, ite_ee, ite_nt, ite_ne, eq_self, implies_true, forall_const, exI, nsite, freeAt, execI, Opd.ev, tget, tins, tput, keepL, sitesOf, List.map_cons, List.map_nil, List.sum_cons, List.sum_nil, List.length_cons, List.length_nil, List.replicate_zero, List.replicate_succ, List.append_nil, List.nil_append, List.cons_append, List.getElem?_cons_zero, List.getElem?_cons_succ, List.set_cons_zero, List.set_cons_succ, Nat.add_zero, Nat.zero_add, Nat.reduceAdd, Nat.reduceSub, Nat.reduceLT, Nat.reduceLeDiff, Nat.reduceEqDiff, Nat.reduceBEq, Nat.reduceMul, beq_self_eq_true, Bool.true_or, Bool.false_or, Bool.or_true, Bool.or_false, Bool.and_true, Bool.true_and, Bool.and_self, Bool.and_false, Bool.false_and, if_true, if_false, ite_true, ite_false, Bool.false_eq_true, Option.map_some, Option.map_none, and_self, and_true, true_and, and_false, false_and, true_or, or_true, false_or, or_false, not_true_eq_false, not_false_eq_true, List.drop_zero, List.drop_succ_cons, List.take_succ_cons, List.take_zero, ldA, stA, partA, faddrA, setAt, List.all_cons, List.all_nil, binA, arithA, shiftA, strA, unA, gSpan, gSkip, unG, ne_eq, Option.some.injEq, reduceCtorEq, decide_true, decide_false, elemsA, resA, resAll, resOne, enterA, decide_eq_true_eq, Bool.not_eq_true, Bool.decide_eq_true, List.isEmpty_nil, Bool.not_false, Bool.not_true, List.length_map, Bool.bne_false, Bool.bne_true, List.isEmpty_cons, List.getD_cons_zero, List.getD_cons_succ, List.getD_nil, ite_self, ↓reduceIte, noRefL, clrA, gcT, gcA, gcIds, reach, rhoOf, heapOf, idxA, genB, newGen, renB, refsB, List.contains_cons, List.contains_nil, List.range_zero, List.range_succ, List.flatMap_cons, List.flatMap_nil, List.zip_cons_cons, List.zip_nil_left, List.zip_nil_right, Nat.not_lt_zero, cb_slices_IndexFunc_string_string, b_slices_IndexFunc_string_string, cr_slices_IndexFunc_string_string, x_slices_IndexFunc_string_string_k0, x_slices_IndexFunc_string_string_l2, intsV, bytesV, propsV, propV, propC, bytesOf_map, h1, e1, e3, hc, hb, freeFrom, out_int]
      exact ih
    · refine ⟨i, ?_, by simp [hb]⟩
      rw [evL_eq]
      simp -implicitDefEqProofs only [EVS0, EVS1, EVS2, EVS3, EVS4, EVS5, EVS6, EVS7, ite_tf, ite_ft, ite_tft, ite_ftf, ite_list, ite_tt, ite_ee, ite_nt, ite_ne, eq_self, implies_true, forall_const, exI, nsite, freeAt, execI, Opd.ev, tget, tins, tput, keepL, sitesOf, List.map_cons, List.map_nil, List.sum_cons, List.sum_nil, List.length_cons, List.length_nil, List.replicate_zero, List.replicate_succ, List.append_nil, List.nil_append, List.cons_append, List.getElem?_cons_zero, List.getElem?_cons_succ, List.set_cons_zero, List.set_cons_succ, Nat.add_zero, Nat.zero_add, Nat.reduceAdd, Nat.reduceSub, Nat.reduceLT, Nat.reduceLeDiff, Nat.reduceEqDiff, Nat.reduceBEq, Nat.reduceMul, beq_self_eq_true, Bool.true_or, Bool.false_or, Bool.or_true, Bool.or_false, Bool.and_true, Bool.true_and, Bool.and_self, Bool.and_false, Bool.false_and, if_true, if_false, ite_true, ite_false, Bool.false_eq_true, Option.map_some, Option.map_none, and_self, and_true, true_and, and_false, false_and, true_or, or_true, false_or, or_false, not_true_eq_false, not_false_eq_true, List.drop_zero, List.drop_succ_cons, List.take_succ_cons, List.take_zero, ldA, stA, partA, faddrA, setAt, List.all_cons, List.all_nil, binA, arithA, shiftA, strA, unA, gSpan, gSkip, unG, ne_eq, Option.some.injEq, reduceCtorEq, decide_true, decide_false, elemsA, resA, resAll, resOne, enterA, decide_eq_true_eq, Bool.not_eq_true, Bool.decide_eq_true, List.isEmpty_nil, Bool.not_false, Bool.not_true, List.length_map, Bool.bne_false, Bool.bne_true, List.isEmpty_cons, List.getD_cons_zero, List.getD_cons_succ, List.getD_nil, ite_self, ↓reduceIte, noRefL, clrA, gcT, gcA, gcIds, reach, rhoOf, heapOf, idxA, genB, newGen, renB, refsB, List.contains_cons, List.contains_nil, List.range_zero, List.range_succ, List.flatMap_cons, List.flatMap_nil, List.zip_cons_cons, List.zip_nil_left, List.zip_nil_right, Nat.not_lt_zero, cb_slices_IndexFunc_string_string, b_slices_IndexFunc_string_string, cr_slices_IndexFunc_string_string, x_slices_IndexFunc_string_string_k0, x_slices_IndexFunc_string_string_l2, intsV, bytesV, propsV, propV, propC, bytesOf_map, h1, e1, e3, hc, hb, freeFrom, out_int]
theorem q_idxF (L : List (List UInt8)) (s : List UInt8) (hL : L.length ≤ 9223372036854775807) (hx : ∀ x ∈ L, x.length * 16 ≤ 140737488355328 - 64) :
    ∃ z, E 35 [.lst false (L.map AVal.str), .fn 26 [.ref 0 0]] [.var [.str s]] = some (.int .i64 z, [.var [.str s]]) ∧ decide (z ≥ 0) = L.any fun f => matchB f s := by
  obtain ⟨z, h, hz⟩ := q_idxFl L s hL hx L 0 rfl
  refine ⟨z, ?_, hz⟩
  rw [E_eq (by rfl) cf_slices_IndexFunc_string_string]
  have z0 : ((0 : Nat) : Int) = 0 := rfl
  rw [z0] at h
  unfold K_slices_IndexFunc_string_string_l2 at h
  simp -implicitDefEqProofs only [EVS0, EVS1, EVS2, EVS3, EVS4, EVS5, EVS6, EVS7, ite_tf, ite_ft, ite_tft, ite_ftf, ite_list, ite_tt, ite_ee, ite_nt, ite_ne, eq_self, implies_true, forall_const, exI, nsite, freeAt, execI, Opd.ev, tget, tins, tput, keepL, sitesOf, List.map_cons, List.map_nil, List.sum_cons, List.sum_nil, List.length_cons, List.length_nil, List.replicate_zero, List.replicate_succ, List.append_nil, List.nil_append, List.cons_append, List.getElem?_cons_zero, List.getElem?_cons_succ, List.set_cons_zero, List.set_cons_succ, Nat.add_zero, Nat.zero_add, Nat.reduceAdd, Nat.reduceSub, Nat.reduceLT, Nat.reduceLeDiff, Nat.reduceEqDiff, Nat.reduceBEq, Nat.reduceMul, beq_self_eq_true, Bool.true_or, Bool.false_or, Bool.or_true, Bool.or_false, Bool.and_true, Bool.true_and, Bool.and_self, Bool.and_false, Bool.false_and, if_true, if_false, ite_true, ite_false, Bool.false_eq_true, Option.map_some, Option.map_none, and_self, and_true, true_and, and_false, false_and, true_or, or_true, false_or, or_false, not_true_eq_false, not_false_eq_true, List.drop_zero, List.drop_succ_cons, List.take_succ_cons, List.take_zero, ldA, stA, partA, faddrA, setAt, List.all_cons, List.all_nil, binA, arithA, shiftA, strA, unA, gSpan, gSkip, unG, ne_eq, Option.some.injEq, reduceCtorEq, decide_true, decide_false, elemsA, resA, resAll, resOne, enterA, decide_eq_true_eq, Bool.not_eq_true, Bool.decide_eq_true, List.isEmpty_nil, Bool.not_false, Bool.not_true, List.length_map, Bool.bne_false, Bool.bne_true, List.isEmpty_cons, List.getD_cons_zero, List.getD_cons_succ, List.getD_nil, ite_self, ↓reduceIte, noRefL, clrA, gcT, gcA, gcIds, reach, rhoOf, heapOf, idxA, genB, newGen, renB, refsB, List.contains_cons, List.contains_nil, List.range_zero, List.range_succ, List.flatMap_cons, List.flatMap_nil, List.zip_cons_cons, List.zip_nil_left, List.zip_nil_right, Nat.not_lt_zero, cb_slices_IndexFunc_string_string, b_slices_IndexFunc_string_string, cr_slices_IndexFunc_string_string, x_slices_IndexFunc_string_string_k0, x_slices_IndexFunc_string_string_l2, intsV, bytesV, propsV, propV, propC, bytesOf_map, h]
theorem q_contF (L : List (List UInt8)) (s : List UInt8) (hL : L.length ≤ 9223372036854775807) (hx : ∀ x ∈ L, x.length * 16 ≤ 140737488355328 - 64) :
    E 25 [.lst false (L.map AVal.str), .fn 26 [.ref 0 0]] [.var [.str s]] = some (.bool (L.any fun f => matchB f s), [.var [.str s]]) := by
  obtain ⟨z, h, hz⟩ := q_idxF L s hL hx
  rw [E_eq (by rfl) cf_slices_ContainsFunc_string_string]
  have hc := fun (σ : AHeap) site t view hs => call_cap (O := E) (byref := BY) (σ := σ) (t := t) (site := site) (own := 0) (view := view) (f := 35) (args := [.lst false (L.map AVal.str), .fn 26 [.ref t 0]]) (vs := [.lst false (L.map AVal.str), .fn 26 [.ref t 0]]) hs rfl rfl (by kernel_rfl) rfl rfl rfl (fun ρ h => by simp only [renL, renV, h]) rfl rfl h
  simp -implicitDefEqProofs only [EVS0, EVS1, EVS2, EVS3, EVS4, EVS5, EVS6, EVS7, ite_tf, ite_ft, ite_tft, ite_ftf, ite_list, ite_tt, ite_ee, ite_nt, ite_ne, eq_self, implies_true, forall_const, exI, nsite, freeAt, execI, Opd.ev, tget, tins, tput, keepL, sitesOf, List.map_cons, List.map_nil, List.sum_cons, List.sum_nil, List.length_cons, List.length_nil, List.replicate_zero, List.replicate_succ, List.append_nil, List.nil_append, List.cons_append, List.getElem?_cons_zero, List.getElem?_cons_succ, List.set_cons_zero, List.set_cons_succ, Nat.add_zero, Nat.zero_add, Nat.reduceAdd, Nat.reduceSub, Nat.reduceLT, Nat.reduceLeDiff, Nat.reduceEqDiff, Nat.reduceBEq, Nat.reduceMul, beq_self_eq_true, Bool.true_or, Bool.false_or, Bool.or_true, Bool.or_false, Bool.and_true, Bool.true_and, Bool.and_self, Bool.and_false, Bool.false_and, if_true, if_false, ite_true, ite_false, Bool.false_eq_true, Option.map_some, Option.map_none, and_self, and_true, true_and, and_false, false_and, true_or, or_true, false_or, or_false, not_true_eq_false, not_false_eq_true, List.drop_zero, List.drop_succ_cons, List.take_succ_cons, List.take_zero, ldA, stA, partA, faddrA, setAt, List.all_cons, List.all_nil, binA, arithA, shiftA, strA, unA, gSpan, gSkip, unG, ne_eq, Option.some.injEq, reduceCtorEq, decide_true, decide_false, elemsA, resA, resAll, resOne, enterA, decide_eq_true_eq, Bool.not_eq_true, Bool.decide_eq_true, List.isEmpty_nil, Bool.not_false, Bool.not_true, List.length_map, Bool.bne_false, Bool.bne_true, List.isEmpty_cons, List.getD_cons_zero, List.getD_cons_succ, List.getD_nil, ite_self, ↓reduceIte, noRefL, clrA, gcT, gcA, gcIds, reach, rhoOf, heapOf, idxA, genB, newGen, renB, refsB, List.contains_cons, List.contains_nil, List.range_zero, List.range_succ, List.flatMap_cons, List.flatMap_nil, List.zip_cons_cons, List.zip_nil_left, List.zip_nil_right, Nat.not_lt_zero, cb_slices_ContainsFunc_string_string, b_slices_ContainsFunc_string_string, cr_slices_ContainsFunc_string_string, intsV, bytesV, propsV, propV, propC, bytesOf_map, hc, hz, freeFrom, out_bool]
theorem q_anyT (L : List (List UInt8)) (s : List UInt8) (hL : L.length ≤ 9223372036854775807) (hx : ∀ x ∈ L, x.length * 16 ≤ 140737488355328 - 64) :
    E 12 [.str s, .lst false (L.map AVal.str)] [] = some (.bool (L.any fun f => matchB f s), []) := by
  have h := q_contF L s hL hx
  rw [E_eq (by rfl) cf_topic_Any]
  have hc := fun (σ : AHeap) site t view hs => call_cap (O := E) (byref := BY) (σ := σ) (t := t) (site := site) (own := 0) (view := view) (f := 25) (args := [.lst false (L.map AVal.str), .fn 26 [.ref t 0]]) (vs := [.lst false (L.map AVal.str), .fn 26 [.ref t 0]]) hs rfl rfl (by kernel_rfl) rfl rfl rfl (fun ρ h => by simp only [renL, renV, h]) rfl rfl h
  simp -implicitDefEqProofs only [EVS0, EVS1, EVS2, EVS3, EVS4, EVS5, EVS6, EVS7, ite_tf, ite_ft, ite_tft, ite_ftf, ite_list, ite_tt, ite_ee, ite_nt, ite_ne, eq_self, implies_true, forall_const, exI, nsite, freeAt, execI, Opd.ev, tget, tins, tput, keepL, sitesOf, List.map_cons, List.map_nil, List.sum_cons, List.sum_nil, List.length_cons, List.length_nil, List.replicate_zero, List.replicate_succ, List.append_nil, List.nil_append, List.cons_append, List.getElem?_cons_zero, List.getElem?_cons_succ, List.set_cons_zero, List.set_cons_succ, Nat.add_zero, Nat.zero_add, Nat.reduceAdd, Nat.reduceSub, Nat.reduceLT, Nat.reduceLeDiff, Nat.reduceEqDiff, Nat.reduceBEq, Nat.reduceMul, beq_self_eq_true, Bool.true_or, Bool.false_or, Bool.or_true, Bool.or_false, Bool.and_true, Bool.true_and, Bool.and_self, Bool.and_false, Bool.false_and, if_true, if_false, ite_true, ite_false, Bool.false_eq_true, Option.map_some, Option.map_none, and_self, and_true, true_and, and_false, false_and, true_or, or_true, false_or, or_false, not_true_eq_false, not_false_eq_true, List.drop_zero, List.drop_succ_cons, List.take_succ_cons, List.take_zero, ldA, stA, partA, faddrA, setAt, List.all_cons, List.all_nil, binA, arithA, shiftA, strA, unA, gSpan, gSkip, unG, ne_eq, Option.some.injEq, reduceCtorEq, decide_true, decide_false, elemsA, resA, resAll, resOne, enterA, decide_eq_true_eq, Bool.not_eq_true, Bool.decide_eq_true, List.isEmpty_nil, Bool.not_false, Bool.not_true, List.length_map, Bool.bne_false, Bool.bne_true, List.isEmpty_cons, List.getD_cons_zero, List.getD_cons_succ, List.getD_nil, ite_self, ↓reduceIte, noRefL, clrA, gcT, gcA, gcIds, reach, rhoOf, heapOf, idxA, genB, newGen, renB, refsB, List.contains_cons, List.contains_nil, List.range_zero, List.range_succ, List.flatMap_cons, List.flatMap_nil, List.zip_cons_cons, List.zip_nil_left, List.zip_nil_right, Nat.not_lt_zero, cb_topic_Any, b_topic_Any, cr_topic_Any, intsV, bytesV, propsV, propV, propC, bytesOf_map, hc, freeFrom]
theorem q_anyTC (σ : AHeap) (site own : Nat) (view : Bool) (L : List (List UInt8)) (s : List UInt8) (hL : L.length ≤ 9223372036854775807) (hx : ∀ x ∈ L, x.length * 16 ≤ 140737488355328 - 64) :
    callG E BY σ site 12 own view [.str s, .lst false (L.map AVal.str)] = some (.bool (L.any fun f => matchB f s), σ, {}) :=
  call_flat (q_anyT L s hL hx) (by kernel_rfl) (by simp -implicitDefEqProofs only [EVS0, EVS1, EVS2, EVS3, EVS4, EVS5, EVS6, EVS7, List.all_cons, List.all_nil, List.map_cons, List.map_nil, Bool.and_self, Bool.and_true, Bool.true_and, eq_self, and_self, List.length_map, implies_true, Bool.false_eq_true, if_false, if_true, intsV, bytesV, propsV, propV, propC, intsV]) (by simp -implicitDefEqProofs only [EVS0, EVS1, EVS2, EVS3, EVS4, EVS5, EVS6, EVS7, List.all_cons, List.all_nil, List.map_cons, List.map_nil, Bool.and_self, Bool.and_true, Bool.true_and, eq_self, and_self, List.length_map, implies_true, Bool.false_eq_true, if_false, if_true, intsV, bytesV, propsV, propV, propC, intsV]) rfl (fun _ => rfl) _ _ _ _
theorem q_matchesl (L : List (List UInt8)) (s : List UInt8) (hL : L.length ≤ 9223372036854775807) (hx : ∀ x ∈ L, x.length * 16 ≤ 140737488355328 - 64) : ∀ (r : List (List UInt8)) (i : Nat) (acc : Bool), L.drop i = r → (acc || r.any fun f => matchB f s) = (L.any fun f => matchB f s) →
    K_tidingslaw14_TopicMatches_l6 0 [(6, .int .i64 i), (5, .bool acc), (1, .str s), (0, .lst false (L.map AVal.str))] [] = some (.bool true, [])
  | [], i, acc, h, ha => by
    have h1 := drop_nil h
    have hc := fun σ site own view => q_anyTC σ site own view L s hL hx
    rw [← ha] at hc
    simp only [List.any_nil, Bool.or_false] at hc
    unfold K_tidingslaw14_TopicMatches_l6
    rw [evL_eq]
    simp -implicitDefEqProofs only [EVS0, EVS1, EVS2, EVS3, EVS4, EVS5, EVS6, EVS7, ite_tf, ite_ft, ite_tft, ite_ftf, ite_list, ite_tt, ite_ee, ite_nt, ite_ne, eq_self, implies_true, forall_const, exI, nsite, freeAt, execI, Opd.ev, tget, tins, tput, keepL, sitesOf, List.map_cons, List.map_nil, List.sum_cons, List.sum_nil, List.length_cons, List.length_nil, List.replicate_zero, List.replicate_succ, List.append_nil, List.nil_append, List.cons_append, List.getElem?_cons_zero, List.getElem?_cons_succ, List.set_cons_zero, List.set_cons_succ, Nat.add_zero, Nat.zero_add, Nat.reduceAdd, Nat.reduceSub, Nat.reduceLT, Nat.reduceLeDiff, Nat.reduceEqDiff, Nat.reduceBEq, Nat.reduceMul, beq_self_eq_true, Bool.true_or, Bool.false_or, Bool.or_true, Bool.or_false, Bool.and_true, Bool.true_and, Bool.and_self, Bool.and_false, Bool.false_and, if_true, if_false, ite_true, ite_false, Bool.false_eq_true, Option.map_some, Option.map_none, and_self, and_true, true_and, and_false, false_and, true_or, or_true, false_or, or_false, not_true_eq_false, not_false_eq_true, List.drop_zero, List.drop_succ_cons, List.take_succ_cons, List.take_zero, ldA, stA, partA, faddrA, setAt, List.all_cons, List.all_nil, binA, arithA, shiftA, strA, unA, gSpan, gSkip, unG, ne_eq, Option.some.injEq, reduceCtorEq, decide_true, decide_false, elemsA, resA, resAll, resOne, enterA, decide_eq_true_eq, Bool.not_eq_true, Bool.decide_eq_true, List.isEmpty_nil, Bool.not_false, Bool.not_true, List.length_map, Bool.bne_false, Bool.bne_true, List.isEmpty_cons, List.getD_cons_zero, List.getD_cons_succ, List.getD_nil, ite_self, ↓reduceIte, noRefL, clrA, gcT, gcA, gcIds, reach, rhoOf, heapOf, idxA, genB, newGen, renB, refsB, List.contains_cons, List.contains_nil, List.range_zero, List.range_succ, List.flatMap_cons, List.flatMap_nil, List.zip_cons_cons, List.zip_nil_left, List.zip_nil_right, Nat.not_lt_zero, cb_tidingslaw14_TopicMatches, b_tidingslaw14_TopicMatches, cr_tidingslaw14_TopicMatches, x_tidingslaw14_TopicMatches_k0, x_tidingslaw14_TopicMatches_l6, intsV, bytesV, propsV, propV, propC, bytesOf_map, h1, hc, q_wakes14C]
  | x :: r, i, acc, h, ha => by
    have ih := q_matchesl L s hL hx r (i + 1) (acc || matchB x s) (drop_at h).2.1 (by rw [← ha]; simp [Bool.or_assoc])
    have h1 : (i : Int) < L.length := by have := (drop_at h).2.2; omega
    have e1 := iad (drop_at h).1 AVal.str (k := 1) rfl
    have e3 := wrap_succ h1 hL
    have hm : x ∈ L := List.mem_of_getElem? (drop_at h).1
    have h2 := fun σ site own view => q_matchC σ site own view x s (hx x hm)
    have h3 := fun σ site own view => q_rmatchC σ site own view x s
    unfold K_tidingslaw14_TopicMatches_l6 at ih ⊢
    rw [evL_eq]
    cases acc <;> cases hb : matchB x s
    all_goals (rw [hb] at h2 h3 ih)
    · simp -implicitDefEqProofs only [EVS0, EVS1, EVS2, EVS3, EVS4, EVS5, EVS6, EVS7, ite_tf, ite_ft, ite_tft, ite_ftf, ite_list, ite_tt, ite_ee, ite_nt, ite_ne, eq_self, implies_true, forall_const, exI, nsite, freeAt, execI, Opd.ev, tget, tins, tput, keepL, sitesOf, List.map_cons, List.map_nil, List.sum_cons, List.sum_nil, List.length_cons, List.length_nil, List.replicate_zero, List.replicate_succ, List.append_nil, List.nil_append, List.cons_append, List.getElem?_cons_zero, List.getElem?_cons_succ, List.set_cons_zero, List.set_cons_succ, Nat.add_zero, Nat.zero_add, Nat.reduceAdd, Nat.reduceSub, Nat.reduceLT, Nat.reduceLeDiff, Nat.reduceEqDiff, Nat.reduceBEq, Nat.reduceMul, beq_self_eq_true, Bool.true_or, Bool.false_or, Bool.or_true, Bool.or_false, Bool.and_true, Bool.true_and, Bool.and_self, Bool.and_false, Bool.false_and, if_true, if_false, ite_true, ite_false, Bool.false_eq_true, Option.map_some, Option.map_none, and_self, and_true, true_and, and_false, false_and, true_or, or_true, false_or, or_false, not_true_eq_false, not_false_eq_true, List.drop_zero, List.drop_succ_cons, List.take_succ_cons, List.take_zero, ldA, stA, partA, faddrA, setAt, List.all_cons, List.all_nil, binA, arithA, shiftA, strA, unA, gSpan, gSkip, unG, ne_eq, Option.some.injEq, reduceCtorEq, decide_true, decide_false, elemsA, resA, resAll, resOne, enterA, decide_eq_true_eq, Bool.not_eq_true, Bool.decide_eq_true, List.isEmpty_nil, Bool.not_false, Bool.not_true, List.length_map, Bool.bne_false, Bool.bne_true, List.isEmpty_cons, List.getD_cons_zero, List.getD_cons_succ, List.getD_nil, ite_self, ↓reduceIte, noRefL, clrA, gcT, gcA, gcIds, reach, rhoOf, heapOf, idxA, genB, newGen, renB, refsB, List.contains_cons, List.contains_nil, List.range_zero, List.range_succ, List.flatMap_cons, List.flatMap_nil, List.zip_cons_cons, List.zip_nil_left, List.zip_nil_right, Nat.not_lt_zero, cb_tidingslaw14_TopicMatches, b_tidingslaw14_TopicMatches, cr_tidingslaw14_TopicMatches, x_tidingslaw14_TopicMatches_k0, x_tidingslaw14_TopicMatches_l6, intsV, bytesV, propsV, propV, propC, bytesOf_map, h1, e1, e3, h2, h3]
      exact ih
    · simp -implicitDefEqProofs only [EVS0, EVS1, EVS2, EVS3, EVS4, EVS5, EVS6, EVS7, ite_tf, ite_ft, ite_tft, ite_ftf, ite_list, ite_tt, ite_ee, ite_nt, ite_ne, eq_self, implies_true, forall_const, exI, nsite, freeAt, execI, Opd.ev, tget, tins, tput, keepL, sitesOf, List.map_cons, List.map_nil, List.sum_cons, List.sum_nil, List.length_cons, List.length_nil, List.replicate_zero, List.replicate_succ, List.append_nil, List.nil_append, List.cons_append, List.getElem?_cons_zero, List.getElem?_cons_succ, List.set_cons_zero, List.set_cons_succ, Nat.add_zero, Nat.zero_add, Nat.reduceAdd, Nat.reduceSub, Nat.reduceLT, Nat.reduceLeDiff, Nat.reduceEqDiff, Nat.reduceBEq, Nat.reduceMul, beq_self_eq_true, Bool.true_or, Bool.false_or, Bool.or_true, Bool.or_false, Bool.and_true, Bool.true_and, Bool.and_self, Bool.and_false, Bool.false_and, if_true, if_false, ite_true, ite_false, Bool.false_eq_true, Option.map_some, Option.map_none, and_self, and_true, true_and, and_false, false_and, true_or, or_true, false_or, or_false, not_true_eq_false, not_false_eq_true, List.drop_zero, List.drop_succ_cons, List.take_succ_cons, List.take_zero, ldA, stA, partA, faddrA, setAt, List.all_cons, List.all_nil, binA, arithA, shiftA, strA, unA, gSpan, gSkip, unG, ne_eq, Option.some.injEq, reduceCtorEq, decide_true, decide_false, elemsA, resA, resAll, resOne, enterA, decide_eq_true_eq, Bool.not_eq_true, Bool.decide_eq_true, List.isEmpty_nil, Bool.not_false, Bool.not_true, List.length_map, Bool.bne_false, Bool.bne_true, List.isEmpty_cons, List.getD_cons_zero, List.getD_cons_succ, List.getD_nil, ite_self, ↓reduceIte, noRefL, clrA, gcT, gcA, gcIds, reach, rhoOf, heapOf, idxA, genB, newGen, renB, refsB, List.contains_cons, List.contains_nil, List.range_zero, List.range_succ, List.flatMap_cons, List.flatMap_nil, List.zip_cons_cons, List.zip_nil_left, List.zip_nil_right, Nat.not_lt_zero, cb_tidingslaw14_TopicMatches, b_tidingslaw14_TopicMatches, cr_tidingslaw14_TopicMatches, x_tidingslaw14_TopicMatches_k0, x_tidingslaw14_TopicMatches_l6, intsV, bytesV, propsV, propV, propC, bytesOf_map, h1, e1, e3, h2, h3]
      exact ih
    · simp -implicitDefEqProofs only [EVS0, EVS1, EVS2, EVS3, EVS4, EVS5, EVS6, EVS7, ite_tf, ite_ft, ite_tft, ite_ftf, ite_list, ite_tt, ite_ee, ite_nt, ite_ne, eq_self, implies_true, forall_const, exI, nsite, freeAt, execI, Opd.ev, tget, tins, tput, keepL, sitesOf, List.map_cons, List.map_nil, List.sum_cons, List.sum_nil, List.length_cons, List.length_nil, List.replicate_zero, List.replicate_succ, List.append_nil, List.nil_append, List.cons_append, List.getElem?_cons_zero, List.getElem?_cons_succ, List.set_cons_zero, List.set_cons_succ, Nat.add_zero, Nat.zero_add, Nat.reduceAdd, Nat.reduceSub, Nat.reduceLT, Nat.reduceLeDiff, Nat.reduceEqDiff, Nat.reduceBEq, Nat.reduceMul, beq_self_eq_true, Bool.true_or, Bool.false_or, Bool.or_true, Bool.or_false, Bool.and_true, Bool.true_and, Bool.and_self, Bool.and_false, Bool.false_and, if_true, if_false, ite_true, ite_false, Bool.false_eq_true, Option.map_some, Option.map_none, and_self, and_true, true_and, and_false, false_and, true_or, or_true, false_or, or_false, not_true_eq_false, not_false_eq_true, List.drop_zero, List.drop_succ_cons, List.take_succ_cons, List.take_zero, ldA, stA, partA, faddrA, setAt, List.all_cons, List.all_nil, binA, arithA, shiftA, strA, unA, gSpan, gSkip, unG, ne_eq, Option.some.injEq, reduceCtorEq, decide_true, decide_false, elemsA, resA, resAll, resOne, enterA, decide_eq_true_eq, Bool.not_eq_true, Bool.decide_eq_true, List.isEmpty_nil, Bool.not_false, Bool.not_true, List.length_map, Bool.bne_false, Bool.bne_true, List.isEmpty_cons, List.getD_cons_zero, List.getD_cons_succ, List.getD_nil, ite_self, ↓reduceIte, noRefL, clrA, gcT, gcA, gcIds, reach, rhoOf, heapOf, idxA, genB, newGen, renB, refsB, List.contains_cons, List.contains_nil, List.range_zero, List.range_succ, List.flatMap_cons, List.flatMap_nil, List.zip_cons_cons, List.zip_nil_left, List.zip_nil_right, Nat.not_lt_zero, cb_tidingslaw14_TopicMatches, b_tidingslaw14_TopicMatches, cr_tidingslaw14_TopicMatches, x_tidingslaw14_TopicMatches_k0, x_tidingslaw14_TopicMatches_l6, intsV, bytesV, propsV, propV, propC, bytesOf_map, h1, e1, e3, h2, h3]
      exact ih
    · simp -implicitDefEqProofs only [EVS0, EVS1, EVS2, EVS3, EVS4, EVS5, EVS6, EVS7, ite_tf, ite_ft, ite_tft, ite_ftf, ite_list, ite_tt, ite_ee, ite_nt, ite_ne, eq_self, implies_true, forall_const, exI, nsite, freeAt, execI, Opd.ev, tget, tins, tput, keepL, sitesOf, List.map_cons, List.map_nil, List.sum_cons, List.sum_nil, List.length_cons, List.length_nil, List.replicate_zero, List.replicate_succ, List.append_nil, List.nil_append, List.cons_append, List.getElem?_cons_zero, List.getElem?_cons_succ, List.set_cons_zero, List.set_cons_succ, Nat.add_zero, Nat.zero_add, Nat.reduceAdd, Nat.reduceSub, Nat.reduceLT, Nat.reduceLeDiff, Nat.reduceEqDiff, Nat.reduceBEq, Nat.reduceMul, beq_self_eq_true, Bool.true_or, Bool.false_or, Bool.or_true, Bool.or_false, Bool.and_true, Bool.true_and, Bool.and_self, Bool.and_false, Bool.false_and, if_true, if_false, ite_true, ite_false, Bool.false_eq_true, Option.map_some, Option.map_none, and_self, and_true, true_and, and_false, false_and, true_or, or_true, false_or, or_false, not_true_eq_false, not_false_eq_true, List.drop_zero, List.drop_succ_cons, List.take_succ_cons, List.take_zero, ldA, stA, partA, faddrA, setAt, List.all_cons, List.all_nil, binA, arithA, shiftA, strA, unA, gSpan, gSkip, unG, ne_eq, Option.some.injEq, reduceCtorEq, decide_true, decide_false, elemsA, resA, resAll, resOne, enterA, decide_eq_true_eq, Bool.not_eq_true, Bool.decide_eq_true, List.isEmpty_nil, Bool.not_false, Bool.not_true, List.length_map, Bool.bne_false, Bool.bne_true, List.isEmpty_cons, List.getD_cons_zero, List.getD_cons_succ, List.getD_nil, ite_self, ↓reduceIte, noRefL, clrA, gcT, gcA, gcIds, reach, rhoOf, heapOf, idxA, genB, newGen, renB, refsB, List.contains_cons, List.contains_nil, List.range_zero, List.range_succ, List.flatMap_cons, List.flatMap_nil, List.zip_cons_cons, List.zip_nil_left, List.zip_nil_right, Nat.not_lt_zero, cb_tidingslaw14_TopicMatches, b_tidingslaw14_TopicMatches, cr_tidingslaw14_TopicMatches, x_tidingslaw14_TopicMatches_k0, x_tidingslaw14_TopicMatches_l6, intsV, bytesV, propsV, propV, propC, bytesOf_map, h1, e1, e3, h2, h3]
      exact ih
theorem q_matches (L : List (List UInt8)) (s0 : List UInt8) (hx : ∀ x ∈ L, x.length * 16 ≤ 140737488355328 - 64) : E 3 [.lst false (L.map AVal.str), .str s0] [] = some (.bool true, []) := by
  rw [E_eq (by rfl) cf_tidingslaw14_TopicMatches]
  have hc := fun σ site own view => q_cut14C σ site own view s0
  have key := q_matchesl (L.take 12) (s0.take 200) (by simp; omega) (fun x h => hx x (List.mem_of_mem_take h)) (L.take 12) 0 false rfl rfl
  have z0 : ((0 : Nat) : Int) = 0 := rfl
  rw [z0] at key
  unfold K_tidingslaw14_TopicMatches_l6 at key
  by_cases h : (12 : Int) < L.length
  · have hl : (12 : Int) ≤ L.length := by omega
    simp -implicitDefEqProofs only [EVS0, EVS1, EVS2, EVS3, EVS4, EVS5, EVS6, EVS7, ite_tf, ite_ft, ite_tft, ite_ftf, ite_list, ite_tt, ite_ee, ite_nt, ite_ne, eq_self, implies_true, forall_const, exI, nsite, freeAt, execI, Opd.ev, tget, tins, tput, keepL, sitesOf, List.map_cons, List.map_nil, List.sum_cons, List.sum_nil, List.length_cons, List.length_nil, List.replicate_zero, List.replicate_succ, List.append_nil, List.nil_append, List.cons_append, List.getElem?_cons_zero, List.getElem?_cons_succ, List.set_cons_zero, List.set_cons_succ, Nat.add_zero, Nat.zero_add, Nat.reduceAdd, Nat.reduceSub, Nat.reduceLT, Nat.reduceLeDiff, Nat.reduceEqDiff, Nat.reduceBEq, Nat.reduceMul, beq_self_eq_true, Bool.true_or, Bool.false_or, Bool.or_true, Bool.or_false, Bool.and_true, Bool.true_and, Bool.and_self, Bool.and_false, Bool.false_and, if_true, if_false, ite_true, ite_false, Bool.false_eq_true, Option.map_some, Option.map_none, and_self, and_true, true_and, and_false, false_and, true_or, or_true, false_or, or_false, not_true_eq_false, not_false_eq_true, List.drop_zero, List.drop_succ_cons, List.take_succ_cons, List.take_zero, ldA, stA, partA, faddrA, setAt, List.all_cons, List.all_nil, binA, arithA, shiftA, strA, unA, gSpan, gSkip, unG, ne_eq, Option.some.injEq, reduceCtorEq, decide_true, decide_false, elemsA, resA, resAll, resOne, enterA, decide_eq_true_eq, Bool.not_eq_true, Bool.decide_eq_true, List.isEmpty_nil, Bool.not_false, Bool.not_true, List.length_map, Bool.bne_false, Bool.bne_true, List.isEmpty_cons, List.getD_cons_zero, List.getD_cons_succ, List.getD_nil, ite_self, ↓reduceIte, noRefL, clrA, gcT, gcA, gcIds, reach, rhoOf, heapOf, idxA, genB, newGen, renB, refsB, List.contains_cons, List.contains_nil, List.range_zero, List.range_succ, List.flatMap_cons, List.flatMap_nil, List.zip_cons_cons, List.zip_nil_left, List.zip_nil_right, Nat.not_lt_zero, cb_tidingslaw14_TopicMatches, b_tidingslaw14_TopicMatches, cr_tidingslaw14_TopicMatches, x_tidingslaw14_TopicMatches_k0, x_tidingslaw14_TopicMatches_l6, intsV, bytesV, propsV, propV, propC, bytesOf_map, hc, h, hl, gt_iff_lt, slice_hi, Int.reduceToNat, Int.reduceLE]
    exact key
  · have hl : L.take 12 = L := List.take_of_length_le (by omega)
    rw [hl] at key
    simp -implicitDefEqProofs only [EVS0, EVS1, EVS2, EVS3, EVS4, EVS5, EVS6, EVS7, ite_tf, ite_ft, ite_tft, ite_ftf, ite_list, ite_tt, ite_ee, ite_nt, ite_ne, eq_self, implies_true, forall_const, exI, nsite, freeAt, execI, Opd.ev, tget, tins, tput, keepL, sitesOf, List.map_cons, List.map_nil, List.sum_cons, List.sum_nil, List.length_cons, List.length_nil, List.replicate_zero, List.replicate_succ, List.append_nil, List.nil_append, List.cons_append, List.getElem?_cons_zero, List.getElem?_cons_succ, List.set_cons_zero, List.set_cons_succ, Nat.add_zero, Nat.zero_add, Nat.reduceAdd, Nat.reduceSub, Nat.reduceLT, Nat.reduceLeDiff, Nat.reduceEqDiff, Nat.reduceBEq, Nat.reduceMul, beq_self_eq_true, Bool.true_or, Bool.false_or, Bool.or_true, Bool.or_false, Bool.and_true, Bool.true_and, Bool.and_self, Bool.and_false, Bool.false_and, if_true, if_false, ite_true, ite_false, Bool.false_eq_true, Option.map_some, Option.map_none, and_self, and_true, true_and, and_false, false_and, true_or, or_true, false_or, or_false, not_true_eq_false, not_false_eq_true, List.drop_zero, List.drop_succ_cons, List.take_succ_cons, List.take_zero, ldA, stA, partA, faddrA, setAt, List.all_cons, List.all_nil, binA, arithA, shiftA, strA, unA, gSpan, gSkip, unG, ne_eq, Option.some.injEq, reduceCtorEq, decide_true, decide_false, elemsA, resA, resAll, resOne, enterA, decide_eq_true_eq, Bool.not_eq_true, Bool.decide_eq_true, List.isEmpty_nil, Bool.not_false, Bool.not_true, List.length_map, Bool.bne_false, Bool.bne_true, List.isEmpty_cons, List.getD_cons_zero, List.getD_cons_succ, List.getD_nil, ite_self, ↓reduceIte, noRefL, clrA, gcT, gcA, gcIds, reach, rhoOf, heapOf, idxA, genB, newGen, renB, refsB, List.contains_cons, List.contains_nil, List.range_zero, List.range_succ, List.flatMap_cons, List.flatMap_nil, List.zip_cons_cons, List.zip_nil_left, List.zip_nil_right, Nat.not_lt_zero, cb_tidingslaw14_TopicMatches, b_tidingslaw14_TopicMatches, cr_tidingslaw14_TopicMatches, x_tidingslaw14_TopicMatches_k0, x_tidingslaw14_TopicMatches_l6, intsV, bytesV, propsV, propV, propC, bytesOf_map, hc, h, gt_iff_lt]
    exact key
section
open Go.RowKit
variable {H : Type} {enc : TypeId × Value → H} {P : Program} {w : World} {spare : Nat → Bool} {held : Bool}
theorem bulk_mem {d : DataW H} {l : List (DataW H)} (h : d ∈ l) : Rows.uptoBulk d ≤ Rows.uptoBulkAll l := by
  induction l with
  | nil => cases h
  | cons x r ih =>
    simp only [Rows.uptoBulkAll]
    rcases List.mem_cons.1 h with rfl | h
    · omega
    · have := ih h; omega
theorem bulk_elem {d : DataW H} {l m : List (DataW H)} (h : d ∈ l) : Rows.uptoBulk d ≤ Rows.uptoBulk (.slice l m) := by
  have := bulk_mem h
  simp only [Rows.uptoBulk]; omega
theorem bulk_bound {d : DataW H} {l : List (DataW H)} (hb : Rows.uptoSmall H l = true) (h : d ∈ l) : Rows.uptoBulk d ≤ 1048576 := by
  have := bulk_mem h
  have h2 : Rows.uptoBulkAll l ≤ 1048576 := by simpa [Rows.uptoSmall] using hb
  omega
theorem str_le0 {fuel : Nat} {t : TypeId} {v : Value} {d : DataW H} {ps : List MemPlace} {l : List UInt8} {I : Imm} {β : Bmap} (hu : P.underlying t = some .string) (h : DataW.trod enc P w 0 spare held fuel t [v] = some (d, ps)) (hz : VR I β (.str l) v) : l.length ≤ Rows.uptoBulk d := by
  simp only [VR] at hz
  obtain ⟨rfl, _⟩ := hz
  obtain ⟨s, hs, hd, _⟩ := DataW.trod_string hu h
  injection hd with hd _
  subst hd
  injection hs with hs _
  injection hs with hs
  subst hs
  simp [Rows.uptoBulk]
theorem str_le {t : TypeId} {v : Value} {d : DataW H} {ps : List MemPlace} {l : List UInt8} {I : Imm} {β : Bmap} (hu : P.underlying t = some .string) (h : DataW.Trod enc P w 0 spare held t v d ps) (hz : VR I β (.str l) v) : l.length ≤ Rows.uptoBulk d := by
  obtain ⟨fuel, h⟩ := h
  have hv : v.cells.toList = [v] := by
    simp only [VR] at hz
    obtain ⟨rfl, _⟩ := hz
    rfl
  rw [hv] at h
  exact str_le0 hu h hz
theorem strs_le {t e : TypeId} {v : Value} {d : DataW H} {ps : List MemPlace} {b : Bool} {l : List (List UInt8)} (hu : P.underlying t = some (.slice e)) (he : P.underlying e = some .string) (hc : P.cellsOf e = 1) (h : DataW.Trod enc P w 0 spare held t v d ps)
    (hz : VR (Imm.of w) B0 (.lst b (l.map AVal.str)) v) : ∀ x ∈ l, x.length ≤ Rows.uptoBulk d := by
  obtain ⟨fuel, h⟩ := h
  simp only [VR] at hz
  obtain ⟨A, cap, rfl, hl, hcap, _, hr, _⟩ := hz
  have hcs : (Value.slice A (l.map AVal.str).length cap).cells.toList = [Value.slice A (l.map AVal.str).length cap] := rfl
  intro x hx
  rcases Go.Deep.open_slice1 hu hc h with ⟨h1, _⟩ | ⟨a, len, cap', m, n, V, D, Pl, h1, _, h2, _, h3, h4, h5⟩
  · rw [hcs] at h1
    injection h1 with h1 _
    injection h1 with _ h1 _
    simp only [List.length_map, List.length_eq_zero_iff] at h1
    subst h1; cases hx
  · rw [hcs] at h1
    injection h1 with h1 _
    injection h1 with hA hlen hcap'
    subst hA
    rcases hr with hr | ⟨bb, off, k, hA, hk, hr⟩
    · simp only [List.map_eq_nil_iff] at hr; subst hr; cases hx
    · injection hA with hA
      obtain ⟨i, hi⟩ := List.getElem?_of_mem hx
      have hil : i < l.length := by
        rcases Nat.lt_or_ge i l.length with h | h
        · exact h
        · rw [List.getElem?_eq_none h] at hi; cases hi
      obtain ⟨g1, g2⟩ := LR_at hr (i := i) (x := .str x) (by simp [hi])
      have hk1 : k = 1 := by simpa [AVal.cells] using g1.symm
      subst hk1
      simp only [AVal.cells, CR, Nat.mul_one] at g2
      obtain ⟨⟨u, g3, g4⟩, _⟩ := g2
      simp only [List.length_map] at hlen
      have him : i < m := by split at h3 <;> omega
      obtain ⟨f1, f2⟩ := h5 i him
      have hVu : V i = u := by
        have e : a.add i = ⟨bb, off + i, none⟩ := by rw [addr_at (by rw [hA])]; rw [hA]
        rw [e] at f1
        unfold Imm.of at g3
        rw [f1] at g3
        exact Option.some.inj g3
      subst hVu
      have := str_le0 he f2 g4
      injection h4 with h4 _
      refine Nat.le_trans this ?_
      rw [h4]
      exact bulk_elem (List.mem_map.2 ⟨i, List.mem_range.2 (by omega), rfl⟩)
end
end Go.Proofs.YtochhdiilicpgaaDoor
