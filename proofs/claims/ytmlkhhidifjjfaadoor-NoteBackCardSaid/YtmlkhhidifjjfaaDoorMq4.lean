/- Rows of properties: what the program's functions say of them. A property's bytes; properties laid: prop.laid, Lay. What is read as properties may be laid: plain laws. Properties laid: prop.Lay. The code of functions as the interpreter reads it: Note. Printed by a program. Which properties are kept: slices.Contains, prop.Only, note.kept; the reference's. Rows of numbers: what the program's functions say of them. Messages and items: what the program's functions say of them. A message's bytes: note.marks, eight, Lay, may. Calls of methods over a variable that names no block. A cursor over bytes: what note reads by. bytes.Equal. A message, read: note.reader.marks, note; note.Read. note.Read. An item's bytes: note.LayItem. An item, read: note.ReadItem. Items out of plain things: law 19's Made.Item. -/
import Derived.Test.YtmlkhhidifjjfaaDoorMq2
import Derived.Test.YtmlkhhidifjjfaaDoorMq3
namespace Go.Proofs.YtmlkhhidifjjfaaDoor
set_option linter.unusedSimpArgs false
set_option linter.unusedVariables false
set_option maxHeartbeats 2000000
set_option maxRecDepth 10000
theorem q_alike (a b : PropD) : E 92 [propV a, propV b] [] = some (.bool (a.id == b.id && a.num == b.num && a.text == b.text && a.pair == b.pair && a.data == b.data), []) := by
  rw [E_eq (by rfl) cf_prop_Same_1]
  simp -implicitDefEqProofs only [EVS0, EVS1, EVS2, EVS3, EVS4, EVS5, EVS6, EVS7, EVL0, EVL1, ite_tf, ite_ft, ite_tft, ite_ftf, ite_list, ite_tt, ite_ee, ite_nt, ite_ne, eq_self, implies_true, forall_const, exI, nsite, freeAt, execI, Opd.ev, tget, tins, tput, keepL, sitesOf, List.sum_cons, List.sum_nil, Nat.reduceAdd, Nat.reduceSub, Nat.reduceLT, Nat.reduceLeDiff, Nat.reduceEqDiff, Nat.reduceBEq, Nat.reduceMul, beq_self_eq_true, Bool.false_eq_true, ldA, stA, partA, faddrA, setAt, binA, arithA, shiftA, strA, unA, gSpan, gSkip, unG, ne_eq, Option.some.injEq, reduceCtorEq, decide_true, decide_false, elemsA, resA, resAll, resOne, enterA, decide_eq_true_eq, Bool.not_eq_true, Bool.decide_eq_true, ite_self, ↓reduceIte, noRefL, clrA, gcT, gcA, gcIds, reach, rhoOf, heapOf, idxA, genB, newGen, renB, refsB, List.contains_cons, List.range_succ, cb_prop_Same_1, b_prop_Same_1, cr_prop_Same_1, oI, oN, intsV, bytesV, propsV, propV, propC, bytesOf_map, bytesOf_map]
theorem alike_beq (a b : PropD) : (a.id == b.id && a.num == b.num && a.text == b.text && a.pair == b.pair && a.data == b.data) = (a == b) := by
  obtain ⟨i, n, t, p, d⟩ := a
  obtain ⟨i', n', t', p', d'⟩ := b
  rw [Bool.eq_iff_iff]
  simp [and_assoc]
theorem plain_prop (a : PropD) : plainV (propV a) = true := by
  simp -implicitDefEqProofs only [eq_self, implies_true, forall_const, x_seq, x_cond, evC_block, evC_region, evC_skip, evC_exit, evC_ret, reg_none, runN_nil, runN_cons, runN_guard, kN_some, kN_pan, kN_none, isPan_ite, exI, nsite, freeAt, execI, Opd.ev, tget, tins, tput, keepL, sitesOf, List.map_cons, List.map_nil, List.sum_cons, List.sum_nil, List.length_cons, List.length_nil, List.replicate_zero, List.replicate_succ, List.append_nil, List.nil_append, List.cons_append, List.getElem?_cons_zero, List.getElem?_cons_succ, List.set_cons_zero, List.set_cons_succ, Nat.add_zero, Nat.zero_add, Nat.reduceAdd, Nat.reduceSub, Nat.reduceLT, Nat.reduceLeDiff, Nat.reduceEqDiff, Nat.reduceBEq, Nat.reduceMul, beq_self_eq_true, Bool.true_or, Bool.false_or, Bool.or_true, Bool.or_false, Bool.and_true, Bool.true_and, Bool.and_self, Bool.and_false, Bool.false_and, if_true, if_false, ite_true, ite_false, Bool.false_eq_true, Option.map_some, Option.map_none, and_self, and_true, true_and, and_false, false_and, true_or, or_true, false_or, or_false, not_true_eq_false, not_false_eq_true, List.drop_zero, List.drop_succ_cons, List.take_succ_cons, List.take_zero, ldA, stA, partA, faddrA, setAt, List.all_cons, List.all_nil, binA, arithA, shiftA, strA, unA, seqX_n, seqX_e, seqX_r, seqX_p, condX_b, block_n, block_e, block_r, block_p, pickX_b, gRun_eq, gW_bool, gW_off, gK_some, gSpan, gSkip, unG, sitesOf, ne_eq, Option.some.injEq, reduceCtorEq, decide_true, decide_false, elemsA, bytesOf_map, resA, resAll, resOne, enterA, decide_eq_true_eq, Bool.not_eq_true, Bool.decide_eq_true, ite_exn, ite_exr, ite_exg, ite_slot, ite_val, ite_vcl, seqX_ite, block_ite, fin_ite, evM_ite, evM_e, evM_r, evM_p, reg_some, C_nil, C_cons, C_guard, consC_some, consC_none, consC_ite, appC_some, appC_none, appC_ite, kC_some, kC_pan, kC_none, kC_ite, regC_quiet, regC_none, regC_ite, gKC_some, gKC_ite, gRunC_eq, gWC_bool, gWC_off, ite_exc, blockA_n, blockA_e, blockA_r, blockA_p, List.isEmpty_nil, Bool.not_false, Bool.not_true, List.length_map, Bool.bne_false, Bool.bne_true, ite_tf, ite_ft, ite_tft, ite_ftf, chkA_nil, chkA_cons, pairFree_eq, emptyOp_eq, noWr_eq, regC_some, List.isEmpty_cons, List.getD_cons_zero, List.getD_cons_succ, List.getD_nil, ite_list, ite_int, ite_bool, ite_str, ite_lst, ite_agg, ite_var, ite_row, ite_ref, ite_tt, ite_ee, ite_nt, ite_ne, ite_self, out_tree, fin_ret, fin_normal, fin_panic, s_isPan_top, s_isPan_any, s_isPan_int, s_isPan_bool, s_isPan_str, s_isPan_nilp, s_isPan_ref, s_isPan_eref, s_isPan_iptr, s_isPan_lst, s_isPan_sl, s_isPan_agg, s_isPan_tup, s_isPan_fn, s_isPan_nilm, s_isPan_map, s_isPan_nili, s_isPan_iface, s_isPan_pan, s_okCell_top, s_okCell_any, s_okCell_int, s_okCell_bool, s_okCell_str, s_okCell_nilp, s_okCell_ref, s_okCell_eref, s_okCell_iptr, s_okCell_lst, s_okCell_sl, s_okCell_agg, s_okCell_tup, s_okCell_fn, s_okCell_nilm, s_okCell_map, s_okCell_nili, s_okCell_iface, s_okCell_pan, s_ntop_top, s_ntop_any, s_ntop_int, s_ntop_bool, s_ntop_str, s_ntop_nilp, s_ntop_ref, s_ntop_eref, s_ntop_iptr, s_ntop_lst, s_ntop_sl, s_ntop_agg, s_ntop_tup, s_ntop_fn, s_ntop_nilm, s_ntop_map, s_ntop_nili, s_ntop_iface, s_ntop_pan, s_flat1_top, s_flat1_any, s_flat1_int, s_flat1_bool, s_flat1_str, s_flat1_nilp, s_flat1_ref, s_flat1_eref, s_flat1_iptr, s_flat1_lst, s_flat1_sl, s_flat1_agg, s_flat1_tup, s_flat1_fn, s_flat1_nilm, s_flat1_map, s_flat1_nili, s_flat1_iface, s_flat1_pan, s_flat2_top, s_flat2_any, s_flat2_int, s_flat2_bool, s_flat2_str, s_flat2_nilp, s_flat2_ref, s_flat2_eref, s_flat2_iptr, s_flat2_lst, s_flat2_sl, s_flat2_agg, s_flat2_tup, s_flat2_fn, s_flat2_nilm, s_flat2_map, s_flat2_nili, s_flat2_iface, s_flat2_pan, s_flatA_top, s_flatA_any, s_flatA_int, s_flatA_bool, s_flatA_str, s_flatA_nilp, s_flatA_ref, s_flatA_eref, s_flatA_iptr, s_flatA_lst, s_flatA_sl, s_flatA_agg, s_flatA_tup, s_flatA_fn, s_flatA_nilm, s_flatA_map, s_flatA_nili, s_flatA_iface, s_plain1_top, s_plain1_any, s_plain1_int, s_plain1_bool, s_plain1_str, s_plain1_nilp, s_plain1_ref, s_plain1_eref, s_plain1_iptr, s_plain1_lst, s_plain1_sl, s_plain1_agg, s_plain1_tup, s_plain1_nilm, s_plain1_map, s_plain1_nili, s_plain1_iface, s_plain1_pan, s_plainV_top, s_plainV_any, s_plainV_int, s_plainV_bool, s_plainV_str, s_plainV_nilp, s_plainV_ref, s_plainV_eref, s_plainV_iptr, s_plainV_lst, s_plainV_sl, s_plainV_agg, s_plainV_tup, s_plainV_nilm, s_plainV_map, s_plainV_nili, s_plainV_iface, s_plainV_pan, s_norm1_top, s_norm1_any, s_norm1_int, s_norm1_bool, s_norm1_str, s_norm1_nilp, s_norm1_ref, s_norm1_eref, s_norm1_iptr, s_norm1_lst, s_norm1_sl, s_norm1_agg, s_norm1_tup, s_norm1_fn, s_norm1_nilm, s_norm1_map, s_norm1_nili, s_norm1_iface, s_norm1_pan, s_normV_top, s_normV_any, s_normV_int, s_normV_bool, s_normV_str, s_normV_nilp, s_normV_ref, s_normV_eref, s_normV_iptr, s_normV_lst, s_normV_sl, s_normV_agg, s_normV_tup, s_normV_fn, s_normV_nilm, s_normV_map, s_normV_nili, s_normV_iface, s_normV_pan, s_cells_top, s_cells_any, s_cells_int, s_cells_bool, s_cells_str, s_cells_nilp, s_cells_ref, s_cells_eref, s_cells_iptr, s_cells_lst, s_cells_sl, s_cells_agg, s_cells_tup, s_cells_fn, s_cells_nilm, s_cells_map, s_cells_nili, s_cells_iface, s_cells_pan, s_valOf_top, s_valOf_any, s_valOf_int, s_valOf_bool, s_valOf_str, s_valOf_nilp, s_valOf_ref, s_valOf_eref, s_valOf_iptr, s_valOf_lst, s_valOf_sl, s_valOf_agg, s_valOf_tup, s_valOf_fn, s_valOf_nilm, s_valOf_map, s_valOf_nili, s_valOf_iface, s_valOf_pan, s_kindA_top, s_kindA_any, s_kindA_int, s_kindA_bool, s_kindA_str, s_kindA_nilp, s_kindA_ref, s_kindA_eref, s_kindA_iptr, s_kindA_lst, s_kindA_sl, s_kindA_agg, s_kindA_tup, s_kindA_fn, s_kindA_nilm, s_kindA_map, s_kindA_nili, s_kindA_iface, s_kindA_pan, s_refsV_top, s_refsV_any, s_refsV_int, s_refsV_bool, s_refsV_str, s_refsV_nilp, s_refsV_ref, s_refsV_eref, s_refsV_iptr, s_refsV_lst, s_refsV_sl, s_refsV_agg, s_refsV_tup, s_refsV_fn, s_refsV_nilm, s_refsV_map, s_refsV_nili, s_refsV_iface, s_refsV_pan, s_renV_top, s_renV_any, s_renV_int, s_renV_bool, s_renV_str, s_renV_nilp, s_renV_iptr, s_renV_lst, s_renV_agg, s_renV_tup, s_renV_fn, s_renV_nilm, s_renV_nili, s_renV_iface, s_renV_pan, s_plain1_fn, s_plainV_fn, s_flatA_pan, s_regN_some, s_regN_pan, s_regN_none, s_renV_ref, s_renV_map, s_renV_sl, s_renV_eref, s_refsL_nil, s_refsL_cons, s_renL_nil, s_renL_cons, s_noRef_top, s_noRef_any, s_noRef_int, s_noRef_bool, s_noRef_str, s_noRef_nilp, s_noRef_ref, s_noRef_eref, s_noRef_iptr, s_noRef_lst, s_noRef_sl, s_noRef_agg, s_noRef_tup, s_noRef_fn, s_noRef_nilm, s_noRef_map, s_noRef_nili, s_noRef_iface, s_noRef_pan, s_nofn1_top, s_nofn1_any, s_nofn1_int, s_nofn1_bool, s_nofn1_str, s_nofn1_nilp, s_nofn1_ref, s_nofn1_eref, s_nofn1_iptr, s_nofn1_lst, s_nofn1_sl, s_nofn1_agg, s_nofn1_tup, s_nofn1_fn, s_nofn1_nilm, s_nofn1_map, s_nofn1_nili, s_nofn1_iface, s_nofn1_pan, s_nofnV_top, s_nofnV_any, s_nofnV_int, s_nofnV_bool, s_nofnV_str, s_nofnV_nilp, s_nofnV_ref, s_nofnV_eref, s_nofnV_iptr, s_nofnV_lst, s_nofnV_sl, s_nofnV_agg, s_nofnV_tup, s_nofnV_fn, s_nofnV_nilm, s_nofnV_map, s_nofnV_nili, s_nofnV_iface, s_nofnV_pan, s_nofnR_top, s_nofnR_any, s_nofnR_int, s_nofnR_bool, s_nofnR_str, s_nofnR_nilp, s_nofnR_ref, s_nofnR_eref, s_nofnR_iptr, s_nofnR_lst, s_nofnR_sl, s_nofnR_agg, s_nofnR_tup, s_nofnR_fn, s_nofnR_nilm, s_nofnR_map, s_nofnR_nili, s_nofnR_iface, s_nofnR_pan, s_plainR_top, s_plainR_any, s_plainR_int, s_plainR_bool, s_plainR_str, s_plainR_nilp, s_plainR_ref, s_plainR_eref, s_plainR_iptr, s_plainR_lst, s_plainR_sl, s_plainR_agg, s_plainR_tup, s_plainR_nilm, s_plainR_map, s_plainR_nili, s_plainR_iface, s_plainR_pan, s_normR_top, s_normR_any, s_normR_int, s_normR_bool, s_normR_str, s_normR_nilp, s_normR_ref, s_normR_eref, s_normR_iptr, s_normR_lst, s_normR_sl, s_normR_agg, s_normR_tup, s_normR_fn, s_normR_nilm, s_normR_map, s_normR_nili, s_normR_iface, s_normR_pan, s_noRefL_nil, s_noRefL_cons, s_plainR_fn, s_if_and, s_if_or, s_if_nand, s_if_nor, s_if_fand, s_if_for, s_if_fnand, s_if_fnor, ↓reduceIte, out_one, noRefL, clrA, propV, propC, bytesV]
theorem norm_prop (a : PropD) : normV (propV a) = propV a := by
  simp -implicitDefEqProofs only [eq_self, implies_true, forall_const, x_seq, x_cond, evC_block, evC_region, evC_skip, evC_exit, evC_ret, reg_none, runN_nil, runN_cons, runN_guard, kN_some, kN_pan, kN_none, isPan_ite, exI, nsite, freeAt, execI, Opd.ev, tget, tins, tput, keepL, sitesOf, List.map_cons, List.map_nil, List.sum_cons, List.sum_nil, List.length_cons, List.length_nil, List.replicate_zero, List.replicate_succ, List.append_nil, List.nil_append, List.cons_append, List.getElem?_cons_zero, List.getElem?_cons_succ, List.set_cons_zero, List.set_cons_succ, Nat.add_zero, Nat.zero_add, Nat.reduceAdd, Nat.reduceSub, Nat.reduceLT, Nat.reduceLeDiff, Nat.reduceEqDiff, Nat.reduceBEq, Nat.reduceMul, beq_self_eq_true, Bool.true_or, Bool.false_or, Bool.or_true, Bool.or_false, Bool.and_true, Bool.true_and, Bool.and_self, Bool.and_false, Bool.false_and, if_true, if_false, ite_true, ite_false, Bool.false_eq_true, Option.map_some, Option.map_none, and_self, and_true, true_and, and_false, false_and, true_or, or_true, false_or, or_false, not_true_eq_false, not_false_eq_true, List.drop_zero, List.drop_succ_cons, List.take_succ_cons, List.take_zero, ldA, stA, partA, faddrA, setAt, List.all_cons, List.all_nil, binA, arithA, shiftA, strA, unA, seqX_n, seqX_e, seqX_r, seqX_p, condX_b, block_n, block_e, block_r, block_p, pickX_b, gRun_eq, gW_bool, gW_off, gK_some, gSpan, gSkip, unG, sitesOf, ne_eq, Option.some.injEq, reduceCtorEq, decide_true, decide_false, elemsA, bytesOf_map, resA, resAll, resOne, enterA, decide_eq_true_eq, Bool.not_eq_true, Bool.decide_eq_true, ite_exn, ite_exr, ite_exg, ite_slot, ite_val, ite_vcl, seqX_ite, block_ite, fin_ite, evM_ite, evM_e, evM_r, evM_p, reg_some, C_nil, C_cons, C_guard, consC_some, consC_none, consC_ite, appC_some, appC_none, appC_ite, kC_some, kC_pan, kC_none, kC_ite, regC_quiet, regC_none, regC_ite, gKC_some, gKC_ite, gRunC_eq, gWC_bool, gWC_off, ite_exc, blockA_n, blockA_e, blockA_r, blockA_p, List.isEmpty_nil, Bool.not_false, Bool.not_true, List.length_map, Bool.bne_false, Bool.bne_true, ite_tf, ite_ft, ite_tft, ite_ftf, chkA_nil, chkA_cons, pairFree_eq, emptyOp_eq, noWr_eq, regC_some, List.isEmpty_cons, List.getD_cons_zero, List.getD_cons_succ, List.getD_nil, ite_list, ite_int, ite_bool, ite_str, ite_lst, ite_agg, ite_var, ite_row, ite_ref, ite_tt, ite_ee, ite_nt, ite_ne, ite_self, out_tree, fin_ret, fin_normal, fin_panic, s_isPan_top, s_isPan_any, s_isPan_int, s_isPan_bool, s_isPan_str, s_isPan_nilp, s_isPan_ref, s_isPan_eref, s_isPan_iptr, s_isPan_lst, s_isPan_sl, s_isPan_agg, s_isPan_tup, s_isPan_fn, s_isPan_nilm, s_isPan_map, s_isPan_nili, s_isPan_iface, s_isPan_pan, s_okCell_top, s_okCell_any, s_okCell_int, s_okCell_bool, s_okCell_str, s_okCell_nilp, s_okCell_ref, s_okCell_eref, s_okCell_iptr, s_okCell_lst, s_okCell_sl, s_okCell_agg, s_okCell_tup, s_okCell_fn, s_okCell_nilm, s_okCell_map, s_okCell_nili, s_okCell_iface, s_okCell_pan, s_ntop_top, s_ntop_any, s_ntop_int, s_ntop_bool, s_ntop_str, s_ntop_nilp, s_ntop_ref, s_ntop_eref, s_ntop_iptr, s_ntop_lst, s_ntop_sl, s_ntop_agg, s_ntop_tup, s_ntop_fn, s_ntop_nilm, s_ntop_map, s_ntop_nili, s_ntop_iface, s_ntop_pan, s_flat1_top, s_flat1_any, s_flat1_int, s_flat1_bool, s_flat1_str, s_flat1_nilp, s_flat1_ref, s_flat1_eref, s_flat1_iptr, s_flat1_lst, s_flat1_sl, s_flat1_agg, s_flat1_tup, s_flat1_fn, s_flat1_nilm, s_flat1_map, s_flat1_nili, s_flat1_iface, s_flat1_pan, s_flat2_top, s_flat2_any, s_flat2_int, s_flat2_bool, s_flat2_str, s_flat2_nilp, s_flat2_ref, s_flat2_eref, s_flat2_iptr, s_flat2_lst, s_flat2_sl, s_flat2_agg, s_flat2_tup, s_flat2_fn, s_flat2_nilm, s_flat2_map, s_flat2_nili, s_flat2_iface, s_flat2_pan, s_flatA_top, s_flatA_any, s_flatA_int, s_flatA_bool, s_flatA_str, s_flatA_nilp, s_flatA_ref, s_flatA_eref, s_flatA_iptr, s_flatA_lst, s_flatA_sl, s_flatA_agg, s_flatA_tup, s_flatA_fn, s_flatA_nilm, s_flatA_map, s_flatA_nili, s_flatA_iface, s_plain1_top, s_plain1_any, s_plain1_int, s_plain1_bool, s_plain1_str, s_plain1_nilp, s_plain1_ref, s_plain1_eref, s_plain1_iptr, s_plain1_lst, s_plain1_sl, s_plain1_agg, s_plain1_tup, s_plain1_nilm, s_plain1_map, s_plain1_nili, s_plain1_iface, s_plain1_pan, s_plainV_top, s_plainV_any, s_plainV_int, s_plainV_bool, s_plainV_str, s_plainV_nilp, s_plainV_ref, s_plainV_eref, s_plainV_iptr, s_plainV_lst, s_plainV_sl, s_plainV_agg, s_plainV_tup, s_plainV_nilm, s_plainV_map, s_plainV_nili, s_plainV_iface, s_plainV_pan, s_norm1_top, s_norm1_any, s_norm1_int, s_norm1_bool, s_norm1_str, s_norm1_nilp, s_norm1_ref, s_norm1_eref, s_norm1_iptr, s_norm1_lst, s_norm1_sl, s_norm1_agg, s_norm1_tup, s_norm1_fn, s_norm1_nilm, s_norm1_map, s_norm1_nili, s_norm1_iface, s_norm1_pan, s_normV_top, s_normV_any, s_normV_int, s_normV_bool, s_normV_str, s_normV_nilp, s_normV_ref, s_normV_eref, s_normV_iptr, s_normV_lst, s_normV_sl, s_normV_agg, s_normV_tup, s_normV_fn, s_normV_nilm, s_normV_map, s_normV_nili, s_normV_iface, s_normV_pan, s_cells_top, s_cells_any, s_cells_int, s_cells_bool, s_cells_str, s_cells_nilp, s_cells_ref, s_cells_eref, s_cells_iptr, s_cells_lst, s_cells_sl, s_cells_agg, s_cells_tup, s_cells_fn, s_cells_nilm, s_cells_map, s_cells_nili, s_cells_iface, s_cells_pan, s_valOf_top, s_valOf_any, s_valOf_int, s_valOf_bool, s_valOf_str, s_valOf_nilp, s_valOf_ref, s_valOf_eref, s_valOf_iptr, s_valOf_lst, s_valOf_sl, s_valOf_agg, s_valOf_tup, s_valOf_fn, s_valOf_nilm, s_valOf_map, s_valOf_nili, s_valOf_iface, s_valOf_pan, s_kindA_top, s_kindA_any, s_kindA_int, s_kindA_bool, s_kindA_str, s_kindA_nilp, s_kindA_ref, s_kindA_eref, s_kindA_iptr, s_kindA_lst, s_kindA_sl, s_kindA_agg, s_kindA_tup, s_kindA_fn, s_kindA_nilm, s_kindA_map, s_kindA_nili, s_kindA_iface, s_kindA_pan, s_refsV_top, s_refsV_any, s_refsV_int, s_refsV_bool, s_refsV_str, s_refsV_nilp, s_refsV_ref, s_refsV_eref, s_refsV_iptr, s_refsV_lst, s_refsV_sl, s_refsV_agg, s_refsV_tup, s_refsV_fn, s_refsV_nilm, s_refsV_map, s_refsV_nili, s_refsV_iface, s_refsV_pan, s_renV_top, s_renV_any, s_renV_int, s_renV_bool, s_renV_str, s_renV_nilp, s_renV_iptr, s_renV_lst, s_renV_agg, s_renV_tup, s_renV_fn, s_renV_nilm, s_renV_nili, s_renV_iface, s_renV_pan, s_plain1_fn, s_plainV_fn, s_flatA_pan, s_regN_some, s_regN_pan, s_regN_none, s_renV_ref, s_renV_map, s_renV_sl, s_renV_eref, s_refsL_nil, s_refsL_cons, s_renL_nil, s_renL_cons, s_noRef_top, s_noRef_any, s_noRef_int, s_noRef_bool, s_noRef_str, s_noRef_nilp, s_noRef_ref, s_noRef_eref, s_noRef_iptr, s_noRef_lst, s_noRef_sl, s_noRef_agg, s_noRef_tup, s_noRef_fn, s_noRef_nilm, s_noRef_map, s_noRef_nili, s_noRef_iface, s_noRef_pan, s_nofn1_top, s_nofn1_any, s_nofn1_int, s_nofn1_bool, s_nofn1_str, s_nofn1_nilp, s_nofn1_ref, s_nofn1_eref, s_nofn1_iptr, s_nofn1_lst, s_nofn1_sl, s_nofn1_agg, s_nofn1_tup, s_nofn1_fn, s_nofn1_nilm, s_nofn1_map, s_nofn1_nili, s_nofn1_iface, s_nofn1_pan, s_nofnV_top, s_nofnV_any, s_nofnV_int, s_nofnV_bool, s_nofnV_str, s_nofnV_nilp, s_nofnV_ref, s_nofnV_eref, s_nofnV_iptr, s_nofnV_lst, s_nofnV_sl, s_nofnV_agg, s_nofnV_tup, s_nofnV_fn, s_nofnV_nilm, s_nofnV_map, s_nofnV_nili, s_nofnV_iface, s_nofnV_pan, s_nofnR_top, s_nofnR_any, s_nofnR_int, s_nofnR_bool, s_nofnR_str, s_nofnR_nilp, s_nofnR_ref, s_nofnR_eref, s_nofnR_iptr, s_nofnR_lst, s_nofnR_sl, s_nofnR_agg, s_nofnR_tup, s_nofnR_fn, s_nofnR_nilm, s_nofnR_map, s_nofnR_nili, s_nofnR_iface, s_nofnR_pan, s_plainR_top, s_plainR_any, s_plainR_int, s_plainR_bool, s_plainR_str, s_plainR_nilp, s_plainR_ref, s_plainR_eref, s_plainR_iptr, s_plainR_lst, s_plainR_sl, s_plainR_agg, s_plainR_tup, s_plainR_nilm, s_plainR_map, s_plainR_nili, s_plainR_iface, s_plainR_pan, s_normR_top, s_normR_any, s_normR_int, s_normR_bool, s_normR_str, s_normR_nilp, s_normR_ref, s_normR_eref, s_normR_iptr, s_normR_lst, s_normR_sl, s_normR_agg, s_normR_tup, s_normR_fn, s_normR_nilm, s_normR_map, s_normR_nili, s_normR_iface, s_normR_pan, s_noRefL_nil, s_noRefL_cons, s_plainR_fn, s_if_and, s_if_or, s_if_nand, s_if_nor, s_if_fand, s_if_for, s_if_fnand, s_if_fnor, ↓reduceIte, out_one, noRefL, clrA, propV, propC, bytesV]
theorem q_alikeC (σ : AHeap) (site own : Nat) (view : Bool) (i n : Int) (t p d : Bytes) (i' n' : Int) (t' p' d' : Bytes) : callG E BY σ site 92 own view [.agg [.int .i64 i, .int .i64 n, .str t, .str p, .lst false (d.map byteV)], .agg [.int .i64 i', .int .i64 n', .str t', .str p', .lst false (d'.map byteV)]] = some (.bool (i == i' && n == n' && t == t' && p == p' && d == d'), σ, {}) :=
  call_flat (q_alike ⟨i, n, t, p, d⟩ ⟨i', n', t', p', d'⟩) (by kernel_rfl) (by simp only [List.all_cons, plain_prop]; rfl) (by simp only [List.map_cons, norm_prop]; rfl) rfl (fun _ => rfl) _ _ _ _
theorem q_eql (a b : List PropD) (h : a.length = b.length) (hl : a.length ≤ 9223372036854775807) : ∀ (r s : List PropD) (i : Nat), a.drop i = r → b.drop i = s → K_slices_EqualFunc_api_Prop_api_Prop_api_Prop_api_Prop_l4 0 [(17, .int .i64 i), (16, .int .i64 a.length), (15, propsV a), (2, .fn 92 []), (1, propsV b)] [] = some (.bool (r == s), [])
  | [], s, i, ha, hb => by
    have hs : s = [] := by
      subst hb; rw [List.drop_eq_nil_iff] at ha ⊢; omega
    subst hs
    have h1 := drop_nil ha
    unfold K_slices_EqualFunc_api_Prop_api_Prop_api_Prop_api_Prop_l4
    rw [evL_eq]
    simp -implicitDefEqProofs only [EVS0, EVS1, EVS2, EVS3, EVS4, EVS5, EVS6, EVS7, EVL0, EVL1, ite_tf, ite_ft, ite_tft, ite_ftf, ite_list, ite_tt, ite_ee, ite_nt, ite_ne, eq_self, implies_true, forall_const, exI, nsite, freeAt, execI, Opd.ev, tget, tins, tput, keepL, sitesOf, List.sum_cons, List.sum_nil, Nat.reduceAdd, Nat.reduceSub, Nat.reduceLT, Nat.reduceLeDiff, Nat.reduceEqDiff, Nat.reduceBEq, Nat.reduceMul, beq_self_eq_true, Bool.false_eq_true, ldA, stA, partA, faddrA, setAt, binA, arithA, shiftA, strA, unA, gSpan, gSkip, unG, ne_eq, Option.some.injEq, reduceCtorEq, decide_true, decide_false, elemsA, resA, resAll, resOne, enterA, decide_eq_true_eq, Bool.not_eq_true, Bool.decide_eq_true, ite_self, ↓reduceIte, noRefL, clrA, gcT, gcA, gcIds, reach, rhoOf, heapOf, idxA, genB, newGen, renB, refsB, List.contains_cons, List.range_succ, cb_slices_EqualFunc_api_Prop_api_Prop_api_Prop_api_Prop, b_slices_EqualFunc_api_Prop_api_Prop_api_Prop_api_Prop, cr_slices_EqualFunc_api_Prop_api_Prop_api_Prop_api_Prop, x_slices_EqualFunc_api_Prop_api_Prop_api_Prop_api_Prop_k0, d_slices_EqualFunc_api_Prop_api_Prop_api_Prop_api_Prop_k0, x_slices_EqualFunc_api_Prop_api_Prop_api_Prop_api_Prop_l4, d_slices_EqualFunc_api_Prop_api_Prop_api_Prop_api_Prop_l4, oI, oN, intsV, bytesV, propsV, propV, propC, bytesOf_map, h1]
  | x :: r, [], i, ha, hb => by
    have := (drop_at ha).2.2; rw [List.drop_eq_nil_iff] at hb; omega
  | x :: r, y :: s, i, ha, hb => by
    have ih := q_eql a b h hl r s (i + 1) (drop_at ha).2.1 (drop_at hb).2.1
    have h1 : (i : Int) < a.length := by have := (drop_at ha).2.2; omega
    have e1 := iad (drop_at ha).1 propV (k := 5) rfl
    have e2 := iad (drop_at hb).1 propV (k := 5) rfl
    have e3 := wrap_succ h1 hl
    unfold K_slices_EqualFunc_api_Prop_api_Prop_api_Prop_api_Prop_l4 at ih ⊢
    rw [evL_eq]
    simp -implicitDefEqProofs only [EVS0, EVS1, EVS2, EVS3, EVS4, EVS5, EVS6, EVS7, EVL0, EVL1, ite_tf, ite_ft, ite_tft, ite_ftf, ite_list, ite_tt, ite_ee, ite_nt, ite_ne, eq_self, implies_true, forall_const, exI, nsite, freeAt, execI, Opd.ev, tget, tins, tput, keepL, sitesOf, List.sum_cons, List.sum_nil, Nat.reduceAdd, Nat.reduceSub, Nat.reduceLT, Nat.reduceLeDiff, Nat.reduceEqDiff, Nat.reduceBEq, Nat.reduceMul, beq_self_eq_true, Bool.false_eq_true, ldA, stA, partA, faddrA, setAt, binA, arithA, shiftA, strA, unA, gSpan, gSkip, unG, ne_eq, Option.some.injEq, reduceCtorEq, decide_true, decide_false, elemsA, resA, resAll, resOne, enterA, decide_eq_true_eq, Bool.not_eq_true, Bool.decide_eq_true, ite_self, ↓reduceIte, noRefL, clrA, gcT, gcA, gcIds, reach, rhoOf, heapOf, idxA, genB, newGen, renB, refsB, List.contains_cons, List.range_succ, cb_slices_EqualFunc_api_Prop_api_Prop_api_Prop_api_Prop, b_slices_EqualFunc_api_Prop_api_Prop_api_Prop_api_Prop, cr_slices_EqualFunc_api_Prop_api_Prop_api_Prop_api_Prop, x_slices_EqualFunc_api_Prop_api_Prop_api_Prop_api_Prop_k0, d_slices_EqualFunc_api_Prop_api_Prop_api_Prop_api_Prop_k0, x_slices_EqualFunc_api_Prop_api_Prop_api_Prop_api_Prop_l4, d_slices_EqualFunc_api_Prop_api_Prop_api_Prop_api_Prop_l4, oI, oN, intsV, bytesV, propsV, propV, propC, bytesOf_map, h1, e1, e2, e3, q_alikeC]
    simp only [propsV] at ih
    rw [ih, alike_beq]
    by_cases hx : x = y <;> simp [hx]
theorem q_eqf (a b : List PropD) (hl : a.length ≤ 9223372036854775807) : E 91 [propsV a, propsV b, .fn 92 []] [] = some (.bool (a == b), []) := by
  rw [E_eq (by rfl) cf_slices_EqualFunc_api_Prop_api_Prop_api_Prop_api_Prop]
  by_cases h : a.length = b.length
  · have := q_eql a b h hl a b 0 rfl rfl
    unfold K_slices_EqualFunc_api_Prop_api_Prop_api_Prop_api_Prop_l4 at this
    simp only [propsV] at this
    have e := len_eq h
    simp -implicitDefEqProofs only [EVS0, EVS1, EVS2, EVS3, EVS4, EVS5, EVS6, EVS7, EVL0, EVL1, ite_tf, ite_ft, ite_tft, ite_ftf, ite_list, ite_tt, ite_ee, ite_nt, ite_ne, eq_self, implies_true, forall_const, exI, nsite, freeAt, execI, Opd.ev, tget, tins, tput, keepL, sitesOf, List.sum_cons, List.sum_nil, Nat.reduceAdd, Nat.reduceSub, Nat.reduceLT, Nat.reduceLeDiff, Nat.reduceEqDiff, Nat.reduceBEq, Nat.reduceMul, beq_self_eq_true, Bool.false_eq_true, ldA, stA, partA, faddrA, setAt, binA, arithA, shiftA, strA, unA, gSpan, gSkip, unG, ne_eq, Option.some.injEq, reduceCtorEq, decide_true, decide_false, elemsA, resA, resAll, resOne, enterA, decide_eq_true_eq, Bool.not_eq_true, Bool.decide_eq_true, ite_self, ↓reduceIte, noRefL, clrA, gcT, gcA, gcIds, reach, rhoOf, heapOf, idxA, genB, newGen, renB, refsB, List.contains_cons, List.range_succ, cb_slices_EqualFunc_api_Prop_api_Prop_api_Prop_api_Prop, b_slices_EqualFunc_api_Prop_api_Prop_api_Prop_api_Prop, cr_slices_EqualFunc_api_Prop_api_Prop_api_Prop_api_Prop, x_slices_EqualFunc_api_Prop_api_Prop_api_Prop_api_Prop_k0, d_slices_EqualFunc_api_Prop_api_Prop_api_Prop_api_Prop_k0, x_slices_EqualFunc_api_Prop_api_Prop_api_Prop_api_Prop_l4, d_slices_EqualFunc_api_Prop_api_Prop_api_Prop_api_Prop_l4, oI, oN, intsV, bytesV, propsV, propV, propC, bytesOf_map, e]
    exact this
  · have e := len_ne h
    simp -implicitDefEqProofs only [EVS0, EVS1, EVS2, EVS3, EVS4, EVS5, EVS6, EVS7, EVL0, EVL1, ite_tf, ite_ft, ite_tft, ite_ftf, ite_list, ite_tt, ite_ee, ite_nt, ite_ne, eq_self, implies_true, forall_const, exI, nsite, freeAt, execI, Opd.ev, tget, tins, tput, keepL, sitesOf, List.sum_cons, List.sum_nil, Nat.reduceAdd, Nat.reduceSub, Nat.reduceLT, Nat.reduceLeDiff, Nat.reduceEqDiff, Nat.reduceBEq, Nat.reduceMul, beq_self_eq_true, Bool.false_eq_true, ldA, stA, partA, faddrA, setAt, binA, arithA, shiftA, strA, unA, gSpan, gSkip, unG, ne_eq, Option.some.injEq, reduceCtorEq, decide_true, decide_false, elemsA, resA, resAll, resOne, enterA, decide_eq_true_eq, Bool.not_eq_true, Bool.decide_eq_true, ite_self, ↓reduceIte, noRefL, clrA, gcT, gcA, gcIds, reach, rhoOf, heapOf, idxA, genB, newGen, renB, refsB, List.contains_cons, List.range_succ, cb_slices_EqualFunc_api_Prop_api_Prop_api_Prop_api_Prop, b_slices_EqualFunc_api_Prop_api_Prop_api_Prop_api_Prop, cr_slices_EqualFunc_api_Prop_api_Prop_api_Prop_api_Prop, x_slices_EqualFunc_api_Prop_api_Prop_api_Prop_api_Prop_k0, d_slices_EqualFunc_api_Prop_api_Prop_api_Prop_api_Prop_k0, x_slices_EqualFunc_api_Prop_api_Prop_api_Prop_api_Prop_l4, d_slices_EqualFunc_api_Prop_api_Prop_api_Prop_api_Prop_l4, oI, oN, intsV, bytesV, propsV, propV, propC, bytesOf_map, e, beq_len h]
theorem q_eqfC (σ : AHeap) (site own : Nat) (view : Bool) (a b : List PropD) (hl : a.length ≤ 9223372036854775807) : callG E BY σ site 91 own view [.lst false (a.map propV), .lst false (b.map propV), .fn 92 []] = some (.bool (a == b), σ, {}) :=
  call_flat (q_eqf a b hl) (by kernel_rfl) (by simp -implicitDefEqProofs only [EVS0, EVS1, EVS2, EVS3, EVS4, EVS5, EVS6, EVS7, EVL0, EVL1, eq_self, implies_true, Bool.false_eq_true, intsV, bytesV, propsV, propV, propC, intsV]) (by simp -implicitDefEqProofs only [EVS0, EVS1, EVS2, EVS3, EVS4, EVS5, EVS6, EVS7, EVL0, EVL1, eq_self, implies_true, Bool.false_eq_true, intsV, bytesV, propsV, propV, propC, intsV]) rfl (fun _ => rfl) _ _ _ _
theorem q_psame (a b : List PropD) (hl : a.length ≤ 9223372036854775807) : E 43 [propsV a, propsV b] [] = some (.bool (a == b), []) := by
  rw [E_eq (by rfl) cf_prop_Same]
  simp -implicitDefEqProofs only [EVS0, EVS1, EVS2, EVS3, EVS4, EVS5, EVS6, EVS7, EVL0, EVL1, ite_tf, ite_ft, ite_tft, ite_ftf, ite_list, ite_tt, ite_ee, ite_nt, ite_ne, eq_self, implies_true, forall_const, exI, nsite, freeAt, execI, Opd.ev, tget, tins, tput, keepL, sitesOf, List.sum_cons, List.sum_nil, Nat.reduceAdd, Nat.reduceSub, Nat.reduceLT, Nat.reduceLeDiff, Nat.reduceEqDiff, Nat.reduceBEq, Nat.reduceMul, beq_self_eq_true, Bool.false_eq_true, ldA, stA, partA, faddrA, setAt, binA, arithA, shiftA, strA, unA, gSpan, gSkip, unG, ne_eq, Option.some.injEq, reduceCtorEq, decide_true, decide_false, elemsA, resA, resAll, resOne, enterA, decide_eq_true_eq, Bool.not_eq_true, Bool.decide_eq_true, ite_self, ↓reduceIte, noRefL, clrA, gcT, gcA, gcIds, reach, rhoOf, heapOf, idxA, genB, newGen, renB, refsB, List.contains_cons, List.range_succ, cb_prop_Same, b_prop_Same, cr_prop_Same, oI, oN, intsV, bytesV, propsV, propV, propC, bytesOf_map, q_eqfC, hl]
theorem q_psameC (σ : AHeap) (site own : Nat) (view : Bool) (a b : List PropD) (hl : a.length ≤ 9223372036854775807) : callG E BY σ site 43 own view [.lst false (a.map propV), .lst false (b.map propV)] = some (.bool (a == b), σ, {}) :=
  call_flat (q_psame a b hl) (by kernel_rfl) (by simp -implicitDefEqProofs only [EVS0, EVS1, EVS2, EVS3, EVS4, EVS5, EVS6, EVS7, EVL0, EVL1, eq_self, implies_true, Bool.false_eq_true, intsV, bytesV, propsV, propV, propC, intsV]) (by simp -implicitDefEqProofs only [EVS0, EVS1, EVS2, EVS3, EVS4, EVS5, EVS6, EVS7, EVL0, EVL1, eq_self, implies_true, Bool.false_eq_true, intsV, bytesV, propsV, propV, propC, intsV]) rfl (fun _ => rfl) _ _ _ _
end Go.Proofs.YtmlkhhidifjjfaaDoor
namespace Go.Proofs.YtmlkhhidifjjfaaDoor
set_option linter.unusedSimpArgs false
set_option linter.unusedVariables false
set_option maxHeartbeats 8000000
set_option maxRecDepth 10000
theorem take_bytes (b : Bytes) : List.take b.length (b.map byteV) = b.map byteV := List.take_of_length_le (by simp)
def u64N (x : Int) : Nat := (x % 18446744073709551616).toNat
theorem wrap_u64N (x : Int) : IntKind.u64.wrap x = ((u64N x : Nat) : Int) := by rw [IntKind.wrap_u64, u64N]; omega
def laidK (k : Int) (p : PropD) : Bytes × Bytes :=
  if k = 1 then (beB (u64N p.num) 1, []) else if k = 2 then (beB (u64N p.num) 2, []) else if k = 3 then (beB (u64N p.num) 4, [])
  else if k = 4 then ((varF p.num).1, []) else if k = 5 then ((textF p.text).1, []) else if k = 6 then ((dataF p.data).1, [])
  else if k = 7 then ((textF p.text).1, (textF p.pair).1) else ([], [])
def laidF (p : PropD) : Bytes := (varF p.id).1 ++ ((laidK (kindI p.id) p).1 ++ (laidK (kindI p.id) p).2)
theorem varL_len : ∀ k n : Nat, (varL k n).length ≤ k + 1
  | 0, n => by simp [varL]
  | k + 1, n => by
    unfold varL
    split
    · simp
    · have := varL_len k (n / 128)
      simp only [List.length_cons]; omega
theorem varF_len (n : Int) : (varF n).1.length ≤ 4 := by
  unfold varF
  split
  · simp
  · exact varL_len 3 _
theorem dataF_len (b : Bytes) : (dataF b).1.length ≤ 65537 := by
  unfold dataF
  split
  · simp
  · simp only [List.length_append, beB_len]; omega
theorem textF_len (b : Bytes) : (textF b).1.length ≤ 65537 := by
  unfold textF
  split
  · exact dataF_len b
  · simp
theorem laidK_len (k : Int) (p : PropD) : (laidK k p).1.length ≤ 65537 ∧ (laidK k p).2.length ≤ 65537 := by
  have h1 := varF_len p.num
  have h2 := textF_len p.text
  have h3 := textF_len p.pair
  have h4 := dataF_len p.data
  unfold laidK
  repeat' split
  all_goals simp only [beB_len, List.length_nil]
  all_goals omega
theorem laidF_len (p : PropD) : (laidF p).length ≤ 200000 := by
  have h1 := varF_len p.id
  have h2 := laidK_len (kindI p.id) p
  unfold laidF
  simp only [List.length_append]; omega
theorem q_join3 (σ : AHeap) (site own : Nat) (f : Bool) (a v w : Bytes) (h : a.length + (v.length + w.length) ≤ 140737488355328) : callG E BY σ site 56 own true [.lst f [.lst false (a.map byteV), .lst false (v.map byteV), .lst false (w.map byteV)]] = some (.lst false ((a ++ (v ++ w)).map byteV), σ, {}) := by
  have := q_joinC σ site own f a [v, w] (by simp) (by simpa using h)
  simpa only [List.map_cons, List.map_nil, bytesV, List.flatten_cons, List.flatten_nil, List.append_nil] using this
theorem q_laidn (p : PropD) (k : Int) (W : Nat) (hk : kindI p.id = k) (hW : (k = 1 ∧ W = 1) ∨ (k = 2 ∧ W = 2) ∨ (k = 3 ∧ W = 4)) : E 89 [propV p] [] = some (.lst false (((varF p.id).1 ++ (beB (u64N p.num) W ++ [])).map byteV), []) := by
  have hK := fun σ site own => q_kindC σ site own p.id
  have hV := fun σ site own => q_varC σ site own p.id
  unfold varT at hV
  have l0 := varF_len p.id
  have hP := fun σ site own => q_putC σ site own (u64N p.num) W (by omega) (by omega)
  have hJ := fun σ site own f => q_join3 σ site own f (varF p.id).1 (beB (u64N p.num) W) [] (by simp only [beB_len, List.length_nil]; omega)
  simp only [List.map_nil] at hJ
  have hu := wrap_u64N p.num
  rw [hk] at hK
  generalize beB (u64N p.num) W = B at *
  have z1 : ((1 : Nat) : Int) = 1 := rfl
  have z2 : ((2 : Nat) : Int) = 2 := rfl
  have z4 : ((4 : Nat) : Int) = 4 := rfl
  rcases hW with ⟨rfl, rfl⟩ | ⟨rfl, rfl⟩ | ⟨rfl, rfl⟩
  · have w1 : IntKind.i64.wrap (1 - 1) = 0 := rfl
    have w2 : IntKind.i64.wrap (1 * 2 ^ min (Int.toNat 0) IntKind.i64.bits) = 1 := rfl
    have ng : ¬ ((0 : Int) < 0) := by decide
    rw [z1] at hP
    rw [E_eq (by rfl) cf_prop_laid]
    simp -implicitDefEqProofs only [EVS0, EVS1, EVS2, EVS3, EVS4, EVS5, EVS6, EVS7, EVL0, EVL1, ite_tf, ite_ft, ite_tft, ite_ftf, ite_list, ite_tt, ite_ee, ite_nt, ite_ne, eq_self, implies_true, forall_const, exI, nsite, freeAt, execI, Opd.ev, tget, tins, tput, keepL, sitesOf, List.sum_cons, List.sum_nil, Nat.reduceAdd, Nat.reduceSub, Nat.reduceLT, Nat.reduceLeDiff, Nat.reduceEqDiff, Nat.reduceBEq, Nat.reduceMul, beq_self_eq_true, Bool.false_eq_true, ldA, stA, partA, faddrA, setAt, binA, arithA, shiftA, strA, unA, gSpan, gSkip, unG, ne_eq, Option.some.injEq, reduceCtorEq, decide_true, decide_false, elemsA, resA, resAll, resOne, enterA, decide_eq_true_eq, Bool.not_eq_true, Bool.decide_eq_true, ite_self, ↓reduceIte, noRefL, clrA, gcT, gcA, gcIds, reach, rhoOf, heapOf, idxA, genB, newGen, renB, refsB, List.contains_cons, List.range_succ, cb_prop_laid, b_prop_laid, cr_prop_laid, oI, oN, intsV, bytesV, propsV, propV, propC, bytesOf_map, hK, hV, hP, hJ, hu, w1, w2, ng, Int.reduceBEq, reg_some, regC_some, chkA_cons, chkA_nil, pairFree_eq, emptyOp_eq, noWr_eq, List.getD_cons_zero, List.getD_cons_succ, isCallI, isLdI, gotOk, same1, List.lookup_cons, List.lookup_nil, appA, kOk, viewAs, viewA, viewA1, viewsA, freezeA, List.foldl_cons, List.foldl_nil, List.length_singleton, Nat.one_mul, AVal.cells]
  · have w1 : IntKind.i64.wrap (2 - 1) = 1 := rfl
    have w2 : IntKind.i64.wrap (1 * 2 ^ min (Int.toNat 1) IntKind.i64.bits) = 2 := rfl
    have ng : ¬ ((1 : Int) < 0) := by decide
    rw [z2] at hP
    rw [E_eq (by rfl) cf_prop_laid]
    simp -implicitDefEqProofs only [EVS0, EVS1, EVS2, EVS3, EVS4, EVS5, EVS6, EVS7, EVL0, EVL1, ite_tf, ite_ft, ite_tft, ite_ftf, ite_list, ite_tt, ite_ee, ite_nt, ite_ne, eq_self, implies_true, forall_const, exI, nsite, freeAt, execI, Opd.ev, tget, tins, tput, keepL, sitesOf, List.sum_cons, List.sum_nil, Nat.reduceAdd, Nat.reduceSub, Nat.reduceLT, Nat.reduceLeDiff, Nat.reduceEqDiff, Nat.reduceBEq, Nat.reduceMul, beq_self_eq_true, Bool.false_eq_true, ldA, stA, partA, faddrA, setAt, binA, arithA, shiftA, strA, unA, gSpan, gSkip, unG, ne_eq, Option.some.injEq, reduceCtorEq, decide_true, decide_false, elemsA, resA, resAll, resOne, enterA, decide_eq_true_eq, Bool.not_eq_true, Bool.decide_eq_true, ite_self, ↓reduceIte, noRefL, clrA, gcT, gcA, gcIds, reach, rhoOf, heapOf, idxA, genB, newGen, renB, refsB, List.contains_cons, List.range_succ, cb_prop_laid, b_prop_laid, cr_prop_laid, oI, oN, intsV, bytesV, propsV, propV, propC, bytesOf_map, hK, hV, hP, hJ, hu, w1, w2, ng, Int.reduceBEq, reg_some, regC_some, chkA_cons, chkA_nil, pairFree_eq, emptyOp_eq, noWr_eq, List.getD_cons_zero, List.getD_cons_succ, isCallI, isLdI, gotOk, same1, List.lookup_cons, List.lookup_nil, appA, kOk, viewAs, viewA, viewA1, viewsA, freezeA, List.foldl_cons, List.foldl_nil, List.length_singleton, Nat.one_mul, AVal.cells]
  · have w1 : IntKind.i64.wrap (3 - 1) = 2 := rfl
    have w2 : IntKind.i64.wrap (1 * 2 ^ min (Int.toNat 2) IntKind.i64.bits) = 4 := rfl
    have ng : ¬ ((2 : Int) < 0) := by decide
    rw [z4] at hP
    rw [E_eq (by rfl) cf_prop_laid]
    simp -implicitDefEqProofs only [EVS0, EVS1, EVS2, EVS3, EVS4, EVS5, EVS6, EVS7, EVL0, EVL1, ite_tf, ite_ft, ite_tft, ite_ftf, ite_list, ite_tt, ite_ee, ite_nt, ite_ne, eq_self, implies_true, forall_const, exI, nsite, freeAt, execI, Opd.ev, tget, tins, tput, keepL, sitesOf, List.sum_cons, List.sum_nil, Nat.reduceAdd, Nat.reduceSub, Nat.reduceLT, Nat.reduceLeDiff, Nat.reduceEqDiff, Nat.reduceBEq, Nat.reduceMul, beq_self_eq_true, Bool.false_eq_true, ldA, stA, partA, faddrA, setAt, binA, arithA, shiftA, strA, unA, gSpan, gSkip, unG, ne_eq, Option.some.injEq, reduceCtorEq, decide_true, decide_false, elemsA, resA, resAll, resOne, enterA, decide_eq_true_eq, Bool.not_eq_true, Bool.decide_eq_true, ite_self, ↓reduceIte, noRefL, clrA, gcT, gcA, gcIds, reach, rhoOf, heapOf, idxA, genB, newGen, renB, refsB, List.contains_cons, List.range_succ, cb_prop_laid, b_prop_laid, cr_prop_laid, oI, oN, intsV, bytesV, propsV, propV, propC, bytesOf_map, hK, hV, hP, hJ, hu, w1, w2, ng, Int.reduceBEq, reg_some, regC_some, chkA_cons, chkA_nil, pairFree_eq, emptyOp_eq, noWr_eq, List.getD_cons_zero, List.getD_cons_succ, isCallI, isLdI, gotOk, same1, List.lookup_cons, List.lookup_nil, appA, kOk, viewAs, viewA, viewA1, viewsA, freezeA, List.foldl_cons, List.foldl_nil, List.length_singleton, Nat.one_mul, AVal.cells]
theorem q_laid (p : PropD) (ht : p.text.length ≤ 9223372036854775807) (hp : p.pair.length ≤ 9223372036854775807) (hd : p.data.length ≤ 9223372036854775807) : E 89 [propV p] [] = some (.lst false ((laidF p).map byteV), []) := by
  have hK := fun σ site own => q_kindC σ site own p.id
  have hV := fun σ site own => q_varC σ site own p.id
  unfold varT at hV
  have l0 := varF_len p.id
  unfold laidF
  rcases kind_cases p.id with hk | hk | hk | hk | hk | hk | hk | hk
  · rw [hk] at hK ⊢
    rw [show laidK 0 p = ([], []) from rfl, E_eq (by rfl) cf_prop_laid]
    have hJ := fun σ site own f => q_join3 σ site own f (varF p.id).1 [] [] (by simp only [List.length_nil]; omega)
    simp only [List.map_nil] at hJ
    simp -implicitDefEqProofs only [EVS0, EVS1, EVS2, EVS3, EVS4, EVS5, EVS6, EVS7, EVL0, EVL1, ite_tf, ite_ft, ite_tft, ite_ftf, ite_list, ite_tt, ite_ee, ite_nt, ite_ne, eq_self, implies_true, forall_const, exI, nsite, freeAt, execI, Opd.ev, tget, tins, tput, keepL, sitesOf, List.sum_cons, List.sum_nil, Nat.reduceAdd, Nat.reduceSub, Nat.reduceLT, Nat.reduceLeDiff, Nat.reduceEqDiff, Nat.reduceBEq, Nat.reduceMul, beq_self_eq_true, Bool.false_eq_true, ldA, stA, partA, faddrA, setAt, binA, arithA, shiftA, strA, unA, gSpan, gSkip, unG, ne_eq, Option.some.injEq, reduceCtorEq, decide_true, decide_false, elemsA, resA, resAll, resOne, enterA, decide_eq_true_eq, Bool.not_eq_true, Bool.decide_eq_true, ite_self, ↓reduceIte, noRefL, clrA, gcT, gcA, gcIds, reach, rhoOf, heapOf, idxA, genB, newGen, renB, refsB, List.contains_cons, List.range_succ, cb_prop_laid, b_prop_laid, cr_prop_laid, oI, oN, intsV, bytesV, propsV, propV, propC, bytesOf_map, hK, hV, hJ, Int.reduceBEq, appA, kOk, viewAs, viewA, viewA1, viewsA, freezeA, List.foldl_cons, List.foldl_nil, List.length_singleton, Nat.one_mul, AVal.cells]
  · have h := q_laidn p 1 1 hk (by simp)
    rw [hk]; exact h
  · have h := q_laidn p 2 2 hk (by simp)
    rw [hk]; exact h
  · have h := q_laidn p 3 4 hk (by simp)
    rw [hk]; exact h
  · rw [hk] at hK ⊢
    rw [show laidK 4 p = ((varF p.num).1, []) from rfl, E_eq (by rfl) cf_prop_laid]
    have l1 := varF_len p.num
    have hJ := fun σ site own f => q_join3 σ site own f (varF p.id).1 (varF p.num).1 [] (by simp only [List.length_nil]; omega)
    simp only [List.map_nil] at hJ
    have hV2 := fun σ site own => q_varC σ site own p.num
    unfold varT at hV2
    simp -implicitDefEqProofs only [EVS0, EVS1, EVS2, EVS3, EVS4, EVS5, EVS6, EVS7, EVL0, EVL1, ite_tf, ite_ft, ite_tft, ite_ftf, ite_list, ite_tt, ite_ee, ite_nt, ite_ne, eq_self, implies_true, forall_const, exI, nsite, freeAt, execI, Opd.ev, tget, tins, tput, keepL, sitesOf, List.sum_cons, List.sum_nil, Nat.reduceAdd, Nat.reduceSub, Nat.reduceLT, Nat.reduceLeDiff, Nat.reduceEqDiff, Nat.reduceBEq, Nat.reduceMul, beq_self_eq_true, Bool.false_eq_true, ldA, stA, partA, faddrA, setAt, binA, arithA, shiftA, strA, unA, gSpan, gSkip, unG, ne_eq, Option.some.injEq, reduceCtorEq, decide_true, decide_false, elemsA, resA, resAll, resOne, enterA, decide_eq_true_eq, Bool.not_eq_true, Bool.decide_eq_true, ite_self, ↓reduceIte, noRefL, clrA, gcT, gcA, gcIds, reach, rhoOf, heapOf, idxA, genB, newGen, renB, refsB, List.contains_cons, List.range_succ, cb_prop_laid, b_prop_laid, cr_prop_laid, oI, oN, intsV, bytesV, propsV, propV, propC, bytesOf_map, hK, hV, hV2, hJ, Int.reduceBEq, appA, kOk, viewAs, viewA, viewA1, viewsA, freezeA, List.foldl_cons, List.foldl_nil, List.length_singleton, Nat.one_mul, AVal.cells]
  · rw [hk] at hK ⊢
    rw [show laidK 5 p = ((textF p.text).1, []) from rfl, E_eq (by rfl) cf_prop_laid]
    have l1 := textF_len p.text
    have hJ := fun σ site own f => q_join3 σ site own f (varF p.id).1 (textF p.text).1 [] (by simp only [List.length_nil]; omega)
    simp only [List.map_nil] at hJ
    have hV2 := fun σ site own => q_textC σ site own p.text ht
    unfold byT at hV2
    simp -implicitDefEqProofs only [EVS0, EVS1, EVS2, EVS3, EVS4, EVS5, EVS6, EVS7, EVL0, EVL1, ite_tf, ite_ft, ite_tft, ite_ftf, ite_list, ite_tt, ite_ee, ite_nt, ite_ne, eq_self, implies_true, forall_const, exI, nsite, freeAt, execI, Opd.ev, tget, tins, tput, keepL, sitesOf, List.sum_cons, List.sum_nil, Nat.reduceAdd, Nat.reduceSub, Nat.reduceLT, Nat.reduceLeDiff, Nat.reduceEqDiff, Nat.reduceBEq, Nat.reduceMul, beq_self_eq_true, Bool.false_eq_true, ldA, stA, partA, faddrA, setAt, binA, arithA, shiftA, strA, unA, gSpan, gSkip, unG, ne_eq, Option.some.injEq, reduceCtorEq, decide_true, decide_false, elemsA, resA, resAll, resOne, enterA, decide_eq_true_eq, Bool.not_eq_true, Bool.decide_eq_true, ite_self, ↓reduceIte, noRefL, clrA, gcT, gcA, gcIds, reach, rhoOf, heapOf, idxA, genB, newGen, renB, refsB, List.contains_cons, List.range_succ, cb_prop_laid, b_prop_laid, cr_prop_laid, oI, oN, intsV, bytesV, propsV, propV, propC, bytesOf_map, hK, hV, hV2, hJ, Int.reduceBEq, appA, kOk, viewAs, viewA, viewA1, viewsA, freezeA, List.foldl_cons, List.foldl_nil, List.length_singleton, Nat.one_mul, AVal.cells]
  · rw [hk] at hK ⊢
    rw [show laidK 6 p = ((dataF p.data).1, []) from rfl, E_eq (by rfl) cf_prop_laid]
    have l1 := dataF_len p.data
    have hJ := fun σ site own f => q_join3 σ site own f (varF p.id).1 (dataF p.data).1 [] (by simp only [List.length_nil]; omega)
    simp only [List.map_nil] at hJ
    have hV2 := fun σ site own f => q_dataC σ site own f p.data hd
    unfold byT at hV2
    simp -implicitDefEqProofs only [EVS0, EVS1, EVS2, EVS3, EVS4, EVS5, EVS6, EVS7, EVL0, EVL1, ite_tf, ite_ft, ite_tft, ite_ftf, ite_list, ite_tt, ite_ee, ite_nt, ite_ne, eq_self, implies_true, forall_const, exI, nsite, freeAt, execI, Opd.ev, tget, tins, tput, keepL, sitesOf, List.sum_cons, List.sum_nil, Nat.reduceAdd, Nat.reduceSub, Nat.reduceLT, Nat.reduceLeDiff, Nat.reduceEqDiff, Nat.reduceBEq, Nat.reduceMul, beq_self_eq_true, Bool.false_eq_true, ldA, stA, partA, faddrA, setAt, binA, arithA, shiftA, strA, unA, gSpan, gSkip, unG, ne_eq, Option.some.injEq, reduceCtorEq, decide_true, decide_false, elemsA, resA, resAll, resOne, enterA, decide_eq_true_eq, Bool.not_eq_true, Bool.decide_eq_true, ite_self, ↓reduceIte, noRefL, clrA, gcT, gcA, gcIds, reach, rhoOf, heapOf, idxA, genB, newGen, renB, refsB, List.contains_cons, List.range_succ, cb_prop_laid, b_prop_laid, cr_prop_laid, oI, oN, intsV, bytesV, propsV, propV, propC, bytesOf_map, hK, hV, hV2, hJ, Int.reduceBEq, appA, kOk, viewAs, viewA, viewA1, viewsA, freezeA, List.foldl_cons, List.foldl_nil, List.length_singleton, Nat.one_mul, AVal.cells]
  · rw [hk] at hK ⊢
    rw [show laidK 7 p = ((textF p.text).1, (textF p.pair).1) from rfl, E_eq (by rfl) cf_prop_laid]
    have l1 := textF_len p.text
    have l2 := textF_len p.pair
    have hJ := fun σ site own f => q_join3 σ site own f (varF p.id).1 (textF p.text).1 (textF p.pair).1 (by omega)
    have hV2 := fun σ site own => q_textC σ site own p.text ht
    have hV3 := fun σ site own => q_textC σ site own p.pair hp
    unfold byT at hV2 hV3
    simp -implicitDefEqProofs only [EVS0, EVS1, EVS2, EVS3, EVS4, EVS5, EVS6, EVS7, EVL0, EVL1, ite_tf, ite_ft, ite_tft, ite_ftf, ite_list, ite_tt, ite_ee, ite_nt, ite_ne, eq_self, implies_true, forall_const, exI, nsite, freeAt, execI, Opd.ev, tget, tins, tput, keepL, sitesOf, List.sum_cons, List.sum_nil, Nat.reduceAdd, Nat.reduceSub, Nat.reduceLT, Nat.reduceLeDiff, Nat.reduceEqDiff, Nat.reduceBEq, Nat.reduceMul, beq_self_eq_true, Bool.false_eq_true, ldA, stA, partA, faddrA, setAt, binA, arithA, shiftA, strA, unA, gSpan, gSkip, unG, ne_eq, Option.some.injEq, reduceCtorEq, decide_true, decide_false, elemsA, resA, resAll, resOne, enterA, decide_eq_true_eq, Bool.not_eq_true, Bool.decide_eq_true, ite_self, ↓reduceIte, noRefL, clrA, gcT, gcA, gcIds, reach, rhoOf, heapOf, idxA, genB, newGen, renB, refsB, List.contains_cons, List.range_succ, cb_prop_laid, b_prop_laid, cr_prop_laid, oI, oN, intsV, bytesV, propsV, propV, propC, bytesOf_map, hK, hV, hV2, hV3, hJ, Int.reduceBEq, appA, kOk, viewAs, viewA, viewA1, viewsA, freezeA, List.foldl_cons, List.foldl_nil, List.length_singleton, Nat.one_mul, AVal.cells]
/-- a property whose texts are no longer than Go's greatest number -/
def OkTx (p : PropD) : Prop := p.text.length ≤ 9223372036854775807 ∧ p.pair.length ≤ 9223372036854775807 ∧ p.data.length ≤ 9223372036854775807
theorem q_laidC (σ : AHeap) (site own : Nat) (p : PropD) (h : OkTx p) : callG E BY σ site 89 own true [.agg [.int .i64 p.id, .int .i64 p.num, .str p.text, .str p.pair, .lst false (p.data.map byteV)]] = some (.lst false ((laidF p).map byteV), σ, {}) :=
  call_normT (q_laid p h.1 h.2.1 h.2.2) (by kernel_rfl) rfl rfl rfl (fun _ => rfl) _ _ _
/-- what is laid behind the row's count is read again -/
def layE (w : Int) (l : List PropD) (b : Bytes) : Bytes × Int :=
  if (varF b.length).2 ≠ 0 then ([], 129)
  else if (readF w ((varF b.length).1 ++ b)).2.2 ≠ 0 ∨ (readF w ((varF b.length).1 ++ b)).2.1 ≠ ((varF b.length).1 ++ b).length ∨ ((readF w ((varF b.length).1 ++ b)).1 == l) = false then ([], 129)
  else ((varF b.length).1 ++ b, 0)
def layF (w : Int) (l : List PropD) : Bytes × Int := layE w l (l.map laidF).flatten
theorem q_join2 (σ : AHeap) (site own : Nat) (f : Bool) (a v : Bytes) (h : a.length + v.length ≤ 140737488355328) : callG E BY σ site 56 own true [.lst f [.lst false (a.map byteV), .lst false (v.map byteV)]] = some (.lst false ((a ++ v).map byteV), σ, {}) := by
  have := q_joinC σ site own f a [v] (by simp) (by simpa using h)
  simpa only [List.map_cons, List.map_nil, bytesV, List.flatten_cons, List.flatten_nil, List.append_nil] using this
end Go.Proofs.YtmlkhhidifjjfaaDoor
namespace Go.Proofs.YtmlkhhidifjjfaaDoor
set_option linter.unusedSimpArgs false
set_option linter.unusedVariables false
set_option maxHeartbeats 8000000
set_option maxRecDepth 10000
theorem readL_len (w : Int) : ∀ (n : Nat) (b : Bytes) (l : List PropD), (readL w n b l).1.length ≤ l.length + b.length
  | n, [], l => by rw [readL_nil]; simp
  | 0, c :: r, l => by simp [readL]
  | n + 1, c :: r, l => by
    rw [readL_cons]
    split
    · rename_i h
      have hu := one_used h
      have ih := readL_len w n ((c :: r).drop (oneF w (c :: r) l).2.1) (l ++ [(oneF w (c :: r) l).1])
      rw [List.length_drop, List.length_append, List.length_singleton] at ih
      omega
    · simp
theorem readF_len (w : Int) (b : Bytes) : (readF w b).1.length ≤ b.length := by
  unfold readF
  split
  · simp
  · split
    · have := readL_len w (getVarF b).1 ((b.take ((getVarF b).2.1 + (getVarF b).1)).drop (getVarF b).2.1) []
      simp only [List.length_drop, List.length_take, List.length_nil] at this
      simp only
      omega
    · simp
def okV (k : Int) (p : PropD) : Bool :=
  if k = 1 then decide (p.num ≥ 0) && decide (p.num < 256) else if k = 2 then decide (p.num ≥ 0) && decide (p.num < 65536) else if k = 3 then decide (p.num ≥ 0) && decide (p.num < 4294967296)
  else if k = 4 then (varF p.num).2 == 0 else if k = 5 then (textF p.text).2 == 0 else if k = 6 then (dataF p.data).2 == 0
  else if k = 7 then (textF p.text).2 == 0 && (textF p.pair).2 == 0 else false
def goodB (p : PropD) : Bool := !(decide (p.id < 1) || decide (p.id > 127)) && okV (kindI p.id) p
theorem getU1 (b : Bytes) (h : b.length ≤ 1) : getU b < 256 := by
  unfold getU
  match b, h with
  | [], _ => simp [getA_nil]
  | [a], _ => rw [getA_cons, getA_nil]; have := a.toNat_lt; omega
theorem getData_len (b : Bytes) : (getDataF b).1.length ≤ 65535 := by
  unfold getDataF
  split
  · simp
  · have := getU2 (b.take 2) (by simp; omega)
    simp only [List.length_take, List.length_drop]
    omega
theorem data_ok {b : Bytes} (h : b.length ≤ 65535) : (dataF b).2 = 0 := by
  unfold dataF
  rw [if_neg (by omega)]
theorem var_ok {n : Nat} (h : n < 268435456) : (varF (n : Int)).2 = 0 := by
  unfold varF
  rw [if_neg (by omega)]
theorem tab_kind {id : Int} (h : inTab id) : 1 ≤ id ∧ id ≤ 127 ∧ kindI id ≠ 0 := by
  rcases h with rfl | rfl | rfl | rfl | rfl | rfl | rfl | rfl | rfl | rfl | rfl | rfl | rfl | rfl | rfl | rfl | rfl | rfl | rfl | rfl | rfl | rfl | rfl | rfl | rfl | rfl | rfl
  all_goals decide
/-- the bytes behind the number -/
def valB (p : PropD) : Bytes := (laidK (kindI p.id) p).1 ++ (laidK (kindI p.id) p).2
theorem laid_good {p : PropD} (h : ¬ (p.id < 1 ∨ p.id > 127)) : laidF p = UInt8.ofNat p.id.toNat :: valB p := by
  unfold laidF valB
  have e : (varF p.id).1 = [UInt8.ofNat p.id.toNat] := by
    unfold varF
    rw [if_neg (by omega)]
    simp only [varL]
    rw [if_pos (by omega)]
  rw [e]; rfl
end Go.Proofs.YtmlkhhidifjjfaaDoor
namespace Go.Proofs.YtmlkhhidifjjfaaDoor
set_option linter.unusedSimpArgs false
set_option linter.unusedVariables false
set_option maxHeartbeats 8000000
set_option maxRecDepth 10000
def layV (f : Bool) (x : Bytes × Int) : AVal := .tup [.lst f (x.1.map byteV), .int .i64 x.2]

/-- behind the loop -/
theorem q_play0 (w : Int) (l : List PropD) (hl : l.length ≤ 9223372036854775807) (b : Bytes) (hb : b.length ≤ 140737488355000) (i : Nat) (h1 : ¬ (i : Int) < l.length) :
    ∃ f, K_prop_Lay_l3 0 [(16, .int .i64 i), (15, .int .i64 l.length), (14, .lst false (l.map propV)), (6, .sl 0 0 0 b.length), (1, .lst false (l.map propV)), (0, .int .i64 w)] [.row 0 1 (b.map byteV)] = some (layV f (layE w l b), []) := by
  have hV := fun σ site own => q_varC σ site own (b.length : Int)
  unfold varT at hV
  have l0 := varF_len (b.length : Int)
  have hJ := fun σ site own f => q_join2 σ site own f (varF b.length).1 b (by omega)
  have hR := fun σ site own f => q_preadC σ site own f w ((varF b.length).1 ++ b) (by simp; omega)
  have hS := fun σ site own view (a : List PropD) (ha : a.length ≤ 9223372036854775807) => q_psameC σ site own view a l ha
  have ht := take_bytes b
  have hlen : ((varF b.length).1 ++ b).length ≤ 140737488355328 := by simp; omega
  have hrl := readF_len w ((varF b.length).1 ++ b)
  unfold layE layV
  generalize varF b.length = V at *
  obtain ⟨v, e⟩ := V
  simp only at hV hJ hR hlen hrl ⊢
  generalize hc : v ++ b = c at *
  generalize readF w c = R at *
  obtain ⟨again, used, code⟩ := R
  simp only at hR hrl ⊢
  have hS2 := fun σ site own view => hS σ site own view again (by omega)
  unfold K_prop_Lay_l3
  by_cases he : e = 0
  · subst he
    have n0 : ((0 : Int) != 0) = false := rfl
    rw [if_neg (by simp)]
    by_cases hc0 : code = 0
    · subst hc0
      by_cases hu : used = c.length
      · have n2 : ((used : Int) != (c.length : Int)) = false := by simp [hu]
        cases hs : (again == l) <;> rw [hs] at hS2
        · refine ⟨true, ?_⟩
          rw [if_pos (by simp), evL_eq]
          simp -implicitDefEqProofs only [EVS0, EVS1, EVS2, EVS3, EVS4, EVS5, EVS6, EVS7, EVL0, EVL1, ite_tf, ite_ft, ite_tft, ite_ftf, ite_list, ite_tt, ite_ee, ite_nt, ite_ne, eq_self, implies_true, forall_const, exI, nsite, freeAt, execI, Opd.ev, tget, tins, tput, keepL, sitesOf, List.sum_cons, List.sum_nil, Nat.reduceAdd, Nat.reduceSub, Nat.reduceLT, Nat.reduceLeDiff, Nat.reduceEqDiff, Nat.reduceBEq, Nat.reduceMul, beq_self_eq_true, Bool.false_eq_true, ldA, stA, partA, faddrA, setAt, binA, arithA, shiftA, strA, unA, gSpan, gSkip, unG, ne_eq, Option.some.injEq, reduceCtorEq, decide_true, decide_false, elemsA, resA, resAll, resOne, enterA, decide_eq_true_eq, Bool.not_eq_true, Bool.decide_eq_true, ite_self, ↓reduceIte, noRefL, clrA, gcT, gcA, gcIds, reach, rhoOf, heapOf, idxA, genB, newGen, renB, refsB, List.contains_cons, List.range_succ, cb_prop_Lay, b_prop_Lay, cr_prop_Lay, x_prop_Lay_k0, d_prop_Lay_k0, x_prop_Lay_l3, d_prop_Lay_l3, oI, oN, intsV, bytesV, propsV, propV, propC, bytesOf_map, h1, hV, hJ, hR, hS2, ht, n0, n2, appA, viewAs, viewA, viewA1, viewsA, freezeA, List.foldl_cons, List.foldl_nil, List.length_singleton, Nat.one_mul, Nat.le_refl, AVal.cells]
        · refine ⟨false, ?_⟩
          rw [if_neg (by simp [hu]), evL_eq]
          simp -implicitDefEqProofs only [EVS0, EVS1, EVS2, EVS3, EVS4, EVS5, EVS6, EVS7, EVL0, EVL1, ite_tf, ite_ft, ite_tft, ite_ftf, ite_list, ite_tt, ite_ee, ite_nt, ite_ne, eq_self, implies_true, forall_const, exI, nsite, freeAt, execI, Opd.ev, tget, tins, tput, keepL, sitesOf, List.sum_cons, List.sum_nil, Nat.reduceAdd, Nat.reduceSub, Nat.reduceLT, Nat.reduceLeDiff, Nat.reduceEqDiff, Nat.reduceBEq, Nat.reduceMul, beq_self_eq_true, Bool.false_eq_true, ldA, stA, partA, faddrA, setAt, binA, arithA, shiftA, strA, unA, gSpan, gSkip, unG, ne_eq, Option.some.injEq, reduceCtorEq, decide_true, decide_false, elemsA, resA, resAll, resOne, enterA, decide_eq_true_eq, Bool.not_eq_true, Bool.decide_eq_true, ite_self, ↓reduceIte, noRefL, clrA, gcT, gcA, gcIds, reach, rhoOf, heapOf, idxA, genB, newGen, renB, refsB, List.contains_cons, List.range_succ, cb_prop_Lay, b_prop_Lay, cr_prop_Lay, x_prop_Lay_k0, d_prop_Lay_k0, x_prop_Lay_l3, d_prop_Lay_l3, oI, oN, intsV, bytesV, propsV, propV, propC, bytesOf_map, h1, hV, hJ, hR, hS2, ht, n0, n2, appA, viewAs, viewA, viewA1, viewsA, freezeA, List.foldl_cons, List.foldl_nil, List.length_singleton, Nat.one_mul, Nat.le_refl, AVal.cells]
      · have n2 : ((used : Int) != (c.length : Int)) = true := by simp; omega
        refine ⟨true, ?_⟩
        rw [if_pos (by simp [hu]), evL_eq]
        simp -implicitDefEqProofs only [EVS0, EVS1, EVS2, EVS3, EVS4, EVS5, EVS6, EVS7, EVL0, EVL1, ite_tf, ite_ft, ite_tft, ite_ftf, ite_list, ite_tt, ite_ee, ite_nt, ite_ne, eq_self, implies_true, forall_const, exI, nsite, freeAt, execI, Opd.ev, tget, tins, tput, keepL, sitesOf, List.sum_cons, List.sum_nil, Nat.reduceAdd, Nat.reduceSub, Nat.reduceLT, Nat.reduceLeDiff, Nat.reduceEqDiff, Nat.reduceBEq, Nat.reduceMul, beq_self_eq_true, Bool.false_eq_true, ldA, stA, partA, faddrA, setAt, binA, arithA, shiftA, strA, unA, gSpan, gSkip, unG, ne_eq, Option.some.injEq, reduceCtorEq, decide_true, decide_false, elemsA, resA, resAll, resOne, enterA, decide_eq_true_eq, Bool.not_eq_true, Bool.decide_eq_true, ite_self, ↓reduceIte, noRefL, clrA, gcT, gcA, gcIds, reach, rhoOf, heapOf, idxA, genB, newGen, renB, refsB, List.contains_cons, List.range_succ, cb_prop_Lay, b_prop_Lay, cr_prop_Lay, x_prop_Lay_k0, d_prop_Lay_k0, x_prop_Lay_l3, d_prop_Lay_l3, oI, oN, intsV, bytesV, propsV, propV, propC, bytesOf_map, h1, hV, hJ, hR, ht, n0, n2, appA, viewAs, viewA, viewA1, viewsA, freezeA, List.foldl_cons, List.foldl_nil, List.length_singleton, Nat.one_mul, Nat.le_refl, AVal.cells]
    · have n1 : (code != 0) = true := by simpa using hc0
      refine ⟨true, ?_⟩
      rw [if_pos (by simp [hc0]), evL_eq]
      simp -implicitDefEqProofs only [EVS0, EVS1, EVS2, EVS3, EVS4, EVS5, EVS6, EVS7, EVL0, EVL1, ite_tf, ite_ft, ite_tft, ite_ftf, ite_list, ite_tt, ite_ee, ite_nt, ite_ne, eq_self, implies_true, forall_const, exI, nsite, freeAt, execI, Opd.ev, tget, tins, tput, keepL, sitesOf, List.sum_cons, List.sum_nil, Nat.reduceAdd, Nat.reduceSub, Nat.reduceLT, Nat.reduceLeDiff, Nat.reduceEqDiff, Nat.reduceBEq, Nat.reduceMul, beq_self_eq_true, Bool.false_eq_true, ldA, stA, partA, faddrA, setAt, binA, arithA, shiftA, strA, unA, gSpan, gSkip, unG, ne_eq, Option.some.injEq, reduceCtorEq, decide_true, decide_false, elemsA, resA, resAll, resOne, enterA, decide_eq_true_eq, Bool.not_eq_true, Bool.decide_eq_true, ite_self, ↓reduceIte, noRefL, clrA, gcT, gcA, gcIds, reach, rhoOf, heapOf, idxA, genB, newGen, renB, refsB, List.contains_cons, List.range_succ, cb_prop_Lay, b_prop_Lay, cr_prop_Lay, x_prop_Lay_k0, d_prop_Lay_k0, x_prop_Lay_l3, d_prop_Lay_l3, oI, oN, intsV, bytesV, propsV, propV, propC, bytesOf_map, h1, hV, hJ, hR, ht, n0, n1, appA, viewAs, viewA, viewA1, viewsA, freezeA, List.foldl_cons, List.foldl_nil, List.length_singleton, Nat.one_mul, Nat.le_refl, AVal.cells]
  · have n1 : (e != 0) = true := by simpa using he
    refine ⟨true, ?_⟩
    rw [if_pos he, evL_eq]
    simp -implicitDefEqProofs only [EVS0, EVS1, EVS2, EVS3, EVS4, EVS5, EVS6, EVS7, EVL0, EVL1, ite_tf, ite_ft, ite_tft, ite_ftf, ite_list, ite_tt, ite_ee, ite_nt, ite_ne, eq_self, implies_true, forall_const, exI, nsite, freeAt, execI, Opd.ev, tget, tins, tput, keepL, sitesOf, List.sum_cons, List.sum_nil, Nat.reduceAdd, Nat.reduceSub, Nat.reduceLT, Nat.reduceLeDiff, Nat.reduceEqDiff, Nat.reduceBEq, Nat.reduceMul, beq_self_eq_true, Bool.false_eq_true, ldA, stA, partA, faddrA, setAt, binA, arithA, shiftA, strA, unA, gSpan, gSkip, unG, ne_eq, Option.some.injEq, reduceCtorEq, decide_true, decide_false, elemsA, resA, resAll, resOne, enterA, decide_eq_true_eq, Bool.not_eq_true, Bool.decide_eq_true, ite_self, ↓reduceIte, noRefL, clrA, gcT, gcA, gcIds, reach, rhoOf, heapOf, idxA, genB, newGen, renB, refsB, List.contains_cons, List.range_succ, cb_prop_Lay, b_prop_Lay, cr_prop_Lay, x_prop_Lay_k0, d_prop_Lay_k0, x_prop_Lay_l3, d_prop_Lay_l3, oI, oN, intsV, bytesV, propsV, propV, propC, bytesOf_map, h1, hV, ht, n1, appA, viewAs, viewA, viewA1, viewsA, freezeA, List.foldl_cons, List.foldl_nil, List.length_singleton, Nat.one_mul, Nat.le_refl, AVal.cells]
theorem q_playl (w : Int) (l : List PropD) (hl : l.length ≤ 9223372036854775807) (hx : ∀ p ∈ l, OkTx p) : ∀ (r : List PropD) (i : Nat) (acc : Bytes), l.drop i = r → acc.length + r.length * 200000 ≤ 140737488355000 →
    ∃ f, K_prop_Lay_l3 0 [(16, .int .i64 i), (15, .int .i64 l.length), (14, .lst false (l.map propV)), (6, .sl 0 0 0 acc.length), (1, .lst false (l.map propV)), (0, .int .i64 w)] [.row 0 1 (acc.map byteV)] = some (layV f (layE w l (acc ++ (r.map laidF).flatten)), [])
  | [], i, acc, h, hn => by
    simp only [List.map_nil, List.flatten_nil, List.append_nil]
    exact q_play0 w l hl acc (by simpa using hn) i (drop_nil h)
  | p :: r, i, acc, h, hn => by
    have hlp := laidF_len p
    simp only [List.length_cons] at hn
    obtain ⟨f, ih⟩ := q_playl w l hl hx r (i + 1) (acc ++ laidF p) (drop_at h).2.1 (by rw [List.length_append]; omega)
    refine ⟨f, ?_⟩
    have h1 : (i : Int) < l.length := by have := (drop_at h).2.2; omega
    have e1 := iad (drop_at h).1 propV (k := 5) rfl
    have e3 := wrap_succ h1 hl
    have hC := fun σ site own => q_laidC σ site own p (hx p (List.mem_of_getElem? (drop_at h).1))
    rw [List.append_assoc] at ih
    rw [List.map_cons, List.flatten_cons]
    generalize laidF p = q at *
    have k1 := kokB q
    have k2 : (acc.length + q.length) * 1 ≤ 140737488355328 := by omega
    have e4 : (acc ++ q).map byteV = acc.map byteV ++ q.map byteV := by simp
    have e5 : (acc ++ q).length = acc.length + q.length := by simp
    rw [e4, e5] at ih
    unfold K_prop_Lay_l3 at ih ⊢
    rw [evL_eq]
    simp -implicitDefEqProofs only [EVS0, EVS1, EVS2, EVS3, EVS4, EVS5, EVS6, EVS7, EVL0, EVL1, ite_tf, ite_ft, ite_tft, ite_ftf, ite_list, ite_tt, ite_ee, ite_nt, ite_ne, eq_self, implies_true, forall_const, exI, nsite, freeAt, execI, Opd.ev, tget, tins, tput, keepL, sitesOf, List.sum_cons, List.sum_nil, Nat.reduceAdd, Nat.reduceSub, Nat.reduceLT, Nat.reduceLeDiff, Nat.reduceEqDiff, Nat.reduceBEq, Nat.reduceMul, beq_self_eq_true, Bool.false_eq_true, ldA, stA, partA, faddrA, setAt, binA, arithA, shiftA, strA, unA, gSpan, gSkip, unG, ne_eq, Option.some.injEq, reduceCtorEq, decide_true, decide_false, elemsA, resA, resAll, resOne, enterA, decide_eq_true_eq, Bool.not_eq_true, Bool.decide_eq_true, ite_self, ↓reduceIte, noRefL, clrA, gcT, gcA, gcIds, reach, rhoOf, heapOf, idxA, genB, newGen, renB, refsB, List.contains_cons, List.range_succ, cb_prop_Lay, b_prop_Lay, cr_prop_Lay, x_prop_Lay_k0, d_prop_Lay_k0, x_prop_Lay_l3, d_prop_Lay_l3, oI, oN, intsV, bytesV, propsV, propV, propC, bytesOf_map, h1, e1, e3, hC, k1, k2, appA, viewAs, viewA, viewA1, viewsA, freezeA, List.foldl_cons, List.foldl_nil, List.length_singleton, Nat.one_mul, Nat.le_refl, AVal.cells]
    exact ih
theorem q_play (w : Int) (l : List PropD) (hl : l.length ≤ 700000000) (hx : ∀ p ∈ l, OkTx p) : ∃ f, E 42 [.int .i64 w, propsV l] [] = some (layV f (layF w l), []) := by
  have z0 : ((0 : Nat) : Int) = 0 := rfl
  unfold layF
  cases l with
  | nil =>
    have hV := fun σ site own => q_varC σ site own 0
    have hv : varF 0 = ([0], 0) := rfl
    unfold varT at hV
    rw [hv] at hV
    have hJ := fun σ site own f => q_join2 σ site own f [0] [] (by simp)
    have hR := fun σ site own f => q_preadC σ site own f w [0] (by simp)
    have hr : readF w [0] = ([], 1, 0) := rfl
    rw [hr] at hR
    have hS := fun σ site own view => q_psameC σ site own view [] [] (by simp)
    have e : layE w [] (([] : List PropD).map laidF).flatten = ([0], 0) := by
      unfold layE
      simp only [List.map_nil, List.flatten_nil, List.length_nil, z0, hv, List.append_nil, hr]
      rfl
    rw [e]
    refine ⟨false, ?_⟩
    rw [E_eq (by rfl) cf_prop_Lay]
    simp only [List.map_nil, List.map_cons, byteV] at hV hJ hR hS
    unfold layV
    have b0 : byteV 0 = .int .u8 0 := rfl
    have u0 : (0 : UInt8).toNat = 0 := rfl
    have n0 : ((0 : Int) != 0) = false := rfl
    have n1 : ((1 : Int) != 1) = false := rfl
    rw [u0, z0] at hV hJ hR
    have z1 : ((1 : Nat) : Int) = 1 := rfl
    rw [z1] at hR
    simp -implicitDefEqProofs only [EVS0, EVS1, EVS2, EVS3, EVS4, EVS5, EVS6, EVS7, EVL0, EVL1, ite_tf, ite_ft, ite_tft, ite_ftf, ite_list, ite_tt, ite_ee, ite_nt, ite_ne, eq_self, implies_true, forall_const, exI, nsite, freeAt, execI, Opd.ev, tget, tins, tput, keepL, sitesOf, List.sum_cons, List.sum_nil, Nat.reduceAdd, Nat.reduceSub, Nat.reduceLT, Nat.reduceLeDiff, Nat.reduceEqDiff, Nat.reduceBEq, Nat.reduceMul, beq_self_eq_true, Bool.false_eq_true, ldA, stA, partA, faddrA, setAt, binA, arithA, shiftA, strA, unA, gSpan, gSkip, unG, ne_eq, Option.some.injEq, reduceCtorEq, decide_true, decide_false, elemsA, resA, resAll, resOne, enterA, decide_eq_true_eq, Bool.not_eq_true, Bool.decide_eq_true, ite_self, ↓reduceIte, noRefL, clrA, gcT, gcA, gcIds, reach, rhoOf, heapOf, idxA, genB, newGen, renB, refsB, List.contains_cons, List.range_succ, cb_prop_Lay, b_prop_Lay, cr_prop_Lay, x_prop_Lay_k0, d_prop_Lay_k0, x_prop_Lay_l3, d_prop_Lay_l3, oI, oN, intsV, bytesV, propsV, propV, propC, bytesOf_map, intsV]
    rw [evL_eq]
    simp -implicitDefEqProofs only [EVS0, EVS1, EVS2, EVS3, EVS4, EVS5, EVS6, EVS7, EVL0, EVL1, ite_tf, ite_ft, ite_tft, ite_ftf, ite_list, ite_tt, ite_ee, ite_nt, ite_ne, eq_self, implies_true, forall_const, exI, nsite, freeAt, execI, Opd.ev, tget, tins, tput, keepL, sitesOf, List.sum_cons, List.sum_nil, Nat.reduceAdd, Nat.reduceSub, Nat.reduceLT, Nat.reduceLeDiff, Nat.reduceEqDiff, Nat.reduceBEq, Nat.reduceMul, beq_self_eq_true, Bool.false_eq_true, ldA, stA, partA, faddrA, setAt, binA, arithA, shiftA, strA, unA, gSpan, gSkip, unG, ne_eq, Option.some.injEq, reduceCtorEq, decide_true, decide_false, elemsA, resA, resAll, resOne, enterA, decide_eq_true_eq, Bool.not_eq_true, Bool.decide_eq_true, ite_self, ↓reduceIte, noRefL, clrA, gcT, gcA, gcIds, reach, rhoOf, heapOf, idxA, genB, newGen, renB, refsB, List.contains_cons, List.range_succ, cb_prop_Lay, b_prop_Lay, cr_prop_Lay, x_prop_Lay_k0, d_prop_Lay_k0, x_prop_Lay_l3, d_prop_Lay_l3, oI, oN, intsV, bytesV, propsV, propV, propC, bytesOf_map, z0, z1, hV, hJ, hR, hS, n0, n1, b0, appA, viewAs, viewA, viewA1, viewsA, freezeA, List.foldl_cons, List.foldl_nil, List.length_singleton, Nat.one_mul, Nat.le_refl, AVal.cells, Int.reduceLT]
  | cons p r =>
    have hlp := laidF_len p
    simp only [List.length_cons] at hl
    obtain ⟨f, ih⟩ := q_playl w (p :: r) (by simp only [List.length_cons]; omega) hx r 1 (laidF p) rfl (by omega)
    refine ⟨f, ?_⟩
    have e1 := iad (l := p :: r) (i := 0) rfl propV (k := 5) rfl
    have h1 : (0 : Int) < ((p :: r).length : Int) := by simp only [List.length_cons]; omega
    have w1 : IntKind.i64.wrap (0 + 1) = 1 := rfl
    have z1 : ((1 : Nat) : Int) = 1 := rfl
    have hC := fun σ site own => q_laidC σ site own p (hx p (by simp))
    rw [List.map_cons, List.flatten_cons]
    generalize laidF p = q at *
    have k1 := kokB q
    have k2 : q.length * 1 ≤ 140737488355328 := by omega
    have e6 : (q.map byteV).length = q.length := by simp
    rw [z0] at e1
    rw [z1] at ih
    generalize (r.map laidF).flatten = t at *
    generalize hL : p :: r = L at *
    rw [E_eq (by rfl) cf_prop_Lay]
    unfold K_prop_Lay_l3 at ih
    simp -implicitDefEqProofs only [EVS0, EVS1, EVS2, EVS3, EVS4, EVS5, EVS6, EVS7, EVL0, EVL1, ite_tf, ite_ft, ite_tft, ite_ftf, ite_list, ite_tt, ite_ee, ite_nt, ite_ne, eq_self, implies_true, forall_const, exI, nsite, freeAt, execI, Opd.ev, tget, tins, tput, keepL, sitesOf, List.sum_cons, List.sum_nil, Nat.reduceAdd, Nat.reduceSub, Nat.reduceLT, Nat.reduceLeDiff, Nat.reduceEqDiff, Nat.reduceBEq, Nat.reduceMul, beq_self_eq_true, Bool.false_eq_true, ldA, stA, partA, faddrA, setAt, binA, arithA, shiftA, strA, unA, gSpan, gSkip, unG, ne_eq, Option.some.injEq, reduceCtorEq, decide_true, decide_false, elemsA, resA, resAll, resOne, enterA, decide_eq_true_eq, Bool.not_eq_true, Bool.decide_eq_true, ite_self, ↓reduceIte, noRefL, clrA, gcT, gcA, gcIds, reach, rhoOf, heapOf, idxA, genB, newGen, renB, refsB, List.contains_cons, List.range_succ, cb_prop_Lay, b_prop_Lay, cr_prop_Lay, x_prop_Lay_k0, d_prop_Lay_k0, x_prop_Lay_l3, d_prop_Lay_l3, oI, oN, intsV, bytesV, propsV, propV, propC, bytesOf_map, intsV]
    rw [evL_eq]
    simp -implicitDefEqProofs only [EVS0, EVS1, EVS2, EVS3, EVS4, EVS5, EVS6, EVS7, EVL0, EVL1, ite_tf, ite_ft, ite_tft, ite_ftf, ite_list, ite_tt, ite_ee, ite_nt, ite_ne, eq_self, implies_true, forall_const, exI, nsite, freeAt, execI, Opd.ev, tget, tins, tput, keepL, sitesOf, List.sum_cons, List.sum_nil, Nat.reduceAdd, Nat.reduceSub, Nat.reduceLT, Nat.reduceLeDiff, Nat.reduceEqDiff, Nat.reduceBEq, Nat.reduceMul, beq_self_eq_true, Bool.false_eq_true, ldA, stA, partA, faddrA, setAt, binA, arithA, shiftA, strA, unA, gSpan, gSkip, unG, ne_eq, Option.some.injEq, reduceCtorEq, decide_true, decide_false, elemsA, resA, resAll, resOne, enterA, decide_eq_true_eq, Bool.not_eq_true, Bool.decide_eq_true, ite_self, ↓reduceIte, noRefL, clrA, gcT, gcA, gcIds, reach, rhoOf, heapOf, idxA, genB, newGen, renB, refsB, List.contains_cons, List.range_succ, cb_prop_Lay, b_prop_Lay, cr_prop_Lay, x_prop_Lay_k0, d_prop_Lay_k0, x_prop_Lay_l3, d_prop_Lay_l3, oI, oN, intsV, bytesV, propsV, propV, propC, bytesOf_map, h1, e1, w1, hC, k1, k2, appA, viewAs, viewA, viewA1, viewsA, freezeA, List.foldl_cons, List.foldl_nil, List.length_singleton, Nat.one_mul, Nat.le_refl, AVal.cells]
    exact ih
theorem q_playC (σ : AHeap) (site own : Nat) (f : Bool) (w : Int) (l : List PropD) (hl : l.length ≤ 700000000) (hx : ∀ p ∈ l, OkTx p) : callG E BY σ site 42 own true [.int .i64 w, .lst f (l.map propV)] = some (layV false (layF w l), σ, {}) := by
  obtain ⟨g, h⟩ := q_play w l hl hx
  exact call_normT h (by kernel_rfl) rfl rfl rfl (fun _ => rfl) _ _ _
end Go.Proofs.YtmlkhhidifjjfaaDoor
namespace Go.Proofs.YtmlkhhidifjjfaaDoor
set_option linter.unusedSimpArgs false
set_option linter.unusedVariables false
set_option linter.defProp false
def b_note_cursor_data : ACode := (.seq (.region [oI 2 (.mov (.c (.lst true [])))] none [0]) (.seq (.region [oI 7 (.mov (.t 0)), oI 8 (.nilchk (.t 7)), oI 9 (.faddr 0 (.t 8)), oI 10 (.ld none (.t 9)), oI 11 (.call 106 0 true [(.t 10)]), oI 6 (.mov (.t 11)), oI 12 (.ext (.t 6) 0), oI 13 (.ext (.t 6) 1), oI 14 (.ext (.t 6) 2), oI 3 (.mov (.t 12)), oI 4 (.mov (.t 13)), oI 5 (.mov (.t 14))] none [5, 4, 3, 0]) (.seq (.region [oI 15 (.mov (.t 0)), oI 16 (.mov (.t 0)), oI 17 (.nilchk (.t 16)), oI 18 (.faddr 1 (.t 17)), oI 19 (.ld none (.t 18)), oI 20 (.mov (.t 19)), ⟨(some 21), (.mov (.t 5)), (some (20, false)), []⟩, ⟨(some 22), (.bin .neq (.t 21) (.c (.int .i64 0))), (some (20, false)), []⟩, oI 23 (.pick (.t 20) (.c (.bool true)) (.t 22)), oI 24 (.nilchk (.t 15)), oI 25 (.faddr 1 (.t 24)), oN (.st 1 (.t 25) (.t 23))] none [4, 3, 0]) (.seq (.region [oI 26 (.mov (.t 0)), oI 27 (.mov (.t 4)), oI 28 (.call 107 0 true [(.t 26), (.t 27)])] none [3]) (.seq (.region [oI 29 (.mov (.t 3)), oI 2 (.mov (.t 29))] none [2]) .ret)))))
def c_note_cursor_data : AFunc := ⟨[(.tmp 2)], b_note_cursor_data⟩
theorem cf_note_cursor_data : FC 68 = some c_note_cursor_data := by kernel_rfl
theorem cb_note_cursor_data : c_note_cursor_data.body = b_note_cursor_data := rfl
theorem cr_note_cursor_data : c_note_cursor_data.res = [(.tmp 2)] := rfl
def b_note_cursor_number : ACode := (.seq (.region [oI 4 (.mov (.c (.int .i64 0)))] none [1, 0]) (.seq (.region [oI 5 (.mov (.t 0)), oI 6 (.mov (.t 1)), oI 7 (.call 107 0 true [(.t 5), (.t 6)]), oI 8 (.call 108 0 true [(.t 7)]), oI 9 (.i2i .i64 (.t 8)), oI 4 (.mov (.t 9))] none [4]) .ret))
def c_note_cursor_number : AFunc := ⟨[(.tmp 4)], b_note_cursor_number⟩
theorem cf_note_cursor_number : FC 70 = some c_note_cursor_number := by kernel_rfl
theorem cb_note_cursor_number : c_note_cursor_number.body = b_note_cursor_number := rfl
theorem cr_note_cursor_number : c_note_cursor_number.res = [(.tmp 4)] := rfl
def b_note_cursor_take : ACode := (.seq (.region [oI 4 (.mov (.c (.lst true [])))] none [1, 0]) (.seq (.seq (.region [oI 6 (.mov (.t 0)), oI 7 (.nilchk (.t 6)), oI 8 (.faddr 1 (.t 7)), oI 9 (.ld none (.t 8)), oI 10 (.mov (.t 9)), ⟨(some 11), (.mov (.t 1)), (some (10, false)), []⟩, ⟨(some 12), (.mov (.t 0)), (some (10, false)), []⟩, ⟨(some 13), (.nilchk (.t 12)), (some (10, false)), []⟩, ⟨(some 14), (.faddr 0 (.t 13)), (some (10, false)), []⟩, ⟨(some 15), (.ld none (.t 14)), (some (10, false)), []⟩, ⟨(some 16), (.len (.t 15)), (some (10, false)), []⟩, ⟨(some 17), (.bin .gtr (.t 11) (.t 16)), (some (10, false)), []⟩, oI 18 (.pick (.t 10) (.c (.bool true)) (.t 17))] none [18, 1, 0]) (.cond (.t 18) (.seq (.region [oI 19 (.mov (.t 0)), oI 20 (.nilchk (.t 19)), oI 21 (.faddr 1 (.t 20)), oN (.st 1 (.t 21) (.c (.bool true)))] none []) (.seq (.region [oI 4 (.mov (.c (.lst true [])))] none [4]) .ret)) .skip)) (.seq (.region [oI 22 (.mov (.t 0)), oI 23 (.nilchk (.t 22)), oI 24 (.faddr 0 (.t 23)), oI 25 (.ld none (.t 24)), oI 26 (.mov (.t 1)), oI 27 (.slice 1 (.t 25) none (some (.t 26)) none), oI 5 (.mov (.t 27))] none [5, 1, 0]) (.seq (.region [oI 28 (.mov (.t 0)), oI 29 (.mov (.t 0)), oI 30 (.nilchk (.t 29)), oI 31 (.faddr 0 (.t 30)), oI 32 (.ld none (.t 31)), oI 33 (.mov (.t 1)), oI 34 (.slice 1 (.t 32) (some (.t 33)) none none), oI 35 (.nilchk (.t 28)), oI 36 (.faddr 0 (.t 35)), oN (.st 1 (.t 36) (.t 34))] none [5]) (.seq (.region [oI 37 (.mov (.t 5)), oI 4 (.mov (.t 37))] none [4]) .ret)))))
def c_note_cursor_take : AFunc := ⟨[(.tmp 4)], b_note_cursor_take⟩
theorem cf_note_cursor_take : FC 107 = some c_note_cursor_take := by kernel_rfl
theorem cb_note_cursor_take : c_note_cursor_take.body = b_note_cursor_take := rfl
theorem cr_note_cursor_take : c_note_cursor_take.res = [(.tmp 4)] := rfl
def b_note_cursor_text : ACode := (.seq (.region [oI 2 (.mov (.c (.str [])))] none [0]) (.seq (.region [oI 7 (.mov (.t 0)), oI 8 (.nilchk (.t 7)), oI 9 (.faddr 0 (.t 8)), oI 10 (.ld none (.t 9)), oI 11 (.call 109 0 true [(.t 10)]), oI 6 (.mov (.t 11)), oI 12 (.ext (.t 6) 0), oI 13 (.ext (.t 6) 1), oI 14 (.ext (.t 6) 2), oI 3 (.mov (.t 12)), oI 4 (.mov (.t 13)), oI 5 (.mov (.t 14))] none [5, 4, 3, 0]) (.seq (.region [oI 15 (.mov (.t 0)), oI 16 (.mov (.t 0)), oI 17 (.nilchk (.t 16)), oI 18 (.faddr 1 (.t 17)), oI 19 (.ld none (.t 18)), oI 20 (.mov (.t 19)), ⟨(some 21), (.mov (.t 5)), (some (20, false)), []⟩, ⟨(some 22), (.bin .neq (.t 21) (.c (.int .i64 0))), (some (20, false)), []⟩, oI 23 (.pick (.t 20) (.c (.bool true)) (.t 22)), oI 24 (.nilchk (.t 15)), oI 25 (.faddr 1 (.t 24)), oN (.st 1 (.t 25) (.t 23))] none [4, 3, 0]) (.seq (.region [oI 26 (.mov (.t 0)), oI 27 (.mov (.t 4)), oI 28 (.call 107 0 true [(.t 26), (.t 27)])] none [3]) (.seq (.region [oI 29 (.mov (.t 3)), oI 2 (.mov (.t 29))] none [2]) .ret)))))
def c_note_cursor_text : AFunc := ⟨[(.tmp 2)], b_note_cursor_text⟩
theorem cf_note_cursor_text : FC 71 = some c_note_cursor_text := by kernel_rfl
theorem cb_note_cursor_text : c_note_cursor_text.body = b_note_cursor_text := rfl
theorem cr_note_cursor_text : c_note_cursor_text.res = [(.tmp 2)] := rfl
def b_note_reader_marks : ACode := (.seq (.region [oI 2 (.mov (.c (.int .i64 0))), oI 3 (.mov (.c (.bool false)))] none [0]) (.seq (.region [oI 5 (.mov (.t 0)), oI 6 (.nilchk (.t 5)), oI 7 (.faddr 0 (.t 6)), oI 8 (.call 70 0 true [(.t 7), (.c (.int .i64 1))]), oI 4 (.mov (.t 8))] none [4]) (.seq (.region [oI 9 (.mov (.t 4)), oI 10 (.bin .and (.t 9) (.c (.int .i64 3))), oI 11 (.mov (.t 4)), oI 12 (.bin .and (.t 11) (.c (.int .i64 4))), oI 13 (.bin .neq (.t 12) (.c (.int .i64 0))), oI 2 (.mov (.t 10)), oI 3 (.mov (.t 13))] none [3, 2]) .ret)))
def c_note_reader_marks : AFunc := ⟨[(.tmp 2), (.tmp 3)], b_note_reader_marks⟩
theorem cf_note_reader_marks : FC 69 = some c_note_reader_marks := by kernel_rfl
theorem cb_note_reader_marks : c_note_reader_marks.body = b_note_reader_marks := rfl
theorem cr_note_reader_marks : c_note_reader_marks.res = [(.tmp 2), (.tmp 3)] := rfl
def b_note_reader_note : ACode := (.seq (.region [oI 2 (.alloc [(.str []), (.lst true []), (.int .i64 0), (.bool false), (.str []), (.int .i64 0), (.lst true []), (.int .i64 0), (.int .i64 0), (.int .i64 0)])] none [2, 0]) (.seq (.region [oI 7 (.mov (.t 0)), oI 8 (.nilchk (.t 7)), oI 9 (.faddr 0 (.t 8)), oI 10 (.call 71 0 true [(.t 9)]), oI 11 (.mov (.t 0)), oI 12 (.nilchk (.t 11)), oI 13 (.faddr 0 (.t 12)), oI 14 (.call 68 0 true [(.t 13)]), oI 15 (.build [(.str []), (.lst true []), (.int .i64 0), (.bool false), (.str []), (.int .i64 0), (.lst true []), (.int .i64 0), (.int .i64 0), (.int .i64 0)] [(0, 1, (.t 10)), (1, 1, (.t 14))]), oI 3 (.alloc [(.str []), (.lst true []), (.int .i64 0), (.bool false), (.str []), (.int .i64 0), (.lst true []), (.int .i64 0), (.int .i64 0), (.int .i64 0)]), oN (.st 10 (.t 3) (.t 15))] (some [(3, 9), (7, 9)]) [3, 2, 0]) (.seq (.region [oI 17 (.mov (.t 0)), oI 18 (.call 69 0 true [(.t 17)]), oI 16 (.mov (.t 18)), oI 19 (.ext (.t 16) 0), oI 20 (.ext (.t 16) 1), oI 21 (.faddr 2 (.t 3)), oN (.st 1 (.t 21) (.t 19)), oI 22 (.faddr 3 (.t 3)), oN (.st 1 (.t 22) (.t 20))] none [3, 2, 0]) (.seq (.region [oI 23 (.mov (.t 0)), oI 24 (.nilchk (.t 23)), oI 25 (.faddr 0 (.t 24)), oI 26 (.call 71 0 true [(.t 25)]), oI 27 (.faddr 4 (.t 3)), oN (.st 1 (.t 27) (.t 26))] none [3, 2, 0]) (.seq (.region [oI 28 (.mov (.t 0)), oI 29 (.nilchk (.t 28)), oI 30 (.faddr 0 (.t 29)), oI 31 (.call 70 0 true [(.t 30), (.c (.int .i64 8))]), oI 32 (.mov (.t 0)), oI 33 (.nilchk (.t 32)), oI 34 (.faddr 0 (.t 33)), oI 35 (.call 70 0 true [(.t 34), (.c (.int .i64 8))]), oI 36 (.faddr 5 (.t 3)), oN (.st 1 (.t 36) (.t 31)), oI 37 (.faddr 8 (.t 3)), oN (.st 1 (.t 37) (.t 35))] (some []) [3, 2, 0]) (.seq (.region [oI 38 (.mov (.t 0)), oI 39 (.nilchk (.t 38)), oI 40 (.faddr 0 (.t 39)), oI 41 (.call 70 0 true [(.t 40), (.c (.int .i64 1))]), oI 42 (.mov (.t 0)), oI 43 (.nilchk (.t 42)), oI 44 (.faddr 0 (.t 43)), oI 45 (.call 70 0 true [(.t 44), (.c (.int .i64 1))]), oI 46 (.faddr 7 (.t 3)), oN (.st 1 (.t 46) (.t 41)), oI 47 (.faddr 9 (.t 3)), oN (.st 1 (.t 47) (.t 45))] (some []) [3, 2, 0]) (.seq (.region [oI 49 (.mov (.t 0)), oI 50 (.nilchk (.t 49)), oI 51 (.faddr 0 (.t 50)), oI 52 (.faddr 0 (.t 51)), oI 53 (.ld none (.t 52)), oI 54 (.call 90 0 true [(.c (.int .i64 3)), (.t 53)]), oI 48 (.mov (.t 54)), oI 55 (.ext (.t 48) 0), oI 56 (.ext (.t 48) 1), oI 57 (.ext (.t 48) 2), oI 4 (.mov (.t 55)), oI 5 (.mov (.t 56)), oI 6 (.mov (.t 57))] none [6, 5, 4, 3, 2, 0]) (.seq (.region [oI 58 (.mov (.t 0)), oI 59 (.mov (.t 0)), oI 60 (.nilchk (.t 59)), oI 61 (.faddr 0 (.t 60)), oI 62 (.faddr 1 (.t 61)), oI 63 (.ld none (.t 62)), oI 64 (.mov (.t 63)), ⟨(some 65), (.mov (.t 6)), (some (64, false)), []⟩, ⟨(some 66), (.bin .neq (.t 65) (.c (.int .i64 0))), (some (64, false)), []⟩, oI 67 (.pick (.t 64) (.c (.bool true)) (.t 66)), oI 68 (.mov (.t 67)), ⟨(some 69), (.mov (.t 5)), (some (68, false)), []⟩, ⟨(some 70), (.mov (.t 0)), (some (68, false)), []⟩, ⟨(some 71), (.nilchk (.t 70)), (some (68, false)), []⟩, ⟨(some 72), (.faddr 0 (.t 71)), (some (68, false)), []⟩, ⟨(some 73), (.faddr 0 (.t 72)), (some (68, false)), []⟩, ⟨(some 74), (.ld none (.t 73)), (some (68, false)), []⟩, ⟨(some 75), (.len (.t 74)), (some (68, false)), []⟩, ⟨(some 76), (.bin .neq (.t 69) (.t 75)), (some (68, false)), []⟩, oI 77 (.pick (.t 68) (.c (.bool true)) (.t 76)), oI 78 (.nilchk (.t 58)), oI 79 (.faddr 0 (.t 78)), oI 80 (.faddr 1 (.t 79)), oN (.st 1 (.t 80) (.t 77))] none [4, 3, 2]) (.seq (.region [oI 81 (.mov (.t 4)), oI 82 (.faddr 6 (.t 3)), oN (.st 1 (.t 82) (.t 81))] none [3, 2]) (.seq (.region [oI 83 (.ld (some 10) (.t 3)), oN (.st 10 (.t 2) (.t 83))] none [2]) .ret))))))))))
def c_note_reader_note : AFunc := ⟨[(.cell 2 (some 10))], b_note_reader_note⟩
theorem cf_note_reader_note : FC 61 = some c_note_reader_note := by kernel_rfl
theorem cb_note_reader_note : c_note_reader_note.body = b_note_reader_note := rfl
theorem cr_note_reader_note : c_note_reader_note.res = [(.cell 2 (some 10))] := rfl
def b_note_Lay : ACode := (.seq (.region [oI 1 (.box (.t 0)), oI 2 (.mov (.c (.lst true [])))] none [1]) (.seq (.region [oI 12 (.faddr 0 (.t 1)), oI 13 (.ld none (.t 12)), oI 14 (.call 54 0 true [(.t 13)]), oI 11 (.mov (.t 14)), oI 15 (.ext (.t 11) 0), oI 16 (.ext (.t 11) 1), oI 3 (.mov (.t 15)), oI 4 (.mov (.t 16))] none [3, 1]) (.seq (.region [oI 18 (.faddr 1 (.t 1)), oI 19 (.ld none (.t 18)), oI 20 (.call 55 0 true [(.t 19)]), oI 17 (.mov (.t 20)), oI 21 (.ext (.t 17) 0), oI 22 (.ext (.t 17) 1), oI 5 (.mov (.t 21)), oI 6 (.mov (.t 22))] none [5, 3, 1]) (.seq (.region [oI 24 (.faddr 4 (.t 1)), oI 25 (.ld none (.t 24)), oI 26 (.call 54 0 true [(.t 25)]), oI 23 (.mov (.t 26)), oI 27 (.ext (.t 23) 0), oI 28 (.ext (.t 23) 1), oI 7 (.mov (.t 27)), oI 8 (.mov (.t 28))] none [7, 5, 3, 1]) (.seq (.region [oI 30 (.faddr 6 (.t 1)), oI 31 (.ld none (.t 30)), oI 32 (.call 42 0 true [(.c (.int .i64 3)), (.t 31)]), oI 29 (.mov (.t 32)), oI 33 (.ext (.t 29) 0), oI 34 (.ext (.t 29) 1), oI 9 (.mov (.t 33)), oI 10 (.mov (.t 34))] none [9, 7, 5, 3, 1]) (.seq (.region [oI 35 (.mov (.t 3)), oI 36 (.mov (.t 5)), oI 37 (.faddr 2 (.t 1)), oI 38 (.ld none (.t 37)), oI 39 (.faddr 3 (.t 1)), oI 40 (.ld none (.t 39)), oI 41 (.call 57 0 true [(.t 38), (.t 40)]), oI 42 (.mov (.t 7)), oI 43 (.faddr 5 (.t 1)), oI 44 (.ld none (.t 43)), oI 45 (.call 58 0 true [(.t 44)]), oI 46 (.faddr 8 (.t 1)), oI 47 (.ld none (.t 46)), oI 48 (.call 58 0 true [(.t 47)]), oI 49 (.faddr 7 (.t 1)), oI 50 (.ld none (.t 49)), oI 51 (.i2i .u8 (.t 50)), oI 52 (.faddr 9 (.t 1)), oI 53 (.ld none (.t 52)), oI 54 (.i2i .u8 (.t 53)), oI 55 (.bslice false 1 2 (.int .u8 0) [(0, (.t 51)), (1, (.t 54))]), oI 56 (.mov (.t 9)), oI 57 (.bslice false 1 8 (.lst true []) [(0, (.t 35)), (1, (.t 36)), (2, (.t 41)), (3, (.t 42)), (4, (.t 45)), (5, (.t 48)), (6, (.t 55)), (7, (.t 56))]), oI 58 (.call 56 0 true [(.t 57)]), oI 2 (.mov (.t 58))] (some [(3, 5), (3, 9), (5, 9), (6, 9), (3, 12), (5, 12), (6, 12), (9, 12), (10, 12), (3, 15), (5, 15), (6, 15), (9, 15), (10, 15), (12, 15), (13, 15), (3, 18), (5, 18), (6, 18), (9, 18), (10, 18), (12, 18), (13, 18), (15, 18), (3, 20), (5, 20), (6, 20), (9, 20), (10, 20), (12, 20), (13, 20)]) [2]) .ret))))))
def c_note_Lay : AFunc := ⟨[(.tmp 2)], b_note_Lay⟩
theorem cf_note_Lay : FC 16 = some c_note_Lay := by kernel_rfl
theorem cb_note_Lay : c_note_Lay.body = b_note_Lay := rfl
theorem cr_note_Lay : c_note_Lay.res = [(.tmp 2)] := rfl
def d_note_LayItem_k0 : ACode := (.seq (.region [oI 49 (.mov (.t 7)), oI 50 (.mov (.t 5)), oI 51 (.app 1 1 (.int .u8 0) (.t 49) (.t 50)), oI 2 (.mov (.t 51))] none [2]) .ret)
def c_note_LayItem_k0 : ACode := d_note_LayItem_k0
def x_note_LayItem_k0 := xw c_note_LayItem_k0 d_note_LayItem_k0 rfl
def d_note_LayItem_l5 : ACode := (.seq (.region [oI 40 (.bin .lss (.t 39) (.t 38))] none [40, 39, 38, 37, 7, 5]) (.seq (.cond (.t 40) .skip (.exit 0)) (.seq (.block 1 (.seq (.region [oI 41 (.iaddr 1 (.t 37) (.t 39)), oI 42 (.ld none (.t 41)), oI 9 (.mov (.t 42))] none [39, 38, 37, 9, 7, 5]) (.region [oI 43 (.mov (.t 7)), oI 44 (.mov (.t 9)), oI 45 (.i2i .u64 (.t 44)), oI 46 (.call 59 0 true [(.t 45), (.c (.int .i64 4))]), oI 47 (.app 1 1 (.int .u8 0) (.t 43) (.t 46)), oI 7 (.mov (.t 47))] none [39, 38, 37, 7, 5]))) (.region [oI 48 (.bin .add (.t 39) (.c (.int .i64 1))), oI 39 (.mov (.t 48))] none [39, 38, 37, 7, 5]))))
def c_note_LayItem_l5 : ACode := d_note_LayItem_l5
def x_note_LayItem_l5 := xw c_note_LayItem_l5 d_note_LayItem_l5 rfl
def b_note_LayItem : ACode := (.seq (.region [oI 1 (.box (.t 0)), oI 2 (.mov (.c (.lst true [])))] none [1]) (.seq (.region [oI 11 (.faddr 0 (.t 1)), oI 12 (.ld (some 10) (.t 11)), oI 13 (.call 16 0 true [(.t 12)]), oI 14 (.call 55 0 true [(.t 13)]), oI 10 (.mov (.t 14)), oI 15 (.ext (.t 10) 0), oI 16 (.ext (.t 10) 1), oI 3 (.mov (.t 15)), oI 4 (.mov (.t 16))] none [3, 1]) (.seq (.region [oI 18 (.faddr 13 (.t 1)), oI 19 (.ld none (.t 18)), oI 20 (.call 54 0 true [(.t 19)]), oI 17 (.mov (.t 20)), oI 21 (.ext (.t 17) 0), oI 22 (.ext (.t 17) 1), oI 5 (.mov (.t 21)), oI 6 (.mov (.t 22))] none [5, 3, 1]) (.seq (.region [oI 23 (.mov (.t 3)), oI 24 (.faddr 10 (.t 1)), oI 25 (.ld none (.t 24)), oI 26 (.faddr 11 (.t 1)), oI 27 (.ld none (.t 26)), oI 28 (.call 57 0 true [(.t 25), (.t 27)]), oI 29 (.faddr 12 (.t 1)), oI 30 (.ld none (.t 29)), oI 31 (.len (.t 30)), oI 32 (.i2i .u8 (.t 31)), oI 33 (.bslice false 1 1 (.int .u8 0) [(0, (.t 32))]), oI 34 (.bslice false 1 3 (.lst true []) [(0, (.t 23)), (1, (.t 28)), (2, (.t 33))]), oI 35 (.call 56 1 false [(.t 34)]), oI 7 (.mov (.t 35))] (some [(2, 4), (2, 7), (4, 7), (5, 7), (2, 10), (4, 10), (5, 10)]) [7, 5, 1]) (.seq (.seq (.region [oI 36 (.faddr 12 (.t 1)), oI 37 (.ld none (.t 36)), oI 38 (.len (.t 37)), oI 39 (.mov (.c (.int .i64 0)))] none [39, 38, 37, 7, 5]) (.block 0 (.loop [39, 38, 37, 7, 5] c_note_LayItem_l5))) c_note_LayItem_k0)))))
def c_note_LayItem : AFunc := ⟨[(.tmp 2)], b_note_LayItem⟩
theorem cf_note_LayItem : FC 17 = some c_note_LayItem := by kernel_rfl
theorem cb_note_LayItem : c_note_LayItem.body = b_note_LayItem := rfl
theorem cr_note_LayItem : c_note_LayItem.res = [(.tmp 2)] := rfl
/-- slots [39, 38, 37, 7, 5] -/
noncomputable def K_note_LayItem_l5 (m : Nat) (tm : Tms) (σ : AHeap) : Option (AVal × AHeap) := (finA m c_note_LayItem (seqX FC PR BY m c_note_LayItem_k0 (Option.map (blockA 0) (evL FC PR BY m [39, 38, 37, 7, 5] c_note_LayItem_l5 tm σ))))
def b_note_Read : ACode := (.seq (.region [oI 2 (.alloc [(.str []), (.lst true []), (.int .i64 0), (.bool false), (.str []), (.int .i64 0), (.lst true []), (.int .i64 0), (.int .i64 0), (.int .i64 0)]), oI 3 (.mov (.c (.int .i64 0)))] none [2, 0]) (.seq (.region [oI 6 (.mov (.t 0)), oI 7 (.build [(.lst true []), (.bool false)] [(0, 1, (.t 6))]), oI 8 (.build [(.lst true []), (.bool false)] [(0, 2, (.t 7))]), oI 9 (.box (.t 8)), oI 4 (.mov (.t 9))] none [4, 2, 0]) (.seq (.region [oI 10 (.mov (.t 4)), oI 11 (.call 61 0 true [(.t 10)]), oI 5 (.alloc [(.str []), (.lst true []), (.int .i64 0), (.bool false), (.str []), (.int .i64 0), (.lst true []), (.int .i64 0), (.int .i64 0), (.int .i64 0)]), oN (.st 10 (.t 5) (.t 11))] none [5, 4, 2, 0]) (.seq (.seq (.region [oI 12 (.mov (.t 4)), oI 13 (.nilchk (.t 12)), oI 14 (.faddr 0 (.t 13)), oI 15 (.faddr 1 (.t 14)), oI 16 (.ld none (.t 15)), oI 17 (.mov (.t 16)), ⟨(some 18), (.ld (some 10) (.t 5)), (some (17, false)), []⟩, ⟨(some 19), (.call 62 0 true [(.t 18)]), (some (17, false)), []⟩, ⟨(some 20), (.un .not (.t 19)), (some (17, false)), []⟩, oI 21 (.pick (.t 17) (.c (.bool true)) (.t 20)), oI 22 (.mov (.t 21)), ⟨(some 23), (.ld (some 10) (.t 5)), (some (22, false)), []⟩, ⟨(some 24), (.call 16 0 true [(.t 23)]), (some (22, false)), []⟩, ⟨(some 25), (.mov (.t 0)), (some (22, false)), []⟩, ⟨(some 26), (.call 63 0 true [(.t 24), (.t 25)]), (some (22, false)), []⟩, ⟨(some 27), (.un .not (.t 26)), (some (22, false)), []⟩, oI 28 (.pick (.t 22) (.c (.bool true)) (.t 27))] none [28, 5, 2]) (.cond (.t 28) (.seq (.region [oI 29 (.build [(.str []), (.lst true []), (.int .i64 0), (.bool false), (.str []), (.int .i64 0), (.lst true []), (.int .i64 0), (.int .i64 0), (.int .i64 0)] []), oN (.st 10 (.t 2) (.t 29)), oI 3 (.mov (.c (.int .i64 190)))] none [3, 2]) .ret) .skip)) (.seq (.region [oI 30 (.ld (some 10) (.t 5)), oN (.st 10 (.t 2) (.t 30)), oI 3 (.mov (.c (.int .i64 0)))] none [3, 2]) .ret)))))
def c_note_Read : AFunc := ⟨[(.cell 2 (some 10)), (.tmp 3)], b_note_Read⟩
theorem cf_note_Read : FC 21 = some c_note_Read := by kernel_rfl
theorem cb_note_Read : c_note_Read.body = b_note_Read := rfl
theorem cr_note_Read : c_note_Read.res = [(.cell 2 (some 10)), (.tmp 3)] := rfl
def d_note_ReadItem_k0 : ACode := (.seq (.region [oI 64 (.mov (.t 4)), oI 65 (.nilchk (.t 64)), oI 66 (.faddr 0 (.t 65)), oI 67 (.call 71 0 true [(.t 66)]), oI 68 (.faddr 13 (.t 7)), oN (.st 1 (.t 68) (.t 67))] none [8, 7, 4, 2, 0]) (.seq (.seq (.region [oI 69 (.mov (.t 4)), oI 70 (.nilchk (.t 69)), oI 71 (.faddr 0 (.t 70)), oI 72 (.faddr 1 (.t 71)), oI 73 (.ld none (.t 72)), oI 74 (.mov (.t 73)), ⟨(some 75), (.mov (.t 8)), (some (74, false)), []⟩, ⟨(some 76), (.un .not (.t 75)), (some (74, false)), []⟩, oI 77 (.pick (.t 74) (.c (.bool true)) (.t 76)), oI 78 (.mov (.t 77)), ⟨(some 79), (.ld (some 14) (.t 7)), (some (78, false)), []⟩, ⟨(some 80), (.call 17 0 true [(.t 79)]), (some (78, false)), []⟩, ⟨(some 81), (.mov (.t 0)), (some (78, false)), []⟩, ⟨(some 82), (.call 63 0 true [(.t 80), (.t 81)]), (some (78, false)), []⟩, ⟨(some 83), (.un .not (.t 82)), (some (78, false)), []⟩, oI 84 (.pick (.t 78) (.c (.bool true)) (.t 83))] none [84, 7, 2]) (.cond (.t 84) (.seq (.region [oI 85 (.build [(.str []), (.lst true []), (.int .i64 0), (.bool false), (.str []), (.int .i64 0), (.lst true []), (.int .i64 0), (.int .i64 0), (.int .i64 0), (.int .i64 0), (.bool false), (.lst true []), (.str [])] []), oN (.st 14 (.t 2) (.t 85)), oI 3 (.mov (.c (.int .i64 190)))] none [3, 2]) .ret) .skip)) (.seq (.region [oI 86 (.ld (some 14) (.t 7)), oN (.st 14 (.t 2) (.t 86)), oI 3 (.mov (.c (.int .i64 0)))] none [3, 2]) .ret)))
def c_note_ReadItem_k0 : ACode := d_note_ReadItem_k0
def x_note_ReadItem_k0 := xw c_note_ReadItem_k0 d_note_ReadItem_k0 rfl
def d_note_ReadItem_l7 : ACode := (.seq (.region [oI 43 (.bin .lss (.t 42) (.t 41))] none [43, 42, 41, 8, 7, 4, 2, 0]) (.seq (.cond (.t 43) .skip (.exit 0)) (.seq (.block 1 (.seq (.region [oI 44 (.mov (.t 4)), oI 45 (.nilchk (.t 44)), oI 46 (.faddr 0 (.t 45)), oI 47 (.call 70 0 true [(.t 46), (.c (.int .i64 4))]), oI 9 (.mov (.t 47))] none [42, 41, 9, 8, 7, 4, 2, 0]) (.seq (.region [oI 48 (.mov (.t 8)), oI 49 (.mov (.t 48)), ⟨(some 50), (.mov (.t 9)), (some (49, true)), []⟩, ⟨(some 51), (.bin .geq (.t 50) (.c (.int .i64 1))), (some (49, true)), []⟩, oI 52 (.pick (.t 49) (.t 51) (.c (.bool false))), oI 53 (.mov (.t 52)), ⟨(some 54), (.mov (.t 9)), (some (53, true)), []⟩, ⟨(some 55), (.bin .leq (.t 54) (.c (.int .i64 268435455))), (some (53, true)), []⟩, oI 56 (.pick (.t 53) (.t 55) (.c (.bool false))), oI 8 (.mov (.t 56))] none [42, 41, 9, 8, 7, 4, 2, 0]) (.region [oI 57 (.faddr 12 (.t 7)), oI 58 (.ld none (.t 57)), oI 59 (.mov (.t 9)), oI 60 (.bslice false 1 1 (.int .i64 0) [(0, (.t 59))]), oI 61 (.app 1 8 (.int .i64 0) (.t 58) (.t 60)), oI 62 (.faddr 12 (.t 7)), oN (.st 1 (.t 62) (.t 61))] none [42, 41, 8, 7, 4, 2, 0])))) (.region [oI 63 (.bin .add (.t 42) (.c (.int .i64 1))), oI 42 (.mov (.t 63))] none [42, 41, 8, 7, 4, 2, 0]))))
def c_note_ReadItem_l7 : ACode := d_note_ReadItem_l7
def x_note_ReadItem_l7 := xw c_note_ReadItem_l7 d_note_ReadItem_l7 rfl
def b_note_ReadItem : ACode := (.seq (.region [oI 2 (.alloc [(.str []), (.lst true []), (.int .i64 0), (.bool false), (.str []), (.int .i64 0), (.lst true []), (.int .i64 0), (.int .i64 0), (.int .i64 0), (.int .i64 0), (.bool false), (.lst true []), (.str [])]), oI 3 (.mov (.c (.int .i64 0)))] none [2, 0]) (.seq (.region [oI 10 (.mov (.t 0)), oI 11 (.build [(.lst true []), (.bool false)] [(0, 1, (.t 10))]), oI 12 (.build [(.lst true []), (.bool false)] [(0, 2, (.t 11))]), oI 13 (.box (.t 12)), oI 4 (.mov (.t 13))] none [4, 2, 0]) (.seq (.region [oI 15 (.mov (.t 4)), oI 16 (.nilchk (.t 15)), oI 17 (.faddr 0 (.t 16)), oI 18 (.call 68 0 true [(.t 17)]), oI 19 (.call 21 0 true [(.t 18)]), oI 14 (.mov (.t 19)), oI 20 (.ext (.t 14) 0), oI 21 (.ext (.t 14) 1), oI 5 (.alloc [(.str []), (.lst true []), (.int .i64 0), (.bool false), (.str []), (.int .i64 0), (.lst true []), (.int .i64 0), (.int .i64 0), (.int .i64 0)]), oN (.st 10 (.t 5) (.t 20)), oI 6 (.mov (.t 21))] none [6, 5, 4, 2, 0]) (.seq (.region [oI 22 (.ld (some 10) (.t 5)), oI 23 (.build [(.str []), (.lst true []), (.int .i64 0), (.bool false), (.str []), (.int .i64 0), (.lst true []), (.int .i64 0), (.int .i64 0), (.int .i64 0), (.int .i64 0), (.bool false), (.lst true []), (.str [])] [(0, 10, (.t 22))]), oI 7 (.alloc [(.str []), (.lst true []), (.int .i64 0), (.bool false), (.str []), (.int .i64 0), (.lst true []), (.int .i64 0), (.int .i64 0), (.int .i64 0), (.int .i64 0), (.bool false), (.lst true []), (.str [])]), oN (.st 14 (.t 7) (.t 23))] none [7, 6, 4, 2, 0]) (.seq (.region [oI 25 (.mov (.t 4)), oI 26 (.call 69 0 true [(.t 25)]), oI 24 (.mov (.t 26)), oI 27 (.ext (.t 24) 0), oI 28 (.ext (.t 24) 1), oI 29 (.faddr 10 (.t 7)), oN (.st 1 (.t 29) (.t 27)), oI 30 (.faddr 11 (.t 7)), oN (.st 1 (.t 30) (.t 28))] none [7, 6, 4, 2, 0]) (.seq (.region [oI 31 (.faddr 10 (.t 7)), oI 32 (.ld none (.t 31)), oI 33 (.bin .lss (.t 32) (.c (.int .i64 3))), oI 34 (.mov (.t 33)), ⟨(some 35), (.mov (.t 6)), (some (34, true)), []⟩, ⟨(some 36), (.bin .eql (.t 35) (.c (.int .i64 0))), (some (34, true)), []⟩, oI 37 (.pick (.t 34) (.t 36) (.c (.bool false))), oI 8 (.mov (.t 37))] none [8, 7, 4, 2, 0]) (.seq (.seq (.region [oI 38 (.mov (.t 4)), oI 39 (.nilchk (.t 38)), oI 40 (.faddr 0 (.t 39)), oI 41 (.call 70 0 true [(.t 40), (.c (.int .i64 1))]), oI 42 (.mov (.c (.int .i64 0)))] none [42, 41, 8, 7, 4, 2, 0]) (.block 0 (.loop [42, 41, 8, 7, 4, 2, 0] c_note_ReadItem_l7))) c_note_ReadItem_k0)))))))
def c_note_ReadItem : AFunc := ⟨[(.cell 2 (some 14)), (.tmp 3)], b_note_ReadItem⟩
theorem cf_note_ReadItem : FC 23 = some c_note_ReadItem := by kernel_rfl
theorem cb_note_ReadItem : c_note_ReadItem.body = b_note_ReadItem := rfl
theorem cr_note_ReadItem : c_note_ReadItem.res = [(.cell 2 (some 14)), (.tmp 3)] := rfl
/-- slots [42, 41, 8, 7, 4, 2, 0] -/
noncomputable def K_note_ReadItem_l7 (m : Nat) (tm : Tms) (σ : AHeap) : Option (AVal × AHeap) := (finA m c_note_ReadItem (seqX FC PR BY m c_note_ReadItem_k0 (Option.map (blockA 0) (evL FC PR BY m [42, 41, 8, 7, 4, 2, 0] c_note_ReadItem_l7 tm σ))))
def b_note_Same : ACode := (.seq (.region [oI 2 (.box (.t 0)), oI 3 (.box (.t 1)), oI 4 (.mov (.c (.bool false)))] none [3, 2]) (.seq (.region [oI 5 (.faddr 0 (.t 2)), oI 6 (.ld none (.t 5)), oI 7 (.faddr 0 (.t 3)), oI 8 (.ld none (.t 7)), oI 9 (.bin .eql (.t 6) (.t 8)), oI 10 (.mov (.t 9)), ⟨(some 11), (.faddr 1 (.t 2)), (some (10, true)), []⟩, ⟨(some 12), (.ld none (.t 11)), (some (10, true)), []⟩, ⟨(some 13), (.faddr 1 (.t 3)), (some (10, true)), []⟩, ⟨(some 14), (.ld none (.t 13)), (some (10, true)), []⟩, ⟨(some 15), (.call 63 0 true [(.t 12), (.t 14)]), (some (10, true)), []⟩, oI 16 (.pick (.t 10) (.t 15) (.c (.bool false))), oI 17 (.mov (.t 16)), ⟨(some 18), (.faddr 2 (.t 2)), (some (17, true)), []⟩, ⟨(some 19), (.ld none (.t 18)), (some (17, true)), []⟩, ⟨(some 20), (.faddr 2 (.t 3)), (some (17, true)), []⟩, ⟨(some 21), (.ld none (.t 20)), (some (17, true)), []⟩, ⟨(some 22), (.bin .eql (.t 19) (.t 21)), (some (17, true)), []⟩, oI 23 (.pick (.t 17) (.t 22) (.c (.bool false))), oI 24 (.mov (.t 23)), ⟨(some 25), (.faddr 3 (.t 2)), (some (24, true)), []⟩, ⟨(some 26), (.ld none (.t 25)), (some (24, true)), []⟩, ⟨(some 27), (.faddr 3 (.t 3)), (some (24, true)), []⟩, ⟨(some 28), (.ld none (.t 27)), (some (24, true)), []⟩, ⟨(some 29), (.beq false (.t 26) (.t 28)), (some (24, true)), []⟩, oI 30 (.pick (.t 24) (.t 29) (.c (.bool false))), oI 31 (.mov (.t 30)), ⟨(some 32), (.faddr 4 (.t 2)), (some (31, true)), []⟩, ⟨(some 33), (.ld none (.t 32)), (some (31, true)), []⟩, ⟨(some 34), (.faddr 4 (.t 3)), (some (31, true)), []⟩, ⟨(some 35), (.ld none (.t 34)), (some (31, true)), []⟩, ⟨(some 36), (.bin .eql (.t 33) (.t 35)), (some (31, true)), []⟩, oI 37 (.pick (.t 31) (.t 36) (.c (.bool false))), oI 38 (.mov (.t 37)), ⟨(some 39), (.faddr 5 (.t 2)), (some (38, true)), []⟩, ⟨(some 40), (.ld none (.t 39)), (some (38, true)), []⟩, ⟨(some 41), (.faddr 5 (.t 3)), (some (38, true)), []⟩, ⟨(some 42), (.ld none (.t 41)), (some (38, true)), []⟩, ⟨(some 43), (.bin .eql (.t 40) (.t 42)), (some (38, true)), []⟩, oI 44 (.pick (.t 38) (.t 43) (.c (.bool false))), oI 45 (.mov (.t 44)), ⟨(some 46), (.faddr 6 (.t 2)), (some (45, true)), []⟩, ⟨(some 47), (.ld none (.t 46)), (some (45, true)), []⟩, ⟨(some 48), (.faddr 6 (.t 3)), (some (45, true)), []⟩, ⟨(some 49), (.ld none (.t 48)), (some (45, true)), []⟩, ⟨(some 50), (.call 43 0 true [(.t 47), (.t 49)]), (some (45, true)), []⟩, oI 51 (.pick (.t 45) (.t 50) (.c (.bool false))), oI 52 (.mov (.t 51)), ⟨(some 53), (.faddr 7 (.t 2)), (some (52, true)), []⟩, ⟨(some 54), (.ld none (.t 53)), (some (52, true)), []⟩, ⟨(some 55), (.faddr 7 (.t 3)), (some (52, true)), []⟩, ⟨(some 56), (.ld none (.t 55)), (some (52, true)), []⟩, ⟨(some 57), (.bin .eql (.t 54) (.t 56)), (some (52, true)), []⟩, oI 58 (.pick (.t 52) (.t 57) (.c (.bool false))), oI 59 (.mov (.t 58)), ⟨(some 60), (.faddr 8 (.t 2)), (some (59, true)), []⟩, ⟨(some 61), (.ld none (.t 60)), (some (59, true)), []⟩, ⟨(some 62), (.faddr 8 (.t 3)), (some (59, true)), []⟩, ⟨(some 63), (.ld none (.t 62)), (some (59, true)), []⟩, ⟨(some 64), (.bin .eql (.t 61) (.t 63)), (some (59, true)), []⟩, oI 65 (.pick (.t 59) (.t 64) (.c (.bool false))), oI 66 (.mov (.t 65)), ⟨(some 67), (.faddr 9 (.t 2)), (some (66, true)), []⟩, ⟨(some 68), (.ld none (.t 67)), (some (66, true)), []⟩, ⟨(some 69), (.faddr 9 (.t 3)), (some (66, true)), []⟩, ⟨(some 70), (.ld none (.t 69)), (some (66, true)), []⟩, ⟨(some 71), (.bin .eql (.t 68) (.t 70)), (some (66, true)), []⟩, oI 72 (.pick (.t 66) (.t 71) (.c (.bool false))), oI 4 (.mov (.t 72))] none [4]) .ret))
def c_note_Same : AFunc := ⟨[(.tmp 4)], b_note_Same⟩
theorem cf_note_Same : FC 30 = some c_note_Same := by kernel_rfl
theorem cb_note_Same : c_note_Same.body = b_note_Same := rfl
theorem cr_note_Same : c_note_Same.res = [(.tmp 4)] := rfl
def b_note_SameItem : ACode := (.seq (.region [oI 2 (.box (.t 0)), oI 3 (.box (.t 1)), oI 4 (.mov (.c (.bool false)))] none [3, 2]) (.seq (.region [oI 5 (.faddr 0 (.t 2)), oI 6 (.ld (some 10) (.t 5)), oI 7 (.faddr 0 (.t 3)), oI 8 (.ld (some 10) (.t 7)), oI 9 (.call 30 0 true [(.t 6), (.t 8)]), oI 10 (.mov (.t 9)), ⟨(some 11), (.faddr 10 (.t 2)), (some (10, true)), []⟩, ⟨(some 12), (.ld none (.t 11)), (some (10, true)), []⟩, ⟨(some 13), (.faddr 10 (.t 3)), (some (10, true)), []⟩, ⟨(some 14), (.ld none (.t 13)), (some (10, true)), []⟩, ⟨(some 15), (.bin .eql (.t 12) (.t 14)), (some (10, true)), []⟩, oI 16 (.pick (.t 10) (.t 15) (.c (.bool false))), oI 17 (.mov (.t 16)), ⟨(some 18), (.faddr 11 (.t 2)), (some (17, true)), []⟩, ⟨(some 19), (.ld none (.t 18)), (some (17, true)), []⟩, ⟨(some 20), (.faddr 11 (.t 3)), (some (17, true)), []⟩, ⟨(some 21), (.ld none (.t 20)), (some (17, true)), []⟩, ⟨(some 22), (.beq false (.t 19) (.t 21)), (some (17, true)), []⟩, oI 23 (.pick (.t 17) (.t 22) (.c (.bool false))), oI 24 (.mov (.t 23)), ⟨(some 25), (.faddr 12 (.t 2)), (some (24, true)), []⟩, ⟨(some 26), (.ld none (.t 25)), (some (24, true)), []⟩, ⟨(some 27), (.faddr 12 (.t 3)), (some (24, true)), []⟩, ⟨(some 28), (.ld none (.t 27)), (some (24, true)), []⟩, ⟨(some 29), (.call 74 0 true [(.t 26), (.t 28)]), (some (24, true)), []⟩, oI 30 (.pick (.t 24) (.t 29) (.c (.bool false))), oI 31 (.mov (.t 30)), ⟨(some 32), (.faddr 13 (.t 2)), (some (31, true)), []⟩, ⟨(some 33), (.ld none (.t 32)), (some (31, true)), []⟩, ⟨(some 34), (.faddr 13 (.t 3)), (some (31, true)), []⟩, ⟨(some 35), (.ld none (.t 34)), (some (31, true)), []⟩, ⟨(some 36), (.bin .eql (.t 33) (.t 35)), (some (31, true)), []⟩, oI 37 (.pick (.t 31) (.t 36) (.c (.bool false))), oI 4 (.mov (.t 37))] none [4]) .ret))
def c_note_SameItem : AFunc := ⟨[(.tmp 4)], b_note_SameItem⟩
theorem cf_note_SameItem : FC 31 = some c_note_SameItem := by kernel_rfl
theorem cb_note_SameItem : c_note_SameItem.body = b_note_SameItem := rfl
theorem cr_note_SameItem : c_note_SameItem.res = [(.tmp 4)] := rfl
def b_note_eight : ACode := (.seq (.region [oI 2 (.mov (.c (.lst true [])))] none [0]) (.seq (.region [oI 3 (.mov (.t 0)), oI 4 (.i2i .u64 (.t 3)), oI 5 (.call 59 0 true [(.t 4), (.c (.int .i64 8))]), oI 2 (.mov (.t 5))] none [2]) .ret))
def c_note_eight : AFunc := ⟨[(.tmp 2)], b_note_eight⟩
theorem cf_note_eight : FC 58 = some c_note_eight := by kernel_rfl
theorem cb_note_eight : c_note_eight.body = b_note_eight := rfl
theorem cr_note_eight : c_note_eight.res = [(.tmp 2)] := rfl
def b_note_kept : ACode := (.seq (.region [oI 2 (.mov (.c (.lst true [])))] none [0]) (.seq (.region [oI 3 (.mov (.t 0)), oI 4 (.bslice false 1 5 (.int .i64 0) [(0, (.c (.int .i64 1))), (1, (.c (.int .i64 3))), (2, (.c (.int .i64 8))), (3, (.c (.int .i64 9))), (4, (.c (.int .i64 38)))]), oI 5 (.call 143 0 true [(.t 3), (.t 4)]), oI 2 (.mov (.t 5))] none [2]) .ret))
def c_note_kept : AFunc := ⟨[(.tmp 2)], b_note_kept⟩
theorem cf_note_kept : FC 98 = some c_note_kept := by kernel_rfl
theorem cb_note_kept : c_note_kept.body = b_note_kept := rfl
theorem cr_note_kept : c_note_kept.res = [(.tmp 2)] := rfl
def b_note_marks : ACode := (.seq (.region [oI 4 (.mov (.c (.lst true [])))] none [1, 0]) (.seq (.seq (.region [oI 5 (.mov (.t 1))] none [5, 0]) (.cond (.t 5) (.region [oI 6 (.mov (.t 0)), oI 7 (.bin .or (.t 6) (.c (.int .i64 4))), oI 0 (.mov (.t 7))] none [0]) .skip)) (.seq (.region [oI 8 (.mov (.t 0)), oI 9 (.i2i .u8 (.t 8)), oI 10 (.bslice false 1 1 (.int .u8 0) [(0, (.t 9))]), oI 4 (.mov (.t 10))] none [4]) .ret)))
def c_note_marks : AFunc := ⟨[(.tmp 4)], b_note_marks⟩
theorem cf_note_marks : FC 57 = some c_note_marks := by kernel_rfl
theorem cb_note_marks : c_note_marks.body = b_note_marks := rfl
theorem cr_note_marks : c_note_marks.res = [(.tmp 4)] := rfl
def b_note_may : ACode := (.seq (.region [oI 1 (.box (.t 0)), oI 2 (.mov (.c (.bool false)))] none [1]) (.seq (.region [oI 3 (.faddr 2 (.t 1)), oI 4 (.ld none (.t 3)), oI 5 (.bin .lss (.t 4) (.c (.int .i64 3))), oI 6 (.mov (.t 5)), ⟨(some 7), (.faddr 5 (.t 1)), (some (6, true)), []⟩, ⟨(some 8), (.ld none (.t 7)), (some (6, true)), []⟩, ⟨(some 9), (.bin .geq (.t 8) (.c (.int .i64 0))), (some (6, true)), []⟩, oI 10 (.pick (.t 6) (.t 9) (.c (.bool false))), oI 11 (.mov (.t 10)), ⟨(some 12), (.faddr 5 (.t 1)), (some (11, true)), []⟩, ⟨(some 13), (.ld none (.t 12)), (some (11, true)), []⟩, ⟨(some 14), (.bin .leq (.t 13) (.c (.int .i64 4611686018427387904))), (some (11, true)), []⟩, oI 15 (.pick (.t 11) (.t 14) (.c (.bool false))), oI 16 (.mov (.t 15)), ⟨(some 17), (.faddr 8 (.t 1)), (some (16, true)), []⟩, ⟨(some 18), (.ld none (.t 17)), (some (16, true)), []⟩, ⟨(some 19), (.bin .geq (.t 18) (.c (.int .i64 0))), (some (16, true)), []⟩, oI 20 (.pick (.t 16) (.t 19) (.c (.bool false))), oI 21 (.mov (.t 20)), ⟨(some 22), (.faddr 8 (.t 1)), (some (21, true)), []⟩, ⟨(some 23), (.ld none (.t 22)), (some (21, true)), []⟩, ⟨(some 24), (.bin .leq (.t 23) (.c (.int .i64 4611686018427387904))), (some (21, true)), []⟩, oI 25 (.pick (.t 21) (.t 24) (.c (.bool false))), oI 26 (.mov (.t 25)), ⟨(some 27), (.faddr 6 (.t 1)), (some (26, true)), []⟩, ⟨(some 28), (.ld none (.t 27)), (some (26, true)), []⟩, ⟨(some 29), (.call 98 0 true [(.t 28)]), (some (26, true)), []⟩, ⟨(some 30), (.len (.t 29)), (some (26, true)), []⟩, ⟨(some 31), (.faddr 6 (.t 1)), (some (26, true)), []⟩, ⟨(some 32), (.ld none (.t 31)), (some (26, true)), []⟩, ⟨(some 33), (.len (.t 32)), (some (26, true)), []⟩, ⟨(some 34), (.bin .eql (.t 30) (.t 33)), (some (26, true)), []⟩, oI 35 (.pick (.t 26) (.t 34) (.c (.bool false))), oI 2 (.mov (.t 35))] (some [(25, 29), (26, 29)]) [2]) .ret))
def c_note_may : AFunc := ⟨[(.tmp 2)], b_note_may⟩
theorem cf_note_may : FC 62 = some c_note_may := by kernel_rfl
theorem cb_note_may : c_note_may.body = b_note_may := rfl
theorem cr_note_may : c_note_may.res = [(.tmp 2)] := rfl
end Go.Proofs.YtmlkhhidifjjfaaDoor
namespace Go.Proofs.YtmlkhhidifjjfaaDoor
set_option linter.unusedSimpArgs false
set_option linter.unusedVariables false
set_option maxHeartbeats 4000000
set_option maxRecDepth 10000
theorem q_sidxl (l : List Int) (hl : l.length ≤ 9223372036854775807) (v : Int) : ∀ (r : List Int) (i : Nat), l.drop i = r →
    ∃ z, K_slices_Index_int_int_l2 0 [(8, .int .i64 i), (7, .int .i64 l.length), (1, .int .i64 v), (0, .lst false (l.map (AVal.int .i64 ·)))] [] = some (.int .i64 z, []) ∧ decide (z ≥ 0) = r.contains v
  | [], i, h => by
    have h1 := drop_nil h
    refine ⟨-1, ?_, by simp⟩
    unfold K_slices_Index_int_int_l2
    rw [evL_eq]
    simp -implicitDefEqProofs only [EVS0, EVS1, EVS2, EVS3, EVS4, EVS5, EVS6, EVS7, EVL0, EVL1, ite_tf, ite_ft, ite_tft, ite_ftf, ite_list, ite_tt, ite_ee, ite_nt, ite_ne, eq_self, implies_true, forall_const, exI, nsite, freeAt, execI, Opd.ev, tget, tins, tput, keepL, sitesOf, List.sum_cons, List.sum_nil, Nat.reduceAdd, Nat.reduceSub, Nat.reduceLT, Nat.reduceLeDiff, Nat.reduceEqDiff, Nat.reduceBEq, Nat.reduceMul, beq_self_eq_true, Bool.false_eq_true, ldA, stA, partA, faddrA, setAt, binA, arithA, shiftA, strA, unA, gSpan, gSkip, unG, ne_eq, Option.some.injEq, reduceCtorEq, decide_true, decide_false, elemsA, resA, resAll, resOne, enterA, decide_eq_true_eq, Bool.not_eq_true, Bool.decide_eq_true, ite_self, ↓reduceIte, noRefL, clrA, gcT, gcA, gcIds, reach, rhoOf, heapOf, idxA, genB, newGen, renB, refsB, List.contains_cons, List.range_succ, cb_slices_Index_int_int, b_slices_Index_int_int, cr_slices_Index_int_int, x_slices_Index_int_int_k0, d_slices_Index_int_int_k0, x_slices_Index_int_int_l2, d_slices_Index_int_int_l2, oI, oN, intsV, bytesV, propsV, propV, propC, bytesOf_map, h1]
  | x :: r, i, h => by
    obtain ⟨z, ih, hz⟩ := q_sidxl l hl v r (i + 1) (drop_at h).2.1
    have h1 : (i : Int) < l.length := by have := (drop_at h).2.2; omega
    have e1 := iad (drop_at h).1 (AVal.int .i64 ·) (k := 1) rfl
    have e3 := wrap_succ h1 hl
    cases hb : (v == x)
    · refine ⟨z, ?_, by rw [hz]; simp only [List.contains_cons, hb, Bool.false_or]⟩
      unfold K_slices_Index_int_int_l2 at ih ⊢
      rw [evL_eq]
      have hb' : (x == v) = false := by simp only [beq_eq_false_iff_ne, ne_eq] at hb ⊢; exact fun e => hb e.symm
      simp -implicitDefEqProofs only [EVS0, EVS1, EVS2, EVS3, EVS4, EVS5, EVS6, EVS7, EVL0, EVL1, ite_tf, ite_ft, ite_tft, ite_ftf, ite_list, ite_tt, ite_ee, ite_nt, ite_ne, eq_self, implies_true, forall_const, exI, nsite, freeAt, execI, Opd.ev, tget, tins, tput, keepL, sitesOf, List.sum_cons, List.sum_nil, Nat.reduceAdd, Nat.reduceSub, Nat.reduceLT, Nat.reduceLeDiff, Nat.reduceEqDiff, Nat.reduceBEq, Nat.reduceMul, beq_self_eq_true, Bool.false_eq_true, ldA, stA, partA, faddrA, setAt, binA, arithA, shiftA, strA, unA, gSpan, gSkip, unG, ne_eq, Option.some.injEq, reduceCtorEq, decide_true, decide_false, elemsA, resA, resAll, resOne, enterA, decide_eq_true_eq, Bool.not_eq_true, Bool.decide_eq_true, ite_self, ↓reduceIte, noRefL, clrA, gcT, gcA, gcIds, reach, rhoOf, heapOf, idxA, genB, newGen, renB, refsB, List.contains_cons, List.range_succ, cb_slices_Index_int_int, b_slices_Index_int_int, cr_slices_Index_int_int, x_slices_Index_int_int_k0, d_slices_Index_int_int_k0, x_slices_Index_int_int_l2, d_slices_Index_int_int_l2, oI, oN, intsV, bytesV, propsV, propV, propC, bytesOf_map, h1, e1, e3, hb, hb']
      exact ih
    · refine ⟨i, ?_, by simp only [List.contains_cons, hb, Bool.true_or]; simp⟩
      have hb' : (x == v) = true := by simp only [beq_iff_eq] at hb ⊢; exact hb.symm
      unfold K_slices_Index_int_int_l2 at ih ⊢
      rw [evL_eq]
      simp -implicitDefEqProofs only [EVS0, EVS1, EVS2, EVS3, EVS4, EVS5, EVS6, EVS7, EVL0, EVL1, ite_tf, ite_ft, ite_tft, ite_ftf, ite_list, ite_tt, ite_ee, ite_nt, ite_ne, eq_self, implies_true, forall_const, exI, nsite, freeAt, execI, Opd.ev, tget, tins, tput, keepL, sitesOf, List.sum_cons, List.sum_nil, Nat.reduceAdd, Nat.reduceSub, Nat.reduceLT, Nat.reduceLeDiff, Nat.reduceEqDiff, Nat.reduceBEq, Nat.reduceMul, beq_self_eq_true, Bool.false_eq_true, ldA, stA, partA, faddrA, setAt, binA, arithA, shiftA, strA, unA, gSpan, gSkip, unG, ne_eq, Option.some.injEq, reduceCtorEq, decide_true, decide_false, elemsA, resA, resAll, resOne, enterA, decide_eq_true_eq, Bool.not_eq_true, Bool.decide_eq_true, ite_self, ↓reduceIte, noRefL, clrA, gcT, gcA, gcIds, reach, rhoOf, heapOf, idxA, genB, newGen, renB, refsB, List.contains_cons, List.range_succ, cb_slices_Index_int_int, b_slices_Index_int_int, cr_slices_Index_int_int, x_slices_Index_int_int_k0, d_slices_Index_int_int_k0, x_slices_Index_int_int_l2, d_slices_Index_int_int_l2, oI, oN, intsV, bytesV, propsV, propV, propC, bytesOf_map, h1, e1, e3, hb, hb']
theorem q_sidx (l : List Int) (hl : l.length ≤ 9223372036854775807) (v : Int) : ∃ z, E 163 [intsV l, .int .i64 v] [] = some (.int .i64 z, []) ∧ decide (z ≥ 0) = l.contains v := by
  obtain ⟨z, h, hz⟩ := q_sidxl l hl v l 0 rfl
  refine ⟨z, ?_, hz⟩
  have z0 : ((0 : Nat) : Int) = 0 := rfl
  rw [z0] at h
  unfold K_slices_Index_int_int_l2 at h
  rw [E_eq (by rfl) cf_slices_Index_int_int]
  simp -implicitDefEqProofs only [EVS0, EVS1, EVS2, EVS3, EVS4, EVS5, EVS6, EVS7, EVL0, EVL1, ite_tf, ite_ft, ite_tft, ite_ftf, ite_list, ite_tt, ite_ee, ite_nt, ite_ne, eq_self, implies_true, forall_const, exI, nsite, freeAt, execI, Opd.ev, tget, tins, tput, keepL, sitesOf, List.sum_cons, List.sum_nil, Nat.reduceAdd, Nat.reduceSub, Nat.reduceLT, Nat.reduceLeDiff, Nat.reduceEqDiff, Nat.reduceBEq, Nat.reduceMul, beq_self_eq_true, Bool.false_eq_true, ldA, stA, partA, faddrA, setAt, binA, arithA, shiftA, strA, unA, gSpan, gSkip, unG, ne_eq, Option.some.injEq, reduceCtorEq, decide_true, decide_false, elemsA, resA, resAll, resOne, enterA, decide_eq_true_eq, Bool.not_eq_true, Bool.decide_eq_true, ite_self, ↓reduceIte, noRefL, clrA, gcT, gcA, gcIds, reach, rhoOf, heapOf, idxA, genB, newGen, renB, refsB, List.contains_cons, List.range_succ, cb_slices_Index_int_int, b_slices_Index_int_int, cr_slices_Index_int_int, x_slices_Index_int_int_k0, d_slices_Index_int_int_k0, x_slices_Index_int_int_l2, d_slices_Index_int_int_l2, oI, oN, intsV, bytesV, propsV, propV, propC, bytesOf_map, intsV]
  exact h
theorem q_contains (l : List Int) (hl : l.length ≤ 9223372036854775807) (v : Int) : E 158 [intsV l, .int .i64 v] [] = some (.bool (l.contains v), []) := by
  obtain ⟨z, h, hz⟩ := q_sidx l hl v
  have hC : ∀ (σ : AHeap) (site own : Nat) (view : Bool), callG E BY σ site 163 own view [.lst false (l.map (AVal.int .i64 ·)), .int .i64 v] = some (.int .i64 z, σ, {}) := fun σ site own view => call_flat (h) (by kernel_rfl) (by simp -implicitDefEqProofs only [EVS0, EVS1, EVS2, EVS3, EVS4, EVS5, EVS6, EVS7, EVL0, EVL1, eq_self, implies_true, Bool.false_eq_true, intsV, bytesV, propsV, propV, propC, intsV]) (by simp -implicitDefEqProofs only [EVS0, EVS1, EVS2, EVS3, EVS4, EVS5, EVS6, EVS7, EVL0, EVL1, eq_self, implies_true, Bool.false_eq_true, intsV, bytesV, propsV, propV, propC, intsV]) rfl (fun _ => rfl) _ _ _ _
  rw [E_eq (by rfl) cf_slices_Contains_int_int]
  rw [← hz]
  simp -implicitDefEqProofs only [EVS0, EVS1, EVS2, EVS3, EVS4, EVS5, EVS6, EVS7, EVL0, EVL1, ite_tf, ite_ft, ite_tft, ite_ftf, ite_list, ite_tt, ite_ee, ite_nt, ite_ne, eq_self, implies_true, forall_const, exI, nsite, freeAt, execI, Opd.ev, tget, tins, tput, keepL, sitesOf, List.sum_cons, List.sum_nil, Nat.reduceAdd, Nat.reduceSub, Nat.reduceLT, Nat.reduceLeDiff, Nat.reduceEqDiff, Nat.reduceBEq, Nat.reduceMul, beq_self_eq_true, Bool.false_eq_true, ldA, stA, partA, faddrA, setAt, binA, arithA, shiftA, strA, unA, gSpan, gSkip, unG, ne_eq, Option.some.injEq, reduceCtorEq, decide_true, decide_false, elemsA, resA, resAll, resOne, enterA, decide_eq_true_eq, Bool.not_eq_true, Bool.decide_eq_true, ite_self, ↓reduceIte, noRefL, clrA, gcT, gcA, gcIds, reach, rhoOf, heapOf, idxA, genB, newGen, renB, refsB, List.contains_cons, List.range_succ, cb_slices_Contains_int_int, b_slices_Contains_int_int, cr_slices_Contains_int_int, oI, oN, intsV, bytesV, propsV, propV, propC, bytesOf_map, hC]
theorem q_containsC (σ : AHeap) (site own : Nat) (l : List Int) (hl : l.length ≤ 9223372036854775807) (v : Int) (b : Bool) : callG E BY σ site 158 own true [.lst b (l.map (AVal.int .i64 ·)), .int .i64 v] = some (.bool (l.contains v), σ, {}) :=
  call_normT (q_contains l hl v) (by kernel_rfl) rfl rfl rfl (fun _ => rfl) _ _ _
def onlyL (ids : List Int) (l : List PropD) : List PropD := l.filter fun p => ids.contains p.id
theorem q_onlyl (ids : List Int) (hi : ids.length ≤ 9223372036854775807) (l : List PropD) (hl : l.length * 72 ≤ 140737488355328) (hd : ∀ p ∈ l, p.data.length ≤ 140737488355328) (full : List AVal) : ∀ (r : List PropD) (i : Nat) (acc : List PropD), l.drop i = r → acc.length + r.length ≤ l.length → full = (acc ++ onlyL ids r).map propV →
    K_prop_Only_l3 0 [(10, .int .i64 i), (9, .int .i64 l.length), (8, .lst false (l.map propV)), (5, growV (acc.map propV)), (1, .lst false (ids.map (AVal.int .i64 ·)))] (growH 5 (acc.map propV)) = some (growV full, growH 5 full)
  | [], i, acc, h, _, hf => by
    have h1 := drop_nil h
    have e : acc ++ onlyL ids [] = acc := by simp [onlyL]
    rw [e] at hf
    subst hf
    unfold K_prop_Only_l3
    rw [evL_eq]
    cases acc with
    | nil => simp -implicitDefEqProofs only [EVS0, EVS1, EVS2, EVS3, EVS4, EVS5, EVS6, EVS7, EVL0, EVL1, ite_tf, ite_ft, ite_tft, ite_ftf, ite_list, ite_tt, ite_ee, ite_nt, ite_ne, eq_self, implies_true, forall_const, exI, nsite, freeAt, execI, Opd.ev, tget, tins, tput, keepL, sitesOf, List.sum_cons, List.sum_nil, Nat.reduceAdd, Nat.reduceSub, Nat.reduceLT, Nat.reduceLeDiff, Nat.reduceEqDiff, Nat.reduceBEq, Nat.reduceMul, beq_self_eq_true, Bool.false_eq_true, ldA, stA, partA, faddrA, setAt, binA, arithA, shiftA, strA, unA, gSpan, gSkip, unG, ne_eq, Option.some.injEq, reduceCtorEq, decide_true, decide_false, elemsA, resA, resAll, resOne, enterA, decide_eq_true_eq, Bool.not_eq_true, Bool.decide_eq_true, ite_self, ↓reduceIte, noRefL, clrA, gcT, gcA, gcIds, reach, rhoOf, heapOf, idxA, genB, newGen, renB, refsB, List.contains_cons, List.range_succ, cb_prop_Only, b_prop_Only, cr_prop_Only, x_prop_Only_k0, d_prop_Only_k0, x_prop_Only_l3, d_prop_Only_l3, oI, oN, intsV, bytesV, propsV, propV, propC, bytesOf_map, h1, growV_nil, growH_nil, List.map_nil]
    | cons a acc => simp -implicitDefEqProofs only [EVS0, EVS1, EVS2, EVS3, EVS4, EVS5, EVS6, EVS7, EVL0, EVL1, ite_tf, ite_ft, ite_tft, ite_ftf, ite_list, ite_tt, ite_ee, ite_nt, ite_ne, eq_self, implies_true, forall_const, exI, nsite, freeAt, execI, Opd.ev, tget, tins, tput, keepL, sitesOf, List.sum_cons, List.sum_nil, Nat.reduceAdd, Nat.reduceSub, Nat.reduceLT, Nat.reduceLeDiff, Nat.reduceEqDiff, Nat.reduceBEq, Nat.reduceMul, beq_self_eq_true, Bool.false_eq_true, ldA, stA, partA, faddrA, setAt, binA, arithA, shiftA, strA, unA, gSpan, gSkip, unG, ne_eq, Option.some.injEq, reduceCtorEq, decide_true, decide_false, elemsA, resA, resAll, resOne, enterA, decide_eq_true_eq, Bool.not_eq_true, Bool.decide_eq_true, ite_self, ↓reduceIte, noRefL, clrA, gcT, gcA, gcIds, reach, rhoOf, heapOf, idxA, genB, newGen, renB, refsB, List.contains_cons, List.range_succ, cb_prop_Only, b_prop_Only, cr_prop_Only, x_prop_Only_k0, d_prop_Only_k0, x_prop_Only_l3, d_prop_Only_l3, oI, oN, intsV, bytesV, propsV, propV, propC, bytesOf_map, h1, growV_cons, growH_cons, List.map_cons, out_row0]
  | p :: r, i, acc, h, hn, hf => by
    have h1 : (i : Int) < l.length := by have := (drop_at h).2.2; omega
    have e1 := iad (drop_at h).1 propV (k := 5) rfl
    have e3 := wrap_succ h1 (by omega)
    have hC := fun σ site own => q_copiedC σ site own p (hd p (List.mem_of_getElem? (drop_at h).1))
    have hK := fun σ site own b => q_containsC σ site own ids hi p.id b
    cases hb : ids.contains p.id
    · have e : onlyL ids (p :: r) = onlyL ids r := by unfold onlyL; rw [List.filter_cons, hb]; rfl
      rw [e] at hf
      have ih := q_onlyl ids hi l hl hd full r (i + 1) acc (drop_at h).2.1 (by simp at hn; omega) hf
      clear hf
      rw [hb] at hK
      unfold K_prop_Only_l3 at ih ⊢
      rw [evL_eq]
      cases acc with
      | nil =>
        simp -implicitDefEqProofs only [EVS0, EVS1, EVS2, EVS3, EVS4, EVS5, EVS6, EVS7, EVL0, EVL1, ite_tf, ite_ft, ite_tft, ite_ftf, ite_list, ite_tt, ite_ee, ite_nt, ite_ne, eq_self, implies_true, forall_const, exI, nsite, freeAt, execI, Opd.ev, tget, tins, tput, keepL, sitesOf, List.sum_cons, List.sum_nil, Nat.reduceAdd, Nat.reduceSub, Nat.reduceLT, Nat.reduceLeDiff, Nat.reduceEqDiff, Nat.reduceBEq, Nat.reduceMul, beq_self_eq_true, Bool.false_eq_true, ldA, stA, partA, faddrA, setAt, binA, arithA, shiftA, strA, unA, gSpan, gSkip, unG, ne_eq, Option.some.injEq, reduceCtorEq, decide_true, decide_false, elemsA, resA, resAll, resOne, enterA, decide_eq_true_eq, Bool.not_eq_true, Bool.decide_eq_true, ite_self, ↓reduceIte, noRefL, clrA, gcT, gcA, gcIds, reach, rhoOf, heapOf, idxA, genB, newGen, renB, refsB, List.contains_cons, List.range_succ, cb_prop_Only, b_prop_Only, cr_prop_Only, x_prop_Only_k0, d_prop_Only_k0, x_prop_Only_l3, d_prop_Only_l3, oI, oN, intsV, bytesV, propsV, propV, propC, bytesOf_map, h1, e1, e3, hK, growV_nil, growH_nil, List.map_nil]
        exact ih
      | cons a acc =>
        simp -implicitDefEqProofs only [EVS0, EVS1, EVS2, EVS3, EVS4, EVS5, EVS6, EVS7, EVL0, EVL1, ite_tf, ite_ft, ite_tft, ite_ftf, ite_list, ite_tt, ite_ee, ite_nt, ite_ne, eq_self, implies_true, forall_const, exI, nsite, freeAt, execI, Opd.ev, tget, tins, tput, keepL, sitesOf, List.sum_cons, List.sum_nil, Nat.reduceAdd, Nat.reduceSub, Nat.reduceLT, Nat.reduceLeDiff, Nat.reduceEqDiff, Nat.reduceBEq, Nat.reduceMul, beq_self_eq_true, Bool.false_eq_true, ldA, stA, partA, faddrA, setAt, binA, arithA, shiftA, strA, unA, gSpan, gSkip, unG, ne_eq, Option.some.injEq, reduceCtorEq, decide_true, decide_false, elemsA, resA, resAll, resOne, enterA, decide_eq_true_eq, Bool.not_eq_true, Bool.decide_eq_true, ite_self, ↓reduceIte, noRefL, clrA, gcT, gcA, gcIds, reach, rhoOf, heapOf, idxA, genB, newGen, renB, refsB, List.contains_cons, List.range_succ, cb_prop_Only, b_prop_Only, cr_prop_Only, x_prop_Only_k0, d_prop_Only_k0, x_prop_Only_l3, d_prop_Only_l3, oI, oN, intsV, bytesV, propsV, propV, propC, bytesOf_map, h1, e1, e3, hK, growV_cons, growH_cons, List.map_cons]
        simp only [List.map_append, List.map_cons, List.map_nil, List.nil_append, List.cons_append, growV_cons, growV_nil, growH_cons, growH_nil, List.length_append, List.length_cons, List.length_map, List.length_nil, propV, propC, bytesV, Nat.zero_add, Nat.add_assoc, Nat.reduceAdd, intsV] at ih
        exact ih
    · have e : acc ++ onlyL ids (p :: r) = (acc ++ [p]) ++ onlyL ids r := by unfold onlyL; rw [List.filter_cons, hb]; simp
      rw [e] at hf
      have ih := q_onlyl ids hi l hl hd full r (i + 1) (acc ++ [p]) (drop_at h).2.1 (by simp at hn ⊢; omega) hf
      clear hf
      rw [hb] at hK
      unfold K_prop_Only_l3 at ih ⊢
      rw [evL_eq]
      cases acc with
      | nil =>
        simp -implicitDefEqProofs only [EVS0, EVS1, EVS2, EVS3, EVS4, EVS5, EVS6, EVS7, EVL0, EVL1, ite_tf, ite_ft, ite_tft, ite_ftf, ite_list, ite_tt, ite_ee, ite_nt, ite_ne, eq_self, implies_true, forall_const, exI, nsite, freeAt, execI, Opd.ev, tget, tins, tput, keepL, sitesOf, List.sum_cons, List.sum_nil, Nat.reduceAdd, Nat.reduceSub, Nat.reduceLT, Nat.reduceLeDiff, Nat.reduceEqDiff, Nat.reduceBEq, Nat.reduceMul, beq_self_eq_true, Bool.false_eq_true, ldA, stA, partA, faddrA, setAt, binA, arithA, shiftA, strA, unA, gSpan, gSkip, unG, ne_eq, Option.some.injEq, reduceCtorEq, decide_true, decide_false, elemsA, resA, resAll, resOne, enterA, decide_eq_true_eq, Bool.not_eq_true, Bool.decide_eq_true, ite_self, ↓reduceIte, noRefL, clrA, gcT, gcA, gcIds, reach, rhoOf, heapOf, idxA, genB, newGen, renB, refsB, List.contains_cons, List.range_succ, cb_prop_Only, b_prop_Only, cr_prop_Only, x_prop_Only_k0, d_prop_Only_k0, x_prop_Only_l3, d_prop_Only_l3, oI, oN, intsV, bytesV, propsV, propV, propC, bytesOf_map, h1, e1, e3, hK, hC, growV_nil, growH_nil, List.map_nil, appA, kOk, viewAs, viewA, viewA1, viewsA, freezeA, List.foldl_cons, List.foldl_nil, List.length_singleton, Nat.one_mul, AVal.cells]
        simp only [List.map_append, List.map_cons, List.map_nil, List.nil_append, List.cons_append, growV_cons, growV_nil, growH_cons, growH_nil, List.length_append, List.length_cons, List.length_map, List.length_nil, propV, propC, bytesV, Nat.zero_add, Nat.add_assoc, Nat.reduceAdd, intsV] at ih
        exact ih
      | cons a acc =>
        have hz : (acc.length + 1 + 1) * 72 ≤ 140737488355328 := by simp at hn; omega
        simp -implicitDefEqProofs only [EVS0, EVS1, EVS2, EVS3, EVS4, EVS5, EVS6, EVS7, EVL0, EVL1, ite_tf, ite_ft, ite_tft, ite_ftf, ite_list, ite_tt, ite_ee, ite_nt, ite_ne, eq_self, implies_true, forall_const, exI, nsite, freeAt, execI, Opd.ev, tget, tins, tput, keepL, sitesOf, List.sum_cons, List.sum_nil, Nat.reduceAdd, Nat.reduceSub, Nat.reduceLT, Nat.reduceLeDiff, Nat.reduceEqDiff, Nat.reduceBEq, Nat.reduceMul, beq_self_eq_true, Bool.false_eq_true, ldA, stA, partA, faddrA, setAt, binA, arithA, shiftA, strA, unA, gSpan, gSkip, unG, ne_eq, Option.some.injEq, reduceCtorEq, decide_true, decide_false, elemsA, resA, resAll, resOne, enterA, decide_eq_true_eq, Bool.not_eq_true, Bool.decide_eq_true, ite_self, ↓reduceIte, noRefL, clrA, gcT, gcA, gcIds, reach, rhoOf, heapOf, idxA, genB, newGen, renB, refsB, List.contains_cons, List.range_succ, cb_prop_Only, b_prop_Only, cr_prop_Only, x_prop_Only_k0, d_prop_Only_k0, x_prop_Only_l3, d_prop_Only_l3, oI, oN, intsV, bytesV, propsV, propV, propC, bytesOf_map, h1, e1, e3, hK, hC, growV_cons, growH_cons, List.map_cons, appA, kOk, viewAs, viewA, viewA1, viewsA, freezeA, List.foldl_cons, List.foldl_nil, List.length_singleton, Nat.one_mul, AVal.cells, hz]
        simp only [List.map_append, List.map_cons, List.map_nil, List.nil_append, List.cons_append, growV_cons, growV_nil, growH_cons, growH_nil, List.length_append, List.length_cons, List.length_map, List.length_nil, propV, propC, bytesV, Nat.zero_add, Nat.add_assoc, Nat.reduceAdd, intsV] at ih
        exact ih
theorem q_only (ids : List Int) (hi : ids.length ≤ 9223372036854775807) (l : List PropD) (hl : l.length * 72 ≤ 140737488355328) (hd : ∀ p ∈ l, p.data.length ≤ 140737488355328) : E 143 [propsV l, intsV ids] [] = some (growV ((onlyL ids l).map propV), growH 5 ((onlyL ids l).map propV)) := by
  have := q_onlyl ids hi l hl hd ((onlyL ids l).map propV) l 0 [] rfl (by simp) (by simp)
  have z0 : ((0 : Nat) : Int) = 0 := rfl
  rw [z0, List.map_nil, growV_nil, growH_nil] at this
  unfold K_prop_Only_l3 at this
  rw [E_eq (by rfl) cf_prop_Only]
  simp -implicitDefEqProofs only [EVS0, EVS1, EVS2, EVS3, EVS4, EVS5, EVS6, EVS7, EVL0, EVL1, ite_tf, ite_ft, ite_tft, ite_ftf, ite_list, ite_tt, ite_ee, ite_nt, ite_ne, eq_self, implies_true, forall_const, exI, nsite, freeAt, execI, Opd.ev, tget, tins, tput, keepL, sitesOf, List.sum_cons, List.sum_nil, Nat.reduceAdd, Nat.reduceSub, Nat.reduceLT, Nat.reduceLeDiff, Nat.reduceEqDiff, Nat.reduceBEq, Nat.reduceMul, beq_self_eq_true, Bool.false_eq_true, ldA, stA, partA, faddrA, setAt, binA, arithA, shiftA, strA, unA, gSpan, gSkip, unG, ne_eq, Option.some.injEq, reduceCtorEq, decide_true, decide_false, elemsA, resA, resAll, resOne, enterA, decide_eq_true_eq, Bool.not_eq_true, Bool.decide_eq_true, ite_self, ↓reduceIte, noRefL, clrA, gcT, gcA, gcIds, reach, rhoOf, heapOf, idxA, genB, newGen, renB, refsB, List.contains_cons, List.range_succ, cb_prop_Only, b_prop_Only, cr_prop_Only, x_prop_Only_k0, d_prop_Only_k0, x_prop_Only_l3, d_prop_Only_l3, oI, oN, intsV, bytesV, propsV, propV, propC, bytesOf_map, intsV]
  exact this
theorem q_onlyC (σ : AHeap) (site own : Nat) (b : Bool) (ids : List Int) (hi : ids.length ≤ 9223372036854775807) (l : List PropD) (hl : l.length * 72 ≤ 140737488355328) (hd : ∀ p ∈ l, p.data.length ≤ 140737488355328) (b' : Bool) : callG E BY σ site 143 own true [.lst b' (l.map propV), .lst b (ids.map (AVal.int .i64 ·))] = some (.lst false ((onlyL ids l).map propV), σ, {}) :=
  view_grow (q_only ids hi l hl hd) (by kernel_rfl) rfl rfl σ site own
def keptL (l : List PropD) : List PropD := onlyL [1, 3, 8, 9, 38] l
theorem q_kept (l : List PropD) (hl : l.length * 72 ≤ 140737488355328) (hd : ∀ p ∈ l, p.data.length ≤ 140737488355328) : E 98 [propsV l] [] = some (propsV (keptL l), []) := by
  have hC := fun σ site own b b' => q_onlyC σ site own b [1, 3, 8, 9, 38] (by decide) l hl hd b'
  simp only [List.map_cons, List.map_nil] at hC
  have e : onlyL [1, 3, 8, 9, 38] l = keptL l := rfl
  rw [e] at hC
  rw [E_eq (by rfl) cf_note_kept]
  simp -implicitDefEqProofs only [EVS0, EVS1, EVS2, EVS3, EVS4, EVS5, EVS6, EVS7, EVL0, EVL1, ite_tf, ite_ft, ite_tft, ite_ftf, ite_list, ite_tt, ite_ee, ite_nt, ite_ne, eq_self, implies_true, forall_const, exI, nsite, freeAt, execI, Opd.ev, tget, tins, tput, keepL, sitesOf, List.sum_cons, List.sum_nil, Nat.reduceAdd, Nat.reduceSub, Nat.reduceLT, Nat.reduceLeDiff, Nat.reduceEqDiff, Nat.reduceBEq, Nat.reduceMul, beq_self_eq_true, Bool.false_eq_true, ldA, stA, partA, faddrA, setAt, binA, arithA, shiftA, strA, unA, gSpan, gSkip, unG, ne_eq, Option.some.injEq, reduceCtorEq, decide_true, decide_false, elemsA, resA, resAll, resOne, enterA, decide_eq_true_eq, Bool.not_eq_true, Bool.decide_eq_true, ite_self, ↓reduceIte, noRefL, clrA, gcT, gcA, gcIds, reach, rhoOf, heapOf, idxA, genB, newGen, renB, refsB, List.contains_cons, List.range_succ, cb_note_kept, b_note_kept, cr_note_kept, oI, oN, intsV, bytesV, propsV, propV, propC, bytesOf_map, hC, viewAs, viewA, viewA1, viewsA, freezeA, AVal.cells, List.foldl_cons, List.foldl_nil]
theorem q_keptC (σ : AHeap) (site own : Nat) (b : Bool) (l : List PropD) (hl : l.length * 72 ≤ 140737488355328) (hd : ∀ p ∈ l, p.data.length ≤ 140737488355328) : callG E BY σ site 98 own true [.lst b (l.map propV)] = some (.lst false ((keptL l).map propV), σ, {}) :=
  call_normT (q_kept l hl hd) (by kernel_rfl) rfl rfl rfl (fun _ => rfl) σ site own
end Go.Proofs.YtmlkhhidifjjfaaDoor
namespace Go.Proofs.YtmlkhhidifjjfaaDoor
set_option linter.unusedSimpArgs false
set_option linter.unusedVariables false
set_option maxHeartbeats 2000000
set_option maxRecDepth 10000
theorem q_ieql (a b : List Int) (h : a.length = b.length) (hl : a.length ≤ 9223372036854775807) : ∀ (r s : List Int) (i : Nat), a.drop i = r → b.drop i = s → K_slices_Equal_int_int_l4 0 [(13, .int .i64 i), (12, .int .i64 a.length), (1, intsV b), (0, intsV a)] [] = some (.bool (r == s), [])
  | [], s, i, ha, hb => by
    have hs : s = [] := by
      subst hb; rw [List.drop_eq_nil_iff] at ha ⊢; omega
    subst hs
    have h1 := drop_nil ha
    unfold K_slices_Equal_int_int_l4
    rw [evL_eq]
    simp -implicitDefEqProofs only [EVS0, EVS1, EVS2, EVS3, EVS4, EVS5, EVS6, EVS7, EVL0, EVL1, ite_tf, ite_ft, ite_tft, ite_ftf, ite_list, ite_tt, ite_ee, ite_nt, ite_ne, eq_self, implies_true, forall_const, exI, nsite, freeAt, execI, Opd.ev, tget, tins, tput, keepL, sitesOf, List.sum_cons, List.sum_nil, Nat.reduceAdd, Nat.reduceSub, Nat.reduceLT, Nat.reduceLeDiff, Nat.reduceEqDiff, Nat.reduceBEq, Nat.reduceMul, beq_self_eq_true, Bool.false_eq_true, ldA, stA, partA, faddrA, setAt, binA, arithA, shiftA, strA, unA, gSpan, gSkip, unG, ne_eq, Option.some.injEq, reduceCtorEq, decide_true, decide_false, elemsA, resA, resAll, resOne, enterA, decide_eq_true_eq, Bool.not_eq_true, Bool.decide_eq_true, ite_self, ↓reduceIte, noRefL, clrA, gcT, gcA, gcIds, reach, rhoOf, heapOf, idxA, genB, newGen, renB, refsB, List.contains_cons, List.range_succ, cb_slices_Equal_int_int, b_slices_Equal_int_int, cr_slices_Equal_int_int, x_slices_Equal_int_int_k0, d_slices_Equal_int_int_k0, x_slices_Equal_int_int_l4, d_slices_Equal_int_int_l4, oI, oN, intsV, bytesV, propsV, propV, propC, bytesOf_map, h1]
  | x :: r, [], i, ha, hb => by
    have := (drop_at ha).2.2; rw [List.drop_eq_nil_iff] at hb; omega
  | x :: r, y :: s, i, ha, hb => by
    have ih := q_ieql a b h hl r s (i + 1) (drop_at ha).2.1 (drop_at hb).2.1
    have h1 : (i : Int) < a.length := by have := (drop_at ha).2.2; omega
    have e1 := iad (drop_at ha).1 (.int .i64 ·) (k := 1) rfl
    have e2 := iad (drop_at hb).1 (.int .i64 ·) (k := 1) rfl
    have e3 := wrap_succ h1 hl
    unfold K_slices_Equal_int_int_l4 at ih ⊢
    rw [evL_eq]
    simp -implicitDefEqProofs only [EVS0, EVS1, EVS2, EVS3, EVS4, EVS5, EVS6, EVS7, EVL0, EVL1, ite_tf, ite_ft, ite_tft, ite_ftf, ite_list, ite_tt, ite_ee, ite_nt, ite_ne, eq_self, implies_true, forall_const, exI, nsite, freeAt, execI, Opd.ev, tget, tins, tput, keepL, sitesOf, List.sum_cons, List.sum_nil, Nat.reduceAdd, Nat.reduceSub, Nat.reduceLT, Nat.reduceLeDiff, Nat.reduceEqDiff, Nat.reduceBEq, Nat.reduceMul, beq_self_eq_true, Bool.false_eq_true, ldA, stA, partA, faddrA, setAt, binA, arithA, shiftA, strA, unA, gSpan, gSkip, unG, ne_eq, Option.some.injEq, reduceCtorEq, decide_true, decide_false, elemsA, resA, resAll, resOne, enterA, decide_eq_true_eq, Bool.not_eq_true, Bool.decide_eq_true, ite_self, ↓reduceIte, noRefL, clrA, gcT, gcA, gcIds, reach, rhoOf, heapOf, idxA, genB, newGen, renB, refsB, List.contains_cons, List.range_succ, cb_slices_Equal_int_int, b_slices_Equal_int_int, cr_slices_Equal_int_int, x_slices_Equal_int_int_k0, d_slices_Equal_int_int_k0, x_slices_Equal_int_int_l4, d_slices_Equal_int_int_l4, oI, oN, intsV, bytesV, propsV, propV, propC, bytesOf_map, h1, e1, e2, e3]
    simp only [intsV] at ih
    rw [ih]
    by_cases hx : x = y <;> simp [hx]
theorem q_ieq (a b : List Int) (hl : a.length ≤ 9223372036854775807) : E 74 [intsV a, intsV b] [] = some (.bool (a == b), []) := by
  rw [E_eq (by rfl) cf_slices_Equal_int_int]
  by_cases h : a.length = b.length
  · have := q_ieql a b h hl a b 0 rfl rfl
    unfold K_slices_Equal_int_int_l4 at this
    simp only [intsV] at this
    have e := len_eq h
    simp -implicitDefEqProofs only [EVS0, EVS1, EVS2, EVS3, EVS4, EVS5, EVS6, EVS7, EVL0, EVL1, ite_tf, ite_ft, ite_tft, ite_ftf, ite_list, ite_tt, ite_ee, ite_nt, ite_ne, eq_self, implies_true, forall_const, exI, nsite, freeAt, execI, Opd.ev, tget, tins, tput, keepL, sitesOf, List.sum_cons, List.sum_nil, Nat.reduceAdd, Nat.reduceSub, Nat.reduceLT, Nat.reduceLeDiff, Nat.reduceEqDiff, Nat.reduceBEq, Nat.reduceMul, beq_self_eq_true, Bool.false_eq_true, ldA, stA, partA, faddrA, setAt, binA, arithA, shiftA, strA, unA, gSpan, gSkip, unG, ne_eq, Option.some.injEq, reduceCtorEq, decide_true, decide_false, elemsA, resA, resAll, resOne, enterA, decide_eq_true_eq, Bool.not_eq_true, Bool.decide_eq_true, ite_self, ↓reduceIte, noRefL, clrA, gcT, gcA, gcIds, reach, rhoOf, heapOf, idxA, genB, newGen, renB, refsB, List.contains_cons, List.range_succ, cb_slices_Equal_int_int, b_slices_Equal_int_int, cr_slices_Equal_int_int, x_slices_Equal_int_int_k0, d_slices_Equal_int_int_k0, x_slices_Equal_int_int_l4, d_slices_Equal_int_int_l4, oI, oN, intsV, bytesV, propsV, propV, propC, bytesOf_map, e]
    exact this
  · have e := len_ne h
    simp -implicitDefEqProofs only [EVS0, EVS1, EVS2, EVS3, EVS4, EVS5, EVS6, EVS7, EVL0, EVL1, ite_tf, ite_ft, ite_tft, ite_ftf, ite_list, ite_tt, ite_ee, ite_nt, ite_ne, eq_self, implies_true, forall_const, exI, nsite, freeAt, execI, Opd.ev, tget, tins, tput, keepL, sitesOf, List.sum_cons, List.sum_nil, Nat.reduceAdd, Nat.reduceSub, Nat.reduceLT, Nat.reduceLeDiff, Nat.reduceEqDiff, Nat.reduceBEq, Nat.reduceMul, beq_self_eq_true, Bool.false_eq_true, ldA, stA, partA, faddrA, setAt, binA, arithA, shiftA, strA, unA, gSpan, gSkip, unG, ne_eq, Option.some.injEq, reduceCtorEq, decide_true, decide_false, elemsA, resA, resAll, resOne, enterA, decide_eq_true_eq, Bool.not_eq_true, Bool.decide_eq_true, ite_self, ↓reduceIte, noRefL, clrA, gcT, gcA, gcIds, reach, rhoOf, heapOf, idxA, genB, newGen, renB, refsB, List.contains_cons, List.range_succ, cb_slices_Equal_int_int, b_slices_Equal_int_int, cr_slices_Equal_int_int, x_slices_Equal_int_int_k0, d_slices_Equal_int_int_k0, x_slices_Equal_int_int_l4, d_slices_Equal_int_int_l4, oI, oN, intsV, bytesV, propsV, propV, propC, bytesOf_map, e, beq_len h]
theorem q_beq (a b : Bytes) : E 63 [bytesV a, bytesV b] [] = some (.bool (a == b), []) := by
  rw [E_eq (by rfl) cf_bytes_Equal]
  simp -implicitDefEqProofs only [EVS0, EVS1, EVS2, EVS3, EVS4, EVS5, EVS6, EVS7, EVL0, EVL1, ite_tf, ite_ft, ite_tft, ite_ftf, ite_list, ite_tt, ite_ee, ite_nt, ite_ne, eq_self, implies_true, forall_const, exI, nsite, freeAt, execI, Opd.ev, tget, tins, tput, keepL, sitesOf, List.sum_cons, List.sum_nil, Nat.reduceAdd, Nat.reduceSub, Nat.reduceLT, Nat.reduceLeDiff, Nat.reduceEqDiff, Nat.reduceBEq, Nat.reduceMul, beq_self_eq_true, Bool.false_eq_true, ldA, stA, partA, faddrA, setAt, binA, arithA, shiftA, strA, unA, gSpan, gSkip, unG, ne_eq, Option.some.injEq, reduceCtorEq, decide_true, decide_false, elemsA, resA, resAll, resOne, enterA, decide_eq_true_eq, Bool.not_eq_true, Bool.decide_eq_true, ite_self, ↓reduceIte, noRefL, clrA, gcT, gcA, gcIds, reach, rhoOf, heapOf, idxA, genB, newGen, renB, refsB, List.contains_cons, List.range_succ, cb_bytes_Equal, b_bytes_Equal, cr_bytes_Equal, oI, oN, intsV, bytesV, propsV, propV, propC, bytesOf_map, bytesOf_map]
theorem q_ieqC (σ : AHeap) (site own : Nat) (view : Bool) (a b : List Int) (hl : a.length ≤ 9223372036854775807) : callG E BY σ site 74 own view [.lst false (a.map (.int .i64 ·)), .lst false (b.map (.int .i64 ·))] = some (.bool (a == b), σ, {}) :=
  call_flat (q_ieq a b hl) (by kernel_rfl) (by simp -implicitDefEqProofs only [EVS0, EVS1, EVS2, EVS3, EVS4, EVS5, EVS6, EVS7, EVL0, EVL1, eq_self, implies_true, Bool.false_eq_true, intsV, bytesV, propsV, propV, propC, intsV]) (by simp -implicitDefEqProofs only [EVS0, EVS1, EVS2, EVS3, EVS4, EVS5, EVS6, EVS7, EVL0, EVL1, eq_self, implies_true, Bool.false_eq_true, intsV, bytesV, propsV, propV, propC, intsV]) rfl (fun _ => rfl) _ _ _ _
theorem q_beqC (σ : AHeap) (site own : Nat) (view : Bool) (a b : Bytes) : callG E BY σ site 63 own view [.lst false (a.map byteV), .lst false (b.map byteV)] = some (.bool (a == b), σ, {}) :=
  call_flat (q_beq a b) (by kernel_rfl) (by simp -implicitDefEqProofs only [EVS0, EVS1, EVS2, EVS3, EVS4, EVS5, EVS6, EVS7, EVL0, EVL1, eq_self, implies_true, Bool.false_eq_true, intsV, bytesV, propsV, propV, propC, intsV]) (by simp -implicitDefEqProofs only [EVS0, EVS1, EVS2, EVS3, EVS4, EVS5, EVS6, EVS7, EVL0, EVL1, eq_self, implies_true, Bool.false_eq_true, intsV, bytesV, propsV, propV, propC, intsV]) rfl (fun _ => rfl) _ _ _ _
end Go.Proofs.YtmlkhhidifjjfaaDoor
namespace Go.Proofs.YtmlkhhidifjjfaaDoor
set_option linter.unusedSimpArgs false
set_option linter.unusedVariables false
set_option maxHeartbeats 4000000
set_option maxRecDepth 10000
structure NoteD where
  topic : Bytes
  payload : Bytes
  qos : Int
  retain : Bool
  sender : Bytes
  expires : Int
  props : List PropD
  origin : Int
  number : Int
  hops : Int
  deriving DecidableEq
structure ItemD where
  note : NoteD
  qos : Int
  retain : Bool
  ids : List Int
  share : Bytes
  deriving DecidableEq
def noteC (n : NoteD) : List AVal := [.str n.topic, bytesV n.payload, .int .i64 n.qos, .bool n.retain, .str n.sender, .int .i64 n.expires, propsV n.props, .int .i64 n.origin, .int .i64 n.number, .int .i64 n.hops]
def noteV (n : NoteD) : AVal := .agg (noteC n)
def itemC (n : ItemD) : List AVal := [.str n.note.topic, bytesV n.note.payload, .int .i64 n.note.qos, .bool n.note.retain, .str n.note.sender, .int .i64 n.note.expires, propsV n.note.props, .int .i64 n.note.origin, .int .i64 n.note.number, .int .i64 n.note.hops, .int .i64 n.qos, .bool n.retain, intsV n.ids, .str n.share]
def itemV (n : ItemD) : AVal := .agg (itemC n)
def nsameB (a b : NoteD) : Bool := a.topic == b.topic && a.payload == b.payload && a.qos == b.qos && a.retain == b.retain && a.sender == b.sender && a.expires == b.expires && a.props == b.props && a.origin == b.origin && a.number == b.number && a.hops == b.hops
theorem q_nsame (a b : NoteD) (hl : a.props.length ≤ 9223372036854775807) : E 30 [noteV a, noteV b] [] = some (.bool (nsameB a b), []) := by
  rw [E_eq (by rfl) cf_note_Same]
  simp -implicitDefEqProofs only [EVS0, EVS1, EVS2, EVS3, EVS4, EVS5, EVS6, EVS7, EVL0, EVL1, ite_tf, ite_ft, ite_tft, ite_ftf, ite_list, ite_tt, ite_ee, ite_nt, ite_ne, eq_self, implies_true, forall_const, exI, nsite, freeAt, execI, Opd.ev, tget, tins, tput, keepL, sitesOf, List.sum_cons, List.sum_nil, Nat.reduceAdd, Nat.reduceSub, Nat.reduceLT, Nat.reduceLeDiff, Nat.reduceEqDiff, Nat.reduceBEq, Nat.reduceMul, beq_self_eq_true, Bool.false_eq_true, ldA, stA, partA, faddrA, setAt, binA, arithA, shiftA, strA, unA, gSpan, gSkip, unG, ne_eq, Option.some.injEq, reduceCtorEq, decide_true, decide_false, elemsA, resA, resAll, resOne, enterA, decide_eq_true_eq, Bool.not_eq_true, Bool.decide_eq_true, ite_self, ↓reduceIte, noRefL, clrA, gcT, gcA, gcIds, reach, rhoOf, heapOf, idxA, genB, newGen, renB, refsB, List.contains_cons, List.range_succ, cb_note_Same, b_note_Same, cr_note_Same, oI, oN, intsV, bytesV, propsV, propV, propC, bytesOf_map, noteV, noteC, q_beqC, q_psameC, hl, nsameB]
theorem q_nsameC (σ : AHeap) (site own : Nat) (view : Bool) (a b : NoteD) (hl : a.props.length ≤ 9223372036854775807) : callG E BY σ site 30 own view [.agg [.str a.topic, .lst false (a.payload.map byteV), .int .i64 a.qos, .bool a.retain, .str a.sender, .int .i64 a.expires, .lst false (a.props.map propV), .int .i64 a.origin, .int .i64 a.number, .int .i64 a.hops], .agg [.str b.topic, .lst false (b.payload.map byteV), .int .i64 b.qos, .bool b.retain, .str b.sender, .int .i64 b.expires, .lst false (b.props.map propV), .int .i64 b.origin, .int .i64 b.number, .int .i64 b.hops]] = some (.bool (nsameB a b), σ, {}) :=
  call_flat (q_nsame a b hl) (by kernel_rfl) (by simp -implicitDefEqProofs only [EVS0, EVS1, EVS2, EVS3, EVS4, EVS5, EVS6, EVS7, EVL0, EVL1, eq_self, implies_true, Bool.false_eq_true, intsV, bytesV, propsV, propV, propC, noteV, noteC]) (by simp -implicitDefEqProofs only [EVS0, EVS1, EVS2, EVS3, EVS4, EVS5, EVS6, EVS7, EVL0, EVL1, eq_self, implies_true, Bool.false_eq_true, intsV, bytesV, propsV, propV, propC, noteV, noteC]) rfl (fun _ => rfl) _ _ _ _
end Go.Proofs.YtmlkhhidifjjfaaDoor
namespace Go.Proofs.YtmlkhhidifjjfaaDoor
set_option linter.unusedSimpArgs false
set_option linter.unusedVariables false
set_option maxHeartbeats 8000000
set_option maxRecDepth 10000
def u8B (x : Int) : UInt8 := UInt8.ofNat (x % 256).toNat
theorem u8_wrap (x : Int) : IntKind.u8.wrap x = ((u8B x).toNat : Int) := by
  rw [IntKind.wrap_u8, u8B, UInt8.toNat_ofNat']; omega
def or4 (q : Int) : Int := IntKind.i64.wrap (((BitVec.ofInt IntKind.i64.bits q ||| BitVec.ofInt IntKind.i64.bits 4).toNat : Nat) : Int)
def markF (q : Int) (r : Bool) : Bytes := [u8B (if r = true then or4 q else q)]
theorem q_marks (q : Int) (r : Bool) : E 57 [.int .i64 q, .bool r] [] = some (.lst true ((markF q r).map byteV), []) := by
  have h1 := u8_wrap q
  have h2 := u8_wrap (or4 q)
  unfold or4 at h2
  unfold markF or4
  rw [E_eq (by rfl) cf_note_marks]
  cases r
  · simp -implicitDefEqProofs only [EVS0, EVS1, EVS2, EVS3, EVS4, EVS5, EVS6, EVS7, EVL0, EVL1, ite_tf, ite_ft, ite_tft, ite_ftf, ite_list, ite_tt, ite_ee, ite_nt, ite_ne, eq_self, implies_true, forall_const, exI, nsite, freeAt, execI, Opd.ev, tget, tins, tput, keepL, sitesOf, List.sum_cons, List.sum_nil, Nat.reduceAdd, Nat.reduceSub, Nat.reduceLT, Nat.reduceLeDiff, Nat.reduceEqDiff, Nat.reduceBEq, Nat.reduceMul, beq_self_eq_true, Bool.false_eq_true, ldA, stA, partA, faddrA, setAt, binA, arithA, shiftA, strA, unA, gSpan, gSkip, unG, ne_eq, Option.some.injEq, reduceCtorEq, decide_true, decide_false, elemsA, resA, resAll, resOne, enterA, decide_eq_true_eq, Bool.not_eq_true, Bool.decide_eq_true, ite_self, ↓reduceIte, noRefL, clrA, gcT, gcA, gcIds, reach, rhoOf, heapOf, idxA, genB, newGen, renB, refsB, List.contains_cons, List.range_succ, cb_note_marks, b_note_marks, cr_note_marks, oI, oN, intsV, bytesV, propsV, propV, propC, bytesOf_map, h1, appA, kOk, viewAs, viewA, viewA1, viewsA, freezeA, List.foldl_cons, List.foldl_nil, List.length_singleton, Nat.one_mul, AVal.cells]
    rfl
  · simp -implicitDefEqProofs only [EVS0, EVS1, EVS2, EVS3, EVS4, EVS5, EVS6, EVS7, EVL0, EVL1, ite_tf, ite_ft, ite_tft, ite_ftf, ite_list, ite_tt, ite_ee, ite_nt, ite_ne, eq_self, implies_true, forall_const, exI, nsite, freeAt, execI, Opd.ev, tget, tins, tput, keepL, sitesOf, List.sum_cons, List.sum_nil, Nat.reduceAdd, Nat.reduceSub, Nat.reduceLT, Nat.reduceLeDiff, Nat.reduceEqDiff, Nat.reduceBEq, Nat.reduceMul, beq_self_eq_true, Bool.false_eq_true, ldA, stA, partA, faddrA, setAt, binA, arithA, shiftA, strA, unA, gSpan, gSkip, unG, ne_eq, Option.some.injEq, reduceCtorEq, decide_true, decide_false, elemsA, resA, resAll, resOne, enterA, decide_eq_true_eq, Bool.not_eq_true, Bool.decide_eq_true, ite_self, ↓reduceIte, noRefL, clrA, gcT, gcA, gcIds, reach, rhoOf, heapOf, idxA, genB, newGen, renB, refsB, List.contains_cons, List.range_succ, cb_note_marks, b_note_marks, cr_note_marks, oI, oN, intsV, bytesV, propsV, propV, propC, bytesOf_map, h2, appA, kOk, viewAs, viewA, viewA1, viewsA, freezeA, List.foldl_cons, List.foldl_nil, List.length_singleton, Nat.one_mul, AVal.cells]
    rfl
theorem q_marksC (σ : AHeap) (site own : Nat) (q : Int) (r : Bool) : callG E BY σ site 57 own true [.int .i64 q, .bool r] = some (.lst false ((markF q r).map byteV), σ, {}) :=
  call_normT (q_marks q r) (by kernel_rfl) rfl rfl rfl (fun _ => rfl) _ _ _
theorem q_eight (x : Int) : E 58 [.int .i64 x] [] = some (.lst false ((beB (u64N x) 8).map byteV), []) := by
  have h1 := wrap_u64N x
  have hP := fun σ site own => q_putC σ site own (u64N x) 8 (by omega) (by omega)
  have z8 : ((8 : Nat) : Int) = 8 := rfl
  rw [z8] at hP
  generalize beB (u64N x) 8 = B at *
  rw [E_eq (by rfl) cf_note_eight]
  simp -implicitDefEqProofs only [EVS0, EVS1, EVS2, EVS3, EVS4, EVS5, EVS6, EVS7, EVL0, EVL1, ite_tf, ite_ft, ite_tft, ite_ftf, ite_list, ite_tt, ite_ee, ite_nt, ite_ne, eq_self, implies_true, forall_const, exI, nsite, freeAt, execI, Opd.ev, tget, tins, tput, keepL, sitesOf, List.sum_cons, List.sum_nil, Nat.reduceAdd, Nat.reduceSub, Nat.reduceLT, Nat.reduceLeDiff, Nat.reduceEqDiff, Nat.reduceBEq, Nat.reduceMul, beq_self_eq_true, Bool.false_eq_true, ldA, stA, partA, faddrA, setAt, binA, arithA, shiftA, strA, unA, gSpan, gSkip, unG, ne_eq, Option.some.injEq, reduceCtorEq, decide_true, decide_false, elemsA, resA, resAll, resOne, enterA, decide_eq_true_eq, Bool.not_eq_true, Bool.decide_eq_true, ite_self, ↓reduceIte, noRefL, clrA, gcT, gcA, gcIds, reach, rhoOf, heapOf, idxA, genB, newGen, renB, refsB, List.contains_cons, List.range_succ, cb_note_eight, b_note_eight, cr_note_eight, oI, oN, intsV, bytesV, propsV, propV, propC, bytesOf_map, h1, hP]
theorem q_eightC (σ : AHeap) (site own : Nat) (x : Int) : callG E BY σ site 58 own true [.int .i64 x] = some (.lst false ((beB (u64N x) 8).map byteV), σ, {}) :=
  call_normT (q_eight x) (by kernel_rfl) rfl rfl rfl (fun _ => rfl) _ _ _
def nlayF (n : NoteD) : Bytes := (textF n.topic).1 ++ ((dataF n.payload).1 ++ (markF n.qos n.retain ++ ((textF n.sender).1 ++ (beB (u64N n.expires) 8 ++ (beB (u64N n.number) 8 ++ ([u8B n.origin, u8B n.hops] ++ (layF 3 n.props).1))))))
theorem q_join8 (σ : AHeap) (site own : Nat) (fl : Bool) (a b c d e f g h : Bytes) (hn : a.length + (b.length + (c.length + (d.length + (e.length + (f.length + (g.length + h.length)))))) ≤ 140737488355328) : callG E BY σ site 56 own true [.lst fl [.lst false (a.map byteV), .lst false (b.map byteV), .lst false (c.map byteV), .lst false (d.map byteV), .lst false (e.map byteV), .lst false (f.map byteV), .lst false (g.map byteV), .lst false (h.map byteV)]] = some (.lst false ((a ++ (b ++ (c ++ (d ++ (e ++ (f ++ (g ++ h))))))).map byteV), σ, {}) := by
  have := q_joinC σ site own fl a [b, c, d, e, f, g, h] (by simp) (by simpa using hn)
  simpa only [List.map_cons, List.map_nil, bytesV, List.flatten_cons, List.flatten_nil, List.append_nil] using this
theorem readF_end (w : Int) (b : Bytes) (h : (readF w b).2.2 = 0) : (readF w b).2.1 ≤ 268435460 := by
  have h1 := getVar_lt b
  have h2 : (getVarF b).2.1 ≤ 5 := by
    have : ∀ (b : Bytes) (i n : Nat), i ≤ 4 → (gvA i n b).2.1 ≤ 5 := by
      intro b
      induction b with
      | nil => intro i n hi; unfold gvA; split <;> simp
      | cons c r ih =>
        intro i n hi
        unfold gvA
        repeat' split
        all_goals (try simp only)
        all_goals first
          | omega
          | exact ih _ _ (by omega)
    exact this b 0 0 (by omega)
  unfold readF at h ⊢
  split
  · rename_i hc; rw [if_pos hc] at h; simp at h
  · rename_i hc
    rw [if_neg hc] at h
    split
    · simp only; omega
    · rename_i h3; rw [if_neg h3] at h; exact absurd h h3
theorem layF_len (w : Int) (l : List PropD) : (layF w l).1.length ≤ 268435460 := by
  unfold layF layE
  split
  · simp
  · split
    · simp
    · rename_i h
      simp only [not_or, Decidable.not_not] at h
      have := readF_end _ _ h.1
      rw [← h.2.1]; exact this
/-- a message whose texts and rows are no longer than they may be -/
structure OkNote (n : NoteD) : Prop where
  topic : n.topic.length ≤ 9223372036854775807
  payload : n.payload.length ≤ 9223372036854775807
  sender : n.sender.length ≤ 9223372036854775807
  props : n.props.length ≤ 700000000
  tx : ∀ p ∈ n.props, OkTx p
  dat : ∀ p ∈ n.props, p.data.length ≤ 140737488355328
theorem q_nlay (n : NoteD) (h : OkNote n) : E 16 [noteV n] [] = some (.lst false ((nlayF n).map byteV), []) := by
  have hT := fun σ site own => q_textC σ site own n.topic h.topic
  have hD := fun σ site own f => q_dataC σ site own f n.payload h.payload
  have hS := fun σ site own => q_textC σ site own n.sender h.sender
  have hL := fun σ site own f => q_playC σ site own f 3 n.props h.props h.tx
  have hM := fun σ site own => q_marksC σ site own n.qos n.retain
  have hE := fun σ site own => q_eightC σ site own n.expires
  have hN := fun σ site own => q_eightC σ site own n.number
  have w1 := u8_wrap n.origin
  have w2 := u8_wrap n.hops
  have l1 := textF_len n.topic
  have l2 := dataF_len n.payload
  have l3 := textF_len n.sender
  have l4 := layF_len 3 n.props
  have hJ := fun σ site own f => q_join8 σ site own f (textF n.topic).1 (dataF n.payload).1 (markF n.qos n.retain) (textF n.sender).1 (beB (u64N n.expires) 8) (beB (u64N n.number) 8) [u8B n.origin, u8B n.hops] (layF 3 n.props).1 (by
    simp only [beB_len, markF, List.length_cons, List.length_nil]; omega)
  unfold nlayF
  unfold byT at hT hD hS
  unfold layV at hL
  have e7 : [u8B n.origin, u8B n.hops].map byteV = [AVal.int .u8 ((u8B n.origin).toNat : Int), .int .u8 ((u8B n.hops).toNat : Int)] := rfl
  simp only [e7] at hJ
  generalize beB (u64N n.expires) 8 = B1 at *
  generalize beB (u64N n.number) 8 = B2 at *
  generalize markF n.qos n.retain = M at *
  generalize layF 3 n.props = L at *
  generalize hR : (textF n.topic).1 ++ ((dataF n.payload).1 ++ (M ++ ((textF n.sender).1 ++ (B1 ++ (B2 ++ ([u8B n.origin, u8B n.hops] ++ L.1)))))) = R at *
  generalize u8B n.origin = U1 at *
  generalize u8B n.hops = U2 at *
  rw [E_eq (by rfl) cf_note_Lay]
  simp -implicitDefEqProofs only [EVS0, EVS1, EVS2, EVS3, EVS4, EVS5, EVS6, EVS7, EVL0, EVL1, ite_tf, ite_ft, ite_tft, ite_ftf, ite_list, ite_tt, ite_ee, ite_nt, ite_ne, eq_self, implies_true, forall_const, exI, nsite, freeAt, execI, Opd.ev, tget, tins, tput, keepL, sitesOf, List.sum_cons, List.sum_nil, Nat.reduceAdd, Nat.reduceSub, Nat.reduceLT, Nat.reduceLeDiff, Nat.reduceEqDiff, Nat.reduceBEq, Nat.reduceMul, beq_self_eq_true, Bool.false_eq_true, ldA, stA, partA, faddrA, setAt, binA, arithA, shiftA, strA, unA, gSpan, gSkip, unG, ne_eq, Option.some.injEq, reduceCtorEq, decide_true, decide_false, elemsA, resA, resAll, resOne, enterA, decide_eq_true_eq, Bool.not_eq_true, Bool.decide_eq_true, ite_self, ↓reduceIte, noRefL, clrA, gcT, gcA, gcIds, reach, rhoOf, heapOf, idxA, genB, newGen, renB, refsB, List.contains_cons, List.range_succ, cb_note_Lay, b_note_Lay, cr_note_Lay, oI, oN, intsV, bytesV, propsV, propV, propC, bytesOf_map, noteV, noteC, hT, hD, hS, hL, hM, hE, hN, hJ, w1, w2, reg_some, regC_some, chkA_cons, chkA_nil, pairFree_eq, emptyOp_eq, noWr_eq, List.getD_cons_zero, List.getD_cons_succ, isCallI, isLdI, gotOk, same1, List.lookup_cons, List.lookup_nil, appA, kOk, viewAs, viewA, viewA1, viewsA, freezeA, List.foldl_cons, List.foldl_nil, List.length_singleton, Nat.one_mul, AVal.cells]
theorem q_nlayC (σ : AHeap) (site own : Nat) (n : NoteD) (h : OkNote n) : callG E BY σ site 16 own true [.agg [.str n.topic, .lst false (n.payload.map byteV), .int .i64 n.qos, .bool n.retain, .str n.sender, .int .i64 n.expires, .lst false (n.props.map propV), .int .i64 n.origin, .int .i64 n.number, .int .i64 n.hops]] = some (.lst false ((nlayF n).map byteV), σ, {}) :=
  call_normT (q_nlay n h) (by kernel_rfl) rfl rfl rfl (fun _ => rfl) _ _ _
def mayN (n : NoteD) : Bool := decide (n.qos < 3) && decide (n.expires ≥ 0) && decide (n.expires ≤ 4611686018427387904) && decide (n.number ≥ 0) && decide (n.number ≤ 4611686018427387904) && ((keptL n.props).length == n.props.length)
theorem q_nmay (n : NoteD) (h : OkNote n) : E 62 [noteV n] [] = some (.bool (mayN n), []) := by
  have hK := fun σ site own b => q_keptC σ site own b n.props (by have := h.props; omega) h.dat
  have e1 : (((keptL n.props).length : Int) == (n.props.length : Int)) = ((keptL n.props).length == n.props.length) := by
    rw [Bool.eq_iff_iff]; simp only [beq_iff_eq]; omega
  unfold mayN
  by_cases c1 : n.qos < 3
  · by_cases c2 : n.expires ≥ 0
    · by_cases c3 : n.expires ≤ 4611686018427387904
      · by_cases c4 : n.number ≥ 0
        · by_cases c5 : n.number ≤ 4611686018427387904
          · rw [E_eq (by rfl) cf_note_may]
            simp -implicitDefEqProofs only [EVS0, EVS1, EVS2, EVS3, EVS4, EVS5, EVS6, EVS7, EVL0, EVL1, ite_tf, ite_ft, ite_tft, ite_ftf, ite_list, ite_tt, ite_ee, ite_nt, ite_ne, eq_self, implies_true, forall_const, exI, nsite, freeAt, execI, Opd.ev, tget, tins, tput, keepL, sitesOf, List.sum_cons, List.sum_nil, Nat.reduceAdd, Nat.reduceSub, Nat.reduceLT, Nat.reduceLeDiff, Nat.reduceEqDiff, Nat.reduceBEq, Nat.reduceMul, beq_self_eq_true, Bool.false_eq_true, ldA, stA, partA, faddrA, setAt, binA, arithA, shiftA, strA, unA, gSpan, gSkip, unG, ne_eq, Option.some.injEq, reduceCtorEq, decide_true, decide_false, elemsA, resA, resAll, resOne, enterA, decide_eq_true_eq, Bool.not_eq_true, Bool.decide_eq_true, ite_self, ↓reduceIte, noRefL, clrA, gcT, gcA, gcIds, reach, rhoOf, heapOf, idxA, genB, newGen, renB, refsB, List.contains_cons, List.range_succ, cb_note_may, b_note_may, cr_note_may, oI, oN, intsV, bytesV, propsV, propV, propC, bytesOf_map, noteV, noteC, hK, c1, c2, c3, c4, c5, e1, reg_some, regC_some, chkA_cons, chkA_nil, pairFree_eq, emptyOp_eq, noWr_eq, List.getD_cons_zero, List.getD_cons_succ, isCallI, isLdI, gotOk, same1, List.lookup_cons, List.lookup_nil]
          · rw [E_eq (by rfl) cf_note_may]
            simp -implicitDefEqProofs only [EVS0, EVS1, EVS2, EVS3, EVS4, EVS5, EVS6, EVS7, EVL0, EVL1, ite_tf, ite_ft, ite_tft, ite_ftf, ite_list, ite_tt, ite_ee, ite_nt, ite_ne, eq_self, implies_true, forall_const, exI, nsite, freeAt, execI, Opd.ev, tget, tins, tput, keepL, sitesOf, List.sum_cons, List.sum_nil, Nat.reduceAdd, Nat.reduceSub, Nat.reduceLT, Nat.reduceLeDiff, Nat.reduceEqDiff, Nat.reduceBEq, Nat.reduceMul, beq_self_eq_true, Bool.false_eq_true, ldA, stA, partA, faddrA, setAt, binA, arithA, shiftA, strA, unA, gSpan, gSkip, unG, ne_eq, Option.some.injEq, reduceCtorEq, decide_true, decide_false, elemsA, resA, resAll, resOne, enterA, decide_eq_true_eq, Bool.not_eq_true, Bool.decide_eq_true, ite_self, ↓reduceIte, noRefL, clrA, gcT, gcA, gcIds, reach, rhoOf, heapOf, idxA, genB, newGen, renB, refsB, List.contains_cons, List.range_succ, cb_note_may, b_note_may, cr_note_may, oI, oN, intsV, bytesV, propsV, propV, propC, bytesOf_map, noteV, noteC, hK, c1, c2, c3, c4, c5, e1, reg_some, regC_some, chkA_cons, chkA_nil, pairFree_eq, emptyOp_eq, noWr_eq, List.getD_cons_zero, List.getD_cons_succ, isCallI, isLdI, gotOk, same1, List.lookup_cons, List.lookup_nil]
        · rw [E_eq (by rfl) cf_note_may]
          simp -implicitDefEqProofs only [EVS0, EVS1, EVS2, EVS3, EVS4, EVS5, EVS6, EVS7, EVL0, EVL1, ite_tf, ite_ft, ite_tft, ite_ftf, ite_list, ite_tt, ite_ee, ite_nt, ite_ne, eq_self, implies_true, forall_const, exI, nsite, freeAt, execI, Opd.ev, tget, tins, tput, keepL, sitesOf, List.sum_cons, List.sum_nil, Nat.reduceAdd, Nat.reduceSub, Nat.reduceLT, Nat.reduceLeDiff, Nat.reduceEqDiff, Nat.reduceBEq, Nat.reduceMul, beq_self_eq_true, Bool.false_eq_true, ldA, stA, partA, faddrA, setAt, binA, arithA, shiftA, strA, unA, gSpan, gSkip, unG, ne_eq, Option.some.injEq, reduceCtorEq, decide_true, decide_false, elemsA, resA, resAll, resOne, enterA, decide_eq_true_eq, Bool.not_eq_true, Bool.decide_eq_true, ite_self, ↓reduceIte, noRefL, clrA, gcT, gcA, gcIds, reach, rhoOf, heapOf, idxA, genB, newGen, renB, refsB, List.contains_cons, List.range_succ, cb_note_may, b_note_may, cr_note_may, oI, oN, intsV, bytesV, propsV, propV, propC, bytesOf_map, noteV, noteC, hK, c1, c2, c3, c4, e1, reg_some, regC_some, chkA_cons, chkA_nil, pairFree_eq, emptyOp_eq, noWr_eq, List.getD_cons_zero, List.getD_cons_succ, isCallI, isLdI, gotOk, same1, List.lookup_cons, List.lookup_nil]
      · rw [E_eq (by rfl) cf_note_may]
        simp -implicitDefEqProofs only [EVS0, EVS1, EVS2, EVS3, EVS4, EVS5, EVS6, EVS7, EVL0, EVL1, ite_tf, ite_ft, ite_tft, ite_ftf, ite_list, ite_tt, ite_ee, ite_nt, ite_ne, eq_self, implies_true, forall_const, exI, nsite, freeAt, execI, Opd.ev, tget, tins, tput, keepL, sitesOf, List.sum_cons, List.sum_nil, Nat.reduceAdd, Nat.reduceSub, Nat.reduceLT, Nat.reduceLeDiff, Nat.reduceEqDiff, Nat.reduceBEq, Nat.reduceMul, beq_self_eq_true, Bool.false_eq_true, ldA, stA, partA, faddrA, setAt, binA, arithA, shiftA, strA, unA, gSpan, gSkip, unG, ne_eq, Option.some.injEq, reduceCtorEq, decide_true, decide_false, elemsA, resA, resAll, resOne, enterA, decide_eq_true_eq, Bool.not_eq_true, Bool.decide_eq_true, ite_self, ↓reduceIte, noRefL, clrA, gcT, gcA, gcIds, reach, rhoOf, heapOf, idxA, genB, newGen, renB, refsB, List.contains_cons, List.range_succ, cb_note_may, b_note_may, cr_note_may, oI, oN, intsV, bytesV, propsV, propV, propC, bytesOf_map, noteV, noteC, hK, c1, c2, c3, e1, reg_some, regC_some, chkA_cons, chkA_nil, pairFree_eq, emptyOp_eq, noWr_eq, List.getD_cons_zero, List.getD_cons_succ, isCallI, isLdI, gotOk, same1, List.lookup_cons, List.lookup_nil]
    · rw [E_eq (by rfl) cf_note_may]
      simp -implicitDefEqProofs only [EVS0, EVS1, EVS2, EVS3, EVS4, EVS5, EVS6, EVS7, EVL0, EVL1, ite_tf, ite_ft, ite_tft, ite_ftf, ite_list, ite_tt, ite_ee, ite_nt, ite_ne, eq_self, implies_true, forall_const, exI, nsite, freeAt, execI, Opd.ev, tget, tins, tput, keepL, sitesOf, List.sum_cons, List.sum_nil, Nat.reduceAdd, Nat.reduceSub, Nat.reduceLT, Nat.reduceLeDiff, Nat.reduceEqDiff, Nat.reduceBEq, Nat.reduceMul, beq_self_eq_true, Bool.false_eq_true, ldA, stA, partA, faddrA, setAt, binA, arithA, shiftA, strA, unA, gSpan, gSkip, unG, ne_eq, Option.some.injEq, reduceCtorEq, decide_true, decide_false, elemsA, resA, resAll, resOne, enterA, decide_eq_true_eq, Bool.not_eq_true, Bool.decide_eq_true, ite_self, ↓reduceIte, noRefL, clrA, gcT, gcA, gcIds, reach, rhoOf, heapOf, idxA, genB, newGen, renB, refsB, List.contains_cons, List.range_succ, cb_note_may, b_note_may, cr_note_may, oI, oN, intsV, bytesV, propsV, propV, propC, bytesOf_map, noteV, noteC, hK, c1, c2, e1, reg_some, regC_some, chkA_cons, chkA_nil, pairFree_eq, emptyOp_eq, noWr_eq, List.getD_cons_zero, List.getD_cons_succ, isCallI, isLdI, gotOk, same1, List.lookup_cons, List.lookup_nil]
  · rw [E_eq (by rfl) cf_note_may]
    simp -implicitDefEqProofs only [EVS0, EVS1, EVS2, EVS3, EVS4, EVS5, EVS6, EVS7, EVL0, EVL1, ite_tf, ite_ft, ite_tft, ite_ftf, ite_list, ite_tt, ite_ee, ite_nt, ite_ne, eq_self, implies_true, forall_const, exI, nsite, freeAt, execI, Opd.ev, tget, tins, tput, keepL, sitesOf, List.sum_cons, List.sum_nil, Nat.reduceAdd, Nat.reduceSub, Nat.reduceLT, Nat.reduceLeDiff, Nat.reduceEqDiff, Nat.reduceBEq, Nat.reduceMul, beq_self_eq_true, Bool.false_eq_true, ldA, stA, partA, faddrA, setAt, binA, arithA, shiftA, strA, unA, gSpan, gSkip, unG, ne_eq, Option.some.injEq, reduceCtorEq, decide_true, decide_false, elemsA, resA, resAll, resOne, enterA, decide_eq_true_eq, Bool.not_eq_true, Bool.decide_eq_true, ite_self, ↓reduceIte, noRefL, clrA, gcT, gcA, gcIds, reach, rhoOf, heapOf, idxA, genB, newGen, renB, refsB, List.contains_cons, List.range_succ, cb_note_may, b_note_may, cr_note_may, oI, oN, intsV, bytesV, propsV, propV, propC, bytesOf_map, noteV, noteC, hK, c1, e1, reg_some, regC_some, chkA_cons, chkA_nil, pairFree_eq, emptyOp_eq, noWr_eq, List.getD_cons_zero, List.getD_cons_succ, isCallI, isLdI, gotOk, same1, List.lookup_cons, List.lookup_nil]
theorem q_nmayC (σ : AHeap) (site own : Nat) (n : NoteD) (h : OkNote n) : callG E BY σ site 62 own true [.agg [.str n.topic, .lst false (n.payload.map byteV), .int .i64 n.qos, .bool n.retain, .str n.sender, .int .i64 n.expires, .lst false (n.props.map propV), .int .i64 n.origin, .int .i64 n.number, .int .i64 n.hops]] = some (.bool (mayN n), σ, {}) :=
  call_normT (q_nmay n h) (by kernel_rfl) rfl rfl rfl (fun _ => rfl) _ _ _
end Go.Proofs.YtmlkhhidifjjfaaDoor
namespace Go.Proofs.YtmlkhhidifjjfaaDoor
set_option linter.unusedSimpArgs false
set_option linter.unusedVariables false
set_option maxHeartbeats 4000000
theorem call_refT {O : Oracle} {byref : Nat → Bool} {σ : AHeap} {t f : Nat} {rest : List AVal} {cs cs' : List AVal} {r r' : AVal} (hb : byref f = false) (hp : rest.all plainV = true) (hc : noRefL cs = true) (hc' : noRefL cs' = true) (hn : noRef r' = true) (hv : viewR [.var cs'] r = some (r', []))
    (h : O f (.ref 0 0 :: rest.map normV) [.var cs] = some (r, [.var cs'])) (hs : σ[t]? = some (.var cs)) (site : Nat) : callG O byref σ site f 0 true (.ref t 0 :: rest) = some (r', σ.set t (.var cs'), { any := true, upd := [(t, cs')] }) := by
  have htl : t < σ.length := by
    rcases Nat.lt_or_ge t σ.length with h | h
    · exact h
    · rw [List.getElem?_eq_none h] at hs; cases hs
  have hup : updOf (σ.set t (.var cs')) [t] = [(t, cs')] := by
    simp only [updOf, List.getElem?_set, if_pos htl, if_true]
  have hd : σ.getD t .free = .var cs := by simp [List.getD_eq_getElem?_getD, hs]
  have hf0 : freezeA σ [] = σ := rfl
  have hsh : showAs σ (.ref t 0 :: rest) = some (.ref t 0 :: rest.map normV, []) := by
    rw [showAs, show showA σ (.ref t 0) = some (.ref t 0, []) from rfl, plainVs_show hp]
    rfl
  have href : refsL (.ref t 0 :: rest.map normV) = [t] := by
    rw [refsL, normVs_refs hp]; rfl
  unfold callG showIf
  rw [hb]
  simp only [Bool.false_eq_true, if_false, hsh, hf0, href, reach_one hs hc]
  unfold callI
  have hall : ([t].all fun t => okB (σ.getD t .free)) = true := by simp [List.all_cons, List.all_nil, hs, okB]
  rw [if_pos hall]
  have hρ : rhoOf σ 0 [t] t 0 = some (0, 0) := by simp [rhoOf, idxA, hs, genB, newGen]
  have hheap : heapOf σ 0 [t] (rhoOf σ 0 [t]) [t] 0 = [.var cs] := by
    simp only [heapOf, hd, newGen, genB, renB, (noRefL_spec _ cs hc).1]
  have hargs : renL (rhoOf σ 0 [t]) (.ref t 0 :: rest.map normV) = .ref 0 0 :: rest.map normV := by
    rw [renL, normVs_ren hp]
    simp only [renV, hρ]
  rw [hargs, hheap, h]
  have hask : askO true [t].length (some (r, [.var cs'])) = some (r', [.var cs']) := by
    unfold askO
    rw [if_pos rfl]
    have hnp : ∀ x, r ≠ .pan x := by rintro x rfl; simp [viewR, viewA, viewA1] at hv
    rw [show resV [t].length (some (r, [.var cs'])) = (match viewR [.var cs'] r with
      | some (r', ts) => match gcA [t].length [r'] (freezeA [.var cs'] ts) with
        | ([r''], σ') => some (r'', σ')
        | _ => none
      | none => none) from by cases r <;> first | rfl | exact absurd rfl (hnp _)]
    rw [hv]
    simp only [List.length_cons, List.length_nil, Nat.zero_add, show freezeA [ABlk.var cs'] [] = [.var cs'] from rfl, gc_one hn hc']
  rw [hask]
  have hk : okBack σ [t] [.var cs'] 0 = true := by
    simp [okBack, okB, hs, sameKind, genB]
  simp only [backG, List.isEmpty_cons, Bool.false_and, Bool.false_eq_true, if_false, List.length_cons, List.length_nil, Nat.zero_add, Nat.add_zero, Nat.le_refl, decide_true, hk, freeFrom, Bool.and_self, if_true, layBack, tgtBack, List.getD_cons_zero, genBack, List.getElem?_cons_zero, hd, genB, renB, (noRef_spec _ r' hn).1, (noRefL_spec _ cs' hc').1, hup]
end Go.Proofs.YtmlkhhidifjjfaaDoor
namespace Go.Proofs.YtmlkhhidifjjfaaDoor
set_option linter.unusedSimpArgs false
set_option linter.unusedVariables false
set_option maxHeartbeats 8000000
set_option maxRecDepth 10000
/-- what is left, and whether it was too short -/
structure CurD where
  b : Bytes
  short : Bool
def curC (c : CurD) : List AVal := [.lst false (c.b.map byteV), .bool c.short]
def takeF (n : Nat) (c : CurD) : Bytes × CurD := if c.short = true ∨ n > c.b.length then ([], ⟨c.b, true⟩) else (c.b.take n, ⟨c.b.drop n, c.short⟩)
theorem takeF_len (n : Nat) (c : CurD) : (takeF n c).1.length ≤ c.b.length ∧ (takeF n c).2.b.length ≤ c.b.length := by
  unfold takeF
  split <;> simp <;> omega
theorem q_take (n : Nat) (hn : n ≤ 9223372036854775807) (c : CurD) (hb : c.b.length ≤ 140737488355328) : ∃ f, E 107 [.ref 0 0, .int .i64 (n : Nat)] [.var [.lst false (c.b.map byteV), .bool c.short]] = some (.lst f ((takeF n c).1.map byteV), [.var (curC (takeF n c).2)]) := by
  obtain ⟨b, sh⟩ := c
  simp only at hb ⊢
  unfold takeF curC
  simp only
  cases sh
  · by_cases h : n > b.length
    · have h1 : (n : Int) > (b.length : Int) := by omega
      refine ⟨true, ?_⟩
      rw [if_pos (Or.inr h), E_eq (by rfl) cf_note_cursor_take]
      simp -implicitDefEqProofs only [EVS0, EVS1, EVS2, EVS3, EVS4, EVS5, EVS6, EVS7, EVL0, EVL1, ite_tf, ite_ft, ite_tft, ite_ftf, ite_list, ite_tt, ite_ee, ite_nt, ite_ne, eq_self, implies_true, forall_const, exI, nsite, freeAt, execI, Opd.ev, tget, tins, tput, keepL, sitesOf, List.sum_cons, List.sum_nil, Nat.reduceAdd, Nat.reduceSub, Nat.reduceLT, Nat.reduceLeDiff, Nat.reduceEqDiff, Nat.reduceBEq, Nat.reduceMul, beq_self_eq_true, Bool.false_eq_true, ldA, stA, partA, faddrA, setAt, binA, arithA, shiftA, strA, unA, gSpan, gSkip, unG, ne_eq, Option.some.injEq, reduceCtorEq, decide_true, decide_false, elemsA, resA, resAll, resOne, enterA, decide_eq_true_eq, Bool.not_eq_true, Bool.decide_eq_true, ite_self, ↓reduceIte, noRefL, clrA, gcT, gcA, gcIds, reach, rhoOf, heapOf, idxA, genB, newGen, renB, refsB, List.contains_cons, List.range_succ, cb_note_cursor_take, b_note_cursor_take, cr_note_cursor_take, oI, oN, intsV, bytesV, propsV, propV, propC, bytesOf_map, h1, setAt, faddrA]
      try (simp [outA, gcA, gcIds, reach, refsL, refsV, rhoOf, heapOf, idxA, genB, newGen, renL, renV, renB, refsB, List.range_succ])
    · have h1 : ¬ (n : Int) > (b.length : Int) := by omega
      refine ⟨false, ?_⟩
      have s1 := fun σ kk => slice_hi σ 1 b byteV kk (n : Int) (by omega) (by omega)
      have s2 := fun σ kk => slice_l σ b kk (n : Int) (by omega) (by omega)
      have e2 : ((n : Int)).toNat = n := rfl
      rw [e2] at s1 s2
      rw [if_neg (by simpa using h), E_eq (by rfl) cf_note_cursor_take]
      simp -implicitDefEqProofs only [EVS0, EVS1, EVS2, EVS3, EVS4, EVS5, EVS6, EVS7, EVL0, EVL1, ite_tf, ite_ft, ite_tft, ite_ftf, ite_list, ite_tt, ite_ee, ite_nt, ite_ne, eq_self, implies_true, forall_const, exI, nsite, freeAt, execI, Opd.ev, tget, tins, tput, keepL, sitesOf, List.sum_cons, List.sum_nil, Nat.reduceAdd, Nat.reduceSub, Nat.reduceLT, Nat.reduceLeDiff, Nat.reduceEqDiff, Nat.reduceBEq, Nat.reduceMul, beq_self_eq_true, Bool.false_eq_true, ldA, stA, partA, faddrA, setAt, binA, arithA, shiftA, strA, unA, gSpan, gSkip, unG, ne_eq, Option.some.injEq, reduceCtorEq, decide_true, decide_false, elemsA, resA, resAll, resOne, enterA, decide_eq_true_eq, Bool.not_eq_true, Bool.decide_eq_true, ite_self, ↓reduceIte, noRefL, clrA, gcT, gcA, gcIds, reach, rhoOf, heapOf, idxA, genB, newGen, renB, refsB, List.contains_cons, List.range_succ, cb_note_cursor_take, b_note_cursor_take, cr_note_cursor_take, oI, oN, intsV, bytesV, propsV, propV, propC, bytesOf_map, h1, s1, s2, setAt, faddrA]
      try (simp [outA, gcA, gcIds, reach, refsL, refsV, rhoOf, heapOf, idxA, genB, newGen, renL, renV, renB, refsB, List.range_succ])
  · refine ⟨true, ?_⟩
    rw [if_pos (Or.inl rfl), E_eq (by rfl) cf_note_cursor_take]
    simp -implicitDefEqProofs only [EVS0, EVS1, EVS2, EVS3, EVS4, EVS5, EVS6, EVS7, EVL0, EVL1, ite_tf, ite_ft, ite_tft, ite_ftf, ite_list, ite_tt, ite_ee, ite_nt, ite_ne, eq_self, implies_true, forall_const, exI, nsite, freeAt, execI, Opd.ev, tget, tins, tput, keepL, sitesOf, List.sum_cons, List.sum_nil, Nat.reduceAdd, Nat.reduceSub, Nat.reduceLT, Nat.reduceLeDiff, Nat.reduceEqDiff, Nat.reduceBEq, Nat.reduceMul, beq_self_eq_true, Bool.false_eq_true, ldA, stA, partA, faddrA, setAt, binA, arithA, shiftA, strA, unA, gSpan, gSkip, unG, ne_eq, Option.some.injEq, reduceCtorEq, decide_true, decide_false, elemsA, resA, resAll, resOne, enterA, decide_eq_true_eq, Bool.not_eq_true, Bool.decide_eq_true, ite_self, ↓reduceIte, noRefL, clrA, gcT, gcA, gcIds, reach, rhoOf, heapOf, idxA, genB, newGen, renB, refsB, List.contains_cons, List.range_succ, cb_note_cursor_take, b_note_cursor_take, cr_note_cursor_take, oI, oN, intsV, bytesV, propsV, propV, propC, bytesOf_map, setAt, faddrA]
    try (simp [outA, gcA, gcIds, reach, refsL, refsV, rhoOf, heapOf, idxA, genB, newGen, renL, renV, renB, refsB, List.range_succ])
theorem q_takeC (n : Nat) (hn : n ≤ 9223372036854775807) (c : CurD) (hb : c.b.length ≤ 140737488355328) (σ : AHeap) (t site : Nat) (hs : σ[t]? = some (.var [.lst false (c.b.map byteV), .bool c.short])) :
    callG E BY σ site 107 0 true [.ref t 0, .int .i64 (n : Nat)] = some (.lst false ((takeF n c).1.map byteV), σ.set t (.var [.lst false ((takeF n c).2.b.map byteV), .bool (takeF n c).2.short]), { any := true, upd := [(t, [.lst false ((takeF n c).2.b.map byteV), .bool (takeF n c).2.short])] }) := by
  obtain ⟨f, h⟩ := q_take n hn c hb
  exact call_refT (cs := [.lst false (c.b.map byteV), .bool c.short]) (by kernel_rfl) rfl rfl rfl rfl rfl h hs site
/-- a number of some bytes -/
def numI (b : Bytes) : Int := IntKind.i64.wrap (getU b : Int)
theorem q_cnum (n : Nat) (hn : n ≤ 9223372036854775807) (c : CurD) (hb : c.b.length ≤ 140737488355328) : E 70 [.ref 0 0, .int .i64 (n : Nat)] [.var [.lst false (c.b.map byteV), .bool c.short]] = some (.int .i64 (numI (takeF n c).1), [.var (curC (takeF n c).2)]) := by
  have hT := fun σ site hs => q_takeC n hn c hb σ 0 site hs
  have hl := (takeF_len n c).1
  have hG := fun σ site own f => q_getC σ site own (takeF n c).1 (by omega) f
  unfold numI curC
  generalize takeF n c = R at *
  rw [E_eq (by rfl) cf_note_cursor_number]
  simp -implicitDefEqProofs only [EVS0, EVS1, EVS2, EVS3, EVS4, EVS5, EVS6, EVS7, EVL0, EVL1, ite_tf, ite_ft, ite_tft, ite_ftf, ite_list, ite_tt, ite_ee, ite_nt, ite_ne, eq_self, implies_true, forall_const, exI, nsite, freeAt, execI, Opd.ev, tget, tins, tput, keepL, sitesOf, List.sum_cons, List.sum_nil, Nat.reduceAdd, Nat.reduceSub, Nat.reduceLT, Nat.reduceLeDiff, Nat.reduceEqDiff, Nat.reduceBEq, Nat.reduceMul, beq_self_eq_true, Bool.false_eq_true, ldA, stA, partA, faddrA, setAt, binA, arithA, shiftA, strA, unA, gSpan, gSkip, unG, ne_eq, Option.some.injEq, reduceCtorEq, decide_true, decide_false, elemsA, resA, resAll, resOne, enterA, decide_eq_true_eq, Bool.not_eq_true, Bool.decide_eq_true, ite_self, ↓reduceIte, noRefL, clrA, gcT, gcA, gcIds, reach, rhoOf, heapOf, idxA, genB, newGen, renB, refsB, List.contains_cons, List.range_succ, cb_note_cursor_number, b_note_cursor_number, cr_note_cursor_number, oI, oN, intsV, bytesV, propsV, propV, propC, bytesOf_map, hT, hG]
  try (simp [outA, gcA, gcIds, reach, refsL, refsV, rhoOf, heapOf, idxA, genB, newGen, renL, renV, renB, refsB, List.range_succ])
theorem q_cnumC (n : Nat) (hn : n ≤ 9223372036854775807) (c : CurD) (hb : c.b.length ≤ 140737488355328) (σ : AHeap) (t site : Nat) (hs : σ[t]? = some (.var [.lst false (c.b.map byteV), .bool c.short])) :
    callG E BY σ site 70 0 true [.ref t 0, .int .i64 (n : Nat)] = some (.int .i64 (numI (takeF n c).1), σ.set t (.var [.lst false ((takeF n c).2.b.map byteV), .bool (takeF n c).2.short]), { any := true, upd := [(t, [.lst false ((takeF n c).2.b.map byteV), .bool (takeF n c).2.short])] }) :=
  call_refT (cs := [.lst false (c.b.map byteV), .bool c.short]) (by kernel_rfl) rfl rfl rfl rfl rfl (q_cnum n hn c hb) hs site
def ctextF (c : CurD) : Bytes × CurD := ((getTextF c.b).1, (takeF (getTextF c.b).2.1 ⟨c.b, c.short || (getTextF c.b).2.2 != 0⟩).2)
def cdataF (c : CurD) : Bytes × CurD := ((getDataF c.b).1, (takeF (getDataF c.b).2.1 ⟨c.b, c.short || (getDataF c.b).2.2 != 0⟩).2)
theorem ctextF_len (c : CurD) : (ctextF c).2.b.length ≤ c.b.length := (takeF_len _ ⟨c.b, _⟩).2
theorem cdataF_len (c : CurD) : (cdataF c).2.b.length ≤ c.b.length := (takeF_len _ ⟨c.b, _⟩).2
theorem q_ctext (c : CurD) (hb : c.b.length ≤ 140737488355328) : E 71 [.ref 0 0] [.var [.lst false (c.b.map byteV), .bool c.short]] = some (.str (ctextF c).1, [.var (curC (ctextF c).2)]) := by
  have hG := fun σ site own f => q_gettextC σ site own f c.b hb
  have hu := (getText_used c.b).1
  obtain ⟨b, sh⟩ := c
  simp only at hb hG hu ⊢
  unfold ctextF curC
  unfold gtT at hG
  simp only
  have hT := fun s σ site hs => q_takeC (getTextF b).2.1 (by omega) ⟨b, s⟩ hb σ 0 site hs
  cases sh
  · cases he : ((getTextF b).2.2 != 0)
    · simp only [Bool.or_self]
      have hT := hT false
      generalize takeF (getTextF b).2.1 ⟨b, false⟩ = R at *
      rw [E_eq (by rfl) cf_note_cursor_text]
      simp -implicitDefEqProofs only [EVS0, EVS1, EVS2, EVS3, EVS4, EVS5, EVS6, EVS7, EVL0, EVL1, ite_tf, ite_ft, ite_tft, ite_ftf, ite_list, ite_tt, ite_ee, ite_nt, ite_ne, eq_self, implies_true, forall_const, exI, nsite, freeAt, execI, Opd.ev, tget, tins, tput, keepL, sitesOf, List.sum_cons, List.sum_nil, Nat.reduceAdd, Nat.reduceSub, Nat.reduceLT, Nat.reduceLeDiff, Nat.reduceEqDiff, Nat.reduceBEq, Nat.reduceMul, beq_self_eq_true, Bool.false_eq_true, ldA, stA, partA, faddrA, setAt, binA, arithA, shiftA, strA, unA, gSpan, gSkip, unG, ne_eq, Option.some.injEq, reduceCtorEq, decide_true, decide_false, elemsA, resA, resAll, resOne, enterA, decide_eq_true_eq, Bool.not_eq_true, Bool.decide_eq_true, ite_self, ↓reduceIte, noRefL, clrA, gcT, gcA, gcIds, reach, rhoOf, heapOf, idxA, genB, newGen, renB, refsB, List.contains_cons, List.range_succ, cb_note_cursor_text, b_note_cursor_text, cr_note_cursor_text, oI, oN, intsV, bytesV, propsV, propV, propC, bytesOf_map, hG, hT, he, setAt, faddrA]
      try (simp [outA, gcA, gcIds, reach, refsL, refsV, rhoOf, heapOf, idxA, genB, newGen, renL, renV, renB, refsB, List.range_succ])
    · simp only [Bool.or_true]
      have hT := hT true
      generalize takeF (getTextF b).2.1 ⟨b, true⟩ = R at *
      rw [E_eq (by rfl) cf_note_cursor_text]
      simp -implicitDefEqProofs only [EVS0, EVS1, EVS2, EVS3, EVS4, EVS5, EVS6, EVS7, EVL0, EVL1, ite_tf, ite_ft, ite_tft, ite_ftf, ite_list, ite_tt, ite_ee, ite_nt, ite_ne, eq_self, implies_true, forall_const, exI, nsite, freeAt, execI, Opd.ev, tget, tins, tput, keepL, sitesOf, List.sum_cons, List.sum_nil, Nat.reduceAdd, Nat.reduceSub, Nat.reduceLT, Nat.reduceLeDiff, Nat.reduceEqDiff, Nat.reduceBEq, Nat.reduceMul, beq_self_eq_true, Bool.false_eq_true, ldA, stA, partA, faddrA, setAt, binA, arithA, shiftA, strA, unA, gSpan, gSkip, unG, ne_eq, Option.some.injEq, reduceCtorEq, decide_true, decide_false, elemsA, resA, resAll, resOne, enterA, decide_eq_true_eq, Bool.not_eq_true, Bool.decide_eq_true, ite_self, ↓reduceIte, noRefL, clrA, gcT, gcA, gcIds, reach, rhoOf, heapOf, idxA, genB, newGen, renB, refsB, List.contains_cons, List.range_succ, cb_note_cursor_text, b_note_cursor_text, cr_note_cursor_text, oI, oN, intsV, bytesV, propsV, propV, propC, bytesOf_map, hG, hT, he, setAt, faddrA]
      try (simp [outA, gcA, gcIds, reach, refsL, refsV, rhoOf, heapOf, idxA, genB, newGen, renL, renV, renB, refsB, List.range_succ])
  · simp only [Bool.true_or]
    have hT := hT true
    generalize takeF (getTextF b).2.1 ⟨b, true⟩ = R at *
    rw [E_eq (by rfl) cf_note_cursor_text]
    simp -implicitDefEqProofs only [EVS0, EVS1, EVS2, EVS3, EVS4, EVS5, EVS6, EVS7, EVL0, EVL1, ite_tf, ite_ft, ite_tft, ite_ftf, ite_list, ite_tt, ite_ee, ite_nt, ite_ne, eq_self, implies_true, forall_const, exI, nsite, freeAt, execI, Opd.ev, tget, tins, tput, keepL, sitesOf, List.sum_cons, List.sum_nil, Nat.reduceAdd, Nat.reduceSub, Nat.reduceLT, Nat.reduceLeDiff, Nat.reduceEqDiff, Nat.reduceBEq, Nat.reduceMul, beq_self_eq_true, Bool.false_eq_true, ldA, stA, partA, faddrA, setAt, binA, arithA, shiftA, strA, unA, gSpan, gSkip, unG, ne_eq, Option.some.injEq, reduceCtorEq, decide_true, decide_false, elemsA, resA, resAll, resOne, enterA, decide_eq_true_eq, Bool.not_eq_true, Bool.decide_eq_true, ite_self, ↓reduceIte, noRefL, clrA, gcT, gcA, gcIds, reach, rhoOf, heapOf, idxA, genB, newGen, renB, refsB, List.contains_cons, List.range_succ, cb_note_cursor_text, b_note_cursor_text, cr_note_cursor_text, oI, oN, intsV, bytesV, propsV, propV, propC, bytesOf_map, hG, hT, setAt, faddrA]
    try (simp [outA, gcA, gcIds, reach, refsL, refsV, rhoOf, heapOf, idxA, genB, newGen, renL, renV, renB, refsB, List.range_succ])
theorem q_ctextC (c : CurD) (hb : c.b.length ≤ 140737488355328) (σ : AHeap) (t site : Nat) (hs : σ[t]? = some (.var [.lst false (c.b.map byteV), .bool c.short])) :
    callG E BY σ site 71 0 true [.ref t 0] = some (.str (ctextF c).1, σ.set t (.var [.lst false ((ctextF c).2.b.map byteV), .bool (ctextF c).2.short]), { any := true, upd := [(t, [.lst false ((ctextF c).2.b.map byteV), .bool (ctextF c).2.short])] }) :=
  call_refT (cs := [.lst false (c.b.map byteV), .bool c.short]) (by kernel_rfl) rfl rfl rfl rfl rfl (q_ctext c hb) hs site
theorem q_cdata (c : CurD) (hb : c.b.length ≤ 140737488355328) : E 68 [.ref 0 0] [.var [.lst false (c.b.map byteV), .bool c.short]] = some (.lst false ((cdataF c).1.map byteV), [.var (curC (cdataF c).2)]) := by
  have hG := fun σ site own f => q_getdataC σ site own f c.b hb
  have hu := (getData_used c.b).1
  obtain ⟨b, sh⟩ := c
  simp only at hb hG hu ⊢
  unfold cdataF curC
  unfold gdT at hG
  simp only
  have hT := fun s σ site hs => q_takeC (getDataF b).2.1 (by omega) ⟨b, s⟩ hb σ 0 site hs
  cases sh
  · cases he : ((getDataF b).2.2 != 0)
    · simp only [Bool.or_self]
      have hT := hT false
      generalize takeF (getDataF b).2.1 ⟨b, false⟩ = R at *
      rw [E_eq (by rfl) cf_note_cursor_data]
      simp -implicitDefEqProofs only [EVS0, EVS1, EVS2, EVS3, EVS4, EVS5, EVS6, EVS7, EVL0, EVL1, ite_tf, ite_ft, ite_tft, ite_ftf, ite_list, ite_tt, ite_ee, ite_nt, ite_ne, eq_self, implies_true, forall_const, exI, nsite, freeAt, execI, Opd.ev, tget, tins, tput, keepL, sitesOf, List.sum_cons, List.sum_nil, Nat.reduceAdd, Nat.reduceSub, Nat.reduceLT, Nat.reduceLeDiff, Nat.reduceEqDiff, Nat.reduceBEq, Nat.reduceMul, beq_self_eq_true, Bool.false_eq_true, ldA, stA, partA, faddrA, setAt, binA, arithA, shiftA, strA, unA, gSpan, gSkip, unG, ne_eq, Option.some.injEq, reduceCtorEq, decide_true, decide_false, elemsA, resA, resAll, resOne, enterA, decide_eq_true_eq, Bool.not_eq_true, Bool.decide_eq_true, ite_self, ↓reduceIte, noRefL, clrA, gcT, gcA, gcIds, reach, rhoOf, heapOf, idxA, genB, newGen, renB, refsB, List.contains_cons, List.range_succ, cb_note_cursor_data, b_note_cursor_data, cr_note_cursor_data, oI, oN, intsV, bytesV, propsV, propV, propC, bytesOf_map, hG, hT, he, setAt, faddrA]
      try (simp [outA, gcA, gcIds, reach, refsL, refsV, rhoOf, heapOf, idxA, genB, newGen, renL, renV, renB, refsB, List.range_succ])
    · simp only [Bool.or_true]
      have hT := hT true
      generalize takeF (getDataF b).2.1 ⟨b, true⟩ = R at *
      rw [E_eq (by rfl) cf_note_cursor_data]
      simp -implicitDefEqProofs only [EVS0, EVS1, EVS2, EVS3, EVS4, EVS5, EVS6, EVS7, EVL0, EVL1, ite_tf, ite_ft, ite_tft, ite_ftf, ite_list, ite_tt, ite_ee, ite_nt, ite_ne, eq_self, implies_true, forall_const, exI, nsite, freeAt, execI, Opd.ev, tget, tins, tput, keepL, sitesOf, List.sum_cons, List.sum_nil, Nat.reduceAdd, Nat.reduceSub, Nat.reduceLT, Nat.reduceLeDiff, Nat.reduceEqDiff, Nat.reduceBEq, Nat.reduceMul, beq_self_eq_true, Bool.false_eq_true, ldA, stA, partA, faddrA, setAt, binA, arithA, shiftA, strA, unA, gSpan, gSkip, unG, ne_eq, Option.some.injEq, reduceCtorEq, decide_true, decide_false, elemsA, resA, resAll, resOne, enterA, decide_eq_true_eq, Bool.not_eq_true, Bool.decide_eq_true, ite_self, ↓reduceIte, noRefL, clrA, gcT, gcA, gcIds, reach, rhoOf, heapOf, idxA, genB, newGen, renB, refsB, List.contains_cons, List.range_succ, cb_note_cursor_data, b_note_cursor_data, cr_note_cursor_data, oI, oN, intsV, bytesV, propsV, propV, propC, bytesOf_map, hG, hT, he, setAt, faddrA]
      try (simp [outA, gcA, gcIds, reach, refsL, refsV, rhoOf, heapOf, idxA, genB, newGen, renL, renV, renB, refsB, List.range_succ])
  · simp only [Bool.true_or]
    have hT := hT true
    generalize takeF (getDataF b).2.1 ⟨b, true⟩ = R at *
    rw [E_eq (by rfl) cf_note_cursor_data]
    simp -implicitDefEqProofs only [EVS0, EVS1, EVS2, EVS3, EVS4, EVS5, EVS6, EVS7, EVL0, EVL1, ite_tf, ite_ft, ite_tft, ite_ftf, ite_list, ite_tt, ite_ee, ite_nt, ite_ne, eq_self, implies_true, forall_const, exI, nsite, freeAt, execI, Opd.ev, tget, tins, tput, keepL, sitesOf, List.sum_cons, List.sum_nil, Nat.reduceAdd, Nat.reduceSub, Nat.reduceLT, Nat.reduceLeDiff, Nat.reduceEqDiff, Nat.reduceBEq, Nat.reduceMul, beq_self_eq_true, Bool.false_eq_true, ldA, stA, partA, faddrA, setAt, binA, arithA, shiftA, strA, unA, gSpan, gSkip, unG, ne_eq, Option.some.injEq, reduceCtorEq, decide_true, decide_false, elemsA, resA, resAll, resOne, enterA, decide_eq_true_eq, Bool.not_eq_true, Bool.decide_eq_true, ite_self, ↓reduceIte, noRefL, clrA, gcT, gcA, gcIds, reach, rhoOf, heapOf, idxA, genB, newGen, renB, refsB, List.contains_cons, List.range_succ, cb_note_cursor_data, b_note_cursor_data, cr_note_cursor_data, oI, oN, intsV, bytesV, propsV, propV, propC, bytesOf_map, hG, hT, setAt, faddrA]
    try (simp [outA, gcA, gcIds, reach, refsL, refsV, rhoOf, heapOf, idxA, genB, newGen, renL, renV, renB, refsB, List.range_succ])
theorem q_cdataC (c : CurD) (hb : c.b.length ≤ 140737488355328) (σ : AHeap) (t site : Nat) (hs : σ[t]? = some (.var [.lst false (c.b.map byteV), .bool c.short])) :
    callG E BY σ site 68 0 true [.ref t 0] = some (.lst false ((cdataF c).1.map byteV), σ.set t (.var [.lst false ((cdataF c).2.b.map byteV), .bool (cdataF c).2.short]), { any := true, upd := [(t, [.lst false ((cdataF c).2.b.map byteV), .bool (cdataF c).2.short])] }) :=
  call_refT (cs := [.lst false (c.b.map byteV), .bool c.short]) (by kernel_rfl) rfl rfl rfl rfl rfl (q_cdata c hb) hs site
end Go.Proofs.YtmlkhhidifjjfaaDoor
namespace Go.Proofs.YtmlkhhidifjjfaaDoor
set_option linter.unusedSimpArgs false
set_option linter.unusedVariables false
set_option maxHeartbeats 4000000
set_option maxRecDepth 10000
theorem q_bequal (a b : Bytes) : E 63 [bytesV a, bytesV b] [] = some (.bool (a == b), []) := by
  rw [E_eq (by rfl) cf_bytes_Equal]
  simp -implicitDefEqProofs only [EVS0, EVS1, EVS2, EVS3, EVS4, EVS5, EVS6, EVS7, EVL0, EVL1, ite_tf, ite_ft, ite_tft, ite_ftf, ite_list, ite_tt, ite_ee, ite_nt, ite_ne, eq_self, implies_true, forall_const, exI, nsite, freeAt, execI, Opd.ev, tget, tins, tput, keepL, sitesOf, List.sum_cons, List.sum_nil, Nat.reduceAdd, Nat.reduceSub, Nat.reduceLT, Nat.reduceLeDiff, Nat.reduceEqDiff, Nat.reduceBEq, Nat.reduceMul, beq_self_eq_true, Bool.false_eq_true, ldA, stA, partA, faddrA, setAt, binA, arithA, shiftA, strA, unA, gSpan, gSkip, unG, ne_eq, Option.some.injEq, reduceCtorEq, decide_true, decide_false, elemsA, resA, resAll, resOne, enterA, decide_eq_true_eq, Bool.not_eq_true, Bool.decide_eq_true, ite_self, ↓reduceIte, noRefL, clrA, gcT, gcA, gcIds, reach, rhoOf, heapOf, idxA, genB, newGen, renB, refsB, List.contains_cons, List.range_succ, cb_bytes_Equal, b_bytes_Equal, cr_bytes_Equal, oI, oN, intsV, bytesV, propsV, propV, propC, bytesOf_map, intsV]
theorem q_bequalC (σ : AHeap) (site own : Nat) (view : Bool) (a b : Bytes) : callG E BY σ site 63 own view [.lst false (a.map byteV), .lst false (b.map byteV)] = some (.bool (a == b), σ, {}) :=
  call_flat (q_bequal a b) (by kernel_rfl) (by simp -implicitDefEqProofs only [EVS0, EVS1, EVS2, EVS3, EVS4, EVS5, EVS6, EVS7, EVL0, EVL1, eq_self, implies_true, Bool.false_eq_true, intsV, bytesV, propsV, propV, propC, intsV]) (by simp -implicitDefEqProofs only [EVS0, EVS1, EVS2, EVS3, EVS4, EVS5, EVS6, EVS7, EVL0, EVL1, eq_self, implies_true, Bool.false_eq_true, intsV, bytesV, propsV, propV, propC, intsV]) rfl (fun _ => rfl) _ _ _ _
end Go.Proofs.YtmlkhhidifjjfaaDoor
namespace Go.Proofs.YtmlkhhidifjjfaaDoor
set_option linter.unusedSimpArgs false
set_option linter.unusedVariables false
set_option maxHeartbeats 16000000
set_option maxRecDepth 10000
def and3 (x : Int) : Int := IntKind.i64.wrap (((BitVec.ofInt IntKind.i64.bits x &&& BitVec.ofInt IntKind.i64.bits 3).toNat : Nat) : Int)
def and4 (x : Int) : Int := IntKind.i64.wrap (((BitVec.ofInt IntKind.i64.bits x &&& BitVec.ofInt IntKind.i64.bits 4).toNat : Nat) : Int)
theorem q_nmarks (c : CurD) (hb : c.b.length ≤ 140737488355328) : E 69 [.ref 0 0] [.var [.lst false (c.b.map byteV), .bool c.short]] = some (.tup [.int .i64 (and3 (numI (takeF 1 c).1)), .bool (and4 (numI (takeF 1 c).1) != 0)], [.var (curC (takeF 1 c).2)]) := by
  have hN := fun σ site hs => q_cnumC 1 (by omega) c hb σ 0 site hs
  have z1 : ((1 : Nat) : Int) = 1 := rfl
  rw [z1] at hN
  unfold and3 and4 curC
  generalize numI (takeF 1 c).1 = x at *
  generalize (takeF 1 c).2 = R at *
  rw [E_eq (by rfl) cf_note_reader_marks]
  simp -implicitDefEqProofs only [EVS0, EVS1, EVS2, EVS3, EVS4, EVS5, EVS6, EVS7, EVL0, EVL1, ite_tf, ite_ft, ite_tft, ite_ftf, ite_list, ite_tt, ite_ee, ite_nt, ite_ne, eq_self, implies_true, forall_const, exI, nsite, freeAt, execI, Opd.ev, tget, tins, tput, keepL, sitesOf, List.sum_cons, List.sum_nil, Nat.reduceAdd, Nat.reduceSub, Nat.reduceLT, Nat.reduceLeDiff, Nat.reduceEqDiff, Nat.reduceBEq, Nat.reduceMul, beq_self_eq_true, Bool.false_eq_true, ldA, stA, partA, faddrA, setAt, binA, arithA, shiftA, strA, unA, gSpan, gSkip, unG, ne_eq, Option.some.injEq, reduceCtorEq, decide_true, decide_false, elemsA, resA, resAll, resOne, enterA, decide_eq_true_eq, Bool.not_eq_true, Bool.decide_eq_true, ite_self, ↓reduceIte, noRefL, clrA, gcT, gcA, gcIds, reach, rhoOf, heapOf, idxA, genB, newGen, renB, refsB, List.contains_cons, List.range_succ, cb_note_reader_marks, b_note_reader_marks, cr_note_reader_marks, oI, oN, intsV, bytesV, propsV, propV, propC, bytesOf_map, hN, faddrA]
  try (simp [outA, gcA, gcIds, reach, refsL, refsV, rhoOf, heapOf, idxA, genB, newGen, renL, renV, renB, refsB, List.range_succ])
theorem q_nmarksC (c : CurD) (hb : c.b.length ≤ 140737488355328) (σ : AHeap) (t site : Nat) (hs : σ[t]? = some (.var [.lst false (c.b.map byteV), .bool c.short])) :
    callG E BY σ site 69 0 true [.ref t 0] = some (.tup [.int .i64 (and3 (numI (takeF 1 c).1)), .bool (and4 (numI (takeF 1 c).1) != 0)], σ.set t (.var [.lst false ((takeF 1 c).2.b.map byteV), .bool (takeF 1 c).2.short]), { any := true, upd := [(t, [.lst false ((takeF 1 c).2.b.map byteV), .bool (takeF 1 c).2.short])] }) :=
  call_refT (cs := [.lst false (c.b.map byteV), .bool c.short]) (by kernel_rfl) rfl rfl rfl rfl rfl (q_nmarks c hb) hs site
structure Nine where
  r1 : Bytes × CurD
  r2 : Bytes × CurD
  r3 : Bytes × CurD
  r4 : Bytes × CurD
  r5 : Bytes × CurD
  r6 : Bytes × CurD
  r7 : Bytes × CurD
  r8 : Bytes × CurD
def nineF (c : CurD) : Nine :=
  let r1 := ctextF c
  let r2 := cdataF r1.2
  let r3 := takeF 1 r2.2
  let r4 := ctextF r3.2
  let r5 := takeF 8 r4.2
  let r6 := takeF 8 r5.2
  let r7 := takeF 1 r6.2
  ⟨r1, r2, r3, r4, r5, r6, r7, takeF 1 r7.2⟩
def noteF (c : CurD) : NoteD × CurD :=
  let x := nineF c
  let l := readF 3 x.r8.2.b
  (⟨x.r1.1, x.r2.1, and3 (numI x.r3.1), and4 (numI x.r3.1) != 0, x.r4.1, numI x.r5.1, l.1, numI x.r7.1, numI x.r6.1, numI x.r8.1⟩, ⟨x.r8.2.b, x.r8.2.short || l.2.2 != 0 || ((l.2.1 : Int) != (x.r8.2.b.length : Int))⟩)
theorem nine_len (c : CurD) : (nineF c).r1.2.b.length ≤ c.b.length ∧ (nineF c).r2.2.b.length ≤ c.b.length ∧ (nineF c).r3.2.b.length ≤ c.b.length ∧ (nineF c).r4.2.b.length ≤ c.b.length ∧ (nineF c).r5.2.b.length ≤ c.b.length ∧ (nineF c).r6.2.b.length ≤ c.b.length ∧ (nineF c).r7.2.b.length ≤ c.b.length ∧ (nineF c).r8.2.b.length ≤ c.b.length := by
  have h1 := ctextF_len c
  have h2 := cdataF_len (ctextF c).2
  have h3 := (takeF_len 1 (cdataF (ctextF c).2).2).2
  have h4 := ctextF_len (takeF 1 (cdataF (ctextF c).2).2).2
  have h5 := (takeF_len 8 (ctextF (takeF 1 (cdataF (ctextF c).2).2).2).2).2
  have h6 := (takeF_len 8 (takeF 8 (ctextF (takeF 1 (cdataF (ctextF c).2).2).2).2).2).2
  have h7 := (takeF_len 1 (takeF 8 (takeF 8 (ctextF (takeF 1 (cdataF (ctextF c).2).2).2).2).2).2).2
  have h8 := (takeF_len 1 (takeF 1 (takeF 8 (takeF 8 (ctextF (takeF 1 (cdataF (ctextF c).2).2).2).2).2).2).2).2
  simp only [nineF]
  omega
theorem q_rnote (c : CurD) (hb : c.b.length ≤ 140737488355328) : E 61 [.ref 0 0] [.var [.lst false (c.b.map byteV), .bool c.short]] = some (noteV (noteF c).1, [.var (curC (noteF c).2)]) := by
  obtain ⟨l1, l2, l3, l4, l5, l6, l7, l8⟩ := nine_len c
  have z1 : ((1 : Nat) : Int) = 1 := rfl
  have z8 : ((8 : Nat) : Int) = 8 := rfl
  have h1 := fun σ site hs => q_ctextC c hb σ 0 site hs
  have h2 := fun σ site hs => q_cdataC (nineF c).r1.2 (by omega) σ 0 site hs
  have h3 := fun σ site hs => q_nmarksC (nineF c).r2.2 (by omega) σ 0 site hs
  have h4 := fun σ site hs => q_ctextC (nineF c).r3.2 (by omega) σ 0 site hs
  have h5 := fun σ site hs => q_cnumC 8 (by omega) (nineF c).r4.2 (by omega) σ 0 site hs
  have h6 := fun σ site hs => q_cnumC 8 (by omega) (nineF c).r5.2 (by omega) σ 0 site hs
  have h7 := fun σ site hs => q_cnumC 1 (by omega) (nineF c).r6.2 (by omega) σ 0 site hs
  have h8 := fun σ site hs => q_cnumC 1 (by omega) (nineF c).r7.2 (by omega) σ 0 site hs
  have h9 := fun σ site own f => q_preadC σ site own f 3 (nineF c).r8.2.b (by omega)
  have e1 : ctextF c = (nineF c).r1 := rfl
  have e2 : cdataF (nineF c).r1.2 = (nineF c).r2 := rfl
  have e3 : takeF 1 (nineF c).r2.2 = (nineF c).r3 := rfl
  have e4 : ctextF (nineF c).r3.2 = (nineF c).r4 := rfl
  have e5 : takeF 8 (nineF c).r4.2 = (nineF c).r5 := rfl
  have e6 : takeF 8 (nineF c).r5.2 = (nineF c).r6 := rfl
  have e7 : takeF 1 (nineF c).r6.2 = (nineF c).r7 := rfl
  have e8 : takeF 1 (nineF c).r7.2 = (nineF c).r8 := rfl
  rw [e1] at h1
  rw [e2] at h2
  rw [e3] at h3
  rw [e4] at h4
  rw [e5, z8] at h5
  rw [e6, z8] at h6
  rw [e7, z1] at h7
  rw [e8, z1] at h8
  unfold noteF curC noteV noteC
  clear e1 e2 e3 e4 e5 e6 e7 e8
  generalize nineF c = x at *
  obtain ⟨⟨t1, c1⟩, ⟨t2, c2⟩, ⟨t3, c3⟩, ⟨t4, c4⟩, ⟨t5, c5⟩, ⟨t6, c6⟩, ⟨t7, c7⟩, ⟨t8, c8⟩⟩ := x
  simp only at h1 h2 h3 h4 h5 h6 h7 h8 h9 ⊢
  generalize readF 3 c8.b = L at *
  obtain ⟨ps, u, e⟩ := L
  simp only at h9 ⊢
  obtain ⟨b8, s8⟩ := c8
  simp only at h8 h9 ⊢
  cases s8 <;> cases he : (e != 0) <;> cases hu : ((u : Int) != (b8.length : Int))
  all_goals simp only [Bool.or_true, Bool.true_or, Bool.or_false, Bool.false_or]
  all_goals rw [E_eq (by rfl) cf_note_reader_note]
  all_goals simp -implicitDefEqProofs only [EVS0, EVS1, EVS2, EVS3, EVS4, EVS5, EVS6, EVS7, EVL0, EVL1, ite_tf, ite_ft, ite_tft, ite_ftf, ite_list, ite_tt, ite_ee, ite_nt, ite_ne, eq_self, implies_true, forall_const, exI, nsite, freeAt, execI, Opd.ev, tget, tins, tput, keepL, sitesOf, List.sum_cons, List.sum_nil, Nat.reduceAdd, Nat.reduceSub, Nat.reduceLT, Nat.reduceLeDiff, Nat.reduceEqDiff, Nat.reduceBEq, Nat.reduceMul, beq_self_eq_true, Bool.false_eq_true, ldA, stA, partA, faddrA, setAt, binA, arithA, shiftA, strA, unA, gSpan, gSkip, unG, ne_eq, Option.some.injEq, reduceCtorEq, decide_true, decide_false, elemsA, resA, resAll, resOne, enterA, decide_eq_true_eq, Bool.not_eq_true, Bool.decide_eq_true, ite_self, ↓reduceIte, noRefL, clrA, gcT, gcA, gcIds, reach, rhoOf, heapOf, idxA, genB, newGen, renB, refsB, List.contains_cons, List.range_succ, cb_note_reader_note, b_note_reader_note, cr_note_reader_note, oI, oN, intsV, bytesV, propsV, propV, propC, bytesOf_map, h1, h2, h3, h4, h5, h6, h7, h8, h9, he, hu, fillA, setAt, AVal.cells, faddrA, reg_some, regC_some, chkA_cons, chkA_nil, pairFree_eq, emptyOp_eq, noWr_eq, List.getD_cons_zero, List.getD_cons_succ, isCallI, isLdI, gotOk, same1, List.lookup_cons, List.lookup_nil]
  all_goals try (simp [outA, gcA, gcIds, reach, refsL, refsV, rhoOf, heapOf, idxA, genB, newGen, renL, renV, renB, refsB, List.range_succ])
end Go.Proofs.YtmlkhhidifjjfaaDoor
namespace Go.Proofs.YtmlkhhidifjjfaaDoor
set_option linter.unusedSimpArgs false
set_option linter.unusedVariables false
set_option maxHeartbeats 16000000
set_option maxRecDepth 10000
theorem readL_all (P : PropD → Prop) (w : Int) (N : Nat) (h1 : ∀ (b : Bytes) (l : List PropD), b.length ≤ N → (oneF w b l).2.2 = 0 → P (oneF w b l).1) : ∀ (n : Nat) (b : Bytes) (l : List PropD), b.length ≤ N → (∀ p ∈ l, P p) → ∀ p ∈ (readL w n b l).1, P p
  | n, [], l, _, hl => by rw [readL_nil]; exact hl
  | 0, c :: r, l, _, hl => by simp [readL]
  | n + 1, c :: r, l, hb, hl => by
    rw [readL_cons]
    split
    · rename_i h
      refine readL_all P w N h1 n _ _ (by rw [List.length_drop]; omega) ?_
      intro p hp
      rcases List.mem_append.1 hp with hp | hp
      · exact hl p hp
      · simp only [List.mem_singleton] at hp
        subst hp
        exact h1 _ _ hb h
    · simp
theorem readF_all (P : PropD → Prop) (w : Int) (b : Bytes) (h1 : ∀ (b' : Bytes) (l : List PropD), b'.length ≤ b.length → (oneF w b' l).2.2 = 0 → P (oneF w b' l).1) : ∀ p ∈ (readF w b).1, P p := by
  unfold readF
  split
  · simp
  · split
    · exact readL_all P w b.length h1 _ _ [] (by simp; omega) (by simp)
    · simp
theorem readF_cnt (w : Int) (b : Bytes) : (readF w b).1.length ≤ 268435455 := by
  have hlt := getVar_lt b
  unfold readF
  split
  · simp
  · split
    · have := readL_len w (getVarF b).1 ((b.take ((getVarF b).2.1 + (getVarF b).1)).drop (getVarF b).2.1) []
      simp only [List.length_drop, List.length_take, List.length_nil] at this
      simp only
      omega
    · simp
theorem getText_len (b : Bytes) : (getTextF b).1.length ≤ 65535 := by
  have := getData_len b
  unfold getTextF
  split
  · simp
  · split
    · exact this
    · simp
theorem value_tx (id : Int) (b : Bytes) : (valueF id b).1.text.length ≤ 65535 ∧ (valueF id b).1.pair.length ≤ 65535 ∧ (valueF id b).1.data.length ≤ 65535 := by
  have h1 := getText_len b
  have h2 := getText_len (b.drop (getTextF b).2.1)
  have h3 := getData_len b
  unfold valueF valueK numV pairV
  repeat' split
  all_goals exact ⟨by first | exact h1 | exact Nat.zero_le _, by first | exact h2 | exact Nat.zero_le _, by first | exact h3 | exact Nat.zero_le _⟩
theorem one_tx {w : Int} {b : Bytes} {l : List PropD} : (oneF w b l).1.text.length ≤ 65535 ∧ (oneF w b l).1.pair.length ≤ 65535 ∧ (oneF w b l).1.data.length ≤ 65535 := by
  unfold oneF oneK
  repeat' split
  all_goals first
    | exact value_tx _ _
    | exact ⟨Nat.zero_le _, Nat.zero_le _, Nat.zero_le _⟩
theorem readF_tx (w : Int) (b : Bytes) : ∀ p ∈ (readF w b).1, p.text.length ≤ 65535 ∧ p.pair.length ≤ 65535 ∧ p.data.length ≤ 65535 := readF_all _ w b fun _ _ _ _ => one_tx
theorem readF_ok (w : Int) (b : Bytes) : ∀ p ∈ (readF w b).1, OkTx p := fun p hp => by
  have := readF_tx w b p hp
  exact ⟨by omega, by omega, by omega⟩
theorem noteF_ok (c : CurD) : OkNote (noteF c).1 := by
  have h1 := getText_len c.b
  have h4 := getText_len (nineF c).r3.2.b
  have h2 := getData_len (nineF c).r1.2.b
  have e1 : (nineF c).r1.1 = (getTextF c.b).1 := rfl
  have e2 : (nineF c).r2.1 = (getDataF (nineF c).r1.2.b).1 := rfl
  have e4 : (nineF c).r4.1 = (getTextF (nineF c).r3.2.b).1 := rfl
  have h9 := readF_cnt 3 (nineF c).r8.2.b
  have ht := readF_tx 3 (nineF c).r8.2.b
  refine ⟨?_, ?_, ?_, ?_, ?_, ?_⟩
  · show (nineF c).r1.1.length ≤ _; rw [e1]; omega
  · show (nineF c).r2.1.length ≤ _; rw [e2]; omega
  · show (nineF c).r4.1.length ≤ _; rw [e4]; omega
  · show (readF 3 (nineF c).r8.2.b).1.length ≤ _; omega
  · exact readF_ok 3 _
  · exact fun p hp => by have := ht p hp; omega
def noteZ : NoteD := ⟨[], [], 0, false, [], 0, [], 0, 0, 0⟩
def readN (b : Bytes) : NoteD × Int :=
  if (noteF ⟨b, false⟩).2.short = true ∨ mayN (noteF ⟨b, false⟩).1 = false ∨ (nlayF (noteF ⟨b, false⟩).1 == b) = false then (noteZ, 190) else ((noteF ⟨b, false⟩).1, 0)
def readV (f : Bool) (x : NoteD × Int) : AVal := .tup [.agg [.str x.1.topic, .lst f (x.1.payload.map byteV), .int .i64 x.1.qos, .bool x.1.retain, .str x.1.sender, .int .i64 x.1.expires, .lst f (x.1.props.map propV), .int .i64 x.1.origin, .int .i64 x.1.number, .int .i64 x.1.hops], .int .i64 x.2]
theorem q_rnoteC (c : CurD) (hb : c.b.length ≤ 140737488355328) (σ : AHeap) (t site : Nat) (hs : σ[t]? = some (.var [.lst false (c.b.map byteV), .bool c.short])) :
    callG E BY σ site 61 0 true [.ref t 0] = some (.agg [.str (noteF c).1.topic, .lst false ((noteF c).1.payload.map byteV), .int .i64 (noteF c).1.qos, .bool (noteF c).1.retain, .str (noteF c).1.sender, .int .i64 (noteF c).1.expires, .lst false ((noteF c).1.props.map propV), .int .i64 (noteF c).1.origin, .int .i64 (noteF c).1.number, .int .i64 (noteF c).1.hops], σ.set t (.var [.lst false ((noteF c).2.b.map byteV), .bool (noteF c).2.short]), { any := true, upd := [(t, [.lst false ((noteF c).2.b.map byteV), .bool (noteF c).2.short])] }) :=
  call_refT (cs := [.lst false (c.b.map byteV), .bool c.short]) (by kernel_rfl) rfl rfl rfl rfl rfl (q_rnote c hb) hs site
theorem q_nread (b : Bytes) (hb : b.length ≤ 140737488355328) : ∃ f, E 21 [bytesV b] [] = some (readV f (readN b), []) := by
  have hR := fun σ t site hs => q_rnoteC ⟨b, false⟩ hb σ t site hs
  have hok := noteF_ok ⟨b, false⟩
  have hM := fun σ site own => q_nmayC σ site own (noteF ⟨b, false⟩).1 hok
  have hL := fun σ site own => q_nlayC σ site own (noteF ⟨b, false⟩).1 hok
  have hE := fun σ site own view => q_bequalC σ site own view (nlayF (noteF ⟨b, false⟩).1) b
  simp only at hR
  unfold readN readV
  clear hok
  generalize noteF ⟨b, false⟩ = x at *
  obtain ⟨n, c8⟩ := x
  obtain ⟨b8, s8⟩ := c8
  simp only at hR hM hL hE ⊢
  generalize nlayF n = y at *
  cases s8
  · cases hm : mayN n <;> rw [hm] at hM
    · refine ⟨true, ?_⟩
      rw [if_pos (by simp), E_eq (by rfl) cf_note_Read]
      simp -implicitDefEqProofs only [EVS0, EVS1, EVS2, EVS3, EVS4, EVS5, EVS6, EVS7, EVL0, EVL1, ite_tf, ite_ft, ite_tft, ite_ftf, ite_list, ite_tt, ite_ee, ite_nt, ite_ne, eq_self, implies_true, forall_const, exI, nsite, freeAt, execI, Opd.ev, tget, tins, tput, keepL, sitesOf, List.sum_cons, List.sum_nil, Nat.reduceAdd, Nat.reduceSub, Nat.reduceLT, Nat.reduceLeDiff, Nat.reduceEqDiff, Nat.reduceBEq, Nat.reduceMul, beq_self_eq_true, Bool.false_eq_true, ldA, stA, partA, faddrA, setAt, binA, arithA, shiftA, strA, unA, gSpan, gSkip, unG, ne_eq, Option.some.injEq, reduceCtorEq, decide_true, decide_false, elemsA, resA, resAll, resOne, enterA, decide_eq_true_eq, Bool.not_eq_true, Bool.decide_eq_true, ite_self, ↓reduceIte, noRefL, clrA, gcT, gcA, gcIds, reach, rhoOf, heapOf, idxA, genB, newGen, renB, refsB, List.contains_cons, List.range_succ, cb_note_Read, b_note_Read, cr_note_Read, oI, oN, intsV, bytesV, propsV, propV, propC, bytesOf_map, hR, hM, fillA, setAt, AVal.cells, faddrA, noteZ]
    · cases he : (y == b) <;> rw [he] at hE
      · refine ⟨true, ?_⟩
        rw [if_pos (by simp), E_eq (by rfl) cf_note_Read]
        simp -implicitDefEqProofs only [EVS0, EVS1, EVS2, EVS3, EVS4, EVS5, EVS6, EVS7, EVL0, EVL1, ite_tf, ite_ft, ite_tft, ite_ftf, ite_list, ite_tt, ite_ee, ite_nt, ite_ne, eq_self, implies_true, forall_const, exI, nsite, freeAt, execI, Opd.ev, tget, tins, tput, keepL, sitesOf, List.sum_cons, List.sum_nil, Nat.reduceAdd, Nat.reduceSub, Nat.reduceLT, Nat.reduceLeDiff, Nat.reduceEqDiff, Nat.reduceBEq, Nat.reduceMul, beq_self_eq_true, Bool.false_eq_true, ldA, stA, partA, faddrA, setAt, binA, arithA, shiftA, strA, unA, gSpan, gSkip, unG, ne_eq, Option.some.injEq, reduceCtorEq, decide_true, decide_false, elemsA, resA, resAll, resOne, enterA, decide_eq_true_eq, Bool.not_eq_true, Bool.decide_eq_true, ite_self, ↓reduceIte, noRefL, clrA, gcT, gcA, gcIds, reach, rhoOf, heapOf, idxA, genB, newGen, renB, refsB, List.contains_cons, List.range_succ, cb_note_Read, b_note_Read, cr_note_Read, oI, oN, intsV, bytesV, propsV, propV, propC, bytesOf_map, hR, hM, hL, hE, fillA, setAt, AVal.cells, faddrA, noteZ]
      · refine ⟨false, ?_⟩
        rw [if_neg (by simp), E_eq (by rfl) cf_note_Read]
        simp -implicitDefEqProofs only [EVS0, EVS1, EVS2, EVS3, EVS4, EVS5, EVS6, EVS7, EVL0, EVL1, ite_tf, ite_ft, ite_tft, ite_ftf, ite_list, ite_tt, ite_ee, ite_nt, ite_ne, eq_self, implies_true, forall_const, exI, nsite, freeAt, execI, Opd.ev, tget, tins, tput, keepL, sitesOf, List.sum_cons, List.sum_nil, Nat.reduceAdd, Nat.reduceSub, Nat.reduceLT, Nat.reduceLeDiff, Nat.reduceEqDiff, Nat.reduceBEq, Nat.reduceMul, beq_self_eq_true, Bool.false_eq_true, ldA, stA, partA, faddrA, setAt, binA, arithA, shiftA, strA, unA, gSpan, gSkip, unG, ne_eq, Option.some.injEq, reduceCtorEq, decide_true, decide_false, elemsA, resA, resAll, resOne, enterA, decide_eq_true_eq, Bool.not_eq_true, Bool.decide_eq_true, ite_self, ↓reduceIte, noRefL, clrA, gcT, gcA, gcIds, reach, rhoOf, heapOf, idxA, genB, newGen, renB, refsB, List.contains_cons, List.range_succ, cb_note_Read, b_note_Read, cr_note_Read, oI, oN, intsV, bytesV, propsV, propV, propC, bytesOf_map, hR, hM, hL, hE, fillA, setAt, AVal.cells, faddrA]
  · refine ⟨true, ?_⟩
    rw [if_pos (by simp), E_eq (by rfl) cf_note_Read]
    simp -implicitDefEqProofs only [EVS0, EVS1, EVS2, EVS3, EVS4, EVS5, EVS6, EVS7, EVL0, EVL1, ite_tf, ite_ft, ite_tft, ite_ftf, ite_list, ite_tt, ite_ee, ite_nt, ite_ne, eq_self, implies_true, forall_const, exI, nsite, freeAt, execI, Opd.ev, tget, tins, tput, keepL, sitesOf, List.sum_cons, List.sum_nil, Nat.reduceAdd, Nat.reduceSub, Nat.reduceLT, Nat.reduceLeDiff, Nat.reduceEqDiff, Nat.reduceBEq, Nat.reduceMul, beq_self_eq_true, Bool.false_eq_true, ldA, stA, partA, faddrA, setAt, binA, arithA, shiftA, strA, unA, gSpan, gSkip, unG, ne_eq, Option.some.injEq, reduceCtorEq, decide_true, decide_false, elemsA, resA, resAll, resOne, enterA, decide_eq_true_eq, Bool.not_eq_true, Bool.decide_eq_true, ite_self, ↓reduceIte, noRefL, clrA, gcT, gcA, gcIds, reach, rhoOf, heapOf, idxA, genB, newGen, renB, refsB, List.contains_cons, List.range_succ, cb_note_Read, b_note_Read, cr_note_Read, oI, oN, intsV, bytesV, propsV, propV, propC, bytesOf_map, hR, fillA, setAt, AVal.cells, faddrA, noteZ]
theorem q_nreadC (σ : AHeap) (site own : Nat) (f : Bool) (b : Bytes) (hb : b.length ≤ 140737488355328) : callG E BY σ site 21 own true [.lst f (b.map byteV)] = some (readV false (readN b), σ, {}) := by
  obtain ⟨g, h⟩ := q_nread b hb
  exact call_normT h (by kernel_rfl) rfl rfl rfl (fun _ => rfl) _ _ _
end Go.Proofs.YtmlkhhidifjjfaaDoor
namespace Go.Proofs.YtmlkhhidifjjfaaDoor
set_option linter.unusedSimpArgs false
set_option linter.unusedVariables false
set_option maxHeartbeats 16000000
set_option maxRecDepth 10000
theorem flat_bytes (b : Bytes) : (b.map byteV).all flat2 = true := by
  rw [List.all_eq_true]
  intro x hx
  obtain ⟨p, _, rfl⟩ := List.mem_map.1 hx
  rfl
theorem call_ownN {O : Oracle} {byref : Nat → Bool} {f : Nat} {args args' : List AVal} {k n : Nat} {xs : List AVal} (h : O f args' [] = some (.sl 0 0 0 n, [.row 0 k xs])) (hb : byref f = false) (hp : args.all plainV = true) (hn : args.map normV = args') (hx : xs.all flat2 = true) (σ : AHeap) (site : Nat) (hs : freeAt σ site = true) : callG O byref σ site f 1 false args = some (.sl site 0 0 n, σ.set site (.row 0 k xs), {}) := by
  rw [callG_plain hb hp, hn, h]
  simp [askO, backG, cloneR, hx]
theorem q_join3O (σ : AHeap) (site : Nat) (fl : Bool) (a b c : Bytes) (hn : a.length + (b.length + c.length) ≤ 140737488355328) (hs : freeAt σ site = true) : callG E BY σ site 56 1 false [.lst fl [.lst false (a.map byteV), .lst false (b.map byteV), .lst false (c.map byteV)]] = some (.sl site 0 0 (a ++ (b ++ c)).length, σ.set site (.row 0 1 ((a ++ (b ++ c)).map byteV)), {}) := by
  have h := q_join a [b, c] (by simp) (by simpa using hn)
  have e : [a, b, c].flatten = a ++ (b ++ c) := by simp
  rw [e] at h
  exact call_ownN (args := [.lst fl [.lst false (a.map byteV), .lst false (b.map byteV), .lst false (c.map byteV)]]) h (by kernel_rfl) rfl rfl (flat_bytes _) σ site hs
def idsB (l : List Int) : Bytes := (l.map fun i => beB (u64N i) 4).flatten
theorem idsB_len : ∀ l : List Int, (idsB l).length = l.length * 4
  | [] => rfl
  | i :: l => by
    have := idsB_len l
    unfold idsB at this ⊢
    simp only [List.map_cons, List.flatten_cons, List.length_append, beB_len, this, List.length_cons]; omega
def itlayF (it : ItemD) : Bytes := ((dataF (nlayF it.note)).1 ++ (markF it.qos it.retain ++ [u8B it.ids.length])) ++ (idsB it.ids ++ (textF it.share).1)
theorem q_layitl (l : List Int) (hl : l.length ≤ 1000000) (sh : Bytes) (hsh : sh.length ≤ 65537) : ∀ (r : List Int) (i : Nat) (acc full : Bytes), l.drop i = r → full = acc ++ (idsB r ++ sh) → full.length ≤ 140737488355328 →
    K_note_LayItem_l5 0 [(39, .int .i64 i), (38, .int .i64 l.length), (37, .lst false (l.map (AVal.int .i64))), (7, .sl 0 0 0 acc.length), (5, .lst false (sh.map byteV))] [.row 0 1 (acc.map byteV)] = some (.sl 0 0 0 full.length, [.row 0 1 (full.map byteV)])
  | [], i, acc, full, h, hf, hn => by
    have h1 := drop_nil h
    have e : full = acc ++ sh := by rw [hf]; simp [idsB]
    subst e
    have k1 := kokB sh
    have k2 : (acc.length + sh.length) * 1 ≤ 140737488355328 := by simp at hn; omega
    have e4 : (acc ++ sh).map byteV = acc.map byteV ++ sh.map byteV := by simp
    rw [e4, List.length_append]
    clear hf
    unfold K_note_LayItem_l5
    rw [evL_eq]
    simp -implicitDefEqProofs only [EVS0, EVS1, EVS2, EVS3, EVS4, EVS5, EVS6, EVS7, EVL0, EVL1, ite_tf, ite_ft, ite_tft, ite_ftf, ite_list, ite_tt, ite_ee, ite_nt, ite_ne, eq_self, implies_true, forall_const, exI, nsite, freeAt, execI, Opd.ev, tget, tins, tput, keepL, sitesOf, List.sum_cons, List.sum_nil, Nat.reduceAdd, Nat.reduceSub, Nat.reduceLT, Nat.reduceLeDiff, Nat.reduceEqDiff, Nat.reduceBEq, Nat.reduceMul, beq_self_eq_true, Bool.false_eq_true, ldA, stA, partA, faddrA, setAt, binA, arithA, shiftA, strA, unA, gSpan, gSkip, unG, ne_eq, Option.some.injEq, reduceCtorEq, decide_true, decide_false, elemsA, resA, resAll, resOne, enterA, decide_eq_true_eq, Bool.not_eq_true, Bool.decide_eq_true, ite_self, ↓reduceIte, noRefL, clrA, gcT, gcA, gcIds, reach, rhoOf, heapOf, idxA, genB, newGen, renB, refsB, List.contains_cons, List.range_succ, cb_note_LayItem, b_note_LayItem, cr_note_LayItem, x_note_LayItem_k0, d_note_LayItem_k0, x_note_LayItem_l5, d_note_LayItem_l5, oI, oN, intsV, bytesV, propsV, propV, propC, bytesOf_map, h1, k1, k2, appA, viewAs, viewA, viewA1, viewsA, freezeA, List.foldl_cons, List.foldl_nil, List.length_singleton, Nat.one_mul, Nat.le_refl, AVal.cells, out_row1]
  | x :: r, i, acc, full, h, hf, hn => by
    have ih := q_layitl l hl sh hsh r (i + 1) (acc ++ beB (u64N x) 4) full (drop_at h).2.1 (by rw [hf]; simp [idsB]) hn
    have h1 : (i : Int) < l.length := by have := (drop_at h).2.2; omega
    have e1 := iad (drop_at h).1 (AVal.int .i64) (k := 1) rfl
    have e3 := wrap_succ h1 (by omega)
    have hP := fun σ site own => q_putC σ site own (u64N x) 4 (by omega) (by omega)
    have z4 : ((4 : Nat) : Int) = 4 := rfl
    rw [z4] at hP
    have hu := wrap_u64N x
    have lq := beB_len 4 (u64N x)
    generalize beB (u64N x) 4 = q at *
    have k1 := kokB q
    have k2 : (acc.length + q.length) * 1 ≤ 140737488355328 := by have := congrArg List.length hf; simp only [List.length_append, idsB_len, List.length_cons] at this; omega
    have e4 : (acc ++ q).map byteV = acc.map byteV ++ q.map byteV := by simp
    have e5 : (acc ++ q).length = acc.length + q.length := by simp
    rw [e4, e5] at ih
    clear hf
    unfold K_note_LayItem_l5 at ih ⊢
    rw [evL_eq]
    simp -implicitDefEqProofs only [EVS0, EVS1, EVS2, EVS3, EVS4, EVS5, EVS6, EVS7, EVL0, EVL1, ite_tf, ite_ft, ite_tft, ite_ftf, ite_list, ite_tt, ite_ee, ite_nt, ite_ne, eq_self, implies_true, forall_const, exI, nsite, freeAt, execI, Opd.ev, tget, tins, tput, keepL, sitesOf, List.sum_cons, List.sum_nil, Nat.reduceAdd, Nat.reduceSub, Nat.reduceLT, Nat.reduceLeDiff, Nat.reduceEqDiff, Nat.reduceBEq, Nat.reduceMul, beq_self_eq_true, Bool.false_eq_true, ldA, stA, partA, faddrA, setAt, binA, arithA, shiftA, strA, unA, gSpan, gSkip, unG, ne_eq, Option.some.injEq, reduceCtorEq, decide_true, decide_false, elemsA, resA, resAll, resOne, enterA, decide_eq_true_eq, Bool.not_eq_true, Bool.decide_eq_true, ite_self, ↓reduceIte, noRefL, clrA, gcT, gcA, gcIds, reach, rhoOf, heapOf, idxA, genB, newGen, renB, refsB, List.contains_cons, List.range_succ, cb_note_LayItem, b_note_LayItem, cr_note_LayItem, x_note_LayItem_k0, d_note_LayItem_k0, x_note_LayItem_l5, d_note_LayItem_l5, oI, oN, intsV, bytesV, propsV, propV, propC, bytesOf_map, h1, e1, e3, hu, hP, k1, k2, appA, viewAs, viewA, viewA1, viewsA, freezeA, List.foldl_cons, List.foldl_nil, List.length_singleton, Nat.one_mul, Nat.le_refl, AVal.cells]
    exact ih
structure OkItem (it : ItemD) : Prop where
  note : OkNote it.note
  ids : it.ids.length ≤ 1000000
  share : it.share.length ≤ 9223372036854775807
theorem nlayF_len (n : NoteD) : (nlayF n).length ≤ 1000000000 := by
  have l1 := textF_len n.topic
  have l2 := dataF_len n.payload
  have l3 := textF_len n.sender
  have l4 := layF_len 3 n.props
  unfold nlayF
  simp only [List.length_append, beB_len, markF, List.length_cons, List.length_nil]; omega
theorem q_nlayit (it : ItemD) (h : OkItem it) : E 17 [itemV it] [] = some (.sl 0 0 0 (itlayF it).length, [.row 0 1 ((itlayF it).map byteV)]) := by
  have hL := fun σ site own => q_nlayC σ site own it.note h.note
  have ln := nlayF_len it.note
  have hD := fun σ site own f => q_dataC σ site own f (nlayF it.note) (by omega)
  have hS := fun σ site own => q_textC σ site own it.share h.share
  have hM := fun σ site own => q_marksC σ site own it.qos it.retain
  have w1 := u8_wrap (it.ids.length : Int)
  have l1 := dataF_len (nlayF it.note)
  have l3 := textF_len it.share
  have hids := h.ids
  have lm : (markF it.qos it.retain).length = 1 := rfl
  have hJ := fun σ site fl hs => q_join3O σ site fl (dataF (nlayF it.note)).1 (markF it.qos it.retain) [u8B it.ids.length] (by simp only [List.length_cons, List.length_nil]; omega) hs
  have e7 : [u8B it.ids.length].map byteV = [AVal.int .u8 ((u8B it.ids.length).toNat : Int)] := rfl
  simp only [e7] at hJ
  have li := idsB_len it.ids
  have key := q_layitl it.ids h.ids (textF it.share).1 l3 it.ids 0 ((dataF (nlayF it.note)).1 ++ (markF it.qos it.retain ++ [u8B it.ids.length])) (itlayF it) rfl rfl (by
    unfold itlayF
    simp only [List.length_append, List.length_cons, List.length_nil]; omega)
  unfold byT at hD hS
  have z0 : ((0 : Nat) : Int) = 0 := rfl
  rw [z0] at key
  generalize itlayF it = full at *
  generalize (dataF (nlayF it.note)).1 ++ (markF it.qos it.retain ++ [u8B it.ids.length]) = acc at *
  generalize markF it.qos it.retain = M at *
  generalize u8B it.ids.length = U1 at *
  generalize hq : (textF it.share).1 = T at *
  unfold K_note_LayItem_l5 at key
  rw [E_eq (by rfl) cf_note_LayItem]
  simp -implicitDefEqProofs only [EVS0, EVS1, EVS2, EVS3, EVS4, EVS5, EVS6, EVS7, EVL0, EVL1, ite_tf, ite_ft, ite_tft, ite_ftf, ite_list, ite_tt, ite_ee, ite_nt, ite_ne, eq_self, implies_true, forall_const, exI, nsite, freeAt, execI, Opd.ev, tget, tins, tput, keepL, sitesOf, List.sum_cons, List.sum_nil, Nat.reduceAdd, Nat.reduceSub, Nat.reduceLT, Nat.reduceLeDiff, Nat.reduceEqDiff, Nat.reduceBEq, Nat.reduceMul, beq_self_eq_true, Bool.false_eq_true, ldA, stA, partA, faddrA, setAt, binA, arithA, shiftA, strA, unA, gSpan, gSkip, unG, ne_eq, Option.some.injEq, reduceCtorEq, decide_true, decide_false, elemsA, resA, resAll, resOne, enterA, decide_eq_true_eq, Bool.not_eq_true, Bool.decide_eq_true, ite_self, ↓reduceIte, noRefL, clrA, gcT, gcA, gcIds, reach, rhoOf, heapOf, idxA, genB, newGen, renB, refsB, List.contains_cons, List.range_succ, cb_note_LayItem, b_note_LayItem, cr_note_LayItem, x_note_LayItem_k0, d_note_LayItem_k0, x_note_LayItem_l5, d_note_LayItem_l5, oI, oN, intsV, bytesV, propsV, propV, propC, bytesOf_map, itemV, itemC, hL, hD, hS, hM, hJ, w1, hq, reg_some, regC_some, chkA_cons, chkA_nil, pairFree_eq, emptyOp_eq, noWr_eq, List.getD_cons_zero, List.getD_cons_succ, isCallI, isLdI, gotOk, same1, List.lookup_cons, List.lookup_nil, appA, viewAs, viewA, viewA1, viewsA, freezeA, List.foldl_cons, List.foldl_nil, List.length_singleton, Nat.one_mul, Nat.le_refl, AVal.cells]
  exact key
theorem q_nlayitC (σ : AHeap) (site own : Nat) (it : ItemD) (h : OkItem it) : callG E BY σ site 17 own true [.agg [.str it.note.topic, .lst false (it.note.payload.map byteV), .int .i64 it.note.qos, .bool it.note.retain, .str it.note.sender, .int .i64 it.note.expires, .lst false (it.note.props.map propV), .int .i64 it.note.origin, .int .i64 it.note.number, .int .i64 it.note.hops, .int .i64 it.qos, .bool it.retain, .lst false (it.ids.map (.int .i64 ·)), .str it.share]] = some (.lst false ((itlayF it).map byteV), σ, {}) :=
  call_rown (byref := BY) (q_nlayit it h) (by simp) rfl rfl σ site own
end Go.Proofs.YtmlkhhidifjjfaaDoor
namespace Go.Proofs.YtmlkhhidifjjfaaDoor
set_option linter.unusedSimpArgs false
set_option linter.unusedVariables false
set_option maxHeartbeats 16000000
set_option maxRecDepth 10000
/-- numbers of four bytes, one behind the other; whether all of them may be -/
def idsF : Nat → CurD → Bool → List Int × CurD × Bool
  | 0, c, f => ([], c, f)
  | n + 1, c, f => (numI (takeF 4 c).1 :: (idsF n (takeF 4 c).2 (f && decide (numI (takeF 4 c).1 ≥ 1) && decide (numI (takeF 4 c).1 ≤ 268435455))).1, (idsF n (takeF 4 c).2 (f && decide (numI (takeF 4 c).1 ≥ 1) && decide (numI (takeF 4 c).1 ≤ 268435455))).2)
def itemZ : ItemD := ⟨noteZ, 0, false, [], []⟩
def endI (b : Bytes) (nt : NoteD) (q : Int) (rt : Bool) (ids : List Int) (c : CurD) (f : Bool) : ItemD × Int :=
  if (ctextF c).2.short = true ∨ f = false ∨ (itlayF ⟨nt, q, rt, ids, (ctextF c).1⟩ == b) = false then (itemZ, 190) else (⟨nt, q, rt, ids, (ctextF c).1⟩, 0)
def itC (n : NoteD) (q : Int) (rt : Bool) (ids : AVal) (sh : Bytes) : List AVal := [.str n.topic, .lst false (n.payload.map byteV), .int .i64 n.qos, .bool n.retain, .str n.sender, .int .i64 n.expires, .lst false (n.props.map propV), .int .i64 n.origin, .int .i64 n.number, .int .i64 n.hops, .int .i64 q, .bool rt, ids, .str sh]
def itZ : List AVal := [.str [], .lst true [], .int .i64 0, .bool false, .str [], .int .i64 0, .lst true [], .int .i64 0, .int .i64 0, .int .i64 0, .int .i64 0, .bool false, .lst true [], .str []]
def itR (x : ItemD × Int) : AVal × AHeap := if x.2 = 0 then (.tup [.agg (itC x.1.note x.1.qos x.1.retain (growV (x.1.ids.map (AVal.int .i64))) x.1.share), .int .i64 0], growH 1 (x.1.ids.map (AVal.int .i64))) else (.tup [.agg itZ, .int .i64 x.2], [])
theorem itR_err : itR (itemZ, 190) = (.tup [.agg itZ, .int .i64 190], []) := rfl
theorem itR_ok (it : ItemD) : itR (it, 0) = (.tup [.agg (itC it.note it.qos it.retain (growV (it.ids.map (AVal.int .i64))) it.share), .int .i64 0], growH 1 (it.ids.map (AVal.int .i64))) := rfl
theorem q_nlayitS (σ : AHeap) (site own t : Nat) (it : ItemD) (h : OkItem it) (hs : σ[t]? = some (.row 0 1 (it.ids.map (AVal.int .i64)))) :
    callG E BY σ site 17 own true [.agg (itC it.note it.qos it.retain (.sl t 0 0 (it.ids.map (AVal.int .i64)).length) it.share)] = some (.lst false ((itlayF it).map byteV), σ, { rd := [t] }) := by
  have hsh : showAs σ [.agg (itC it.note it.qos it.retain (.sl t 0 0 (it.ids.map (AVal.int .i64)).length) it.share)] = some ([itemV it], [t]) := by
    simp [showAs, showA, showsA, showA1, elemsA, hs, itC, itemV, itemC, intsV, bytesV, propsV]
    exact List.take_of_length_le (by simp)
  have hp : [itemV it].all plainV = true := by simp -implicitDefEqProofs only [EVS0, EVS1, EVS2, EVS3, EVS4, EVS5, EVS6, EVS7, EVL0, EVL1, eq_self, implies_true, Bool.false_eq_true, itemV, itemC, intsV, bytesV, propsV, propV, propC]
  have hm : [itemV it].map normV = [itemV it] := by simp -implicitDefEqProofs only [EVS0, EVS1, EVS2, EVS3, EVS4, EVS5, EVS6, EVS7, EVL0, EVL1, eq_self, implies_true, Bool.false_eq_true, itemV, itemC, intsV, bytesV, propsV, propV, propC]
  have hE := q_nlayit it h
  have hb := byte0_map (itlayF it)
  have hap : apartA σ [t] (.lst false ((itlayF it).map byteV)) = true := by
    unfold apartA
    simp only [List.isEmpty_cons, Bool.not_false, Bool.true_and, byteA, byte2, byte1, hb, List.all_cons, List.all_nil, Bool.and_true, noByteT, hs, noByteL, List.all_map]
    rw [List.all_eq_true]
    intro x _
    rfl
  have hn : renL (rhoOf (freezeA σ [t]) 0 []) [itemV it] = [itemV it] := (noRefL_spec _ _ (by rfl)).1
  have hr : refsL [itemV it] = [] := (noRefL_spec (fun _ _ => none) [itemV it] (by rfl)).2
  have hb0 : BY 17 = false := by kernel_rfl
  unfold callG showIf
  rw [hb0]
  simp only [Bool.false_eq_true, if_false, hsh]
  have h0 : reach (freezeA σ [t]) 1000 (refsL [itemV it]) [] = [] := by rw [hr]; rfl
  rw [h0]
  unfold callI
  simp only [List.all_nil, if_true, hn, heapOf, hE]
  have hask : askO true 0 (some (.sl 0 0 0 (itlayF it).length, [ABlk.row 0 1 ((itlayF it).map byteV)])) = some (.lst false ((itlayF it).map byteV), []) := by
    simp [askO, resV, viewR, viewA, viewA1, elemsA, freezeA, gcA, gcIds, reach, refsL, refsV, renL, renV, heapOf]
    exact List.take_of_length_le (by simp)
  rw [List.length_nil, hask]
  simp only [backG, List.isEmpty_nil, Bool.and_self, if_true, flatA, flat2, flat1, Bool.false_eq_true, if_false, hap]
theorem q_nlayitC2 (σ : AHeap) (site own : Nat) (it : ItemD) (h : OkItem it) : callG E BY σ site 17 own true [.agg (itC it.note it.qos it.retain (.lst true (it.ids.map (AVal.int .i64))) it.share)] = some (.lst false ((itlayF it).map byteV), σ, {}) := by
  have h := q_nlayitC σ site own it h
  rw [callG_plain (by kernel_rfl) rfl] at h ⊢
  exact h
theorem q_ritE0 (b : Bytes) (hb : b.length ≤ 140737488355328) (nt : NoteD) (hnt : OkNote nt) (q : Int) (rt : Bool) (c : CurD) (hc : c.b.length ≤ 140737488355328) (f : Bool) (i n : Int) (h : ¬ i < n) :
    K_note_ReadItem_l7 0 [(42, .int .i64 i), (41, .int .i64 n), (8, .bool f), (7, .ref 0 0), (4, .ref 1 0), (2, .ref 2 0), (0, .lst false (b.map byteV))] [.var (itC nt q rt (.lst true []) []), .var [.lst false (c.b.map byteV), .bool c.short], .var itZ] = some (itR (endI b nt q rt [] c f)) := by
  have hT := fun σ site hs => q_ctextC c hc σ 1 site hs
  have hok : OkItem ⟨nt, q, rt, [], (ctextF c).1⟩ := ⟨hnt, by simp, by have := getText_len c.b; show (getTextF c.b).1.length ≤ _; omega⟩
  have hL := fun σ site own => q_nlayitC2 σ site own ⟨nt, q, rt, [], (ctextF c).1⟩ hok
  unfold itC at hL
  have hE := fun σ site own view => q_bequalC σ site own view (itlayF ⟨nt, q, rt, [], (ctextF c).1⟩) b
  have hx1 : _ → endI b nt q rt [] c f = _ := fun h => if_pos h
  have hx2 : _ → endI b nt q rt [] c f = _ := fun h => if_neg h
  simp only [List.map_nil] at hL
  clear hok
  generalize endI b nt q rt [] c f = Z at *
  generalize itlayF ⟨nt, q, rt, [], (ctextF c).1⟩ = y at *
  generalize ctextF c = R at *
  obtain ⟨sh, ⟨b2, s2⟩⟩ := R
  simp only at hT hL hE hx1 hx2 ⊢
  unfold K_note_ReadItem_l7
  cases s2
  · cases f
    · rw [hx1 (by simp), itR_err]
      unfold itC itZ
      rw [evL_eq]
      simp -implicitDefEqProofs only [EVS0, EVS1, EVS2, EVS3, EVS4, EVS5, EVS6, EVS7, EVL0, EVL1, ite_tf, ite_ft, ite_tft, ite_ftf, ite_list, ite_tt, ite_ee, ite_nt, ite_ne, eq_self, implies_true, forall_const, exI, nsite, freeAt, execI, Opd.ev, tget, tins, tput, keepL, sitesOf, List.sum_cons, List.sum_nil, Nat.reduceAdd, Nat.reduceSub, Nat.reduceLT, Nat.reduceLeDiff, Nat.reduceEqDiff, Nat.reduceBEq, Nat.reduceMul, beq_self_eq_true, Bool.false_eq_true, ldA, stA, partA, faddrA, setAt, binA, arithA, shiftA, strA, unA, gSpan, gSkip, unG, ne_eq, Option.some.injEq, reduceCtorEq, decide_true, decide_false, elemsA, resA, resAll, resOne, enterA, decide_eq_true_eq, Bool.not_eq_true, Bool.decide_eq_true, ite_self, ↓reduceIte, noRefL, clrA, gcT, gcA, gcIds, reach, rhoOf, heapOf, idxA, genB, newGen, renB, refsB, List.contains_cons, List.range_succ, cb_note_ReadItem, b_note_ReadItem, cr_note_ReadItem, x_note_ReadItem_k0, d_note_ReadItem_k0, x_note_ReadItem_l7, d_note_ReadItem_l7, oI, oN, intsV, bytesV, propsV, propV, propC, bytesOf_map, h, hT, fillA, setAt, AVal.cells, faddrA]
      try (simp [outA, gcA, gcIds, reach, refsL, refsV, rhoOf, heapOf, idxA, genB, newGen, renL, renV, renB, refsB, List.range_succ])
    · cases he : (y == b) <;> rw [he] at hE
      · rw [hx1 (Or.inr (Or.inr he)), itR_err]
        unfold itC itZ
        rw [evL_eq]
        simp -implicitDefEqProofs only [EVS0, EVS1, EVS2, EVS3, EVS4, EVS5, EVS6, EVS7, EVL0, EVL1, ite_tf, ite_ft, ite_tft, ite_ftf, ite_list, ite_tt, ite_ee, ite_nt, ite_ne, eq_self, implies_true, forall_const, exI, nsite, freeAt, execI, Opd.ev, tget, tins, tput, keepL, sitesOf, List.sum_cons, List.sum_nil, Nat.reduceAdd, Nat.reduceSub, Nat.reduceLT, Nat.reduceLeDiff, Nat.reduceEqDiff, Nat.reduceBEq, Nat.reduceMul, beq_self_eq_true, Bool.false_eq_true, ldA, stA, partA, faddrA, setAt, binA, arithA, shiftA, strA, unA, gSpan, gSkip, unG, ne_eq, Option.some.injEq, reduceCtorEq, decide_true, decide_false, elemsA, resA, resAll, resOne, enterA, decide_eq_true_eq, Bool.not_eq_true, Bool.decide_eq_true, ite_self, ↓reduceIte, noRefL, clrA, gcT, gcA, gcIds, reach, rhoOf, heapOf, idxA, genB, newGen, renB, refsB, List.contains_cons, List.range_succ, cb_note_ReadItem, b_note_ReadItem, cr_note_ReadItem, x_note_ReadItem_k0, d_note_ReadItem_k0, x_note_ReadItem_l7, d_note_ReadItem_l7, oI, oN, intsV, bytesV, propsV, propV, propC, bytesOf_map, h, hT, hL, hE, fillA, setAt, AVal.cells, faddrA]
        try (simp [outA, gcA, gcIds, reach, refsL, refsV, rhoOf, heapOf, idxA, genB, newGen, renL, renV, renB, refsB, List.range_succ])
      · rw [hx2 (by simp [he]), itR_ok]
        simp only [List.map_nil, growV_nil, growH_nil]
        unfold itC itZ
        rw [evL_eq]
        simp -implicitDefEqProofs only [EVS0, EVS1, EVS2, EVS3, EVS4, EVS5, EVS6, EVS7, EVL0, EVL1, ite_tf, ite_ft, ite_tft, ite_ftf, ite_list, ite_tt, ite_ee, ite_nt, ite_ne, eq_self, implies_true, forall_const, exI, nsite, freeAt, execI, Opd.ev, tget, tins, tput, keepL, sitesOf, List.sum_cons, List.sum_nil, Nat.reduceAdd, Nat.reduceSub, Nat.reduceLT, Nat.reduceLeDiff, Nat.reduceEqDiff, Nat.reduceBEq, Nat.reduceMul, beq_self_eq_true, Bool.false_eq_true, ldA, stA, partA, faddrA, setAt, binA, arithA, shiftA, strA, unA, gSpan, gSkip, unG, ne_eq, Option.some.injEq, reduceCtorEq, decide_true, decide_false, elemsA, resA, resAll, resOne, enterA, decide_eq_true_eq, Bool.not_eq_true, Bool.decide_eq_true, ite_self, ↓reduceIte, noRefL, clrA, gcT, gcA, gcIds, reach, rhoOf, heapOf, idxA, genB, newGen, renB, refsB, List.contains_cons, List.range_succ, cb_note_ReadItem, b_note_ReadItem, cr_note_ReadItem, x_note_ReadItem_k0, d_note_ReadItem_k0, x_note_ReadItem_l7, d_note_ReadItem_l7, oI, oN, intsV, bytesV, propsV, propV, propC, bytesOf_map, h, hT, hL, hE, fillA, setAt, AVal.cells, faddrA]
        try (simp [outA, gcA, gcIds, reach, refsL, refsV, rhoOf, heapOf, idxA, genB, newGen, renL, renV, renB, refsB, List.range_succ])
  · rw [hx1 (by simp), itR_err]
    unfold itC itZ
    rw [evL_eq]
    simp -implicitDefEqProofs only [EVS0, EVS1, EVS2, EVS3, EVS4, EVS5, EVS6, EVS7, EVL0, EVL1, ite_tf, ite_ft, ite_tft, ite_ftf, ite_list, ite_tt, ite_ee, ite_nt, ite_ne, eq_self, implies_true, forall_const, exI, nsite, freeAt, execI, Opd.ev, tget, tins, tput, keepL, sitesOf, List.sum_cons, List.sum_nil, Nat.reduceAdd, Nat.reduceSub, Nat.reduceLT, Nat.reduceLeDiff, Nat.reduceEqDiff, Nat.reduceBEq, Nat.reduceMul, beq_self_eq_true, Bool.false_eq_true, ldA, stA, partA, faddrA, setAt, binA, arithA, shiftA, strA, unA, gSpan, gSkip, unG, ne_eq, Option.some.injEq, reduceCtorEq, decide_true, decide_false, elemsA, resA, resAll, resOne, enterA, decide_eq_true_eq, Bool.not_eq_true, Bool.decide_eq_true, ite_self, ↓reduceIte, noRefL, clrA, gcT, gcA, gcIds, reach, rhoOf, heapOf, idxA, genB, newGen, renB, refsB, List.contains_cons, List.range_succ, cb_note_ReadItem, b_note_ReadItem, cr_note_ReadItem, x_note_ReadItem_k0, d_note_ReadItem_k0, x_note_ReadItem_l7, d_note_ReadItem_l7, oI, oN, intsV, bytesV, propsV, propV, propC, bytesOf_map, h, hT, fillA, setAt, AVal.cells, faddrA]
    try (simp [outA, gcA, gcIds, reach, refsL, refsV, rhoOf, heapOf, idxA, genB, newGen, renL, renV, renB, refsB, List.range_succ])
theorem q_ritE1 (b : Bytes) (hb : b.length ≤ 140737488355328) (nt : NoteD) (hnt : OkNote nt) (q : Int) (rt : Bool) (ids : List Int) (h0 : 0 < ids.length) (hi : ids.length ≤ 1000000) (c : CurD) (hc : c.b.length ≤ 140737488355328) (f : Bool) (i n : Int) (h : ¬ i < n) :
    K_note_ReadItem_l7 0 [(42, .int .i64 i), (41, .int .i64 n), (8, .bool f), (7, .ref 0 0), (4, .ref 2 0), (2, .ref 3 0), (0, .lst false (b.map byteV))] [.var (itC nt q rt (.sl 1 0 0 (ids.map (AVal.int .i64)).length) []), .row 0 1 (ids.map (AVal.int .i64)), .var [.lst false (c.b.map byteV), .bool c.short], .var itZ] = some (itR (endI b nt q rt ids c f)) := by
  have hT := fun σ site hs => q_ctextC c hc σ 2 site hs
  have hok : OkItem ⟨nt, q, rt, ids, (ctextF c).1⟩ := ⟨hnt, hi, by have := getText_len c.b; show (getTextF c.b).1.length ≤ _; omega⟩
  have hL := fun σ site own hs => q_nlayitS σ site own 1 ⟨nt, q, rt, ids, (ctextF c).1⟩ hok hs
  have hE := fun σ site own view => q_bequalC σ site own view (itlayF ⟨nt, q, rt, ids, (ctextF c).1⟩) b
  have hx1 : _ → endI b nt q rt ids c f = _ := fun h => if_pos h
  have hx2 : _ → endI b nt q rt ids c f = _ := fun h => if_neg h
  unfold itC at hL
  clear hok
  generalize endI b nt q rt ids c f = Z at *
  generalize itlayF ⟨nt, q, rt, ids, (ctextF c).1⟩ = y at *
  generalize ctextF c = R at *
  obtain ⟨sh, ⟨b2, s2⟩⟩ := R
  simp only at hT hL hE hx1 hx2 ⊢
  have hXp : 0 < (ids.map (AVal.int .i64)).length := by simpa using h0
  generalize hX : ids.map (AVal.int .i64) = X at *
  unfold K_note_ReadItem_l7
  cases s2
  · cases f
    · rw [hx1 (by simp), itR_err]
      unfold itC itZ
      rw [evL_eq]
      simp -implicitDefEqProofs only [EVS0, EVS1, EVS2, EVS3, EVS4, EVS5, EVS6, EVS7, EVL0, EVL1, ite_tf, ite_ft, ite_tft, ite_ftf, ite_list, ite_tt, ite_ee, ite_nt, ite_ne, eq_self, implies_true, forall_const, exI, nsite, freeAt, execI, Opd.ev, tget, tins, tput, keepL, sitesOf, List.sum_cons, List.sum_nil, Nat.reduceAdd, Nat.reduceSub, Nat.reduceLT, Nat.reduceLeDiff, Nat.reduceEqDiff, Nat.reduceBEq, Nat.reduceMul, beq_self_eq_true, Bool.false_eq_true, ldA, stA, partA, faddrA, setAt, binA, arithA, shiftA, strA, unA, gSpan, gSkip, unG, ne_eq, Option.some.injEq, reduceCtorEq, decide_true, decide_false, elemsA, resA, resAll, resOne, enterA, decide_eq_true_eq, Bool.not_eq_true, Bool.decide_eq_true, ite_self, ↓reduceIte, noRefL, clrA, gcT, gcA, gcIds, reach, rhoOf, heapOf, idxA, genB, newGen, renB, refsB, List.contains_cons, List.range_succ, cb_note_ReadItem, b_note_ReadItem, cr_note_ReadItem, x_note_ReadItem_k0, d_note_ReadItem_k0, x_note_ReadItem_l7, d_note_ReadItem_l7, oI, oN, intsV, bytesV, propsV, propV, propC, bytesOf_map, h, hT, fillA, setAt, AVal.cells, faddrA]
      try (simp [outA, gcA, gcIds, reach, refsL, refsV, rhoOf, heapOf, idxA, genB, newGen, renL, renV, renB, refsB, List.range_succ])
    · cases he : (y == b) <;> rw [he] at hE
      · rw [hx1 (Or.inr (Or.inr he)), itR_err]
        unfold itC itZ
        rw [evL_eq]
        simp -implicitDefEqProofs only [EVS0, EVS1, EVS2, EVS3, EVS4, EVS5, EVS6, EVS7, EVL0, EVL1, ite_tf, ite_ft, ite_tft, ite_ftf, ite_list, ite_tt, ite_ee, ite_nt, ite_ne, eq_self, implies_true, forall_const, exI, nsite, freeAt, execI, Opd.ev, tget, tins, tput, keepL, sitesOf, List.sum_cons, List.sum_nil, Nat.reduceAdd, Nat.reduceSub, Nat.reduceLT, Nat.reduceLeDiff, Nat.reduceEqDiff, Nat.reduceBEq, Nat.reduceMul, beq_self_eq_true, Bool.false_eq_true, ldA, stA, partA, faddrA, setAt, binA, arithA, shiftA, strA, unA, gSpan, gSkip, unG, ne_eq, Option.some.injEq, reduceCtorEq, decide_true, decide_false, elemsA, resA, resAll, resOne, enterA, decide_eq_true_eq, Bool.not_eq_true, Bool.decide_eq_true, ite_self, ↓reduceIte, noRefL, clrA, gcT, gcA, gcIds, reach, rhoOf, heapOf, idxA, genB, newGen, renB, refsB, List.contains_cons, List.range_succ, cb_note_ReadItem, b_note_ReadItem, cr_note_ReadItem, x_note_ReadItem_k0, d_note_ReadItem_k0, x_note_ReadItem_l7, d_note_ReadItem_l7, oI, oN, intsV, bytesV, propsV, propV, propC, bytesOf_map, h, hT, hL, hE, fillA, setAt, AVal.cells, faddrA]
        try (simp [outA, gcA, gcIds, reach, refsL, refsV, rhoOf, heapOf, idxA, genB, newGen, renL, renV, renB, refsB, List.range_succ])
      · rw [hx2 (by simp [he]), itR_ok]
        simp only [hX, growV_ne hXp, growH_ne hXp]
        unfold itC itZ
        rw [evL_eq]
        simp -implicitDefEqProofs only [EVS0, EVS1, EVS2, EVS3, EVS4, EVS5, EVS6, EVS7, EVL0, EVL1, ite_tf, ite_ft, ite_tft, ite_ftf, ite_list, ite_tt, ite_ee, ite_nt, ite_ne, eq_self, implies_true, forall_const, exI, nsite, freeAt, execI, Opd.ev, tget, tins, tput, keepL, sitesOf, List.sum_cons, List.sum_nil, Nat.reduceAdd, Nat.reduceSub, Nat.reduceLT, Nat.reduceLeDiff, Nat.reduceEqDiff, Nat.reduceBEq, Nat.reduceMul, beq_self_eq_true, Bool.false_eq_true, ldA, stA, partA, faddrA, setAt, binA, arithA, shiftA, strA, unA, gSpan, gSkip, unG, ne_eq, Option.some.injEq, reduceCtorEq, decide_true, decide_false, elemsA, resA, resAll, resOne, enterA, decide_eq_true_eq, Bool.not_eq_true, Bool.decide_eq_true, ite_self, ↓reduceIte, noRefL, clrA, gcT, gcA, gcIds, reach, rhoOf, heapOf, idxA, genB, newGen, renB, refsB, List.contains_cons, List.range_succ, cb_note_ReadItem, b_note_ReadItem, cr_note_ReadItem, x_note_ReadItem_k0, d_note_ReadItem_k0, x_note_ReadItem_l7, d_note_ReadItem_l7, oI, oN, intsV, bytesV, propsV, propV, propC, bytesOf_map, h, hT, hL, hE, fillA, setAt, AVal.cells, faddrA]
        try (simp [outA, gcA, gcIds, reach, refsL, refsV, rhoOf, heapOf, idxA, genB, newGen, renL, renV, renB, refsB, List.range_succ])
  · rw [hx1 (by simp), itR_err]
    unfold itC itZ
    rw [evL_eq]
    simp -implicitDefEqProofs only [EVS0, EVS1, EVS2, EVS3, EVS4, EVS5, EVS6, EVS7, EVL0, EVL1, ite_tf, ite_ft, ite_tft, ite_ftf, ite_list, ite_tt, ite_ee, ite_nt, ite_ne, eq_self, implies_true, forall_const, exI, nsite, freeAt, execI, Opd.ev, tget, tins, tput, keepL, sitesOf, List.sum_cons, List.sum_nil, Nat.reduceAdd, Nat.reduceSub, Nat.reduceLT, Nat.reduceLeDiff, Nat.reduceEqDiff, Nat.reduceBEq, Nat.reduceMul, beq_self_eq_true, Bool.false_eq_true, ldA, stA, partA, faddrA, setAt, binA, arithA, shiftA, strA, unA, gSpan, gSkip, unG, ne_eq, Option.some.injEq, reduceCtorEq, decide_true, decide_false, elemsA, resA, resAll, resOne, enterA, decide_eq_true_eq, Bool.not_eq_true, Bool.decide_eq_true, ite_self, ↓reduceIte, noRefL, clrA, gcT, gcA, gcIds, reach, rhoOf, heapOf, idxA, genB, newGen, renB, refsB, List.contains_cons, List.range_succ, cb_note_ReadItem, b_note_ReadItem, cr_note_ReadItem, x_note_ReadItem_k0, d_note_ReadItem_k0, x_note_ReadItem_l7, d_note_ReadItem_l7, oI, oN, intsV, bytesV, propsV, propV, propC, bytesOf_map, h, hT, fillA, setAt, AVal.cells, faddrA]
    try (simp [outA, gcA, gcIds, reach, refsL, refsV, rhoOf, heapOf, idxA, genB, newGen, renL, renV, renB, refsB, List.range_succ])
end Go.Proofs.YtmlkhhidifjjfaaDoor
namespace Go.Proofs.YtmlkhhidifjjfaaDoor
set_option linter.unusedSimpArgs false
set_option linter.unusedVariables false
set_option maxHeartbeats 16000000
set_option maxRecDepth 10000
def andI (x k : Int) : Int := IntKind.i64.wrap (((BitVec.ofInt IntKind.i64.bits x &&& BitVec.ofInt IntKind.i64.bits k).toNat : Nat) : Int)
structure MadeD where
  topic : Bytes
  sender : Bytes
  share : Bytes
  payload : Bytes
  qos : Int
  sub : Int
  retain : Bool
  keep : Bool
  life : Int
  p : PropsD
  ids : List Int
  origin : Int
  number : Int
def mC (m : MadeD) : List AVal := [.lst false (m.topic.map byteV), .lst false (m.sender.map byteV), .lst false (m.share.map byteV), .lst false (m.payload.map byteV), .int .i64 m.qos, .int .i64 m.sub, .bool m.retain, .bool m.keep, .int .i64 m.life, .int .i64 m.p.fmt, .lst false (m.p.content.map byteV), .lst false (m.p.corr.map byteV), .lst false (m.p.users.map byteV), .lst false (m.ids.map (AVal.int .i64)), .int .i64 m.origin, .int .i64 m.number]
structure OkMade (m : MadeD) : Prop where
  topic : m.topic.length ≤ 9223372036854775807
  sender : m.sender.length ≤ 9223372036854775807
  share : m.share.length ≤ 9223372036854775807
  content : m.p.content.length ≤ 9223372036854775807
  users : m.p.users.length ≤ 9223372036854775807
  ids : m.ids.length ≤ 9223372036854775807
def oneI (x : Int) : Int := IntKind.i64.wrap (1 + andI x 16777215)
def noteM (m : MadeD) : NoteD := ⟨116 :: plainF m.topic, m.payload.take 300, withF m.qos 0 2, m.retain, plainF m.sender, if m.life > 0 then andI m.life 65535 else 0, listF m.p, andI m.origin 255, andI m.number 16777215, 0⟩
def shareM (m : MadeD) : Bytes := if (m.share.length : Int) > 0 then [36, 115, 104, 97, 114, 101, 47, 103, 47] ++ plainF m.share else []
def itemM (m : MadeD) : ItemD := ⟨noteM m, withF m.sub 0 2, m.keep, (m.ids.take 4).map oneI, shareM m⟩
def itO (it : ItemD) : AVal × AHeap := (.agg (itC it.note it.qos it.retain (growV (it.ids.map (AVal.int .i64))) it.share), growH 1 (it.ids.map (AVal.int .i64)))
def miT (i : Int) : List AVal → Tms
  | [] => [(5, .int .i64 i), (4, .ref 0 0), (2, .ref 1 0), (1, .ref 2 0)]
  | _ :: _ => [(5, .int .i64 i), (4, .ref 0 0), (2, .ref 2 0), (1, .ref 3 0)]
def miH (n : NoteD) (q : Int) (rt : Bool) (z b : ABlk) : List AVal → AHeap
  | [] => [.var (itC n q rt (.lst true []) []), z, b]
  | x :: xs => [.var (itC n q rt (.sl 1 0 0 (x :: xs).length) []), .row 0 1 (x :: xs), z, b]
theorem miT_ne (i : Int) {X : List AVal} (h : 0 < X.length) : miT i X = [(5, .int .i64 i), (4, .ref 0 0), (2, .ref 2 0), (1, .ref 3 0)] := by
  cases X with
  | nil => simp at h
  | cons x xs => rfl
theorem miH_ne (n : NoteD) (q : Int) (rt : Bool) (z b : ABlk) {X : List AVal} (h : 0 < X.length) : miH n q rt z b X = [.var (itC n q rt (.sl 1 0 0 X.length) []), .row 0 1 X, z, b] := by
  cases X with
  | nil => simp at h
  | cons x xs => rfl
theorem plainF_len (b : Bytes) : (plainF b).length ≤ 30 := by simp [plainF]; omega
theorem q_mitE (m : MadeD) (hm : OkMade m) (n : NoteD) (q : Int) (rt : Bool) (ids : List Int) (i : Int) (h : ¬ i < (m.ids.length : Int) ∨ ¬ i < 4) :
    K_tidingslaw19_Made_Item_l6 0 (miT i (ids.map (AVal.int .i64))) (miH n q rt (.var itZ) (.var (mC m)) (ids.map (AVal.int .i64))) = some (itO ⟨n, q, rt, ids, shareM m⟩) := by
  have hP := fun σ site own f => q_plainC σ site own f m.share hm.share
  have hl := plainF_len m.share
  have k1 : 9 + (plainF m.share).length ≤ 9223372036854775807 := by omega
  unfold itO shareM
  simp only
  have hh : (if i < (m.ids.length : Int) then decide (i < 4) else false) = false := by
    split
    · rename_i h1
      have : ¬ i < 4 := h.resolve_left (by simpa using h1)
      simp [this]
    · rfl
  unfold K_tidingslaw19_Made_Item_l6
  rw [evL_eq]
  cases hids : ids.map (AVal.int .i64) with
  | nil =>
    rw [growV_nil, growH_nil]
    unfold miT miH itC itZ mC
    by_cases c0 : i < (m.ids.length : Int)
    · have c1 : ¬ i < 4 := h.resolve_left (by simpa using c0)
      by_cases c2 : (m.share.length : Int) > 0
      · rw [if_pos c2]
        simp -implicitDefEqProofs only [EVS0, EVS1, EVS2, EVS3, EVS4, EVS5, EVS6, EVS7, EVL0, EVL1, ite_tf, ite_ft, ite_tft, ite_ftf, ite_list, ite_tt, ite_ee, ite_nt, ite_ne, eq_self, implies_true, forall_const, exI, nsite, freeAt, execI, Opd.ev, tget, tins, tput, keepL, sitesOf, List.sum_cons, List.sum_nil, Nat.reduceAdd, Nat.reduceSub, Nat.reduceLT, Nat.reduceLeDiff, Nat.reduceEqDiff, Nat.reduceBEq, Nat.reduceMul, beq_self_eq_true, Bool.false_eq_true, ldA, stA, partA, faddrA, setAt, binA, arithA, shiftA, strA, unA, gSpan, gSkip, unG, ne_eq, Option.some.injEq, reduceCtorEq, decide_true, decide_false, elemsA, resA, resAll, resOne, enterA, decide_eq_true_eq, Bool.not_eq_true, Bool.decide_eq_true, ite_self, ↓reduceIte, noRefL, clrA, gcT, gcA, gcIds, reach, rhoOf, heapOf, idxA, genB, newGen, renB, refsB, List.contains_cons, List.range_succ, cb_tidingslaw19_Made_Item, b_tidingslaw19_Made_Item, cr_tidingslaw19_Made_Item, x_tidingslaw19_Made_Item_k0, d_tidingslaw19_Made_Item_k0, x_tidingslaw19_Made_Item_l6, d_tidingslaw19_Made_Item_l6, oI, oN, intsV, bytesV, propsV, propV, propC, bytesOf_map, c0, c1, c2, hP, k1, fillA, setAt, AVal.cells, faddrA]
        try (simp [outA, gcA, gcIds, reach, refsL, refsV, rhoOf, heapOf, idxA, genB, newGen, renL, renV, renB, refsB, List.range_succ])
      · rw [if_neg c2]
        simp -implicitDefEqProofs only [EVS0, EVS1, EVS2, EVS3, EVS4, EVS5, EVS6, EVS7, EVL0, EVL1, ite_tf, ite_ft, ite_tft, ite_ftf, ite_list, ite_tt, ite_ee, ite_nt, ite_ne, eq_self, implies_true, forall_const, exI, nsite, freeAt, execI, Opd.ev, tget, tins, tput, keepL, sitesOf, List.sum_cons, List.sum_nil, Nat.reduceAdd, Nat.reduceSub, Nat.reduceLT, Nat.reduceLeDiff, Nat.reduceEqDiff, Nat.reduceBEq, Nat.reduceMul, beq_self_eq_true, Bool.false_eq_true, ldA, stA, partA, faddrA, setAt, binA, arithA, shiftA, strA, unA, gSpan, gSkip, unG, ne_eq, Option.some.injEq, reduceCtorEq, decide_true, decide_false, elemsA, resA, resAll, resOne, enterA, decide_eq_true_eq, Bool.not_eq_true, Bool.decide_eq_true, ite_self, ↓reduceIte, noRefL, clrA, gcT, gcA, gcIds, reach, rhoOf, heapOf, idxA, genB, newGen, renB, refsB, List.contains_cons, List.range_succ, cb_tidingslaw19_Made_Item, b_tidingslaw19_Made_Item, cr_tidingslaw19_Made_Item, x_tidingslaw19_Made_Item_k0, d_tidingslaw19_Made_Item_k0, x_tidingslaw19_Made_Item_l6, d_tidingslaw19_Made_Item_l6, oI, oN, intsV, bytesV, propsV, propV, propC, bytesOf_map, c0, c1, c2, fillA, setAt, AVal.cells, faddrA]
        try (simp [outA, gcA, gcIds, reach, refsL, refsV, rhoOf, heapOf, idxA, genB, newGen, renL, renV, renB, refsB, List.range_succ])
    · by_cases c2 : (m.share.length : Int) > 0
      · rw [if_pos c2]
        simp -implicitDefEqProofs only [EVS0, EVS1, EVS2, EVS3, EVS4, EVS5, EVS6, EVS7, EVL0, EVL1, ite_tf, ite_ft, ite_tft, ite_ftf, ite_list, ite_tt, ite_ee, ite_nt, ite_ne, eq_self, implies_true, forall_const, exI, nsite, freeAt, execI, Opd.ev, tget, tins, tput, keepL, sitesOf, List.sum_cons, List.sum_nil, Nat.reduceAdd, Nat.reduceSub, Nat.reduceLT, Nat.reduceLeDiff, Nat.reduceEqDiff, Nat.reduceBEq, Nat.reduceMul, beq_self_eq_true, Bool.false_eq_true, ldA, stA, partA, faddrA, setAt, binA, arithA, shiftA, strA, unA, gSpan, gSkip, unG, ne_eq, Option.some.injEq, reduceCtorEq, decide_true, decide_false, elemsA, resA, resAll, resOne, enterA, decide_eq_true_eq, Bool.not_eq_true, Bool.decide_eq_true, ite_self, ↓reduceIte, noRefL, clrA, gcT, gcA, gcIds, reach, rhoOf, heapOf, idxA, genB, newGen, renB, refsB, List.contains_cons, List.range_succ, cb_tidingslaw19_Made_Item, b_tidingslaw19_Made_Item, cr_tidingslaw19_Made_Item, x_tidingslaw19_Made_Item_k0, d_tidingslaw19_Made_Item_k0, x_tidingslaw19_Made_Item_l6, d_tidingslaw19_Made_Item_l6, oI, oN, intsV, bytesV, propsV, propV, propC, bytesOf_map, c0, c2, hP, k1, fillA, setAt, AVal.cells, faddrA]
        try (simp [outA, gcA, gcIds, reach, refsL, refsV, rhoOf, heapOf, idxA, genB, newGen, renL, renV, renB, refsB, List.range_succ])
      · rw [if_neg c2]
        simp -implicitDefEqProofs only [EVS0, EVS1, EVS2, EVS3, EVS4, EVS5, EVS6, EVS7, EVL0, EVL1, ite_tf, ite_ft, ite_tft, ite_ftf, ite_list, ite_tt, ite_ee, ite_nt, ite_ne, eq_self, implies_true, forall_const, exI, nsite, freeAt, execI, Opd.ev, tget, tins, tput, keepL, sitesOf, List.sum_cons, List.sum_nil, Nat.reduceAdd, Nat.reduceSub, Nat.reduceLT, Nat.reduceLeDiff, Nat.reduceEqDiff, Nat.reduceBEq, Nat.reduceMul, beq_self_eq_true, Bool.false_eq_true, ldA, stA, partA, faddrA, setAt, binA, arithA, shiftA, strA, unA, gSpan, gSkip, unG, ne_eq, Option.some.injEq, reduceCtorEq, decide_true, decide_false, elemsA, resA, resAll, resOne, enterA, decide_eq_true_eq, Bool.not_eq_true, Bool.decide_eq_true, ite_self, ↓reduceIte, noRefL, clrA, gcT, gcA, gcIds, reach, rhoOf, heapOf, idxA, genB, newGen, renB, refsB, List.contains_cons, List.range_succ, cb_tidingslaw19_Made_Item, b_tidingslaw19_Made_Item, cr_tidingslaw19_Made_Item, x_tidingslaw19_Made_Item_k0, d_tidingslaw19_Made_Item_k0, x_tidingslaw19_Made_Item_l6, d_tidingslaw19_Made_Item_l6, oI, oN, intsV, bytesV, propsV, propV, propC, bytesOf_map, c0, c2, fillA, setAt, AVal.cells, faddrA]
        try (simp [outA, gcA, gcIds, reach, refsL, refsV, rhoOf, heapOf, idxA, genB, newGen, renL, renV, renB, refsB, List.range_succ])
  | cons x xs =>
    have hXp : 0 < (x :: xs).length := by simp
    rw [growV_ne hXp, growH_ne hXp, miT_ne _ hXp, miH_ne _ _ _ _ _ hXp]
    generalize x :: xs = X at *
    unfold itC itZ mC
    by_cases c0 : i < (m.ids.length : Int)
    · have c1 : ¬ i < 4 := h.resolve_left (by simpa using c0)
      by_cases c2 : (m.share.length : Int) > 0
      · rw [if_pos c2]
        simp -implicitDefEqProofs only [EVS0, EVS1, EVS2, EVS3, EVS4, EVS5, EVS6, EVS7, EVL0, EVL1, ite_tf, ite_ft, ite_tft, ite_ftf, ite_list, ite_tt, ite_ee, ite_nt, ite_ne, eq_self, implies_true, forall_const, exI, nsite, freeAt, execI, Opd.ev, tget, tins, tput, keepL, sitesOf, List.sum_cons, List.sum_nil, Nat.reduceAdd, Nat.reduceSub, Nat.reduceLT, Nat.reduceLeDiff, Nat.reduceEqDiff, Nat.reduceBEq, Nat.reduceMul, beq_self_eq_true, Bool.false_eq_true, ldA, stA, partA, faddrA, setAt, binA, arithA, shiftA, strA, unA, gSpan, gSkip, unG, ne_eq, Option.some.injEq, reduceCtorEq, decide_true, decide_false, elemsA, resA, resAll, resOne, enterA, decide_eq_true_eq, Bool.not_eq_true, Bool.decide_eq_true, ite_self, ↓reduceIte, noRefL, clrA, gcT, gcA, gcIds, reach, rhoOf, heapOf, idxA, genB, newGen, renB, refsB, List.contains_cons, List.range_succ, cb_tidingslaw19_Made_Item, b_tidingslaw19_Made_Item, cr_tidingslaw19_Made_Item, x_tidingslaw19_Made_Item_k0, d_tidingslaw19_Made_Item_k0, x_tidingslaw19_Made_Item_l6, d_tidingslaw19_Made_Item_l6, oI, oN, intsV, bytesV, propsV, propV, propC, bytesOf_map, c0, c1, c2, hP, k1, fillA, setAt, AVal.cells, faddrA]
        try (simp [outA, gcA, gcIds, reach, refsL, refsV, rhoOf, heapOf, idxA, genB, newGen, renL, renV, renB, refsB, List.range_succ])
      · rw [if_neg c2]
        simp -implicitDefEqProofs only [EVS0, EVS1, EVS2, EVS3, EVS4, EVS5, EVS6, EVS7, EVL0, EVL1, ite_tf, ite_ft, ite_tft, ite_ftf, ite_list, ite_tt, ite_ee, ite_nt, ite_ne, eq_self, implies_true, forall_const, exI, nsite, freeAt, execI, Opd.ev, tget, tins, tput, keepL, sitesOf, List.sum_cons, List.sum_nil, Nat.reduceAdd, Nat.reduceSub, Nat.reduceLT, Nat.reduceLeDiff, Nat.reduceEqDiff, Nat.reduceBEq, Nat.reduceMul, beq_self_eq_true, Bool.false_eq_true, ldA, stA, partA, faddrA, setAt, binA, arithA, shiftA, strA, unA, gSpan, gSkip, unG, ne_eq, Option.some.injEq, reduceCtorEq, decide_true, decide_false, elemsA, resA, resAll, resOne, enterA, decide_eq_true_eq, Bool.not_eq_true, Bool.decide_eq_true, ite_self, ↓reduceIte, noRefL, clrA, gcT, gcA, gcIds, reach, rhoOf, heapOf, idxA, genB, newGen, renB, refsB, List.contains_cons, List.range_succ, cb_tidingslaw19_Made_Item, b_tidingslaw19_Made_Item, cr_tidingslaw19_Made_Item, x_tidingslaw19_Made_Item_k0, d_tidingslaw19_Made_Item_k0, x_tidingslaw19_Made_Item_l6, d_tidingslaw19_Made_Item_l6, oI, oN, intsV, bytesV, propsV, propV, propC, bytesOf_map, c0, c1, c2, fillA, setAt, AVal.cells, faddrA]
        try (simp [outA, gcA, gcIds, reach, refsL, refsV, rhoOf, heapOf, idxA, genB, newGen, renL, renV, renB, refsB, List.range_succ])
    · by_cases c2 : (m.share.length : Int) > 0
      · rw [if_pos c2]
        simp -implicitDefEqProofs only [EVS0, EVS1, EVS2, EVS3, EVS4, EVS5, EVS6, EVS7, EVL0, EVL1, ite_tf, ite_ft, ite_tft, ite_ftf, ite_list, ite_tt, ite_ee, ite_nt, ite_ne, eq_self, implies_true, forall_const, exI, nsite, freeAt, execI, Opd.ev, tget, tins, tput, keepL, sitesOf, List.sum_cons, List.sum_nil, Nat.reduceAdd, Nat.reduceSub, Nat.reduceLT, Nat.reduceLeDiff, Nat.reduceEqDiff, Nat.reduceBEq, Nat.reduceMul, beq_self_eq_true, Bool.false_eq_true, ldA, stA, partA, faddrA, setAt, binA, arithA, shiftA, strA, unA, gSpan, gSkip, unG, ne_eq, Option.some.injEq, reduceCtorEq, decide_true, decide_false, elemsA, resA, resAll, resOne, enterA, decide_eq_true_eq, Bool.not_eq_true, Bool.decide_eq_true, ite_self, ↓reduceIte, noRefL, clrA, gcT, gcA, gcIds, reach, rhoOf, heapOf, idxA, genB, newGen, renB, refsB, List.contains_cons, List.range_succ, cb_tidingslaw19_Made_Item, b_tidingslaw19_Made_Item, cr_tidingslaw19_Made_Item, x_tidingslaw19_Made_Item_k0, d_tidingslaw19_Made_Item_k0, x_tidingslaw19_Made_Item_l6, d_tidingslaw19_Made_Item_l6, oI, oN, intsV, bytesV, propsV, propV, propC, bytesOf_map, c0, c2, hP, k1, fillA, setAt, AVal.cells, faddrA]
        try (simp [outA, gcA, gcIds, reach, refsL, refsV, rhoOf, heapOf, idxA, genB, newGen, renL, renV, renB, refsB, List.range_succ])
      · rw [if_neg c2]
        simp -implicitDefEqProofs only [EVS0, EVS1, EVS2, EVS3, EVS4, EVS5, EVS6, EVS7, EVL0, EVL1, ite_tf, ite_ft, ite_tft, ite_ftf, ite_list, ite_tt, ite_ee, ite_nt, ite_ne, eq_self, implies_true, forall_const, exI, nsite, freeAt, execI, Opd.ev, tget, tins, tput, keepL, sitesOf, List.sum_cons, List.sum_nil, Nat.reduceAdd, Nat.reduceSub, Nat.reduceLT, Nat.reduceLeDiff, Nat.reduceEqDiff, Nat.reduceBEq, Nat.reduceMul, beq_self_eq_true, Bool.false_eq_true, ldA, stA, partA, faddrA, setAt, binA, arithA, shiftA, strA, unA, gSpan, gSkip, unG, ne_eq, Option.some.injEq, reduceCtorEq, decide_true, decide_false, elemsA, resA, resAll, resOne, enterA, decide_eq_true_eq, Bool.not_eq_true, Bool.decide_eq_true, ite_self, ↓reduceIte, noRefL, clrA, gcT, gcA, gcIds, reach, rhoOf, heapOf, idxA, genB, newGen, renB, refsB, List.contains_cons, List.range_succ, cb_tidingslaw19_Made_Item, b_tidingslaw19_Made_Item, cr_tidingslaw19_Made_Item, x_tidingslaw19_Made_Item_k0, d_tidingslaw19_Made_Item_k0, x_tidingslaw19_Made_Item_l6, d_tidingslaw19_Made_Item_l6, oI, oN, intsV, bytesV, propsV, propV, propC, bytesOf_map, c0, c2, fillA, setAt, AVal.cells, faddrA]
        try (simp [outA, gcA, gcIds, reach, refsL, refsV, rhoOf, heapOf, idxA, genB, newGen, renL, renV, renB, refsB, List.range_succ])
theorem q_mitl (m : MadeD) (hm : OkMade m) (n : NoteD) (q : Int) (rt : Bool) : ∀ (r : List Int) (i : Nat) (ids : List Int), (m.ids.take 4).drop i = r → ids.length ≤ i → i ≤ 4 →
    K_tidingslaw19_Made_Item_l6 0 (miT i (ids.map (AVal.int .i64))) (miH n q rt (.var itZ) (.var (mC m)) (ids.map (AVal.int .i64))) = some (itO ⟨n, q, rt, ids ++ r.map oneI, shareM m⟩)
  | [], i, ids, h, ha, hi => by
    rw [List.drop_eq_nil_iff, List.length_take] at h
    rw [List.map_nil, List.append_nil]
    exact q_mitE m hm n q rt ids i (by omega)
  | x :: r, i, ids, h, ha, hi => by
    have hd := drop_at h
    have hlt : i < min 4 m.ids.length := by have := hd.2.2; rwa [List.length_take] at this
    have ih := q_mitl m hm n q rt r (i + 1) (ids ++ [oneI x]) hd.2.1 (by simp; omega) (by omega)
    have hat : m.ids[i]? = some x := by
      have := hd.1
      rw [List.getElem?_take] at this
      rw [if_pos (by omega)] at this
      exact this
    have h1 : (i : Int) < (m.ids.length : Int) := by omega
    have h2 : (i : Int) < 4 := by omega
    have e1 := iad hat (AVal.int .i64) (k := 1) rfl
    have hw : IntKind.i64.wrap ((i : Int) + 1) = ((i + 1 : Nat) : Int) := by rw [wrap_nat (by omega) (by omega)]; rfl
    have hk : kOk 1 [AVal.int .i64 (oneI x)] = true := rfl
    rw [List.append_assoc, List.singleton_append, ← List.map_cons] at ih
    generalize hR : itO ⟨n, q, rt, ids ++ (x :: r).map oneI, shareM m⟩ = R at *
    have hXl : (ids.map (AVal.int .i64)).length = ids.length := by simp
    rw [List.map_append, List.map_cons, List.map_nil] at ih
    unfold oneI andI at ih hk
    unfold K_tidingslaw19_Made_Item_l6 at ih ⊢
    rw [evL_eq]
    cases hids : ids.map (AVal.int .i64) with
    | nil =>
      rw [hids] at ih
      rw [List.nil_append] at ih
      unfold miT miH itC itZ mC at ih ⊢
      simp only [List.length_cons, List.length_nil, Nat.zero_add] at ih
      simp -implicitDefEqProofs only [EVS0, EVS1, EVS2, EVS3, EVS4, EVS5, EVS6, EVS7, EVL0, EVL1, ite_tf, ite_ft, ite_tft, ite_ftf, ite_list, ite_tt, ite_ee, ite_nt, ite_ne, eq_self, implies_true, forall_const, exI, nsite, freeAt, execI, Opd.ev, tget, tins, tput, keepL, sitesOf, List.sum_cons, List.sum_nil, Nat.reduceAdd, Nat.reduceSub, Nat.reduceLT, Nat.reduceLeDiff, Nat.reduceEqDiff, Nat.reduceBEq, Nat.reduceMul, beq_self_eq_true, Bool.false_eq_true, ldA, stA, partA, faddrA, setAt, binA, arithA, shiftA, strA, unA, gSpan, gSkip, unG, ne_eq, Option.some.injEq, reduceCtorEq, decide_true, decide_false, elemsA, resA, resAll, resOne, enterA, decide_eq_true_eq, Bool.not_eq_true, Bool.decide_eq_true, ite_self, ↓reduceIte, noRefL, clrA, gcT, gcA, gcIds, reach, rhoOf, heapOf, idxA, genB, newGen, renB, refsB, List.contains_cons, List.range_succ, cb_tidingslaw19_Made_Item, b_tidingslaw19_Made_Item, cr_tidingslaw19_Made_Item, x_tidingslaw19_Made_Item_k0, d_tidingslaw19_Made_Item_k0, x_tidingslaw19_Made_Item_l6, d_tidingslaw19_Made_Item_l6, oI, oN, intsV, bytesV, propsV, propV, propC, bytesOf_map, h1, h2, e1, hw, hk, fillA, setAt, AVal.cells, faddrA, reg_some, regC_some, chkA_cons, chkA_nil, pairFree_eq, emptyOp_eq, noWr_eq, List.getD_cons_zero, List.getD_cons_succ, isCallI, isLdI, gotOk, same1, List.lookup_cons, List.lookup_nil, appA, viewAs, viewA, viewA1, viewsA, freezeA, List.foldl_cons, List.foldl_nil, List.length_singleton, Nat.one_mul, Nat.le_refl, Nat.reduceMul, Nat.reduceLeDiff]
      exact ih
    | cons y ys =>
      rw [hids] at ih hXl
      have hXp : 0 < (y :: ys).length := by simp
      rw [miT_ne _ hXp, miH_ne _ _ _ _ _ hXp]
      have hXq : ∀ z : AVal, 0 < (y :: ys ++ [z]).length := fun z => by simp
      rw [miT_ne _ (hXq _), miH_ne _ _ _ _ _ (hXq _)] at ih
      generalize y :: ys = X at *
      have k2 : (X.length + 1) * 8 ≤ 140737488355328 := by omega
      unfold itC itZ mC at ih ⊢
      simp only [List.length_append, List.length_cons, List.length_nil, Nat.zero_add] at ih
      simp -implicitDefEqProofs only [EVS0, EVS1, EVS2, EVS3, EVS4, EVS5, EVS6, EVS7, EVL0, EVL1, ite_tf, ite_ft, ite_tft, ite_ftf, ite_list, ite_tt, ite_ee, ite_nt, ite_ne, eq_self, implies_true, forall_const, exI, nsite, freeAt, execI, Opd.ev, tget, tins, tput, keepL, sitesOf, List.sum_cons, List.sum_nil, Nat.reduceAdd, Nat.reduceSub, Nat.reduceLT, Nat.reduceLeDiff, Nat.reduceEqDiff, Nat.reduceBEq, Nat.reduceMul, beq_self_eq_true, Bool.false_eq_true, ldA, stA, partA, faddrA, setAt, binA, arithA, shiftA, strA, unA, gSpan, gSkip, unG, ne_eq, Option.some.injEq, reduceCtorEq, decide_true, decide_false, elemsA, resA, resAll, resOne, enterA, decide_eq_true_eq, Bool.not_eq_true, Bool.decide_eq_true, ite_self, ↓reduceIte, noRefL, clrA, gcT, gcA, gcIds, reach, rhoOf, heapOf, idxA, genB, newGen, renB, refsB, List.contains_cons, List.range_succ, cb_tidingslaw19_Made_Item, b_tidingslaw19_Made_Item, cr_tidingslaw19_Made_Item, x_tidingslaw19_Made_Item_k0, d_tidingslaw19_Made_Item_k0, x_tidingslaw19_Made_Item_l6, d_tidingslaw19_Made_Item_l6, oI, oN, intsV, bytesV, propsV, propV, propC, bytesOf_map, h1, h2, e1, hw, hk, k2, fillA, setAt, AVal.cells, faddrA, reg_some, regC_some, chkA_cons, chkA_nil, pairFree_eq, emptyOp_eq, noWr_eq, List.getD_cons_zero, List.getD_cons_succ, isCallI, isLdI, gotOk, same1, List.lookup_cons, List.lookup_nil, appA, viewAs, viewA, viewA1, viewsA, freezeA, List.foldl_cons, List.foldl_nil, List.length_singleton, Nat.one_mul, Nat.le_refl]
      exact ih
theorem q_made (m : MadeD) (hm : OkMade m) : E 12 [.agg (mC m)] [] = some (itO (itemM m)) := by
  have key := q_mitl m hm (noteM m) (withF m.sub 0 2) m.keep (m.ids.take 4) 0 [] rfl (Nat.le_refl _) (by omega)
  rw [List.nil_append] at key
  rw [show itemM m = ⟨noteM m, withF m.sub 0 2, m.keep, (m.ids.take 4).map oneI, shareM m⟩ from rfl]
  generalize hR : itO ⟨noteM m, withF m.sub 0 2, m.keep, (m.ids.take 4).map oneI, shareM m⟩ = R at *
  have h1 := fun σ site own f => q_plainC σ site own f m.topic hm.topic
  have h2 := fun σ site own => q_kcutC σ site own true m.payload 300 (by omega)
  have h3 := fun σ site own => q_within2C σ site own true m.qos
  have h4 := fun σ site own f => q_plainC σ site own f m.sender hm.sender
  have h5 := fun σ site own => q_listC σ site own m.p hm.content hm.users
  have h6 := fun σ site own => q_within2C σ site own true m.sub
  have z0 : ((0 : Nat) : Int) = 0 := rfl
  have z300 : (300 : Int).toNat = 300 := rfl
  rw [z300] at h2
  have hl := plainF_len m.topic
  have k1 : 1 + (plainF m.topic).length ≤ 9223372036854775807 := by omega
  rw [z0] at key
  simp only [List.map_nil] at key
  unfold miT miH noteM andI at key
  unfold itC itZ mC at key
  unfold mC
  unfold K_tidingslaw19_Made_Item_l6 at key
  generalize plainF m.topic = U1 at *
  generalize plainF m.sender = U2 at *
  generalize m.payload.take 300 = U3 at *
  generalize listF m.p = U4 at *
  generalize withF m.qos 0 2 = U5 at *
  generalize withF m.sub 0 2 = U6 at *
  rw [E_eq (by rfl) cf_tidingslaw19_Made_Item]
  by_cases c : m.life > 0
  · simp only [c, if_true] at key
    simp -implicitDefEqProofs only [EVS0, EVS1, EVS2, EVS3, EVS4, EVS5, EVS6, EVS7, EVL0, EVL1, ite_tf, ite_ft, ite_tft, ite_ftf, ite_list, ite_tt, ite_ee, ite_nt, ite_ne, eq_self, implies_true, forall_const, exI, nsite, freeAt, execI, Opd.ev, tget, tins, tput, keepL, sitesOf, List.sum_cons, List.sum_nil, Nat.reduceAdd, Nat.reduceSub, Nat.reduceLT, Nat.reduceLeDiff, Nat.reduceEqDiff, Nat.reduceBEq, Nat.reduceMul, beq_self_eq_true, Bool.false_eq_true, ldA, stA, partA, faddrA, setAt, binA, arithA, shiftA, strA, unA, gSpan, gSkip, unG, ne_eq, Option.some.injEq, reduceCtorEq, decide_true, decide_false, elemsA, resA, resAll, resOne, enterA, decide_eq_true_eq, Bool.not_eq_true, Bool.decide_eq_true, ite_self, ↓reduceIte, noRefL, clrA, gcT, gcA, gcIds, reach, rhoOf, heapOf, idxA, genB, newGen, renB, refsB, List.contains_cons, List.range_succ, cb_tidingslaw19_Made_Item, b_tidingslaw19_Made_Item, cr_tidingslaw19_Made_Item, x_tidingslaw19_Made_Item_k0, d_tidingslaw19_Made_Item_k0, x_tidingslaw19_Made_Item_l6, d_tidingslaw19_Made_Item_l6, oI, oN, intsV, bytesV, propsV, propV, propC, bytesOf_map, h1, h2, h3, h4, h5, h6, k1, c, fillA, setAt, AVal.cells, faddrA, reg_some, regC_some, chkA_cons, chkA_nil, pairFree_eq, emptyOp_eq, noWr_eq, List.getD_cons_zero, List.getD_cons_succ, isCallI, isLdI, gotOk, same1, List.lookup_cons, List.lookup_nil, appA, viewAs, viewA, viewA1, viewsA, freezeA, List.foldl_cons, List.foldl_nil, List.length_singleton, Nat.one_mul, Nat.le_refl]
    exact key
  · simp only [c, if_false] at key
    simp -implicitDefEqProofs only [EVS0, EVS1, EVS2, EVS3, EVS4, EVS5, EVS6, EVS7, EVL0, EVL1, ite_tf, ite_ft, ite_tft, ite_ftf, ite_list, ite_tt, ite_ee, ite_nt, ite_ne, eq_self, implies_true, forall_const, exI, nsite, freeAt, execI, Opd.ev, tget, tins, tput, keepL, sitesOf, List.sum_cons, List.sum_nil, Nat.reduceAdd, Nat.reduceSub, Nat.reduceLT, Nat.reduceLeDiff, Nat.reduceEqDiff, Nat.reduceBEq, Nat.reduceMul, beq_self_eq_true, Bool.false_eq_true, ldA, stA, partA, faddrA, setAt, binA, arithA, shiftA, strA, unA, gSpan, gSkip, unG, ne_eq, Option.some.injEq, reduceCtorEq, decide_true, decide_false, elemsA, resA, resAll, resOne, enterA, decide_eq_true_eq, Bool.not_eq_true, Bool.decide_eq_true, ite_self, ↓reduceIte, noRefL, clrA, gcT, gcA, gcIds, reach, rhoOf, heapOf, idxA, genB, newGen, renB, refsB, List.contains_cons, List.range_succ, cb_tidingslaw19_Made_Item, b_tidingslaw19_Made_Item, cr_tidingslaw19_Made_Item, x_tidingslaw19_Made_Item_k0, d_tidingslaw19_Made_Item_k0, x_tidingslaw19_Made_Item_l6, d_tidingslaw19_Made_Item_l6, oI, oN, intsV, bytesV, propsV, propV, propC, bytesOf_map, h1, h2, h3, h4, h5, h6, k1, c, fillA, setAt, AVal.cells, faddrA, reg_some, regC_some, chkA_cons, chkA_nil, pairFree_eq, emptyOp_eq, noWr_eq, List.getD_cons_zero, List.getD_cons_succ, isCallI, isLdI, gotOk, same1, List.lookup_cons, List.lookup_nil, appA, viewAs, viewA, viewA1, viewsA, freezeA, List.foldl_cons, List.foldl_nil, List.length_singleton, Nat.one_mul, Nat.le_refl]
    exact key
end Go.Proofs.YtmlkhhidifjjfaaDoor
