/- The evaluation lemmas in packs. Printed by a program. Calls: plain arguments, whether own rows are handed as such or not; arguments whose own rows are shown. A number among others: the reference's among. Of which kind a property is, and where it may stand: prop.of, Kind, May; the reference's. Printed by a program. The code of functions as the interpreter reads it: Octet. Printed by a program. Numbers and texts as bytes: what is said of them, in plain Lean. Numbers laid as bytes, and read: octet.Put, Get; the reference's. Bytes one behind the other, numbers in base 128: octet.Join, Var, GetVar; the reference's. Numbers in base 128, read: octet.GetVar, the reference's. Texts: whether bytes are a text. Texts and data with their lengths ahead: octet.Data, Text, GetData, GetText; the reference's. Texts and data with their lengths ahead, read: octet.GetData, GetText; the reference's. A property's value, read: prop.value, the reference's. A property's value, read by the reference. prop.Find, the reference's. One property, read behind others: prop.often, fits, one; the reference's number. One property, read behind others: prop.one. prop.Read. The code of functions as the interpreter reads it: Keep. Printed by a program. tidingskeep: Cut, Within. Items out of plain things: law 19's plain, Props.list. The code of functions as the interpreter reads it: Slices. Printed by a program. -/
import Derived.Test.YtmlkhhidifjjfaaDoorMq2
import Derived.Lib.TrimUEq
import Derived.Lib.MapLaws
import Derived.Lib.ValidLaws
namespace Go.Proofs.YtmlkhhidifjjfaaDoor
set_option linter.unusedSimpArgs false
set_option linter.unusedVariables false
set_option linter.defProp false
def EVS0 := (And.intro (And.intro (And.intro (And.intro (And.intro (And.intro @x_seq @x_cond) (And.intro @evC_block @evC_region)) (And.intro (And.intro @evC_skip @evC_exit) (And.intro @evC_ret @reg_none))) (And.intro (And.intro (And.intro @runN_nil @runN_cons) (And.intro @runN_guard @kN_some)) (And.intro (And.intro @kN_pan @kN_none) (And.intro @isPan_ite @seqX_n)))) (And.intro (And.intro (And.intro (And.intro @seqX_e @seqX_r) (And.intro @seqX_p @condX_b)) (And.intro (And.intro @block_n @block_e) (And.intro @block_r @block_p))) (And.intro (And.intro (And.intro @pickX_b @gRun_eq) (And.intro @gW_bool @gW_off)) (And.intro (And.intro @gK_some @bytesOf_map) (And.intro @ite_exn @ite_exr))))) (And.intro (And.intro (And.intro (And.intro (And.intro @ite_exg @ite_slot) (And.intro @ite_val @ite_vcl)) (And.intro (And.intro @seqX_ite @block_ite) (And.intro @fin_ite @evM_ite))) (And.intro (And.intro (And.intro @evM_e @evM_r) (And.intro @evM_p @reg_some)) (And.intro (And.intro @C_nil @C_cons) (And.intro @C_guard @consC_some)))) (And.intro (And.intro (And.intro (And.intro @consC_none @consC_ite) (And.intro @appC_some @appC_none)) (And.intro (And.intro @appC_ite @kC_some) (And.intro @kC_pan @kC_none))) (And.intro (And.intro (And.intro @kC_ite @regC_quiet) (And.intro @regC_none @regC_ite)) (And.intro (And.intro @gKC_some @gKC_ite) (And.intro @gRunC_eq @gWC_bool))))))
def EVS1 := (And.intro (And.intro (And.intro (And.intro (And.intro (And.intro @gWC_off @ite_exc) (And.intro @blockA_n @blockA_e)) (And.intro (And.intro @blockA_r @blockA_p) (And.intro @chkA_nil @chkA_cons))) (And.intro (And.intro (And.intro @pairFree_eq @emptyOp_eq) (And.intro @noWr_eq @regC_some)) (And.intro (And.intro @ite_int @ite_bool) (And.intro @ite_str @ite_lst)))) (And.intro (And.intro (And.intro (And.intro @ite_agg @ite_var) (And.intro @ite_row @ite_ref)) (And.intro (And.intro @out_tree @fin_ret) (And.intro @fin_normal @fin_panic))) (And.intro (And.intro (And.intro @s_isPan_top @s_isPan_any) (And.intro @s_isPan_int @s_isPan_bool)) (And.intro (And.intro @s_isPan_str @s_isPan_nilp) (And.intro @s_isPan_ref @s_isPan_eref))))) (And.intro (And.intro (And.intro (And.intro (And.intro @s_isPan_iptr @s_isPan_lst) (And.intro @s_isPan_sl @s_isPan_agg)) (And.intro (And.intro @s_isPan_tup @s_isPan_fn) (And.intro @s_isPan_nilm @s_isPan_map))) (And.intro (And.intro (And.intro @s_isPan_nili @s_isPan_iface) (And.intro @s_isPan_pan @s_okCell_top)) (And.intro (And.intro @s_okCell_any @s_okCell_int) (And.intro @s_okCell_bool @s_okCell_str)))) (And.intro (And.intro (And.intro (And.intro @s_okCell_nilp @s_okCell_ref) (And.intro @s_okCell_eref @s_okCell_iptr)) (And.intro (And.intro @s_okCell_lst @s_okCell_sl) (And.intro @s_okCell_agg @s_okCell_tup))) (And.intro (And.intro (And.intro @s_okCell_fn @s_okCell_nilm) (And.intro @s_okCell_map @s_okCell_nili)) (And.intro (And.intro @s_okCell_iface @s_okCell_pan) (And.intro @s_ntop_top @s_ntop_any))))))
def EVS2 := (And.intro (And.intro (And.intro (And.intro (And.intro (And.intro @s_ntop_int @s_ntop_bool) (And.intro @s_ntop_str @s_ntop_nilp)) (And.intro (And.intro @s_ntop_ref @s_ntop_eref) (And.intro @s_ntop_iptr @s_ntop_lst))) (And.intro (And.intro (And.intro @s_ntop_sl @s_ntop_agg) (And.intro @s_ntop_tup @s_ntop_fn)) (And.intro (And.intro @s_ntop_nilm @s_ntop_map) (And.intro @s_ntop_nili @s_ntop_iface)))) (And.intro (And.intro (And.intro (And.intro @s_ntop_pan @s_flat1_top) (And.intro @s_flat1_any @s_flat1_int)) (And.intro (And.intro @s_flat1_bool @s_flat1_str) (And.intro @s_flat1_nilp @s_flat1_ref))) (And.intro (And.intro (And.intro @s_flat1_eref @s_flat1_iptr) (And.intro @s_flat1_lst @s_flat1_sl)) (And.intro (And.intro @s_flat1_agg @s_flat1_tup) (And.intro @s_flat1_fn @s_flat1_nilm))))) (And.intro (And.intro (And.intro (And.intro (And.intro @s_flat1_map @s_flat1_nili) (And.intro @s_flat1_iface @s_flat1_pan)) (And.intro (And.intro @s_flat2_top @s_flat2_any) (And.intro @s_flat2_int @s_flat2_bool))) (And.intro (And.intro (And.intro @s_flat2_str @s_flat2_nilp) (And.intro @s_flat2_ref @s_flat2_eref)) (And.intro (And.intro @s_flat2_iptr @s_flat2_lst) (And.intro @s_flat2_sl @s_flat2_agg)))) (And.intro (And.intro (And.intro (And.intro @s_flat2_tup @s_flat2_fn) (And.intro @s_flat2_nilm @s_flat2_map)) (And.intro (And.intro @s_flat2_nili @s_flat2_iface) (And.intro @s_flat2_pan @s_flatA_top))) (And.intro (And.intro (And.intro @s_flatA_any @s_flatA_int) (And.intro @s_flatA_bool @s_flatA_str)) (And.intro (And.intro @s_flatA_nilp @s_flatA_ref) (And.intro @s_flatA_eref @s_flatA_iptr))))))
def EVS3 := (And.intro (And.intro (And.intro (And.intro (And.intro (And.intro @s_flatA_lst @s_flatA_sl) (And.intro @s_flatA_agg @s_flatA_tup)) (And.intro (And.intro @s_flatA_fn @s_flatA_nilm) (And.intro @s_flatA_map @s_flatA_nili))) (And.intro (And.intro (And.intro @s_flatA_iface @s_plain1_top) (And.intro @s_plain1_any @s_plain1_int)) (And.intro (And.intro @s_plain1_bool @s_plain1_str) (And.intro @s_plain1_nilp @s_plain1_ref)))) (And.intro (And.intro (And.intro (And.intro @s_plain1_eref @s_plain1_iptr) (And.intro @s_plain1_lst @s_plain1_sl)) (And.intro (And.intro @s_plain1_agg @s_plain1_tup) (And.intro @s_plain1_nilm @s_plain1_map))) (And.intro (And.intro (And.intro @s_plain1_nili @s_plain1_iface) (And.intro @s_plain1_pan @s_plainV_top)) (And.intro (And.intro @s_plainV_any @s_plainV_int) (And.intro @s_plainV_bool @s_plainV_str))))) (And.intro (And.intro (And.intro (And.intro (And.intro @s_plainV_nilp @s_plainV_ref) (And.intro @s_plainV_eref @s_plainV_iptr)) (And.intro (And.intro @s_plainV_lst @s_plainV_sl) (And.intro @s_plainV_agg @s_plainV_tup))) (And.intro (And.intro (And.intro @s_plainV_nilm @s_plainV_map) (And.intro @s_plainV_nili @s_plainV_iface)) (And.intro (And.intro @s_plainV_pan @s_norm1_top) (And.intro @s_norm1_any @s_norm1_int)))) (And.intro (And.intro (And.intro (And.intro @s_norm1_bool @s_norm1_str) (And.intro @s_norm1_nilp @s_norm1_ref)) (And.intro (And.intro @s_norm1_eref @s_norm1_iptr) (And.intro @s_norm1_lst @s_norm1_sl))) (And.intro (And.intro (And.intro @s_norm1_agg @s_norm1_tup) (And.intro @s_norm1_fn @s_norm1_nilm)) (And.intro (And.intro @s_norm1_map @s_norm1_nili) (And.intro @s_norm1_iface @s_norm1_pan))))))
def EVS4 := (And.intro (And.intro (And.intro (And.intro (And.intro (And.intro @s_normV_top @s_normV_any) (And.intro @s_normV_int @s_normV_bool)) (And.intro (And.intro @s_normV_str @s_normV_nilp) (And.intro @s_normV_ref @s_normV_eref))) (And.intro (And.intro (And.intro @s_normV_iptr @s_normV_lst) (And.intro @s_normV_sl @s_normV_agg)) (And.intro (And.intro @s_normV_tup @s_normV_fn) (And.intro @s_normV_nilm @s_normV_map)))) (And.intro (And.intro (And.intro (And.intro @s_normV_nili @s_normV_iface) (And.intro @s_normV_pan @s_cells_top)) (And.intro (And.intro @s_cells_any @s_cells_int) (And.intro @s_cells_bool @s_cells_str))) (And.intro (And.intro (And.intro @s_cells_nilp @s_cells_ref) (And.intro @s_cells_eref @s_cells_iptr)) (And.intro (And.intro @s_cells_lst @s_cells_sl) (And.intro @s_cells_agg @s_cells_tup))))) (And.intro (And.intro (And.intro (And.intro (And.intro @s_cells_fn @s_cells_nilm) (And.intro @s_cells_map @s_cells_nili)) (And.intro (And.intro @s_cells_iface @s_cells_pan) (And.intro @s_valOf_top @s_valOf_any))) (And.intro (And.intro (And.intro @s_valOf_int @s_valOf_bool) (And.intro @s_valOf_str @s_valOf_nilp)) (And.intro (And.intro @s_valOf_ref @s_valOf_eref) (And.intro @s_valOf_iptr @s_valOf_lst)))) (And.intro (And.intro (And.intro (And.intro @s_valOf_sl @s_valOf_agg) (And.intro @s_valOf_tup @s_valOf_fn)) (And.intro (And.intro @s_valOf_nilm @s_valOf_map) (And.intro @s_valOf_nili @s_valOf_iface))) (And.intro (And.intro (And.intro @s_valOf_pan @s_kindA_top) (And.intro @s_kindA_any @s_kindA_int)) (And.intro (And.intro @s_kindA_bool @s_kindA_str) (And.intro @s_kindA_nilp @s_kindA_ref))))))
def EVS5 := (And.intro (And.intro (And.intro (And.intro (And.intro (And.intro @s_kindA_eref @s_kindA_iptr) (And.intro @s_kindA_lst @s_kindA_sl)) (And.intro (And.intro @s_kindA_agg @s_kindA_tup) (And.intro @s_kindA_fn @s_kindA_nilm))) (And.intro (And.intro (And.intro @s_kindA_map @s_kindA_nili) (And.intro @s_kindA_iface @s_kindA_pan)) (And.intro (And.intro @s_refsV_top @s_refsV_any) (And.intro @s_refsV_int @s_refsV_bool)))) (And.intro (And.intro (And.intro (And.intro @s_refsV_str @s_refsV_nilp) (And.intro @s_refsV_ref @s_refsV_eref)) (And.intro (And.intro @s_refsV_iptr @s_refsV_lst) (And.intro @s_refsV_sl @s_refsV_agg))) (And.intro (And.intro (And.intro @s_refsV_tup @s_refsV_fn) (And.intro @s_refsV_nilm @s_refsV_map)) (And.intro (And.intro @s_refsV_nili @s_refsV_iface) (And.intro @s_refsV_pan @s_renV_top))))) (And.intro (And.intro (And.intro (And.intro (And.intro @s_renV_any @s_renV_int) (And.intro @s_renV_bool @s_renV_str)) (And.intro (And.intro @s_renV_nilp @s_renV_iptr) (And.intro @s_renV_lst @s_renV_agg))) (And.intro (And.intro (And.intro @s_renV_tup @s_renV_fn) (And.intro @s_renV_nilm @s_renV_nili)) (And.intro (And.intro @s_renV_iface @s_renV_pan) (And.intro @s_plain1_fn @s_plainV_fn)))) (And.intro (And.intro (And.intro (And.intro @s_flatA_pan @s_regN_some) (And.intro @s_regN_pan @s_regN_none)) (And.intro (And.intro @s_renV_ref @s_renV_map) (And.intro @s_renV_sl @s_renV_eref))) (And.intro (And.intro (And.intro @s_refsL_nil @s_refsL_cons) (And.intro @s_renL_nil @s_renL_cons)) (And.intro (And.intro @s_noRef_top @s_noRef_any) (And.intro @s_noRef_int @s_noRef_bool))))))
def EVS6 := (And.intro (And.intro (And.intro (And.intro (And.intro (And.intro @s_noRef_str @s_noRef_nilp) (And.intro @s_noRef_ref @s_noRef_eref)) (And.intro (And.intro @s_noRef_iptr @s_noRef_lst) (And.intro @s_noRef_sl @s_noRef_agg))) (And.intro (And.intro (And.intro @s_noRef_tup @s_noRef_fn) (And.intro @s_noRef_nilm @s_noRef_map)) (And.intro (And.intro @s_noRef_nili @s_noRef_iface) (And.intro @s_noRef_pan @s_nofn1_top)))) (And.intro (And.intro (And.intro (And.intro @s_nofn1_any @s_nofn1_int) (And.intro @s_nofn1_bool @s_nofn1_str)) (And.intro (And.intro @s_nofn1_nilp @s_nofn1_ref) (And.intro @s_nofn1_eref @s_nofn1_iptr))) (And.intro (And.intro (And.intro @s_nofn1_lst @s_nofn1_sl) (And.intro @s_nofn1_agg @s_nofn1_tup)) (And.intro (And.intro @s_nofn1_fn @s_nofn1_nilm) (And.intro @s_nofn1_map @s_nofn1_nili))))) (And.intro (And.intro (And.intro (And.intro (And.intro @s_nofn1_iface @s_nofn1_pan) (And.intro @s_nofnV_top @s_nofnV_any)) (And.intro (And.intro @s_nofnV_int @s_nofnV_bool) (And.intro @s_nofnV_str @s_nofnV_nilp))) (And.intro (And.intro (And.intro @s_nofnV_ref @s_nofnV_eref) (And.intro @s_nofnV_iptr @s_nofnV_lst)) (And.intro (And.intro @s_nofnV_sl @s_nofnV_agg) (And.intro @s_nofnV_tup @s_nofnV_fn)))) (And.intro (And.intro (And.intro (And.intro @s_nofnV_nilm @s_nofnV_map) (And.intro @s_nofnV_nili @s_nofnV_iface)) (And.intro (And.intro @s_nofnV_pan @s_nofnR_top) (And.intro @s_nofnR_any @s_nofnR_int))) (And.intro (And.intro (And.intro @s_nofnR_bool @s_nofnR_str) (And.intro @s_nofnR_nilp @s_nofnR_ref)) (And.intro (And.intro @s_nofnR_eref @s_nofnR_iptr) (And.intro @s_nofnR_lst @s_nofnR_sl))))))
def EVS7 := (And.intro (And.intro (And.intro (And.intro (And.intro @s_nofnR_agg (And.intro @s_nofnR_tup @s_nofnR_fn)) (And.intro (And.intro @s_nofnR_nilm @s_nofnR_map) (And.intro @s_nofnR_nili @s_nofnR_iface))) (And.intro (And.intro @s_nofnR_pan (And.intro @s_plainR_top @s_plainR_any)) (And.intro (And.intro @s_plainR_int @s_plainR_bool) (And.intro @s_plainR_str @s_plainR_nilp)))) (And.intro (And.intro (And.intro @s_plainR_ref (And.intro @s_plainR_eref @s_plainR_iptr)) (And.intro (And.intro @s_plainR_lst @s_plainR_sl) (And.intro @s_plainR_agg @s_plainR_tup))) (And.intro (And.intro (And.intro @s_plainR_nilm @s_plainR_map) (And.intro @s_plainR_nili @s_plainR_iface)) (And.intro (And.intro @s_plainR_pan @s_normR_top) (And.intro @s_normR_any @s_normR_int))))) (And.intro (And.intro (And.intro (And.intro @s_normR_bool (And.intro @s_normR_str @s_normR_nilp)) (And.intro (And.intro @s_normR_ref @s_normR_eref) (And.intro @s_normR_iptr @s_normR_lst))) (And.intro (And.intro (And.intro @s_normR_sl @s_normR_agg) (And.intro @s_normR_tup @s_normR_fn)) (And.intro (And.intro @s_normR_nilm @s_normR_map) (And.intro @s_normR_nili @s_normR_iface)))) (And.intro (And.intro (And.intro @s_normR_pan (And.intro @s_noRefL_nil @s_noRefL_cons)) (And.intro (And.intro @s_plainR_fn @s_if_and) (And.intro @s_if_or @s_if_nand))) (And.intro (And.intro (And.intro @s_if_nor @s_if_fand) (And.intro @s_if_for @s_if_fnand)) (And.intro (And.intro @s_if_fnor @out_one) (And.intro @evM_n @x_loop))))))
def EVL0 := (And.intro (And.intro (And.intro (And.intro (And.intro (And.intro @List.map_cons.{0, 0} @List.map_nil.{0, 0}) (And.intro @List.length_cons.{0} @List.length_nil.{0})) (And.intro (And.intro @List.replicate_zero.{0} @List.replicate_succ.{0}) (And.intro @List.append_nil.{0} @List.nil_append.{0}))) (And.intro (And.intro (And.intro @List.cons_append.{0} @List.getElem?_cons_zero.{0}) (And.intro @List.getElem?_cons_succ.{0} @List.set_cons_zero.{0})) (And.intro (And.intro @List.set_cons_succ.{0} @Nat.add_zero) (And.intro @Nat.zero_add @Bool.true_or)))) (And.intro (And.intro (And.intro (And.intro @Bool.false_or @Bool.or_true) (And.intro @Bool.or_false @Bool.and_true)) (And.intro (And.intro @Bool.true_and @Bool.and_self) (And.intro @Bool.and_false @Bool.false_and))) (And.intro (And.intro (And.intro @if_true.{1} @if_false.{1}) (And.intro @ite_true.{1} @ite_false.{1})) (And.intro (And.intro @Option.map_some.{0, 0} @Option.map_none.{0, 0}) (And.intro @and_self @and_true))))) (And.intro (And.intro (And.intro (And.intro (And.intro @true_and @and_false) (And.intro @false_and @true_or)) (And.intro (And.intro @or_true @false_or) (And.intro @or_false @not_true_eq_false))) (And.intro (And.intro (And.intro @not_false_eq_true @List.drop_zero.{0}) (And.intro @List.drop_succ_cons.{0} @List.take_succ_cons.{0})) (And.intro (And.intro @List.take_zero.{0} @List.all_cons.{0}) (And.intro @List.all_nil.{0} @List.isEmpty_nil.{0})))) (And.intro (And.intro (And.intro (And.intro @Bool.not_false @Bool.not_true) (And.intro @List.length_map.{0, 0} @Bool.bne_false)) (And.intro (And.intro @Bool.bne_true @List.isEmpty_cons.{0}) (And.intro @List.getD_cons_zero.{0} @List.getD_cons_succ.{0}))) (And.intro (And.intro (And.intro @List.getD_nil.{0} @List.contains_nil.{0}) (And.intro @List.range_zero @List.flatMap_cons.{0, 0})) (And.intro (And.intro @List.flatMap_nil.{0, 0} @List.zip_cons_cons.{0, 0}) (And.intro @List.zip_nil_left.{0, 0} @List.zip_nil_right.{0, 0}))))))
def EVL1 := @Nat.not_lt_zero
end Go.Proofs.YtmlkhhidifjjfaaDoor
namespace Go.Proofs.YtmlkhhidifjjfaaDoor
set_option linter.unusedSimpArgs false
set_option linter.unusedVariables false
theorem callG_norm {O : Oracle} {byref : Nat → Bool} {σ : AHeap} {site f own : Nat} {view : Bool} {args : List AVal} (h : args.all plainV = true) (hm : args.map normV = args) :
    callG O byref σ site f own view args = backG σ σ [] [] site own (askO view 0 (O f args [])) := by
  cases hb : byref f
  · rw [callG_plain hb h, hm]
  · have hr := normVs_refs h
    have hn := fun ρ => normVs_ren (ρ := ρ) h
    rw [hm] at hr
    simp only [hm] at hn
    unfold callG showIf
    rw [hb]
    simp only [if_true]
    have h1 : freezeA σ [] = σ := rfl
    rw [h1, hr]
    have h2 : reach σ 1000 [] [] = [] := rfl
    rw [h2]
    unfold callI
    simp only [List.all_nil, if_true, hn, heapOf, List.length_nil]
theorem call_rown {O : Oracle} {byref : Nat → Bool} {f : Nat} {args : List AVal} {k n : Nat} {xs : List AVal} (h : O f args [] = some (.sl 0 0 0 n, [.row 0 k xs])) (hn : xs.length = n) (hp : args.all plainV = true) (hm : args.map normV = args) (σ : AHeap) (site own : Nat) : callG O byref σ site f own true args = some (.lst false xs, σ, {}) := by
  rw [callG_norm hp hm, h]
  have : askO true 0 (some (.sl 0 0 0 n, [.row 0 k xs])) = some (.lst false xs, []) := by
    unfold askO
    rw [if_pos rfl, resV_row (k := k) (g := 0) (t := 0) (xs := xs) rfl (by omega), List.take_of_length_le (by omega)]
  rw [this, backG_plain _ _ _ _ rfl]
/-- own rows are shown; a plain answer -/
theorem call_shown {O : Oracle} {byref : Nat → Bool} {σ : AHeap} {f : Nat} {args vs : List AVal} {ts : List Nat} {r r' : AVal} (hb : byref f = false) (hsh : showAs σ args = some (vs, ts)) (hp : vs.all plainV = true) (hm : vs.map normV = vs) (h : O f vs [] = some (r, [])) (hv : resV 0 (some (r, [])) = some (r', [])) (site own : Nat) :
    callG O byref σ site f own true args = if flatA r' then some (r', σ, { rd := ts }) else if apartA σ ts r' then some (r', σ, { rd := ts }) else some (renV (rhoBack [] [] site) r', freezeA σ ts, { rd := ts, wr := ts }) := by
  have hr := normVs_refs hp
  have hn := fun ρ => normVs_ren (ρ := ρ) hp
  rw [hm] at hr
  simp only [hm] at hn
  unfold callG showIf
  rw [hb]
  simp only [Bool.false_eq_true, if_false, hsh]
  rw [hr]
  have h2 : ∀ σ, reach σ 1000 [] [] = [] := fun _ => rfl
  rw [h2]
  unfold callI
  simp only [List.all_nil, if_true, hn, heapOf, List.length_nil, h]
  have : askO true 0 (some (r, [])) = some (r', []) := by unfold askO; rw [if_pos rfl, hv]
  rw [this]
  simp only [backG, List.isEmpty_nil, Bool.and_self, if_true]
/-- own rows are shown that hold no bytes; an answer of plain values and bytes -/
theorem call_shown_bytes {O : Oracle} {byref : Nat → Bool} {σ : AHeap} {f : Nat} {args vs : List AVal} {ts : List Nat} {r r' : AVal} (hb : byref f = false) (hsh : showAs σ args = some (vs, ts)) (hp : vs.all plainV = true) (hm : vs.map normV = vs) (h : O f vs [] = some (r, [])) (hv : resV 0 (some (r, [])) = some (r', [])) (hap : apartA σ ts r' = true) (site own : Nat) :
    callG O byref σ site f own true args = some (r', σ, { rd := ts }) := by
  rw [call_shown hb hsh hp hm h hv, if_pos hap]
  split <;> rfl
theorem call_normT {O : Oracle} {byref : Nat → Bool} {f : Nat} {args args' : List AVal} {r r' : AVal} (h : O f args' [] = some (r, [])) (hb : byref f = false) (hp : args.all plainV = true) (hn : args.map normV = args') (hv : resV 0 (some (r, [])) = some (r', [])) (hr : ∀ site, renV (rhoBack [] [] site) r' = r') (σ : AHeap) (site own : Nat) : callG O byref σ site f own true args = some (r', σ, {}) := by
  rw [callG_plain hb hp, hn, h]
  have : askO true 0 (some (r, [])) = some (r', []) := by
    unfold askO
    rw [if_pos rfl]; exact hv
  rw [this, backG_plain _ _ _ _ (hr site)]
theorem out_row0 (k n : Nat) (xs : List AVal) (σ : AHeap) : outA 0 (.row 0 k xs :: σ) (.sl 0 0 0 n) = some (.sl 0 0 0 n, [.row 0 k xs]) := by
  simp [outA, gcA, gcIds, reach, refsL, refsV, rhoOf, heapOf, idxA, genB, newGen, renL, renV, renB, refsB]
theorem out_row1 (k n : Nat) (xs : List AVal) (σ : AHeap) : outA 0 (.row 1 k xs :: σ) (.sl 0 1 0 n) = some (.sl 0 0 0 n, [.row 0 k xs]) := by
  simp [outA, gcA, gcIds, reach, refsL, refsV, rhoOf, heapOf, idxA, genB, newGen, renL, renV, renB, refsB]
/-- a row that grows: nothing yet, or an own one -/
def growV : List AVal → AVal
  | [] => .lst true []
  | x :: xs => .sl 0 0 0 (x :: xs).length
def growH (k : Nat) : List AVal → AHeap
  | [] => []
  | x :: xs => [.row 0 k (x :: xs)]
theorem growV_nil : growV [] = .lst true [] := rfl
theorem growV_cons (x : AVal) (xs : List AVal) : growV (x :: xs) = .sl 0 0 0 (x :: xs).length := rfl
theorem growH_nil (k : Nat) : growH k [] = [] := rfl
theorem growH_cons (k : Nat) (x : AVal) (xs : List AVal) : growH k (x :: xs) = [.row 0 k (x :: xs)] := rfl
theorem view_grow {O : Oracle} {byref : Nat → Bool} {f k : Nat} {args args' : List AVal} {full : List AVal} (h : O f args' [] = some (growV full, growH k full)) (hb : byref f = false) (hp : args.all plainV = true) (hn : args.map normV = args') (σ : AHeap) (site own : Nat) : callG O byref σ site f own true args = some (.lst false full, σ, {}) := by
  cases full with
  | nil => exact call_normT h hb hp hn rfl (fun _ => rfl) σ site own
  | cons x xs =>
    rw [growV_cons, growH_cons] at h
    rw [callG_plain hb hp, hn, h]
    have : askO true 0 (some (.sl 0 0 0 (x :: xs).length, [.row 0 k (x :: xs)])) = some (.lst false (x :: xs), []) := by
      unfold askO
      rw [if_pos rfl, resV_row (k := k) (g := 0) (t := 0) (xs := x :: xs) rfl (by omega), List.take_of_length_le (by omega)]
    rw [this, backG_plain _ _ _ _ rfl]
theorem kokB (l : Bytes) : kOk 1 (l.map byteV) = true := by cases l <;> rfl
end Go.Proofs.YtmlkhhidifjjfaaDoor
namespace Go.Proofs.YtmlkhhidifjjfaaDoor
set_option linter.unusedSimpArgs false
set_option linter.unusedVariables false
set_option maxHeartbeats 4000000
set_option maxRecDepth 10000
end Go.Proofs.YtmlkhhidifjjfaaDoor
namespace Go.Proofs.YtmlkhhidifjjfaaDoor
set_option linter.unusedSimpArgs false
set_option linter.unusedVariables false
set_option maxHeartbeats 8000000
set_option maxRecDepth 10000
def propTab : List (Int × Int × Int) := [(1, 1, 65544), (2, 3, 65544), (3, 5, 65544), (8, 5, 65544), (9, 6, 65544), (11, 4, 264), (17, 3, 16390), (18, 5, 4), (26, 5, 4), (19, 2, 4), (21, 5, 32774), (22, 6, 32774), (23, 1, 2), (25, 1, 2), (24, 3, 65536), (28, 5, 16388), (31, 5, 51956), (33, 2, 6), (34, 2, 6), (35, 2, 8), (39, 3, 6), (36, 1, 4), (37, 1, 4), (40, 1, 4), (41, 1, 4), (42, 1, 4), (38, 7, -12290)]
def ofF (id : Int) : Int × Int := (propTab.lookup id).getD (0, 0)
def kindI (id : Int) : Int := (ofF id).1
def inTab (id : Int) : Prop := id = 1 ∨ id = 2 ∨ id = 3 ∨ id = 8 ∨ id = 9 ∨ id = 11 ∨ id = 17 ∨ id = 18 ∨ id = 26 ∨ id = 19 ∨ id = 21 ∨ id = 22 ∨ id = 23 ∨ id = 25 ∨ id = 24 ∨ id = 28 ∨ id = 31 ∨ id = 33 ∨ id = 34 ∨ id = 35 ∨ id = 39 ∨ id = 36 ∨ id = 37 ∨ id = 40 ∨ id = 41 ∨ id = 42 ∨ id = 38
instance (id : Int) : Decidable (inTab id) := by unfold inTab; infer_instance
theorem not_tab {id : Int} (h : ¬ inTab id) : (id == 1) = false ∧ (id == 2) = false ∧ (id == 3) = false ∧ (id == 8) = false ∧ (id == 9) = false ∧ (id == 11) = false ∧ (id == 17) = false ∧ (id == 18) = false ∧ (id == 26) = false ∧ (id == 19) = false ∧ (id == 21) = false ∧ (id == 22) = false ∧ (id == 23) = false ∧ (id == 25) = false ∧ (id == 24) = false ∧ (id == 28) = false ∧ (id == 31) = false ∧ (id == 33) = false ∧ (id == 34) = false ∧ (id == 35) = false ∧ (id == 39) = false ∧ (id == 36) = false ∧ (id == 37) = false ∧ (id == 40) = false ∧ (id == 41) = false ∧ (id == 42) = false ∧ (id == 38) = false := by
  unfold inTab at h
  simp only [not_or] at h
  simp only [beq_eq_false_iff_ne, ne_eq]
  exact h
theorem of_not {id : Int} (h : ¬ inTab id) : ofF id = (0, 0) := by
  obtain ⟨h1, h2, h3, h8, h9, h11, h17, h18, h26, h19, h21, h22, h23, h25, h24, h28, h31, h33, h34, h35, h39, h36, h37, h40, h41, h42, h38⟩ := not_tab h
  simp only [ofF, propTab, List.lookup, h1, h2, h3, h8, h9, h11, h17, h18, h26, h19, h21, h22, h23, h25, h24, h28, h31, h33, h34, h35, h39, h36, h37, h40, h41, h42, h38, Option.getD_none]
theorem q_of (id : Int) : E 152 [.int .i64 id] [] = some (.agg [.int .i64 (ofF id).1, .int .i64 (ofF id).2], []) := by
  by_cases h : inTab id
  · rcases h with rfl | rfl | rfl | rfl | rfl | rfl | rfl | rfl | rfl | rfl | rfl | rfl | rfl | rfl | rfl | rfl | rfl | rfl | rfl | rfl | rfl | rfl | rfl | rfl | rfl | rfl | rfl
    all_goals exact EV_some.2 ⟨20, by kernel_rfl⟩
  · rw [of_not h]
    obtain ⟨h1, h2, h3, h8, h9, h11, h17, h18, h26, h19, h21, h22, h23, h25, h24, h28, h31, h33, h34, h35, h39, h36, h37, h40, h41, h42, h38⟩ := not_tab h
    rw [E_eq (by rfl) cf_prop_of]
    simp -implicitDefEqProofs only [EVS0, EVS1, EVS2, EVS3, EVS4, EVS5, EVS6, EVS7, EVL0, EVL1, ite_tf, ite_ft, ite_tft, ite_ftf, ite_list, ite_tt, ite_ee, ite_nt, ite_ne, eq_self, implies_true, forall_const, exI, nsite, freeAt, execI, Opd.ev, tget, tins, tput, keepL, sitesOf, List.sum_cons, List.sum_nil, Nat.reduceAdd, Nat.reduceSub, Nat.reduceLT, Nat.reduceLeDiff, Nat.reduceEqDiff, Nat.reduceBEq, Nat.reduceMul, beq_self_eq_true, Bool.false_eq_true, ldA, stA, partA, faddrA, setAt, binA, arithA, shiftA, strA, unA, gSpan, gSkip, unG, ne_eq, Option.some.injEq, reduceCtorEq, decide_true, decide_false, elemsA, resA, resAll, resOne, enterA, decide_eq_true_eq, Bool.not_eq_true, Bool.decide_eq_true, ite_self, ↓reduceIte, noRefL, clrA, gcT, gcA, gcIds, reach, rhoOf, heapOf, idxA, genB, newGen, renB, refsB, List.contains_cons, List.range_succ, cb_prop_of, b_prop_of, cr_prop_of, oI, oN, intsV, bytesV, propsV, propV, propC, bytesOf_map, h1, h2, h3, h8, h9, h11, h17, h18, h26, h19, h21, h22, h23, h25, h24, h28, h31, h33, h34, h35, h39, h36, h37, h40, h41, h42, h38, fillA, setAt, AVal.cells]
theorem q_ofC (σ : AHeap) (site own : Nat) (id : Int) : callG E BY σ site 152 own true [.int .i64 id] = some (.agg [.int .i64 (ofF id).1, .int .i64 (ofF id).2], σ, {}) :=
  call_normT (q_of id) (by kernel_rfl) rfl rfl rfl (fun _ => rfl) _ _ _
theorem q_kind (id : Int) : E 134 [.int .i64 id] [] = some (.int .i64 (kindI id), []) := by
  have hC := fun σ site own => q_ofC σ site own id
  unfold kindI
  rw [E_eq (by rfl) cf_prop_Kind]
  simp -implicitDefEqProofs only [EVS0, EVS1, EVS2, EVS3, EVS4, EVS5, EVS6, EVS7, EVL0, EVL1, ite_tf, ite_ft, ite_tft, ite_ftf, ite_list, ite_tt, ite_ee, ite_nt, ite_ne, eq_self, implies_true, forall_const, exI, nsite, freeAt, execI, Opd.ev, tget, tins, tput, keepL, sitesOf, List.sum_cons, List.sum_nil, Nat.reduceAdd, Nat.reduceSub, Nat.reduceLT, Nat.reduceLeDiff, Nat.reduceEqDiff, Nat.reduceBEq, Nat.reduceMul, beq_self_eq_true, Bool.false_eq_true, ldA, stA, partA, faddrA, setAt, binA, arithA, shiftA, strA, unA, gSpan, gSkip, unG, ne_eq, Option.some.injEq, reduceCtorEq, decide_true, decide_false, elemsA, resA, resAll, resOne, enterA, decide_eq_true_eq, Bool.not_eq_true, Bool.decide_eq_true, ite_self, ↓reduceIte, noRefL, clrA, gcT, gcA, gcIds, reach, rhoOf, heapOf, idxA, genB, newGen, renB, refsB, List.contains_cons, List.range_succ, cb_prop_Kind, b_prop_Kind, cr_prop_Kind, oI, oN, intsV, bytesV, propsV, propV, propC, bytesOf_map, hC]
theorem q_kindC (σ : AHeap) (site own : Nat) (id : Int) : callG E BY σ site 134 own true [.int .i64 id] = some (.int .i64 (kindI id), σ, {}) :=
  call_normT (q_kind id) (by kernel_rfl) rfl rfl rfl (fun _ => rfl) _ _ _
def bitI (pl w : Int) : Int := IntKind.i64.wrap (((BitVec.ofInt IntKind.i64.bits (pl.fdiv (2 ^ min w.toNat IntKind.i64.bits)) &&& BitVec.ofInt IntKind.i64.bits 1).toNat : Nat) : Int)
def mayB (id w : Int) : Bool := decide (w ≥ 1) && decide (w ≤ 16) && bitI (ofF id).2 w == 1
theorem q_may (id w : Int) : E 153 [.int .i64 id, .int .i64 w] [] = some (.bool (mayB id w), []) := by
  have hC := fun σ site own => q_ofC σ site own id
  unfold mayB bitI
  generalize (ofF id).2 = pl at *
  rw [E_eq (by rfl) cf_prop_May]
  by_cases h1 : w ≥ 1
  · have h2 : ¬ w < 0 := by omega
    by_cases h3 : w ≤ 16
    · simp -implicitDefEqProofs only [EVS0, EVS1, EVS2, EVS3, EVS4, EVS5, EVS6, EVS7, EVL0, EVL1, ite_tf, ite_ft, ite_tft, ite_ftf, ite_list, ite_tt, ite_ee, ite_nt, ite_ne, eq_self, implies_true, forall_const, exI, nsite, freeAt, execI, Opd.ev, tget, tins, tput, keepL, sitesOf, List.sum_cons, List.sum_nil, Nat.reduceAdd, Nat.reduceSub, Nat.reduceLT, Nat.reduceLeDiff, Nat.reduceEqDiff, Nat.reduceBEq, Nat.reduceMul, beq_self_eq_true, Bool.false_eq_true, ldA, stA, partA, faddrA, setAt, binA, arithA, shiftA, strA, unA, gSpan, gSkip, unG, ne_eq, Option.some.injEq, reduceCtorEq, decide_true, decide_false, elemsA, resA, resAll, resOne, enterA, decide_eq_true_eq, Bool.not_eq_true, Bool.decide_eq_true, ite_self, ↓reduceIte, noRefL, clrA, gcT, gcA, gcIds, reach, rhoOf, heapOf, idxA, genB, newGen, renB, refsB, List.contains_cons, List.range_succ, cb_prop_May, b_prop_May, cr_prop_May, oI, oN, intsV, bytesV, propsV, propV, propC, bytesOf_map, hC, h1, h2, h3]
    · simp -implicitDefEqProofs only [EVS0, EVS1, EVS2, EVS3, EVS4, EVS5, EVS6, EVS7, EVL0, EVL1, ite_tf, ite_ft, ite_tft, ite_ftf, ite_list, ite_tt, ite_ee, ite_nt, ite_ne, eq_self, implies_true, forall_const, exI, nsite, freeAt, execI, Opd.ev, tget, tins, tput, keepL, sitesOf, List.sum_cons, List.sum_nil, Nat.reduceAdd, Nat.reduceSub, Nat.reduceLT, Nat.reduceLeDiff, Nat.reduceEqDiff, Nat.reduceBEq, Nat.reduceMul, beq_self_eq_true, Bool.false_eq_true, ldA, stA, partA, faddrA, setAt, binA, arithA, shiftA, strA, unA, gSpan, gSkip, unG, ne_eq, Option.some.injEq, reduceCtorEq, decide_true, decide_false, elemsA, resA, resAll, resOne, enterA, decide_eq_true_eq, Bool.not_eq_true, Bool.decide_eq_true, ite_self, ↓reduceIte, noRefL, clrA, gcT, gcA, gcIds, reach, rhoOf, heapOf, idxA, genB, newGen, renB, refsB, List.contains_cons, List.range_succ, cb_prop_May, b_prop_May, cr_prop_May, oI, oN, intsV, bytesV, propsV, propV, propC, bytesOf_map, hC, h1, h2, h3]
  · simp -implicitDefEqProofs only [EVS0, EVS1, EVS2, EVS3, EVS4, EVS5, EVS6, EVS7, EVL0, EVL1, ite_tf, ite_ft, ite_tft, ite_ftf, ite_list, ite_tt, ite_ee, ite_nt, ite_ne, eq_self, implies_true, forall_const, exI, nsite, freeAt, execI, Opd.ev, tget, tins, tput, keepL, sitesOf, List.sum_cons, List.sum_nil, Nat.reduceAdd, Nat.reduceSub, Nat.reduceLT, Nat.reduceLeDiff, Nat.reduceEqDiff, Nat.reduceBEq, Nat.reduceMul, beq_self_eq_true, Bool.false_eq_true, ldA, stA, partA, faddrA, setAt, binA, arithA, shiftA, strA, unA, gSpan, gSkip, unG, ne_eq, Option.some.injEq, reduceCtorEq, decide_true, decide_false, elemsA, resA, resAll, resOne, enterA, decide_eq_true_eq, Bool.not_eq_true, Bool.decide_eq_true, ite_self, ↓reduceIte, noRefL, clrA, gcT, gcA, gcIds, reach, rhoOf, heapOf, idxA, genB, newGen, renB, refsB, List.contains_cons, List.range_succ, cb_prop_May, b_prop_May, cr_prop_May, oI, oN, intsV, bytesV, propsV, propV, propC, bytesOf_map, hC, h1]
theorem q_mayC (σ : AHeap) (site own : Nat) (id w : Int) : callG E BY σ site 153 own true [.int .i64 id, .int .i64 w] = some (.bool (mayB id w), σ, {}) :=
  call_normT (q_may id w) (by kernel_rfl) rfl rfl rfl (fun _ => rfl) _ _ _
theorem may_out {id w : Int} (h : ¬ (1 ≤ w ∧ w ≤ 16)) : mayB id w = false := by
  unfold mayB
  by_cases h1 : w ≥ 1
  · have h2 : ¬ w ≤ 16 := fun h2 => h ⟨h1, h2⟩
    simp [h2]
  · simp [h1]
theorem bit_zero : ∀ k : Fin 17, bitI 0 k.val = 0 := by decide +kernel
theorem may_not {id : Int} (h : ¬ inTab id) (w : Int) : mayB id w = false := by
  by_cases hw : 1 ≤ w ∧ w ≤ 16
  · unfold mayB
    rw [of_not h]
    have := bit_zero ⟨w.toNat, by omega⟩
    have e : ((w.toNat : Nat) : Int) = w := by omega
    simp only [e] at this
    rw [this]; simp
  · exact may_out hw
end Go.Proofs.YtmlkhhidifjjfaaDoor
namespace Go.Proofs.YtmlkhhidifjjfaaDoor
set_option linter.unusedSimpArgs false
set_option linter.unusedVariables false
set_option linter.defProp false
def b_octet_Data : ACode := (.seq (.region [oI 2 (.mov (.c (.lst true []))), oI 3 (.mov (.c (.int .i64 0)))] none [0]) (.seq (.seq (.region [oI 4 (.mov (.t 0)), oI 5 (.len (.t 4)), oI 6 (.bin .gtr (.t 5) (.c (.int .i64 65535)))] none [6, 0]) (.cond (.t 6) (.seq (.region [oI 2 (.mov (.c (.lst true []))), oI 3 (.mov (.c (.int .i64 10)))] none [3, 2]) .ret) .skip)) (.seq (.region [oI 7 (.mov (.t 0)), oI 8 (.len (.t 7)), oI 9 (.i2i .u64 (.t 8)), oI 10 (.call 59 0 true [(.t 9), (.c (.int .i64 2))]), oI 11 (.mov (.t 0)), oI 12 (.bslice false 1 2 (.lst true []) [(0, (.t 10)), (1, (.t 11))]), oI 13 (.call 56 0 true [(.t 12)]), oI 2 (.mov (.t 13)), oI 3 (.mov (.c (.int .i64 0)))] none [3, 2]) .ret)))
def c_octet_Data : AFunc := ⟨[(.tmp 2), (.tmp 3)], b_octet_Data⟩
theorem cf_octet_Data : FC 55 = some c_octet_Data := by kernel_rfl
theorem cb_octet_Data : c_octet_Data.body = b_octet_Data := rfl
theorem cr_octet_Data : c_octet_Data.res = [(.tmp 2), (.tmp 3)] := rfl
def d_octet_Get_k0 : ACode := (.seq (.region [oI 18 (.mov (.t 3)), oI 2 (.mov (.t 18))] none [2]) .ret)
def c_octet_Get_k0 : ACode := d_octet_Get_k0
def x_octet_Get_k0 := xw c_octet_Get_k0 d_octet_Get_k0 rfl
def d_octet_Get_l3 : ACode := (.seq (.region [oI 9 (.bin .lss (.t 8) (.t 7))] none [9, 8, 7, 6, 3]) (.seq (.cond (.t 9) .skip (.exit 0)) (.seq (.block 1 (.seq (.region [oI 10 (.iaddr 1 (.t 6) (.t 8)), oI 11 (.ld none (.t 10)), oI 5 (.mov (.t 11))] none [8, 7, 6, 5, 3]) (.region [oI 12 (.mov (.t 3)), oI 13 (.bin .shl (.t 12) (.c (.int .u64 8))), oI 14 (.mov (.t 5)), oI 15 (.i2i .u64 (.t 14)), oI 16 (.bin .or (.t 13) (.t 15)), oI 3 (.mov (.t 16))] none [8, 7, 6, 3]))) (.region [oI 17 (.bin .add (.t 8) (.c (.int .i64 1))), oI 8 (.mov (.t 17))] none [8, 7, 6, 3]))))
def c_octet_Get_l3 : ACode := d_octet_Get_l3
def x_octet_Get_l3 := xw c_octet_Get_l3 d_octet_Get_l3 rfl
def b_octet_Get : ACode := (.seq (.region [oI 2 (.mov (.c (.int .u64 0)))] none [0]) (.seq (.region [oI 3 (.mov (.c (.int .u64 0)))] none [3, 0]) (.seq (.seq (.region [oI 6 (.mov (.t 0)), oI 7 (.len (.t 6)), oI 8 (.mov (.c (.int .i64 0)))] none [8, 7, 6, 3]) (.block 0 (.loop [8, 7, 6, 3] c_octet_Get_l3))) c_octet_Get_k0)))
def c_octet_Get : AFunc := ⟨[(.tmp 2)], b_octet_Get⟩
theorem cf_octet_Get : FC 108 = some c_octet_Get := by kernel_rfl
theorem cb_octet_Get : c_octet_Get.body = b_octet_Get := rfl
theorem cr_octet_Get : c_octet_Get.res = [(.tmp 2)] := rfl
/-- slots [8, 7, 6, 3] -/
noncomputable def K_octet_Get_l3 (m : Nat) (tm : Tms) (σ : AHeap) : Option (AVal × AHeap) := (finA m c_octet_Get (seqX FC PR BY m c_octet_Get_k0 (Option.map (blockA 0) (evL FC PR BY m [8, 7, 6, 3] c_octet_Get_l3 tm σ))))
def b_octet_GetData : ACode := (.seq (.region [oI 2 (.mov (.c (.lst true []))), oI 3 (.mov (.c (.int .i64 0))), oI 4 (.mov (.c (.int .i64 0)))] none [0]) (.seq (.seq (.region [oI 5 (.mov (.t 0)), oI 6 (.len (.t 5)), oI 7 (.bin .lss (.t 6) (.c (.int .i64 2))), oI 8 (.mov (.t 7)), ⟨(some 9), (.mov (.t 0)), (some (8, false)), []⟩, ⟨(some 10), (.len (.t 9)), (some (8, false)), []⟩, ⟨(some 11), (.bin .sub (.t 10) (.c (.int .i64 2))), (some (8, false)), []⟩, ⟨(some 12), (.mov (.t 0)), (some (8, false)), []⟩, ⟨(some 13), (.slice 1 (.t 12) none (some (.c (.int .i64 2))) none), (some (8, false)), []⟩, ⟨(some 14), (.call 108 0 true [(.t 13)]), (some (8, false)), []⟩, ⟨(some 15), (.i2i .i64 (.t 14)), (some (8, false)), []⟩, ⟨(some 16), (.bin .lss (.t 11) (.t 15)), (some (8, false)), []⟩, oI 17 (.pick (.t 8) (.c (.bool true)) (.t 16))] none [17, 0]) (.cond (.t 17) (.seq (.region [oI 2 (.mov (.c (.lst true []))), oI 3 (.mov (.c (.int .i64 0))), oI 4 (.mov (.c (.int .i64 11)))] none [4, 3, 2]) .ret) .skip)) (.seq (.region [oI 18 (.mov (.t 0)), oI 19 (.slice 1 (.t 18) none (some (.c (.int .i64 2))) none), oI 20 (.call 108 0 true [(.t 19)]), oI 21 (.i2i .i64 (.t 20)), oI 22 (.bin .add (.c (.int .i64 2)) (.t 21)), oI 3 (.mov (.t 22))] none [3, 0]) (.seq (.region [oI 23 (.mov (.t 0)), oI 24 (.mov (.t 3)), oI 25 (.slice 1 (.t 23) (some (.c (.int .i64 2))) (some (.t 24)) none), oI 26 (.bslice false 1 1 (.lst true []) [(0, (.t 25))]), oI 27 (.call 56 0 true [(.t 26)]), oI 28 (.mov (.t 3)), oI 2 (.mov (.t 27)), oI 3 (.mov (.t 28)), oI 4 (.mov (.c (.int .i64 0)))] none [4, 3, 2]) .ret))))
def c_octet_GetData : AFunc := ⟨[(.tmp 2), (.tmp 3), (.tmp 4)], b_octet_GetData⟩
theorem cf_octet_GetData : FC 106 = some c_octet_GetData := by kernel_rfl
theorem cb_octet_GetData : c_octet_GetData.body = b_octet_GetData := rfl
theorem cr_octet_GetData : c_octet_GetData.res = [(.tmp 2), (.tmp 3), (.tmp 4)] := rfl
def b_octet_GetText : ACode := (.seq (.region [oI 2 (.mov (.c (.str []))), oI 3 (.mov (.c (.int .i64 0))), oI 4 (.mov (.c (.int .i64 0)))] none [0]) (.seq (.region [oI 7 (.mov (.t 0)), oI 8 (.call 106 0 true [(.t 7)]), oI 6 (.mov (.t 8)), oI 9 (.ext (.t 6) 0), oI 10 (.ext (.t 6) 1), oI 11 (.ext (.t 6) 2), oI 5 (.mov (.t 9)), oI 3 (.mov (.t 10)), oI 4 (.mov (.t 11))] none [5, 4, 3]) (.seq (.block 0 (.seq (.region [oI 13 (.mov (.t 4)), oI 14 (.bin .neq (.t 13) (.c (.int .i64 0))), oI 12 (.mov (.t 14))] none [12, 5, 4, 3]) (.cond (.t 12) (.seq (.region [oI 15 (.mov (.t 4)), oI 2 (.mov (.c (.str []))), oI 3 (.mov (.c (.int .i64 0))), oI 4 (.mov (.t 15))] none [4, 3, 2]) .ret) (.seq (.region [oI 17 (.mov (.t 5)), oI 18 (.b2s (.t 17)), oI 19 (.call 97 0 true [(.t 18)]), oI 20 (.un .not (.t 19)), oI 16 (.mov (.t 20))] none [16, 5, 3]) (.cond (.t 16) (.seq (.region [oI 2 (.mov (.c (.str []))), oI 3 (.mov (.c (.int .i64 0))), oI 4 (.mov (.c (.int .i64 13)))] none [4, 3, 2]) .ret) .skip))))) (.seq (.region [oI 21 (.mov (.t 5)), oI 22 (.b2s (.t 21)), oI 23 (.mov (.t 3)), oI 2 (.mov (.t 22)), oI 3 (.mov (.t 23)), oI 4 (.mov (.c (.int .i64 0)))] none [4, 3, 2]) .ret))))
def c_octet_GetText : AFunc := ⟨[(.tmp 2), (.tmp 3), (.tmp 4)], b_octet_GetText⟩
theorem cf_octet_GetText : FC 109 = some c_octet_GetText := by kernel_rfl
theorem cb_octet_GetText : c_octet_GetText.body = b_octet_GetText := rfl
theorem cr_octet_GetText : c_octet_GetText.res = [(.tmp 2), (.tmp 3), (.tmp 4)] := rfl
def d_octet_GetVar_k0 : ACode := (.seq (.seq (.region [oI 36 (.mov (.t 0)), oI 37 (.len (.t 36)), oI 38 (.bin .lss (.t 37) (.c (.int .i64 4)))] none [38]) (.cond (.t 38) (.seq (.region [oI 2 (.mov (.c (.int .i64 0))), oI 3 (.mov (.c (.int .i64 0))), oI 4 (.mov (.c (.int .i64 11)))] none [4, 3, 2]) .ret) .skip)) (.seq (.region [oI 2 (.mov (.c (.int .i64 0))), oI 3 (.mov (.c (.int .i64 0))), oI 4 (.mov (.c (.int .i64 12)))] none [4, 3, 2]) .ret))
def c_octet_GetVar_k0 : ACode := d_octet_GetVar_k0
def x_octet_GetVar_k0 := xw c_octet_GetVar_k0 d_octet_GetVar_k0 rfl
def d_octet_GetVar_l2 : ACode := (.seq (.region [oI 10 (.bin .lss (.t 9) (.t 8))] none [10, 9, 8, 7, 2, 0]) (.seq (.cond (.t 10) .skip (.exit 0)) (.seq (.block 1 (.seq (.region [oI 11 (.mov (.t 9)), oI 12 (.iaddr 1 (.t 7) (.t 9)), oI 13 (.ld none (.t 12)), oI 5 (.mov (.t 11)), oI 6 (.mov (.t 13))] none [9, 8, 7, 6, 5, 2, 0]) (.seq (.seq (.region [oI 14 (.mov (.t 5)), oI 15 (.bin .eql (.t 14) (.c (.int .i64 4)))] none [15, 9, 8, 7, 6, 5, 2, 0]) (.cond (.t 15) (.exit 0) .skip)) (.seq (.region [oI 16 (.mov (.t 2)), oI 17 (.mov (.t 6)), oI 18 (.bin .and (.t 17) (.c (.int .u8 127))), oI 19 (.i2i .i64 (.t 18)), oI 20 (.mov (.t 5)), oI 21 (.bin .mul (.c (.int .i64 7)) (.t 20)), oI 22 (.bin .shl (.t 19) (.t 21)), oI 23 (.bin .or (.t 16) (.t 22)), oI 2 (.mov (.t 23))] none [9, 8, 7, 6, 5, 2, 0]) (.seq (.region [oI 24 (.mov (.t 6)), oI 25 (.bin .lss (.t 24) (.c (.int .u8 128)))] none [25, 9, 8, 7, 6, 5, 2, 0]) (.cond (.t 25) (.seq (.seq (.region [oI 26 (.mov (.t 6)), oI 27 (.bin .eql (.t 26) (.c (.int .u8 0))), oI 28 (.mov (.t 27)), ⟨(some 29), (.mov (.t 5)), (some (28, true)), []⟩, ⟨(some 30), (.bin .gtr (.t 29) (.c (.int .i64 0))), (some (28, true)), []⟩, oI 31 (.pick (.t 28) (.t 30) (.c (.bool false)))] none [31, 5, 2]) (.cond (.t 31) (.seq (.region [oI 2 (.mov (.c (.int .i64 0))), oI 3 (.mov (.c (.int .i64 0))), oI 4 (.mov (.c (.int .i64 12)))] none [4, 3, 2]) .ret) .skip)) (.seq (.region [oI 32 (.mov (.t 2)), oI 33 (.mov (.t 5)), oI 34 (.bin .add (.t 33) (.c (.int .i64 1))), oI 2 (.mov (.t 32)), oI 3 (.mov (.t 34)), oI 4 (.mov (.c (.int .i64 0)))] none [4, 3, 2]) .ret)) .skip)))))) (.region [oI 35 (.bin .add (.t 9) (.c (.int .i64 1))), oI 9 (.mov (.t 35))] none [9, 8, 7, 2, 0]))))
def c_octet_GetVar_l2 : ACode := d_octet_GetVar_l2
def x_octet_GetVar_l2 := xw c_octet_GetVar_l2 d_octet_GetVar_l2 rfl
def b_octet_GetVar : ACode := (.seq (.region [oI 2 (.mov (.c (.int .i64 0))), oI 3 (.mov (.c (.int .i64 0))), oI 4 (.mov (.c (.int .i64 0)))] none [2, 0]) (.seq (.seq (.region [oI 7 (.mov (.t 0)), oI 8 (.len (.t 7)), oI 9 (.mov (.c (.int .i64 0)))] none [9, 8, 7, 2, 0]) (.block 0 (.loop [9, 8, 7, 2, 0] c_octet_GetVar_l2))) c_octet_GetVar_k0))
def c_octet_GetVar : AFunc := ⟨[(.tmp 2), (.tmp 3), (.tmp 4)], b_octet_GetVar⟩
theorem cf_octet_GetVar : FC 135 = some c_octet_GetVar := by kernel_rfl
theorem cb_octet_GetVar : c_octet_GetVar.body = b_octet_GetVar := rfl
theorem cr_octet_GetVar : c_octet_GetVar.res = [(.tmp 2), (.tmp 3), (.tmp 4)] := rfl
/-- slots [9, 8, 7, 2, 0] -/
noncomputable def K_octet_GetVar_l2 (m : Nat) (tm : Tms) (σ : AHeap) : Option (AVal × AHeap) := (finA m c_octet_GetVar (seqX FC PR BY m c_octet_GetVar_k0 (Option.map (blockA 0) (evL FC PR BY m [9, 8, 7, 2, 0] c_octet_GetVar_l2 tm σ))))
def d_octet_IsText_k0 : ACode := (.seq (.region [oI 12 (.mov (.t 0)), oI 13 (.call 142 0 true [(.t 12)]), oI 2 (.mov (.t 13))] none [2]) .ret)
def c_octet_IsText_k0 : ACode := d_octet_IsText_k0
def x_octet_IsText_k0 := xw c_octet_IsText_k0 d_octet_IsText_k0 rfl
def d_octet_IsText_l2 : ACode := (.seq (.region [oI 7 (.nxt (.t 6)), oI 8 (.ext (.t 7) 0)] none [8, 7, 6, 0]) (.seq (.cond (.t 8) .skip (.exit 0)) (.block 1 (.seq (.region [oI 9 (.ext (.t 7) 2), oI 4 (.mov (.t 9))] none [6, 4, 0]) (.seq (.region [oI 10 (.mov (.t 4)), oI 11 (.bin .eql (.t 10) (.c (.int .i32 0)))] none [11, 6, 0]) (.cond (.t 11) (.seq (.region [oI 2 (.mov (.c (.bool false)))] none [2]) .ret) .skip))))))
def c_octet_IsText_l2 : ACode := d_octet_IsText_l2
def x_octet_IsText_l2 := xw c_octet_IsText_l2 d_octet_IsText_l2 rfl
def b_octet_IsText : ACode := (.seq (.region [oI 2 (.mov (.c (.bool false)))] none [0]) (.seq (.seq (.region [oI 5 (.mov (.t 0)), oI 6 (.rng (.t 5))] none [6, 0]) (.block 0 (.loop [6, 0] c_octet_IsText_l2))) c_octet_IsText_k0))
def c_octet_IsText : AFunc := ⟨[(.tmp 2)], b_octet_IsText⟩
theorem cf_octet_IsText : FC 97 = some c_octet_IsText := by kernel_rfl
theorem cb_octet_IsText : c_octet_IsText.body = b_octet_IsText := rfl
theorem cr_octet_IsText : c_octet_IsText.res = [(.tmp 2)] := rfl
/-- slots [6, 0] -/
noncomputable def K_octet_IsText_l2 (m : Nat) (tm : Tms) (σ : AHeap) : Option (AVal × AHeap) := (finA m c_octet_IsText (seqX FC PR BY m c_octet_IsText_k0 (Option.map (blockA 0) (evL FC PR BY m [6, 0] c_octet_IsText_l2 tm σ))))
def d_octet_Join_k0 : ACode := (.seq (.region [oI 16 (.mov (.t 3)), oI 2 (.mov (.t 16))] none [2]) .ret)
def c_octet_Join_k0 : ACode := d_octet_Join_k0
def x_octet_Join_k0 := xw c_octet_Join_k0 d_octet_Join_k0 rfl
def d_octet_Join_l3 : ACode := (.seq (.region [oI 9 (.bin .lss (.t 8) (.t 7))] none [9, 8, 7, 6, 3]) (.seq (.cond (.t 9) .skip (.exit 0)) (.seq (.block 1 (.seq (.region [oI 10 (.iaddr 1 (.t 6) (.t 8)), oI 11 (.ld none (.t 10)), oI 5 (.mov (.t 11))] none [8, 7, 6, 5, 3]) (.region [oI 12 (.mov (.t 3)), oI 13 (.mov (.t 5)), oI 14 (.app 1 1 (.int .u8 0) (.t 12) (.t 13)), oI 3 (.mov (.t 14))] none [8, 7, 6, 3]))) (.region [oI 15 (.bin .add (.t 8) (.c (.int .i64 1))), oI 8 (.mov (.t 15))] none [8, 7, 6, 3]))))
def c_octet_Join_l3 : ACode := d_octet_Join_l3
def x_octet_Join_l3 := xw c_octet_Join_l3 d_octet_Join_l3 rfl
def b_octet_Join : ACode := (.seq (.region [oI 2 (.mov (.c (.lst true [])))] none [0]) (.seq (.region [oI 3 (.mov (.c (.lst true [])))] none [3, 0]) (.seq (.seq (.region [oI 6 (.mov (.t 0)), oI 7 (.len (.t 6)), oI 8 (.mov (.c (.int .i64 0)))] none [8, 7, 6, 3]) (.block 0 (.loop [8, 7, 6, 3] c_octet_Join_l3))) c_octet_Join_k0)))
def c_octet_Join : AFunc := ⟨[(.tmp 2)], b_octet_Join⟩
theorem cf_octet_Join : FC 56 = some c_octet_Join := by kernel_rfl
theorem cb_octet_Join : c_octet_Join.body = b_octet_Join := rfl
theorem cr_octet_Join : c_octet_Join.res = [(.tmp 2)] := rfl
/-- slots [8, 7, 6, 3] -/
noncomputable def K_octet_Join_l3 (m : Nat) (tm : Tms) (σ : AHeap) : Option (AVal × AHeap) := (finA m c_octet_Join (seqX FC PR BY m c_octet_Join_k0 (Option.map (blockA 0) (evL FC PR BY m [8, 7, 6, 3] c_octet_Join_l3 tm σ))))
def d_octet_Put_k0 : ACode := (.seq (.region [oI 28 (.mov (.t 5)), oI 4 (.mov (.t 28))] none [4]) .ret)
def c_octet_Put_k0 : ACode := d_octet_Put_k0
def x_octet_Put_k0 := xw c_octet_Put_k0 d_octet_Put_k0 rfl
def d_octet_Put_l5 : ACode := (.seq (.seq (.region [oI 17 (.mov (.t 6)), oI 18 (.bin .geq (.t 17) (.c (.int .i64 0)))] none [18, 6, 5, 0]) (.cond (.t 18) .skip (.exit 0))) (.seq (.block 1 (.seq (.region [oI 21 (.mov (.t 5)), oI 22 (.mov (.t 6)), oI 23 (.mov (.t 0)), oI 24 (.i2i .u8 (.t 23)), oI 25 (.iaddr 1 (.t 21) (.t 22)), oN (.st 1 (.t 25) (.t 24))] none [6, 5, 0]) (.region [oI 26 (.mov (.t 0)), oI 27 (.bin .shr (.t 26) (.c (.int .u64 8))), oI 0 (.mov (.t 27))] none [6, 5, 0]))) (.region [oI 19 (.mov (.t 6)), oI 20 (.bin .sub (.t 19) (.c (.int .i64 1))), oI 6 (.mov (.t 20))] none [6, 5, 0])))
def c_octet_Put_l5 : ACode := d_octet_Put_l5
def x_octet_Put_l5 := xw c_octet_Put_l5 d_octet_Put_l5 rfl
def b_octet_Put : ACode := (.seq (.region [oI 4 (.mov (.c (.lst true [])))] none [1, 0]) (.seq (.seq (.region [oI 7 (.mov (.t 1)), oI 8 (.bin .lss (.t 7) (.c (.int .i64 1))), oI 9 (.mov (.t 8)), ⟨(some 10), (.mov (.t 1)), (some (9, false)), []⟩, ⟨(some 11), (.bin .gtr (.t 10) (.c (.int .i64 8))), (some (9, false)), []⟩, oI 12 (.pick (.t 9) (.c (.bool true)) (.t 11))] none [12, 1, 0]) (.cond (.t 12) (.seq (.region [oI 4 (.mov (.c (.lst true [])))] none [4]) .ret) .skip)) (.seq (.region [oI 13 (.mov (.t 1)), oI 14 (.mkslice 1 1 (.int .u8 0) (.t 13) (.t 13)), oI 5 (.mov (.t 14))] none [5, 1, 0]) (.seq (.seq (.region [oI 15 (.mov (.t 1)), oI 16 (.bin .sub (.t 15) (.c (.int .i64 1))), oI 6 (.mov (.t 16))] none [6, 5, 0]) (.block 0 (.loop [6, 5, 0] c_octet_Put_l5))) c_octet_Put_k0))))
def c_octet_Put : AFunc := ⟨[(.tmp 4)], b_octet_Put⟩
theorem cf_octet_Put : FC 59 = some c_octet_Put := by kernel_rfl
theorem cb_octet_Put : c_octet_Put.body = b_octet_Put := rfl
theorem cr_octet_Put : c_octet_Put.res = [(.tmp 4)] := rfl
/-- slots [6, 5, 0] -/
noncomputable def K_octet_Put_l5 (m : Nat) (tm : Tms) (σ : AHeap) : Option (AVal × AHeap) := (finA m c_octet_Put (seqX FC PR BY m c_octet_Put_k0 (Option.map (blockA 0) (evL FC PR BY m [6, 5, 0] c_octet_Put_l5 tm σ))))
def b_octet_Text : ACode := (.seq (.region [oI 2 (.mov (.c (.lst true []))), oI 3 (.mov (.c (.int .i64 0)))] none [0]) (.seq (.seq (.region [oI 4 (.mov (.t 0)), oI 5 (.call 97 0 true [(.t 4)]), oI 6 (.un .not (.t 5))] none [6, 0]) (.cond (.t 6) (.seq (.region [oI 2 (.mov (.c (.lst true []))), oI 3 (.mov (.c (.int .i64 13)))] none [3, 2]) .ret) .skip)) (.seq (.region [oI 7 (.mov (.t 0)), oI 8 (.s2b (.t 7)), oI 9 (.call 55 0 true [(.t 8)]), oI 10 (.ext (.t 9) 0), oI 11 (.ext (.t 9) 1), oI 2 (.mov (.t 10)), oI 3 (.mov (.t 11))] none [3, 2]) .ret)))
def c_octet_Text : AFunc := ⟨[(.tmp 2), (.tmp 3)], b_octet_Text⟩
theorem cf_octet_Text : FC 54 = some c_octet_Text := by kernel_rfl
theorem cb_octet_Text : c_octet_Text.body = b_octet_Text := rfl
theorem cr_octet_Text : c_octet_Text.res = [(.tmp 2), (.tmp 3)] := rfl
def d_octet_Var_k0 : ACode := (.seq (.region [oI 21 (.mov (.t 4)), oI 22 (.mov (.t 0)), oI 23 (.i2i .u8 (.t 22)), oI 24 (.bslice false 1 1 (.int .u8 0) [(0, (.t 23))]), oI 25 (.app 1 1 (.int .u8 0) (.t 21) (.t 24)), oI 2 (.mov (.t 25)), oI 3 (.mov (.c (.int .i64 0)))] none [3, 2]) .ret)
def c_octet_Var_k0 : ACode := d_octet_Var_k0
def x_octet_Var_k0 := xw c_octet_Var_k0 d_octet_Var_k0 rfl
def d_octet_Var_l4 : ACode := (.seq (.seq (.region [oI 11 (.mov (.t 0)), oI 12 (.bin .gtr (.t 11) (.c (.int .i64 127)))] none [12, 4, 0]) (.cond (.t 12) .skip (.exit 0))) (.seq (.block 1 (.region [oI 15 (.mov (.t 4)), oI 16 (.mov (.t 0)), oI 17 (.i2i .u8 (.t 16)), oI 18 (.bin .or (.t 17) (.c (.int .u8 128))), oI 19 (.bslice false 1 1 (.int .u8 0) [(0, (.t 18))]), oI 20 (.app 1 1 (.int .u8 0) (.t 15) (.t 19)), oI 4 (.mov (.t 20))] none [4, 0])) (.region [oI 13 (.mov (.t 0)), oI 14 (.bin .shr (.t 13) (.c (.int .u64 7))), oI 0 (.mov (.t 14))] none [4, 0])))
def c_octet_Var_l4 : ACode := d_octet_Var_l4
def x_octet_Var_l4 := xw c_octet_Var_l4 d_octet_Var_l4 rfl
def b_octet_Var : ACode := (.seq (.region [oI 2 (.mov (.c (.lst true []))), oI 3 (.mov (.c (.int .i64 0)))] none [0]) (.seq (.seq (.region [oI 5 (.mov (.t 0)), oI 6 (.bin .lss (.t 5) (.c (.int .i64 0))), oI 7 (.mov (.t 6)), ⟨(some 8), (.mov (.t 0)), (some (7, false)), []⟩, ⟨(some 9), (.bin .gtr (.t 8) (.c (.int .i64 268435455))), (some (7, false)), []⟩, oI 10 (.pick (.t 7) (.c (.bool true)) (.t 9))] none [10, 0]) (.cond (.t 10) (.seq (.region [oI 2 (.mov (.c (.lst true []))), oI 3 (.mov (.c (.int .i64 10)))] none [3, 2]) .ret) .skip)) (.seq (.region [oI 4 (.mov (.c (.lst true [])))] none [4, 0]) (.seq (.block 0 (.loop [4, 0] c_octet_Var_l4)) c_octet_Var_k0))))
def c_octet_Var : AFunc := ⟨[(.tmp 2), (.tmp 3)], b_octet_Var⟩
theorem cf_octet_Var : FC 82 = some c_octet_Var := by kernel_rfl
theorem cb_octet_Var : c_octet_Var.body = b_octet_Var := rfl
theorem cr_octet_Var : c_octet_Var.res = [(.tmp 2), (.tmp 3)] := rfl
/-- slots [4, 0] -/
noncomputable def K_octet_Var_l4 (m : Nat) (tm : Tms) (σ : AHeap) : Option (AVal × AHeap) := (finA m c_octet_Var (seqX FC PR BY m c_octet_Var_k0 (Option.map (blockA 0) (evL FC PR BY m [4, 0] c_octet_Var_l4 tm σ))))
end Go.Proofs.YtmlkhhidifjjfaaDoor
namespace Go.Proofs.YtmlkhhidifjjfaaDoor
set_option linter.unusedSimpArgs false
set_option linter.unusedVariables false
/-- a number as bytes, the highest first -/
def beB : Nat → Nat → Bytes
  | _, 0 => []
  | n, w + 1 => beB (n / 256) w ++ [UInt8.ofNat (n % 256)]
theorem beB_len : ∀ (w n : Nat), (beB n w).length = w
  | 0, _ => rfl
  | w + 1, n => by simp [beB, beB_len w]
/-- the number that bytes say, in 64 bits -/
def getA (x : Nat) (b : Bytes) : Nat := b.foldl (fun x c => (x * 256 + c.toNat) % 18446744073709551616) x
def getU (b : Bytes) : Nat := getA 0 b
theorem getA_cons (x : Nat) (c : UInt8) (b : Bytes) : getA x (c :: b) = getA ((x * 256 + c.toNat) % 18446744073709551616) b := rfl
theorem getA_nil (x : Nat) : getA x [] = x := rfl
/-- in base 128, the lowest digit first -/
def varL : Nat → Nat → Bytes
  | 0, n => [UInt8.ofNat n]
  | k + 1, n => if n < 128 then [UInt8.ofNat n] else UInt8.ofNat (n % 128 + 128) :: varL k (n / 128)
def varF (n : Int) : Bytes × Int := if n < 0 ∨ n > 268435455 then ([], 10) else (varL 3 n.toNat, 0)
def gvA (i n : Nat) : Bytes → Nat × Nat × Int
  | [] => if i < 4 then (0, 0, 11) else (0, 0, 12)
  | c :: r => if i = 4 then (0, 0, 12) else if c.toNat < 128 then (if c = 0 ∧ 0 < i then (0, 0, 12) else (n + c.toNat % 128 * 128 ^ i, i + 1, 0)) else gvA (i + 1) (n + c.toNat % 128 * 128 ^ i) r
def getVarF (b : Bytes) : Nat × Nat × Int := gvA 0 0 b
def dataF (b : Bytes) : Bytes × Int := if b.length > 65535 then ([], 10) else (beB b.length 2 ++ b, 0)
def getDataF (b : Bytes) : Bytes × Nat × Int :=
  if b.length < 2 ∨ b.length - 2 < getU (b.take 2) then ([], 0, 11) else ((b.drop 2).take (getU (b.take 2)), 2 + getU (b.take 2), 0)
end Go.Proofs.YtmlkhhidifjjfaaDoor
namespace Go.Proofs.YtmlkhhidifjjfaaDoor
set_option linter.unusedSimpArgs false
set_option linter.unusedVariables false
set_option maxHeartbeats 4000000
set_option maxRecDepth 10000
theorem byte_wrap (n : Nat) : IntKind.u8.wrap (n : Int) = ((UInt8.ofNat (n % 256)).toNat : Int) := by
  rw [IntKind.wrap_u8, UInt8.toNat_ofNat']
  omega
theorem out_rowz (k n : Nat) (xs : List AVal) (σ : AHeap) : outA 0 (.row 0 k xs :: σ) (.sl 0 0 0 n) = some (.sl 0 0 0 n, [.row 0 k xs]) := by
  simp [outA, gcA, gcIds, reach, refsL, refsV, rhoOf, heapOf, idxA, genB, newGen, renL, renV, renB, refsB]
theorem repz_at (m : Nat) (z : AVal) (t : List AVal) : (List.replicate (m + 1) z ++ t)[m]? = some z := by
  rw [List.getElem?_append_left (by simp)]; simp
theorem repz_set (m : Nat) (z v : AVal) (t : List AVal) : (List.replicate (m + 1) z ++ t).set m v = List.replicate m z ++ v :: t := by
  rw [List.replicate_succ', List.append_assoc, List.set_append_right _ _ (by simp)]; simp
theorem q_putl (W : Nat) (hW : W ≤ 8) : ∀ (m n : Nat) (tail : Bytes), m + tail.length = W → K_octet_Put_l5 0 [(6, .int .i64 ((m : Int) - 1)), (5, .sl 0 0 0 W), (0, .int .u64 (n : Nat))] [.row 0 1 (List.replicate m (.int .u8 0) ++ tail.map byteV)] = some (.sl 0 0 0 W, [.row 0 1 ((beB n m ++ tail).map byteV)])
  | 0, n, tail, h => by
    have h1 : ¬ (((0 : Nat) : Int) - 1 ≥ 0) := by omega
    unfold K_octet_Put_l5
    rw [evL_eq, beB]
    simp -implicitDefEqProofs only [EVS0, EVS1, EVS2, EVS3, EVS4, EVS5, EVS6, EVS7, EVL0, EVL1, ite_tf, ite_ft, ite_tft, ite_ftf, ite_list, ite_tt, ite_ee, ite_nt, ite_ne, eq_self, implies_true, forall_const, exI, nsite, freeAt, execI, Opd.ev, tget, tins, tput, keepL, sitesOf, List.sum_cons, List.sum_nil, Nat.reduceAdd, Nat.reduceSub, Nat.reduceLT, Nat.reduceLeDiff, Nat.reduceEqDiff, Nat.reduceBEq, Nat.reduceMul, beq_self_eq_true, Bool.false_eq_true, ldA, stA, partA, faddrA, setAt, binA, arithA, shiftA, strA, unA, gSpan, gSkip, unG, ne_eq, Option.some.injEq, reduceCtorEq, decide_true, decide_false, elemsA, resA, resAll, resOne, enterA, decide_eq_true_eq, Bool.not_eq_true, Bool.decide_eq_true, ite_self, ↓reduceIte, noRefL, clrA, gcT, gcA, gcIds, reach, rhoOf, heapOf, idxA, genB, newGen, renB, refsB, List.contains_cons, List.range_succ, cb_octet_Put, b_octet_Put, cr_octet_Put, x_octet_Put_k0, d_octet_Put_k0, x_octet_Put_l5, d_octet_Put_l5, oI, oN, intsV, bytesV, propsV, propV, propC, bytesOf_map, h1, out_rowz]
  | m + 1, n, tail, h => by
    have ih := q_putl W hW m (n / 256) (UInt8.ofNat (n % 256) :: tail) (by simp; omega)
    have e0 : ((m + 1 : Nat) : Int) - 1 = (m : Int) := by omega
    have h1 : (m : Int) ≥ 0 := by omega
    have h2 : (0 : Int) ≤ (m : Int) := by omega
    have h3 : m < W := by omega
    have hg := repz_at m (.int .u8 0) (tail.map byteV)
    have hs := repz_set m (.int .u8 0) (byteV (UInt8.ofNat (n % 256))) (tail.map byteV)
    have hb := byte_wrap n
    have hw : IntKind.i64.wrap ((m : Int) - 1) = (m : Int) - 1 := wrap_nat (by omega) (by omega)
    have hd : (n : Int).fdiv (2 ^ min (Int.toNat 8) IntKind.u64.bits) = ((n / 256 : Nat) : Int) := by
      rw [show (2 : Int) ^ min (Int.toNat 8) IntKind.u64.bits = 256 from rfl, Int.fdiv_eq_ediv_of_nonneg _ (by decide)]
      omega
    have e1 : beB n (m + 1) ++ tail = beB (n / 256) m ++ (UInt8.ofNat (n % 256) :: tail) := by simp [beB]
    rw [e0, e1]
    have e2 : List.replicate m (AVal.int .u8 0) ++ (UInt8.ofNat (n % 256) :: tail).map byteV = List.replicate m (.int .u8 0) ++ byteV (UInt8.ofNat (n % 256)) :: tail.map byteV := rfl
    rw [e2] at ih
    generalize hX : List.replicate (m + 1) (AVal.int .u8 0) ++ tail.map byteV = X at *
    generalize hY : List.replicate m (AVal.int .u8 0) ++ byteV (UInt8.ofNat (n % 256)) :: tail.map byteV = Y at *
    unfold byteV at hs
    unfold K_octet_Put_l5 at ih ⊢
    rw [evL_eq]
    simp -implicitDefEqProofs only [EVS0, EVS1, EVS2, EVS3, EVS4, EVS5, EVS6, EVS7, EVL0, EVL1, ite_tf, ite_ft, ite_tft, ite_ftf, ite_list, ite_tt, ite_ee, ite_nt, ite_ne, eq_self, implies_true, forall_const, exI, nsite, freeAt, execI, Opd.ev, tget, tins, tput, keepL, sitesOf, List.sum_cons, List.sum_nil, Nat.reduceAdd, Nat.reduceSub, Nat.reduceLT, Nat.reduceLeDiff, Nat.reduceEqDiff, Nat.reduceBEq, Nat.reduceMul, beq_self_eq_true, Bool.false_eq_true, ldA, stA, partA, faddrA, setAt, binA, arithA, shiftA, strA, unA, gSpan, gSkip, unG, ne_eq, Option.some.injEq, reduceCtorEq, decide_true, decide_false, elemsA, resA, resAll, resOne, enterA, decide_eq_true_eq, Bool.not_eq_true, Bool.decide_eq_true, ite_self, ↓reduceIte, noRefL, clrA, gcT, gcA, gcIds, reach, rhoOf, heapOf, idxA, genB, newGen, renB, refsB, List.contains_cons, List.range_succ, cb_octet_Put, b_octet_Put, cr_octet_Put, x_octet_Put_k0, d_octet_Put_k0, x_octet_Put_l5, d_octet_Put_l5, oI, oN, intsV, bytesV, propsV, propV, propC, bytesOf_map, h1, h2, h3, hg, hs, hb, hw, hd, iaddrA, Int.toNat_natCast, AVal.cells, viewsA, viewA1, putE, freezeA, Int.reduceLT]
    exact ih
theorem q_put (n W : Nat) (h1 : 1 ≤ W) (hW : W ≤ 8) : E 59 [.int .u64 (n : Nat), .int .i64 (W : Nat)] [] = some (.sl 0 0 0 W, [.row 0 1 ((beB n W).map byteV)]) := by
  have key := q_putl W hW W n [] (by simp)
  have c1 : ¬ ((W : Int) < 1) := by omega
  have c2 : ¬ ((W : Int) > 8) := by omega
  have c3 : (0 : Int) ≤ (W : Int) := by omega
  have c4 : (W : Int) ≤ 9223372036854775807 := by omega
  have c5 : ((1 : Nat) : Int) * (W : Int) ≤ 140737488355328 := by omega
  have w1 : IntKind.i64.wrap ((W : Int) - 1) = (W : Int) - 1 := wrap_nat (by omega) (by omega)
  simp only [List.map_nil, List.append_nil] at key
  rw [E_eq (by rfl) cf_octet_Put]
  unfold K_octet_Put_l5 at key
  simp -implicitDefEqProofs only [EVS0, EVS1, EVS2, EVS3, EVS4, EVS5, EVS6, EVS7, EVL0, EVL1, ite_tf, ite_ft, ite_tft, ite_ftf, ite_list, ite_tt, ite_ee, ite_nt, ite_ne, eq_self, implies_true, forall_const, exI, nsite, freeAt, execI, Opd.ev, tget, tins, tput, keepL, sitesOf, List.sum_cons, List.sum_nil, Nat.reduceAdd, Nat.reduceSub, Nat.reduceLT, Nat.reduceLeDiff, Nat.reduceEqDiff, Nat.reduceBEq, Nat.reduceMul, beq_self_eq_true, Bool.false_eq_true, ldA, stA, partA, faddrA, setAt, binA, arithA, shiftA, strA, unA, gSpan, gSkip, unG, ne_eq, Option.some.injEq, reduceCtorEq, decide_true, decide_false, elemsA, resA, resAll, resOne, enterA, decide_eq_true_eq, Bool.not_eq_true, Bool.decide_eq_true, ite_self, ↓reduceIte, noRefL, clrA, gcT, gcA, gcIds, reach, rhoOf, heapOf, idxA, genB, newGen, renB, refsB, List.contains_cons, List.range_succ, cb_octet_Put, b_octet_Put, cr_octet_Put, x_octet_Put_k0, d_octet_Put_k0, x_octet_Put_l5, d_octet_Put_l5, oI, oN, intsV, bytesV, propsV, propV, propC, bytesOf_map, c1, c2, c3, c4, c5, w1, Int.le_refl, Int.toNat_natCast]
  exact key
theorem q_putC (σ : AHeap) (site own : Nat) (n W : Nat) (h1 : 1 ≤ W) (hW : W ≤ 8) : callG E BY σ site 59 own true [.int .u64 (n : Nat), .int .i64 (W : Nat)] = some (.lst false ((beB n W).map byteV), σ, {}) :=
  call_rown (byref := BY) (q_put n W h1 hW) (by simp [beB_len]) rfl rfl σ site own
theorem or_low (x c : Nat) (hc : c < 256) : IntKind.u64.wrap (((BitVec.ofInt IntKind.u64.bits (IntKind.u64.wrap ((x : Int) * 2 ^ min (Int.toNat 8) IntKind.u64.bits)) ||| BitVec.ofInt IntKind.u64.bits (c : Int)).toNat : Nat) : Int) = (((x * 256 + c) % 18446744073709551616 : Nat) : Int) := by
  rw [show (2 : Int) ^ min (Int.toNat 8) IntKind.u64.bits = 256 from rfl]
  have hb : IntKind.u64.bits = 64 := rfl
  rw [hb, IntKind.wrap_u64, IntKind.wrap_u64]
  have e1 : (x : Int) * 256 % 18446744073709551616 = ((x * 256 % 18446744073709551616 : Nat) : Int) := by omega
  rw [e1, BitVec.toNat_or]
  simp only [BitVec.ofInt_natCast, BitVec.toNat_ofNat]
  have e2 : x * 256 % 18446744073709551616 % 2 ^ 64 = (x % 72057594037927936) <<< 8 := by
    rw [Nat.shiftLeft_eq]; omega
  have e3 : c % 2 ^ 64 = c := by omega
  rw [e2, e3, ← Nat.shiftLeft_add_eq_or_of_lt (by omega : c < 2 ^ 8), Nat.shiftLeft_eq]
  omega
theorem q_getl (b : Bytes) (hl : b.length ≤ 9223372036854775807) : ∀ (r : Bytes) (i x : Nat), b.drop i = r → K_octet_Get_l3 0 [(8, .int .i64 i), (7, .int .i64 b.length), (6, .lst false (b.map byteV)), (3, .int .u64 (x : Nat))] [] = some (.int .u64 (getA x r : Nat), [])
  | [], i, x, h => by
    have h1 := drop_nil h
    unfold K_octet_Get_l3
    rw [evL_eq, getA_nil]
    simp -implicitDefEqProofs only [EVS0, EVS1, EVS2, EVS3, EVS4, EVS5, EVS6, EVS7, EVL0, EVL1, ite_tf, ite_ft, ite_tft, ite_ftf, ite_list, ite_tt, ite_ee, ite_nt, ite_ne, eq_self, implies_true, forall_const, exI, nsite, freeAt, execI, Opd.ev, tget, tins, tput, keepL, sitesOf, List.sum_cons, List.sum_nil, Nat.reduceAdd, Nat.reduceSub, Nat.reduceLT, Nat.reduceLeDiff, Nat.reduceEqDiff, Nat.reduceBEq, Nat.reduceMul, beq_self_eq_true, Bool.false_eq_true, ldA, stA, partA, faddrA, setAt, binA, arithA, shiftA, strA, unA, gSpan, gSkip, unG, ne_eq, Option.some.injEq, reduceCtorEq, decide_true, decide_false, elemsA, resA, resAll, resOne, enterA, decide_eq_true_eq, Bool.not_eq_true, Bool.decide_eq_true, ite_self, ↓reduceIte, noRefL, clrA, gcT, gcA, gcIds, reach, rhoOf, heapOf, idxA, genB, newGen, renB, refsB, List.contains_cons, List.range_succ, cb_octet_Get, b_octet_Get, cr_octet_Get, x_octet_Get_k0, d_octet_Get_k0, x_octet_Get_l3, d_octet_Get_l3, oI, oN, intsV, bytesV, propsV, propV, propC, bytesOf_map, h1]
  | c :: r, i, x, h => by
    have ih := q_getl b hl r (i + 1) ((x * 256 + c.toNat) % 18446744073709551616) (drop_at h).2.1
    have h1 : (i : Int) < b.length := by have := (drop_at h).2.2; omega
    have e1 := iad (drop_at h).1 byteV (k := 1) rfl
    have e3 := wrap_succ h1 hl
    have ho := or_low x c.toNat c.toNat_lt
    have hc : IntKind.u64.wrap (c.toNat : Int) = (c.toNat : Int) := by rw [IntKind.wrap_u64]; have := c.toNat_lt; omega
    unfold K_octet_Get_l3 at ih ⊢
    rw [evL_eq, getA_cons]
    simp -implicitDefEqProofs only [EVS0, EVS1, EVS2, EVS3, EVS4, EVS5, EVS6, EVS7, EVL0, EVL1, ite_tf, ite_ft, ite_tft, ite_ftf, ite_list, ite_tt, ite_ee, ite_nt, ite_ne, eq_self, implies_true, forall_const, exI, nsite, freeAt, execI, Opd.ev, tget, tins, tput, keepL, sitesOf, List.sum_cons, List.sum_nil, Nat.reduceAdd, Nat.reduceSub, Nat.reduceLT, Nat.reduceLeDiff, Nat.reduceEqDiff, Nat.reduceBEq, Nat.reduceMul, beq_self_eq_true, Bool.false_eq_true, ldA, stA, partA, faddrA, setAt, binA, arithA, shiftA, strA, unA, gSpan, gSkip, unG, ne_eq, Option.some.injEq, reduceCtorEq, decide_true, decide_false, elemsA, resA, resAll, resOne, enterA, decide_eq_true_eq, Bool.not_eq_true, Bool.decide_eq_true, ite_self, ↓reduceIte, noRefL, clrA, gcT, gcA, gcIds, reach, rhoOf, heapOf, idxA, genB, newGen, renB, refsB, List.contains_cons, List.range_succ, cb_octet_Get, b_octet_Get, cr_octet_Get, x_octet_Get_k0, d_octet_Get_k0, x_octet_Get_l3, d_octet_Get_l3, oI, oN, intsV, bytesV, propsV, propV, propC, bytesOf_map, h1, e1, e3, ho, hc, byteV, AVal.cells, Int.reduceLT]
    exact ih
theorem q_get (b : Bytes) (hl : b.length ≤ 9223372036854775807) : E 108 [bytesV b] [] = some (.int .u64 (getU b : Nat), []) := by
  have key := q_getl b hl b 0 0 rfl
  have z0 : ((0 : Nat) : Int) = 0 := rfl
  rw [z0] at key
  unfold K_octet_Get_l3 at key
  unfold getU
  rw [E_eq (by rfl) cf_octet_Get]
  simp -implicitDefEqProofs only [EVS0, EVS1, EVS2, EVS3, EVS4, EVS5, EVS6, EVS7, EVL0, EVL1, ite_tf, ite_ft, ite_tft, ite_ftf, ite_list, ite_tt, ite_ee, ite_nt, ite_ne, eq_self, implies_true, forall_const, exI, nsite, freeAt, execI, Opd.ev, tget, tins, tput, keepL, sitesOf, List.sum_cons, List.sum_nil, Nat.reduceAdd, Nat.reduceSub, Nat.reduceLT, Nat.reduceLeDiff, Nat.reduceEqDiff, Nat.reduceBEq, Nat.reduceMul, beq_self_eq_true, Bool.false_eq_true, ldA, stA, partA, faddrA, setAt, binA, arithA, shiftA, strA, unA, gSpan, gSkip, unG, ne_eq, Option.some.injEq, reduceCtorEq, decide_true, decide_false, elemsA, resA, resAll, resOne, enterA, decide_eq_true_eq, Bool.not_eq_true, Bool.decide_eq_true, ite_self, ↓reduceIte, noRefL, clrA, gcT, gcA, gcIds, reach, rhoOf, heapOf, idxA, genB, newGen, renB, refsB, List.contains_cons, List.range_succ, cb_octet_Get, b_octet_Get, cr_octet_Get, x_octet_Get_k0, d_octet_Get_k0, x_octet_Get_l3, d_octet_Get_l3, oI, oN, intsV, bytesV, propsV, propV, propC, bytesOf_map, intsV]
  exact key
theorem q_getC (σ : AHeap) (site own : Nat) (b : Bytes) (hl : b.length ≤ 9223372036854775807) (f : Bool) : callG E BY σ site 108 own true [.lst f (b.map byteV)] = some (.int .u64 (getU b : Nat), σ, {}) :=
  call_normT (q_get b hl) (by kernel_rfl) rfl rfl rfl (fun _ => rfl) _ _ _
end Go.Proofs.YtmlkhhidifjjfaaDoor
namespace Go.Proofs.YtmlkhhidifjjfaaDoor
set_option linter.unusedSimpArgs false
set_option linter.unusedVariables false
set_option maxHeartbeats 8000000
set_option maxRecDepth 10000
theorem q_joinl (ls : List Bytes) (hl : ls.length ≤ 9223372036854775807) : ∀ (r : List Bytes) (i : Nat) (acc full : Bytes), ls.drop i = r → full = acc ++ r.flatten → full.length ≤ 140737488355328 →
    K_octet_Join_l3 0 [(8, .int .i64 i), (7, .int .i64 ls.length), (6, .lst false (ls.map bytesV)), (3, .sl 0 0 0 acc.length)] [.row 0 1 (acc.map byteV)] = some (.sl 0 0 0 full.length, [.row 0 1 (full.map byteV)])
  | [], i, acc, full, h, hf, hn => by
    have h1 := drop_nil h
    have e : full = acc := by simpa using hf
    subst e
    unfold K_octet_Join_l3
    rw [evL_eq]
    simp -implicitDefEqProofs only [EVS0, EVS1, EVS2, EVS3, EVS4, EVS5, EVS6, EVS7, EVL0, EVL1, ite_tf, ite_ft, ite_tft, ite_ftf, ite_list, ite_tt, ite_ee, ite_nt, ite_ne, eq_self, implies_true, forall_const, exI, nsite, freeAt, execI, Opd.ev, tget, tins, tput, keepL, sitesOf, List.sum_cons, List.sum_nil, Nat.reduceAdd, Nat.reduceSub, Nat.reduceLT, Nat.reduceLeDiff, Nat.reduceEqDiff, Nat.reduceBEq, Nat.reduceMul, beq_self_eq_true, Bool.false_eq_true, ldA, stA, partA, faddrA, setAt, binA, arithA, shiftA, strA, unA, gSpan, gSkip, unG, ne_eq, Option.some.injEq, reduceCtorEq, decide_true, decide_false, elemsA, resA, resAll, resOne, enterA, decide_eq_true_eq, Bool.not_eq_true, Bool.decide_eq_true, ite_self, ↓reduceIte, noRefL, clrA, gcT, gcA, gcIds, reach, rhoOf, heapOf, idxA, genB, newGen, renB, refsB, List.contains_cons, List.range_succ, cb_octet_Join, b_octet_Join, cr_octet_Join, x_octet_Join_k0, d_octet_Join_k0, x_octet_Join_l3, d_octet_Join_l3, oI, oN, intsV, bytesV, propsV, propV, propC, bytesOf_map, h1, out_row0]
  | p :: r, i, acc, full, h, hf, hn => by
    have ih := q_joinl ls hl r (i + 1) (acc ++ p) full (drop_at h).2.1 (by rw [hf]; simp) hn
    have h1 : (i : Int) < ls.length := by have := (drop_at h).2.2; omega
    have e1 := iad (drop_at h).1 bytesV (k := 1) rfl
    have e3 := wrap_succ h1 hl
    have k1 := kokB p
    have k2 : (acc.length + p.length) * 1 ≤ 140737488355328 := by have := congrArg List.length hf; simp at this; omega
    have e4 : (acc ++ p).map byteV = acc.map byteV ++ p.map byteV := by simp
    have e5 : (acc ++ p).length = acc.length + p.length := by simp
    rw [e4, e5] at ih
    clear hf
    unfold K_octet_Join_l3 at ih ⊢
    rw [evL_eq]
    unfold bytesV at e1 ih ⊢
    simp -implicitDefEqProofs only [EVS0, EVS1, EVS2, EVS3, EVS4, EVS5, EVS6, EVS7, EVL0, EVL1, ite_tf, ite_ft, ite_tft, ite_ftf, ite_list, ite_tt, ite_ee, ite_nt, ite_ne, eq_self, implies_true, forall_const, exI, nsite, freeAt, execI, Opd.ev, tget, tins, tput, keepL, sitesOf, List.sum_cons, List.sum_nil, Nat.reduceAdd, Nat.reduceSub, Nat.reduceLT, Nat.reduceLeDiff, Nat.reduceEqDiff, Nat.reduceBEq, Nat.reduceMul, beq_self_eq_true, Bool.false_eq_true, ldA, stA, partA, faddrA, setAt, binA, arithA, shiftA, strA, unA, gSpan, gSkip, unG, ne_eq, Option.some.injEq, reduceCtorEq, decide_true, decide_false, elemsA, resA, resAll, resOne, enterA, decide_eq_true_eq, Bool.not_eq_true, Bool.decide_eq_true, ite_self, ↓reduceIte, noRefL, clrA, gcT, gcA, gcIds, reach, rhoOf, heapOf, idxA, genB, newGen, renB, refsB, List.contains_cons, List.range_succ, cb_octet_Join, b_octet_Join, cr_octet_Join, x_octet_Join_k0, d_octet_Join_k0, x_octet_Join_l3, d_octet_Join_l3, oI, oN, intsV, bytesV, propsV, propV, propC, bytesOf_map, h1, e1, e3, k1, k2, appA, AVal.cells]
    exact ih
theorem q_join (p : Bytes) (ls : List Bytes) (hl : (p :: ls).length ≤ 9223372036854775807) (hn : (p :: ls).flatten.length ≤ 140737488355328) : E 56 [.lst false ((p :: ls).map bytesV)] [] = some (.sl 0 0 0 (p :: ls).flatten.length, [.row 0 1 ((p :: ls).flatten.map byteV)]) := by
  have key := q_joinl (p :: ls) hl ls 1 p (p :: ls).flatten rfl rfl hn
  have k1 := kokB p
  have k2 : p.length * 1 ≤ 140737488355328 := by simp at hn; omega
  have h1 : (0 : Int) < ((p :: ls).length : Int) := by simp
  have hat : (p :: ls)[0]? = some p := rfl
  have e1 := iad hat bytesV (k := 1) rfl
  have z0 : ((0 : Nat) : Int) = 0 := rfl
  have z1 : ((1 : Nat) : Int) = 1 := rfl
  have w1 : IntKind.i64.wrap (0 + 1) = 1 := rfl
  rw [z0] at e1
  rw [z1] at key
  unfold K_octet_Join_l3 at key
  generalize hL : p :: ls = L at *
  rw [E_eq (by rfl) cf_octet_Join]
  unfold bytesV at e1 key ⊢
  simp -implicitDefEqProofs only [EVS0, EVS1, EVS2, EVS3, EVS4, EVS5, EVS6, EVS7, EVL0, EVL1, ite_tf, ite_ft, ite_tft, ite_ftf, ite_list, ite_tt, ite_ee, ite_nt, ite_ne, eq_self, implies_true, forall_const, exI, nsite, freeAt, execI, Opd.ev, tget, tins, tput, keepL, sitesOf, List.sum_cons, List.sum_nil, Nat.reduceAdd, Nat.reduceSub, Nat.reduceLT, Nat.reduceLeDiff, Nat.reduceEqDiff, Nat.reduceBEq, Nat.reduceMul, beq_self_eq_true, Bool.false_eq_true, ldA, stA, partA, faddrA, setAt, binA, arithA, shiftA, strA, unA, gSpan, gSkip, unG, ne_eq, Option.some.injEq, reduceCtorEq, decide_true, decide_false, elemsA, resA, resAll, resOne, enterA, decide_eq_true_eq, Bool.not_eq_true, Bool.decide_eq_true, ite_self, ↓reduceIte, noRefL, clrA, gcT, gcA, gcIds, reach, rhoOf, heapOf, idxA, genB, newGen, renB, refsB, List.contains_cons, List.range_succ, cb_octet_Join, b_octet_Join, cr_octet_Join, x_octet_Join_k0, d_octet_Join_k0, x_octet_Join_l3, d_octet_Join_l3, oI, oN, intsV, bytesV, propsV, propV, propC, bytesOf_map, intsV]
  rw [evL_eq]
  simp -implicitDefEqProofs only [EVS0, EVS1, EVS2, EVS3, EVS4, EVS5, EVS6, EVS7, EVL0, EVL1, ite_tf, ite_ft, ite_tft, ite_ftf, ite_list, ite_tt, ite_ee, ite_nt, ite_ne, eq_self, implies_true, forall_const, exI, nsite, freeAt, execI, Opd.ev, tget, tins, tput, keepL, sitesOf, List.sum_cons, List.sum_nil, Nat.reduceAdd, Nat.reduceSub, Nat.reduceLT, Nat.reduceLeDiff, Nat.reduceEqDiff, Nat.reduceBEq, Nat.reduceMul, beq_self_eq_true, Bool.false_eq_true, ldA, stA, partA, faddrA, setAt, binA, arithA, shiftA, strA, unA, gSpan, gSkip, unG, ne_eq, Option.some.injEq, reduceCtorEq, decide_true, decide_false, elemsA, resA, resAll, resOne, enterA, decide_eq_true_eq, Bool.not_eq_true, Bool.decide_eq_true, ite_self, ↓reduceIte, noRefL, clrA, gcT, gcA, gcIds, reach, rhoOf, heapOf, idxA, genB, newGen, renB, refsB, List.contains_cons, List.range_succ, cb_octet_Join, b_octet_Join, cr_octet_Join, x_octet_Join_k0, d_octet_Join_k0, x_octet_Join_l3, d_octet_Join_l3, oI, oN, intsV, bytesV, propsV, propV, propC, bytesOf_map, h1, e1, w1, k1, k2, appA, AVal.cells]
  exact key
theorem q_joinC (σ : AHeap) (site own : Nat) (f : Bool) (p : Bytes) (ls : List Bytes) (hl : (p :: ls).length ≤ 9223372036854775807) (hn : (p :: ls).flatten.length ≤ 140737488355328) : callG E BY σ site 56 own true [.lst f ((p :: ls).map bytesV)] = some (.lst false ((p :: ls).flatten.map byteV), σ, {}) := by
  have h := call_rown (byref := BY) (q_join p ls hl hn) (by rw [List.length_map]) rfl rfl σ site own
  cases f
  · exact h
  · rw [callG_plain (by kernel_rfl) rfl] at h ⊢
    exact h
theorem or_128 : ∀ n : Fin 256, IntKind.u8.wrap (((BitVec.ofInt IntKind.u8.bits ((n.val : Nat) : Int) ||| BitVec.ofInt IntKind.u8.bits 128).toNat : Nat) : Int) = ((n.val % 128 + 128 : Nat) : Int) := by decide +kernel
theorem or_128' (n : Nat) : IntKind.u8.wrap (((BitVec.ofInt IntKind.u8.bits (IntKind.u8.wrap (n : Int)) ||| BitVec.ofInt IntKind.u8.bits 128).toNat : Nat) : Int) = ((UInt8.ofNat (n % 128 + 128)).toNat : Int) := by
  have h := or_128 ⟨n % 256, Nat.mod_lt _ (by decide)⟩
  have e : IntKind.u8.wrap (n : Int) = ((n % 256 : Nat) : Int) := by rw [IntKind.wrap_u8]; omega
  rw [e, h, UInt8.toNat_ofNat']
  simp only
  omega
theorem q_varl : ∀ (k n : Nat) (acc full : Bytes), n < 128 ^ (k + 1) → acc.length + k ≤ 3 → full = acc ++ varL k n →
    K_octet_Var_l4 0 [(4, growV (acc.map byteV)), (0, .int .i64 (n : Nat))] (growH 1 (acc.map byteV)) = some (.tup [.sl 0 0 0 full.length, .int .i64 0], [.row 0 1 (full.map byteV)])
  | k, n, acc, full, hk, hacc, hf => by
    by_cases hn : n < 128
    · have h1 : ¬ ((n : Int) > 127) := by omega
      have hv : varL k n = [UInt8.ofNat n] := by cases k <;> simp [varL, hn]
      rw [hv] at hf
      have hb : IntKind.u8.wrap (n : Int) = ((UInt8.ofNat n).toNat : Int) := by rw [IntKind.wrap_u8, UInt8.toNat_ofNat']; omega
      subst hf
      unfold K_octet_Var_l4
      rw [evL_eq]
      cases acc with
      | nil =>
        simp -implicitDefEqProofs only [EVS0, EVS1, EVS2, EVS3, EVS4, EVS5, EVS6, EVS7, EVL0, EVL1, ite_tf, ite_ft, ite_tft, ite_ftf, ite_list, ite_tt, ite_ee, ite_nt, ite_ne, eq_self, implies_true, forall_const, exI, nsite, freeAt, execI, Opd.ev, tget, tins, tput, keepL, sitesOf, List.sum_cons, List.sum_nil, Nat.reduceAdd, Nat.reduceSub, Nat.reduceLT, Nat.reduceLeDiff, Nat.reduceEqDiff, Nat.reduceBEq, Nat.reduceMul, beq_self_eq_true, Bool.false_eq_true, ldA, stA, partA, faddrA, setAt, binA, arithA, shiftA, strA, unA, gSpan, gSkip, unG, ne_eq, Option.some.injEq, reduceCtorEq, decide_true, decide_false, elemsA, resA, resAll, resOne, enterA, decide_eq_true_eq, Bool.not_eq_true, Bool.decide_eq_true, ite_self, ↓reduceIte, noRefL, clrA, gcT, gcA, gcIds, reach, rhoOf, heapOf, idxA, genB, newGen, renB, refsB, List.contains_cons, List.range_succ, cb_octet_Var, b_octet_Var, cr_octet_Var, x_octet_Var_k0, d_octet_Var_k0, x_octet_Var_l4, d_octet_Var_l4, oI, oN, intsV, bytesV, propsV, propV, propC, bytesOf_map, h1, hb, growV_nil, growH_nil, List.map_nil, appA, kOk, viewAs, viewA, viewA1, viewsA, freezeA, List.foldl_cons, List.foldl_nil, List.length_singleton, Nat.one_mul, AVal.cells]
        simp [outA, gcA, gcIds, reach, refsL, refsV, rhoOf, heapOf, idxA, genB, newGen, renL, renV, renB, refsB, List.range_succ]
        rfl
      | cons a acc =>
        have hz : (acc.length + 1 + 1) * 1 ≤ 140737488355328 := by simp at hacc; omega
        simp -implicitDefEqProofs only [EVS0, EVS1, EVS2, EVS3, EVS4, EVS5, EVS6, EVS7, EVL0, EVL1, ite_tf, ite_ft, ite_tft, ite_ftf, ite_list, ite_tt, ite_ee, ite_nt, ite_ne, eq_self, implies_true, forall_const, exI, nsite, freeAt, execI, Opd.ev, tget, tins, tput, keepL, sitesOf, List.sum_cons, List.sum_nil, Nat.reduceAdd, Nat.reduceSub, Nat.reduceLT, Nat.reduceLeDiff, Nat.reduceEqDiff, Nat.reduceBEq, Nat.reduceMul, beq_self_eq_true, Bool.false_eq_true, ldA, stA, partA, faddrA, setAt, binA, arithA, shiftA, strA, unA, gSpan, gSkip, unG, ne_eq, Option.some.injEq, reduceCtorEq, decide_true, decide_false, elemsA, resA, resAll, resOne, enterA, decide_eq_true_eq, Bool.not_eq_true, Bool.decide_eq_true, ite_self, ↓reduceIte, noRefL, clrA, gcT, gcA, gcIds, reach, rhoOf, heapOf, idxA, genB, newGen, renB, refsB, List.contains_cons, List.range_succ, cb_octet_Var, b_octet_Var, cr_octet_Var, x_octet_Var_k0, d_octet_Var_k0, x_octet_Var_l4, d_octet_Var_l4, oI, oN, intsV, bytesV, propsV, propV, propC, bytesOf_map, h1, hb, growV_cons, growH_cons, List.map_cons, appA, kOk, viewAs, viewA, viewA1, viewsA, freezeA, List.foldl_cons, List.foldl_nil, List.length_singleton, Nat.one_mul, AVal.cells, hz]
        simp [outA, gcA, gcIds, reach, refsL, refsV, rhoOf, heapOf, idxA, genB, newGen, renL, renV, renB, refsB, List.range_succ]
        rfl
    · cases k with
      | zero => simp at hk; omega
      | succ k =>
        have hlt : n / 128 < 128 ^ (k + 1) := by
          rw [Nat.div_lt_iff_lt_mul (by decide)]
          rw [Nat.pow_succ] at hk; exact hk
        have hv : varL (k + 1) n = UInt8.ofNat (n % 128 + 128) :: varL k (n / 128) := by simp [varL, hn]
        have ih := q_varl k (n / 128) (acc ++ [UInt8.ofNat (n % 128 + 128)]) full hlt (by simp; omega) (by rw [hf, hv]; simp)
        clear hf
        have h1 : ((n : Int) > 127) := by omega
        have ho := or_128' n
        have hd : (n : Int).fdiv (2 ^ min (Int.toNat 7) IntKind.i64.bits) = ((n / 128 : Nat) : Int) := by
          rw [show (2 : Int) ^ min (Int.toNat 7) IntKind.i64.bits = 128 from rfl, Int.fdiv_eq_ediv_of_nonneg _ (by decide)]
          omega
        unfold K_octet_Var_l4 at ih ⊢
        rw [evL_eq]
        cases acc with
        | nil =>
          simp -implicitDefEqProofs only [EVS0, EVS1, EVS2, EVS3, EVS4, EVS5, EVS6, EVS7, EVL0, EVL1, ite_tf, ite_ft, ite_tft, ite_ftf, ite_list, ite_tt, ite_ee, ite_nt, ite_ne, eq_self, implies_true, forall_const, exI, nsite, freeAt, execI, Opd.ev, tget, tins, tput, keepL, sitesOf, List.sum_cons, List.sum_nil, Nat.reduceAdd, Nat.reduceSub, Nat.reduceLT, Nat.reduceLeDiff, Nat.reduceEqDiff, Nat.reduceBEq, Nat.reduceMul, beq_self_eq_true, Bool.false_eq_true, ldA, stA, partA, faddrA, setAt, binA, arithA, shiftA, strA, unA, gSpan, gSkip, unG, ne_eq, Option.some.injEq, reduceCtorEq, decide_true, decide_false, elemsA, resA, resAll, resOne, enterA, decide_eq_true_eq, Bool.not_eq_true, Bool.decide_eq_true, ite_self, ↓reduceIte, noRefL, clrA, gcT, gcA, gcIds, reach, rhoOf, heapOf, idxA, genB, newGen, renB, refsB, List.contains_cons, List.range_succ, cb_octet_Var, b_octet_Var, cr_octet_Var, x_octet_Var_k0, d_octet_Var_k0, x_octet_Var_l4, d_octet_Var_l4, oI, oN, intsV, bytesV, propsV, propV, propC, bytesOf_map, h1, ho, hd, growV_nil, growH_nil, List.map_nil, appA, kOk, viewAs, viewA, viewA1, viewsA, freezeA, List.foldl_cons, List.foldl_nil, List.length_singleton, Nat.one_mul, AVal.cells, Int.reduceLT]
          simp only [List.map_append, List.map_cons, List.map_nil, List.nil_append, List.cons_append, growV_cons, growV_nil, growH_cons, growH_nil, List.length_append, List.length_cons, List.length_map, List.length_nil, propV, propC, bytesV, Nat.zero_add, Nat.add_assoc, Nat.reduceAdd, byteV] at ih
          exact ih
        | cons a acc =>
          have hz : (acc.length + 1 + 1) * 1 ≤ 140737488355328 := by simp at hacc; omega
          simp -implicitDefEqProofs only [EVS0, EVS1, EVS2, EVS3, EVS4, EVS5, EVS6, EVS7, EVL0, EVL1, ite_tf, ite_ft, ite_tft, ite_ftf, ite_list, ite_tt, ite_ee, ite_nt, ite_ne, eq_self, implies_true, forall_const, exI, nsite, freeAt, execI, Opd.ev, tget, tins, tput, keepL, sitesOf, List.sum_cons, List.sum_nil, Nat.reduceAdd, Nat.reduceSub, Nat.reduceLT, Nat.reduceLeDiff, Nat.reduceEqDiff, Nat.reduceBEq, Nat.reduceMul, beq_self_eq_true, Bool.false_eq_true, ldA, stA, partA, faddrA, setAt, binA, arithA, shiftA, strA, unA, gSpan, gSkip, unG, ne_eq, Option.some.injEq, reduceCtorEq, decide_true, decide_false, elemsA, resA, resAll, resOne, enterA, decide_eq_true_eq, Bool.not_eq_true, Bool.decide_eq_true, ite_self, ↓reduceIte, noRefL, clrA, gcT, gcA, gcIds, reach, rhoOf, heapOf, idxA, genB, newGen, renB, refsB, List.contains_cons, List.range_succ, cb_octet_Var, b_octet_Var, cr_octet_Var, x_octet_Var_k0, d_octet_Var_k0, x_octet_Var_l4, d_octet_Var_l4, oI, oN, intsV, bytesV, propsV, propV, propC, bytesOf_map, h1, ho, hd, growV_cons, growH_cons, List.map_cons, appA, kOk, viewAs, viewA, viewA1, viewsA, freezeA, List.foldl_cons, List.foldl_nil, List.length_singleton, Nat.one_mul, AVal.cells, hz, Int.reduceLT]
          simp only [List.map_append, List.map_cons, List.map_nil, List.nil_append, List.cons_append, growV_cons, growV_nil, growH_cons, growH_nil, List.length_append, List.length_cons, List.length_map, List.length_nil, propV, propC, bytesV, Nat.zero_add, Nat.add_assoc, Nat.reduceAdd, byteV] at ih
          exact ih
theorem q_var (n : Int) : E 82 [.int .i64 n] [] = some (if n < 0 ∨ n > 268435455 then (.tup [.lst true [], .int .i64 10], []) else (.tup [.sl 0 0 0 (varL 3 n.toNat).length, .int .i64 0], [.row 0 1 ((varL 3 n.toNat).map byteV)])) := by
  rw [E_eq (by rfl) cf_octet_Var]
  by_cases h0 : n < 0
  · have : n < 0 ∨ n > 268435455 := Or.inl h0
    simp -implicitDefEqProofs only [EVS0, EVS1, EVS2, EVS3, EVS4, EVS5, EVS6, EVS7, EVL0, EVL1, ite_tf, ite_ft, ite_tft, ite_ftf, ite_list, ite_tt, ite_ee, ite_nt, ite_ne, eq_self, implies_true, forall_const, exI, nsite, freeAt, execI, Opd.ev, tget, tins, tput, keepL, sitesOf, List.sum_cons, List.sum_nil, Nat.reduceAdd, Nat.reduceSub, Nat.reduceLT, Nat.reduceLeDiff, Nat.reduceEqDiff, Nat.reduceBEq, Nat.reduceMul, beq_self_eq_true, Bool.false_eq_true, ldA, stA, partA, faddrA, setAt, binA, arithA, shiftA, strA, unA, gSpan, gSkip, unG, ne_eq, Option.some.injEq, reduceCtorEq, decide_true, decide_false, elemsA, resA, resAll, resOne, enterA, decide_eq_true_eq, Bool.not_eq_true, Bool.decide_eq_true, ite_self, ↓reduceIte, noRefL, clrA, gcT, gcA, gcIds, reach, rhoOf, heapOf, idxA, genB, newGen, renB, refsB, List.contains_cons, List.range_succ, cb_octet_Var, b_octet_Var, cr_octet_Var, x_octet_Var_k0, d_octet_Var_k0, x_octet_Var_l4, d_octet_Var_l4, oI, oN, intsV, bytesV, propsV, propV, propC, bytesOf_map, h0, this]
  · by_cases h2 : n > 268435455
    · have : n < 0 ∨ n > 268435455 := Or.inr h2
      simp -implicitDefEqProofs only [EVS0, EVS1, EVS2, EVS3, EVS4, EVS5, EVS6, EVS7, EVL0, EVL1, ite_tf, ite_ft, ite_tft, ite_ftf, ite_list, ite_tt, ite_ee, ite_nt, ite_ne, eq_self, implies_true, forall_const, exI, nsite, freeAt, execI, Opd.ev, tget, tins, tput, keepL, sitesOf, List.sum_cons, List.sum_nil, Nat.reduceAdd, Nat.reduceSub, Nat.reduceLT, Nat.reduceLeDiff, Nat.reduceEqDiff, Nat.reduceBEq, Nat.reduceMul, beq_self_eq_true, Bool.false_eq_true, ldA, stA, partA, faddrA, setAt, binA, arithA, shiftA, strA, unA, gSpan, gSkip, unG, ne_eq, Option.some.injEq, reduceCtorEq, decide_true, decide_false, elemsA, resA, resAll, resOne, enterA, decide_eq_true_eq, Bool.not_eq_true, Bool.decide_eq_true, ite_self, ↓reduceIte, noRefL, clrA, gcT, gcA, gcIds, reach, rhoOf, heapOf, idxA, genB, newGen, renB, refsB, List.contains_cons, List.range_succ, cb_octet_Var, b_octet_Var, cr_octet_Var, x_octet_Var_k0, d_octet_Var_k0, x_octet_Var_l4, d_octet_Var_l4, oI, oN, intsV, bytesV, propsV, propV, propC, bytesOf_map, h0, h2, this]
    · have : ¬ (n < 0 ∨ n > 268435455) := by omega
      have key := q_varl 3 n.toNat [] (varL 3 n.toNat) (by omega) (by simp) rfl
      have e : ((n.toNat : Nat) : Int) = n := by omega
      rw [e] at key
      simp only [List.map_nil, growV_nil, growH_nil] at key
      unfold K_octet_Var_l4 at key
      generalize varL 3 n.toNat = V at *
      simp -implicitDefEqProofs only [EVS0, EVS1, EVS2, EVS3, EVS4, EVS5, EVS6, EVS7, EVL0, EVL1, ite_tf, ite_ft, ite_tft, ite_ftf, ite_list, ite_tt, ite_ee, ite_nt, ite_ne, eq_self, implies_true, forall_const, exI, nsite, freeAt, execI, Opd.ev, tget, tins, tput, keepL, sitesOf, List.sum_cons, List.sum_nil, Nat.reduceAdd, Nat.reduceSub, Nat.reduceLT, Nat.reduceLeDiff, Nat.reduceEqDiff, Nat.reduceBEq, Nat.reduceMul, beq_self_eq_true, Bool.false_eq_true, ldA, stA, partA, faddrA, setAt, binA, arithA, shiftA, strA, unA, gSpan, gSkip, unG, ne_eq, Option.some.injEq, reduceCtorEq, decide_true, decide_false, elemsA, resA, resAll, resOne, enterA, decide_eq_true_eq, Bool.not_eq_true, Bool.decide_eq_true, ite_self, ↓reduceIte, noRefL, clrA, gcT, gcA, gcIds, reach, rhoOf, heapOf, idxA, genB, newGen, renB, refsB, List.contains_cons, List.range_succ, cb_octet_Var, b_octet_Var, cr_octet_Var, x_octet_Var_k0, d_octet_Var_k0, x_octet_Var_l4, d_octet_Var_l4, oI, oN, intsV, bytesV, propsV, propV, propC, bytesOf_map, h0, h2, this]
      exact key
def varT (n : Int) : AVal := .tup [.lst false ((varF n).1.map byteV), .int .i64 (varF n).2]
theorem call_tupr {O : Oracle} {byref : Nat → Bool} {f : Nat} {args args' : List AVal} {k n : Nat} {xs : List AVal} {c : Int} (h : O f args' [] = some (.tup [.sl 0 0 0 n, .int .i64 c], [.row 0 k xs])) (hl : xs.length = n) (hb : byref f = false) (hp : args.all plainV = true) (hn : args.map normV = args') (σ : AHeap) (site own : Nat) : callG O byref σ site f own true args = some (.tup [.lst false xs, .int .i64 c], σ, {}) := by
  subst hl
  rw [callG_plain hb hp, hn, h]
  simp [askO, resV, viewR, viewAs, viewA, viewA1, elemsA, freezeA, gcA, gcIds, reach, refsL, refsV, renL, renV, heapOf, backG, flatA, flat2, flat1]
theorem q_varC (σ : AHeap) (site own : Nat) (n : Int) : callG E BY σ site 82 own true [.int .i64 n] = some (varT n, σ, {}) := by
  have h := q_var n
  unfold varT varF
  by_cases hc : n < 0 ∨ n > 268435455
  · rw [if_pos hc] at h ⊢
    exact call_normT h (by kernel_rfl) rfl rfl rfl (fun _ => rfl) _ _ _
  · rw [if_neg hc] at h ⊢
    exact call_tupr h (by rw [List.length_map]) (by kernel_rfl) rfl rfl _ _ _
end Go.Proofs.YtmlkhhidifjjfaaDoor
namespace Go.Proofs.YtmlkhhidifjjfaaDoor
set_option linter.unusedSimpArgs false
set_option linter.unusedVariables false
set_option maxHeartbeats 8000000
set_option maxRecDepth 10000
def gvT (x : Nat × Nat × Int) : AVal := .tup [.int .i64 (x.1 : Nat), .int .i64 (x.2.1 : Nat), .int .i64 x.2.2]
theorem and_127 : ∀ n : Fin 256, IntKind.u8.wrap (((BitVec.ofInt IntKind.u8.bits ((n.val : Nat) : Int) &&& BitVec.ofInt IntKind.u8.bits 127).toNat : Nat) : Int) = ((n.val % 128 : Nat) : Int) := by decide +kernel
theorem and_127' (c : UInt8) : IntKind.u8.wrap (((BitVec.ofInt IntKind.u8.bits (c.toNat : Int) &&& BitVec.ofInt IntKind.u8.bits 127).toNat : Nat) : Int) = ((c.toNat % 128 : Nat) : Int) := and_127 ⟨c.toNat, c.toNat_lt⟩
theorem pow_128 (i : Nat) : 128 ^ i = 2 ^ (7 * i) := by rw [Nat.pow_mul]
/-- two numbers of which one lies below the other's lowest bit -/
theorem or_sum (n a i : Nat) (hi : i ≤ 3) (hn : n < 128 ^ i) (ha : a < 128) : IntKind.i64.wrap (((BitVec.ofInt IntKind.i64.bits (n : Int) ||| BitVec.ofInt IntKind.i64.bits ((a * 128 ^ i : Nat) : Int)).toNat : Nat) : Int) = ((n + a * 128 ^ i : Nat) : Int) := by
  have hb : IntKind.i64.bits = 64 := rfl
  have hp : 128 ^ i ≤ 128 ^ 3 := Nat.pow_le_pow_right (by decide) hi
  have hm : a * 128 ^ i ≤ 127 * 128 ^ 3 := Nat.mul_le_mul (by omega) hp
  rw [hb, BitVec.toNat_or]
  simp only [BitVec.ofInt_natCast, BitVec.toNat_ofNat]
  have e1 : n % 2 ^ 64 = n := Nat.mod_eq_of_lt (by omega)
  have e2 : a * 128 ^ i % 2 ^ 64 = a * 128 ^ i := Nat.mod_eq_of_lt (by omega)
  rw [e1, e2]
  have e3 : a * 128 ^ i = a <<< (7 * i) := by rw [Nat.shiftLeft_eq, pow_128]
  have e4 : n ||| a * 128 ^ i = n + a * 128 ^ i := by
    rw [e3, Nat.or_comm, ← Nat.shiftLeft_add_eq_or_of_lt (by rw [← pow_128]; exact hn)]
    omega
  rw [e4, wrap_nat (by omega) (by omega)]
theorem shl_7 (a i : Nat) (hi : i ≤ 3) (ha : a < 128) : IntKind.i64.wrap ((a : Int) * 2 ^ min (Int.toNat ((7 * i : Nat) : Int)) IntKind.i64.bits) = ((a * 128 ^ i : Nat) : Int) := by
  have hp : 128 ^ i ≤ 128 ^ 3 := Nat.pow_le_pow_right (by decide) hi
  have hm : a * 128 ^ i ≤ 127 * 128 ^ 3 := Nat.mul_le_mul (by omega) hp
  have e : min (Int.toNat ((7 * i : Nat) : Int)) IntKind.i64.bits = 7 * i := by
    have hb : IntKind.i64.bits = 64 := rfl
    rw [hb]; omega
  have e2 : ((a : Int) * 2 ^ (7 * i)) = ((a * 128 ^ i : Nat) : Int) := by rw [pow_128]; simp
  rw [e, e2, wrap_nat (by omega) (by omega)]
theorem gvA_bound (n i a : Nat) (hn : n < 128 ^ i) (ha : a < 128) : n + a * 128 ^ i < 128 ^ (i + 1) := by
  have : a * 128 ^ i ≤ 127 * 128 ^ i := Nat.mul_le_mul_right _ (by omega)
  rw [Nat.pow_succ]; omega
theorem q_getvarl (b : Bytes) (hl : b.length ≤ 9223372036854775807) : ∀ (r : Bytes) (i n : Nat), i ≤ 4 → i ≤ b.length → n < 128 ^ i → b.drop i = r →
    K_octet_GetVar_l2 0 [(9, .int .i64 i), (8, .int .i64 b.length), (7, .lst false (b.map byteV)), (2, .int .i64 n), (0, .lst false (b.map byteV))] [] = some (gvT (gvA i n r), [])
  | [], i, n, hi, hib, hn, h => by
    have h1 := drop_nil h
    unfold K_octet_GetVar_l2
    rw [evL_eq, gvA]
    by_cases h4 : i < 4
    · have h5 : (b.length : Int) < 4 := by omega
      simp -implicitDefEqProofs only [EVS0, EVS1, EVS2, EVS3, EVS4, EVS5, EVS6, EVS7, EVL0, EVL1, ite_tf, ite_ft, ite_tft, ite_ftf, ite_list, ite_tt, ite_ee, ite_nt, ite_ne, eq_self, implies_true, forall_const, exI, nsite, freeAt, execI, Opd.ev, tget, tins, tput, keepL, sitesOf, List.sum_cons, List.sum_nil, Nat.reduceAdd, Nat.reduceSub, Nat.reduceLT, Nat.reduceLeDiff, Nat.reduceEqDiff, Nat.reduceBEq, Nat.reduceMul, beq_self_eq_true, Bool.false_eq_true, ldA, stA, partA, faddrA, setAt, binA, arithA, shiftA, strA, unA, gSpan, gSkip, unG, ne_eq, Option.some.injEq, reduceCtorEq, decide_true, decide_false, elemsA, resA, resAll, resOne, enterA, decide_eq_true_eq, Bool.not_eq_true, Bool.decide_eq_true, ite_self, ↓reduceIte, noRefL, clrA, gcT, gcA, gcIds, reach, rhoOf, heapOf, idxA, genB, newGen, renB, refsB, List.contains_cons, List.range_succ, cb_octet_GetVar, b_octet_GetVar, cr_octet_GetVar, x_octet_GetVar_k0, d_octet_GetVar_k0, x_octet_GetVar_l2, d_octet_GetVar_l2, oI, oN, intsV, bytesV, propsV, propV, propC, bytesOf_map, h1, h4, h5, gvT]
      rfl
    · have h5 : ¬ (b.length : Int) < 4 := by omega
      simp -implicitDefEqProofs only [EVS0, EVS1, EVS2, EVS3, EVS4, EVS5, EVS6, EVS7, EVL0, EVL1, ite_tf, ite_ft, ite_tft, ite_ftf, ite_list, ite_tt, ite_ee, ite_nt, ite_ne, eq_self, implies_true, forall_const, exI, nsite, freeAt, execI, Opd.ev, tget, tins, tput, keepL, sitesOf, List.sum_cons, List.sum_nil, Nat.reduceAdd, Nat.reduceSub, Nat.reduceLT, Nat.reduceLeDiff, Nat.reduceEqDiff, Nat.reduceBEq, Nat.reduceMul, beq_self_eq_true, Bool.false_eq_true, ldA, stA, partA, faddrA, setAt, binA, arithA, shiftA, strA, unA, gSpan, gSkip, unG, ne_eq, Option.some.injEq, reduceCtorEq, decide_true, decide_false, elemsA, resA, resAll, resOne, enterA, decide_eq_true_eq, Bool.not_eq_true, Bool.decide_eq_true, ite_self, ↓reduceIte, noRefL, clrA, gcT, gcA, gcIds, reach, rhoOf, heapOf, idxA, genB, newGen, renB, refsB, List.contains_cons, List.range_succ, cb_octet_GetVar, b_octet_GetVar, cr_octet_GetVar, x_octet_GetVar_k0, d_octet_GetVar_k0, x_octet_GetVar_l2, d_octet_GetVar_l2, oI, oN, intsV, bytesV, propsV, propV, propC, bytesOf_map, h1, h4, h5, gvT]
      rfl
  | c :: r, i, n, hi, hib, hn, h => by
    have hlt := (drop_at h).2.2
    have h1 : (i : Int) < b.length := by omega
    have e1 := iad (drop_at h).1 byteV (k := 1) rfl
    have e3 := wrap_succ h1 hl
    rw [gvA]
    by_cases h4 : i = 4
    · have h5 : ¬ (b.length : Int) < 4 := by omega
      have h6 : ((i : Int) == 4) = true := by simp; omega
      rw [if_pos h4]
      unfold K_octet_GetVar_l2
      rw [evL_eq]
      simp -implicitDefEqProofs only [EVS0, EVS1, EVS2, EVS3, EVS4, EVS5, EVS6, EVS7, EVL0, EVL1, ite_tf, ite_ft, ite_tft, ite_ftf, ite_list, ite_tt, ite_ee, ite_nt, ite_ne, eq_self, implies_true, forall_const, exI, nsite, freeAt, execI, Opd.ev, tget, tins, tput, keepL, sitesOf, List.sum_cons, List.sum_nil, Nat.reduceAdd, Nat.reduceSub, Nat.reduceLT, Nat.reduceLeDiff, Nat.reduceEqDiff, Nat.reduceBEq, Nat.reduceMul, beq_self_eq_true, Bool.false_eq_true, ldA, stA, partA, faddrA, setAt, binA, arithA, shiftA, strA, unA, gSpan, gSkip, unG, ne_eq, Option.some.injEq, reduceCtorEq, decide_true, decide_false, elemsA, resA, resAll, resOne, enterA, decide_eq_true_eq, Bool.not_eq_true, Bool.decide_eq_true, ite_self, ↓reduceIte, noRefL, clrA, gcT, gcA, gcIds, reach, rhoOf, heapOf, idxA, genB, newGen, renB, refsB, List.contains_cons, List.range_succ, cb_octet_GetVar, b_octet_GetVar, cr_octet_GetVar, x_octet_GetVar_k0, d_octet_GetVar_k0, x_octet_GetVar_l2, d_octet_GetVar_l2, oI, oN, intsV, bytesV, propsV, propV, propC, bytesOf_map, h1, e1, h5, h6, gvT, byteV, AVal.cells]
      rfl
    · have h6 : ((i : Int) == 4) = false := by simp; omega
      have hm := and_127' c
      have ha : c.toNat % 128 < 128 := Nat.mod_lt _ (by decide)
      have hi64 : IntKind.i64.wrap ((c.toNat % 128 : Nat) : Int) = ((c.toNat % 128 : Nat) : Int) := wrap_nat (by omega) (by omega)
      have h7 : IntKind.i64.wrap (7 * (i : Int)) = ((7 * i : Nat) : Int) := by rw [wrap_nat (by omega) (by omega)]; omega
      have hneg : ¬ ((7 * i : Nat) : Int) < 0 := by omega
      have hs := shl_7 (c.toNat % 128) i (by omega) ha
      have ho := or_sum n (c.toNat % 128) i (by omega) hn ha
      by_cases hc : c.toNat < 128
      · have hc' : (c.toNat : Int) < 128 := by omega
        unfold K_octet_GetVar_l2
        rw [evL_eq]
        by_cases hc0 : c = 0
        · have hc1 : ((c.toNat : Int) == 0) = true := by rw [hc0]; rfl
          by_cases hip : 0 < i
          · have hip' : (i : Int) > 0 := by omega
            have hcc : c = 0 ∧ 0 < i := ⟨hc0, hip⟩
            simp -implicitDefEqProofs only [EVS0, EVS1, EVS2, EVS3, EVS4, EVS5, EVS6, EVS7, EVL0, EVL1, ite_tf, ite_ft, ite_tft, ite_ftf, ite_list, ite_tt, ite_ee, ite_nt, ite_ne, eq_self, implies_true, forall_const, exI, nsite, freeAt, execI, Opd.ev, tget, tins, tput, keepL, sitesOf, List.sum_cons, List.sum_nil, Nat.reduceAdd, Nat.reduceSub, Nat.reduceLT, Nat.reduceLeDiff, Nat.reduceEqDiff, Nat.reduceBEq, Nat.reduceMul, beq_self_eq_true, Bool.false_eq_true, ldA, stA, partA, faddrA, setAt, binA, arithA, shiftA, strA, unA, gSpan, gSkip, unG, ne_eq, Option.some.injEq, reduceCtorEq, decide_true, decide_false, elemsA, resA, resAll, resOne, enterA, decide_eq_true_eq, Bool.not_eq_true, Bool.decide_eq_true, ite_self, ↓reduceIte, noRefL, clrA, gcT, gcA, gcIds, reach, rhoOf, heapOf, idxA, genB, newGen, renB, refsB, List.contains_cons, List.range_succ, cb_octet_GetVar, b_octet_GetVar, cr_octet_GetVar, x_octet_GetVar_k0, d_octet_GetVar_k0, x_octet_GetVar_l2, d_octet_GetVar_l2, oI, oN, intsV, bytesV, propsV, propV, propC, bytesOf_map, h1, e1, h4, h6, hm, hi64, h7, hneg, hs, ho, hc, hc', hc1, hip', hcc, gvT, byteV, AVal.cells]
            rfl
          · have hip' : ¬ (i : Int) > 0 := by omega
            have hcc : ¬ (c = 0 ∧ 0 < i) := fun h => hip h.2
            simp -implicitDefEqProofs only [EVS0, EVS1, EVS2, EVS3, EVS4, EVS5, EVS6, EVS7, EVL0, EVL1, ite_tf, ite_ft, ite_tft, ite_ftf, ite_list, ite_tt, ite_ee, ite_nt, ite_ne, eq_self, implies_true, forall_const, exI, nsite, freeAt, execI, Opd.ev, tget, tins, tput, keepL, sitesOf, List.sum_cons, List.sum_nil, Nat.reduceAdd, Nat.reduceSub, Nat.reduceLT, Nat.reduceLeDiff, Nat.reduceEqDiff, Nat.reduceBEq, Nat.reduceMul, beq_self_eq_true, Bool.false_eq_true, ldA, stA, partA, faddrA, setAt, binA, arithA, shiftA, strA, unA, gSpan, gSkip, unG, ne_eq, Option.some.injEq, reduceCtorEq, decide_true, decide_false, elemsA, resA, resAll, resOne, enterA, decide_eq_true_eq, Bool.not_eq_true, Bool.decide_eq_true, ite_self, ↓reduceIte, noRefL, clrA, gcT, gcA, gcIds, reach, rhoOf, heapOf, idxA, genB, newGen, renB, refsB, List.contains_cons, List.range_succ, cb_octet_GetVar, b_octet_GetVar, cr_octet_GetVar, x_octet_GetVar_k0, d_octet_GetVar_k0, x_octet_GetVar_l2, d_octet_GetVar_l2, oI, oN, intsV, bytesV, propsV, propV, propC, bytesOf_map, h1, e1, h4, h6, hm, hi64, h7, hneg, hs, ho, hc, hc', hc1, hip', hcc, e3, gvT, byteV, AVal.cells]
        · have hc1 : ((c.toNat : Int) == 0) = false := by
            have : c.toNat ≠ 0 := fun h => hc0 (UInt8.toNat_inj.1 (by simpa using h))
            simp; omega
          have hcc : ¬ (c = 0 ∧ 0 < i) := fun h => hc0 h.1
          simp -implicitDefEqProofs only [EVS0, EVS1, EVS2, EVS3, EVS4, EVS5, EVS6, EVS7, EVL0, EVL1, ite_tf, ite_ft, ite_tft, ite_ftf, ite_list, ite_tt, ite_ee, ite_nt, ite_ne, eq_self, implies_true, forall_const, exI, nsite, freeAt, execI, Opd.ev, tget, tins, tput, keepL, sitesOf, List.sum_cons, List.sum_nil, Nat.reduceAdd, Nat.reduceSub, Nat.reduceLT, Nat.reduceLeDiff, Nat.reduceEqDiff, Nat.reduceBEq, Nat.reduceMul, beq_self_eq_true, Bool.false_eq_true, ldA, stA, partA, faddrA, setAt, binA, arithA, shiftA, strA, unA, gSpan, gSkip, unG, ne_eq, Option.some.injEq, reduceCtorEq, decide_true, decide_false, elemsA, resA, resAll, resOne, enterA, decide_eq_true_eq, Bool.not_eq_true, Bool.decide_eq_true, ite_self, ↓reduceIte, noRefL, clrA, gcT, gcA, gcIds, reach, rhoOf, heapOf, idxA, genB, newGen, renB, refsB, List.contains_cons, List.range_succ, cb_octet_GetVar, b_octet_GetVar, cr_octet_GetVar, x_octet_GetVar_k0, d_octet_GetVar_k0, x_octet_GetVar_l2, d_octet_GetVar_l2, oI, oN, intsV, bytesV, propsV, propV, propC, bytesOf_map, h1, e1, h4, h6, hm, hi64, h7, hneg, hs, ho, hc, hc', hc1, hcc, e3, gvT, byteV, AVal.cells]
      · have hc' : ¬ (c.toNat : Int) < 128 := by omega
        have ih := q_getvarl b hl r (i + 1) (n + c.toNat % 128 * 128 ^ i) (by omega) (by omega) (gvA_bound n i _ hn ha) (drop_at h).2.1
        unfold K_octet_GetVar_l2 at ih ⊢
        rw [evL_eq]
        simp -implicitDefEqProofs only [EVS0, EVS1, EVS2, EVS3, EVS4, EVS5, EVS6, EVS7, EVL0, EVL1, ite_tf, ite_ft, ite_tft, ite_ftf, ite_list, ite_tt, ite_ee, ite_nt, ite_ne, eq_self, implies_true, forall_const, exI, nsite, freeAt, execI, Opd.ev, tget, tins, tput, keepL, sitesOf, List.sum_cons, List.sum_nil, Nat.reduceAdd, Nat.reduceSub, Nat.reduceLT, Nat.reduceLeDiff, Nat.reduceEqDiff, Nat.reduceBEq, Nat.reduceMul, beq_self_eq_true, Bool.false_eq_true, ldA, stA, partA, faddrA, setAt, binA, arithA, shiftA, strA, unA, gSpan, gSkip, unG, ne_eq, Option.some.injEq, reduceCtorEq, decide_true, decide_false, elemsA, resA, resAll, resOne, enterA, decide_eq_true_eq, Bool.not_eq_true, Bool.decide_eq_true, ite_self, ↓reduceIte, noRefL, clrA, gcT, gcA, gcIds, reach, rhoOf, heapOf, idxA, genB, newGen, renB, refsB, List.contains_cons, List.range_succ, cb_octet_GetVar, b_octet_GetVar, cr_octet_GetVar, x_octet_GetVar_k0, d_octet_GetVar_k0, x_octet_GetVar_l2, d_octet_GetVar_l2, oI, oN, intsV, bytesV, propsV, propV, propC, bytesOf_map, h1, e1, h4, h6, hm, hi64, h7, hneg, hs, ho, hc, hc', e3, byteV, AVal.cells]
        exact ih
theorem q_getvar (b : Bytes) (hl : b.length ≤ 9223372036854775807) : E 135 [bytesV b] [] = some (gvT (getVarF b), []) := by
  have key := q_getvarl b hl b 0 0 (by omega) (by omega) (by simp) rfl
  have z0 : ((0 : Nat) : Int) = 0 := rfl
  rw [z0] at key
  unfold K_octet_GetVar_l2 at key
  unfold getVarF
  rw [E_eq (by rfl) cf_octet_GetVar]
  simp -implicitDefEqProofs only [EVS0, EVS1, EVS2, EVS3, EVS4, EVS5, EVS6, EVS7, EVL0, EVL1, ite_tf, ite_ft, ite_tft, ite_ftf, ite_list, ite_tt, ite_ee, ite_nt, ite_ne, eq_self, implies_true, forall_const, exI, nsite, freeAt, execI, Opd.ev, tget, tins, tput, keepL, sitesOf, List.sum_cons, List.sum_nil, Nat.reduceAdd, Nat.reduceSub, Nat.reduceLT, Nat.reduceLeDiff, Nat.reduceEqDiff, Nat.reduceBEq, Nat.reduceMul, beq_self_eq_true, Bool.false_eq_true, ldA, stA, partA, faddrA, setAt, binA, arithA, shiftA, strA, unA, gSpan, gSkip, unG, ne_eq, Option.some.injEq, reduceCtorEq, decide_true, decide_false, elemsA, resA, resAll, resOne, enterA, decide_eq_true_eq, Bool.not_eq_true, Bool.decide_eq_true, ite_self, ↓reduceIte, noRefL, clrA, gcT, gcA, gcIds, reach, rhoOf, heapOf, idxA, genB, newGen, renB, refsB, List.contains_cons, List.range_succ, cb_octet_GetVar, b_octet_GetVar, cr_octet_GetVar, x_octet_GetVar_k0, d_octet_GetVar_k0, x_octet_GetVar_l2, d_octet_GetVar_l2, oI, oN, intsV, bytesV, propsV, propV, propC, bytesOf_map, intsV]
  exact key
theorem q_getvarC (σ : AHeap) (site own : Nat) (f : Bool) (b : Bytes) (hl : b.length ≤ 9223372036854775807) : callG E BY σ site 135 own true [.lst f (b.map byteV)] = some (gvT (getVarF b), σ, {}) :=
  call_normT (q_getvar b hl) (by kernel_rfl) rfl rfl rfl (fun _ => rfl) _ _ _
end Go.Proofs.YtmlkhhidifjjfaaDoor
namespace Go.Proofs.YtmlkhhidifjjfaaDoor
set_option linter.unusedSimpArgs false
set_option linter.unusedVariables false
set_option maxHeartbeats 4000000
set_option maxRecDepth 10000
theorem decA_drop (l : List UInt8) (p : Nat) : decA l p = Lib.decodeL (l.drop p) := by
  have := Lib.decodeL_drop ⟨l.toArray⟩ p
  simpa [decA] using this.symm
/-- no zero among the runes -/
def zfG : Nat → List UInt8 → Bool
  | 0, _ => true
  | n + 1, l => if l = [] then true else if (Lib.decodeL l).1 = 0 then false else zfG n (l.drop (Lib.decodeL l).2)
def textB (l : List UInt8) : Bool := zfG l.length l && Lib.validD l
theorem q_valid (l : List UInt8) : E 142 [.str l] [] = some (.bool (Lib.validD l), []) := EV_some.2 ⟨1, rfl⟩
theorem q_validC (σ : AHeap) (site own : Nat) (view : Bool) (l : List UInt8) : callG E BY σ site 142 own view [.str l] = some (.bool (Lib.validD l), σ, {}) :=
  call_flat (q_valid l) (by kernel_rfl) (by simp -implicitDefEqProofs only [EVS0, EVS1, EVS2, EVS3, EVS4, EVS5, EVS6, EVS7, EVL0, EVL1, eq_self, implies_true, Bool.false_eq_true, intsV, bytesV, propsV, propV, propC, intsV]) (by simp -implicitDefEqProofs only [EVS0, EVS1, EVS2, EVS3, EVS4, EVS5, EVS6, EVS7, EVL0, EVL1, eq_self, implies_true, Bool.false_eq_true, intsV, bytesV, propsV, propV, propC, intsV]) rfl (fun _ => rfl) _ _ _ _
theorem q_istl (s : List UInt8) : ∀ (n p : Nat), s.length - p ≤ n → p ≤ s.length → K_octet_IsText_l2 0 [(6, .ref 0 0), (0, .str s)] [.siter s p] = some (.bool (zfG n (s.drop p) && Lib.validD s), [])
  | n, p, hn, hp => by
    by_cases h : p < s.length
    · obtain ⟨n, rfl⟩ : ∃ m, n = m + 1 := ⟨n - 1, by omega⟩
      have hw := Lib.decodeL_width (s.drop p)
      have hne : s.drop p ≠ [] := by rw [ne_eq, List.drop_eq_nil_iff]; omega
      have hle := Lib.decodeL_le (s.drop p) hne
      rw [List.length_drop] at hle
      have ih := q_istl s n (p + (Lib.decodeL (s.drop p)).2) (by omega) (by omega)
      rw [← List.drop_drop] at ih
      unfold K_octet_IsText_l2 at ih ⊢
      rw [evL_eq]
      by_cases hz : (Lib.decodeL (s.drop p)).1 = 0
      · have hz' : ((Lib.decodeL (s.drop p)).1 : Int) = 0 := by omega
        simp -implicitDefEqProofs only [EVS0, EVS1, EVS2, EVS3, EVS4, EVS5, EVS6, EVS7, EVL0, EVL1, ite_tf, ite_ft, ite_tft, ite_ftf, ite_list, ite_tt, ite_ee, ite_nt, ite_ne, eq_self, implies_true, forall_const, exI, nsite, freeAt, execI, Opd.ev, tget, tins, tput, keepL, sitesOf, List.sum_cons, List.sum_nil, Nat.reduceAdd, Nat.reduceSub, Nat.reduceLT, Nat.reduceLeDiff, Nat.reduceEqDiff, Nat.reduceBEq, Nat.reduceMul, beq_self_eq_true, Bool.false_eq_true, ldA, stA, partA, faddrA, setAt, binA, arithA, shiftA, strA, unA, gSpan, gSkip, unG, ne_eq, Option.some.injEq, reduceCtorEq, decide_true, decide_false, elemsA, resA, resAll, resOne, enterA, decide_eq_true_eq, Bool.not_eq_true, Bool.decide_eq_true, ite_self, ↓reduceIte, noRefL, clrA, gcT, gcA, gcIds, reach, rhoOf, heapOf, idxA, genB, newGen, renB, refsB, List.contains_cons, List.range_succ, cb_octet_IsText, b_octet_IsText, cr_octet_IsText, x_octet_IsText_k0, d_octet_IsText_k0, x_octet_IsText_l2, d_octet_IsText_l2, oI, oN, intsV, bytesV, propsV, propV, propC, bytesOf_map, h, decA_drop, hz', q_validC]
        rw [zfG, if_neg hne, if_pos hz]; rfl
      · have hz' : (((Lib.decodeL (s.drop p)).1 : Int) == 0) = false := by rw [beq_eq_false_iff_ne]; omega
        simp -implicitDefEqProofs only [EVS0, EVS1, EVS2, EVS3, EVS4, EVS5, EVS6, EVS7, EVL0, EVL1, ite_tf, ite_ft, ite_tft, ite_ftf, ite_list, ite_tt, ite_ee, ite_nt, ite_ne, eq_self, implies_true, forall_const, exI, nsite, freeAt, execI, Opd.ev, tget, tins, tput, keepL, sitesOf, List.sum_cons, List.sum_nil, Nat.reduceAdd, Nat.reduceSub, Nat.reduceLT, Nat.reduceLeDiff, Nat.reduceEqDiff, Nat.reduceBEq, Nat.reduceMul, beq_self_eq_true, Bool.false_eq_true, ldA, stA, partA, faddrA, setAt, binA, arithA, shiftA, strA, unA, gSpan, gSkip, unG, ne_eq, Option.some.injEq, reduceCtorEq, decide_true, decide_false, elemsA, resA, resAll, resOne, enterA, decide_eq_true_eq, Bool.not_eq_true, Bool.decide_eq_true, ite_self, ↓reduceIte, noRefL, clrA, gcT, gcA, gcIds, reach, rhoOf, heapOf, idxA, genB, newGen, renB, refsB, List.contains_cons, List.range_succ, cb_octet_IsText, b_octet_IsText, cr_octet_IsText, x_octet_IsText_k0, d_octet_IsText_k0, x_octet_IsText_l2, d_octet_IsText_l2, oI, oN, intsV, bytesV, propsV, propV, propC, bytesOf_map, h, decA_drop, hz', q_validC]
        rw [ih, zfG, if_neg hne, if_neg hz]
    · have he : s.drop p = [] := by rw [List.drop_eq_nil_iff]; omega
      unfold K_octet_IsText_l2
      rw [evL_eq]
      simp -implicitDefEqProofs only [EVS0, EVS1, EVS2, EVS3, EVS4, EVS5, EVS6, EVS7, EVL0, EVL1, ite_tf, ite_ft, ite_tft, ite_ftf, ite_list, ite_tt, ite_ee, ite_nt, ite_ne, eq_self, implies_true, forall_const, exI, nsite, freeAt, execI, Opd.ev, tget, tins, tput, keepL, sitesOf, List.sum_cons, List.sum_nil, Nat.reduceAdd, Nat.reduceSub, Nat.reduceLT, Nat.reduceLeDiff, Nat.reduceEqDiff, Nat.reduceBEq, Nat.reduceMul, beq_self_eq_true, Bool.false_eq_true, ldA, stA, partA, faddrA, setAt, binA, arithA, shiftA, strA, unA, gSpan, gSkip, unG, ne_eq, Option.some.injEq, reduceCtorEq, decide_true, decide_false, elemsA, resA, resAll, resOne, enterA, decide_eq_true_eq, Bool.not_eq_true, Bool.decide_eq_true, ite_self, ↓reduceIte, noRefL, clrA, gcT, gcA, gcIds, reach, rhoOf, heapOf, idxA, genB, newGen, renB, refsB, List.contains_cons, List.range_succ, cb_octet_IsText, b_octet_IsText, cr_octet_IsText, x_octet_IsText_k0, d_octet_IsText_k0, x_octet_IsText_l2, d_octet_IsText_l2, oI, oN, intsV, bytesV, propsV, propV, propC, bytesOf_map, h, q_validC]
      rw [he]
      cases n <;> simp [zfG]
theorem q_istext (s : List UInt8) : E 97 [.str s] [] = some (.bool (textB s), []) := by
  rw [E_eq (by rfl) cf_octet_IsText]
  have := q_istl s s.length 0 (by omega) (by omega)
  unfold K_octet_IsText_l2 at this
  simp -implicitDefEqProofs only [EVS0, EVS1, EVS2, EVS3, EVS4, EVS5, EVS6, EVS7, EVL0, EVL1, ite_tf, ite_ft, ite_tft, ite_ftf, ite_list, ite_tt, ite_ee, ite_nt, ite_ne, eq_self, implies_true, forall_const, exI, nsite, freeAt, execI, Opd.ev, tget, tins, tput, keepL, sitesOf, List.sum_cons, List.sum_nil, Nat.reduceAdd, Nat.reduceSub, Nat.reduceLT, Nat.reduceLeDiff, Nat.reduceEqDiff, Nat.reduceBEq, Nat.reduceMul, beq_self_eq_true, Bool.false_eq_true, ldA, stA, partA, faddrA, setAt, binA, arithA, shiftA, strA, unA, gSpan, gSkip, unG, ne_eq, Option.some.injEq, reduceCtorEq, decide_true, decide_false, elemsA, resA, resAll, resOne, enterA, decide_eq_true_eq, Bool.not_eq_true, Bool.decide_eq_true, ite_self, ↓reduceIte, noRefL, clrA, gcT, gcA, gcIds, reach, rhoOf, heapOf, idxA, genB, newGen, renB, refsB, List.contains_cons, List.range_succ, cb_octet_IsText, b_octet_IsText, cr_octet_IsText, x_octet_IsText_k0, d_octet_IsText_k0, x_octet_IsText_l2, d_octet_IsText_l2, oI, oN, intsV, bytesV, propsV, propV, propC, bytesOf_map, intsV]
  rw [this, List.drop_zero]; rfl
theorem q_istextC (σ : AHeap) (site own : Nat) (view : Bool) (l : List UInt8) : callG E BY σ site 97 own view [.str l] = some (.bool (textB l), σ, {}) :=
  call_flat (q_istext l) (by kernel_rfl) (by simp -implicitDefEqProofs only [EVS0, EVS1, EVS2, EVS3, EVS4, EVS5, EVS6, EVS7, EVL0, EVL1, eq_self, implies_true, Bool.false_eq_true, intsV, bytesV, propsV, propV, propC, intsV]) (by simp -implicitDefEqProofs only [EVS0, EVS1, EVS2, EVS3, EVS4, EVS5, EVS6, EVS7, EVL0, EVL1, eq_self, implies_true, Bool.false_eq_true, intsV, bytesV, propsV, propV, propC, intsV]) rfl (fun _ => rfl) _ _ _ _
theorem wrap_i64 {n : Int} (h0 : -9223372036854775808 ≤ n) (h : n ≤ 9223372036854775807) : IntKind.i64.wrap n = n := wrap_nat h0 h
end Go.Proofs.YtmlkhhidifjjfaaDoor
namespace Go.Proofs.YtmlkhhidifjjfaaDoor
set_option linter.unusedSimpArgs false
set_option linter.unusedVariables false
set_option maxHeartbeats 8000000
set_option maxRecDepth 10000
theorem slice_lh (σ : AHeap) (l : Bytes) (k1 k2 : IntKind) (lo hi : Int) (h0 : 0 ≤ lo) (h1 : lo ≤ hi) (h2 : hi ≤ (l.length : Int)) : sliceA σ 1 (.lst false (l.map byteV)) (some (.int k1 lo)) (some (.int k2 hi)) none = some (.lst false (((l.take hi.toNat).drop lo.toNat).map byteV), σ, {}) := by
  have hh : 0 ≤ hi := by omega
  have h3 : lo ≤ ((hi.toNat : Nat) : Int) := by omega
  have hk := kokB l
  simp only [sliceA, optB, boundA, List.length_map, hh, h2, and_self, if_true, h0, h3, hk, Bool.or_true, Option.isSome_none, Bool.false_eq_true, if_false, Bool.false_and, List.map_take, List.map_drop]
theorem slice_l (σ : AHeap) (l : Bytes) (k1 : IntKind) (lo : Int) (h0 : 0 ≤ lo) (h1 : lo ≤ (l.length : Int)) : sliceA σ 1 (.lst false (l.map byteV)) (some (.int k1 lo)) none none = some (.lst false ((l.drop lo.toNat).map byteV), σ, {}) := by
  have hk := kokB l
  simp only [sliceA, optB, boundA, List.length_map, and_self, if_true, h0, h1, hk, Bool.or_true, Option.isSome_none, Bool.false_eq_true, if_false, Bool.false_and, List.map_drop]
  rw [List.take_of_length_le (by simp)]
def byT (x : Bytes × Int) : AVal := .tup [.lst false (x.1.map byteV), .int .i64 x.2]
theorem wrap_len (b : Bytes) (h : b.length ≤ 9223372036854775807) : IntKind.u64.wrap (b.length : Int) = (b.length : Int) := by rw [IntKind.wrap_u64]; omega
theorem q_data (b : Bytes) (hl : b.length ≤ 9223372036854775807) : ∃ f, E 55 [bytesV b] [] = some (.tup [.lst f ((dataF b).1.map byteV), .int .i64 (dataF b).2], []) := by
  unfold dataF
  by_cases h : b.length > 65535
  · refine ⟨true, ?_⟩
    have h' : (b.length : Int) > 65535 := by omega
    rw [E_eq (by rfl) cf_octet_Data, if_pos h]
    simp -implicitDefEqProofs only [EVS0, EVS1, EVS2, EVS3, EVS4, EVS5, EVS6, EVS7, EVL0, EVL1, ite_tf, ite_ft, ite_tft, ite_ftf, ite_list, ite_tt, ite_ee, ite_nt, ite_ne, eq_self, implies_true, forall_const, exI, nsite, freeAt, execI, Opd.ev, tget, tins, tput, keepL, sitesOf, List.sum_cons, List.sum_nil, Nat.reduceAdd, Nat.reduceSub, Nat.reduceLT, Nat.reduceLeDiff, Nat.reduceEqDiff, Nat.reduceBEq, Nat.reduceMul, beq_self_eq_true, Bool.false_eq_true, ldA, stA, partA, faddrA, setAt, binA, arithA, shiftA, strA, unA, gSpan, gSkip, unG, ne_eq, Option.some.injEq, reduceCtorEq, decide_true, decide_false, elemsA, resA, resAll, resOne, enterA, decide_eq_true_eq, Bool.not_eq_true, Bool.decide_eq_true, ite_self, ↓reduceIte, noRefL, clrA, gcT, gcA, gcIds, reach, rhoOf, heapOf, idxA, genB, newGen, renB, refsB, List.contains_cons, List.range_succ, cb_octet_Data, b_octet_Data, cr_octet_Data, oI, oN, intsV, bytesV, propsV, propV, propC, bytesOf_map, h']
  · refine ⟨false, ?_⟩
    have h' : ¬ (b.length : Int) > 65535 := by omega
    have hw := wrap_len b hl
    have hP := fun σ site own => q_putC σ site own b.length 2 (by omega) (by omega)
    have hJ := fun σ site own f => q_joinC σ site own f (beB b.length 2) [b] (by simp) (by simp [beB_len]; omega)
    simp only [List.map_cons, List.map_nil, bytesV, List.flatten_cons, List.flatten_nil, List.append_nil] at hJ
    have z2 : ((2 : Nat) : Int) = 2 := rfl
    rw [z2] at hP
    rw [E_eq (by rfl) cf_octet_Data, if_neg h]
    simp -implicitDefEqProofs only [EVS0, EVS1, EVS2, EVS3, EVS4, EVS5, EVS6, EVS7, EVL0, EVL1, ite_tf, ite_ft, ite_tft, ite_ftf, ite_list, ite_tt, ite_ee, ite_nt, ite_ne, eq_self, implies_true, forall_const, exI, nsite, freeAt, execI, Opd.ev, tget, tins, tput, keepL, sitesOf, List.sum_cons, List.sum_nil, Nat.reduceAdd, Nat.reduceSub, Nat.reduceLT, Nat.reduceLeDiff, Nat.reduceEqDiff, Nat.reduceBEq, Nat.reduceMul, beq_self_eq_true, Bool.false_eq_true, ldA, stA, partA, faddrA, setAt, binA, arithA, shiftA, strA, unA, gSpan, gSkip, unG, ne_eq, Option.some.injEq, reduceCtorEq, decide_true, decide_false, elemsA, resA, resAll, resOne, enterA, decide_eq_true_eq, Bool.not_eq_true, Bool.decide_eq_true, ite_self, ↓reduceIte, noRefL, clrA, gcT, gcA, gcIds, reach, rhoOf, heapOf, idxA, genB, newGen, renB, refsB, List.contains_cons, List.range_succ, cb_octet_Data, b_octet_Data, cr_octet_Data, oI, oN, intsV, bytesV, propsV, propV, propC, bytesOf_map, h', hw, hP, hJ, viewAs, viewA, viewA1, viewsA, freezeA, AVal.cells, List.foldl_cons, List.foldl_nil]
theorem q_dataC (σ : AHeap) (site own : Nat) (f : Bool) (b : Bytes) (hl : b.length ≤ 9223372036854775807) : callG E BY σ site 55 own true [.lst f (b.map byteV)] = some (byT (dataF b), σ, {}) := by
  obtain ⟨g, h⟩ := q_data b hl
  exact call_normT h (by kernel_rfl) rfl rfl rfl (fun _ => rfl) _ _ _
def textF (s : Bytes) : Bytes × Int := if textB s then dataF s else ([], 13)
theorem q_text (s : Bytes) (hl : s.length ≤ 9223372036854775807) : ∃ f, E 54 [.str s] [] = some (.tup [.lst f ((textF s).1.map byteV), .int .i64 (textF s).2], []) := by
  have hI := fun σ site own => q_istextC σ site own true s
  have hD := fun σ site own f => q_dataC σ site own f s hl
  unfold textF
  cases h : textB s <;> rw [h] at hI
  · refine ⟨true, ?_⟩
    rw [E_eq (by rfl) cf_octet_Text]
    simp -implicitDefEqProofs only [EVS0, EVS1, EVS2, EVS3, EVS4, EVS5, EVS6, EVS7, EVL0, EVL1, ite_tf, ite_ft, ite_tft, ite_ftf, ite_list, ite_tt, ite_ee, ite_nt, ite_ne, eq_self, implies_true, forall_const, exI, nsite, freeAt, execI, Opd.ev, tget, tins, tput, keepL, sitesOf, List.sum_cons, List.sum_nil, Nat.reduceAdd, Nat.reduceSub, Nat.reduceLT, Nat.reduceLeDiff, Nat.reduceEqDiff, Nat.reduceBEq, Nat.reduceMul, beq_self_eq_true, Bool.false_eq_true, ldA, stA, partA, faddrA, setAt, binA, arithA, shiftA, strA, unA, gSpan, gSkip, unG, ne_eq, Option.some.injEq, reduceCtorEq, decide_true, decide_false, elemsA, resA, resAll, resOne, enterA, decide_eq_true_eq, Bool.not_eq_true, Bool.decide_eq_true, ite_self, ↓reduceIte, noRefL, clrA, gcT, gcA, gcIds, reach, rhoOf, heapOf, idxA, genB, newGen, renB, refsB, List.contains_cons, List.range_succ, cb_octet_Text, b_octet_Text, cr_octet_Text, oI, oN, intsV, bytesV, propsV, propV, propC, bytesOf_map, hI]
  · refine ⟨false, ?_⟩
    rw [E_eq (by rfl) cf_octet_Text]
    simp -implicitDefEqProofs only [EVS0, EVS1, EVS2, EVS3, EVS4, EVS5, EVS6, EVS7, EVL0, EVL1, ite_tf, ite_ft, ite_tft, ite_ftf, ite_list, ite_tt, ite_ee, ite_nt, ite_ne, eq_self, implies_true, forall_const, exI, nsite, freeAt, execI, Opd.ev, tget, tins, tput, keepL, sitesOf, List.sum_cons, List.sum_nil, Nat.reduceAdd, Nat.reduceSub, Nat.reduceLT, Nat.reduceLeDiff, Nat.reduceEqDiff, Nat.reduceBEq, Nat.reduceMul, beq_self_eq_true, Bool.false_eq_true, ldA, stA, partA, faddrA, setAt, binA, arithA, shiftA, strA, unA, gSpan, gSkip, unG, ne_eq, Option.some.injEq, reduceCtorEq, decide_true, decide_false, elemsA, resA, resAll, resOne, enterA, decide_eq_true_eq, Bool.not_eq_true, Bool.decide_eq_true, ite_self, ↓reduceIte, noRefL, clrA, gcT, gcA, gcIds, reach, rhoOf, heapOf, idxA, genB, newGen, renB, refsB, List.contains_cons, List.range_succ, cb_octet_Text, b_octet_Text, cr_octet_Text, oI, oN, intsV, bytesV, propsV, propV, propC, bytesOf_map, hI, hD, byT]
theorem q_textC (σ : AHeap) (site own : Nat) (s : Bytes) (hl : s.length ≤ 9223372036854775807) : callG E BY σ site 54 own true [.str s] = some (byT (textF s), σ, {}) := by
  obtain ⟨g, h⟩ := q_text s hl
  exact call_normT h (by kernel_rfl) rfl rfl rfl (fun _ => rfl) _ _ _
end Go.Proofs.YtmlkhhidifjjfaaDoor
namespace Go.Proofs.YtmlkhhidifjjfaaDoor
set_option linter.unusedSimpArgs false
set_option linter.unusedVariables false
set_option maxHeartbeats 8000000
set_option maxRecDepth 10000
def gdT (x : Bytes × Nat × Int) : AVal := .tup [.lst false (x.1.map byteV), .int .i64 (x.2.1 : Nat), .int .i64 x.2.2]
def gtT (x : Bytes × Nat × Int) : AVal := .tup [.str x.1, .int .i64 (x.2.1 : Nat), .int .i64 x.2.2]
theorem getU2 (b : Bytes) (h : b.length ≤ 2) : getU b < 65536 := by
  unfold getU
  match b, h with
  | [], _ => simp [getA_nil]
  | [a], _ => rw [getA_cons, getA_nil]; have := a.toNat_lt; omega
  | [a, c], _ => rw [getA_cons, getA_cons, getA_nil]; have := a.toNat_lt; have := c.toNat_lt; omega
def getTextF (b : Bytes) : Bytes × Nat × Int := if (getDataF b).2.2 ≠ 0 then ([], 0, (getDataF b).2.2) else if textB (getDataF b).1 then getDataF b else ([], 0, 13)
theorem q_getdata (b : Bytes) (hl : b.length ≤ 140737488355328) : ∃ f, E 106 [bytesV b] [] = some (.tup [.lst f ((getDataF b).1.map byteV), .int .i64 ((getDataF b).2.1 : Nat), .int .i64 (getDataF b).2.2], []) := by
  have t2 : (b.take 2).length ≤ 9223372036854775807 := by simp; omega
  have hG := fun σ site own f => q_getC σ site own (b.take 2) t2 f
  have hg := getU2 (b.take 2) (by simp; omega)
  unfold getDataF
  generalize hGG : getU (b.take 2) = g at *
  have hi : IntKind.i64.wrap (g : Int) = (g : Int) := wrap_nat (by omega) (by omega)
  by_cases h1 : b.length < 2
  · have h1' : (b.length : Int) < 2 := by omega
    refine ⟨true, ?_⟩
    rw [E_eq (by rfl) cf_octet_GetData, if_pos (Or.inl h1)]
    simp -implicitDefEqProofs only [EVS0, EVS1, EVS2, EVS3, EVS4, EVS5, EVS6, EVS7, EVL0, EVL1, ite_tf, ite_ft, ite_tft, ite_ftf, ite_list, ite_tt, ite_ee, ite_nt, ite_ne, eq_self, implies_true, forall_const, exI, nsite, freeAt, execI, Opd.ev, tget, tins, tput, keepL, sitesOf, List.sum_cons, List.sum_nil, Nat.reduceAdd, Nat.reduceSub, Nat.reduceLT, Nat.reduceLeDiff, Nat.reduceEqDiff, Nat.reduceBEq, Nat.reduceMul, beq_self_eq_true, Bool.false_eq_true, ldA, stA, partA, faddrA, setAt, binA, arithA, shiftA, strA, unA, gSpan, gSkip, unG, ne_eq, Option.some.injEq, reduceCtorEq, decide_true, decide_false, elemsA, resA, resAll, resOne, enterA, decide_eq_true_eq, Bool.not_eq_true, Bool.decide_eq_true, ite_self, ↓reduceIte, noRefL, clrA, gcT, gcA, gcIds, reach, rhoOf, heapOf, idxA, genB, newGen, renB, refsB, List.contains_cons, List.range_succ, cb_octet_GetData, b_octet_GetData, cr_octet_GetData, oI, oN, intsV, bytesV, propsV, propV, propC, bytesOf_map, h1']
    rfl
  · have h1' : ¬ (b.length : Int) < 2 := by omega
    have s2 := fun σ kk => slice_hi σ 1 b byteV kk 2 (by omega) (by omega)
    have e2 : (2 : Int).toNat = 2 := rfl
    rw [e2] at s2
    have w1 : IntKind.i64.wrap ((b.length : Int) - 2) = ((b.length - 2 : Nat) : Int) := by rw [wrap_nat (by omega) (by omega)]; omega
    by_cases h3 : b.length - 2 < g
    · have h3' : ((b.length - 2 : Nat) : Int) < (g : Int) := by omega
      refine ⟨true, ?_⟩
      rw [E_eq (by rfl) cf_octet_GetData, if_pos (Or.inr h3)]
      simp -implicitDefEqProofs only [EVS0, EVS1, EVS2, EVS3, EVS4, EVS5, EVS6, EVS7, EVL0, EVL1, ite_tf, ite_ft, ite_tft, ite_ftf, ite_list, ite_tt, ite_ee, ite_nt, ite_ne, eq_self, implies_true, forall_const, exI, nsite, freeAt, execI, Opd.ev, tget, tins, tput, keepL, sitesOf, List.sum_cons, List.sum_nil, Nat.reduceAdd, Nat.reduceSub, Nat.reduceLT, Nat.reduceLeDiff, Nat.reduceEqDiff, Nat.reduceBEq, Nat.reduceMul, beq_self_eq_true, Bool.false_eq_true, ldA, stA, partA, faddrA, setAt, binA, arithA, shiftA, strA, unA, gSpan, gSkip, unG, ne_eq, Option.some.injEq, reduceCtorEq, decide_true, decide_false, elemsA, resA, resAll, resOne, enterA, decide_eq_true_eq, Bool.not_eq_true, Bool.decide_eq_true, ite_self, ↓reduceIte, noRefL, clrA, gcT, gcA, gcIds, reach, rhoOf, heapOf, idxA, genB, newGen, renB, refsB, List.contains_cons, List.range_succ, cb_octet_GetData, b_octet_GetData, cr_octet_GetData, oI, oN, intsV, bytesV, propsV, propV, propC, bytesOf_map, h1', s2, hG, hi, w1, h3']
      rfl
    · have h3' : ¬ ((b.length - 2 : Nat) : Int) < (g : Int) := by omega
      have w2 : IntKind.i64.wrap (2 + (g : Int)) = ((2 + g : Nat) : Int) := by rw [wrap_nat (by omega) (by omega)]; omega
      have s3 := fun σ k1 k2 => slice_lh σ b k1 k2 2 ((2 + g : Nat) : Int) (by omega) (by omega) (by omega)
      have e3 : (((2 + g : Nat) : Int)).toNat = 2 + g := rfl
      have e4 : (b.take (2 + g)).drop 2 = (b.drop 2).take g := by rw [List.drop_take]; congr 1; omega
      rw [e2, e3, e4] at s3
      have hJ := fun σ site own f => q_joinC σ site own f ((b.drop 2).take g) [] (by simp) (by simp; omega)
      simp only [List.map_cons, List.map_nil, bytesV, List.flatten_cons, List.flatten_nil, List.append_nil] at hJ
      have hc : ¬ (b.length < 2 ∨ b.length - 2 < g) := by omega
      refine ⟨false, ?_⟩
      rw [E_eq (by rfl) cf_octet_GetData, if_neg hc]
      simp -implicitDefEqProofs only [EVS0, EVS1, EVS2, EVS3, EVS4, EVS5, EVS6, EVS7, EVL0, EVL1, ite_tf, ite_ft, ite_tft, ite_ftf, ite_list, ite_tt, ite_ee, ite_nt, ite_ne, eq_self, implies_true, forall_const, exI, nsite, freeAt, execI, Opd.ev, tget, tins, tput, keepL, sitesOf, List.sum_cons, List.sum_nil, Nat.reduceAdd, Nat.reduceSub, Nat.reduceLT, Nat.reduceLeDiff, Nat.reduceEqDiff, Nat.reduceBEq, Nat.reduceMul, beq_self_eq_true, Bool.false_eq_true, ldA, stA, partA, faddrA, setAt, binA, arithA, shiftA, strA, unA, gSpan, gSkip, unG, ne_eq, Option.some.injEq, reduceCtorEq, decide_true, decide_false, elemsA, resA, resAll, resOne, enterA, decide_eq_true_eq, Bool.not_eq_true, Bool.decide_eq_true, ite_self, ↓reduceIte, noRefL, clrA, gcT, gcA, gcIds, reach, rhoOf, heapOf, idxA, genB, newGen, renB, refsB, List.contains_cons, List.range_succ, cb_octet_GetData, b_octet_GetData, cr_octet_GetData, oI, oN, intsV, bytesV, propsV, propV, propC, bytesOf_map, h1', s2, hG, hi, w1, h3', w2, s3, hJ, viewAs, viewA, viewA1, viewsA, freezeA, AVal.cells, List.foldl_cons, List.foldl_nil]
theorem q_getdataC (σ : AHeap) (site own : Nat) (f : Bool) (b : Bytes) (hl : b.length ≤ 140737488355328) : callG E BY σ site 106 own true [.lst f (b.map byteV)] = some (gdT (getDataF b), σ, {}) := by
  obtain ⟨g, h⟩ := q_getdata b hl
  exact call_normT h (by kernel_rfl) rfl rfl rfl (fun _ => rfl) _ _ _
theorem q_gettext (b : Bytes) (hl : b.length ≤ 140737488355328) : E 109 [bytesV b] [] = some (gtT (getTextF b), []) := by
  have hD := fun σ site own f => q_getdataC σ site own f b hl
  unfold gdT at hD
  have hI := fun σ site own => q_istextC σ site own true (getDataF b).1
  unfold getTextF
  by_cases h0 : (getDataF b).2.2 = 0
  · have hn0 : ¬ ((getDataF b).2.2 ≠ 0) := by omega
    have e0 : ((0 : Int) != 0) = false := rfl
    have hp : getDataF b = ((getDataF b).1, (getDataF b).2.1, 0) := by rw [← h0]
    rw [if_neg hn0]
    rw [hp]
    simp only
    rw [h0] at hD
    generalize (getDataF b).1 = d at *
    generalize (getDataF b).2.1 = u at *
    rw [E_eq (by rfl) cf_octet_GetText]
    cases ht : textB d <;> rw [ht] at hI
    · simp -implicitDefEqProofs only [EVS0, EVS1, EVS2, EVS3, EVS4, EVS5, EVS6, EVS7, EVL0, EVL1, ite_tf, ite_ft, ite_tft, ite_ftf, ite_list, ite_tt, ite_ee, ite_nt, ite_ne, eq_self, implies_true, forall_const, exI, nsite, freeAt, execI, Opd.ev, tget, tins, tput, keepL, sitesOf, List.sum_cons, List.sum_nil, Nat.reduceAdd, Nat.reduceSub, Nat.reduceLT, Nat.reduceLeDiff, Nat.reduceEqDiff, Nat.reduceBEq, Nat.reduceMul, beq_self_eq_true, Bool.false_eq_true, ldA, stA, partA, faddrA, setAt, binA, arithA, shiftA, strA, unA, gSpan, gSkip, unG, ne_eq, Option.some.injEq, reduceCtorEq, decide_true, decide_false, elemsA, resA, resAll, resOne, enterA, decide_eq_true_eq, Bool.not_eq_true, Bool.decide_eq_true, ite_self, ↓reduceIte, noRefL, clrA, gcT, gcA, gcIds, reach, rhoOf, heapOf, idxA, genB, newGen, renB, refsB, List.contains_cons, List.range_succ, cb_octet_GetText, b_octet_GetText, cr_octet_GetText, oI, oN, intsV, bytesV, propsV, propV, propC, bytesOf_map, hD, hI, e0, gtT]
      rfl
    · simp -implicitDefEqProofs only [EVS0, EVS1, EVS2, EVS3, EVS4, EVS5, EVS6, EVS7, EVL0, EVL1, ite_tf, ite_ft, ite_tft, ite_ftf, ite_list, ite_tt, ite_ee, ite_nt, ite_ne, eq_self, implies_true, forall_const, exI, nsite, freeAt, execI, Opd.ev, tget, tins, tput, keepL, sitesOf, List.sum_cons, List.sum_nil, Nat.reduceAdd, Nat.reduceSub, Nat.reduceLT, Nat.reduceLeDiff, Nat.reduceEqDiff, Nat.reduceBEq, Nat.reduceMul, beq_self_eq_true, Bool.false_eq_true, ldA, stA, partA, faddrA, setAt, binA, arithA, shiftA, strA, unA, gSpan, gSkip, unG, ne_eq, Option.some.injEq, reduceCtorEq, decide_true, decide_false, elemsA, resA, resAll, resOne, enterA, decide_eq_true_eq, Bool.not_eq_true, Bool.decide_eq_true, ite_self, ↓reduceIte, noRefL, clrA, gcT, gcA, gcIds, reach, rhoOf, heapOf, idxA, genB, newGen, renB, refsB, List.contains_cons, List.range_succ, cb_octet_GetText, b_octet_GetText, cr_octet_GetText, oI, oN, intsV, bytesV, propsV, propV, propC, bytesOf_map, hD, hI, e0, gtT]
  · have hn0 : ((getDataF b).2.2 ≠ 0) := h0
    have e0 : ((getDataF b).2.2 != 0) = true := by simpa using h0
    rw [if_pos hn0]
    generalize (getDataF b).2.2 = e at *
    rw [E_eq (by rfl) cf_octet_GetText]
    simp -implicitDefEqProofs only [EVS0, EVS1, EVS2, EVS3, EVS4, EVS5, EVS6, EVS7, EVL0, EVL1, ite_tf, ite_ft, ite_tft, ite_ftf, ite_list, ite_tt, ite_ee, ite_nt, ite_ne, eq_self, implies_true, forall_const, exI, nsite, freeAt, execI, Opd.ev, tget, tins, tput, keepL, sitesOf, List.sum_cons, List.sum_nil, Nat.reduceAdd, Nat.reduceSub, Nat.reduceLT, Nat.reduceLeDiff, Nat.reduceEqDiff, Nat.reduceBEq, Nat.reduceMul, beq_self_eq_true, Bool.false_eq_true, ldA, stA, partA, faddrA, setAt, binA, arithA, shiftA, strA, unA, gSpan, gSkip, unG, ne_eq, Option.some.injEq, reduceCtorEq, decide_true, decide_false, elemsA, resA, resAll, resOne, enterA, decide_eq_true_eq, Bool.not_eq_true, Bool.decide_eq_true, ite_self, ↓reduceIte, noRefL, clrA, gcT, gcA, gcIds, reach, rhoOf, heapOf, idxA, genB, newGen, renB, refsB, List.contains_cons, List.range_succ, cb_octet_GetText, b_octet_GetText, cr_octet_GetText, oI, oN, intsV, bytesV, propsV, propV, propC, bytesOf_map, hD, e0, gtT]
    rfl
theorem q_gettextC (σ : AHeap) (site own : Nat) (f : Bool) (b : Bytes) (hl : b.length ≤ 140737488355328) : callG E BY σ site 109 own true [.lst f (b.map byteV)] = some (gtT (getTextF b), σ, {}) :=
  call_normT (q_gettext b hl) (by kernel_rfl) rfl rfl rfl (fun _ => rfl) _ _ _
end Go.Proofs.YtmlkhhidifjjfaaDoor
namespace Go.Proofs.YtmlkhhidifjjfaaDoor
set_option linter.unusedSimpArgs false
set_option linter.unusedVariables false
set_option maxHeartbeats 8000000
set_option maxRecDepth 10000
theorem kind_cases (id : Int) : kindI id = 0 ∨ kindI id = 1 ∨ kindI id = 2 ∨ kindI id = 3 ∨ kindI id = 4 ∨ kindI id = 5 ∨ kindI id = 6 ∨ kindI id = 7 := by
  unfold kindI
  by_cases h : inTab id
  · unfold inTab at h
    rcases h with rfl | rfl | rfl | rfl | rfl | rfl | rfl | rfl | rfl | rfl | rfl | rfl | rfl | rfl | rfl | rfl | rfl | rfl | rfl | rfl | rfl | rfl | rfl | rfl | rfl | rfl | rfl
    all_goals decide
  · rw [of_not h]; simp
theorem getU4 (b : Bytes) (h : b.length ≤ 4) : getU b < 4294967296 := by
  unfold getU
  match b, h with
  | [], _ => simp [getA_nil]
  | [a], _ => rw [getA_cons, getA_nil]; have := a.toNat_lt; omega
  | [a, c], _ => rw [getA_cons, getA_cons, getA_nil]; have := a.toNat_lt; have := c.toNat_lt; omega
  | [a, c, d], _ => rw [getA_cons, getA_cons, getA_cons, getA_nil]; have := a.toNat_lt; have := c.toNat_lt; have := d.toNat_lt; omega
  | [a, c, d, e], _ => rw [getA_cons, getA_cons, getA_cons, getA_cons, getA_nil]; have := a.toNat_lt; have := c.toNat_lt; have := d.toNat_lt; have := e.toNat_lt; omega
def numV (id : Int) (W : Nat) (b : Bytes) : PropD × Nat × Bool := if b.length < W then (⟨id, 0, [], [], []⟩, 0, false) else (⟨id, getU (b.take W), [], [], []⟩, W, true)
def pairV (id : Int) (b : Bytes) : PropD × Nat × Bool :=
  if (getTextF b).2.2 = 0 then (⟨id, 0, (getTextF b).1, (getTextF (b.drop (getTextF b).2.1)).1, []⟩, (getTextF b).2.1 + (getTextF (b.drop (getTextF b).2.1)).2.1, (getTextF (b.drop (getTextF b).2.1)).2.2 == 0) else (⟨id, 0, [], [], []⟩, 0, false)
def valueK (k id : Int) (b : Bytes) : PropD × Nat × Bool :=
  if k = 1 then numV id 1 b else if k = 2 then numV id 2 b else if k = 3 then numV id 4 b
  else if k = 4 then (⟨id, (getVarF b).1, [], [], []⟩, (getVarF b).2.1, (getVarF b).2.2 == 0)
  else if k = 5 then (⟨id, 0, (getTextF b).1, [], []⟩, (getTextF b).2.1, (getTextF b).2.2 == 0)
  else if k = 6 then (⟨id, 0, [], [], (getDataF b).1⟩, (getDataF b).2.1, (getDataF b).2.2 == 0)
  else if k = 7 then pairV id b else (⟨id, 0, [], [], []⟩, 0, true)
def valueF (id : Int) (b : Bytes) : PropD × Nat × Bool := valueK (kindI id) id b
def valV (f : Bool) (x : PropD × Nat × Bool) : AVal := .tup [.agg [.int .i64 x.1.id, .int .i64 x.1.num, .str x.1.text, .str x.1.pair, .lst f (x.1.data.map byteV)], .int .i64 (x.2.1 : Nat), .bool x.2.2]
theorem getData_used (b : Bytes) : (getDataF b).2.1 ≤ b.length ∧ (getDataF b).1.length ≤ b.length := by
  unfold getDataF
  by_cases h : b.length < 2 ∨ b.length - 2 < getU (b.take 2)
  · rw [if_pos h]; simp
  · rw [if_neg h]
    simp only [not_or] at h
    simp; omega
theorem getText_used (b : Bytes) : (getTextF b).2.1 ≤ b.length ∧ ((getTextF b).2.2 ≠ 0 → (getTextF b).1 = [] ∧ (getTextF b).2.1 = 0) := by
  have hd := getData_used b
  unfold getTextF
  by_cases h : (getDataF b).2.2 ≠ 0
  · rw [if_pos h]; simp
  · rw [if_neg h]
    by_cases ht : textB (getDataF b).1 = true
    · rw [if_pos ht]; exact ⟨hd.1, fun h' => absurd h' h⟩
    · rw [if_neg ht]; simp
theorem q_valuen (id : Int) (b : Bytes) (hl : b.length ≤ 140737488355328) (k : Int) (W : Nat) (hk : kindI id = k) (hW : (k = 1 ∧ W = 1) ∨ (k = 2 ∧ W = 2) ∨ (k = 3 ∧ W = 4)) : E 154 [.int .i64 id, bytesV b] [] = some (valV true (numV id W b), []) := by
  have hC := fun σ site own => q_kindC σ site own id
  rw [hk] at hC
  have hG := fun σ site own f => q_getC σ site own (b.take W) (by simp; omega) f
  have hg := getU4 (b.take W) (by simp; omega)
  unfold numV
  generalize getU (b.take W) = g at *
  have hi : IntKind.i64.wrap (g : Int) = (g : Int) := wrap_nat (by omega) (by omega)
  have hw : ∀ W : Nat, W ≤ b.length → ∀ (σ : AHeap) (kk : IntKind), sliceA σ 1 (.lst false (b.map byteV)) none (some (.int kk (W : Int))) none = some (.lst false ((b.take W).map byteV), σ, {}) := fun W hW σ kk => by
    have := slice_hi σ 1 b byteV kk (W : Int) (by omega) (by omega)
    exact this
  have z1 : ((1 : Nat) : Int) = 1 := rfl
  have z2 : ((2 : Nat) : Int) = 2 := rfl
  have z4 : ((4 : Nat) : Int) = 4 := rfl
  rcases hW with ⟨rfl, rfl⟩ | ⟨rfl, rfl⟩ | ⟨rfl, rfl⟩
  · have w1 : IntKind.i64.wrap (1 - 1) = 0 := rfl
    have w2 : IntKind.i64.wrap (1 * 2 ^ min (Int.toNat 0) IntKind.i64.bits) = 1 := rfl
    have ng : ¬ ((0 : Int) < 0) := by decide
    by_cases h : b.length < 1
    · have h' : (b.length : Int) < 1 := by omega
      rw [E_eq (by rfl) cf_prop_value, if_pos h]
      simp -implicitDefEqProofs only [EVS0, EVS1, EVS2, EVS3, EVS4, EVS5, EVS6, EVS7, EVL0, EVL1, ite_tf, ite_ft, ite_tft, ite_ftf, ite_list, ite_tt, ite_ee, ite_nt, ite_ne, eq_self, implies_true, forall_const, exI, nsite, freeAt, execI, Opd.ev, tget, tins, tput, keepL, sitesOf, List.sum_cons, List.sum_nil, Nat.reduceAdd, Nat.reduceSub, Nat.reduceLT, Nat.reduceLeDiff, Nat.reduceEqDiff, Nat.reduceBEq, Nat.reduceMul, beq_self_eq_true, Bool.false_eq_true, ldA, stA, partA, faddrA, setAt, binA, arithA, shiftA, strA, unA, gSpan, gSkip, unG, ne_eq, Option.some.injEq, reduceCtorEq, decide_true, decide_false, elemsA, resA, resAll, resOne, enterA, decide_eq_true_eq, Bool.not_eq_true, Bool.decide_eq_true, ite_self, ↓reduceIte, noRefL, clrA, gcT, gcA, gcIds, reach, rhoOf, heapOf, idxA, genB, newGen, renB, refsB, List.contains_cons, List.range_succ, cb_prop_value, b_prop_value, cr_prop_value, oI, oN, intsV, bytesV, propsV, propV, propC, bytesOf_map, hC, w1, w2, ng, h', Int.reduceBEq, valV, AVal.cells]
      rfl
    · have h' : ¬ (b.length : Int) < 1 := by omega
      have hs := hw 1 (by omega)
      rw [z1] at hs
      have e0 : ((0 : Int) == 0) = true := rfl
      rw [E_eq (by rfl) cf_prop_value, if_neg h]
      simp -implicitDefEqProofs only [EVS0, EVS1, EVS2, EVS3, EVS4, EVS5, EVS6, EVS7, EVL0, EVL1, ite_tf, ite_ft, ite_tft, ite_ftf, ite_list, ite_tt, ite_ee, ite_nt, ite_ne, eq_self, implies_true, forall_const, exI, nsite, freeAt, execI, Opd.ev, tget, tins, tput, keepL, sitesOf, List.sum_cons, List.sum_nil, Nat.reduceAdd, Nat.reduceSub, Nat.reduceLT, Nat.reduceLeDiff, Nat.reduceEqDiff, Nat.reduceBEq, Nat.reduceMul, beq_self_eq_true, Bool.false_eq_true, ldA, stA, partA, faddrA, setAt, binA, arithA, shiftA, strA, unA, gSpan, gSkip, unG, ne_eq, Option.some.injEq, reduceCtorEq, decide_true, decide_false, elemsA, resA, resAll, resOne, enterA, decide_eq_true_eq, Bool.not_eq_true, Bool.decide_eq_true, ite_self, ↓reduceIte, noRefL, clrA, gcT, gcA, gcIds, reach, rhoOf, heapOf, idxA, genB, newGen, renB, refsB, List.contains_cons, List.range_succ, cb_prop_value, b_prop_value, cr_prop_value, oI, oN, intsV, bytesV, propsV, propV, propC, bytesOf_map, hC, w1, w2, ng, h', hs, hG, hi, e0, Int.reduceBEq, valV, AVal.cells]
      rfl
  · have w1 : IntKind.i64.wrap (2 - 1) = 1 := rfl
    have w2 : IntKind.i64.wrap (1 * 2 ^ min (Int.toNat 1) IntKind.i64.bits) = 2 := rfl
    have ng : ¬ ((1 : Int) < 0) := by decide
    by_cases h : b.length < 2
    · have h' : (b.length : Int) < 2 := by omega
      rw [E_eq (by rfl) cf_prop_value, if_pos h]
      simp -implicitDefEqProofs only [EVS0, EVS1, EVS2, EVS3, EVS4, EVS5, EVS6, EVS7, EVL0, EVL1, ite_tf, ite_ft, ite_tft, ite_ftf, ite_list, ite_tt, ite_ee, ite_nt, ite_ne, eq_self, implies_true, forall_const, exI, nsite, freeAt, execI, Opd.ev, tget, tins, tput, keepL, sitesOf, List.sum_cons, List.sum_nil, Nat.reduceAdd, Nat.reduceSub, Nat.reduceLT, Nat.reduceLeDiff, Nat.reduceEqDiff, Nat.reduceBEq, Nat.reduceMul, beq_self_eq_true, Bool.false_eq_true, ldA, stA, partA, faddrA, setAt, binA, arithA, shiftA, strA, unA, gSpan, gSkip, unG, ne_eq, Option.some.injEq, reduceCtorEq, decide_true, decide_false, elemsA, resA, resAll, resOne, enterA, decide_eq_true_eq, Bool.not_eq_true, Bool.decide_eq_true, ite_self, ↓reduceIte, noRefL, clrA, gcT, gcA, gcIds, reach, rhoOf, heapOf, idxA, genB, newGen, renB, refsB, List.contains_cons, List.range_succ, cb_prop_value, b_prop_value, cr_prop_value, oI, oN, intsV, bytesV, propsV, propV, propC, bytesOf_map, hC, w1, w2, ng, h', Int.reduceBEq, valV, AVal.cells]
      rfl
    · have h' : ¬ (b.length : Int) < 2 := by omega
      have hs := hw 2 (by omega)
      rw [z2] at hs
      have e0 : ((0 : Int) == 0) = true := rfl
      rw [E_eq (by rfl) cf_prop_value, if_neg h]
      simp -implicitDefEqProofs only [EVS0, EVS1, EVS2, EVS3, EVS4, EVS5, EVS6, EVS7, EVL0, EVL1, ite_tf, ite_ft, ite_tft, ite_ftf, ite_list, ite_tt, ite_ee, ite_nt, ite_ne, eq_self, implies_true, forall_const, exI, nsite, freeAt, execI, Opd.ev, tget, tins, tput, keepL, sitesOf, List.sum_cons, List.sum_nil, Nat.reduceAdd, Nat.reduceSub, Nat.reduceLT, Nat.reduceLeDiff, Nat.reduceEqDiff, Nat.reduceBEq, Nat.reduceMul, beq_self_eq_true, Bool.false_eq_true, ldA, stA, partA, faddrA, setAt, binA, arithA, shiftA, strA, unA, gSpan, gSkip, unG, ne_eq, Option.some.injEq, reduceCtorEq, decide_true, decide_false, elemsA, resA, resAll, resOne, enterA, decide_eq_true_eq, Bool.not_eq_true, Bool.decide_eq_true, ite_self, ↓reduceIte, noRefL, clrA, gcT, gcA, gcIds, reach, rhoOf, heapOf, idxA, genB, newGen, renB, refsB, List.contains_cons, List.range_succ, cb_prop_value, b_prop_value, cr_prop_value, oI, oN, intsV, bytesV, propsV, propV, propC, bytesOf_map, hC, w1, w2, ng, h', hs, hG, hi, e0, Int.reduceBEq, valV, AVal.cells]
      rfl
  · have w1 : IntKind.i64.wrap (3 - 1) = 2 := rfl
    have w2 : IntKind.i64.wrap (1 * 2 ^ min (Int.toNat 2) IntKind.i64.bits) = 4 := rfl
    have ng : ¬ ((2 : Int) < 0) := by decide
    by_cases h : b.length < 4
    · have h' : (b.length : Int) < 4 := by omega
      rw [E_eq (by rfl) cf_prop_value, if_pos h]
      simp -implicitDefEqProofs only [EVS0, EVS1, EVS2, EVS3, EVS4, EVS5, EVS6, EVS7, EVL0, EVL1, ite_tf, ite_ft, ite_tft, ite_ftf, ite_list, ite_tt, ite_ee, ite_nt, ite_ne, eq_self, implies_true, forall_const, exI, nsite, freeAt, execI, Opd.ev, tget, tins, tput, keepL, sitesOf, List.sum_cons, List.sum_nil, Nat.reduceAdd, Nat.reduceSub, Nat.reduceLT, Nat.reduceLeDiff, Nat.reduceEqDiff, Nat.reduceBEq, Nat.reduceMul, beq_self_eq_true, Bool.false_eq_true, ldA, stA, partA, faddrA, setAt, binA, arithA, shiftA, strA, unA, gSpan, gSkip, unG, ne_eq, Option.some.injEq, reduceCtorEq, decide_true, decide_false, elemsA, resA, resAll, resOne, enterA, decide_eq_true_eq, Bool.not_eq_true, Bool.decide_eq_true, ite_self, ↓reduceIte, noRefL, clrA, gcT, gcA, gcIds, reach, rhoOf, heapOf, idxA, genB, newGen, renB, refsB, List.contains_cons, List.range_succ, cb_prop_value, b_prop_value, cr_prop_value, oI, oN, intsV, bytesV, propsV, propV, propC, bytesOf_map, hC, w1, w2, ng, h', Int.reduceBEq, valV, AVal.cells]
      rfl
    · have h' : ¬ (b.length : Int) < 4 := by omega
      have hs := hw 4 (by omega)
      rw [z4] at hs
      have e0 : ((0 : Int) == 0) = true := rfl
      rw [E_eq (by rfl) cf_prop_value, if_neg h]
      simp -implicitDefEqProofs only [EVS0, EVS1, EVS2, EVS3, EVS4, EVS5, EVS6, EVS7, EVL0, EVL1, ite_tf, ite_ft, ite_tft, ite_ftf, ite_list, ite_tt, ite_ee, ite_nt, ite_ne, eq_self, implies_true, forall_const, exI, nsite, freeAt, execI, Opd.ev, tget, tins, tput, keepL, sitesOf, List.sum_cons, List.sum_nil, Nat.reduceAdd, Nat.reduceSub, Nat.reduceLT, Nat.reduceLeDiff, Nat.reduceEqDiff, Nat.reduceBEq, Nat.reduceMul, beq_self_eq_true, Bool.false_eq_true, ldA, stA, partA, faddrA, setAt, binA, arithA, shiftA, strA, unA, gSpan, gSkip, unG, ne_eq, Option.some.injEq, reduceCtorEq, decide_true, decide_false, elemsA, resA, resAll, resOne, enterA, decide_eq_true_eq, Bool.not_eq_true, Bool.decide_eq_true, ite_self, ↓reduceIte, noRefL, clrA, gcT, gcA, gcIds, reach, rhoOf, heapOf, idxA, genB, newGen, renB, refsB, List.contains_cons, List.range_succ, cb_prop_value, b_prop_value, cr_prop_value, oI, oN, intsV, bytesV, propsV, propV, propC, bytesOf_map, hC, w1, w2, ng, h', hs, hG, hi, e0, Int.reduceBEq, valV, AVal.cells]
      rfl
theorem q_value (id : Int) (b : Bytes) (hl : b.length ≤ 140737488355328) : ∃ f, E 154 [.int .i64 id, bytesV b] [] = some (valV f (valueF id b), []) := by
  unfold valueF
  have hC := fun σ site own => q_kindC σ site own id
  have hGV := fun σ site own f => q_getvarC σ site own f b (by omega)
  have hGT := fun σ site own f => q_gettextC σ site own f b hl
  have hGD := fun σ site own f => q_getdataC σ site own f b hl
  have z0 : ((0 : Nat) : Int) = 0 := rfl
  rcases kind_cases id with hk | hk | hk | hk | hk | hk | hk | hk
  · refine ⟨true, ?_⟩
    rw [hk] at hC ⊢
    rw [show valueK 0 id b = (⟨id, 0, [], [], []⟩, 0, true) from rfl, E_eq (by rfl) cf_prop_value]
    have e0 : ((0 : Int) == 0) = true := rfl
    simp -implicitDefEqProofs only [EVS0, EVS1, EVS2, EVS3, EVS4, EVS5, EVS6, EVS7, EVL0, EVL1, ite_tf, ite_ft, ite_tft, ite_ftf, ite_list, ite_tt, ite_ee, ite_nt, ite_ne, eq_self, implies_true, forall_const, exI, nsite, freeAt, execI, Opd.ev, tget, tins, tput, keepL, sitesOf, List.sum_cons, List.sum_nil, Nat.reduceAdd, Nat.reduceSub, Nat.reduceLT, Nat.reduceLeDiff, Nat.reduceEqDiff, Nat.reduceBEq, Nat.reduceMul, beq_self_eq_true, Bool.false_eq_true, ldA, stA, partA, faddrA, setAt, binA, arithA, shiftA, strA, unA, gSpan, gSkip, unG, ne_eq, Option.some.injEq, reduceCtorEq, decide_true, decide_false, elemsA, resA, resAll, resOne, enterA, decide_eq_true_eq, Bool.not_eq_true, Bool.decide_eq_true, ite_self, ↓reduceIte, noRefL, clrA, gcT, gcA, gcIds, reach, rhoOf, heapOf, idxA, genB, newGen, renB, refsB, List.contains_cons, List.range_succ, cb_prop_value, b_prop_value, cr_prop_value, oI, oN, intsV, bytesV, propsV, propV, propC, bytesOf_map, hC, e0, Int.reduceBEq, valV, AVal.cells]
    rfl
  · rw [hk]; exact ⟨true, q_valuen id b hl 1 1 hk (by simp)⟩
  · rw [hk]; exact ⟨true, q_valuen id b hl 2 2 hk (by simp)⟩
  · rw [hk]; exact ⟨true, q_valuen id b hl 3 4 hk (by simp)⟩
  · refine ⟨true, ?_⟩
    rw [hk] at hC ⊢
    rw [show valueK 4 id b = (⟨id, (getVarF b).1, [], [], []⟩, (getVarF b).2.1, (getVarF b).2.2 == 0) from rfl, E_eq (by rfl) cf_prop_value]
    unfold gvT at hGV
    simp -implicitDefEqProofs only [EVS0, EVS1, EVS2, EVS3, EVS4, EVS5, EVS6, EVS7, EVL0, EVL1, ite_tf, ite_ft, ite_tft, ite_ftf, ite_list, ite_tt, ite_ee, ite_nt, ite_ne, eq_self, implies_true, forall_const, exI, nsite, freeAt, execI, Opd.ev, tget, tins, tput, keepL, sitesOf, List.sum_cons, List.sum_nil, Nat.reduceAdd, Nat.reduceSub, Nat.reduceLT, Nat.reduceLeDiff, Nat.reduceEqDiff, Nat.reduceBEq, Nat.reduceMul, beq_self_eq_true, Bool.false_eq_true, ldA, stA, partA, faddrA, setAt, binA, arithA, shiftA, strA, unA, gSpan, gSkip, unG, ne_eq, Option.some.injEq, reduceCtorEq, decide_true, decide_false, elemsA, resA, resAll, resOne, enterA, decide_eq_true_eq, Bool.not_eq_true, Bool.decide_eq_true, ite_self, ↓reduceIte, noRefL, clrA, gcT, gcA, gcIds, reach, rhoOf, heapOf, idxA, genB, newGen, renB, refsB, List.contains_cons, List.range_succ, cb_prop_value, b_prop_value, cr_prop_value, oI, oN, intsV, bytesV, propsV, propV, propC, bytesOf_map, hC, hGV, Int.reduceBEq, valV, AVal.cells]
  · refine ⟨true, ?_⟩
    rw [hk] at hC ⊢
    rw [show valueK 5 id b = (⟨id, 0, (getTextF b).1, [], []⟩, (getTextF b).2.1, (getTextF b).2.2 == 0) from rfl, E_eq (by rfl) cf_prop_value]
    unfold gtT at hGT
    simp -implicitDefEqProofs only [EVS0, EVS1, EVS2, EVS3, EVS4, EVS5, EVS6, EVS7, EVL0, EVL1, ite_tf, ite_ft, ite_tft, ite_ftf, ite_list, ite_tt, ite_ee, ite_nt, ite_ne, eq_self, implies_true, forall_const, exI, nsite, freeAt, execI, Opd.ev, tget, tins, tput, keepL, sitesOf, List.sum_cons, List.sum_nil, Nat.reduceAdd, Nat.reduceSub, Nat.reduceLT, Nat.reduceLeDiff, Nat.reduceEqDiff, Nat.reduceBEq, Nat.reduceMul, beq_self_eq_true, Bool.false_eq_true, ldA, stA, partA, faddrA, setAt, binA, arithA, shiftA, strA, unA, gSpan, gSkip, unG, ne_eq, Option.some.injEq, reduceCtorEq, decide_true, decide_false, elemsA, resA, resAll, resOne, enterA, decide_eq_true_eq, Bool.not_eq_true, Bool.decide_eq_true, ite_self, ↓reduceIte, noRefL, clrA, gcT, gcA, gcIds, reach, rhoOf, heapOf, idxA, genB, newGen, renB, refsB, List.contains_cons, List.range_succ, cb_prop_value, b_prop_value, cr_prop_value, oI, oN, intsV, bytesV, propsV, propV, propC, bytesOf_map, hC, hGT, Int.reduceBEq, valV, AVal.cells]
  · refine ⟨false, ?_⟩
    rw [hk] at hC ⊢
    rw [show valueK 6 id b = (⟨id, 0, [], [], (getDataF b).1⟩, (getDataF b).2.1, (getDataF b).2.2 == 0) from rfl, E_eq (by rfl) cf_prop_value]
    unfold gdT at hGD
    simp -implicitDefEqProofs only [EVS0, EVS1, EVS2, EVS3, EVS4, EVS5, EVS6, EVS7, EVL0, EVL1, ite_tf, ite_ft, ite_tft, ite_ftf, ite_list, ite_tt, ite_ee, ite_nt, ite_ne, eq_self, implies_true, forall_const, exI, nsite, freeAt, execI, Opd.ev, tget, tins, tput, keepL, sitesOf, List.sum_cons, List.sum_nil, Nat.reduceAdd, Nat.reduceSub, Nat.reduceLT, Nat.reduceLeDiff, Nat.reduceEqDiff, Nat.reduceBEq, Nat.reduceMul, beq_self_eq_true, Bool.false_eq_true, ldA, stA, partA, faddrA, setAt, binA, arithA, shiftA, strA, unA, gSpan, gSkip, unG, ne_eq, Option.some.injEq, reduceCtorEq, decide_true, decide_false, elemsA, resA, resAll, resOne, enterA, decide_eq_true_eq, Bool.not_eq_true, Bool.decide_eq_true, ite_self, ↓reduceIte, noRefL, clrA, gcT, gcA, gcIds, reach, rhoOf, heapOf, idxA, genB, newGen, renB, refsB, List.contains_cons, List.range_succ, cb_prop_value, b_prop_value, cr_prop_value, oI, oN, intsV, bytesV, propsV, propV, propC, bytesOf_map, hC, hGD, Int.reduceBEq, valV, AVal.cells]
  · refine ⟨true, ?_⟩
    rw [hk] at hC ⊢
    rw [show valueK 7 id b = pairV id b from rfl, E_eq (by rfl) cf_prop_value]
    unfold gtT at hGT
    unfold pairV
    have hu := getText_used b
    by_cases h : (getTextF b).2.2 = 0
    · have h' : ((getTextF b).2.2 == 0) = true := by simpa using h
      have hs := fun σ kk => slice_l σ b kk (((getTextF b).2.1 : Nat) : Int) (by omega) (by omega)
      have e : ((((getTextF b).2.1 : Nat) : Int)).toNat = (getTextF b).2.1 := rfl
      rw [e] at hs
      have hGT2 := fun σ site own f => q_gettextC σ site own f (b.drop (getTextF b).2.1) (by simp; omega)
      unfold gtT at hGT2
      have hu2 := getText_used (b.drop (getTextF b).2.1)
      have hdl : (b.drop (getTextF b).2.1).length ≤ b.length := by simp
      have hw : IntKind.i64.wrap ((((getTextF b).2.1 : Nat) : Int) + (((getTextF (b.drop (getTextF b).2.1)).2.1 : Nat) : Int)) = (((getTextF b).2.1 + (getTextF (b.drop (getTextF b).2.1)).2.1 : Nat) : Int) := by
        rw [wrap_nat (by omega) (by omega)]; rfl
      rw [if_pos h]
      rw [h] at hGT
      have e0 : ((0 : Int) == 0) = true := rfl
      simp -implicitDefEqProofs only [EVS0, EVS1, EVS2, EVS3, EVS4, EVS5, EVS6, EVS7, EVL0, EVL1, ite_tf, ite_ft, ite_tft, ite_ftf, ite_list, ite_tt, ite_ee, ite_nt, ite_ne, eq_self, implies_true, forall_const, exI, nsite, freeAt, execI, Opd.ev, tget, tins, tput, keepL, sitesOf, List.sum_cons, List.sum_nil, Nat.reduceAdd, Nat.reduceSub, Nat.reduceLT, Nat.reduceLeDiff, Nat.reduceEqDiff, Nat.reduceBEq, Nat.reduceMul, beq_self_eq_true, Bool.false_eq_true, ldA, stA, partA, faddrA, setAt, binA, arithA, shiftA, strA, unA, gSpan, gSkip, unG, ne_eq, Option.some.injEq, reduceCtorEq, decide_true, decide_false, elemsA, resA, resAll, resOne, enterA, decide_eq_true_eq, Bool.not_eq_true, Bool.decide_eq_true, ite_self, ↓reduceIte, noRefL, clrA, gcT, gcA, gcIds, reach, rhoOf, heapOf, idxA, genB, newGen, renB, refsB, List.contains_cons, List.range_succ, cb_prop_value, b_prop_value, cr_prop_value, oI, oN, intsV, bytesV, propsV, propV, propC, bytesOf_map, hC, hGT, hs, hGT2, hw, e0, Int.reduceBEq, valV, AVal.cells]
    · have h' : ((getTextF b).2.2 == 0) = false := by simpa using h
      rw [if_neg h]
      obtain ⟨x1, x2⟩ := hu.2 h
      rw [x1, x2] at hGT
      simp -implicitDefEqProofs only [EVS0, EVS1, EVS2, EVS3, EVS4, EVS5, EVS6, EVS7, EVL0, EVL1, ite_tf, ite_ft, ite_tft, ite_ftf, ite_list, ite_tt, ite_ee, ite_nt, ite_ne, eq_self, implies_true, forall_const, exI, nsite, freeAt, execI, Opd.ev, tget, tins, tput, keepL, sitesOf, List.sum_cons, List.sum_nil, Nat.reduceAdd, Nat.reduceSub, Nat.reduceLT, Nat.reduceLeDiff, Nat.reduceEqDiff, Nat.reduceBEq, Nat.reduceMul, beq_self_eq_true, Bool.false_eq_true, ldA, stA, partA, faddrA, setAt, binA, arithA, shiftA, strA, unA, gSpan, gSkip, unG, ne_eq, Option.some.injEq, reduceCtorEq, decide_true, decide_false, elemsA, resA, resAll, resOne, enterA, decide_eq_true_eq, Bool.not_eq_true, Bool.decide_eq_true, ite_self, ↓reduceIte, noRefL, clrA, gcT, gcA, gcIds, reach, rhoOf, heapOf, idxA, genB, newGen, renB, refsB, List.contains_cons, List.range_succ, cb_prop_value, b_prop_value, cr_prop_value, oI, oN, intsV, bytesV, propsV, propV, propC, bytesOf_map, hC, hGT, h', Int.reduceBEq, valV, AVal.cells]
theorem q_valueC (σ : AHeap) (site own : Nat) (f : Bool) (id : Int) (b : Bytes) (hl : b.length ≤ 140737488355328) : callG E BY σ site 154 own true [.int .i64 id, .lst f (b.map byteV)] = some (valV false (valueF id b), σ, {}) := by
  obtain ⟨g, h⟩ := q_value id b hl
  exact call_normT h (by kernel_rfl) rfl rfl rfl (fun _ => rfl) _ _ _
end Go.Proofs.YtmlkhhidifjjfaaDoor
namespace Go.Proofs.YtmlkhhidifjjfaaDoor
set_option linter.unusedSimpArgs false
set_option linter.unusedVariables false
set_option maxHeartbeats 8000000
set_option maxRecDepth 10000
end Go.Proofs.YtmlkhhidifjjfaaDoor
namespace Go.Proofs.YtmlkhhidifjjfaaDoor
set_option linter.unusedSimpArgs false
set_option linter.unusedVariables false
set_option maxHeartbeats 4000000
set_option maxRecDepth 10000
def noProp (b : Bool) : AVal := .tup [.agg [.int .i64 0, .int .i64 0, .str [], .str [], .lst b []], .bool false]
theorem kOk_bytes (l : Bytes) : kOk 1 (l.map byteV) = true := by cases l <;> rfl
theorem q_cloneB (l : Bytes) (h : l.length ≤ 140737488355328) : E 111 [.lst false (l.map byteV)] [] = some (.sl 0 0 0 (l.map byteV).length, [.row 0 1 (l.map byteV)]) := by
  refine EV_some.2 ⟨1, ?_⟩
  show clonePrim 1 1 [.lst false (l.map byteV)] [] = _
  have h1 : (l.map byteV).length * 1 ≤ 140737488355328 ∧ kOk 1 (l.map byteV) = true := ⟨by simpa using h, kOk_bytes l⟩
  simp only [clonePrim, elemsA]
  rw [if_pos h1]; rfl
theorem q_cloneBC (σ : AHeap) (site own : Nat) (l : Bytes) (h : l.length ≤ 140737488355328) : callG E BY σ site 111 own true [.lst false (l.map byteV)] = some (.lst false (l.map byteV), σ, {}) :=
  call_rown (byref := BY) (q_cloneB l h) rfl rfl rfl σ site own
theorem q_copied (p : PropD) (h : p.data.length ≤ 140737488355328) : E 147 [propV p] [] = some (propV p, []) := by
  have hC := fun σ site own => q_cloneBC σ site own p.data h
  rw [E_eq (by rfl) cf_prop_copied]
  simp -implicitDefEqProofs only [EVS0, EVS1, EVS2, EVS3, EVS4, EVS5, EVS6, EVS7, EVL0, EVL1, ite_tf, ite_ft, ite_tft, ite_ftf, ite_list, ite_tt, ite_ee, ite_nt, ite_ne, eq_self, implies_true, forall_const, exI, nsite, freeAt, execI, Opd.ev, tget, tins, tput, keepL, sitesOf, List.sum_cons, List.sum_nil, Nat.reduceAdd, Nat.reduceSub, Nat.reduceLT, Nat.reduceLeDiff, Nat.reduceEqDiff, Nat.reduceBEq, Nat.reduceMul, beq_self_eq_true, Bool.false_eq_true, ldA, stA, partA, faddrA, setAt, binA, arithA, shiftA, strA, unA, gSpan, gSkip, unG, ne_eq, Option.some.injEq, reduceCtorEq, decide_true, decide_false, elemsA, resA, resAll, resOne, enterA, decide_eq_true_eq, Bool.not_eq_true, Bool.decide_eq_true, ite_self, ↓reduceIte, noRefL, clrA, gcT, gcA, gcIds, reach, rhoOf, heapOf, idxA, genB, newGen, renB, refsB, List.contains_cons, List.range_succ, cb_prop_copied, b_prop_copied, cr_prop_copied, oI, oN, intsV, bytesV, propsV, propV, propC, bytesOf_map, hC]
theorem q_copiedC (σ : AHeap) (site own : Nat) (p : PropD) (h : p.data.length ≤ 140737488355328) : callG E BY σ site 147 own true [.agg [.int .i64 p.id, .int .i64 p.num, .str p.text, .str p.pair, .lst false (p.data.map byteV)]] = some (.agg [.int .i64 p.id, .int .i64 p.num, .str p.text, .str p.pair, .lst false (p.data.map byteV)], σ, {}) :=
  call_flat (q_copied p h) (by kernel_rfl) (by simp -implicitDefEqProofs only [EVS0, EVS1, EVS2, EVS3, EVS4, EVS5, EVS6, EVS7, EVL0, EVL1, eq_self, implies_true, Bool.false_eq_true, intsV, bytesV, propsV, propV, propC, intsV]) (by simp -implicitDefEqProofs only [EVS0, EVS1, EVS2, EVS3, EVS4, EVS5, EVS6, EVS7, EVL0, EVL1, eq_self, implies_true, Bool.false_eq_true, intsV, bytesV, propsV, propV, propC, intsV]) rfl (fun _ => rfl) _ _ _ _
def findV (id : Int) : List PropD → AVal
  | [] => noProp true
  | p :: r => if p.id == id then .tup [propV p, .bool true] else findV id r
theorem q_findl (l : List PropD) (hl : l.length ≤ 9223372036854775807) (hd : ∀ p ∈ l, p.data.length ≤ 140737488355328) (id : Int) : ∀ (r : List PropD) (i : Nat), l.drop i = r →
    K_prop_Find_l2 0 [(10, .int .i64 i), (9, .int .i64 l.length), (8, .lst false (l.map propV)), (4, .ref 0 0), (0, .int .i64 id)] [.var [.int .i64 0, .int .i64 0, .str [], .str [], .lst true []]] = some (findV id r, [])
  | [], i, h => by
    have h1 := drop_nil h
    unfold K_prop_Find_l2
    rw [evL_eq, findV]
    simp -implicitDefEqProofs only [EVS0, EVS1, EVS2, EVS3, EVS4, EVS5, EVS6, EVS7, EVL0, EVL1, ite_tf, ite_ft, ite_tft, ite_ftf, ite_list, ite_tt, ite_ee, ite_nt, ite_ne, eq_self, implies_true, forall_const, exI, nsite, freeAt, execI, Opd.ev, tget, tins, tput, keepL, sitesOf, List.sum_cons, List.sum_nil, Nat.reduceAdd, Nat.reduceSub, Nat.reduceLT, Nat.reduceLeDiff, Nat.reduceEqDiff, Nat.reduceBEq, Nat.reduceMul, beq_self_eq_true, Bool.false_eq_true, ldA, stA, partA, faddrA, setAt, binA, arithA, shiftA, strA, unA, gSpan, gSkip, unG, ne_eq, Option.some.injEq, reduceCtorEq, decide_true, decide_false, elemsA, resA, resAll, resOne, enterA, decide_eq_true_eq, Bool.not_eq_true, Bool.decide_eq_true, ite_self, ↓reduceIte, noRefL, clrA, gcT, gcA, gcIds, reach, rhoOf, heapOf, idxA, genB, newGen, renB, refsB, List.contains_cons, List.range_succ, cb_prop_Find, b_prop_Find, cr_prop_Find, x_prop_Find_k0, d_prop_Find_k0, x_prop_Find_l2, d_prop_Find_l2, oI, oN, intsV, bytesV, propsV, propV, propC, bytesOf_map, h1, noProp, fillA, AVal.cells]
  | p :: r, i, h => by
    have ih := q_findl l hl hd id r (i + 1) (drop_at h).2.1
    have h1 : (i : Int) < l.length := by have := (drop_at h).2.2; omega
    have e1 := iad (drop_at h).1 propV (k := 5) rfl
    have e3 := wrap_succ h1 hl
    have hC := fun σ site own => q_copiedC σ site own p (hd p (List.mem_of_getElem? (drop_at h).1))
    unfold K_prop_Find_l2 at ih ⊢
    rw [evL_eq, findV]
    cases hb : (p.id == id)
    · simp -implicitDefEqProofs only [EVS0, EVS1, EVS2, EVS3, EVS4, EVS5, EVS6, EVS7, EVL0, EVL1, ite_tf, ite_ft, ite_tft, ite_ftf, ite_list, ite_tt, ite_ee, ite_nt, ite_ne, eq_self, implies_true, forall_const, exI, nsite, freeAt, execI, Opd.ev, tget, tins, tput, keepL, sitesOf, List.sum_cons, List.sum_nil, Nat.reduceAdd, Nat.reduceSub, Nat.reduceLT, Nat.reduceLeDiff, Nat.reduceEqDiff, Nat.reduceBEq, Nat.reduceMul, beq_self_eq_true, Bool.false_eq_true, ldA, stA, partA, faddrA, setAt, binA, arithA, shiftA, strA, unA, gSpan, gSkip, unG, ne_eq, Option.some.injEq, reduceCtorEq, decide_true, decide_false, elemsA, resA, resAll, resOne, enterA, decide_eq_true_eq, Bool.not_eq_true, Bool.decide_eq_true, ite_self, ↓reduceIte, noRefL, clrA, gcT, gcA, gcIds, reach, rhoOf, heapOf, idxA, genB, newGen, renB, refsB, List.contains_cons, List.range_succ, cb_prop_Find, b_prop_Find, cr_prop_Find, x_prop_Find_k0, d_prop_Find_k0, x_prop_Find_l2, d_prop_Find_l2, oI, oN, intsV, bytesV, propsV, propV, propC, bytesOf_map, h1, e1, e3, hb]
      exact ih
    · simp -implicitDefEqProofs only [EVS0, EVS1, EVS2, EVS3, EVS4, EVS5, EVS6, EVS7, EVL0, EVL1, ite_tf, ite_ft, ite_tft, ite_ftf, ite_list, ite_tt, ite_ee, ite_nt, ite_ne, eq_self, implies_true, forall_const, exI, nsite, freeAt, execI, Opd.ev, tget, tins, tput, keepL, sitesOf, List.sum_cons, List.sum_nil, Nat.reduceAdd, Nat.reduceSub, Nat.reduceLT, Nat.reduceLeDiff, Nat.reduceEqDiff, Nat.reduceBEq, Nat.reduceMul, beq_self_eq_true, Bool.false_eq_true, ldA, stA, partA, faddrA, setAt, binA, arithA, shiftA, strA, unA, gSpan, gSkip, unG, ne_eq, Option.some.injEq, reduceCtorEq, decide_true, decide_false, elemsA, resA, resAll, resOne, enterA, decide_eq_true_eq, Bool.not_eq_true, Bool.decide_eq_true, ite_self, ↓reduceIte, noRefL, clrA, gcT, gcA, gcIds, reach, rhoOf, heapOf, idxA, genB, newGen, renB, refsB, List.contains_cons, List.range_succ, cb_prop_Find, b_prop_Find, cr_prop_Find, x_prop_Find_k0, d_prop_Find_k0, x_prop_Find_l2, d_prop_Find_l2, oI, oN, intsV, bytesV, propsV, propV, propC, bytesOf_map, h1, e1, e3, hb, hC]
theorem q_find (l : List PropD) (hl : l.length ≤ 9223372036854775807) (hd : ∀ p ∈ l, p.data.length ≤ 140737488355328) (id : Int) : E 112 [.int .i64 id, propsV l] [] = some (findV id l, []) := by
  have := q_findl l hl hd id l 0 rfl
  have z0 : ((0 : Nat) : Int) = 0 := rfl
  rw [z0] at this
  unfold K_prop_Find_l2 at this
  rw [E_eq (by rfl) cf_prop_Find]
  simp -implicitDefEqProofs only [EVS0, EVS1, EVS2, EVS3, EVS4, EVS5, EVS6, EVS7, EVL0, EVL1, ite_tf, ite_ft, ite_tft, ite_ftf, ite_list, ite_tt, ite_ee, ite_nt, ite_ne, eq_self, implies_true, forall_const, exI, nsite, freeAt, execI, Opd.ev, tget, tins, tput, keepL, sitesOf, List.sum_cons, List.sum_nil, Nat.reduceAdd, Nat.reduceSub, Nat.reduceLT, Nat.reduceLeDiff, Nat.reduceEqDiff, Nat.reduceBEq, Nat.reduceMul, beq_self_eq_true, Bool.false_eq_true, ldA, stA, partA, faddrA, setAt, binA, arithA, shiftA, strA, unA, gSpan, gSkip, unG, ne_eq, Option.some.injEq, reduceCtorEq, decide_true, decide_false, elemsA, resA, resAll, resOne, enterA, decide_eq_true_eq, Bool.not_eq_true, Bool.decide_eq_true, ite_self, ↓reduceIte, noRefL, clrA, gcT, gcA, gcIds, reach, rhoOf, heapOf, idxA, genB, newGen, renB, refsB, List.contains_cons, List.range_succ, cb_prop_Find, b_prop_Find, cr_prop_Find, x_prop_Find_k0, d_prop_Find_k0, x_prop_Find_l2, d_prop_Find_l2, oI, oN, intsV, bytesV, propsV, propV, propC, bytesOf_map, intsV]
  exact this
def findP (id : Int) (l : List PropD) : Option PropD := l.find? (fun p => p.id == id)
def fndV (b : Bool) : Option PropD → AVal
  | none => noProp b
  | some p => .tup [propV p, .bool true]
theorem findV_eq (id : Int) : ∀ l : List PropD, findV id l = fndV true (findP id l)
  | [] => rfl
  | p :: r => by
    have ih := findV_eq id r
    unfold findP at ih ⊢
    rw [findV, List.find?_cons]
    cases h : (p.id == id)
    · simpa using ih
    · rfl
theorem q_findC (σ : AHeap) (site own : Nat) (l : List PropD) (hl : l.length ≤ 9223372036854775807) (hd : ∀ p ∈ l, p.data.length ≤ 140737488355328) (id : Int) : callG E BY σ site 112 own true [.int .i64 id, .lst false (l.map propV)] = some (fndV false (findP id l), σ, {}) := by
  have h := q_find l hl hd id
  rw [findV_eq] at h
  cases hf : findP id l with
  | none => rw [hf] at h; exact call_normT h (by kernel_rfl) rfl rfl rfl (fun _ => rfl) σ site own
  | some p =>
    rw [hf] at h
    exact call_normT h (by kernel_rfl) rfl rfl rfl (fun _ => rfl) σ site own
def propZ : PropD := ⟨0, 0, [], [], []⟩
theorem fndV_getD (o : Option PropD) : fndV false o = .tup [.agg [.int .i64 (o.getD propZ).id, .int .i64 (o.getD propZ).num, .str (o.getD propZ).text, .str (o.getD propZ).pair, .lst false ((o.getD propZ).data.map byteV)], .bool o.isSome] := by
  cases o <;> rfl
end Go.Proofs.YtmlkhhidifjjfaaDoor
namespace Go.Proofs.YtmlkhhidifjjfaaDoor
set_option linter.unusedSimpArgs false
set_option linter.unusedVariables false
set_option maxHeartbeats 8000000
set_option maxRecDepth 10000
def oftenB (id w : Int) : Bool := id == 38 || (id == 11 && w == 3)
def fitsB (id num : Int) : Bool := if id == 11 || id == 33 || id == 35 || id == 39 then num != 0 else kindI id != 1 || decide (num ≤ 1)
theorem q_often (id w : Int) : E 155 [.int .i64 id, .int .i64 w] [] = some (.bool (oftenB id w), []) := by
  rw [E_eq (by rfl) cf_prop_often]
  unfold oftenB
  cases h1 : (id == 38) <;> cases h2 : (id == 11)
  all_goals simp -implicitDefEqProofs only [EVS0, EVS1, EVS2, EVS3, EVS4, EVS5, EVS6, EVS7, EVL0, EVL1, ite_tf, ite_ft, ite_tft, ite_ftf, ite_list, ite_tt, ite_ee, ite_nt, ite_ne, eq_self, implies_true, forall_const, exI, nsite, freeAt, execI, Opd.ev, tget, tins, tput, keepL, sitesOf, List.sum_cons, List.sum_nil, Nat.reduceAdd, Nat.reduceSub, Nat.reduceLT, Nat.reduceLeDiff, Nat.reduceEqDiff, Nat.reduceBEq, Nat.reduceMul, beq_self_eq_true, Bool.false_eq_true, ldA, stA, partA, faddrA, setAt, binA, arithA, shiftA, strA, unA, gSpan, gSkip, unG, ne_eq, Option.some.injEq, reduceCtorEq, decide_true, decide_false, elemsA, resA, resAll, resOne, enterA, decide_eq_true_eq, Bool.not_eq_true, Bool.decide_eq_true, ite_self, ↓reduceIte, noRefL, clrA, gcT, gcA, gcIds, reach, rhoOf, heapOf, idxA, genB, newGen, renB, refsB, List.contains_cons, List.range_succ, cb_prop_often, b_prop_often, cr_prop_often, oI, oN, intsV, bytesV, propsV, propV, propC, bytesOf_map, h1, h2]
theorem q_oftenC (σ : AHeap) (site own : Nat) (id w : Int) : callG E BY σ site 155 own true [.int .i64 id, .int .i64 w] = some (.bool (oftenB id w), σ, {}) :=
  call_normT (q_often id w) (by kernel_rfl) rfl rfl rfl (fun _ => rfl) _ _ _
theorem q_fits (p : PropD) : E 156 [propV p] [] = some (.bool (fitsB p.id p.num), []) := by
  have hC := fun σ site own => q_kindC σ site own p.id
  rw [E_eq (by rfl) cf_prop_fits]
  unfold fitsB
  cases h1 : (p.id == 11) <;> cases h2 : (p.id == 33) <;> cases h3 : (p.id == 35) <;> cases h4 : (p.id == 39)
  all_goals simp -implicitDefEqProofs only [EVS0, EVS1, EVS2, EVS3, EVS4, EVS5, EVS6, EVS7, EVL0, EVL1, ite_tf, ite_ft, ite_tft, ite_ftf, ite_list, ite_tt, ite_ee, ite_nt, ite_ne, eq_self, implies_true, forall_const, exI, nsite, freeAt, execI, Opd.ev, tget, tins, tput, keepL, sitesOf, List.sum_cons, List.sum_nil, Nat.reduceAdd, Nat.reduceSub, Nat.reduceLT, Nat.reduceLeDiff, Nat.reduceEqDiff, Nat.reduceBEq, Nat.reduceMul, beq_self_eq_true, Bool.false_eq_true, ldA, stA, partA, faddrA, setAt, binA, arithA, shiftA, strA, unA, gSpan, gSkip, unG, ne_eq, Option.some.injEq, reduceCtorEq, decide_true, decide_false, elemsA, resA, resAll, resOne, enterA, decide_eq_true_eq, Bool.not_eq_true, Bool.decide_eq_true, ite_self, ↓reduceIte, noRefL, clrA, gcT, gcA, gcIds, reach, rhoOf, heapOf, idxA, genB, newGen, renB, refsB, List.contains_cons, List.range_succ, cb_prop_fits, b_prop_fits, cr_prop_fits, oI, oN, intsV, bytesV, propsV, propV, propC, bytesOf_map, hC, h1, h2, h3, h4]
theorem q_fitsC (σ : AHeap) (site own : Nat) (p : PropD) : callG E BY σ site 156 own true [.agg [.int .i64 p.id, .int .i64 p.num, .str p.text, .str p.pair, .lst false (p.data.map byteV)]] = some (.bool (fitsB p.id p.num), σ, {}) :=
  call_normT (q_fits p) (by kernel_rfl) rfl rfl rfl (fun _ => rfl) _ _ _
end Go.Proofs.YtmlkhhidifjjfaaDoor
namespace Go.Proofs.YtmlkhhidifjjfaaDoor
set_option linter.unusedSimpArgs false
set_option linter.unusedVariables false
set_option maxHeartbeats 8000000
set_option maxRecDepth 10000
theorem gvA_used : ∀ (b : Bytes) (i n : Nat), (gvA i n b).2.2 = 0 → i < (gvA i n b).2.1 ∧ (gvA i n b).2.1 ≤ i + b.length
  | [], i, n, h => by
    unfold gvA at h
    split at h <;> simp at h
  | c :: r, i, n, h => by
    unfold gvA at h ⊢
    split at h
    · simp at h
    · rename_i h4
      rw [if_neg h4]
      split at h
      · rename_i hc
        rw [if_pos hc]
        split at h
        · simp at h
        · rename_i h0
          rw [if_neg h0]
          simp
      · rename_i hc
        rw [if_neg hc]
        have := gvA_used r (i + 1) _ h
        simp only [List.length_cons]
        omega
theorem getVar_used (b : Bytes) (h : (getVarF b).2.2 = 0) : 0 < (getVarF b).2.1 ∧ (getVarF b).2.1 ≤ b.length := by
  have := gvA_used b 0 0 h
  simpa [getVarF] using this
theorem value_id (id : Int) (b : Bytes) : (valueF id b).1.id = id := by
  unfold valueF valueK numV pairV
  repeat' split
  all_goals rfl
theorem value_data (id : Int) (b : Bytes) : (valueF id b).1.data.length ≤ b.length := by
  unfold valueF valueK numV pairV
  repeat' split
  all_goals first
    | exact (getData_used b).2
    | exact Nat.zero_le _
theorem gvA_le : ∀ (b : Bytes) (i n : Nat), (gvA i n b).2.1 ≤ i + b.length
  | [], i, n => by unfold gvA; split <;> simp
  | c :: r, i, n => by
    unfold gvA
    repeat' split
    all_goals simp only [List.length_cons]
    all_goals first
      | omega
      | (have := gvA_le r (i + 1) (n + c.toNat % 128 * 128 ^ i); omega)
theorem getVar_le (b : Bytes) : (getVarF b).2.1 ≤ b.length := by simpa [getVarF] using gvA_le b 0 0
theorem value_used (id : Int) (b : Bytes) : (valueF id b).2.1 ≤ b.length := by
  have h1 := (getText_used b).1
  have h2 := (getText_used (b.drop (getTextF b).2.1)).1
  have h3 := getVar_le b
  have h4 := (getData_used b).1
  simp only [List.length_drop] at h2
  unfold valueF valueK numV pairV
  repeat' split
  all_goals simp only
  all_goals omega
def oneK (w : Int) (l : List PropD) (id : Int) (u : Nat) (v : PropD × Nat × Bool) : PropD × Nat × Int :=
  if v.2.2 = false then (v.1, 0, 129) else if ((findP id l).isSome && !oftenB id w) = true then (v.1, 0, 130) else
  if fitsB v.1.id v.1.num = true then (v.1, u + v.2.1, 0) else if (id == 35) = true then (v.1, 0, 148) else (v.1, 0, 130)
def oneF (w : Int) (b : Bytes) (l : List PropD) : PropD × Nat × Int :=
  if (getVarF b).2.2 ≠ 0 ∨ mayB ((getVarF b).1 : Nat) w = false then (propZ, 0, 129)
  else oneK w l ((getVarF b).1 : Nat) (getVarF b).2.1 (valueF ((getVarF b).1 : Nat) (b.drop (getVarF b).2.1))
def oneV (f : Bool) (x : PropD × Nat × Int) : AVal := .tup [.agg [.int .i64 x.1.id, .int .i64 x.1.num, .str x.1.text, .str x.1.pair, .lst f (x.1.data.map byteV)], .int .i64 (x.2.1 : Nat), .int .i64 x.2.2]
theorem q_one (w : Int) (b : Bytes) (l : List PropD) (hl : b.length ≤ 140737488355328) (hl2 : l.length ≤ 9223372036854775807) (hd : ∀ p ∈ l, p.data.length ≤ 140737488355328) : ∃ f, E 136 [.int .i64 w, bytesV b, propsV l] [] = some (oneV f (oneF w b l), []) := by
  have hGV := fun σ site own f => q_getvarC σ site own f b (by omega)
  have hu := getVar_used b
  unfold oneF
  rcases hx : getVarF b with ⟨n, u, e⟩
  rw [hx] at hGV hu
  unfold gvT at hGV
  simp only at hGV hu ⊢
  have hM := fun σ site own => q_mayC σ site own (n : Int) w
  by_cases he : e = 0
  · subst he
    have n0 : ((0 : Int) != 0) = false := rfl
    cases hm : mayB (n : Int) w
    · refine ⟨true, ?_⟩
      rw [hm] at hM
      have hc : (0 : Int) ≠ 0 ∨ false = false := Or.inr rfl
      rw [if_pos hc, E_eq (by rfl) cf_prop_one]
      unfold oneV propZ
      simp -implicitDefEqProofs only [EVS0, EVS1, EVS2, EVS3, EVS4, EVS5, EVS6, EVS7, EVL0, EVL1, ite_tf, ite_ft, ite_tft, ite_ftf, ite_list, ite_tt, ite_ee, ite_nt, ite_ne, eq_self, implies_true, forall_const, exI, nsite, freeAt, execI, Opd.ev, tget, tins, tput, keepL, sitesOf, List.sum_cons, List.sum_nil, Nat.reduceAdd, Nat.reduceSub, Nat.reduceLT, Nat.reduceLeDiff, Nat.reduceEqDiff, Nat.reduceBEq, Nat.reduceMul, beq_self_eq_true, Bool.false_eq_true, ldA, stA, partA, faddrA, setAt, binA, arithA, shiftA, strA, unA, gSpan, gSkip, unG, ne_eq, Option.some.injEq, reduceCtorEq, decide_true, decide_false, elemsA, resA, resAll, resOne, enterA, decide_eq_true_eq, Bool.not_eq_true, Bool.decide_eq_true, ite_self, ↓reduceIte, noRefL, clrA, gcT, gcA, gcIds, reach, rhoOf, heapOf, idxA, genB, newGen, renB, refsB, List.contains_cons, List.range_succ, cb_prop_one, b_prop_one, cr_prop_one, oI, oN, intsV, bytesV, propsV, propV, propC, bytesOf_map, hGV, hM, n0, AVal.cells, fillA, setAt]
      rfl
    · refine ⟨false, ?_⟩
      rw [hm] at hM
      have hc : ¬ ((0 : Int) ≠ 0 ∨ true = false) := by simp
      rw [if_neg hc]
      have hul := (hu rfl).2
      have hs := fun σ kk => slice_l σ b kk ((u : Nat) : Int) (by omega) (by omega)
      have e2 : (((u : Nat) : Int)).toNat = u := rfl
      rw [e2] at hs
      have hV := fun σ site own f => q_valueC σ site own f (n : Int) (b.drop u) (by simp; omega)
      have hF := fun σ site own => q_findC σ site own l hl2 hd (n : Int)
      have hO := fun σ site own => q_oftenC σ site own (n : Int) w
      have hid := value_id (n : Int) (b.drop u)
      have hused : (valueF (n : Int) (b.drop u)).2.1 ≤ b.length := Nat.le_trans (value_used _ _) (by simp)
      have hT := fun σ site own => q_fitsC σ site own (valueF (n : Int) (b.drop u)).1
      unfold valV at hV
      simp only [fndV_getD] at hF
      unfold oneK
      generalize valueF (n : Int) (b.drop u) = v at *
      obtain ⟨p, m, ok⟩ := v
      simp only at hV hT hid hused ⊢
      have hw : IntKind.i64.wrap ((u : Int) + (m : Int)) = ((u + m : Nat) : Int) := by
        rw [wrap_nat (by omega) (by omega)]; rfl
      generalize (findP (n : Int) l).getD propZ = q at *
      cases ok
      · rw [E_eq (by rfl) cf_prop_one]
        unfold oneV
        simp -implicitDefEqProofs only [EVS0, EVS1, EVS2, EVS3, EVS4, EVS5, EVS6, EVS7, EVL0, EVL1, ite_tf, ite_ft, ite_tft, ite_ftf, ite_list, ite_tt, ite_ee, ite_nt, ite_ne, eq_self, implies_true, forall_const, exI, nsite, freeAt, execI, Opd.ev, tget, tins, tput, keepL, sitesOf, List.sum_cons, List.sum_nil, Nat.reduceAdd, Nat.reduceSub, Nat.reduceLT, Nat.reduceLeDiff, Nat.reduceEqDiff, Nat.reduceBEq, Nat.reduceMul, beq_self_eq_true, Bool.false_eq_true, ldA, stA, partA, faddrA, setAt, binA, arithA, shiftA, strA, unA, gSpan, gSkip, unG, ne_eq, Option.some.injEq, reduceCtorEq, decide_true, decide_false, elemsA, resA, resAll, resOne, enterA, decide_eq_true_eq, Bool.not_eq_true, Bool.decide_eq_true, ite_self, ↓reduceIte, noRefL, clrA, gcT, gcA, gcIds, reach, rhoOf, heapOf, idxA, genB, newGen, renB, refsB, List.contains_cons, List.range_succ, cb_prop_one, b_prop_one, cr_prop_one, oI, oN, intsV, bytesV, propsV, propV, propC, bytesOf_map, hGV, hM, hs, hV, hF, n0, AVal.cells, fillA, setAt]
        rfl
      · cases h1 : (findP (n : Int) l).isSome <;> rw [h1] at hF
        · cases h3 : fitsB p.id p.num <;> rw [h3] at hT
          · cases h4 : ((n : Int) == 35)
            all_goals rw [E_eq (by rfl) cf_prop_one]
            all_goals unfold oneV
            all_goals simp -implicitDefEqProofs only [EVS0, EVS1, EVS2, EVS3, EVS4, EVS5, EVS6, EVS7, EVL0, EVL1, ite_tf, ite_ft, ite_tft, ite_ftf, ite_list, ite_tt, ite_ee, ite_nt, ite_ne, eq_self, implies_true, forall_const, exI, nsite, freeAt, execI, Opd.ev, tget, tins, tput, keepL, sitesOf, List.sum_cons, List.sum_nil, Nat.reduceAdd, Nat.reduceSub, Nat.reduceLT, Nat.reduceLeDiff, Nat.reduceEqDiff, Nat.reduceBEq, Nat.reduceMul, beq_self_eq_true, Bool.false_eq_true, ldA, stA, partA, faddrA, setAt, binA, arithA, shiftA, strA, unA, gSpan, gSkip, unG, ne_eq, Option.some.injEq, reduceCtorEq, decide_true, decide_false, elemsA, resA, resAll, resOne, enterA, decide_eq_true_eq, Bool.not_eq_true, Bool.decide_eq_true, ite_self, ↓reduceIte, noRefL, clrA, gcT, gcA, gcIds, reach, rhoOf, heapOf, idxA, genB, newGen, renB, refsB, List.contains_cons, List.range_succ, cb_prop_one, b_prop_one, cr_prop_one, oI, oN, intsV, bytesV, propsV, propV, propC, bytesOf_map, hGV, hM, hs, hV, hF, hT, hO, h4, n0, AVal.cells, fillA, setAt]
            all_goals rfl
          · rw [E_eq (by rfl) cf_prop_one]
            unfold oneV
            simp -implicitDefEqProofs only [EVS0, EVS1, EVS2, EVS3, EVS4, EVS5, EVS6, EVS7, EVL0, EVL1, ite_tf, ite_ft, ite_tft, ite_ftf, ite_list, ite_tt, ite_ee, ite_nt, ite_ne, eq_self, implies_true, forall_const, exI, nsite, freeAt, execI, Opd.ev, tget, tins, tput, keepL, sitesOf, List.sum_cons, List.sum_nil, Nat.reduceAdd, Nat.reduceSub, Nat.reduceLT, Nat.reduceLeDiff, Nat.reduceEqDiff, Nat.reduceBEq, Nat.reduceMul, beq_self_eq_true, Bool.false_eq_true, ldA, stA, partA, faddrA, setAt, binA, arithA, shiftA, strA, unA, gSpan, gSkip, unG, ne_eq, Option.some.injEq, reduceCtorEq, decide_true, decide_false, elemsA, resA, resAll, resOne, enterA, decide_eq_true_eq, Bool.not_eq_true, Bool.decide_eq_true, ite_self, ↓reduceIte, noRefL, clrA, gcT, gcA, gcIds, reach, rhoOf, heapOf, idxA, genB, newGen, renB, refsB, List.contains_cons, List.range_succ, cb_prop_one, b_prop_one, cr_prop_one, oI, oN, intsV, bytesV, propsV, propV, propC, bytesOf_map, hGV, hM, hs, hV, hF, hT, hO, hw, n0, AVal.cells, fillA, setAt]
        · cases h2 : oftenB (n : Int) w <;> rw [h2] at hO
          · rw [E_eq (by rfl) cf_prop_one]
            unfold oneV
            simp -implicitDefEqProofs only [EVS0, EVS1, EVS2, EVS3, EVS4, EVS5, EVS6, EVS7, EVL0, EVL1, ite_tf, ite_ft, ite_tft, ite_ftf, ite_list, ite_tt, ite_ee, ite_nt, ite_ne, eq_self, implies_true, forall_const, exI, nsite, freeAt, execI, Opd.ev, tget, tins, tput, keepL, sitesOf, List.sum_cons, List.sum_nil, Nat.reduceAdd, Nat.reduceSub, Nat.reduceLT, Nat.reduceLeDiff, Nat.reduceEqDiff, Nat.reduceBEq, Nat.reduceMul, beq_self_eq_true, Bool.false_eq_true, ldA, stA, partA, faddrA, setAt, binA, arithA, shiftA, strA, unA, gSpan, gSkip, unG, ne_eq, Option.some.injEq, reduceCtorEq, decide_true, decide_false, elemsA, resA, resAll, resOne, enterA, decide_eq_true_eq, Bool.not_eq_true, Bool.decide_eq_true, ite_self, ↓reduceIte, noRefL, clrA, gcT, gcA, gcIds, reach, rhoOf, heapOf, idxA, genB, newGen, renB, refsB, List.contains_cons, List.range_succ, cb_prop_one, b_prop_one, cr_prop_one, oI, oN, intsV, bytesV, propsV, propV, propC, bytesOf_map, hGV, hM, hs, hV, hF, hO, n0, AVal.cells, fillA, setAt]
            rfl
          · cases h3 : fitsB p.id p.num <;> rw [h3] at hT
            · cases h4 : ((n : Int) == 35)
              all_goals rw [E_eq (by rfl) cf_prop_one]
              all_goals unfold oneV
              all_goals simp -implicitDefEqProofs only [EVS0, EVS1, EVS2, EVS3, EVS4, EVS5, EVS6, EVS7, EVL0, EVL1, ite_tf, ite_ft, ite_tft, ite_ftf, ite_list, ite_tt, ite_ee, ite_nt, ite_ne, eq_self, implies_true, forall_const, exI, nsite, freeAt, execI, Opd.ev, tget, tins, tput, keepL, sitesOf, List.sum_cons, List.sum_nil, Nat.reduceAdd, Nat.reduceSub, Nat.reduceLT, Nat.reduceLeDiff, Nat.reduceEqDiff, Nat.reduceBEq, Nat.reduceMul, beq_self_eq_true, Bool.false_eq_true, ldA, stA, partA, faddrA, setAt, binA, arithA, shiftA, strA, unA, gSpan, gSkip, unG, ne_eq, Option.some.injEq, reduceCtorEq, decide_true, decide_false, elemsA, resA, resAll, resOne, enterA, decide_eq_true_eq, Bool.not_eq_true, Bool.decide_eq_true, ite_self, ↓reduceIte, noRefL, clrA, gcT, gcA, gcIds, reach, rhoOf, heapOf, idxA, genB, newGen, renB, refsB, List.contains_cons, List.range_succ, cb_prop_one, b_prop_one, cr_prop_one, oI, oN, intsV, bytesV, propsV, propV, propC, bytesOf_map, hGV, hM, hs, hV, hF, hT, hO, h4, n0, AVal.cells, fillA, setAt]
              all_goals rfl
            · rw [E_eq (by rfl) cf_prop_one]
              unfold oneV
              simp -implicitDefEqProofs only [EVS0, EVS1, EVS2, EVS3, EVS4, EVS5, EVS6, EVS7, EVL0, EVL1, ite_tf, ite_ft, ite_tft, ite_ftf, ite_list, ite_tt, ite_ee, ite_nt, ite_ne, eq_self, implies_true, forall_const, exI, nsite, freeAt, execI, Opd.ev, tget, tins, tput, keepL, sitesOf, List.sum_cons, List.sum_nil, Nat.reduceAdd, Nat.reduceSub, Nat.reduceLT, Nat.reduceLeDiff, Nat.reduceEqDiff, Nat.reduceBEq, Nat.reduceMul, beq_self_eq_true, Bool.false_eq_true, ldA, stA, partA, faddrA, setAt, binA, arithA, shiftA, strA, unA, gSpan, gSkip, unG, ne_eq, Option.some.injEq, reduceCtorEq, decide_true, decide_false, elemsA, resA, resAll, resOne, enterA, decide_eq_true_eq, Bool.not_eq_true, Bool.decide_eq_true, ite_self, ↓reduceIte, noRefL, clrA, gcT, gcA, gcIds, reach, rhoOf, heapOf, idxA, genB, newGen, renB, refsB, List.contains_cons, List.range_succ, cb_prop_one, b_prop_one, cr_prop_one, oI, oN, intsV, bytesV, propsV, propV, propC, bytesOf_map, hGV, hM, hs, hV, hF, hT, hO, hw, n0, AVal.cells, fillA, setAt]
  · refine ⟨true, ?_⟩
    have hc : e ≠ 0 ∨ mayB (n : Int) w = false := Or.inl he
    have n1 : (e != 0) = true := by simpa using he
    rw [if_pos hc, E_eq (by rfl) cf_prop_one]
    unfold oneV propZ
    simp -implicitDefEqProofs only [EVS0, EVS1, EVS2, EVS3, EVS4, EVS5, EVS6, EVS7, EVL0, EVL1, ite_tf, ite_ft, ite_tft, ite_ftf, ite_list, ite_tt, ite_ee, ite_nt, ite_ne, eq_self, implies_true, forall_const, exI, nsite, freeAt, execI, Opd.ev, tget, tins, tput, keepL, sitesOf, List.sum_cons, List.sum_nil, Nat.reduceAdd, Nat.reduceSub, Nat.reduceLT, Nat.reduceLeDiff, Nat.reduceEqDiff, Nat.reduceBEq, Nat.reduceMul, beq_self_eq_true, Bool.false_eq_true, ldA, stA, partA, faddrA, setAt, binA, arithA, shiftA, strA, unA, gSpan, gSkip, unG, ne_eq, Option.some.injEq, reduceCtorEq, decide_true, decide_false, elemsA, resA, resAll, resOne, enterA, decide_eq_true_eq, Bool.not_eq_true, Bool.decide_eq_true, ite_self, ↓reduceIte, noRefL, clrA, gcT, gcA, gcIds, reach, rhoOf, heapOf, idxA, genB, newGen, renB, refsB, List.contains_cons, List.range_succ, cb_prop_one, b_prop_one, cr_prop_one, oI, oN, intsV, bytesV, propsV, propV, propC, bytesOf_map, hGV, n1, AVal.cells, fillA, setAt]
    rfl
end Go.Proofs.YtmlkhhidifjjfaaDoor
namespace Go.Proofs.YtmlkhhidifjjfaaDoor
set_option linter.unusedSimpArgs false
set_option linter.unusedVariables false
set_option maxHeartbeats 8000000
set_option maxRecDepth 10000
/-- properties one behind the other, behind others; the code -/
def readL (w : Int) : Nat → Bytes → List PropD → List PropD × Int
  | _, [], l => (l, 0)
  | 0, _ :: _, _ => ([], 129)
  | n + 1, c :: r, l => if (oneF w (c :: r) l).2.2 = 0 then readL w n ((c :: r).drop (oneF w (c :: r) l).2.1) (l ++ [(oneF w (c :: r) l).1]) else ([], (oneF w (c :: r) l).2.2)
def readF (w : Int) (b : Bytes) : List PropD × Nat × Int :=
  if (getVarF b).2.2 ≠ 0 ∨ ((getVarF b).1 : Int) > (b.length : Int) - ((getVarF b).2.1 : Nat) then ([], 0, 129)
  else if (readL w (getVarF b).1 ((b.take ((getVarF b).2.1 + (getVarF b).1)).drop (getVarF b).2.1) []).2 = 0 then
    ((readL w (getVarF b).1 ((b.take ((getVarF b).2.1 + (getVarF b).1)).drop (getVarF b).2.1) []).1, (getVarF b).2.1 + (getVarF b).1, 0)
  else ([], 0, (readL w (getVarF b).1 ((b.take ((getVarF b).2.1 + (getVarF b).1)).drop (getVarF b).2.1) []).2)
def endL (u : Nat) (x : List PropD × Int) : AVal × AHeap := if x.2 = 0 then (.tup [growV (x.1.map propV), .int .i64 (u : Nat), .int .i64 0], growH 5 (x.1.map propV)) else (.tup [.lst true [], .int .i64 0, .int .i64 x.2], [])
theorem one_used {w : Int} {b : Bytes} {l : List PropD} (h : (oneF w b l).2.2 = 0) : 0 < (oneF w b l).2.1 ∧ (oneF w b l).2.1 ≤ b.length ∧ (oneF w b l).1.data.length ≤ b.length := by
  unfold oneF at h ⊢
  split at h
  · simp at h
  · rename_i hc
    rw [if_neg hc]
    have hc0 : (getVarF b).2.2 = 0 := Decidable.byContradiction fun h => hc (Or.inl h)
    have h1 := getVar_used b hc0
    have h2 := value_used ((getVarF b).1 : Nat) (b.drop (getVarF b).2.1)
    have h3 := value_data ((getVarF b).1 : Nat) (b.drop (getVarF b).2.1)
    simp only [List.length_drop] at h2 h3
    unfold oneK at h ⊢
    generalize valueF ((getVarF b).1 : Nat) (b.drop (getVarF b).2.1) = v at *
    repeat' (split at h)
    all_goals first
      | (simp at h; done)
      | skip
    rename_i a1 a2 a3
    rw [if_neg a1, if_neg a2, if_pos a3]
    simp only
    omega
theorem growV_ne {xs : List AVal} (h : 0 < xs.length) : growV xs = .sl 0 0 0 xs.length := by
  cases xs with
  | nil => simp at h
  | cons x xs => rfl
theorem growH_ne {k : Nat} {xs : List AVal} (h : 0 < xs.length) : growH k xs = [.row 0 k xs] := by
  cases xs with
  | nil => simp at h
  | cons x xs => rfl
theorem noByte_props (l : List PropD) : noByteL (l.map propV) = true := by
  unfold noByteL
  rw [List.all_eq_true]
  intro x hx
  obtain ⟨p, _, rfl⟩ := List.mem_map.1 hx
  rfl
theorem byte0_map (b : Bytes) : (b.map byteV).all byte0 = true := by
  rw [List.all_eq_true]
  intro x hx
  obtain ⟨p, _, rfl⟩ := List.mem_map.1 hx
  rfl
theorem q_oneC (σ : AHeap) (site own : Nat) (f g : Bool) (w : Int) (b : Bytes) (l : List PropD) (hl : b.length ≤ 140737488355328) (hl2 : l.length ≤ 9223372036854775807) (hd : ∀ p ∈ l, p.data.length ≤ 140737488355328) :
    callG E BY σ site 136 own true [.int .i64 w, .lst f (b.map byteV), .lst g (l.map propV)] = some (oneV false (oneF w b l), σ, {}) := by
  obtain ⟨f', h⟩ := q_one w b l hl hl2 hd
  exact call_normT h (by kernel_rfl) rfl rfl (by cases f' <;> rfl) (fun _ => rfl) _ _ _
theorem q_oneS (σ : AHeap) (site own : Nat) (f : Bool) (w : Int) (b : Bytes) (l : List PropD) (hl : b.length ≤ 140737488355328) (hl2 : l.length ≤ 9223372036854775807) (hd : ∀ p ∈ l, p.data.length ≤ 140737488355328) :
    callG E BY (.row 0 5 (l.map propV) :: σ) site 136 own true [.int .i64 w, .lst f (b.map byteV), .sl 0 0 0 (l.map propV).length] = some (oneV false (oneF w b l), .row 0 5 (l.map propV) :: σ, { rd := [0] }) := by
  obtain ⟨f', h⟩ := q_one w b l hl hl2 hd
  refine call_shown_bytes (vs := [.int .i64 w, bytesV b, propsV l]) (by kernel_rfl) ?_ rfl rfl h (r' := oneV false (oneF w b l)) (by cases f' <;> rfl) ?_ _ _
  · simp [showAs, showA, showA1, elemsA, bytesV, propsV]
    exact List.take_of_length_le (by simp)
  · have h1 := noByte_props l
    have h2 := byte0_map (oneF w b l).1.data
    unfold apartA
    simp only [List.isEmpty_cons, Bool.not_false, Bool.true_and, oneV, byteA, byte2, byte1, List.all_cons, List.all_nil, flat1, h2, noByteT, List.getElem?_cons_zero, h1, Bool.and_self]
theorem readL_nil (w : Int) (n : Nat) (l : List PropD) : readL w n [] l = (l, 0) := by cases n <;> rfl
theorem readL_cons (w : Int) (n : Nat) (c : UInt8) (r : Bytes) (l : List PropD) : readL w (n + 1) (c :: r) l = if (oneF w (c :: r) l).2.2 = 0 then readL w n ((c :: r).drop (oneF w (c :: r) l).2.1) (l ++ [(oneF w (c :: r) l).1]) else ([], (oneF w (c :: r) l).2.2) := rfl
theorem q_pread0 (w : Int) (N U : Nat) (hU : U + N ≤ 140737488355328) (l : List PropD) :
    K_prop_Read_l5 0 [(10, .lst false []), (8, .int .i64 (U : Nat)), (7, .int .i64 (N : Nat)), (4, growV (l.map propV)), (0, .int .i64 w)] (growH 5 (l.map propV)) = some (endL (U + N) (l, 0)) := by
  have hw : IntKind.i64.wrap ((U : Int) + (N : Int)) = ((U + N : Nat) : Int) := by rw [wrap_nat (by omega) (by omega)]; rfl
  have h1 : ¬ (((0 : Nat) : Int) > 0) := by simp
  unfold endL K_prop_Read_l5
  rw [evL_eq]
  cases l with
  | nil =>
    simp -implicitDefEqProofs only [EVS0, EVS1, EVS2, EVS3, EVS4, EVS5, EVS6, EVS7, EVL0, EVL1, ite_tf, ite_ft, ite_tft, ite_ftf, ite_list, ite_tt, ite_ee, ite_nt, ite_ne, eq_self, implies_true, forall_const, exI, nsite, freeAt, execI, Opd.ev, tget, tins, tput, keepL, sitesOf, List.sum_cons, List.sum_nil, Nat.reduceAdd, Nat.reduceSub, Nat.reduceLT, Nat.reduceLeDiff, Nat.reduceEqDiff, Nat.reduceBEq, Nat.reduceMul, beq_self_eq_true, Bool.false_eq_true, ldA, stA, partA, faddrA, setAt, binA, arithA, shiftA, strA, unA, gSpan, gSkip, unG, ne_eq, Option.some.injEq, reduceCtorEq, decide_true, decide_false, elemsA, resA, resAll, resOne, enterA, decide_eq_true_eq, Bool.not_eq_true, Bool.decide_eq_true, ite_self, ↓reduceIte, noRefL, clrA, gcT, gcA, gcIds, reach, rhoOf, heapOf, idxA, genB, newGen, renB, refsB, List.contains_cons, List.range_succ, cb_prop_Read, b_prop_Read, cr_prop_Read, x_prop_Read_k0, d_prop_Read_k0, x_prop_Read_l5, d_prop_Read_l5, oI, oN, intsV, bytesV, propsV, propV, propC, bytesOf_map, growV_nil, growH_nil, hw, h1]
    try (simp [outA, gcA, gcIds, reach, refsL, refsV, rhoOf, heapOf, idxA, genB, newGen, renL, renV, renB, refsB, List.range_succ])
  | cons p l =>
    generalize hX : (p :: l).map propV = X
    have hpos : 0 < X.length := by rw [← hX]; simp
    simp only [growV_ne hpos, growH_ne hpos]
    simp -implicitDefEqProofs only [EVS0, EVS1, EVS2, EVS3, EVS4, EVS5, EVS6, EVS7, EVL0, EVL1, ite_tf, ite_ft, ite_tft, ite_ftf, ite_list, ite_tt, ite_ee, ite_nt, ite_ne, eq_self, implies_true, forall_const, exI, nsite, freeAt, execI, Opd.ev, tget, tins, tput, keepL, sitesOf, List.sum_cons, List.sum_nil, Nat.reduceAdd, Nat.reduceSub, Nat.reduceLT, Nat.reduceLeDiff, Nat.reduceEqDiff, Nat.reduceBEq, Nat.reduceMul, beq_self_eq_true, Bool.false_eq_true, ldA, stA, partA, faddrA, setAt, binA, arithA, shiftA, strA, unA, gSpan, gSkip, unG, ne_eq, Option.some.injEq, reduceCtorEq, decide_true, decide_false, elemsA, resA, resAll, resOne, enterA, decide_eq_true_eq, Bool.not_eq_true, Bool.decide_eq_true, ite_self, ↓reduceIte, noRefL, clrA, gcT, gcA, gcIds, reach, rhoOf, heapOf, idxA, genB, newGen, renB, refsB, List.contains_cons, List.range_succ, cb_prop_Read, b_prop_Read, cr_prop_Read, x_prop_Read_k0, d_prop_Read_k0, x_prop_Read_l5, d_prop_Read_l5, oI, oN, intsV, bytesV, propsV, propV, propC, bytesOf_map, hw, h1]
    simp [outA, gcA, gcIds, reach, refsL, refsV, rhoOf, heapOf, idxA, genB, newGen, renL, renV, renB, refsB, List.range_succ]
theorem q_preadl (w : Int) (N U : Nat) (hU : U + N ≤ 140737488355328) (hN9 : N ≤ 1000000000) : ∀ (n : Nat) (b : Bytes) (l : List PropD), b.length ≤ n → l.length + b.length ≤ N → (∀ p ∈ l, p.data.length ≤ 140737488355328) →
    K_prop_Read_l5 0 [(10, .lst false (b.map byteV)), (8, .int .i64 (U : Nat)), (7, .int .i64 (N : Nat)), (4, growV (l.map propV)), (0, .int .i64 w)] (growH 5 (l.map propV)) = some (endL (U + N) (readL w n b l))
  | n, [], l, hb, hN, hd => by
    rw [readL_nil]
    exact q_pread0 w N U hU l
  | 0, c :: r, l, hb, hN, hd => by simp at hb
  | n + 1, c :: r, l, hb, hN, hd => by
    rw [readL_cons]
    generalize hB : c :: r = b at *
    have hlen : 0 < b.length := by rw [← hB]; simp
    have hpos : ((b.length : Nat) : Int) > 0 := by omega
    have hC := fun σ site own f g => q_oneC σ site own f g w b l (by omega) (by omega) hd
    have hS := fun σ site own f => q_oneS σ site own f w b l (by omega) (by omega) hd
    have hu := one_used (w := w) (b := b) (l := l)
    unfold oneV at hC hS
    rcases hx : oneF w b l with ⟨p, m, e⟩
    rw [hx] at hC hS hu
    simp only at hC hS hu ⊢
    by_cases he : e = 0
    · subst he
      obtain ⟨u1, u2, u3⟩ := hu rfl
      have n0 : ((0 : Int) != 0) = false := rfl
      rw [if_pos rfl]
      have ih := q_preadl w N U hU hN9 n (b.drop m) (l ++ [p]) (by simp; omega) (by simp; omega) (by
        intro q hq
        rcases List.mem_append.1 hq with h | h
        · exact hd q h
        · simp at h; subst h; omega)
      have hs := fun σ kk => slice_l σ b kk ((m : Nat) : Int) (by omega) (by omega)
      have e2 : (((m : Nat) : Int)).toNat = m := rfl
      rw [e2] at hs
      generalize readL w n (b.drop m) (l ++ [p]) = R at *
      unfold K_prop_Read_l5 at ih ⊢
      rw [evL_eq]
      cases l with
      | nil =>
        simp only [List.map_nil] at hC
        simp only [List.nil_append, List.map_cons, List.map_nil, growV_cons, growH_cons, growV_nil, growH_nil, List.length_cons, List.length_nil, Nat.zero_add, propV, propC, bytesV] at ih ⊢
        simp -implicitDefEqProofs only [EVS0, EVS1, EVS2, EVS3, EVS4, EVS5, EVS6, EVS7, EVL0, EVL1, ite_tf, ite_ft, ite_tft, ite_ftf, ite_list, ite_tt, ite_ee, ite_nt, ite_ne, eq_self, implies_true, forall_const, exI, nsite, freeAt, execI, Opd.ev, tget, tins, tput, keepL, sitesOf, List.sum_cons, List.sum_nil, Nat.reduceAdd, Nat.reduceSub, Nat.reduceLT, Nat.reduceLeDiff, Nat.reduceEqDiff, Nat.reduceBEq, Nat.reduceMul, beq_self_eq_true, Bool.false_eq_true, ldA, stA, partA, faddrA, setAt, binA, arithA, shiftA, strA, unA, gSpan, gSkip, unG, ne_eq, Option.some.injEq, reduceCtorEq, decide_true, decide_false, elemsA, resA, resAll, resOne, enterA, decide_eq_true_eq, Bool.not_eq_true, Bool.decide_eq_true, ite_self, ↓reduceIte, noRefL, clrA, gcT, gcA, gcIds, reach, rhoOf, heapOf, idxA, genB, newGen, renB, refsB, List.contains_cons, List.range_succ, cb_prop_Read, b_prop_Read, cr_prop_Read, x_prop_Read_k0, d_prop_Read_k0, x_prop_Read_l5, d_prop_Read_l5, oI, oN, intsV, bytesV, propsV, propV, propC, bytesOf_map, hpos, hC, n0, hs, appA, kOk, viewAs, viewA, viewA1, viewsA, freezeA, List.foldl_cons, List.foldl_nil, List.length_singleton, Nat.one_mul, AVal.cells, fillA, setAt]
        exact ih
      | cons a l =>
        have hXl : ((a :: l).map propV).length = l.length + 1 := by simp
        rw [List.map_append] at ih
        generalize hX : (a :: l).map propV = X at *
        have hXp : 0 < X.length := by omega
        have hXq : 0 < (X ++ [p].map propV).length := by rw [List.length_append]; omega
        simp only [growV_ne hXp, growH_ne hXp, growV_ne hXq, growH_ne hXq] at ih ⊢
        have hk : kOk 5 X = true := by rw [← hX]; rfl
        have hb9 : (X.length + 1) * 72 ≤ 140737488355328 := by simp at hN; omega
        try simp only [List.map_cons, List.map_nil, propV, propC, bytesV, List.length_append, List.length_cons, List.length_nil, Nat.zero_add] at ih
        simp -implicitDefEqProofs only [EVS0, EVS1, EVS2, EVS3, EVS4, EVS5, EVS6, EVS7, EVL0, EVL1, ite_tf, ite_ft, ite_tft, ite_ftf, ite_list, ite_tt, ite_ee, ite_nt, ite_ne, eq_self, implies_true, forall_const, exI, nsite, freeAt, execI, Opd.ev, tget, tins, tput, keepL, sitesOf, List.sum_cons, List.sum_nil, Nat.reduceAdd, Nat.reduceSub, Nat.reduceLT, Nat.reduceLeDiff, Nat.reduceEqDiff, Nat.reduceBEq, Nat.reduceMul, beq_self_eq_true, Bool.false_eq_true, ldA, stA, partA, faddrA, setAt, binA, arithA, shiftA, strA, unA, gSpan, gSkip, unG, ne_eq, Option.some.injEq, reduceCtorEq, decide_true, decide_false, elemsA, resA, resAll, resOne, enterA, decide_eq_true_eq, Bool.not_eq_true, Bool.decide_eq_true, ite_self, ↓reduceIte, noRefL, clrA, gcT, gcA, gcIds, reach, rhoOf, heapOf, idxA, genB, newGen, renB, refsB, List.contains_cons, List.range_succ, cb_prop_Read, b_prop_Read, cr_prop_Read, x_prop_Read_k0, d_prop_Read_k0, x_prop_Read_l5, d_prop_Read_l5, oI, oN, intsV, bytesV, propsV, propV, propC, bytesOf_map, hpos, hS, n0, hs, hk, hb9, appA, kOk, viewAs, viewA, viewA1, viewsA, freezeA, List.foldl_cons, List.foldl_nil, List.length_singleton, Nat.one_mul, AVal.cells, fillA, setAt]
        exact ih
    · have n1 : (e != 0) = true := by simpa using he
      rw [if_neg he]
      unfold endL K_prop_Read_l5
      simp only
      rw [if_neg he, evL_eq]
      cases l with
      | nil =>
        simp only [List.map_nil, growV_nil, growH_nil] at hC ⊢
        simp -implicitDefEqProofs only [EVS0, EVS1, EVS2, EVS3, EVS4, EVS5, EVS6, EVS7, EVL0, EVL1, ite_tf, ite_ft, ite_tft, ite_ftf, ite_list, ite_tt, ite_ee, ite_nt, ite_ne, eq_self, implies_true, forall_const, exI, nsite, freeAt, execI, Opd.ev, tget, tins, tput, keepL, sitesOf, List.sum_cons, List.sum_nil, Nat.reduceAdd, Nat.reduceSub, Nat.reduceLT, Nat.reduceLeDiff, Nat.reduceEqDiff, Nat.reduceBEq, Nat.reduceMul, beq_self_eq_true, Bool.false_eq_true, ldA, stA, partA, faddrA, setAt, binA, arithA, shiftA, strA, unA, gSpan, gSkip, unG, ne_eq, Option.some.injEq, reduceCtorEq, decide_true, decide_false, elemsA, resA, resAll, resOne, enterA, decide_eq_true_eq, Bool.not_eq_true, Bool.decide_eq_true, ite_self, ↓reduceIte, noRefL, clrA, gcT, gcA, gcIds, reach, rhoOf, heapOf, idxA, genB, newGen, renB, refsB, List.contains_cons, List.range_succ, cb_prop_Read, b_prop_Read, cr_prop_Read, x_prop_Read_k0, d_prop_Read_k0, x_prop_Read_l5, d_prop_Read_l5, oI, oN, intsV, bytesV, propsV, propV, propC, bytesOf_map, hpos, hC, n1, AVal.cells, fillA, setAt]
        try (simp [outA, gcA, gcIds, reach, refsL, refsV, rhoOf, heapOf, idxA, genB, newGen, renL, renV, renB, refsB, List.range_succ])
      | cons a l =>
        generalize hX : (a :: l).map propV = X at *
        have hXp : 0 < X.length := by rw [← hX]; simp
        simp only [growV_ne hXp, growH_ne hXp]
        simp -implicitDefEqProofs only [EVS0, EVS1, EVS2, EVS3, EVS4, EVS5, EVS6, EVS7, EVL0, EVL1, ite_tf, ite_ft, ite_tft, ite_ftf, ite_list, ite_tt, ite_ee, ite_nt, ite_ne, eq_self, implies_true, forall_const, exI, nsite, freeAt, execI, Opd.ev, tget, tins, tput, keepL, sitesOf, List.sum_cons, List.sum_nil, Nat.reduceAdd, Nat.reduceSub, Nat.reduceLT, Nat.reduceLeDiff, Nat.reduceEqDiff, Nat.reduceBEq, Nat.reduceMul, beq_self_eq_true, Bool.false_eq_true, ldA, stA, partA, faddrA, setAt, binA, arithA, shiftA, strA, unA, gSpan, gSkip, unG, ne_eq, Option.some.injEq, reduceCtorEq, decide_true, decide_false, elemsA, resA, resAll, resOne, enterA, decide_eq_true_eq, Bool.not_eq_true, Bool.decide_eq_true, ite_self, ↓reduceIte, noRefL, clrA, gcT, gcA, gcIds, reach, rhoOf, heapOf, idxA, genB, newGen, renB, refsB, List.contains_cons, List.range_succ, cb_prop_Read, b_prop_Read, cr_prop_Read, x_prop_Read_k0, d_prop_Read_k0, x_prop_Read_l5, d_prop_Read_l5, oI, oN, intsV, bytesV, propsV, propV, propC, bytesOf_map, hpos, hS, n1, AVal.cells, fillA, setAt]
        try (simp [outA, gcA, gcIds, reach, refsL, refsV, rhoOf, heapOf, idxA, genB, newGen, renL, renV, renB, refsB, List.range_succ])
theorem gvA_lt : ∀ (b : Bytes) (i n : Nat), i ≤ 4 → n < 128 ^ i → (gvA i n b).1 < 268435456
  | [], i, n, hi, hn => by unfold gvA; split <;> simp
  | c :: r, i, n, hi, hn => by
    have ha : c.toNat % 128 < 128 := Nat.mod_lt _ (by decide)
    unfold gvA
    split
    · simp
    · rename_i h4
      have hb := gvA_bound n i _ hn ha
      have hp : 128 ^ (i + 1) ≤ 128 ^ 4 := Nat.pow_le_pow_right (by decide) (by omega)
      split
      · split
        · simp
        · simp only; omega
      · exact gvA_lt r (i + 1) _ (by omega) hb
theorem getVar_lt (b : Bytes) : (getVarF b).1 < 268435456 := gvA_lt b 0 0 (by omega) (by simp)
def readR (x : List PropD × Nat × Int) : AVal × AHeap := (.tup [growV (x.1.map propV), .int .i64 (x.2.1 : Nat), .int .i64 x.2.2], growH 5 (x.1.map propV))
theorem q_pread (w : Int) (b : Bytes) (hl : b.length ≤ 140737488355328) : E 90 [.int .i64 w, bytesV b] [] = some (readR (readF w b)) := by
  have hGV := fun σ site own f => q_getvarC σ site own f b (by omega)
  have hu := getVar_used b
  have hlt := getVar_lt b
  have hle := getVar_le b
  unfold readF readR
  rcases hx : getVarF b with ⟨n, u, e⟩
  rw [hx] at hGV hu hlt hle
  unfold gvT at hGV
  simp only at hGV hu hlt hle ⊢
  have hw : IntKind.i64.wrap ((b.length : Int) - (u : Int)) = (b.length : Int) - (u : Int) := wrap_nat (by omega) (by omega)
  by_cases he : e = 0
  · subst he
    have n0 : ((0 : Int) != 0) = false := rfl
    by_cases hn : (n : Int) > (b.length : Int) - (u : Int)
    · rw [if_pos (Or.inr hn), E_eq (by rfl) cf_prop_Read]
      simp -implicitDefEqProofs only [EVS0, EVS1, EVS2, EVS3, EVS4, EVS5, EVS6, EVS7, EVL0, EVL1, ite_tf, ite_ft, ite_tft, ite_ftf, ite_list, ite_tt, ite_ee, ite_nt, ite_ne, eq_self, implies_true, forall_const, exI, nsite, freeAt, execI, Opd.ev, tget, tins, tput, keepL, sitesOf, List.sum_cons, List.sum_nil, Nat.reduceAdd, Nat.reduceSub, Nat.reduceLT, Nat.reduceLeDiff, Nat.reduceEqDiff, Nat.reduceBEq, Nat.reduceMul, beq_self_eq_true, Bool.false_eq_true, ldA, stA, partA, faddrA, setAt, binA, arithA, shiftA, strA, unA, gSpan, gSkip, unG, ne_eq, Option.some.injEq, reduceCtorEq, decide_true, decide_false, elemsA, resA, resAll, resOne, enterA, decide_eq_true_eq, Bool.not_eq_true, Bool.decide_eq_true, ite_self, ↓reduceIte, noRefL, clrA, gcT, gcA, gcIds, reach, rhoOf, heapOf, idxA, genB, newGen, renB, refsB, List.contains_cons, List.range_succ, cb_prop_Read, b_prop_Read, cr_prop_Read, x_prop_Read_k0, d_prop_Read_k0, x_prop_Read_l5, d_prop_Read_l5, oI, oN, intsV, bytesV, propsV, propV, propC, bytesOf_map, hGV, n0, hw, hn]
      simp [outA, gcA, gcIds, reach, refsL, refsV, rhoOf, heapOf, idxA, genB, newGen, renL, renV, renB, refsB, List.range_succ]
      exact ⟨rfl, rfl⟩
    · have hc : ¬ ((0 : Int) ≠ 0 ∨ (n : Int) > (b.length : Int) - (u : Int)) := by simpa using hn
      rw [if_neg hc, E_eq (by rfl) cf_prop_Read]
      have hw2 : IntKind.i64.wrap ((u : Int) + (n : Int)) = ((u + n : Nat) : Int) := by rw [wrap_nat (by omega) (by omega)]; rfl
      have hs := fun σ k1 k2 => slice_lh σ b k1 k2 ((u : Nat) : Int) ((u + n : Nat) : Int) (by omega) (by omega) (by omega)
      have e1 : (((u : Nat) : Int)).toNat = u := rfl
      have e2 : (((u + n : Nat) : Int)).toNat = u + n := rfl
      rw [e1, e2] at hs
      have key := q_preadl w n u (by omega) (by omega) n ((b.take (u + n)).drop u) [] (by simp; omega) (by simp; omega) (by simp)
      generalize (b.take (u + n)).drop u = B at *
      unfold K_prop_Read_l5 at key
      simp only [List.map_nil, growV_nil, growH_nil] at key
      simp -implicitDefEqProofs only [EVS0, EVS1, EVS2, EVS3, EVS4, EVS5, EVS6, EVS7, EVL0, EVL1, ite_tf, ite_ft, ite_tft, ite_ftf, ite_list, ite_tt, ite_ee, ite_nt, ite_ne, eq_self, implies_true, forall_const, exI, nsite, freeAt, execI, Opd.ev, tget, tins, tput, keepL, sitesOf, List.sum_cons, List.sum_nil, Nat.reduceAdd, Nat.reduceSub, Nat.reduceLT, Nat.reduceLeDiff, Nat.reduceEqDiff, Nat.reduceBEq, Nat.reduceMul, beq_self_eq_true, Bool.false_eq_true, ldA, stA, partA, faddrA, setAt, binA, arithA, shiftA, strA, unA, gSpan, gSkip, unG, ne_eq, Option.some.injEq, reduceCtorEq, decide_true, decide_false, elemsA, resA, resAll, resOne, enterA, decide_eq_true_eq, Bool.not_eq_true, Bool.decide_eq_true, ite_self, ↓reduceIte, noRefL, clrA, gcT, gcA, gcIds, reach, rhoOf, heapOf, idxA, genB, newGen, renB, refsB, List.contains_cons, List.range_succ, cb_prop_Read, b_prop_Read, cr_prop_Read, x_prop_Read_k0, d_prop_Read_k0, x_prop_Read_l5, d_prop_Read_l5, oI, oN, intsV, bytesV, propsV, propV, propC, bytesOf_map, hGV, n0, hw, hn, hw2, hs]
      rw [key]
      unfold endL
      split <;> rfl
  · have n1 : (e != 0) = true := by simpa using he
    rw [if_pos (Or.inl he), E_eq (by rfl) cf_prop_Read]
    simp -implicitDefEqProofs only [EVS0, EVS1, EVS2, EVS3, EVS4, EVS5, EVS6, EVS7, EVL0, EVL1, ite_tf, ite_ft, ite_tft, ite_ftf, ite_list, ite_tt, ite_ee, ite_nt, ite_ne, eq_self, implies_true, forall_const, exI, nsite, freeAt, execI, Opd.ev, tget, tins, tput, keepL, sitesOf, List.sum_cons, List.sum_nil, Nat.reduceAdd, Nat.reduceSub, Nat.reduceLT, Nat.reduceLeDiff, Nat.reduceEqDiff, Nat.reduceBEq, Nat.reduceMul, beq_self_eq_true, Bool.false_eq_true, ldA, stA, partA, faddrA, setAt, binA, arithA, shiftA, strA, unA, gSpan, gSkip, unG, ne_eq, Option.some.injEq, reduceCtorEq, decide_true, decide_false, elemsA, resA, resAll, resOne, enterA, decide_eq_true_eq, Bool.not_eq_true, Bool.decide_eq_true, ite_self, ↓reduceIte, noRefL, clrA, gcT, gcA, gcIds, reach, rhoOf, heapOf, idxA, genB, newGen, renB, refsB, List.contains_cons, List.range_succ, cb_prop_Read, b_prop_Read, cr_prop_Read, x_prop_Read_k0, d_prop_Read_k0, x_prop_Read_l5, d_prop_Read_l5, oI, oN, intsV, bytesV, propsV, propV, propC, bytesOf_map, hGV, n1]
    simp [outA, gcA, gcIds, reach, refsL, refsV, rhoOf, heapOf, idxA, genB, newGen, renL, renV, renB, refsB, List.range_succ]
    exact ⟨rfl, rfl⟩
theorem flat1_seen {σ : AHeap} {x : AVal} (h : flat1 x = true) : viewA σ x = some (x, []) ∧ refsV x = [] ∧ ∀ ρ, renV ρ x = x := by
  cases x <;> simp [flat1] at h <;> simp [viewA, viewA1, refsV, renV]
theorem flats_seen {σ : AHeap} : ∀ {vs : List AVal}, vs.all flat1 = true → viewAs σ vs = some (vs, []) ∧ refsL vs = [] ∧ ∀ ρ, renL ρ vs = vs
  | [], _ => ⟨rfl, rfl, fun _ => rfl⟩
  | x :: xs, h => by
    simp only [List.all_cons, Bool.and_eq_true] at h
    obtain ⟨a1, a2, a3⟩ := flat1_seen (σ := σ) h.1
    obtain ⟨b1, b2, b3⟩ := flats_seen (σ := σ) h.2
    refine ⟨by simp only [viewAs, a1, b1, List.append_nil], by simp only [refsL, a2, b2, List.append_nil], fun ρ => by simp only [renL, a3, b3]⟩
theorem view_growT {O : Oracle} {byref : Nat → Bool} {f k : Nat} {args args' : List AVal} {full vs : List AVal} (h : O f args' [] = some (.tup (growV full :: vs), growH k full)) (hv : vs.all flat1 = true) (hb : byref f = false) (hp : args.all plainV = true) (hn : args.map normV = args') (σ : AHeap) (site own : Nat) : callG O byref σ site f own true args = some (.tup (.lst false full :: vs), σ, {}) := by
  have hr : ∀ site, renV (rhoBack [] [] site) (.tup (.lst false full :: vs)) = .tup (.lst false full :: vs) := fun site => by
    simp only [renV, renL, (flats_seen (σ := []) hv).2.2]
  rw [callG_plain hb hp, hn, h]
  have : askO true 0 (some (.tup (growV full :: vs), growH k full)) = some (.tup (.lst false full :: vs), []) := by
    unfold askO
    rw [if_pos rfl]
    cases full with
    | nil =>
      obtain ⟨b1, b2, b3⟩ := flats_seen (σ := []) hv
      simp [growV_nil, growH_nil, resV, viewR, viewAs, viewA, viewA1, b1, freezeA, gcA, gcIds, reach, refsL, refsV, b2, renL, renV, b3, heapOf]
    | cons x xs =>
      obtain ⟨b1, b2, b3⟩ := flats_seen (σ := [ABlk.row 0 k (x :: xs)]) hv
      simp only [growV_cons, growH_cons]
      generalize x :: xs = X at *
      simp [resV, viewR, viewAs, viewA, viewA1, elemsA, b1, freezeA, gcA, gcIds, reach, refsL, refsV, b2, renL, renV, b3, heapOf]
  rw [this, backG_plain _ _ _ _ (hr site)]
theorem q_preadC (σ : AHeap) (site own : Nat) (f : Bool) (w : Int) (b : Bytes) (hl : b.length ≤ 140737488355328) : callG E BY σ site 90 own true [.int .i64 w, .lst f (b.map byteV)] = some (.tup [.lst false ((readF w b).1.map propV), .int .i64 ((readF w b).2.1 : Nat), .int .i64 (readF w b).2.2], σ, {}) :=
  view_growT (k := 5) (q_pread w b hl) rfl (by kernel_rfl) rfl rfl _ _ _
end Go.Proofs.YtmlkhhidifjjfaaDoor
namespace Go.Proofs.YtmlkhhidifjjfaaDoor
set_option linter.unusedSimpArgs false
set_option linter.unusedVariables false
set_option linter.defProp false
def b_tidingskeep_Cut : ACode := (.seq (.region [oI 4 (.mov (.c (.lst true [])))] none [1, 0]) (.seq (.seq (.region [oI 5 (.mov (.t 0)), oI 6 (.len (.t 5)), oI 7 (.mov (.t 1)), oI 8 (.bin .gtr (.t 6) (.t 7))] none [8, 1, 0]) (.cond (.t 8) (.seq (.region [oI 9 (.mov (.t 0)), oI 10 (.mov (.t 1)), oI 11 (.slice 1 (.t 9) none (some (.t 10)) none), oI 4 (.mov (.t 11))] none [4]) .ret) .skip)) (.seq (.region [oI 12 (.mov (.t 0)), oI 4 (.mov (.t 12))] none [4]) .ret)))
def c_tidingskeep_Cut : AFunc := ⟨[(.tmp 4)], b_tidingskeep_Cut⟩
theorem cf_tidingskeep_Cut : FC 18 = some c_tidingskeep_Cut := by kernel_rfl
theorem cb_tidingskeep_Cut : c_tidingskeep_Cut.body = b_tidingskeep_Cut := rfl
theorem cr_tidingskeep_Cut : c_tidingskeep_Cut.res = [(.tmp 4)] := rfl
def b_tidingskeep_Within : ACode := (.seq (.region [oI 6 (.mov (.c (.int .i64 0)))] none [2, 1, 0]) (.seq (.region [oI 8 (.mov (.t 2)), oI 9 (.mov (.t 1)), oI 10 (.bin .sub (.t 8) (.t 9)), oI 11 (.bin .add (.t 10) (.c (.int .i64 1))), oI 7 (.mov (.t 11))] none [7, 1, 0]) (.seq (.region [oI 12 (.mov (.t 0)), oI 13 (.mov (.t 7)), oI 14 (.bin .rem (.t 12) (.t 13)), oI 0 (.mov (.t 14))] none [7, 1, 0]) (.seq (.seq (.region [oI 15 (.mov (.t 0)), oI 16 (.bin .lss (.t 15) (.c (.int .i64 0)))] none [16, 7, 1, 0]) (.cond (.t 16) (.region [oI 17 (.mov (.t 0)), oI 18 (.mov (.t 7)), oI 19 (.bin .add (.t 17) (.t 18)), oI 0 (.mov (.t 19))] none [1, 0]) .skip)) (.seq (.region [oI 20 (.mov (.t 1)), oI 21 (.mov (.t 0)), oI 22 (.bin .add (.t 20) (.t 21)), oI 6 (.mov (.t 22))] none [6]) .ret)))))
def c_tidingskeep_Within : AFunc := ⟨[(.tmp 6)], b_tidingskeep_Within⟩
theorem cf_tidingskeep_Within : FC 39 = some c_tidingskeep_Within := by kernel_rfl
theorem cb_tidingskeep_Within : c_tidingskeep_Within.body = b_tidingskeep_Within := rfl
theorem cr_tidingskeep_Within : c_tidingskeep_Within.res = [(.tmp 6)] := rfl
end Go.Proofs.YtmlkhhidifjjfaaDoor
namespace Go.Proofs.YtmlkhhidifjjfaaDoor
set_option linter.unusedSimpArgs false
set_option linter.unusedVariables false
set_option maxHeartbeats 4000000
set_option maxRecDepth 10000
theorem q_kcut (b : Bytes) (n : Int) (h0 : 0 ≤ n) : E 18 [bytesV b, .int .i64 n] [] = some (bytesV (b.take n.toNat), []) := by
  rw [E_eq (by rfl) cf_tidingskeep_Cut]
  by_cases h : n < (b.length : Int)
  · have hl : n ≤ (b.length : Int) := by omega
    simp -implicitDefEqProofs only [EVS0, EVS1, EVS2, EVS3, EVS4, EVS5, EVS6, EVS7, EVL0, EVL1, ite_tf, ite_ft, ite_tft, ite_ftf, ite_list, ite_tt, ite_ee, ite_nt, ite_ne, eq_self, implies_true, forall_const, exI, nsite, freeAt, execI, Opd.ev, tget, tins, tput, keepL, sitesOf, List.sum_cons, List.sum_nil, Nat.reduceAdd, Nat.reduceSub, Nat.reduceLT, Nat.reduceLeDiff, Nat.reduceEqDiff, Nat.reduceBEq, Nat.reduceMul, beq_self_eq_true, Bool.false_eq_true, ldA, stA, partA, faddrA, setAt, binA, arithA, shiftA, strA, unA, gSpan, gSkip, unG, ne_eq, Option.some.injEq, reduceCtorEq, decide_true, decide_false, elemsA, resA, resAll, resOne, enterA, decide_eq_true_eq, Bool.not_eq_true, Bool.decide_eq_true, ite_self, ↓reduceIte, noRefL, clrA, gcT, gcA, gcIds, reach, rhoOf, heapOf, idxA, genB, newGen, renB, refsB, List.contains_cons, List.range_succ, cb_tidingskeep_Cut, b_tidingskeep_Cut, cr_tidingskeep_Cut, oI, oN, intsV, bytesV, propsV, propV, propC, bytesOf_map, h0, h, hl, gt_iff_lt, slice_hi]
  · have hl : b.take n.toNat = b := List.take_of_length_le (by omega)
    simp -implicitDefEqProofs only [EVS0, EVS1, EVS2, EVS3, EVS4, EVS5, EVS6, EVS7, EVL0, EVL1, ite_tf, ite_ft, ite_tft, ite_ftf, ite_list, ite_tt, ite_ee, ite_nt, ite_ne, eq_self, implies_true, forall_const, exI, nsite, freeAt, execI, Opd.ev, tget, tins, tput, keepL, sitesOf, List.sum_cons, List.sum_nil, Nat.reduceAdd, Nat.reduceSub, Nat.reduceLT, Nat.reduceLeDiff, Nat.reduceEqDiff, Nat.reduceBEq, Nat.reduceMul, beq_self_eq_true, Bool.false_eq_true, ldA, stA, partA, faddrA, setAt, binA, arithA, shiftA, strA, unA, gSpan, gSkip, unG, ne_eq, Option.some.injEq, reduceCtorEq, decide_true, decide_false, elemsA, resA, resAll, resOne, enterA, decide_eq_true_eq, Bool.not_eq_true, Bool.decide_eq_true, ite_self, ↓reduceIte, noRefL, clrA, gcT, gcA, gcIds, reach, rhoOf, heapOf, idxA, genB, newGen, renB, refsB, List.contains_cons, List.range_succ, cb_tidingskeep_Cut, b_tidingskeep_Cut, cr_tidingskeep_Cut, oI, oN, intsV, bytesV, propsV, propV, propC, bytesOf_map, h, hl, gt_iff_lt]
theorem q_kcutC (σ : AHeap) (site own : Nat) (view : Bool) (b : Bytes) (n : Int) (h0 : 0 ≤ n) : callG E BY σ site 18 own view [.lst false (b.map byteV), .int .i64 n] = some (.lst false ((b.take n.toNat).map byteV), σ, {}) :=
  call_flat (q_kcut b n h0) (by kernel_rfl) (by simp -implicitDefEqProofs only [EVS0, EVS1, EVS2, EVS3, EVS4, EVS5, EVS6, EVS7, EVL0, EVL1, eq_self, implies_true, Bool.false_eq_true, intsV, bytesV, propsV, propV, propC, intsV]) (by simp -implicitDefEqProofs only [EVS0, EVS1, EVS2, EVS3, EVS4, EVS5, EVS6, EVS7, EVL0, EVL1, eq_self, implies_true, Bool.false_eq_true, intsV, bytesV, propsV, propV, propC, intsV]) rfl (fun _ => rfl) _ _ _ _
def withF (n lo hi : Int) : Int := lo + (if n.tmod (hi - lo + 1) < 0 then n.tmod (hi - lo + 1) + (hi - lo + 1) else n.tmod (hi - lo + 1))
theorem q_within2 (n : Int) : E 39 [.int .i64 n, .int .i64 0, .int .i64 2] [] = some (.int .i64 (withF n 0 2), []) := by
  have w1 : IntKind.i64.wrap (2 - 0) = 2 := rfl
  have w2 : IntKind.i64.wrap (2 + 1) = 3 := rfl
  have hz : ((3 : Int) = 0) = False := by simp
  have hb : -3 < n.tmod 3 ∧ n.tmod 3 < 3 := by
    have h1 := Int.tmod_lt_of_pos n (show (0 : Int) < 3 by decide)
    have h2 := Int.lt_tmod_of_pos n (show (0 : Int) < 3 by decide)
    omega
  unfold withF
  rw [show (2 : Int) - 0 + 1 = 3 from rfl]
  rw [E_eq (by rfl) cf_tidingskeep_Within]
  by_cases h : n.tmod 3 < 0
  · have w3 : IntKind.i64.wrap (n.tmod 3 + 3) = n.tmod 3 + 3 := wrap_nat (by omega) (by omega)
    have w4 : IntKind.i64.wrap (0 + (n.tmod 3 + 3)) = 0 + (n.tmod 3 + 3) := wrap_nat (by omega) (by omega)
    simp -implicitDefEqProofs only [EVS0, EVS1, EVS2, EVS3, EVS4, EVS5, EVS6, EVS7, EVL0, EVL1, ite_tf, ite_ft, ite_tft, ite_ftf, ite_list, ite_tt, ite_ee, ite_nt, ite_ne, eq_self, implies_true, forall_const, exI, nsite, freeAt, execI, Opd.ev, tget, tins, tput, keepL, sitesOf, List.sum_cons, List.sum_nil, Nat.reduceAdd, Nat.reduceSub, Nat.reduceLT, Nat.reduceLeDiff, Nat.reduceEqDiff, Nat.reduceBEq, Nat.reduceMul, beq_self_eq_true, Bool.false_eq_true, ldA, stA, partA, faddrA, setAt, binA, arithA, shiftA, strA, unA, gSpan, gSkip, unG, ne_eq, Option.some.injEq, reduceCtorEq, decide_true, decide_false, elemsA, resA, resAll, resOne, enterA, decide_eq_true_eq, Bool.not_eq_true, Bool.decide_eq_true, ite_self, ↓reduceIte, noRefL, clrA, gcT, gcA, gcIds, reach, rhoOf, heapOf, idxA, genB, newGen, renB, refsB, List.contains_cons, List.range_succ, cb_tidingskeep_Within, b_tidingskeep_Within, cr_tidingskeep_Within, oI, oN, intsV, bytesV, propsV, propV, propC, bytesOf_map, w1, w2, w3, w4, hz, h]
  · have w4 : IntKind.i64.wrap (0 + n.tmod 3) = 0 + n.tmod 3 := wrap_nat (by omega) (by omega)
    simp -implicitDefEqProofs only [EVS0, EVS1, EVS2, EVS3, EVS4, EVS5, EVS6, EVS7, EVL0, EVL1, ite_tf, ite_ft, ite_tft, ite_ftf, ite_list, ite_tt, ite_ee, ite_nt, ite_ne, eq_self, implies_true, forall_const, exI, nsite, freeAt, execI, Opd.ev, tget, tins, tput, keepL, sitesOf, List.sum_cons, List.sum_nil, Nat.reduceAdd, Nat.reduceSub, Nat.reduceLT, Nat.reduceLeDiff, Nat.reduceEqDiff, Nat.reduceBEq, Nat.reduceMul, beq_self_eq_true, Bool.false_eq_true, ldA, stA, partA, faddrA, setAt, binA, arithA, shiftA, strA, unA, gSpan, gSkip, unG, ne_eq, Option.some.injEq, reduceCtorEq, decide_true, decide_false, elemsA, resA, resAll, resOne, enterA, decide_eq_true_eq, Bool.not_eq_true, Bool.decide_eq_true, ite_self, ↓reduceIte, noRefL, clrA, gcT, gcA, gcIds, reach, rhoOf, heapOf, idxA, genB, newGen, renB, refsB, List.contains_cons, List.range_succ, cb_tidingskeep_Within, b_tidingskeep_Within, cr_tidingskeep_Within, oI, oN, intsV, bytesV, propsV, propV, propC, bytesOf_map, w1, w2, w4, hz, h]
theorem q_within2C (σ : AHeap) (site own : Nat) (view : Bool) (n : Int) : callG E BY σ site 39 own view [.int .i64 n, .int .i64 0, .int .i64 2] = some (.int .i64 (withF n 0 2), σ, {}) :=
  call_flat (q_within2 n) (by kernel_rfl) rfl rfl rfl (fun _ => rfl) _ _ _ _
theorem with_2 (n : Int) : withF n 0 2 = 0 ∨ withF n 0 2 = 1 ∨ withF n 0 2 = 2 := by
  have h1 := Int.tmod_lt_of_pos n (show (0 : Int) < 3 by decide)
  have h2 := Int.lt_tmod_of_pos n (show (0 : Int) < 3 by decide)
  unfold withF
  rw [show (2 : Int) - 0 + 1 = 3 from rfl]
  split <;> omega
end Go.Proofs.YtmlkhhidifjjfaaDoor
namespace Go.Proofs.YtmlkhhidifjjfaaDoor
set_option linter.unusedSimpArgs false
set_option linter.unusedVariables false
set_option maxHeartbeats 16000000
set_option maxRecDepth 10000
def letB (c : UInt8) : UInt8 := UInt8.ofNat (97 + c.toNat % 26)
def plainF (b : Bytes) : Bytes := (b.take 30).map letB
theorem let_nat (c : UInt8) : IntKind.u8.wrap (97 + (c.toNat : Int).tmod 26) = ((letB c).toNat : Int) := by
  have h : (c.toNat : Int).tmod 26 = ((c.toNat % 26 : Nat) : Int) := by rw [Int.tmod_eq_emod_of_nonneg (by omega)]; omega
  rw [h, IntKind.wrap_u8, letB, UInt8.toNat_ofNat']
  omega
theorem q_plainl (b : Bytes) (hb : b.length ≤ 9223372036854775807) : ∀ (r : Bytes) (i : Nat) (acc : Bytes), (b.take 30).drop i = r → acc.length ≤ i → i ≤ 30 →
    K_tidingslaw19_plain_l3 0 [(4, .int .i64 i), (3, .str acc), (0, .lst false (b.map byteV))] [] = some (.str (acc ++ r.map letB), [])
  | [], i, acc, h, ha, hi => by
    rw [List.drop_eq_nil_iff, List.length_take] at h
    unfold K_tidingslaw19_plain_l3
    rw [evL_eq]
    by_cases h1 : (i : Int) < (b.length : Int)
    · have h2 : ¬ (i : Int) < 30 := by omega
      simp -implicitDefEqProofs only [EVS0, EVS1, EVS2, EVS3, EVS4, EVS5, EVS6, EVS7, EVL0, EVL1, ite_tf, ite_ft, ite_tft, ite_ftf, ite_list, ite_tt, ite_ee, ite_nt, ite_ne, eq_self, implies_true, forall_const, exI, nsite, freeAt, execI, Opd.ev, tget, tins, tput, keepL, sitesOf, List.sum_cons, List.sum_nil, Nat.reduceAdd, Nat.reduceSub, Nat.reduceLT, Nat.reduceLeDiff, Nat.reduceEqDiff, Nat.reduceBEq, Nat.reduceMul, beq_self_eq_true, Bool.false_eq_true, ldA, stA, partA, faddrA, setAt, binA, arithA, shiftA, strA, unA, gSpan, gSkip, unG, ne_eq, Option.some.injEq, reduceCtorEq, decide_true, decide_false, elemsA, resA, resAll, resOne, enterA, decide_eq_true_eq, Bool.not_eq_true, Bool.decide_eq_true, ite_self, ↓reduceIte, noRefL, clrA, gcT, gcA, gcIds, reach, rhoOf, heapOf, idxA, genB, newGen, renB, refsB, List.contains_cons, List.range_succ, cb_tidingslaw19_plain, b_tidingslaw19_plain, cr_tidingslaw19_plain, x_tidingslaw19_plain_k0, d_tidingslaw19_plain_k0, x_tidingslaw19_plain_l3, d_tidingslaw19_plain_l3, oI, oN, intsV, bytesV, propsV, propV, propC, bytesOf_map, h1, h2]
    · simp -implicitDefEqProofs only [EVS0, EVS1, EVS2, EVS3, EVS4, EVS5, EVS6, EVS7, EVL0, EVL1, ite_tf, ite_ft, ite_tft, ite_ftf, ite_list, ite_tt, ite_ee, ite_nt, ite_ne, eq_self, implies_true, forall_const, exI, nsite, freeAt, execI, Opd.ev, tget, tins, tput, keepL, sitesOf, List.sum_cons, List.sum_nil, Nat.reduceAdd, Nat.reduceSub, Nat.reduceLT, Nat.reduceLeDiff, Nat.reduceEqDiff, Nat.reduceBEq, Nat.reduceMul, beq_self_eq_true, Bool.false_eq_true, ldA, stA, partA, faddrA, setAt, binA, arithA, shiftA, strA, unA, gSpan, gSkip, unG, ne_eq, Option.some.injEq, reduceCtorEq, decide_true, decide_false, elemsA, resA, resAll, resOne, enterA, decide_eq_true_eq, Bool.not_eq_true, Bool.decide_eq_true, ite_self, ↓reduceIte, noRefL, clrA, gcT, gcA, gcIds, reach, rhoOf, heapOf, idxA, genB, newGen, renB, refsB, List.contains_cons, List.range_succ, cb_tidingslaw19_plain, b_tidingslaw19_plain, cr_tidingslaw19_plain, x_tidingslaw19_plain_k0, d_tidingslaw19_plain_k0, x_tidingslaw19_plain_l3, d_tidingslaw19_plain_l3, oI, oN, intsV, bytesV, propsV, propV, propC, bytesOf_map, h1]
  | c :: r, i, acc, h, ha, hi => by
    have hd := drop_at h
    have hlt : i < min 30 b.length := by have := hd.2.2; rwa [List.length_take] at this
    have ih := q_plainl b hb r (i + 1) (acc ++ [letB c]) hd.2.1 (by simp; omega) (by omega)
    have hat : b[i]? = some c := by
      have := hd.1
      rw [List.getElem?_take] at this
      rw [if_pos (by omega)] at this
      exact this
    have h1 : (i : Int) < (b.length : Int) := by omega
    have h2 : (i : Int) < 30 := by omega
    have e1 := iad hat byteV (k := 1) rfl
    have hw : IntKind.i64.wrap ((i : Int) + 1) = ((i + 1 : Nat) : Int) := by rw [wrap_nat (by omega) (by omega)]; rfl
    have hl := let_nat c
    have hz : ((26 : Int) = 0) = False := by simp
    have k1 : acc.length + 1 ≤ 9223372036854775807 := by omega
    have hb2 : bytesOf [AVal.int .u8 ((letB c).toNat : Int)] = some [letB c] := by
      have := bytesOf_map [letB c]; exact this
    rw [List.append_assoc, List.singleton_append, ← List.map_cons] at ih
    unfold K_tidingslaw19_plain_l3 at ih ⊢
    rw [evL_eq]
    simp -implicitDefEqProofs only [EVS0, EVS1, EVS2, EVS3, EVS4, EVS5, EVS6, EVS7, EVL0, EVL1, ite_tf, ite_ft, ite_tft, ite_ftf, ite_list, ite_tt, ite_ee, ite_nt, ite_ne, eq_self, implies_true, forall_const, exI, nsite, freeAt, execI, Opd.ev, tget, tins, tput, keepL, sitesOf, List.sum_cons, List.sum_nil, Nat.reduceAdd, Nat.reduceSub, Nat.reduceLT, Nat.reduceLeDiff, Nat.reduceEqDiff, Nat.reduceBEq, Nat.reduceMul, beq_self_eq_true, Bool.false_eq_true, ldA, stA, partA, faddrA, setAt, binA, arithA, shiftA, strA, unA, gSpan, gSkip, unG, ne_eq, Option.some.injEq, reduceCtorEq, decide_true, decide_false, elemsA, resA, resAll, resOne, enterA, decide_eq_true_eq, Bool.not_eq_true, Bool.decide_eq_true, ite_self, ↓reduceIte, noRefL, clrA, gcT, gcA, gcIds, reach, rhoOf, heapOf, idxA, genB, newGen, renB, refsB, List.contains_cons, List.range_succ, cb_tidingslaw19_plain, b_tidingslaw19_plain, cr_tidingslaw19_plain, x_tidingslaw19_plain_k0, d_tidingslaw19_plain_k0, x_tidingslaw19_plain_l3, d_tidingslaw19_plain_l3, oI, oN, intsV, bytesV, propsV, propV, propC, bytesOf_map, h1, h2, e1, hw, hl, hz, k1, hb2, byteV, AVal.cells, appA, viewAs, viewA, viewA1, viewsA, freezeA, List.foldl_cons, List.foldl_nil, List.length_singleton, Nat.one_mul, Nat.le_refl]
    exact ih
theorem q_plain (b : Bytes) (hb : b.length ≤ 9223372036854775807) : E 46 [bytesV b] [] = some (.str (plainF b), []) := by
  have key := q_plainl b hb (b.take 30) 0 [] rfl (Nat.le_refl _) (by omega)
  have z0 : ((0 : Nat) : Int) = 0 := rfl
  rw [z0] at key
  unfold K_tidingslaw19_plain_l3 at key
  rw [E_eq (by rfl) cf_tidingslaw19_plain]
  simp -implicitDefEqProofs only [EVS0, EVS1, EVS2, EVS3, EVS4, EVS5, EVS6, EVS7, EVL0, EVL1, ite_tf, ite_ft, ite_tft, ite_ftf, ite_list, ite_tt, ite_ee, ite_nt, ite_ne, eq_self, implies_true, forall_const, exI, nsite, freeAt, execI, Opd.ev, tget, tins, tput, keepL, sitesOf, List.sum_cons, List.sum_nil, Nat.reduceAdd, Nat.reduceSub, Nat.reduceLT, Nat.reduceLeDiff, Nat.reduceEqDiff, Nat.reduceBEq, Nat.reduceMul, beq_self_eq_true, Bool.false_eq_true, ldA, stA, partA, faddrA, setAt, binA, arithA, shiftA, strA, unA, gSpan, gSkip, unG, ne_eq, Option.some.injEq, reduceCtorEq, decide_true, decide_false, elemsA, resA, resAll, resOne, enterA, decide_eq_true_eq, Bool.not_eq_true, Bool.decide_eq_true, ite_self, ↓reduceIte, noRefL, clrA, gcT, gcA, gcIds, reach, rhoOf, heapOf, idxA, genB, newGen, renB, refsB, List.contains_cons, List.range_succ, cb_tidingslaw19_plain, b_tidingslaw19_plain, cr_tidingslaw19_plain, x_tidingslaw19_plain_k0, d_tidingslaw19_plain_k0, x_tidingslaw19_plain_l3, d_tidingslaw19_plain_l3, oI, oN, intsV, bytesV, propsV, propV, propC, bytesOf_map, intsV]
  exact key
theorem q_plainC (σ : AHeap) (site own : Nat) (f : Bool) (b : Bytes) (hb : b.length ≤ 9223372036854775807) : callG E BY σ site 46 own true [.lst f (b.map byteV)] = some (.str (plainF b), σ, {}) :=
  call_normT (q_plain b hb) (by kernel_rfl) rfl rfl rfl (fun _ => rfl) _ _ _
structure PropsD where
  fmt : Int
  content : Bytes
  corr : Bytes
  users : Bytes
def and1 (x : Int) : Int := IntKind.i64.wrap (((BitVec.ofInt IntKind.i64.bits x &&& BitVec.ofInt IntKind.i64.bits 1).toNat : Nat) : Int)
def userP (u : Bytes) (c : UInt8) : PropD := ⟨38, 0, plainF [c], plainF u, []⟩
def headL (p : PropsD) : List PropD :=
  (if p.fmt ≥ 0 then [⟨1, and1 p.fmt, [], [], []⟩] else []) ++ ((if p.content.length > 0 then [⟨3, 0, plainF p.content, [], []⟩] else []) ++ (if p.corr.length > 0 then [⟨9, 0, [], [], p.corr.take 30⟩] else []))
def listF (p : PropsD) : List PropD := headL p ++ (p.users.take 4).map (userP p.users)
def lsT (i : Int) : List AVal → Tms
  | [] => [(4, .int .i64 i), (3, .lst true []), (1, .ref 0 0)]
  | x :: xs => [(4, .int .i64 i), (3, .sl 0 0 0 (x :: xs).length), (1, .ref 1 0)]
def lsH (b : ABlk) : List AVal → AHeap
  | [] => [b]
  | x :: xs => [.row 0 5 (x :: xs), b]
def pC (p : PropsD) : List AVal := [.int .i64 p.fmt, .lst false (p.content.map byteV), .lst false (p.corr.map byteV), .lst false (p.users.map byteV)]
theorem lsT_ne (i : Int) {X : List AVal} (h : 0 < X.length) : lsT i X = [(4, .int .i64 i), (3, .sl 0 0 0 X.length), (1, .ref 1 0)] := by
  cases X with
  | nil => simp at h
  | cons x xs => rfl
theorem lsH_ne (b : ABlk) {X : List AVal} (h : 0 < X.length) : lsH b X = [.row 0 5 X, b] := by
  cases X with
  | nil => simp at h
  | cons x xs => rfl
theorem q_listl (p : PropsD) (hu : p.users.length ≤ 9223372036854775807) : ∀ (r : Bytes) (i : Nat) (acc : List PropD), (p.users.take 4).drop i = r → acc.length ≤ 3 + i → i ≤ 4 →
    K_tidingslaw19_Props_list_l9 0 (lsT i (acc.map propV)) (lsH (.var (pC p)) (acc.map propV)) = some (growV ((acc ++ r.map (userP p.users)).map propV), growH 5 ((acc ++ r.map (userP p.users)).map propV))
  | [], i, acc, h, ha, hi => by
    rw [List.drop_eq_nil_iff, List.length_take] at h
    simp only [List.map_nil, List.append_nil]
    unfold K_tidingslaw19_Props_list_l9 pC
    rw [evL_eq]
    cases acc with
    | nil =>
      simp only [List.map_nil, growV_nil, growH_nil, lsT, lsH]
      by_cases h1 : (i : Int) < (p.users.length : Int)
      · have h2 : ¬ (i : Int) < 4 := by omega
        simp -implicitDefEqProofs only [EVS0, EVS1, EVS2, EVS3, EVS4, EVS5, EVS6, EVS7, EVL0, EVL1, ite_tf, ite_ft, ite_tft, ite_ftf, ite_list, ite_tt, ite_ee, ite_nt, ite_ne, eq_self, implies_true, forall_const, exI, nsite, freeAt, execI, Opd.ev, tget, tins, tput, keepL, sitesOf, List.sum_cons, List.sum_nil, Nat.reduceAdd, Nat.reduceSub, Nat.reduceLT, Nat.reduceLeDiff, Nat.reduceEqDiff, Nat.reduceBEq, Nat.reduceMul, beq_self_eq_true, Bool.false_eq_true, ldA, stA, partA, faddrA, setAt, binA, arithA, shiftA, strA, unA, gSpan, gSkip, unG, ne_eq, Option.some.injEq, reduceCtorEq, decide_true, decide_false, elemsA, resA, resAll, resOne, enterA, decide_eq_true_eq, Bool.not_eq_true, Bool.decide_eq_true, ite_self, ↓reduceIte, noRefL, clrA, gcT, gcA, gcIds, reach, rhoOf, heapOf, idxA, genB, newGen, renB, refsB, List.contains_cons, List.range_succ, cb_tidingslaw19_Props_list, b_tidingslaw19_Props_list, cr_tidingslaw19_Props_list, x_tidingslaw19_Props_list_k0, d_tidingslaw19_Props_list_k0, x_tidingslaw19_Props_list_l9, d_tidingslaw19_Props_list_l9, oI, oN, intsV, bytesV, propsV, propV, propC, bytesOf_map, h1, h2, faddrA]
        try (simp [outA, gcA, gcIds, reach, refsL, refsV, rhoOf, heapOf, idxA, genB, newGen, renL, renV, renB, refsB, List.range_succ])
      · simp -implicitDefEqProofs only [EVS0, EVS1, EVS2, EVS3, EVS4, EVS5, EVS6, EVS7, EVL0, EVL1, ite_tf, ite_ft, ite_tft, ite_ftf, ite_list, ite_tt, ite_ee, ite_nt, ite_ne, eq_self, implies_true, forall_const, exI, nsite, freeAt, execI, Opd.ev, tget, tins, tput, keepL, sitesOf, List.sum_cons, List.sum_nil, Nat.reduceAdd, Nat.reduceSub, Nat.reduceLT, Nat.reduceLeDiff, Nat.reduceEqDiff, Nat.reduceBEq, Nat.reduceMul, beq_self_eq_true, Bool.false_eq_true, ldA, stA, partA, faddrA, setAt, binA, arithA, shiftA, strA, unA, gSpan, gSkip, unG, ne_eq, Option.some.injEq, reduceCtorEq, decide_true, decide_false, elemsA, resA, resAll, resOne, enterA, decide_eq_true_eq, Bool.not_eq_true, Bool.decide_eq_true, ite_self, ↓reduceIte, noRefL, clrA, gcT, gcA, gcIds, reach, rhoOf, heapOf, idxA, genB, newGen, renB, refsB, List.contains_cons, List.range_succ, cb_tidingslaw19_Props_list, b_tidingslaw19_Props_list, cr_tidingslaw19_Props_list, x_tidingslaw19_Props_list_k0, d_tidingslaw19_Props_list_k0, x_tidingslaw19_Props_list_l9, d_tidingslaw19_Props_list_l9, oI, oN, intsV, bytesV, propsV, propV, propC, bytesOf_map, h1, faddrA]
        try (simp [outA, gcA, gcIds, reach, refsL, refsV, rhoOf, heapOf, idxA, genB, newGen, renL, renV, renB, refsB, List.range_succ])
    | cons a acc =>
      generalize hX : (a :: acc).map propV = X
      have hXp : 0 < X.length := by rw [← hX]; simp
      rw [growV_ne hXp, growH_ne hXp, lsT_ne _ hXp, lsH_ne _ hXp]
      by_cases h1 : (i : Int) < (p.users.length : Int)
      · have h2 : ¬ (i : Int) < 4 := by omega
        simp -implicitDefEqProofs only [EVS0, EVS1, EVS2, EVS3, EVS4, EVS5, EVS6, EVS7, EVL0, EVL1, ite_tf, ite_ft, ite_tft, ite_ftf, ite_list, ite_tt, ite_ee, ite_nt, ite_ne, eq_self, implies_true, forall_const, exI, nsite, freeAt, execI, Opd.ev, tget, tins, tput, keepL, sitesOf, List.sum_cons, List.sum_nil, Nat.reduceAdd, Nat.reduceSub, Nat.reduceLT, Nat.reduceLeDiff, Nat.reduceEqDiff, Nat.reduceBEq, Nat.reduceMul, beq_self_eq_true, Bool.false_eq_true, ldA, stA, partA, faddrA, setAt, binA, arithA, shiftA, strA, unA, gSpan, gSkip, unG, ne_eq, Option.some.injEq, reduceCtorEq, decide_true, decide_false, elemsA, resA, resAll, resOne, enterA, decide_eq_true_eq, Bool.not_eq_true, Bool.decide_eq_true, ite_self, ↓reduceIte, noRefL, clrA, gcT, gcA, gcIds, reach, rhoOf, heapOf, idxA, genB, newGen, renB, refsB, List.contains_cons, List.range_succ, cb_tidingslaw19_Props_list, b_tidingslaw19_Props_list, cr_tidingslaw19_Props_list, x_tidingslaw19_Props_list_k0, d_tidingslaw19_Props_list_k0, x_tidingslaw19_Props_list_l9, d_tidingslaw19_Props_list_l9, oI, oN, intsV, bytesV, propsV, propV, propC, bytesOf_map, h1, h2, faddrA]
        try (simp [outA, gcA, gcIds, reach, refsL, refsV, rhoOf, heapOf, idxA, genB, newGen, renL, renV, renB, refsB, List.range_succ])
      · simp -implicitDefEqProofs only [EVS0, EVS1, EVS2, EVS3, EVS4, EVS5, EVS6, EVS7, EVL0, EVL1, ite_tf, ite_ft, ite_tft, ite_ftf, ite_list, ite_tt, ite_ee, ite_nt, ite_ne, eq_self, implies_true, forall_const, exI, nsite, freeAt, execI, Opd.ev, tget, tins, tput, keepL, sitesOf, List.sum_cons, List.sum_nil, Nat.reduceAdd, Nat.reduceSub, Nat.reduceLT, Nat.reduceLeDiff, Nat.reduceEqDiff, Nat.reduceBEq, Nat.reduceMul, beq_self_eq_true, Bool.false_eq_true, ldA, stA, partA, faddrA, setAt, binA, arithA, shiftA, strA, unA, gSpan, gSkip, unG, ne_eq, Option.some.injEq, reduceCtorEq, decide_true, decide_false, elemsA, resA, resAll, resOne, enterA, decide_eq_true_eq, Bool.not_eq_true, Bool.decide_eq_true, ite_self, ↓reduceIte, noRefL, clrA, gcT, gcA, gcIds, reach, rhoOf, heapOf, idxA, genB, newGen, renB, refsB, List.contains_cons, List.range_succ, cb_tidingslaw19_Props_list, b_tidingslaw19_Props_list, cr_tidingslaw19_Props_list, x_tidingslaw19_Props_list_k0, d_tidingslaw19_Props_list_k0, x_tidingslaw19_Props_list_l9, d_tidingslaw19_Props_list_l9, oI, oN, intsV, bytesV, propsV, propV, propC, bytesOf_map, h1, faddrA]
        try (simp [outA, gcA, gcIds, reach, refsL, refsV, rhoOf, heapOf, idxA, genB, newGen, renL, renV, renB, refsB, List.range_succ])
  | c :: r, i, acc, h, ha, hi => by
    have hd := drop_at h
    have hlt : i < min 4 p.users.length := by have := hd.2.2; rwa [List.length_take] at this
    have ih := q_listl p hu r (i + 1) (acc ++ [userP p.users c]) hd.2.1 (by simp; omega) (by omega)
    have hat : p.users[i]? = some c := by
      have := hd.1
      rw [List.getElem?_take] at this
      rw [if_pos (by omega)] at this
      exact this
    have hsl : (p.users.take (i + 1)).drop i = [c] := by
      rw [List.drop_take]
      have : i + 1 - i = 1 := by omega
      rw [this]
      obtain ⟨hl, he⟩ := List.getElem?_eq_some_iff.1 hat
      rw [List.drop_eq_getElem_cons hl, he]
      rfl
    have h1 : (i : Int) < (p.users.length : Int) := by omega
    have h2 : (i : Int) < 4 := by omega
    have hw : IntKind.i64.wrap ((i : Int) + 1) = ((i + 1 : Nat) : Int) := by rw [wrap_nat (by omega) (by omega)]; rfl
    have hs := fun σ k1 k2 => slice_lh σ p.users k1 k2 (i : Int) ((i + 1 : Nat) : Int) (by omega) (by omega) (by omega)
    have t1 : ((i : Int)).toNat = i := rfl
    have t2 : (((i + 1 : Nat) : Int)).toNat = i + 1 := rfl
    rw [t1, t2, hsl] at hs
    have hP1 := fun σ site own f => q_plainC σ site own f [c] (by simp)
    have hP2 := fun σ site own f => q_plainC σ site own f p.users hu
    simp only [List.map_cons, List.map_nil] at hP1 hs
    rw [List.append_assoc, List.singleton_append, ← List.map_cons] at ih
    generalize hR : acc ++ (c :: r).map (userP p.users) = R at *
    unfold userP at ih
    unfold pC at ih ⊢
    generalize plainF [c] = U1 at *
    generalize plainF p.users = U2 at *
    unfold K_tidingslaw19_Props_list_l9 at ih ⊢
    rw [evL_eq]
    cases acc with
    | nil =>
      simp only [List.nil_append, List.map_nil, List.map_cons, lsT, lsH, propV, propC, bytesV, List.length_cons, List.length_nil, Nat.zero_add] at ih ⊢
      have hk : kOk 5 [AVal.agg [.int .i64 38, .int .i64 0, .str U1, .str U2, .lst false []]] = true := rfl
      simp -implicitDefEqProofs only [EVS0, EVS1, EVS2, EVS3, EVS4, EVS5, EVS6, EVS7, EVL0, EVL1, ite_tf, ite_ft, ite_tft, ite_ftf, ite_list, ite_tt, ite_ee, ite_nt, ite_ne, eq_self, implies_true, forall_const, exI, nsite, freeAt, execI, Opd.ev, tget, tins, tput, keepL, sitesOf, List.sum_cons, List.sum_nil, Nat.reduceAdd, Nat.reduceSub, Nat.reduceLT, Nat.reduceLeDiff, Nat.reduceEqDiff, Nat.reduceBEq, Nat.reduceMul, beq_self_eq_true, Bool.false_eq_true, ldA, stA, partA, faddrA, setAt, binA, arithA, shiftA, strA, unA, gSpan, gSkip, unG, ne_eq, Option.some.injEq, reduceCtorEq, decide_true, decide_false, elemsA, resA, resAll, resOne, enterA, decide_eq_true_eq, Bool.not_eq_true, Bool.decide_eq_true, ite_self, ↓reduceIte, noRefL, clrA, gcT, gcA, gcIds, reach, rhoOf, heapOf, idxA, genB, newGen, renB, refsB, List.contains_cons, List.range_succ, cb_tidingslaw19_Props_list, b_tidingslaw19_Props_list, cr_tidingslaw19_Props_list, x_tidingslaw19_Props_list_k0, d_tidingslaw19_Props_list_k0, x_tidingslaw19_Props_list_l9, d_tidingslaw19_Props_list_l9, oI, oN, intsV, bytesV, propsV, propV, propC, bytesOf_map, h1, h2, hw, hs, hP1, hP2, hk, faddrA, fillA, setAt, AVal.cells, reg_some, regC_some, chkA_cons, chkA_nil, pairFree_eq, emptyOp_eq, noWr_eq, List.getD_cons_zero, List.getD_cons_succ, isCallI, isLdI, gotOk, same1, List.lookup_cons, List.lookup_nil, appA, viewAs, viewA, viewA1, viewsA, freezeA, List.foldl_cons, List.foldl_nil, List.length_singleton, Nat.one_mul, Nat.le_refl, Nat.reduceMul, Nat.reduceLeDiff]
      exact ih
    | cons a acc =>
      rw [List.map_append] at ih
      have hXl : ((a :: acc).map propV).length = acc.length + 1 := by simp
      simp only [List.length_cons] at ha
      generalize hX : (a :: acc).map propV = X at *
      have hXp : 0 < X.length := by omega
      have hXq : 0 < (X ++ [(⟨38, 0, U1, U2, []⟩ : PropD)].map propV).length := by rw [List.length_append]; omega
      rw [lsT_ne _ hXq, lsH_ne _ hXq] at ih
      rw [lsT_ne _ hXp, lsH_ne _ hXp]
      simp only [List.map_cons, List.map_nil, propV, propC, bytesV, List.length_append, List.length_cons, List.length_nil, Nat.zero_add] at ih
      have hk : kOk 5 [AVal.agg [.int .i64 38, .int .i64 0, .str U1, .str U2, .lst false []]] = true := rfl
      have k2 : (X.length + 1) * 72 ≤ 140737488355328 := by omega
      simp -implicitDefEqProofs only [EVS0, EVS1, EVS2, EVS3, EVS4, EVS5, EVS6, EVS7, EVL0, EVL1, ite_tf, ite_ft, ite_tft, ite_ftf, ite_list, ite_tt, ite_ee, ite_nt, ite_ne, eq_self, implies_true, forall_const, exI, nsite, freeAt, execI, Opd.ev, tget, tins, tput, keepL, sitesOf, List.sum_cons, List.sum_nil, Nat.reduceAdd, Nat.reduceSub, Nat.reduceLT, Nat.reduceLeDiff, Nat.reduceEqDiff, Nat.reduceBEq, Nat.reduceMul, beq_self_eq_true, Bool.false_eq_true, ldA, stA, partA, faddrA, setAt, binA, arithA, shiftA, strA, unA, gSpan, gSkip, unG, ne_eq, Option.some.injEq, reduceCtorEq, decide_true, decide_false, elemsA, resA, resAll, resOne, enterA, decide_eq_true_eq, Bool.not_eq_true, Bool.decide_eq_true, ite_self, ↓reduceIte, noRefL, clrA, gcT, gcA, gcIds, reach, rhoOf, heapOf, idxA, genB, newGen, renB, refsB, List.contains_cons, List.range_succ, cb_tidingslaw19_Props_list, b_tidingslaw19_Props_list, cr_tidingslaw19_Props_list, x_tidingslaw19_Props_list_k0, d_tidingslaw19_Props_list_k0, x_tidingslaw19_Props_list_l9, d_tidingslaw19_Props_list_l9, oI, oN, intsV, bytesV, propsV, propV, propC, bytesOf_map, h1, h2, hw, hs, hP1, hP2, hk, k2, faddrA, fillA, setAt, AVal.cells, reg_some, regC_some, chkA_cons, chkA_nil, pairFree_eq, emptyOp_eq, noWr_eq, List.getD_cons_zero, List.getD_cons_succ, isCallI, isLdI, gotOk, same1, List.lookup_cons, List.lookup_nil, appA, viewAs, viewA, viewA1, viewsA, freezeA, List.foldl_cons, List.foldl_nil, List.length_singleton, Nat.one_mul, Nat.le_refl]
      exact ih
theorem q_list (p : PropsD) (h1 : p.content.length ≤ 9223372036854775807) (h3 : p.users.length ≤ 9223372036854775807) : E 47 [.agg (pC p)] [] = some (growV ((listF p).map propV), growH 5 ((listF p).map propV)) := by
  have hlen : (headL p).length ≤ 3 := by
    unfold headL
    repeat' split
    all_goals simp
  have key := q_listl p h3 (p.users.take 4) 0 (headL p) rfl (by omega) (by omega)
  have hP := fun σ site own f => q_plainC σ site own f p.content h1
  have hC := fun σ site own => q_kcutC σ site own true p.corr 30 (by omega)
  have z0 : ((0 : Nat) : Int) = 0 := rfl
  have z30 : (30 : Int).toNat = 30 := rfl
  rw [z30] at hC
  rw [z0] at key
  rw [show listF p = headL p ++ (p.users.take 4).map (userP p.users) from rfl]
  generalize hR : headL p ++ (p.users.take 4).map (userP p.users) = R at *
  unfold headL and1 at key
  unfold pC at key ⊢
  generalize plainF p.content = U1 at *
  generalize p.corr.take 30 = U2 at *
  unfold K_tidingslaw19_Props_list_l9 at key
  have w1 : kOk 5 [AVal.agg [.int .i64 1, .int .i64 (IntKind.i64.wrap (((BitVec.ofInt IntKind.i64.bits p.fmt &&& BitVec.ofInt IntKind.i64.bits 1).toNat : Nat) : Int)), .str [], .str [], .lst false []]] = true := rfl
  have w2 : kOk 5 [AVal.agg [.int .i64 3, .int .i64 0, .str U1, .str [], .lst false []]] = true := rfl
  have w3 : kOk 5 [AVal.agg [.int .i64 9, .int .i64 0, .str [], .str [], .lst false (U2.map byteV)]] = true := rfl
  by_cases c1 : p.fmt ≥ 0 <;> by_cases c2 : (p.content.length : Int) > 0 <;> by_cases c3 : (p.corr.length : Int) > 0
  all_goals (have d2 : (p.content.length > 0) = ((p.content.length : Int) > 0) := by simp)
  all_goals (have d3 : (p.corr.length > 0) = ((p.corr.length : Int) > 0) := by simp)
  all_goals simp only [c1, d2, c2, d3, c3, if_true, if_false, List.nil_append, List.append_nil, List.cons_append, List.map_cons, List.map_nil, lsT, lsH, propV, propC, bytesV, List.length_cons, List.length_nil, Nat.zero_add] at key
  all_goals clear d2 d3
  all_goals rw [E_eq (by rfl) cf_tidingslaw19_Props_list]
  all_goals simp -implicitDefEqProofs only [EVS0, EVS1, EVS2, EVS3, EVS4, EVS5, EVS6, EVS7, EVL0, EVL1, ite_tf, ite_ft, ite_tft, ite_ftf, ite_list, ite_tt, ite_ee, ite_nt, ite_ne, eq_self, implies_true, forall_const, exI, nsite, freeAt, execI, Opd.ev, tget, tins, tput, keepL, sitesOf, List.sum_cons, List.sum_nil, Nat.reduceAdd, Nat.reduceSub, Nat.reduceLT, Nat.reduceLeDiff, Nat.reduceEqDiff, Nat.reduceBEq, Nat.reduceMul, beq_self_eq_true, Bool.false_eq_true, ldA, stA, partA, faddrA, setAt, binA, arithA, shiftA, strA, unA, gSpan, gSkip, unG, ne_eq, Option.some.injEq, reduceCtorEq, decide_true, decide_false, elemsA, resA, resAll, resOne, enterA, decide_eq_true_eq, Bool.not_eq_true, Bool.decide_eq_true, ite_self, ↓reduceIte, noRefL, clrA, gcT, gcA, gcIds, reach, rhoOf, heapOf, idxA, genB, newGen, renB, refsB, List.contains_cons, List.range_succ, cb_tidingslaw19_Props_list, b_tidingslaw19_Props_list, cr_tidingslaw19_Props_list, x_tidingslaw19_Props_list_k0, d_tidingslaw19_Props_list_k0, x_tidingslaw19_Props_list_l9, d_tidingslaw19_Props_list_l9, oI, oN, intsV, bytesV, propsV, propV, propC, bytesOf_map, c1, c2, c3, hP, hC, w1, w2, w3, faddrA, fillA, setAt, AVal.cells, reg_some, regC_some, chkA_cons, chkA_nil, pairFree_eq, emptyOp_eq, noWr_eq, List.getD_cons_zero, List.getD_cons_succ, isCallI, isLdI, gotOk, same1, List.lookup_cons, List.lookup_nil, appA, viewAs, viewA, viewA1, viewsA, freezeA, List.foldl_cons, List.foldl_nil, List.length_singleton, Nat.one_mul, Nat.le_refl, Nat.reduceMul, Nat.reduceLeDiff]
  all_goals exact key
theorem q_listC (σ : AHeap) (site own : Nat) (p : PropsD) (h1 : p.content.length ≤ 9223372036854775807) (h3 : p.users.length ≤ 9223372036854775807) : callG E BY σ site 47 own true [.agg [.int .i64 p.fmt, .lst false (p.content.map byteV), .lst false (p.corr.map byteV), .lst false (p.users.map byteV)]] = some (.lst false ((listF p).map propV), σ, {}) :=
  view_grow (k := 5) (q_list p h1 h3) (by kernel_rfl) rfl rfl _ _ _
end Go.Proofs.YtmlkhhidifjjfaaDoor
namespace Go.Proofs.YtmlkhhidifjjfaaDoor
set_option linter.unusedSimpArgs false
set_option linter.unusedVariables false
set_option linter.defProp false
def b_bytes_Equal : ACode := (.seq (.region [oI 4 (.mov (.c (.bool false)))] none [1, 0]) (.seq (.region [oI 5 (.mov (.t 0)), oI 6 (.b2s (.t 5)), oI 7 (.mov (.t 1)), oI 8 (.b2s (.t 7)), oI 9 (.bin .eql (.t 6) (.t 8)), oI 4 (.mov (.t 9))] none [4]) .ret))
def c_bytes_Equal : AFunc := ⟨[(.tmp 4)], b_bytes_Equal⟩
theorem cf_bytes_Equal : FC 63 = some c_bytes_Equal := by kernel_rfl
theorem cb_bytes_Equal : c_bytes_Equal.body = b_bytes_Equal := rfl
theorem cr_bytes_Equal : c_bytes_Equal.res = [(.tmp 4)] := rfl
def b_slices_Contains_int_int : ACode := (.seq (.region [oI 4 (.mov (.c (.bool false)))] none [1, 0]) (.seq (.region [oI 5 (.mov (.t 0)), oI 6 (.mov (.t 1)), oI 7 (.call 163 0 true [(.t 5), (.t 6)]), oI 8 (.bin .geq (.t 7) (.c (.int .i64 0))), oI 4 (.mov (.t 8))] none [4]) .ret))
def c_slices_Contains_int_int : AFunc := ⟨[(.tmp 4)], b_slices_Contains_int_int⟩
theorem cf_slices_Contains_int_int : FC 158 = some c_slices_Contains_int_int := by kernel_rfl
theorem cb_slices_Contains_int_int : c_slices_Contains_int_int.body = b_slices_Contains_int_int := rfl
theorem cr_slices_Contains_int_int : c_slices_Contains_int_int.res = [(.tmp 4)] := rfl
def d_slices_EqualFunc_api_Prop_api_Prop_api_Prop_api_Prop_k0 : ACode := (.seq (.region [oI 6 (.mov (.c (.bool true)))] none [6]) .ret)
def c_slices_EqualFunc_api_Prop_api_Prop_api_Prop_api_Prop_k0 : ACode := d_slices_EqualFunc_api_Prop_api_Prop_api_Prop_api_Prop_k0
def x_slices_EqualFunc_api_Prop_api_Prop_api_Prop_api_Prop_k0 := xw c_slices_EqualFunc_api_Prop_api_Prop_api_Prop_api_Prop_k0 d_slices_EqualFunc_api_Prop_api_Prop_api_Prop_api_Prop_k0 rfl
def d_slices_EqualFunc_api_Prop_api_Prop_api_Prop_api_Prop_l4 : ACode := (.seq (.region [oI 18 (.bin .lss (.t 17) (.t 16))] none [18, 17, 16, 15, 2, 1]) (.seq (.cond (.t 18) .skip (.exit 0)) (.seq (.block 1 (.seq (.region [oI 19 (.mov (.t 17)), oI 20 (.iaddr 5 (.t 15) (.t 17)), oI 21 (.ld (some 5) (.t 20)), oI 8 (.alloc [(.int .i64 0), (.int .i64 0), (.str []), (.str []), (.lst true [])]), oI 7 (.mov (.t 19)), oN (.st 5 (.t 8) (.t 21))] none [17, 16, 15, 8, 7, 2, 1]) (.seq (.region [oI 22 (.mov (.t 1)), oI 23 (.mov (.t 7)), oI 24 (.iaddr 5 (.t 22) (.t 23)), oI 25 (.ld (some 5) (.t 24)), oI 9 (.alloc [(.int .i64 0), (.int .i64 0), (.str []), (.str []), (.lst true [])]), oN (.st 5 (.t 9) (.t 25))] none [17, 16, 15, 9, 8, 2, 1]) (.seq (.region [oI 26 (.mov (.t 2)), oI 27 (.ld (some 5) (.t 8)), oI 28 (.ld (some 5) (.t 9)), oI 29 (.callv (.t 26) [(.t 27), (.t 28)]), oI 30 (.un .not (.t 29))] none [30, 17, 16, 15, 2, 1]) (.cond (.t 30) (.seq (.region [oI 6 (.mov (.c (.bool false)))] none [6]) .ret) .skip))))) (.region [oI 31 (.bin .add (.t 17) (.c (.int .i64 1))), oI 17 (.mov (.t 31))] none [17, 16, 15, 2, 1]))))
def c_slices_EqualFunc_api_Prop_api_Prop_api_Prop_api_Prop_l4 : ACode := d_slices_EqualFunc_api_Prop_api_Prop_api_Prop_api_Prop_l4
def x_slices_EqualFunc_api_Prop_api_Prop_api_Prop_api_Prop_l4 := xw c_slices_EqualFunc_api_Prop_api_Prop_api_Prop_api_Prop_l4 d_slices_EqualFunc_api_Prop_api_Prop_api_Prop_api_Prop_l4 rfl
def b_slices_EqualFunc_api_Prop_api_Prop_api_Prop_api_Prop : ACode := (.seq (.region [oI 6 (.mov (.c (.bool false)))] none [2, 1, 0]) (.seq (.seq (.region [oI 10 (.mov (.t 0)), oI 11 (.len (.t 10)), oI 12 (.mov (.t 1)), oI 13 (.len (.t 12)), oI 14 (.bin .neq (.t 11) (.t 13))] none [14, 2, 1, 0]) (.cond (.t 14) (.seq (.region [oI 6 (.mov (.c (.bool false)))] none [6]) .ret) .skip)) (.seq (.seq (.region [oI 15 (.mov (.t 0)), oI 16 (.len (.t 15)), oI 17 (.mov (.c (.int .i64 0)))] none [17, 16, 15, 2, 1]) (.block 0 (.loop [17, 16, 15, 2, 1] c_slices_EqualFunc_api_Prop_api_Prop_api_Prop_api_Prop_l4))) c_slices_EqualFunc_api_Prop_api_Prop_api_Prop_api_Prop_k0)))
def c_slices_EqualFunc_api_Prop_api_Prop_api_Prop_api_Prop : AFunc := ⟨[(.tmp 6)], b_slices_EqualFunc_api_Prop_api_Prop_api_Prop_api_Prop⟩
theorem cf_slices_EqualFunc_api_Prop_api_Prop_api_Prop_api_Prop : FC 91 = some c_slices_EqualFunc_api_Prop_api_Prop_api_Prop_api_Prop := by kernel_rfl
theorem cb_slices_EqualFunc_api_Prop_api_Prop_api_Prop_api_Prop : c_slices_EqualFunc_api_Prop_api_Prop_api_Prop_api_Prop.body = b_slices_EqualFunc_api_Prop_api_Prop_api_Prop_api_Prop := rfl
theorem cr_slices_EqualFunc_api_Prop_api_Prop_api_Prop_api_Prop : c_slices_EqualFunc_api_Prop_api_Prop_api_Prop_api_Prop.res = [(.tmp 6)] := rfl
/-- slots [17, 16, 15, 2, 1] -/
noncomputable def K_slices_EqualFunc_api_Prop_api_Prop_api_Prop_api_Prop_l4 (m : Nat) (tm : Tms) (σ : AHeap) : Option (AVal × AHeap) := (finA m c_slices_EqualFunc_api_Prop_api_Prop_api_Prop_api_Prop (seqX FC PR BY m c_slices_EqualFunc_api_Prop_api_Prop_api_Prop_api_Prop_k0 (Option.map (blockA 0) (evL FC PR BY m [17, 16, 15, 2, 1] c_slices_EqualFunc_api_Prop_api_Prop_api_Prop_api_Prop_l4 tm σ))))
def d_slices_Equal_int_int_k0 : ACode := (.seq (.region [oI 4 (.mov (.c (.bool true)))] none [4]) .ret)
def c_slices_Equal_int_int_k0 : ACode := d_slices_Equal_int_int_k0
def x_slices_Equal_int_int_k0 := xw c_slices_Equal_int_int_k0 d_slices_Equal_int_int_k0 rfl
def d_slices_Equal_int_int_l4 : ACode := (.seq (.region [oI 14 (.bin .lss (.t 13) (.t 12))] none [14, 13, 12, 1, 0]) (.seq (.cond (.t 14) .skip (.exit 0)) (.seq (.block 1 (.seq (.region [oI 15 (.mov (.t 13)), oI 5 (.mov (.t 15))] none [13, 12, 5, 1, 0]) (.seq (.region [oI 16 (.mov (.t 0)), oI 17 (.mov (.t 5)), oI 18 (.iaddr 1 (.t 16) (.t 17)), oI 19 (.ld none (.t 18)), oI 20 (.mov (.t 1)), oI 21 (.mov (.t 5)), oI 22 (.iaddr 1 (.t 20) (.t 21)), oI 23 (.ld none (.t 22)), oI 24 (.bin .neq (.t 19) (.t 23))] (some [(2, 6), (3, 6), (2, 7), (3, 7)]) [24, 13, 12, 1, 0]) (.cond (.t 24) (.seq (.region [oI 4 (.mov (.c (.bool false)))] none [4]) .ret) .skip)))) (.region [oI 25 (.bin .add (.t 13) (.c (.int .i64 1))), oI 13 (.mov (.t 25))] none [13, 12, 1, 0]))))
def c_slices_Equal_int_int_l4 : ACode := d_slices_Equal_int_int_l4
def x_slices_Equal_int_int_l4 := xw c_slices_Equal_int_int_l4 d_slices_Equal_int_int_l4 rfl
def b_slices_Equal_int_int : ACode := (.seq (.region [oI 4 (.mov (.c (.bool false)))] none [1, 0]) (.seq (.seq (.region [oI 6 (.mov (.t 0)), oI 7 (.len (.t 6)), oI 8 (.mov (.t 1)), oI 9 (.len (.t 8)), oI 10 (.bin .neq (.t 7) (.t 9))] none [10, 1, 0]) (.cond (.t 10) (.seq (.region [oI 4 (.mov (.c (.bool false)))] none [4]) .ret) .skip)) (.seq (.seq (.region [oI 11 (.mov (.t 0)), oI 12 (.len (.t 11)), oI 13 (.mov (.c (.int .i64 0)))] none [13, 12, 1, 0]) (.block 0 (.loop [13, 12, 1, 0] c_slices_Equal_int_int_l4))) c_slices_Equal_int_int_k0)))
def c_slices_Equal_int_int : AFunc := ⟨[(.tmp 4)], b_slices_Equal_int_int⟩
theorem cf_slices_Equal_int_int : FC 74 = some c_slices_Equal_int_int := by kernel_rfl
theorem cb_slices_Equal_int_int : c_slices_Equal_int_int.body = b_slices_Equal_int_int := rfl
theorem cr_slices_Equal_int_int : c_slices_Equal_int_int.res = [(.tmp 4)] := rfl
/-- slots [13, 12, 1, 0] -/
noncomputable def K_slices_Equal_int_int_l4 (m : Nat) (tm : Tms) (σ : AHeap) : Option (AVal × AHeap) := (finA m c_slices_Equal_int_int (seqX FC PR BY m c_slices_Equal_int_int_k0 (Option.map (blockA 0) (evL FC PR BY m [13, 12, 1, 0] c_slices_Equal_int_int_l4 tm σ))))
def d_slices_Index_int_int_k0 : ACode := (.seq (.region [oI 4 (.mov (.c (.int .i64 (-1))))] none [4]) .ret)
def c_slices_Index_int_int_k0 : ACode := d_slices_Index_int_int_k0
def x_slices_Index_int_int_k0 := xw c_slices_Index_int_int_k0 d_slices_Index_int_int_k0 rfl
def d_slices_Index_int_int_l2 : ACode := (.seq (.region [oI 9 (.bin .lss (.t 8) (.t 7))] none [9, 8, 7, 1, 0]) (.seq (.cond (.t 9) .skip (.exit 0)) (.seq (.block 1 (.seq (.region [oI 10 (.mov (.t 8)), oI 5 (.mov (.t 10))] none [8, 7, 5, 1, 0]) (.seq (.region [oI 11 (.mov (.t 1)), oI 12 (.mov (.t 0)), oI 13 (.mov (.t 5)), oI 14 (.iaddr 1 (.t 12) (.t 13)), oI 15 (.ld none (.t 14)), oI 16 (.bin .eql (.t 11) (.t 15))] none [16, 8, 7, 5, 1, 0]) (.cond (.t 16) (.seq (.region [oI 17 (.mov (.t 5)), oI 4 (.mov (.t 17))] none [4]) .ret) .skip)))) (.region [oI 18 (.bin .add (.t 8) (.c (.int .i64 1))), oI 8 (.mov (.t 18))] none [8, 7, 1, 0]))))
def c_slices_Index_int_int_l2 : ACode := d_slices_Index_int_int_l2
def x_slices_Index_int_int_l2 := xw c_slices_Index_int_int_l2 d_slices_Index_int_int_l2 rfl
def b_slices_Index_int_int : ACode := (.seq (.region [oI 4 (.mov (.c (.int .i64 0)))] none [1, 0]) (.seq (.seq (.region [oI 6 (.mov (.t 0)), oI 7 (.len (.t 6)), oI 8 (.mov (.c (.int .i64 0)))] none [8, 7, 1, 0]) (.block 0 (.loop [8, 7, 1, 0] c_slices_Index_int_int_l2))) c_slices_Index_int_int_k0))
def c_slices_Index_int_int : AFunc := ⟨[(.tmp 4)], b_slices_Index_int_int⟩
theorem cf_slices_Index_int_int : FC 163 = some c_slices_Index_int_int := by kernel_rfl
theorem cb_slices_Index_int_int : c_slices_Index_int_int.body = b_slices_Index_int_int := rfl
theorem cr_slices_Index_int_int : c_slices_Index_int_int.res = [(.tmp 4)] := rfl
/-- slots [8, 7, 1, 0] -/
noncomputable def K_slices_Index_int_int_l2 (m : Nat) (tm : Tms) (σ : AHeap) : Option (AVal × AHeap) := (finA m c_slices_Index_int_int (seqX FC PR BY m c_slices_Index_int_int_k0 (Option.map (blockA 0) (evL FC PR BY m [8, 7, 1, 0] c_slices_Index_int_int_l2 tm σ))))
end Go.Proofs.YtmlkhhidifjjfaaDoor
