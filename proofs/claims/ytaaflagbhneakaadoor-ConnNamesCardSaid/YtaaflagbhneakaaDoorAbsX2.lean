/- ABS: small functions at each kind of value, for simp. Printed by a program. -/
import Derived.Test.YtaaflagbhneakaaDoorAbsX
namespace Go.Proofs.YtaaflagbhneakaaDoor
set_option linter.unusedSimpArgs false
set_option linter.unusedVariables false
section
variable (ρ : Rho) (σ : AHeap)
theorem s_isPan_top  : isPan (.top) = false := rfl
theorem s_isPan_any  : isPan (.any) = false := rfl
theorem s_isPan_int (k : IntKind) (n : Int) : isPan (.int k n) = false := rfl
theorem s_isPan_bool (b : Bool) : isPan (.bool b) = false := rfl
theorem s_isPan_str (l : List UInt8) : isPan (.str l) = false := rfl
theorem s_isPan_nilp  : isPan (.nilp) = false := rfl
theorem s_isPan_ref (t : Nat) (o : Nat) : isPan (.ref t o) = false := rfl
theorem s_isPan_eref (t : Nat) (g : Nat) (i : Nat) (o : Nat) : isPan (.eref t g i o) = false := rfl
theorem s_isPan_iptr (cs : List AVal) (o : Nat) : isPan (.iptr cs o) = false := rfl
theorem s_isPan_lst (x : Bool) (xs : List AVal) : isPan (.lst x xs) = false := rfl
theorem s_isPan_sl (t : Nat) (g : Nat) (lo : Nat) (n : Nat) : isPan (.sl t g lo n) = false := rfl
theorem s_isPan_agg (cs : List AVal) : isPan (.agg cs) = false := rfl
theorem s_isPan_tup (vs : List AVal) : isPan (.tup vs) = false := rfl
theorem s_isPan_fn (f : Nat) (caps : List AVal) : isPan (.fn f caps) = false := rfl
theorem s_isPan_nilm  : isPan (.nilm) = false := rfl
theorem s_isPan_map (t : Nat) : isPan (.map t) = false := rfl
theorem s_isPan_nili  : isPan (.nili) = false := rfl
theorem s_isPan_iface (t : Nat) (x : AVal) : isPan (.iface t x) = false := rfl
theorem s_isPan_pan (x : AVal) : isPan (.pan x) = true := rfl
theorem s_okCell_top  : okCell (.top) = false := rfl
theorem s_okCell_any  : okCell (.any) = true := rfl
theorem s_okCell_int (k : IntKind) (n : Int) : okCell (.int k n) = true := rfl
theorem s_okCell_bool (b : Bool) : okCell (.bool b) = true := rfl
theorem s_okCell_str (l : List UInt8) : okCell (.str l) = true := rfl
theorem s_okCell_nilp  : okCell (.nilp) = true := rfl
theorem s_okCell_ref (t : Nat) (o : Nat) : okCell (.ref t o) = true := rfl
theorem s_okCell_eref (t : Nat) (g : Nat) (i : Nat) (o : Nat) : okCell (.eref t g i o) = true := rfl
theorem s_okCell_iptr (cs : List AVal) (o : Nat) : okCell (.iptr cs o) = true := rfl
theorem s_okCell_lst (x : Bool) (xs : List AVal) : okCell (.lst x xs) = true := rfl
theorem s_okCell_sl (t : Nat) (g : Nat) (lo : Nat) (n : Nat) : okCell (.sl t g lo n) = true := rfl
theorem s_okCell_agg (cs : List AVal) : okCell (.agg cs) = false := rfl
theorem s_okCell_tup (vs : List AVal) : okCell (.tup vs) = false := rfl
theorem s_okCell_fn (f : Nat) (caps : List AVal) : okCell (.fn f caps) = true := rfl
theorem s_okCell_nilm  : okCell (.nilm) = true := rfl
theorem s_okCell_map (t : Nat) : okCell (.map t) = true := rfl
theorem s_okCell_nili  : okCell (.nili) = true := rfl
theorem s_okCell_iface (t : Nat) (x : AVal) : okCell (.iface t x) = true := rfl
theorem s_okCell_pan (x : AVal) : okCell (.pan x) = false := rfl
theorem s_ntop_top  : ntop (.top) = false := rfl
theorem s_ntop_any  : ntop (.any) = true := rfl
theorem s_ntop_int (k : IntKind) (n : Int) : ntop (.int k n) = true := rfl
theorem s_ntop_bool (b : Bool) : ntop (.bool b) = true := rfl
theorem s_ntop_str (l : List UInt8) : ntop (.str l) = true := rfl
theorem s_ntop_nilp  : ntop (.nilp) = true := rfl
theorem s_ntop_ref (t : Nat) (o : Nat) : ntop (.ref t o) = true := rfl
theorem s_ntop_eref (t : Nat) (g : Nat) (i : Nat) (o : Nat) : ntop (.eref t g i o) = true := rfl
theorem s_ntop_iptr (cs : List AVal) (o : Nat) : ntop (.iptr cs o) = true := rfl
theorem s_ntop_lst (x : Bool) (xs : List AVal) : ntop (.lst x xs) = true := rfl
theorem s_ntop_sl (t : Nat) (g : Nat) (lo : Nat) (n : Nat) : ntop (.sl t g lo n) = true := rfl
theorem s_ntop_agg (cs : List AVal) : ntop (.agg cs) = true := rfl
theorem s_ntop_tup (vs : List AVal) : ntop (.tup vs) = true := rfl
theorem s_ntop_fn (f : Nat) (caps : List AVal) : ntop (.fn f caps) = true := rfl
theorem s_ntop_nilm  : ntop (.nilm) = true := rfl
theorem s_ntop_map (t : Nat) : ntop (.map t) = true := rfl
theorem s_ntop_nili  : ntop (.nili) = true := rfl
theorem s_ntop_iface (t : Nat) (x : AVal) : ntop (.iface t x) = true := rfl
theorem s_ntop_pan (x : AVal) : ntop (.pan x) = true := rfl
theorem s_flat1_top  : flat1 (.top) = false := rfl
theorem s_flat1_any  : flat1 (.any) = false := rfl
theorem s_flat1_int (k : IntKind) (n : Int) : flat1 (.int k n) = true := rfl
theorem s_flat1_bool (b : Bool) : flat1 (.bool b) = true := rfl
theorem s_flat1_str (l : List UInt8) : flat1 (.str l) = true := rfl
theorem s_flat1_nilp  : flat1 (.nilp) = true := rfl
theorem s_flat1_ref (t : Nat) (o : Nat) : flat1 (.ref t o) = false := rfl
theorem s_flat1_eref (t : Nat) (g : Nat) (i : Nat) (o : Nat) : flat1 (.eref t g i o) = false := rfl
theorem s_flat1_iptr (cs : List AVal) (o : Nat) : flat1 (.iptr cs o) = false := rfl
theorem s_flat1_lst (x : Bool) (xs : List AVal) : flat1 (.lst x xs) = false := rfl
theorem s_flat1_sl (t : Nat) (g : Nat) (lo : Nat) (n : Nat) : flat1 (.sl t g lo n) = false := rfl
theorem s_flat1_agg (cs : List AVal) : flat1 (.agg cs) = false := rfl
theorem s_flat1_tup (vs : List AVal) : flat1 (.tup vs) = false := rfl
theorem s_flat1_fn (f : Nat) (caps : List AVal) : flat1 (.fn f caps) = false := rfl
theorem s_flat1_nilm  : flat1 (.nilm) = true := rfl
theorem s_flat1_map (t : Nat) : flat1 (.map t) = false := rfl
theorem s_flat1_nili  : flat1 (.nili) = true := rfl
theorem s_flat1_iface (t : Nat) (x : AVal) : flat1 (.iface t x) = false := rfl
theorem s_flat1_pan (x : AVal) : flat1 (.pan x) = false := rfl
theorem s_flat2_top  : flat2 (.top) = false := rfl
theorem s_flat2_any  : flat2 (.any) = false := rfl
theorem s_flat2_int (k : IntKind) (n : Int) : flat2 (.int k n) = true := rfl
theorem s_flat2_bool (b : Bool) : flat2 (.bool b) = true := rfl
theorem s_flat2_str (l : List UInt8) : flat2 (.str l) = true := rfl
theorem s_flat2_nilp  : flat2 (.nilp) = true := rfl
theorem s_flat2_ref (t : Nat) (o : Nat) : flat2 (.ref t o) = false := rfl
theorem s_flat2_eref (t : Nat) (g : Nat) (i : Nat) (o : Nat) : flat2 (.eref t g i o) = false := rfl
theorem s_flat2_iptr (cs : List AVal) (o : Nat) : flat2 (.iptr cs o) = false := rfl
theorem s_flat2_lst (x : Bool) (xs : List AVal) : flat2 (.lst x xs) = false := rfl
theorem s_flat2_sl (t : Nat) (g : Nat) (lo : Nat) (n : Nat) : flat2 (.sl t g lo n) = false := rfl
theorem s_flat2_agg (cs : List AVal) : flat2 (.agg cs) = cs.all flat1 := rfl
theorem s_flat2_tup (vs : List AVal) : flat2 (.tup vs) = false := rfl
theorem s_flat2_fn (f : Nat) (caps : List AVal) : flat2 (.fn f caps) = false := rfl
theorem s_flat2_nilm  : flat2 (.nilm) = true := rfl
theorem s_flat2_map (t : Nat) : flat2 (.map t) = false := rfl
theorem s_flat2_nili  : flat2 (.nili) = true := rfl
theorem s_flat2_iface (t : Nat) (x : AVal) : flat2 (.iface t x) = false := rfl
theorem s_flat2_pan (x : AVal) : flat2 (.pan x) = false := rfl
theorem s_flatA_top  : flatA (.top) = false := rfl
theorem s_flatA_any  : flatA (.any) = false := rfl
theorem s_flatA_int (k : IntKind) (n : Int) : flatA (.int k n) = true := rfl
theorem s_flatA_bool (b : Bool) : flatA (.bool b) = true := rfl
theorem s_flatA_str (l : List UInt8) : flatA (.str l) = true := rfl
theorem s_flatA_nilp  : flatA (.nilp) = true := rfl
theorem s_flatA_ref (t : Nat) (o : Nat) : flatA (.ref t o) = false := rfl
theorem s_flatA_eref (t : Nat) (g : Nat) (i : Nat) (o : Nat) : flatA (.eref t g i o) = false := rfl
theorem s_flatA_iptr (cs : List AVal) (o : Nat) : flatA (.iptr cs o) = false := rfl
theorem s_flatA_lst (x : Bool) (xs : List AVal) : flatA (.lst x xs) = false := rfl
theorem s_flatA_sl (t : Nat) (g : Nat) (lo : Nat) (n : Nat) : flatA (.sl t g lo n) = false := rfl
theorem s_flatA_agg (cs : List AVal) : flatA (.agg cs) = cs.all flat1 := rfl
theorem s_flatA_tup (vs : List AVal) : flatA (.tup vs) = vs.all flat2 := rfl
theorem s_flatA_fn (f : Nat) (caps : List AVal) : flatA (.fn f caps) = false := rfl
theorem s_flatA_nilm  : flatA (.nilm) = true := rfl
theorem s_flatA_map (t : Nat) : flatA (.map t) = false := rfl
theorem s_flatA_nili  : flatA (.nili) = true := rfl
theorem s_flatA_iface (t : Nat) (x : AVal) : flatA (.iface t x) = false := rfl
theorem s_plain1_top  : plain1 (.top) = false := rfl
theorem s_plain1_any  : plain1 (.any) = false := rfl
theorem s_plain1_int (k : IntKind) (n : Int) : plain1 (.int k n) = true := rfl
theorem s_plain1_bool (b : Bool) : plain1 (.bool b) = true := rfl
theorem s_plain1_str (l : List UInt8) : plain1 (.str l) = true := rfl
theorem s_plain1_nilp  : plain1 (.nilp) = true := rfl
theorem s_plain1_ref (t : Nat) (o : Nat) : plain1 (.ref t o) = false := rfl
theorem s_plain1_eref (t : Nat) (g : Nat) (i : Nat) (o : Nat) : plain1 (.eref t g i o) = false := rfl
theorem s_plain1_iptr (cs : List AVal) (o : Nat) : plain1 (.iptr cs o) = false := rfl
theorem s_plain1_lst (x : Bool) (xs : List AVal) : plain1 (.lst x xs) = true := rfl
theorem s_plain1_sl (t : Nat) (g : Nat) (lo : Nat) (n : Nat) : plain1 (.sl t g lo n) = false := rfl
theorem s_plain1_agg (cs : List AVal) : plain1 (.agg cs) = false := rfl
theorem s_plain1_tup (vs : List AVal) : plain1 (.tup vs) = false := rfl
theorem s_plain1_nilm  : plain1 (.nilm) = true := rfl
theorem s_plain1_map (t : Nat) : plain1 (.map t) = false := rfl
theorem s_plain1_nili  : plain1 (.nili) = true := rfl
theorem s_plain1_iface (t : Nat) (x : AVal) : plain1 (.iface t x) = false := rfl
theorem s_plain1_pan (x : AVal) : plain1 (.pan x) = false := rfl
theorem s_plainV_top  : plainV (.top) = false := rfl
theorem s_plainV_any  : plainV (.any) = false := rfl
theorem s_plainV_int (k : IntKind) (n : Int) : plainV (.int k n) = true := rfl
theorem s_plainV_bool (b : Bool) : plainV (.bool b) = true := rfl
theorem s_plainV_str (l : List UInt8) : plainV (.str l) = true := rfl
theorem s_plainV_nilp  : plainV (.nilp) = true := rfl
theorem s_plainV_ref (t : Nat) (o : Nat) : plainV (.ref t o) = false := rfl
theorem s_plainV_eref (t : Nat) (g : Nat) (i : Nat) (o : Nat) : plainV (.eref t g i o) = false := rfl
theorem s_plainV_iptr (cs : List AVal) (o : Nat) : plainV (.iptr cs o) = false := rfl
theorem s_plainV_lst (x : Bool) (xs : List AVal) : plainV (.lst x xs) = true := rfl
theorem s_plainV_sl (t : Nat) (g : Nat) (lo : Nat) (n : Nat) : plainV (.sl t g lo n) = false := rfl
theorem s_plainV_agg (cs : List AVal) : plainV (.agg cs) = cs.all plain1 := rfl
theorem s_plainV_tup (vs : List AVal) : plainV (.tup vs) = false := rfl
theorem s_plainV_nilm  : plainV (.nilm) = true := rfl
theorem s_plainV_map (t : Nat) : plainV (.map t) = false := rfl
theorem s_plainV_nili  : plainV (.nili) = true := rfl
theorem s_plainV_iface (t : Nat) (x : AVal) : plainV (.iface t x) = false := rfl
theorem s_plainV_pan (x : AVal) : plainV (.pan x) = false := rfl
theorem s_norm1_top  : norm1 (.top) = (.top) := rfl
theorem s_norm1_any  : norm1 (.any) = (.any) := rfl
theorem s_norm1_int (k : IntKind) (n : Int) : norm1 (.int k n) = (.int k n) := rfl
theorem s_norm1_bool (b : Bool) : norm1 (.bool b) = (.bool b) := rfl
theorem s_norm1_str (l : List UInt8) : norm1 (.str l) = (.str l) := rfl
theorem s_norm1_nilp  : norm1 (.nilp) = (.nilp) := rfl
theorem s_norm1_ref (t : Nat) (o : Nat) : norm1 (.ref t o) = (.ref t o) := rfl
theorem s_norm1_eref (t : Nat) (g : Nat) (i : Nat) (o : Nat) : norm1 (.eref t g i o) = (.eref t g i o) := rfl
theorem s_norm1_iptr (cs : List AVal) (o : Nat) : norm1 (.iptr cs o) = (.iptr cs o) := rfl
theorem s_norm1_lst (x : Bool) (xs : List AVal) : norm1 (.lst x xs) = .lst false xs := rfl
theorem s_norm1_sl (t : Nat) (g : Nat) (lo : Nat) (n : Nat) : norm1 (.sl t g lo n) = (.sl t g lo n) := rfl
theorem s_norm1_agg (cs : List AVal) : norm1 (.agg cs) = (.agg cs) := rfl
theorem s_norm1_tup (vs : List AVal) : norm1 (.tup vs) = (.tup vs) := rfl
theorem s_norm1_fn (f : Nat) (caps : List AVal) : norm1 (.fn f caps) = (.fn f caps) := rfl
theorem s_norm1_nilm  : norm1 (.nilm) = (.nilm) := rfl
theorem s_norm1_map (t : Nat) : norm1 (.map t) = (.map t) := rfl
theorem s_norm1_nili  : norm1 (.nili) = (.nili) := rfl
theorem s_norm1_iface (t : Nat) (x : AVal) : norm1 (.iface t x) = (.iface t x) := rfl
theorem s_norm1_pan (x : AVal) : norm1 (.pan x) = (.pan x) := rfl
theorem s_normV_top  : normV (.top) = (.top) := rfl
theorem s_normV_any  : normV (.any) = (.any) := rfl
theorem s_normV_int (k : IntKind) (n : Int) : normV (.int k n) = (.int k n) := rfl
theorem s_normV_bool (b : Bool) : normV (.bool b) = (.bool b) := rfl
theorem s_normV_str (l : List UInt8) : normV (.str l) = (.str l) := rfl
theorem s_normV_nilp  : normV (.nilp) = (.nilp) := rfl
theorem s_normV_ref (t : Nat) (o : Nat) : normV (.ref t o) = (.ref t o) := rfl
theorem s_normV_eref (t : Nat) (g : Nat) (i : Nat) (o : Nat) : normV (.eref t g i o) = (.eref t g i o) := rfl
theorem s_normV_iptr (cs : List AVal) (o : Nat) : normV (.iptr cs o) = (.iptr cs o) := rfl
theorem s_normV_lst (x : Bool) (xs : List AVal) : normV (.lst x xs) = .lst false xs := rfl
theorem s_normV_sl (t : Nat) (g : Nat) (lo : Nat) (n : Nat) : normV (.sl t g lo n) = (.sl t g lo n) := rfl
theorem s_normV_agg (cs : List AVal) : normV (.agg cs) = .agg (cs.map norm1) := rfl
theorem s_normV_tup (vs : List AVal) : normV (.tup vs) = (.tup vs) := rfl
theorem s_normV_fn (f : Nat) (caps : List AVal) : normV (.fn f caps) = (.fn f caps) := rfl
theorem s_normV_nilm  : normV (.nilm) = (.nilm) := rfl
theorem s_normV_map (t : Nat) : normV (.map t) = (.map t) := rfl
theorem s_normV_nili  : normV (.nili) = (.nili) := rfl
theorem s_normV_iface (t : Nat) (x : AVal) : normV (.iface t x) = (.iface t x) := rfl
theorem s_normV_pan (x : AVal) : normV (.pan x) = (.pan x) := rfl
theorem s_cells_top  : AVal.cells (.top) = [(.top)] := rfl
theorem s_cells_any  : AVal.cells (.any) = [(.any)] := rfl
theorem s_cells_int (k : IntKind) (n : Int) : AVal.cells (.int k n) = [(.int k n)] := rfl
theorem s_cells_bool (b : Bool) : AVal.cells (.bool b) = [(.bool b)] := rfl
theorem s_cells_str (l : List UInt8) : AVal.cells (.str l) = [(.str l)] := rfl
theorem s_cells_nilp  : AVal.cells (.nilp) = [(.nilp)] := rfl
theorem s_cells_ref (t : Nat) (o : Nat) : AVal.cells (.ref t o) = [(.ref t o)] := rfl
theorem s_cells_eref (t : Nat) (g : Nat) (i : Nat) (o : Nat) : AVal.cells (.eref t g i o) = [(.eref t g i o)] := rfl
theorem s_cells_iptr (cs : List AVal) (o : Nat) : AVal.cells (.iptr cs o) = [(.iptr cs o)] := rfl
theorem s_cells_lst (x : Bool) (xs : List AVal) : AVal.cells (.lst x xs) = [(.lst x xs)] := rfl
theorem s_cells_sl (t : Nat) (g : Nat) (lo : Nat) (n : Nat) : AVal.cells (.sl t g lo n) = [(.sl t g lo n)] := rfl
theorem s_cells_agg (cs : List AVal) : AVal.cells (.agg cs) = cs := rfl
theorem s_cells_tup (vs : List AVal) : AVal.cells (.tup vs) = [(.tup vs)] := rfl
theorem s_cells_fn (f : Nat) (caps : List AVal) : AVal.cells (.fn f caps) = [(.fn f caps)] := rfl
theorem s_cells_nilm  : AVal.cells (.nilm) = [(.nilm)] := rfl
theorem s_cells_map (t : Nat) : AVal.cells (.map t) = [(.map t)] := rfl
theorem s_cells_nili  : AVal.cells (.nili) = [(.nili)] := rfl
theorem s_cells_iface (t : Nat) (x : AVal) : AVal.cells (.iface t x) = [(.iface t x)] := rfl
theorem s_cells_pan (x : AVal) : AVal.cells (.pan x) = [(.pan x)] := rfl
theorem s_valOf_top  : valOf (.top) = (.top) := rfl
theorem s_valOf_any  : valOf (.any) = (.any) := rfl
theorem s_valOf_int (k : IntKind) (n : Int) : valOf (.int k n) = (.int k n) := rfl
theorem s_valOf_bool (b : Bool) : valOf (.bool b) = (.bool b) := rfl
theorem s_valOf_str (l : List UInt8) : valOf (.str l) = (.str l) := rfl
theorem s_valOf_nilp  : valOf (.nilp) = (.nilp) := rfl
theorem s_valOf_ref (t : Nat) (o : Nat) : valOf (.ref t o) = (.ref t o) := rfl
theorem s_valOf_eref (t : Nat) (g : Nat) (i : Nat) (o : Nat) : valOf (.eref t g i o) = (.eref t g i o) := rfl
theorem s_valOf_iptr (cs : List AVal) (o : Nat) : valOf (.iptr cs o) = (.iptr cs o) := rfl
theorem s_valOf_lst (x : Bool) (xs : List AVal) : valOf (.lst x xs) = (.lst x xs) := rfl
theorem s_valOf_sl (t : Nat) (g : Nat) (lo : Nat) (n : Nat) : valOf (.sl t g lo n) = (.sl t g lo n) := rfl
theorem s_valOf_agg (cs : List AVal) : valOf (.agg cs) = (.agg cs) := rfl
theorem s_valOf_tup (vs : List AVal) : valOf (.tup vs) = (.tup vs) := rfl
theorem s_valOf_fn (f : Nat) (caps : List AVal) : valOf (.fn f caps) = (.fn f caps) := rfl
theorem s_valOf_nilm  : valOf (.nilm) = (.nilm) := rfl
theorem s_valOf_map (t : Nat) : valOf (.map t) = (.map t) := rfl
theorem s_valOf_nili  : valOf (.nili) = (.nili) := rfl
theorem s_valOf_iface (t : Nat) (x : AVal) : valOf (.iface t x) = (.iface t x) := rfl
theorem s_valOf_pan (x : AVal) : valOf (.pan x) = x := rfl
theorem s_kindA_top  : kindA (.top) = 4 := rfl
theorem s_kindA_any  : kindA (.any) = 4 := rfl
theorem s_kindA_int (k : IntKind) (n : Int) : kindA (.int k n) = 0 := rfl
theorem s_kindA_bool (b : Bool) : kindA (.bool b) = 1 := rfl
theorem s_kindA_str (l : List UInt8) : kindA (.str l) = 2 := rfl
theorem s_kindA_nilp  : kindA (.nilp) = 4 := rfl
theorem s_kindA_ref (t : Nat) (o : Nat) : kindA (.ref t o) = 4 := rfl
theorem s_kindA_eref (t : Nat) (g : Nat) (i : Nat) (o : Nat) : kindA (.eref t g i o) = 4 := rfl
theorem s_kindA_iptr (cs : List AVal) (o : Nat) : kindA (.iptr cs o) = 4 := rfl
theorem s_kindA_lst (x : Bool) (xs : List AVal) : kindA (.lst x xs) = 4 := rfl
theorem s_kindA_sl (t : Nat) (g : Nat) (lo : Nat) (n : Nat) : kindA (.sl t g lo n) = 4 := rfl
theorem s_kindA_agg (cs : List AVal) : kindA (.agg cs) = 4 := rfl
theorem s_kindA_tup (vs : List AVal) : kindA (.tup vs) = 4 := rfl
theorem s_kindA_fn (f : Nat) (caps : List AVal) : kindA (.fn f caps) = 4 := rfl
theorem s_kindA_nilm  : kindA (.nilm) = 4 := rfl
theorem s_kindA_map (t : Nat) : kindA (.map t) = 4 := rfl
theorem s_kindA_nili  : kindA (.nili) = 4 := rfl
theorem s_kindA_iface (t : Nat) (x : AVal) : kindA (.iface t x) = 4 := rfl
theorem s_kindA_pan (x : AVal) : kindA (.pan x) = 4 := rfl
theorem s_refsV_top  : refsV (.top) = [] := rfl
theorem s_refsV_any  : refsV (.any) = [] := rfl
theorem s_refsV_int (k : IntKind) (n : Int) : refsV (.int k n) = [] := rfl
theorem s_refsV_bool (b : Bool) : refsV (.bool b) = [] := rfl
theorem s_refsV_str (l : List UInt8) : refsV (.str l) = [] := rfl
theorem s_refsV_nilp  : refsV (.nilp) = [] := rfl
theorem s_refsV_ref (t : Nat) (o : Nat) : refsV (.ref t o) = [t] := rfl
theorem s_refsV_eref (t : Nat) (g : Nat) (i : Nat) (o : Nat) : refsV (.eref t g i o) = [t] := rfl
theorem s_refsV_iptr (cs : List AVal) (o : Nat) : refsV (.iptr cs o) = [] := rfl
theorem s_refsV_lst (x : Bool) (xs : List AVal) : refsV (.lst x xs) = [] := rfl
theorem s_refsV_sl (t : Nat) (g : Nat) (lo : Nat) (n : Nat) : refsV (.sl t g lo n) = [t] := rfl
theorem s_refsV_agg (cs : List AVal) : refsV (.agg cs) = refsL cs := rfl
theorem s_refsV_tup (vs : List AVal) : refsV (.tup vs) = refsL vs := rfl
theorem s_refsV_fn (f : Nat) (caps : List AVal) : refsV (.fn f caps) = refsL caps := rfl
theorem s_refsV_nilm  : refsV (.nilm) = [] := rfl
theorem s_refsV_map (t : Nat) : refsV (.map t) = [t] := rfl
theorem s_refsV_nili  : refsV (.nili) = [] := rfl
theorem s_refsV_iface (t : Nat) (x : AVal) : refsV (.iface t x) = refsV x := rfl
theorem s_refsV_pan (x : AVal) : refsV (.pan x) = refsV x := rfl
theorem s_renV_top  : renV ρ (.top) = (.top) := rfl
theorem s_renV_any  : renV ρ (.any) = (.any) := rfl
theorem s_renV_int (k : IntKind) (n : Int) : renV ρ (.int k n) = (.int k n) := rfl
theorem s_renV_bool (b : Bool) : renV ρ (.bool b) = (.bool b) := rfl
theorem s_renV_str (l : List UInt8) : renV ρ (.str l) = (.str l) := rfl
theorem s_renV_nilp  : renV ρ (.nilp) = (.nilp) := rfl
theorem s_renV_iptr (cs : List AVal) (o : Nat) : renV ρ (.iptr cs o) = (.iptr cs o) := rfl
theorem s_renV_lst (x : Bool) (xs : List AVal) : renV ρ (.lst x xs) = (.lst x xs) := rfl
theorem s_renV_agg (cs : List AVal) : renV ρ (.agg cs) = .agg (renL ρ cs) := rfl
theorem s_renV_tup (vs : List AVal) : renV ρ (.tup vs) = .tup (renL ρ vs) := rfl
theorem s_renV_fn (f : Nat) (caps : List AVal) : renV ρ (.fn f caps) = .fn f (renL ρ caps) := rfl
theorem s_renV_nilm  : renV ρ (.nilm) = (.nilm) := rfl
theorem s_renV_nili  : renV ρ (.nili) = (.nili) := rfl
theorem s_renV_iface (t : Nat) (x : AVal) : renV ρ (.iface t x) = .iface t (renV ρ x) := rfl
theorem s_renV_pan (x : AVal) : renV ρ (.pan x) = .pan (renV ρ x) := rfl
theorem s_plain1_fn (f : Nat) : plain1 (.fn f []) = true := rfl
theorem s_plainV_fn (f : Nat) : plainV (.fn f []) = true := rfl
theorem s_flatA_pan (t : Nat) (x : AVal) : flatA (.pan (.iface t x)) = flat1 x := rfl
theorem s_regN_some (live : List Nat) (tm : Tms) : regN live (some (tm, σ, none)) = some (.normal, keepL live tm, σ) := rfl
theorem s_regN_pan (live : List Nat) (tm : Tms) (x : AVal) : regN live (some (tm, σ, some x)) = some (.panic x, [], σ) := rfl
theorem s_regN_none (live : List Nat) : regN live none = none := rfl
theorem s_renV_ref (t o : Nat) : renV ρ (.ref t o) = (match ρ t 0 with | some (t', 0) => .ref t' o | _ => .any) := rfl
theorem s_renV_map (t : Nat) : renV ρ (.map t) = (match ρ t 0 with | some (t', 0) => .map t' | _ => .any) := rfl
theorem s_renV_sl (t g lo n : Nat) : renV ρ (.sl t g lo n) = (match ρ t g with | some (t', g') => .sl t' g' lo n | none => .any) := rfl
theorem s_renV_eref (t g i o : Nat) : renV ρ (.eref t g i o) = (match ρ t g with | some (t', g') => .eref t' g' i o | none => .any) := rfl
theorem s_refsL_nil : refsL [] = [] := rfl
theorem s_refsL_cons (x : AVal) (xs : List AVal) : refsL (x :: xs) = refsV x ++ refsL xs := rfl
theorem s_renL_nil : renL ρ [] = [] := rfl
theorem s_renL_cons (x : AVal) (xs : List AVal) : renL ρ (x :: xs) = renV ρ x :: renL ρ xs := rfl
end
end Go.Proofs.YtaaflagbhneakaaDoor
