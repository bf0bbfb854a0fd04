/- ABS: results without blocks. -/
import Derived.Test.YtaaflagbhneakaaDoorAbsX2
import Derived.Test.YtaaflagbhneakaaDoorAbsEv
namespace Go.Proofs.YtaaflagbhneakaaDoor
set_option linter.unusedSimpArgs false
set_option linter.unusedVariables false
mutual
/-- no block is named -/
def noRef : AVal → Bool
  | .ref _ _ => false
  | .eref _ _ _ _ => false
  | .sl _ _ _ _ => false
  | .map _ => false
  | .agg cs => noRefL cs
  | .tup vs => noRefL vs
  | .fn _ vs => noRefL vs
  | .iface _ x => noRef x
  | .pan x => noRef x
  | .top => true
  | .any => true
  | .int _ _ => true
  | .bool _ => true
  | .str _ => true
  | .nilp => true
  | .nilm => true
  | .nili => true
  | .iptr _ _ => true
  | .lst _ _ => true
def noRefL : List AVal → Bool
  | [] => true
  | x :: xs => noRef x && noRefL xs
end
mutual
theorem noRef_spec (ρ : Rho) : ∀ (x : AVal), noRef x = true → renV ρ x = x ∧ refsV x = []
  | .ref _ _, h => by simp [noRef] at h
  | .eref _ _ _ _, h => by simp [noRef] at h
  | .sl _ _ _ _, h => by simp [noRef] at h
  | .map _, h => by simp [noRef] at h
  | .agg cs, h => by have := noRefL_spec ρ cs (by simpa only [noRef] using h); exact ⟨by simp only [renV, this.1], by simp only [refsV, this.2]⟩
  | .tup cs, h => by have := noRefL_spec ρ cs (by simpa only [noRef] using h); exact ⟨by simp only [renV, this.1], by simp only [refsV, this.2]⟩
  | .fn f cs, h => by have := noRefL_spec ρ cs (by simpa only [noRef] using h); exact ⟨by simp only [renV, this.1], by simp only [refsV, this.2]⟩
  | .iface t x, h => by have := noRef_spec ρ x (by simpa only [noRef] using h); exact ⟨by simp only [renV, this.1], by simp only [refsV, this.2]⟩
  | .pan x, h => by have := noRef_spec ρ x (by simpa only [noRef] using h); exact ⟨by simp only [renV, this.1], by simp only [refsV, this.2]⟩
  | .top, _ => ⟨rfl, rfl⟩
  | .any, _ => ⟨rfl, rfl⟩
  | .int _ _, _ => ⟨rfl, rfl⟩
  | .bool _, _ => ⟨rfl, rfl⟩
  | .str _, _ => ⟨rfl, rfl⟩
  | .nilp, _ => ⟨rfl, rfl⟩
  | .nilm, _ => ⟨rfl, rfl⟩
  | .nili, _ => ⟨rfl, rfl⟩
  | .iptr _ _, _ => ⟨rfl, rfl⟩
  | .lst _ _, _ => ⟨rfl, rfl⟩
theorem noRefL_spec (ρ : Rho) : ∀ (xs : List AVal), noRefL xs = true → renL ρ xs = xs ∧ refsL xs = []
  | [], _ => ⟨rfl, rfl⟩
  | x :: xs, h => by
    simp only [noRefL, Bool.and_eq_true] at h
    have h1 := noRef_spec ρ x h.1
    have h2 := noRefL_spec ρ xs h.2
    exact ⟨by simp only [renL, h1.1, h2.1], by simp only [refsL, h1.2, h2.2, List.append_nil]⟩
end
theorem out_tree {σ : AHeap} {r : AVal} (h : noRef r = true) : outA 0 σ r = some (r, []) := by
  have h1 := noRef_spec (rhoOf σ 0 []) r h
  have hids : gcIds 0 [r] σ = [] := by
    unfold gcIds
    simp only [refsL, h1.2, List.append_nil, List.range_zero, List.flatMap_nil]
    rfl
  unfold outA gcA
  simp only [hids, renL, heapOf, h1.1]
/-- a result as trees -/
def normR : AVal → AVal
  | .tup vs => .tup (vs.map normV)
  | x => normV x
def plainR : AVal → Bool
  | .tup vs => vs.all plainV
  | x => plainV x
def nofn1 : AVal → Bool
  | .fn _ _ => false
  | _ => true
theorem plain1_view {σ : AHeap} {x : AVal} (h : plain1 x = true) (hn : nofn1 x = true) : viewA1 σ x = some (norm1 x, []) := by
  cases x <;> first | (simp [plain1] at h; done) | (simp [nofn1] at hn; done) | rfl
def nofnV : AVal → Bool
  | .agg cs => cs.all nofn1
  | x => nofn1 x
theorem plains_view {σ : AHeap} : ∀ {xs : List AVal}, xs.all plain1 = true → xs.all nofn1 = true → viewsA σ xs = some (xs.map norm1, [])
  | [], _, _ => rfl
  | x :: xs, h, hn => by
    simp only [List.all_cons, Bool.and_eq_true] at h hn
    simp only [viewsA, plain1_view h.1 hn.1, plains_view h.2 hn.2, List.map_cons, List.append_nil]
theorem viewA_one {σ : AHeap} {x : AVal} (h : ∀ cs, x ≠ .agg cs) : viewA σ x = viewA1 σ x ∧ nofnV x = nofn1 x := by
  cases x <;> first | exact ⟨rfl, rfl⟩ | exact absurd rfl (h _)
theorem plainV_view {σ : AHeap} {x : AVal} (h : plainV x = true) (hn : nofnV x = true) : viewA σ x = some (normV x, []) := by
  rcases agg_or x with ⟨cs, rfl⟩ | hne
  · simp only [plainV] at h
    simp only [nofnV] at hn
    simp only [viewA, plains_view h hn, normV]
  · rw [(plainV_one hne).1] at h
    rw [(viewA_one (σ := []) hne).2] at hn
    rw [(viewA_one hne).1, (plainV_one hne).2]
    exact plain1_view h hn
theorem plainVs_view {σ : AHeap} : ∀ {xs : List AVal}, xs.all plainV = true → xs.all nofnV = true → viewAs σ xs = some (xs.map normV, [])
  | [], _, _ => rfl
  | x :: xs, h, hn => by
    simp only [List.all_cons, Bool.and_eq_true] at h hn
    simp only [viewAs, plainV_view h.1 hn.1, plainVs_view h.2 hn.2, List.map_cons, List.append_nil]
def nofnR : AVal → Bool
  | .tup vs => vs.all nofnV
  | x => nofnV x
theorem tup_or (x : AVal) : (∃ vs, x = .tup vs) ∨ ∀ vs, x ≠ .tup vs := by
  cases x <;> first | exact Or.inl ⟨_, rfl⟩ | (right; intro cs; simp)
theorem plainR_view {σ : AHeap} {x : AVal} (h : plainR x = true) (hn : nofnR x = true) : viewR σ x = some (normR x, []) := by
  rcases tup_or x with ⟨vs, rfl⟩ | hne
  · simp only [plainR] at h
    simp only [nofnR] at hn
    simp only [viewR, plainVs_view h hn, normR]
  · have e : plainR x = plainV x ∧ nofnR x = nofnV x ∧ normR x = normV x ∧ viewR σ x = viewA σ x := by
      cases x <;> first | exact ⟨rfl, rfl, rfl, rfl⟩ | exact absurd rfl (hne _)
    rw [e.1] at h; rw [e.2.1] at hn
    rw [e.2.2.1, e.2.2.2]
    exact plainV_view h hn
theorem norm1_noRef {x : AVal} (h : plain1 x = true) : noRef (norm1 x) = true := by
  cases x
  case fn f cs => cases cs <;> simp [plain1] at h; rfl
  all_goals first | (simp [plain1] at h; done) | rfl
theorem norms_noRef : ∀ {xs : List AVal}, xs.all plain1 = true → noRefL (xs.map norm1) = true
  | [], _ => rfl
  | x :: xs, h => by
    simp only [List.all_cons, Bool.and_eq_true] at h
    simp only [List.map_cons, noRefL, norm1_noRef h.1, norms_noRef h.2, Bool.and_self]
theorem normV_noRef {x : AVal} (h : plainV x = true) : noRef (normV x) = true := by
  rcases agg_or x with ⟨cs, rfl⟩ | hne
  · simp only [plainV] at h
    simp only [normV, noRef]; exact norms_noRef h
  · rw [(plainV_one hne).1] at h
    rw [(plainV_one hne).2]; exact norm1_noRef h
theorem normVs_noRef : ∀ {xs : List AVal}, xs.all plainV = true → noRefL (xs.map normV) = true
  | [], _ => rfl
  | x :: xs, h => by
    simp only [List.all_cons, Bool.and_eq_true] at h
    simp only [List.map_cons, noRefL, normV_noRef h.1, normVs_noRef h.2, Bool.and_self]
theorem normR_noRef {x : AVal} (h : plainR x = true) : noRef (normR x) = true := by
  rcases tup_or x with ⟨vs, rfl⟩ | hne
  · simp only [plainR] at h
    simp only [normR, noRef]; exact normVs_noRef h
  · have e : plainR x = plainV x ∧ normR x = normV x := by
      cases x <;> first | exact ⟨rfl, rfl⟩ | exact absurd rfl (hne _)
    rw [e.1] at h; rw [e.2]; exact normV_noRef h
theorem resV_plain {σ : AHeap} {r : AVal} (h : plainR r = true) (hn : nofnR r = true) : resV 0 (some (r, σ)) = some (normR r, []) := by
  have hp : ∀ x, r ≠ .pan x := by rintro x rfl; simp [plainR, plainV, plain1] at h
  have e : resV 0 (some (r, σ)) = (match viewR σ r with
    | some (r', ts) => match gcA 0 [r'] (freezeA σ ts) with
      | ([r''], σ') => some (r'', σ')
      | _ => none
    | none => none) := by
    cases r <;> first | rfl | exact absurd rfl (hp _)
  rw [e, plainR_view h hn]
  exact out_tree (normR_noRef h)
/-- a result that is an own row -/
theorem resV_row {k g n : Nat} {xs : List AVal} {σ : AHeap} {t : Nat} (hs : σ[t]? = some (.row g k xs)) (hn : n ≤ xs.length) : resV 0 (some (.sl t g 0 n, σ)) = some (.lst false (xs.take n), []) := by
  have hv : viewR σ (.sl t g 0 n) = some (.lst false (xs.take n), [t]) := by
    simp only [viewR, viewA, viewA1, elemsA, hs, Nat.zero_add, hn, and_self, if_true, List.drop_zero]
  have e : resV 0 (some (.sl t g 0 n, σ)) = (match viewR σ (.sl t g 0 n) with
    | some (r', ts) => match gcA 0 [r'] (freezeA σ ts) with
      | ([r''], σ') => some (r'', σ')
      | _ => none
    | none => none) := rfl
  rw [e, hv]
  exact out_tree rfl
theorem fin_ret {m : Nat} {fn : AFunc} {tm : Tms} {σ : AHeap} : finA m fn (some (.ret, tm, σ)) = match resA tm σ fn.res with
    | some r => outA m σ r
    | none => none := rfl
theorem fin_normal {m : Nat} {fn : AFunc} {tm : Tms} {σ : AHeap} : finA m fn (some (.normal, tm, σ)) = match resA tm σ fn.res with
    | some r => outA m σ r
    | none => none := rfl
theorem fin_panic {m : Nat} {fn : AFunc} {tm : Tms} {σ : AHeap} {x : AVal} : finA m fn (some (.panic x, tm, σ)) = outA m σ (.pan x) := rfl
theorem s_noRef_top  : noRef (.top) = true := rfl
theorem s_noRef_any  : noRef (.any) = true := rfl
theorem s_noRef_int (k : IntKind) (n : Int) : noRef (.int k n) = true := rfl
theorem s_noRef_bool (b : Bool) : noRef (.bool b) = true := rfl
theorem s_noRef_str (l : List UInt8) : noRef (.str l) = true := rfl
theorem s_noRef_nilp  : noRef (.nilp) = true := rfl
theorem s_noRef_ref (t : Nat) (o : Nat) : noRef (.ref t o) = false := rfl
theorem s_noRef_eref (t : Nat) (g : Nat) (i : Nat) (o : Nat) : noRef (.eref t g i o) = false := rfl
theorem s_noRef_iptr (cs : List AVal) (o : Nat) : noRef (.iptr cs o) = true := rfl
theorem s_noRef_lst (x : Bool) (xs : List AVal) : noRef (.lst x xs) = true := rfl
theorem s_noRef_sl (t : Nat) (g : Nat) (lo : Nat) (n : Nat) : noRef (.sl t g lo n) = false := rfl
theorem s_noRef_agg (cs : List AVal) : noRef (.agg cs) = noRefL cs := rfl
theorem s_noRef_tup (vs : List AVal) : noRef (.tup vs) = noRefL vs := rfl
theorem s_noRef_fn (f : Nat) (caps : List AVal) : noRef (.fn f caps) = noRefL caps := rfl
theorem s_noRef_nilm  : noRef (.nilm) = true := rfl
theorem s_noRef_map (t : Nat) : noRef (.map t) = false := rfl
theorem s_noRef_nili  : noRef (.nili) = true := rfl
theorem s_noRef_iface (t : Nat) (x : AVal) : noRef (.iface t x) = noRef x := rfl
theorem s_noRef_pan (x : AVal) : noRef (.pan x) = noRef x := rfl
theorem s_nofn1_top  : nofn1 (.top) = true := rfl
theorem s_nofn1_any  : nofn1 (.any) = true := rfl
theorem s_nofn1_int (k : IntKind) (n : Int) : nofn1 (.int k n) = true := rfl
theorem s_nofn1_bool (b : Bool) : nofn1 (.bool b) = true := rfl
theorem s_nofn1_str (l : List UInt8) : nofn1 (.str l) = true := rfl
theorem s_nofn1_nilp  : nofn1 (.nilp) = true := rfl
theorem s_nofn1_ref (t : Nat) (o : Nat) : nofn1 (.ref t o) = true := rfl
theorem s_nofn1_eref (t : Nat) (g : Nat) (i : Nat) (o : Nat) : nofn1 (.eref t g i o) = true := rfl
theorem s_nofn1_iptr (cs : List AVal) (o : Nat) : nofn1 (.iptr cs o) = true := rfl
theorem s_nofn1_lst (x : Bool) (xs : List AVal) : nofn1 (.lst x xs) = true := rfl
theorem s_nofn1_sl (t : Nat) (g : Nat) (lo : Nat) (n : Nat) : nofn1 (.sl t g lo n) = true := rfl
theorem s_nofn1_agg (cs : List AVal) : nofn1 (.agg cs) = true := rfl
theorem s_nofn1_tup (vs : List AVal) : nofn1 (.tup vs) = true := rfl
theorem s_nofn1_fn (f : Nat) (caps : List AVal) : nofn1 (.fn f caps) = false := rfl
theorem s_nofn1_nilm  : nofn1 (.nilm) = true := rfl
theorem s_nofn1_map (t : Nat) : nofn1 (.map t) = true := rfl
theorem s_nofn1_nili  : nofn1 (.nili) = true := rfl
theorem s_nofn1_iface (t : Nat) (x : AVal) : nofn1 (.iface t x) = true := rfl
theorem s_nofn1_pan (x : AVal) : nofn1 (.pan x) = true := rfl
theorem s_nofnV_top  : nofnV (.top) = true := rfl
theorem s_nofnV_any  : nofnV (.any) = true := rfl
theorem s_nofnV_int (k : IntKind) (n : Int) : nofnV (.int k n) = true := rfl
theorem s_nofnV_bool (b : Bool) : nofnV (.bool b) = true := rfl
theorem s_nofnV_str (l : List UInt8) : nofnV (.str l) = true := rfl
theorem s_nofnV_nilp  : nofnV (.nilp) = true := rfl
theorem s_nofnV_ref (t : Nat) (o : Nat) : nofnV (.ref t o) = true := rfl
theorem s_nofnV_eref (t : Nat) (g : Nat) (i : Nat) (o : Nat) : nofnV (.eref t g i o) = true := rfl
theorem s_nofnV_iptr (cs : List AVal) (o : Nat) : nofnV (.iptr cs o) = true := rfl
theorem s_nofnV_lst (x : Bool) (xs : List AVal) : nofnV (.lst x xs) = true := rfl
theorem s_nofnV_sl (t : Nat) (g : Nat) (lo : Nat) (n : Nat) : nofnV (.sl t g lo n) = true := rfl
theorem s_nofnV_agg (cs : List AVal) : nofnV (.agg cs) = cs.all nofn1 := rfl
theorem s_nofnV_tup (vs : List AVal) : nofnV (.tup vs) = true := rfl
theorem s_nofnV_fn (f : Nat) (caps : List AVal) : nofnV (.fn f caps) = false := rfl
theorem s_nofnV_nilm  : nofnV (.nilm) = true := rfl
theorem s_nofnV_map (t : Nat) : nofnV (.map t) = true := rfl
theorem s_nofnV_nili  : nofnV (.nili) = true := rfl
theorem s_nofnV_iface (t : Nat) (x : AVal) : nofnV (.iface t x) = true := rfl
theorem s_nofnV_pan (x : AVal) : nofnV (.pan x) = true := rfl
theorem s_nofnR_top  : nofnR (.top) = true := rfl
theorem s_nofnR_any  : nofnR (.any) = true := rfl
theorem s_nofnR_int (k : IntKind) (n : Int) : nofnR (.int k n) = true := rfl
theorem s_nofnR_bool (b : Bool) : nofnR (.bool b) = true := rfl
theorem s_nofnR_str (l : List UInt8) : nofnR (.str l) = true := rfl
theorem s_nofnR_nilp  : nofnR (.nilp) = true := rfl
theorem s_nofnR_ref (t : Nat) (o : Nat) : nofnR (.ref t o) = true := rfl
theorem s_nofnR_eref (t : Nat) (g : Nat) (i : Nat) (o : Nat) : nofnR (.eref t g i o) = true := rfl
theorem s_nofnR_iptr (cs : List AVal) (o : Nat) : nofnR (.iptr cs o) = true := rfl
theorem s_nofnR_lst (x : Bool) (xs : List AVal) : nofnR (.lst x xs) = true := rfl
theorem s_nofnR_sl (t : Nat) (g : Nat) (lo : Nat) (n : Nat) : nofnR (.sl t g lo n) = true := rfl
theorem s_nofnR_agg (cs : List AVal) : nofnR (.agg cs) = cs.all nofn1 := rfl
theorem s_nofnR_tup (vs : List AVal) : nofnR (.tup vs) = vs.all nofnV := rfl
theorem s_nofnR_fn (f : Nat) (caps : List AVal) : nofnR (.fn f caps) = false := rfl
theorem s_nofnR_nilm  : nofnR (.nilm) = true := rfl
theorem s_nofnR_map (t : Nat) : nofnR (.map t) = true := rfl
theorem s_nofnR_nili  : nofnR (.nili) = true := rfl
theorem s_nofnR_iface (t : Nat) (x : AVal) : nofnR (.iface t x) = true := rfl
theorem s_nofnR_pan (x : AVal) : nofnR (.pan x) = true := rfl
theorem s_plainR_top  : plainR (.top) = false := rfl
theorem s_plainR_any  : plainR (.any) = false := rfl
theorem s_plainR_int (k : IntKind) (n : Int) : plainR (.int k n) = true := rfl
theorem s_plainR_bool (b : Bool) : plainR (.bool b) = true := rfl
theorem s_plainR_str (l : List UInt8) : plainR (.str l) = true := rfl
theorem s_plainR_nilp  : plainR (.nilp) = true := rfl
theorem s_plainR_ref (t : Nat) (o : Nat) : plainR (.ref t o) = false := rfl
theorem s_plainR_eref (t : Nat) (g : Nat) (i : Nat) (o : Nat) : plainR (.eref t g i o) = false := rfl
theorem s_plainR_iptr (cs : List AVal) (o : Nat) : plainR (.iptr cs o) = false := rfl
theorem s_plainR_lst (x : Bool) (xs : List AVal) : plainR (.lst x xs) = true := rfl
theorem s_plainR_sl (t : Nat) (g : Nat) (lo : Nat) (n : Nat) : plainR (.sl t g lo n) = false := rfl
theorem s_plainR_agg (cs : List AVal) : plainR (.agg cs) = cs.all plain1 := rfl
theorem s_plainR_tup (vs : List AVal) : plainR (.tup vs) = vs.all plainV := rfl
theorem s_plainR_nilm  : plainR (.nilm) = true := rfl
theorem s_plainR_map (t : Nat) : plainR (.map t) = false := rfl
theorem s_plainR_nili  : plainR (.nili) = true := rfl
theorem s_plainR_iface (t : Nat) (x : AVal) : plainR (.iface t x) = false := rfl
theorem s_plainR_pan (x : AVal) : plainR (.pan x) = false := rfl
theorem s_normR_top  : normR (.top) = (.top) := rfl
theorem s_normR_any  : normR (.any) = (.any) := rfl
theorem s_normR_int (k : IntKind) (n : Int) : normR (.int k n) = (.int k n) := rfl
theorem s_normR_bool (b : Bool) : normR (.bool b) = (.bool b) := rfl
theorem s_normR_str (l : List UInt8) : normR (.str l) = (.str l) := rfl
theorem s_normR_nilp  : normR (.nilp) = (.nilp) := rfl
theorem s_normR_ref (t : Nat) (o : Nat) : normR (.ref t o) = (.ref t o) := rfl
theorem s_normR_eref (t : Nat) (g : Nat) (i : Nat) (o : Nat) : normR (.eref t g i o) = (.eref t g i o) := rfl
theorem s_normR_iptr (cs : List AVal) (o : Nat) : normR (.iptr cs o) = (.iptr cs o) := rfl
theorem s_normR_lst (x : Bool) (xs : List AVal) : normR (.lst x xs) = .lst false xs := rfl
theorem s_normR_sl (t : Nat) (g : Nat) (lo : Nat) (n : Nat) : normR (.sl t g lo n) = (.sl t g lo n) := rfl
theorem s_normR_agg (cs : List AVal) : normR (.agg cs) = .agg (cs.map norm1) := rfl
theorem s_normR_tup (vs : List AVal) : normR (.tup vs) = .tup (vs.map normV) := rfl
theorem s_normR_fn (f : Nat) (caps : List AVal) : normR (.fn f caps) = (.fn f caps) := rfl
theorem s_normR_nilm  : normR (.nilm) = (.nilm) := rfl
theorem s_normR_map (t : Nat) : normR (.map t) = (.map t) := rfl
theorem s_normR_nili  : normR (.nili) = (.nili) := rfl
theorem s_normR_iface (t : Nat) (x : AVal) : normR (.iface t x) = (.iface t x) := rfl
theorem s_normR_pan (x : AVal) : normR (.pan x) = (.pan x) := rfl
theorem s_noRefL_nil : noRefL [] = true := rfl
theorem s_noRefL_cons (x : AVal) (xs : List AVal) : noRefL (x :: xs) = (noRef x && noRefL xs) := rfl
theorem s_plainR_fn (f : Nat) : plainR (.fn f []) = true := rfl
theorem s_if_and (p q : Bool) : (if p = true then q else false) = (p && q) := by cases p <;> rfl
theorem s_if_or (p q : Bool) : (if p = true then true else q) = (p || q) := by cases p <;> rfl
theorem s_if_nand (p q : Bool) : (if p = true then false else q) = (!p && q) := by cases p <;> rfl
theorem s_if_nor (p q : Bool) : (if p = true then q else true) = (!p || q) := by cases p <;> rfl
theorem s_if_fand (p q : Bool) : (if p = false then q else false) = (!p && q) := by cases p <;> rfl
theorem s_if_for (p q : Bool) : (if p = false then true else q) = (!p || q) := by cases p <;> rfl
theorem s_if_fnand (p q : Bool) : (if p = false then false else q) = (p && q) := by cases p <;> rfl
theorem s_if_fnor (p q : Bool) : (if p = false then q else true) = (p || q) := by cases p <;> rfl
section
def stripO (o : AOp) : AOp := ⟨o.dst, o.ins, o.guard, []⟩
def stripC : ACode → ACode
  | .region ops chk live => .region (ops.map stripO) chk live
  | .seq a b => .seq (stripC a) (stripC b)
  | .cond c a b => .cond c (stripC a) (stripC b)
  | .block id c => .block id (stripC c)
  | .loop live c => .loop live (stripC c)
  | .skip => .skip
  | .exit id => .exit id
  | .ret => .ret
  | .stuck => .stuck
def stripF (f : AFunc) : AFunc := ⟨f.res, stripC f.body⟩
section
variable {O : Oracle} {byref : Nat → Bool}
theorem step_strip (o : AOp) (s : Nat) (tm : Tms) (σ : AHeap) : stepA O byref (stripO o) s tm σ = stepA O byref o s tm σ := rfl
theorem ops_strip : ∀ (ops : List AOp) (s : Nat) (tm : Tms) (σ : AHeap), runOps O byref (ops.map stripO) s tm σ = runOps O byref ops s tm σ
  | [], _, _, _ => rfl
  | o :: os, s, tm, σ => by
    simp only [List.map_cons, runOps, step_strip]
    split
    · rfl
    · rfl
    · rename_i tm' σ' c _ _
      rw [show (stripO o).ins = o.ins from rfl, ops_strip os]
theorem sites_strip (ops : List AOp) : sitesOf (ops.map stripO) = sitesOf ops := by
  simp [sitesOf, stripO, Function.comp_def]
theorem getD_strip (ops : List AOp) (i : Nat) : ((ops.map stripO).getD i default).ins = (ops.getD i default).ins := by
  simp only [List.getD_eq_getElem?_getD, List.getElem?_map]
  cases ops[i]? <;> rfl
theorem chk_strip (ops : List AOp) (b : Nat) (l : List (Nat × Nat)) (cs : List Cls) : chkA (ops.map stripO) b l cs = chkA ops b l cs := by
  unfold chkA
  congr 1
  funext p
  unfold pairFree emptyOp
  rw [getD_strip, getD_strip, ← List.map_take, sites_strip]
theorem region_strip (ops : List AOp) (chk : Option (List (Nat × Nat))) (live : List Nat) (tm : Tms) (σ : AHeap) : runRegion O byref (ops.map stripO) chk live tm σ = runRegion O byref ops chk live tm σ := by
  unfold runRegion
  rw [ops_strip, sites_strip]
  cases runOps O byref ops σ.length tm (σ ++ List.replicate (sitesOf ops) .free) with
  | none => rfl
  | some q =>
    obtain ⟨tm', σ', cs, p⟩ := q
    cases p with
    | some x => rfl
    | none =>
      cases chk with
      | none => rfl
      | some l => simp only [regX, chk_strip]
theorem exec_strip (m n : Nat) : ∀ (c : ACode), execC O byref m n (stripC c) = execC O byref m n c
  | .region ops chk live => by funext tm σ; simp only [stripC, execC, region_strip]
  | .seq a b => by funext tm σ; simp only [stripC, execC, exec_strip m n a, exec_strip m n b]
  | .cond c a b => by funext tm σ; simp only [stripC, execC, exec_strip m n a, exec_strip m n b]
  | .block id c => by funext tm σ; simp only [stripC, execC, exec_strip m n c]
  | .loop live c => by funext tm σ; simp only [stripC, execC, exec_strip m n c]
  | .skip => rfl
  | .exit id => rfl
  | .ret => rfl
  | .stuck => rfl
end
theorem callA_strip (fs : Nat → Option AFunc) (prim : Prims) (byref : Nat → Bool) : ∀ n, callA (fun f => (fs f).map stripF) prim byref n = callA fs prim byref n
  | 0 => rfl
  | n + 1 => by
    funext f args σ
    simp only [callA, callA_strip fs prim byref n]
    cases prim f with
    | some g => rfl
    | none =>
      cases fs f with
      | none => rfl
      | some fn =>
        simp only [Option.map_some, stripF, exec_strip]
        rfl
theorem EV_strip (fs : Nat → Option AFunc) (prim : Prims) (byref : Nat → Bool) : EV (fun f => (fs f).map stripF) prim byref = EV fs prim byref := by
  funext f args σ
  apply opt_ext
  intro r
  rw [EV_some, EV_some]
  simp only [callA_strip]
end
end Go.Proofs.YtaaflagbhneakaaDoor
