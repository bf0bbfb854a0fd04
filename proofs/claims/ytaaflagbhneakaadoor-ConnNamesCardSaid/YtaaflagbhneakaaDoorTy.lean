/- The program's data as trees. -/
import Derived.Test.YtaaflagbhneakaaDoorAbsOpen
import Derived.Test.YtaaflagbhneakaaDoorAbsX4
import Derived.Test.YtaaflagbhneakaaDoorAbsX4
namespace Go.Proofs.YtaaflagbhneakaaDoor
set_option linter.unusedSimpArgs false
set_option linter.unusedVariables false
section
variable (c : Prop) [Decidable c]
theorem ite_exn (t1 t2 : Tms) (σ1 σ2 : AHeap) : (if c then some (AExit.normal, t1, σ1) else some (AExit.normal, t2, σ2)) = some (AExit.normal, (if c then t1 else t2), (if c then σ1 else σ2)) := by split <;> rfl
theorem ite_exr (t1 t2 : Tms) (σ1 σ2 : AHeap) : (if c then some (AExit.ret, t1, σ1) else some (AExit.ret, t2, σ2)) = some (AExit.ret, (if c then t1 else t2), (if c then σ1 else σ2)) := by split <;> rfl
theorem ite_exg (t1 t2 : Tms) (σ1 σ2 : AHeap) : (if c then some (t1, σ1, (none : Option AVal)) else some (t2, σ2, none)) = some ((if c then t1 else t2), (if c then σ1 else σ2), none) := by split <;> rfl
theorem ite_slot (n : Nat) (a b : AVal) : (if c then (n, a) else (n, b)) = (n, if c then a else b) := by split <;> rfl
theorem ite_val (a b : AVal) (σ1 σ2 : AHeap) : (if c then some (a, σ1) else some (b, σ2)) = some ((if c then a else b), (if c then σ1 else σ2)) := by split <;> rfl
theorem ite_vcl (a b : AVal) (σ1 σ2 : AHeap) (x y : Cls) : (if c then some (a, σ1, x) else some (b, σ2, y)) = some ((if c then a else b), (if c then σ1 else σ2), if c then x else y) := by split <;> rfl
end
theorem ite_tf {α : Type} (p : Bool) (x y z : α) : (if p = true then x else (if p = false then y else z)) = if p = true then x else y := by cases p <;> rfl
theorem ite_ft {α : Type} (p : Bool) (x y z : α) : (if p = false then x else (if p = true then y else z)) = if p = false then x else y := by cases p <;> rfl
theorem ite_tft {α : Type} (p : Bool) (x y z : α) : (if p = true then (if p = false then x else y) else z) = if p = true then y else z := by cases p <;> rfl
theorem ite_ftf {α : Type} (p : Bool) (x y z : α) : (if p = false then (if p = true then x else y) else z) = if p = false then y else z := by cases p <;> rfl
/-! ### the check of an open order -/
theorem chkA_nil (ops : List AOp) (b : Nat) (cs : List Cls) : chkA ops b [] cs = true := rfl
theorem chkA_cons (ops : List AOp) (b : Nat) (p : Nat × Nat) (l : List (Nat × Nat)) (cs : List Cls) : chkA ops b (p :: l) cs = (pairFree (ops.getD p.1 default) (ops.getD p.2 default) (cs.getD p.1 {}) (cs.getD p.2 {}) (b + sitesOf (ops.take p.1)) && chkA ops b l cs) := by
  simp only [chkA, List.all_cons]
theorem pairFree_eq (oj oi : AOp) (cj ci : Cls) (sj : Nat) : pairFree oj oi cj ci sj = (emptyOp oj cj || emptyOp oi ci || (noWr cj && noWr ci && (nsite oj.ins == 0 || !ci.rd.contains sj))) := rfl
theorem emptyOp_eq (o : AOp) (rd wr : List Nat) (any : Bool) : emptyOp o ⟨rd, wr, any⟩ = (nsite o.ins == 0 && rd.isEmpty && wr.isEmpty && !any) := rfl
theorem noWr_eq (rd wr : List Nat) (any : Bool) : noWr ⟨rd, wr, any⟩ = (wr.isEmpty && !any) := rfl
/-! ### elements of rows -/
theorem drop_at {α : Type} {l : List α} {i : Nat} {x : α} {r : List α} (h : l.drop i = x :: r) : l[i]? = some x ∧ l.drop (i + 1) = r ∧ i < l.length := by
  have h1 : i < l.length := by
    rcases Nat.lt_or_ge i l.length with h1 | h1
    · exact h1
    · rw [List.drop_eq_nil_of_le h1] at h; cases h
  rw [List.drop_eq_getElem_cons h1] at h
  injection h with h2 h3
  exact ⟨by rw [List.getElem?_eq_getElem h1, h2], h3, h1⟩
theorem drop_nil {α : Type} {l : List α} {i : Nat} (h : l.drop i = []) : ¬ (i : Int) < l.length := by
  have := List.drop_eq_nil_iff.1 h; omega
theorem iad {α : Type} {l : List α} {i : Nat} {x : α} (h : l[i]? = some x) (f : α → AVal) {k : Nat} (hk : (f x).cells.length = k) (σ : AHeap) (n : Bool) (kk : IntKind) : iaddrA σ k (.lst n (l.map f)) (.int kk (i : Int)) = some (.iptr (f x).cells 0, σ, {}) := by
  have h0 : (0 : Int) ≤ (i : Int) := Int.natCast_nonneg i
  unfold iaddrA
  simp only [h0, if_true, Int.toNat_natCast, List.getElem?_map, h, Option.map_some, hk]
theorem wrap_nat {n : Int} (h0 : -9223372036854775808 ≤ n) (h : n ≤ 9223372036854775807) : IntKind.i64.wrap n = n := by
  rw [IntKind.wrap_i64]; omega
theorem len_eq {α β : Type} {a : List α} {b : List β} (h : a.length = b.length) : ((a.length : Int) != (b.length : Int)) = false := by simp [h]
theorem len_ne {α β : Type} {a : List α} {b : List β} (h : a.length ≠ b.length) : ((a.length : Int) != (b.length : Int)) = true := by
  simp only [bne_iff_ne, ne_eq]; omega
theorem beq_len {α : Type} [BEq α] [LawfulBEq α] {a b : List α} (h : a.length ≠ b.length) : (a == b) = false := by
  simp only [beq_eq_false_iff_ne, ne_eq]; rintro rfl; exact h rfl
theorem wrap_succ {i n : Nat} (h : (i : Int) < n) (hn : n ≤ 9223372036854775807) : IntKind.i64.wrap ((i : Int) + 1) = ((i + 1 : Nat) : Int) := by
  rw [wrap_nat (by omega) (by omega)]; rfl
/-! ### calls of plain things -/
theorem call_flat {O : Oracle} {byref : Nat → Bool} {f : Nat} {args : List AVal} {r : AVal} (h : O f args [] = some (r, [])) (hb : byref f = false) (hp : args.all plainV = true) (hn : args.map normV = args) (hv : resV 0 (some (r, [])) = some (r, [])) (hr : ∀ site, renV (rhoBack [] [] site) r = r) (σ : AHeap) (site own : Nat) (view : Bool) : callG O byref σ site f own view args = some (r, σ, {}) := by
  rw [callG_plain hb hp, hn, h]
  have : askO view 0 (some (r, [])) = some (r, []) := by
    unfold askO
    split
    · exact hv
    · rfl
  rw [this, backG_plain _ _ _ _ (hr site)]
theorem slice_hi {α : Type} (σ : AHeap) (k : Nat) (l : List α) (f : α → AVal) (kk : IntKind) (n : Int) (h0 : 0 ≤ n) (h : n ≤ (l.length : Int)) : sliceA σ k (.lst false (l.map f)) none (some (.int kk n)) none = some (.lst false ((l.take n.toNat).map f), σ, {}) := by
  simp only [sliceA, optB, boundA, List.length_map, h0, h, and_self, if_true, beq_self_eq_true, Bool.true_or, Option.isSome_none, Bool.false_eq_true, if_false, Bool.false_and, List.drop_zero, List.map_take]
abbrev Bytes := List UInt8
def bytesV (b : Bytes) : AVal := .lst false (b.map byteV)
structure PropD where
  id : Int
  num : Int
  text : Bytes
  pair : Bytes
  data : Bytes
  deriving DecidableEq
def propC (p : PropD) : List AVal := [.int .i64 p.id, .int .i64 p.num, .str p.text, .str p.pair, bytesV p.data]
def propV (p : PropD) : AVal := .agg (propC p)
def propsV (l : List PropD) : AVal := .lst false (l.map propV)
def intsV (l : List Int) : AVal := .lst false (l.map (.int .i64 ·))
theorem bytesOf_map (l : Bytes) : bytesOf (l.map byteV) = some l := by
  induction l with
  | nil => rfl
  | cons b l ih =>
    simp only [List.map_cons, bytesOf, ih, byteV, byteOf, Int.toNat_natCast, UInt8.ofNat_toNat]
end Go.Proofs.YtaaflagbhneakaaDoor
