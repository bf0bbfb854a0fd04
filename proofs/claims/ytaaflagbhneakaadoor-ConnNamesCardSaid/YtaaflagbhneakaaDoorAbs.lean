/- ABS: an interpreter of the loaded code over trees. Values: a slice that nobody writes is a list; what the run itself writes lies in a small heap of blocks. No world, no tape, no capacity. This text: data, the code as it is read, the interpreter. -/
import Derived.WalkKit
namespace Go.Proofs.YtaaflagbhneakaaDoor
set_option linter.unusedSimpArgs false
set_option linter.unusedVariables false

inductive AVal where
  | top
  | any
  | int (k : IntKind) (n : Int)
  | bool (b : Bool)
  | str (l : List UInt8)
  | nilp
  | ref (t o : Nat)
  | eref (t g i o : Nat)
  | iptr (cs : List AVal) (o : Nat)
  | lst (x : Bool) (xs : List AVal)
  | sl (t g lo n : Nat)
  | agg (cs : List AVal)
  | tup (vs : List AVal)
  | fn (f : Nat) (caps : List AVal)
  | nilm
  | map (t : Nat)
  | nili
  | iface (t : Nat) (x : AVal)
  | pan (x : AVal)
  deriving Inhabited

/-- a block: not there yet, a variable's cells, an own row (generation, cells of an element, elements), a row that is frozen, a map, a row whose cells may name blocks, an iterator over a string -/
inductive ABlk where
  | free
  | var (cs : List AVal)
  | row (g k : Nat) (xs : List AVal)
  | frow (g k : Nat) (xs : List AVal)
  | map (es : List (AVal × AVal))
  | rrow (g k : Nat) (xs : List AVal)
  | siter (l : List UInt8) (p : Nat)
  deriving Inhabited

abbrev AHeap := List ABlk

def AVal.cells : AVal → List AVal
  | .agg cs => cs
  | x => [x]

inductive Opd where
  | t (n : Nat)
  | c (v : AVal)
  deriving Inhabited

inductive CmpO where | eql | neq | lss | leq | gtr | geq
  deriving DecidableEq, Inhabited

inductive Ins where
  | mov (x : Opd)
  | pick (c a b : Opd)
  | alloc (zs : List AVal)
  | box (x : Opd)
  | build (zs : List AVal) (parts : List (Nat × Nat × Opd))
  | bslice (own : Bool) (k n : Nat) (z : AVal) (parts : List (Nat × Opd))
  | ld (k : Option Nat) (a : Opd)
  | st (k : Nat) (a v : Opd)
  | bin (op : BinOp) (x y : Opd)
  | un (op : UnOp) (x : Opd)
  | i2i (k : IntKind) (x : Opd)
  | same (x : Opd)
  | s2b (x : Opd)
  | b2s (x : Opd)
  | slice (k : Nat) (x : Opd) (lo hi mx : Option Opd)
  | sslice (x : Opd) (lo hi : Option Opd)
  | faddr (off : Nat) (x : Opd)
  | field (k : Option Nat) (off : Nat) (x : Opd)
  | iaddr (k : Nat) (x i : Opd)
  | aaddr (k n : Nat) (x i : Opd)
  | sindex (x i : Opd)
  | aindex (s : Option Nat) (k n : Nat) (x i : Opd)
  | ext (x : Opd) (i : Nat)
  | len (x : Opd)
  | slen (x : Opd)
  | app (k bytes : Nat) (z : AVal) (x y : Opd)
  | mkslice (k bytes : Nat) (z : AVal) (l c : Opd)
  | mm (max : Bool) (xs : List Opd)
  | nilchk (x : Opd)
  | s2s (x : Opd)
  | beq (neg : Bool) (x y : Opd)
  | peq (neg : Bool) (x y : Opd)
  | eqv (neg : Bool) (ks : List Nat) (x y : Opd)
  | ieq (neg : Bool) (x y : Opd)
  | mki (t : Nat) (x : Opd)
  | panic (x : Opd)
  | call (f own : Nat) (view : Bool) (args : List Opd)
  | callv (x : Opd) (args : List Opd)
  | mkfn (f : Nat) (caps : List Opd)
  | rslice (k n : Nat) (z : AVal) (parts : List (Nat × Opd))
  | rng (x : Opd)
  | nxt (x : Opd)
  | i2s (x : Opd)
  | clr (k : Nat) (z : AVal) (x : Opd)
  deriving Inhabited

structure AOp where
  dst : Option Nat
  ins : Ins
  guard : Option (Nat × Bool)
  after : List Nat
  deriving Inhabited

inductive ACode where
  | skip
  | region (ops : List AOp) (chk : Option (List (Nat × Nat))) (live : List Nat)
  | seq (a b : ACode)
  | cond (c : Opd) (a b : ACode)
  | block (id : Nat) (c : ACode)
  | loop (live : List Nat) (c : ACode)
  | exit (id : Nat)
  | ret
  | stuck
  deriving Inhabited

inductive ARes where
  | tmp (t : Nat)
  | cell (a : Nat) (k : Option Nat)
  deriving Inhabited

structure AFunc where
  res : List ARes
  body : ACode
  deriving Inhabited

/-- what an operation touches in the heap: blocks read, blocks written, the whole -/
structure Cls where
  rd : List Nat := []
  wr : List Nat := []
  any : Bool := false
  deriving Inhabited

/-- what the slots hold, the greatest slot first; a slot that is not told may hold anything -/
abbrev Tms := List (Nat × AVal)
def tget : Tms → Nat → AVal
  | [], _ => .top
  | (d, v) :: r, n => if d = n then v else tget r n
def tins (d : Nat) (v : AVal) : Tms → Tms
  | [] => [(d, v)]
  | (e, w) :: r => if e < d then (d, v) :: (e, w) :: r else if e = d then (d, v) :: r else (e, w) :: tins d v r
def Opd.ev (tm : Tms) : Opd → AVal
  | .t n => tget tm n
  | .c v => v
def tput (tm : Tms) (d : Option Nat) (v : AVal) : Tms :=
  match d with
  | some d => tins d v tm
  | none => tm
def keepL (live : List Nat) (tm : Tms) : Tms := live.map fun n => (n, tget tm n)

abbrev Oracle := Nat → List AVal → AHeap → Option (AVal × AHeap)

def byteV (b : UInt8) : AVal := .int .u8 b.toNat
def byteOf : AVal → Option UInt8
  | .int .u8 n => some (UInt8.ofNat n.toNat)
  | _ => none
def bytesOf : List AVal → Option (List UInt8)
  | [] => some []
  | x :: xs => match byteOf x with
    | some b => match bytesOf xs with
      | some l => some (b :: l)
      | none => none
    | none => none

/-- the elements of a slice, the block that holds them -/
def elemsA (σ : AHeap) : AVal → Option (List AVal × List Nat)
  | .lst _ xs => some (xs, [])
  | .str l => some (l.map byteV, [])
  | .sl t g lo n => match σ[t]? with
    | some (.row g' _ xs) => if g' = g ∧ lo + n ≤ xs.length then some ((xs.drop lo).take n, [t]) else none
    | some (.frow g' _ xs) => if g' = g ∧ lo + n ≤ xs.length then some ((xs.drop lo).take n, [t]) else none
    | _ => none
  | _ => none

/-- a value as a tree; the own rows that it shows -/
def viewA1 (σ : AHeap) : AVal → Option (AVal × List Nat)
  | .lst _ xs => some (.lst false xs, [])
  | .sl t g lo n => match elemsA σ (.sl t g lo n) with
    | some (xs, ts) => some (.lst false xs, ts)
    | none => none
  | .int k n => some (.int k n, [])
  | .bool b => some (.bool b, [])
  | .str l => some (.str l, [])
  | .nilp => some (.nilp, [])
  | .nilm => some (.nilm, [])
  | .nili => some (.nili, [])
  | _ => none
def viewsA (σ : AHeap) : List AVal → Option (List AVal × List Nat)
  | [] => some ([], [])
  | x :: xs => match viewA1 σ x with
    | some (y, ts) => match viewsA σ xs with
      | some (ys, us) => some (y :: ys, ts ++ us)
      | none => none
    | none => none
def viewA (σ : AHeap) : AVal → Option (AVal × List Nat)
  | .agg cs => match viewsA σ cs with
    | some (ys, ts) => some (.agg ys, ts)
    | none => none
  | x => viewA1 σ x
def viewAs (σ : AHeap) : List AVal → Option (List AVal × List Nat)
  | [] => some ([], [])
  | x :: xs => match viewA σ x with
    | some (y, ts) => match viewAs σ xs with
      | some (ys, us) => some (y :: ys, ts ++ us)
      | none => none
    | none => none
/-- a result as trees -/
def viewR (σ : AHeap) : AVal → Option (AVal × List Nat)
  | .tup vs => match viewAs σ vs with
    | some (ys, ts) => some (.tup ys, ts)
    | none => none
  | x => viewA σ x

def freezeA (σ : AHeap) : List Nat → AHeap
  | [] => σ
  | t :: ts => match σ[t]? with
    | some (.row g k xs) => freezeA (σ.set t (.frow g k xs)) ts
    | _ => freezeA σ ts

/-- no slice in it -/
def flat1 : AVal → Bool
  | .int _ _ | .bool _ | .str _ | .nilp | .nilm | .nili => true
  | _ => false
def flat2 : AVal → Bool
  | .agg cs => cs.all flat1
  | x => flat1 x
def flatA : AVal → Bool
  | .tup vs => vs.all flat2
  | .pan (.iface _ x) => flat1 x
  | x => flat2 x

def partA (k : Option Nat) (cs : List AVal) (o : Nat) : Option AVal :=
  match k with
  | none => cs[o]?
  | some k => if o + k ≤ cs.length then some (.agg ((cs.drop o).take k)) else none
def setAt (cs : List AVal) (o : Nat) (vs : List AVal) : List AVal := cs.take o ++ vs ++ cs.drop (o + vs.length)
def okCell : AVal → Bool
  | .agg _ | .tup _ | .top | .pan _ => false
  | _ => true
def ntop : AVal → Bool
  | .top => false
  | _ => true
def fillA (zs : List AVal) : List (Nat × Nat × AVal) → Option (List AVal)
  | [] => some zs
  | (off, k, v) :: r => if v.cells.length = k ∧ off + k ≤ zs.length ∧ ntop v = true then fillA (setAt zs off v.cells) r else none
def kOk (k : Nat) : List AVal → Bool
  | [] => true
  | x :: _ => x.cells.length == k

def ldA (σ : AHeap) (k : Option Nat) : AVal → Option (AVal × AHeap × Cls)
  | .ref t o => match σ[t]? with
    | some (.var cs) => match partA k cs o with
      | some v => some (v, σ, { rd := [t] })
      | none => none
    | _ => none
  | .eref t g i o => match σ[t]? with
    | some (.row g' _ xs) => if g' = g then match xs[i]? with
      | some x => match partA k x.cells o with
        | some v => some (v, σ, { rd := [t] })
        | none => none
      | none => none else none
    | some (.frow g' _ xs) => if g' = g then match xs[i]? with
      | some x => match partA k x.cells o with
        | some v => some (v, σ, { rd := [t] })
        | none => none
      | none => none else none
    | some (.rrow g' _ xs) => if g' = g then match xs[i]? with
      | some x => match partA k x.cells o with
        | some v => some (v, σ, { rd := [t] })
        | none => none
      | none => none else none
    | _ => none
  | .iptr cs o => match partA k cs o with
    | some v => some (v, σ, {})
    | none => none
  | _ => none

/-- an element with cells laid anew -/
def putE (x : AVal) (o : Nat) (vs : List AVal) : Option AVal :=
  match x with
  | .agg cs => if o + vs.length ≤ cs.length then some (.agg (setAt cs o vs)) else none
  | _ => match o, vs with
    | 0, [v] => some v
    | _, _ => none

def stA (σ : AHeap) (k : Nat) (a v : AVal) : Option (AVal × AHeap × Cls) :=
  if v.cells.length = k ∧ v.cells.all okCell then
    match a with
    | .ref t o => match σ[t]? with
      | some (.var cs) => if o + k ≤ cs.length then some (.tup [], σ.set t (.var (setAt cs o v.cells)), { wr := [t] }) else none
      | _ => none
    | .eref t g i o => match σ[t]? with
      | some (.row g' kk xs) => if g' = g then match xs[i]? with
        | some x => match viewsA σ v.cells with
          | some (ys, ts) => if ts.contains t then none else match putE x o ys with
            | some x' => some (.tup [], (freezeA σ ts).set t (.row g kk (xs.set i x')), { wr := t :: ts })
            | none => none
          | none => none
        | none => none else none
      | some (.rrow g' kk xs) => if g' = g then match xs[i]? with
        | some x => match putE x o v.cells with
          | some x' => some (.tup [], σ.set t (.rrow g kk (xs.set i x')), { wr := [t] })
          | none => none
        | none => none else none
      | _ => none
    | _ => none
  else none

def arithA (op : BinOp) (k : IntKind) (a b : Int) : Option AVal :=
  match op with
  | .add => some (.int k (k.wrap (a + b)))
  | .sub => some (.int k (k.wrap (a - b)))
  | .mul => some (.int k (k.wrap (a * b)))
  | .quo => if b = 0 then none else some (.int k (k.wrap (a.tdiv b)))
  | .rem => if b = 0 then none else some (.int k (a.tmod b))
  | .and => some (.int k (k.wrap (BitVec.ofInt k.bits a &&& BitVec.ofInt k.bits b).toNat))
  | .or => some (.int k (k.wrap (BitVec.ofInt k.bits a ||| BitVec.ofInt k.bits b).toNat))
  | .xor => some (.int k (k.wrap (BitVec.ofInt k.bits a ^^^ BitVec.ofInt k.bits b).toNat))
  | .andNot => some (.int k (k.wrap (BitVec.ofInt k.bits a &&& ~~~ BitVec.ofInt k.bits b).toNat))
  | .eql => some (.bool (a == b))
  | .neq => some (.bool (a != b))
  | .lss => some (.bool (a < b))
  | .leq => some (.bool (a ≤ b))
  | .gtr => some (.bool (a > b))
  | .geq => some (.bool (a ≥ b))
  | _ => none
def shiftA (op : BinOp) (k : IntKind) (a b : Int) : Option AVal :=
  if b < 0 then none else
  match op with
  | .shl => some (.int k (k.wrap (a * 2 ^ min b.toNat k.bits)))
  | .shr => some (.int k (a.fdiv (2 ^ min b.toNat k.bits)))
  | _ => none
def strA (op : BinOp) (a b : List UInt8) : Option AVal :=
  match op with
  | .add => if a.length + b.length ≤ 9223372036854775807 then some (.str (a ++ b)) else none
  | .eql => some (.bool (a == b))
  | .neq => some (.bool (!(a == b)))
  | .lss => some (.bool (Op.bytesLess a b))
  | .leq => some (.bool (Op.bytesLess a b || a == b))
  | .gtr => some (.bool !(Op.bytesLess a b || a == b))
  | .geq => some (.bool !(Op.bytesLess a b))
  | _ => none
def binA (op : BinOp) (x y : AVal) : Option AVal :=
  match x, y with
  | .int k a, .int k' b => match op with
    | .shl => shiftA .shl k a b
    | .shr => shiftA .shr k a b
    | op => if k = k' then arithA op k a b else none
  | .str a, .str b => strA op a b
  | _, _ => none
def unA (op : UnOp) (x : AVal) : Option AVal :=
  match op, x with
  | .neg, .int k n => arithA .sub k 0 n
  | .xor, .int k n => arithA .xor k (if k.signed then -1 else k.max) n
  | .not, .bool b => some (.bool !b)
  | _, _ => none

/-- a bound of a slice: the value, at most y -/
def boundA (x : AVal) (y : Nat) : Option Nat :=
  match x with
  | .int _ i => if 0 ≤ i ∧ i ≤ y then some i.toNat else none
  | _ => none
def optB (x : Option AVal) (d y : Nat) : Option Nat :=
  match x with
  | some v => boundA v y
  | none => some d
def sliceA (σ : AHeap) (k : Nat) (x : AVal) (lo hi mx : Option AVal) : Option (AVal × AHeap × Cls) :=
  match x with
  | .lst b xs => match optB mx xs.length xs.length with
    | none => none
    | some m => match optB hi xs.length m with
      | none => none
      | some h => match optB lo 0 h with
        | none => none
        | some l => if l == 0 || kOk k xs then
            if mx.isSome then some (.lst (h == m) ((xs.take h).drop l), σ, {})
            else some (.lst (b && h == xs.length) ((xs.take h).drop l), σ, {})
          else none
  | .sl t g p n => match elemsA σ (.sl t g p n) with
    | none => none
    | some _ => match mx with
      | some m => match boundA m 0 with
        | some _ => match optB hi n 0 with
          | some _ => match optB lo 0 0 with
            | some _ => some (.lst true [], σ, { rd := [t] })
            | none => none
          | none => none
        | none => none
      | none => match σ[t]? with
        | some (.row _ k' xs) => if k' = k then match optB hi n (xs.length - p) with
          | none => none
          | some h => match optB lo 0 h with
            | none => none
            | some l => some (.sl t g (p + l) (h - l), σ, { rd := [t] }) else none
        | some (.frow _ k' xs) => if k' = k then match optB hi n (xs.length - p) with
          | none => none
          | some h => match optB lo 0 h with
            | none => none
            | some l => some (.sl t g (p + l) (h - l), σ, { rd := [t] }) else none
        | _ => none
  | _ => none

def faddrA (off : Nat) : AVal → Option AVal
  | .ref t o => some (.ref t (o + off))
  | .eref t g i o => some (.eref t g i (o + off))
  | .iptr x o => some (.iptr x (o + off))
  | _ => none
def iaddrA (σ : AHeap) (k : Nat) (x i : AVal) : Option (AVal × AHeap × Cls) :=
  match i with
  | .int _ i => if 0 ≤ i then
      match x with
      | .lst _ xs => match xs[i.toNat]? with
        | some x => if x.cells.length = k then some (.iptr x.cells 0, σ, {}) else none
        | none => none
      | .sl t g p n => if i.toNat < n then match σ[t]? with
          | some (.row g' k' _) => if g' = g ∧ k' = k then some (.eref t g (p + i.toNat) 0, σ, { rd := [t] }) else none
          | some (.frow g' k' _) => if g' = g ∧ k' = k then some (.eref t g (p + i.toNat) 0, σ, { rd := [t] }) else none
          | some (.rrow g' k' _) => if g' = g ∧ k' = k then some (.eref t g (p + i.toNat) 0, σ, { rd := [t] }) else none
          | _ => none else none
      | _ => none
    else none
  | _ => none

/-- a row whose cells may name blocks, appended -/
def appR (σ : AHeap) (site k bytes : Nat) (x y : AVal) : Option (AVal × AHeap × Cls) :=
  match y with
  | .sl u h q m => match σ[u]? with
    | some (.rrow h' k1 zs) => if h' = h ∧ k1 = k ∧ q + m ≤ zs.length ∧ 0 < m then
        match x with
        | .lst true [] => if m * bytes ≤ 140737488355328 then some (.sl site 0 0 m, σ.set site (.rrow 0 k ((zs.drop q).take m)), { any := true }) else none
        | .sl t g p n => match σ[t]? with
          | some (.rrow g' k' xs) => if p = 0 ∧ g' = g ∧ k' = k ∧ (n + m) * bytes ≤ 140737488355328 ∧ n = xs.length then
              some (.sl t (g + 1) 0 (n + m), σ.set t (.rrow (g + 1) k (xs ++ (zs.drop q).take m)), { any := true })
            else none
          | _ => none
        | _ => none
      else none
    | _ => none
  | _ => none
def appA (σ : AHeap) (site k bytes : Nat) (x y : AVal) : Option (AVal × AHeap × Cls) :=
  match elemsA σ y with
  | none => appR σ site k bytes x y
  | some (ys, us) => if kOk k ys then
      match x with
      | .lst true [] => if ys.length * bytes ≤ 140737488355328 then some (.sl site 0 0 ys.length, σ.set site (.row 0 k ys), { rd := us }) else none
      | .lst true (x :: xs) => if kOk k (x :: xs) ∧ ((x :: xs).length + ys.length) * bytes ≤ 140737488355328 then
          match ys with
          | [] => some (.lst true (x :: xs), σ, { rd := us })
          | _ :: _ => some (.sl site 0 0 ((x :: xs).length + ys.length), σ.set site (.row 0 k ((x :: xs) ++ ys)), { rd := us })
          else none
      | .sl t g p n => match σ[t]? with
        | some (.row g' k' xs) => if p = 0 ∧ g' = g ∧ k' = k ∧ (n + ys.length) * bytes ≤ 140737488355328 then
            if n = xs.length then some (.sl t (g + 1) 0 (n + ys.length), σ.set t (.row (g + 1) k (xs ++ ys)), { rd := us, wr := [t] })
            else if n + ys.length ≤ xs.length then some (.sl t g 0 (n + ys.length), σ.set t (.row g k (xs.take n ++ ys ++ xs.drop (n + ys.length))), { rd := us, wr := [t] })
            else none
          else none
        | _ => none
      | _ => none
    else none

def freeAt (σ : AHeap) (s : Nat) : Bool := match σ[s]? with
  | some .free => true
  | _ => false
mutual
/-- the blocks that are named -/
def refsV : AVal → List Nat
  | .ref t _ => [t]
  | .eref t _ _ _ => [t]
  | .sl t _ _ _ => [t]
  | .map t => [t]
  | .agg cs => refsL cs
  | .tup vs => refsL vs
  | .fn _ vs => refsL vs
  | .iface _ x => refsV x
  | .pan x => refsV x
  | _ => []
def refsL : List AVal → List Nat
  | [] => []
  | x :: xs => refsV x ++ refsL xs
end
def refsB : ABlk → List Nat
  | .var cs => refsL cs
  | .rrow _ _ xs => refsL xs
  | .map es => refsL (es.map (·.2))
  | _ => []
/-- new names of blocks and generations -/
abbrev Rho := Nat → Nat → Option (Nat × Nat)
mutual
def renV (ρ : Rho) : AVal → AVal
  | .ref t o => match ρ t 0 with
    | some (t', 0) => .ref t' o
    | _ => .any
  | .eref t g i o => match ρ t g with
    | some (t', g') => .eref t' g' i o
    | none => .any
  | .sl t g lo n => match ρ t g with
    | some (t', g') => .sl t' g' lo n
    | none => .any
  | .map t => match ρ t 0 with
    | some (t', 0) => .map t'
    | _ => .any
  | .agg cs => .agg (renL ρ cs)
  | .tup vs => .tup (renL ρ vs)
  | .fn f vs => .fn f (renL ρ vs)
  | .iface t x => .iface t (renV ρ x)
  | .pan x => .pan (renV ρ x)
  | x => x
def renL (ρ : Rho) : List AVal → List AVal
  | [] => []
  | x :: xs => renV ρ x :: renL ρ xs
end
/-- a block under new names; g: its new generation -/
def renB (ρ : Rho) (g : Nat) : ABlk → ABlk
  | .var cs => .var (renL ρ cs)
  | .row _ k xs => .row g k xs
  | .frow _ k xs => .frow g k xs
  | .map es => .map (es.map fun p => (p.1, renV ρ p.2))
  | .rrow _ k xs => .rrow g k (renL ρ xs)
  | .siter l p => .siter l p
  | .free => .free
/-- the blocks that are reached -/
def reach (σ : AHeap) : Nat → List Nat → List Nat → List Nat
  | 0, _, acc => acc
  | _ + 1, [], acc => acc
  | n + 1, t :: todo, acc => if acc.contains t then reach σ n todo acc else reach σ n (refsB (σ.getD t .free) ++ todo) (acc ++ [t])
def idxA (t : Nat) : List Nat → Nat → Option Nat
  | [], _ => none
  | x :: xs, i => if x = t then some i else idxA t xs (i + 1)
/-- the generation that a block has now -/
def genB : ABlk → Nat
  | .row g _ _ => g
  | .frow g _ _ => g
  | .rrow g _ _ => g
  | _ => 0
/-- the first m keep their names; a row among them has generation 0 just if it had it -/
def newGen (m j : Nat) (b : ABlk) : Nat := if j < m ∧ genB b ≠ 0 then 1 else 0
def rhoOf (σ : AHeap) (m : Nat) (ids : List Nat) : Rho := fun t g => match idxA t ids 0 with
  | some j => match σ[t]? with
    | some .free => none
    | some b => if g = genB b then some (j, newGen m j b) else none
    | none => none
  | none => none
def heapOf (σ : AHeap) (m : Nat) (ids : List Nat) (ρ : Rho) : List Nat → Nat → AHeap
  | [], _ => []
  | t :: ts, j => renB ρ (newGen m j (σ.getD t .free)) (σ.getD t .free) :: heapOf σ m ids ρ ts (j + 1)
/-- what is reached from the roots and the first m blocks, under new names -/
def gcIds (m : Nat) (roots : List AVal) (σ : AHeap) : List Nat := reach σ 1000 (refsL roots ++ (List.range m).flatMap fun t => refsB (σ.getD t .free)) (List.range m)
def gcA (m : Nat) (roots : List AVal) (σ : AHeap) : List AVal × AHeap :=
  (renL (rhoOf σ m (gcIds m roots σ)) roots, heapOf σ m (gcIds m roots σ) (rhoOf σ m (gcIds m roots σ)) (gcIds m roots σ) 0)
def gcT (m : Nat) (tm : Tms) (σ : AHeap) : Tms × AHeap :=
  ((tm.map (·.1)).zip (gcA m (tm.map (·.2)) σ).1, (gcA m (tm.map (·.2)) σ).2)

/-- arguments with their rows as trees; what cannot be told as a tree stays -/
def showA1 (σ : AHeap) : AVal → Option (AVal × List Nat)
  | .lst _ xs => some (.lst false xs, [])
  | .sl t g lo n => match elemsA σ (.sl t g lo n) with
    | some (xs, ts) => some (.lst false xs, ts)
    | none => none
  | .pan _ => none
  | x => some (x, [])
def showsA (σ : AHeap) : List AVal → Option (List AVal × List Nat)
  | [] => some ([], [])
  | x :: xs => match showA1 σ x with
    | some (y, ts) => match showsA σ xs with
      | some (ys, us) => some (y :: ys, ts ++ us)
      | none => none
    | none => none
def showA (σ : AHeap) : AVal → Option (AVal × List Nat)
  | .agg cs => match showsA σ cs with
    | some (ys, ts) => some (.agg ys, ts)
    | none => none
  | x => showA1 σ x
def showAs (σ : AHeap) : List AVal → Option (List AVal × List Nat)
  | [] => some ([], [])
  | x :: xs => match showA σ x with
    | some (y, ts) => match showAs σ xs with
      | some (ys, us) => some (y :: ys, ts ++ us)
      | none => none
    | none => none
/-- a call's answer with its rows as trees -/
def resV (m : Nat) : Option (AVal × AHeap) → Option (AVal × AHeap)
  | some (.pan x, σ) => some (.pan x, σ)
  | some (r, σ) => match viewR σ r with
    | some (r', ts) => match gcA m [r'] (freezeA σ ts) with
      | ([r''], σ') => some (r'', σ')
      | _ => none
    | none => none
  | none => none
/-- what stands for a block -/
def okB : ABlk → Bool
  | .var _ => true
  | .row _ _ _ => true
  | .frow _ _ _ => true
  | .map _ => true
  | .rrow _ _ _ => true
  | .siter _ _ => true
  | .free => false
def sameKind : ABlk → ABlk → Bool
  | .var _, .var _ => true
  | .row _ _ _, .row _ _ _ => true
  | .row _ _ _, .frow _ _ _ => true
  | .frow _ _ _, .frow _ _ _ => true
  | .map _, .map _ => true
  | .rrow _ _ _, .rrow _ _ _ => true
  | .siter _ _, .siter _ _ => true
  | _, _ => false
/-- a heap that an oracle may answer: the blocks that it was given are of the kind that they were, of their generation or the next one; the others are of generation 0 -/
def okBack (σ : AHeap) (ids : List Nat) : AHeap → Nat → Bool
  | [], _ => true
  | b :: bs, j => okB b && (match ids[j]? with
    | some t => sameKind (σ.getD t .free) b && decide (genB b ≤ 1)
    | none => decide (genB b = 0)) && okBack σ ids bs (j + 1)
/-- the names of the caller for those of the callee -/
def rhoBack (σ : AHeap) (ids : List Nat) (site : Nat) : Rho := fun j g => match ids[j]? with
  | some t => some (t, genB (σ.getD t .free) + g)
  | none => some (site + (j - ids.length), g)
def tgtBack (ids : List Nat) (site j : Nat) : Nat := ids.getD j (site + (j - ids.length))
def genBack (σ : AHeap) (ids : List Nat) (j : Nat) (b : ABlk) : Nat := match ids[j]? with
  | some t => genB (σ.getD t .free) + genB b
  | none => genB b
/-- the callee's blocks laid into the caller's heap -/
def layBack (σ0 : AHeap) (ids : List Nat) (site : Nat) : AHeap → Nat → AHeap → AHeap
  | [], _, σ => σ
  | b :: bs, j, σ => layBack σ0 ids site bs (j + 1) (σ.set (tgtBack ids site j) (renB (rhoBack σ0 ids site) (genBack σ0 ids j b) b))
def freeFrom (σ : AHeap) (site : Nat) : Nat → Bool
  | 0 => true
  | n + 1 => freeAt σ site && freeFrom σ (site + 1) n
def showIf (byref : Bool) (σ : AHeap) (args : List AVal) : Option (List AVal × List Nat) := if byref then some (args, []) else showAs σ args
def askO (view : Bool) (m : Nat) (r : Option (AVal × AHeap)) : Option (AVal × AHeap) := if view then resV m r else r
/-- behind a call: σ the caller's heap, σf the one with the shown rows frozen -/
def backG (σ σf : AHeap) (ids ts : List Nat) (site own : Nat) : Option (AVal × AHeap) → Option (AVal × AHeap × Cls)
  | none => none
  | some (r, h) =>
    if ids.isEmpty && h.isEmpty then
      if flatA r then some (r, σ, { rd := ts }) else some (renV (rhoBack [] [] site) r, σf, { rd := ts, wr := ts })
    else if decide (h.length ≤ ids.length + own) && decide (ids.length ≤ h.length) && okBack σf ids h 0 && freeFrom σf site own then
      some (renV (rhoBack σf ids site) r, layBack σf ids site h 0 σf, { any := true })
    else none
def callI (O : Oracle) (σ σf : AHeap) (ids : List Nat) (site f own : Nat) (view : Bool) (vs : List AVal) (ts : List Nat) : Option (AVal × AHeap × Cls) :=
  if ids.all fun t => okB (σf.getD t .free) then
    backG σ σf ids ts site own (askO view ids.length (O f (renL (rhoOf σf 0 ids) vs) (heapOf σf 0 ids (rhoOf σf 0 ids) ids 0)))
  else none
def callG (O : Oracle) (byref : Nat → Bool) (σ : AHeap) (site f own : Nat) (view : Bool) (args : List AVal) : Option (AVal × AHeap × Cls) :=
  match showIf (byref f) σ args with
  | none => none
  | some (vs, ts) => callI O σ (freezeA σ ts) (reach (freezeA σ ts) 1000 (refsL vs) []) site f own view vs ts

/-- values without blocks, held against each other -/
def aeq1 : AVal → AVal → Option Bool
  | .int k a, .int k' b => if k = k' then some (a == b) else none
  | .bool a, .bool b => some (a == b)
  | .str a, .str b => some (a == b)
  | _, _ => none
def kindA : AVal → Nat
  | .int _ _ => 0
  | .bool _ => 1
  | .str _ => 2
  | _ => 4
def kindsA : List Nat → List AVal → Bool
  | [], [] => true
  | k :: ks, x :: xs => kindA x == k && kindsA ks xs
  | _, _ => false
def aeqs : List AVal → List AVal → Option Bool
  | [], [] => some true
  | x :: xs, y :: ys => match aeq1 x y with
    | some b => match aeqs xs ys with
      | some c => some (b && c)
      | none => none
    | none => none
  | _, _ => none

def intsOf : List AVal → Option (List (IntKind × Int))
  | [] => some []
  | .int k n :: r => (intsOf r).map ((k, n) :: ·)
  | _ => none

/-- a slice of an own row, with zeroes in it -/
def clrA (σ : AHeap) (k : Nat) (z : AVal) : AVal → Option (AVal × AHeap × Cls)
  | .sl t g lo n => match σ[t]? with
    | some (.row g' k' xs) => if g' = g ∧ k' = k ∧ lo + n ≤ xs.length ∧ z.cells.length = k then some (.tup [], σ.set t (.row g k (xs.take lo ++ List.replicate n z ++ xs.drop (lo + n))), { wr := [t] }) else none
    | _ => none
  | _ => none
/-- the rune at a place of a string, and its bytes -/
def decA (l : List UInt8) (p : Nat) : Nat × Nat := Utf8.decode ⟨l.toArray⟩ p
def pickX (σ : AHeap) (a b : AVal) : AVal → Option (AVal × AHeap × Cls)
  | .bool true => some (a, σ, {})
  | .bool false => some (b, σ, {})
  | _ => none
def execI (O : Oracle) (byref : Nat → Bool) (tm : Tms) (σ : AHeap) (site : Nat) : Ins → Option (AVal × AHeap × Cls)
  | .mov x => some (x.ev tm, σ, {})
  | .pick c a b => pickX σ (a.ev tm) (b.ev tm) (c.ev tm)
  | .alloc zs => some (.ref site 0, σ.set site (.var zs), {})
  | .box x => match x.ev tm with
    | .tup _ => none
    | .top => none
    | .pan _ => none
    | v => some (.ref site 0, σ.set site (.var v.cells), {})
  | .build zs parts => match fillA zs (parts.map fun p => (p.1, p.2.1, p.2.2.ev tm)) with
    | some cs => some (.agg cs, σ, {})
    | none => none
  | .bslice own k n z parts => match viewAs σ (parts.map fun p => p.2.ev tm) with
    | none => none
    | some (ys, ts) => if ys.all (fun y => y.cells.length == k) && (parts.all fun p => p.1 < n) && z.cells.length == k then
        let xs := ((parts.map (·.1)).zip ys).foldl (fun l p => l.set p.1 p.2) (List.replicate n z)
        if own then some (.sl site 0 0 n, (freezeA σ ts).set site (.row 0 k xs), { rd := ts, wr := ts })
        else some (.lst true xs, freezeA σ ts, { rd := ts, wr := ts })
      else none
  | .ld k a => ldA σ k (a.ev tm)
  | .st k a v => stA σ k (a.ev tm) (v.ev tm)
  | .bin op x y => (binA op (x.ev tm) (y.ev tm)).map (·, σ, {})
  | .un op x => (unA op (x.ev tm)).map (·, σ, {})
  | .i2i k x => match x.ev tm with
    | .int _ n => some (.int k (k.wrap n), σ, {})
    | _ => none
  | .same x => match x.ev tm with
    | .str l => some (.str l, σ, {})
    | _ => none
  | .s2b x => match x.ev tm with
    | .str l => some (.lst false (l.map byteV), σ, {})
    | _ => none
  | .b2s x => match elemsA σ (x.ev tm) with
    | some (xs, ts) => match bytesOf xs with
      | some l => some (.str l, σ, { rd := ts })
      | none => none
    | none => none
  | .slice k x lo hi mx => sliceA σ k (x.ev tm) (lo.map (·.ev tm)) (hi.map (·.ev tm)) (mx.map (·.ev tm))
  | .sslice x lo hi => match x.ev tm with
    | .str s => match optB (hi.map (·.ev tm)) s.length s.length with
      | none => none
      | some h => match optB (lo.map (·.ev tm)) 0 h with
        | none => none
        | some l => some (.str ((s.take h).drop l), σ, {})
    | _ => none
  | .faddr off x => (faddrA off (x.ev tm)).map (·, σ, {})
  | .field k off x => match x.ev tm with
    | .agg cs => (partA k cs off).map (·, σ, {})
    | _ => none
  | .iaddr k x i => iaddrA σ k (x.ev tm) (i.ev tm)
  | .aaddr k n x i => match i.ev tm with
    | .int _ i => if 0 ≤ i ∧ i < n then (faddrA (i.toNat * k) (x.ev tm)).map (·, σ, {}) else none
    | _ => none
  | .sindex x i => match x.ev tm, i.ev tm with
    | .str s, .int _ i => if 0 ≤ i then (s[i.toNat]?).map fun b => (byteV b, σ, {}) else none
    | _, _ => none
  | .aindex s k n x i => match x.ev tm, i.ev tm with
    | .agg cs, .int _ i => if 0 ≤ i ∧ i < n then (partA s cs (i.toNat * k)).map (·, σ, {}) else none
    | _, _ => none
  | .ext x i => match x.ev tm with
    | .tup vs => (vs[i]?).map (·, σ, {})
    | _ => none
  | .len x => match x.ev tm with
    | .lst _ xs => some (.int .i64 xs.length, σ, {})
    | .sl _ _ _ n => some (.int .i64 n, σ, {})
    | _ => none
  | .slen x => match x.ev tm with
    | .str l => some (.int .i64 l.length, σ, {})
    | _ => none
  | .app k bytes _ x y => appA σ site k bytes (x.ev tm) (y.ev tm)
  | .mkslice k bytes z l c => match l.ev tm, c.ev tm with
    | .int .i64 l, .int .i64 c => if 0 ≤ l ∧ l ≤ c ∧ c ≤ 9223372036854775807 ∧ bytes * c ≤ 140737488355328 ∧ z.cells.length = k then
        some (.sl site 0 0 l.toNat, σ.set site (.row 0 k (List.replicate c.toNat z)), {}) else none
    | _, _ => none
  | .mm max xs => match (xs.map fun x => x.ev tm : List AVal) with
    | [.int k a, .int _ b] => some (.int k (if max then (if b > a then b else a) else (if b < a then b else a)), σ, {})
    | _ => none
  | .nilchk x => match x.ev tm with
    | .ref t o => some (.ref t o, σ, {})
    | .eref t g i o => some (.eref t g i o, σ, {})
    | .iptr x o => some (.iptr x o, σ, {})
    | _ => none
  | .s2s x => match x.ev tm with
    | .sl t g lo n => match σ[t]? with
      | some (.row g' k xs) => if g' = g ∧ lo + n ≤ xs.length ∧ 0 < n then some (.lst false ((xs.drop lo).take n), σ.set t (.frow g k xs), { wr := [t] }) else none
      | _ => none
    | _ => none
  | .beq neg x y => match x.ev tm, y.ev tm with
    | .bool a, .bool b => some (.bool ((a == b) != neg), σ, {})
    | _, _ => none
  | .peq neg x y => match x.ev tm, y.ev tm with
    | .nilp, .nilp => some (.bool (true != neg), σ, {})
    | .nilp, .ref _ _ => some (.bool (false != neg), σ, {})
    | .ref _ _, .nilp => some (.bool (false != neg), σ, {})
    | _, _ => none
  | .eqv neg ks x y => match x.ev tm, y.ev tm with
    | .agg xs, .agg ys => if kindsA ks xs then match aeqs xs ys with
      | some b => some (.bool (b != neg), σ, {})
      | none => none else none
    | _, _ => none
  | .ieq neg x y => match x.ev tm, y.ev tm with
    | .nili, .nili => some (.bool (true != neg), σ, {})
    | .nili, .iface _ _ => some (.bool (false != neg), σ, {})
    | .iface _ _, .nili => some (.bool (false != neg), σ, {})
    | _, _ => none
  | .mki t x => match x.ev tm with
    | .tup _ => none
    | .top => none
    | .pan _ => none
    | v => some (.iface t v, σ, {})
  | .panic x => match x.ev tm with
    | .iface t v => some (.pan (.iface t v), σ, {})
    | _ => none
  | .call f own view args => callG O byref σ site f own view (args.map (·.ev tm))
  | .callv x args => match x.ev tm with
    | .fn f caps => callG O byref σ site f 4 false (args.map (·.ev tm) ++ caps)
    | _ => none
  | .mkfn f caps => some (.fn f (caps.map (·.ev tm)), σ, {})
  | .i2s x => match x.ev tm with
    | .int _ n => some (.str (Utf8.encode n).data.toList, σ, {})
    | _ => none
  | .clr k z x => clrA σ k z (x.ev tm)
  | .rslice k n z parts => if (parts.all fun p => (p.2.ev tm).cells.length == k && (p.2.ev tm).cells.all okCell) && (parts.all fun p => p.1 < n) && z.cells.length == k && z.cells.all okCell then
      some (.sl site 0 0 n, σ.set site (.rrow 0 k ((parts.map fun p => (p.1, p.2.ev tm)).foldl (fun l p => l.set p.1 p.2) (List.replicate n z))), {})
    else none
  | .rng x => match x.ev tm with
    | .str l => some (.ref site 0, σ.set site (.siter l 0), {})
    | _ => none
  | .nxt x => match x.ev tm with
    | .ref t 0 => match σ[t]? with
      | some (.siter l p) => if p < l.length then some (.tup [.bool true, .int .i64 p, .int .i32 (decA l p).1], σ.set t (.siter l (p + (decA l p).2)), { any := true })
        else some (.tup [.bool false], σ, { any := true })
      | _ => none
    | _ => none

def nsite : Ins → Nat
  | .alloc _ | .box _ | .app .. | .mkslice .. | .rslice .. | .rng _ => 1
  | .bslice own .. => if own then 1 else 0
  | .call _ own _ _ => own
  | .callv _ _ => 4
  | _ => 0
def wantedA (g : Option (Nat × Bool)) (tm : Tms) : Option Bool :=
  match g with
  | none => some true
  | some (j, want) => match tget tm j with
    | .bool b => some (b == want)
    | .tup [] => some false
    | _ => none
def stepA (O : Oracle) (byref : Nat → Bool) (o : AOp) (site : Nat) (tm : Tms) (σ : AHeap) : Option (AVal × Tms × AHeap × Cls) :=
  match wantedA o.guard tm with
  | none => none
  | some false => some (.tup [], tput tm o.dst (.tup []), σ, {})
  | some true => if nsite o.ins == 0 || freeAt σ site then
      match execI O byref tm σ site o.ins with
      | some (v, σ', c) => some (v, tput tm o.dst v, σ', c)
      | none => none
    else none
/-- a run of operations; the panic that ended it, if one did -/
def runOps (O : Oracle) (byref : Nat → Bool) : List AOp → Nat → Tms → AHeap → Option (Tms × AHeap × List Cls × Option AVal)
  | [], _, tm, σ => some (tm, σ, [], none)
  | o :: os, s, tm, σ => match stepA O byref o s tm σ with
    | none => none
    | some (.pan x, tm', σ', c) => some (tm', σ', [c], some x)
    | some (_, tm', σ', c) => match runOps O byref os (s + nsite o.ins) tm' σ' with
      | none => none
      | some (tm'', σ'', cs, p) => some (tm'', σ'', c :: cs, p)
def sitesOf (ops : List AOp) : Nat := (ops.map fun o => nsite o.ins).sum
/-- two operations whose order is open: they do not meet -/
def emptyOp (o : AOp) (c : Cls) : Bool := nsite o.ins == 0 && c.rd.isEmpty && c.wr.isEmpty && !c.any
def noWr (c : Cls) : Bool := c.wr.isEmpty && !c.any
def pairFree (oj oi : AOp) (cj ci : Cls) (sj : Nat) : Bool := emptyOp oj cj || emptyOp oi ci || (noWr cj && noWr ci && (nsite oj.ins == 0 || !ci.rd.contains sj))
def chkA (ops : List AOp) (base : Nat) (chk : List (Nat × Nat)) (cs : List Cls) : Bool :=
  chk.all fun p => pairFree (ops.getD p.1 default) (ops.getD p.2 default) (cs.getD p.1 {}) (cs.getD p.2 {}) (base + sitesOf (ops.take p.1))
inductive AExit where
  | normal
  | exit (id : Nat)
  | ret
  | panic (x : AVal)
  deriving Inhabited

def regX (ops : List AOp) (L : Nat) (chk : Option (List (Nat × Nat))) (live : List Nat) : Option (Tms × AHeap × List Cls × Option AVal) → Option (AExit × Tms × AHeap)
  | none => none
  | some (_, σ, _, some x) => match chk with
    | none => some (.panic x, [], σ)
    | some _ => none
  | some (tm, σ, cs, none) => match chk with
    | none => some (.normal, keepL live tm, σ)
    | some l => if chkA ops L l cs then some (.normal, keepL live tm, σ) else none
def runRegion (O : Oracle) (byref : Nat → Bool) (ops : List AOp) (chk : Option (List (Nat × Nat))) (live : List Nat) (tm : Tms) (σ : AHeap) : Option (AExit × Tms × AHeap) :=
  regX ops σ.length chk live (runOps O byref ops σ.length tm (σ ++ List.replicate (sitesOf ops) .free))

def iterA (m : Nat) (live : List Nat) (f : Tms → AHeap → Option (AExit × Tms × AHeap)) : Nat → Tms → AHeap → Option (AExit × Tms × AHeap)
  | 0, _, _ => none
  | n + 1, tm, σ => match f (gcT m (keepL live tm) σ).1 (gcT m (keepL live tm) σ).2 with
    | some (.normal, tm', σ') => iterA m live f n tm' σ'
    | r => r
def execC (O : Oracle) (byref : Nat → Bool) (m n : Nat) : ACode → Tms → AHeap → Option (AExit × Tms × AHeap)
  | .skip, tm, σ => some (.normal, tm, σ)
  | .region ops chk live, tm, σ => runRegion O byref ops chk live tm σ
  | .seq a b, tm, σ => match execC O byref m n a tm σ with
    | some (.normal, tm', σ') => execC O byref m n b tm' σ'
    | r => r
  | .cond c a b, tm, σ => match c.ev tm with
    | .bool true => execC O byref m n a tm σ
    | .bool false => execC O byref m n b tm σ
    | _ => none
  | .block id c, tm, σ => match execC O byref m n c tm σ with
    | some (.exit i, tm', σ') => if i = id then some (.normal, tm', σ') else some (.exit i, tm', σ')
    | r => r
  | .loop live c, tm, σ => iterA m live (execC O byref m n c) n tm σ
  | .exit id, tm, σ => some (.exit id, tm, σ)
  | .ret, tm, σ => some (.ret, tm, σ)
  | .stuck, _, _ => none

def resOne (tm : Tms) (σ : AHeap) : ARes → Option AVal
  | .tmp t => some (tget tm t)
  | .cell a k => match ldA σ k (tget tm a) with
    | some (v, _, _) => some v
    | none => none
def resAll (tm : Tms) (σ : AHeap) : List ARes → Option (List AVal)
  | [] => some []
  | r :: rs => match resOne tm σ r with
    | some v => match resAll tm σ rs with
      | some vs => some (v :: vs)
      | none => none
    | none => none
def resA (tm : Tms) (σ : AHeap) (rs : List ARes) : Option AVal :=
  match resAll tm σ rs with
  | some [v] => some v
  | some vs => some (.tup vs)
  | none => none
/-- a call's answer, with what of the heap is still reached -/
def outA (m : Nat) (σ : AHeap) (r : AVal) : Option (AVal × AHeap) := match gcA m [r] σ with
  | ([r'], σ') => some (r', σ')
  | _ => none
def finA (m : Nat) (fn : AFunc) : Option (AExit × Tms × AHeap) → Option (AVal × AHeap)
  | some (.normal, tm, σ) => match resA tm σ fn.res with
    | some r => outA m σ r
    | none => none
  | some (.ret, tm, σ) => match resA tm σ fn.res with
    | some r => outA m σ r
    | none => none
  | some (.panic x, _, σ) => outA m σ (.pan x)
  | _ => none
def enterA : Nat → List AVal → Tms → Tms
  | _, [], acc => acc
  | i, x :: xs, acc => enterA (i + 1) xs ((i, x) :: acc)
abbrev Prims := Nat → Option (List AVal → AHeap → Option (AVal × AHeap))
def callA (fs : Nat → Option AFunc) (prim : Prims) (byref : Nat → Bool) : Nat → Oracle
  | 0, _, _, _ => none
  | n + 1, f, args, σ => match prim f with
    | some g => g args σ
    | none => match fs f with
      | none => none
      | some fn => finA σ.length fn (execC (callA fs prim byref n) byref σ.length n fn.body (enterA 0 args []) σ)

end Go.Proofs.YtaaflagbhneakaaDoor
