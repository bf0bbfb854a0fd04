/- ABS: the loaded code read as the interpreter's code. -/
import Derived.Test.YtaaflagbhneakaaDoorAbsRel
namespace Go.Proofs.YtaaflagbhneakaaDoor
set_option linter.unusedSimpArgs false
set_option linter.unusedVariables false
open Go.RowKit

def ofConst1 : Value → Option AVal
  | .int k n => some (.int k n)
  | .bool b => some (.bool b)
  | .string s => if s.data.toList.length ≤ 9223372036854775807 then some (.str s.data.toList) else none
  | .pointer none => some .nilp
  | .slice none 0 0 => some (.lst true [])
  | .map none => some .nilm
  | .nilIface => some .nili
  | _ => none
def ofConsts : List Value → Option (List AVal)
  | [] => some []
  | v :: vs => match ofConst1 v with
    | some x => match ofConsts vs with
      | some xs => some (x :: xs)
      | none => none
    | none => none
def ofConst : Value → Option AVal
  | .agg cs => (ofConsts cs.toList).map .agg
  | v => ofConst1 v
def compO : Operand → Option Opd
  | .tmp t => some (.t t)
  | .const v => (ofConst v).map .c
  | .func f => some (.c (.fn f []))
  | .global _ => none
def compOs : List Operand → Option (List Opd)
  | [] => some []
  | x :: xs => match compO x with
    | some y => match compOs xs with
      | some ys => some (y :: ys)
      | none => none
    | none => none
def compOo : Option Operand → Option (Option Opd)
  | none => some none
  | some x => (compO x).map some
/-- how a variable of the type is read: one cell, or so many -/
def kindOf (P : Program) (t : TypeId) : Option (Option Nat) :=
  match P.underlying t, P.info? t with
  | some (.struct _), some i => some (some i.size)
  | some (.array _ _), some i => some (some i.size)
  | some _, some i => if i.size = 1 then some none else none
  | _, _ => none
def sizeP (P : Program) (t : TypeId) : Option Nat := (P.info? t).map (·.size)
def zeroP (P : Program) (t : TypeId) : Option AVal := match P.info? t with
  | some i => match i.zero with
    | some v => ofConst v
    | none => none
  | none => none
/-- an element type: size, bytes, zero -/
def elemP (P : Program) (t : TypeId) : Option (Nat × Nat × AVal) := match P.underlying t with
  | some (.slice e) => match P.info? e, zeroP P e with
    | some i, some z => if 0 < i.size ∧ 0 < i.bytes ∧ z.cells.length = i.size then some (i.size, i.bytes, z) else none
    | _, _ => none
  | _ => none
def compParts (P : Program) (fields : Array Field) : List (Nat × Operand) → Option (List (Nat × Nat × Opd))
  | [] => some []
  | (i, x) :: r => match fields[i]? with
    | some f => match sizeP P f.type, compO x, compParts P fields r with
      | some k, some y, some ps => some ((f.offset, k, y) :: ps)
      | _, _, _ => none
    | none => none
def compArr (k : Nat) : List (Nat × Operand) → Option (List (Nat × Nat × Opd))
  | [] => some []
  | (i, x) :: r => match compO x, compArr k r with
      | some y, some ps => some ((i * k, k, y) :: ps)
      | _, _ => none
def compIdx : List (Nat × Operand) → Option (List (Nat × Opd))
  | [] => some []
  | (i, x) :: r => match compO x, compIdx r with
      | some y, some ps => some ((i, y) :: ps)
      | _, _ => none
/-- what is said of a function's code beside the code: slots whose rows are own ones, how a callee is called, slots that live behind a region and at a loop's head -/
structure Ann where
  nt : Nat := 0
  own : Nat → Nat := fun _ => 0
  cfg : Nat → Nat × Bool := fun _ => (0, true)
  /-- likewise, of calls whose answer's slot is an own one -/
  cfg2 : Nat → Nat × Bool := fun _ => (0, true)
  lr : Nat → List Nat := fun _ => []
  ll : Nat → List Nat := fun _ => []
def isInt : Option TypeDesc → Bool
  | some (.int _) => true
  | _ => false
def basicT (P : Program) (t : TypeId) : Bool := match P.underlying t with
  | some (.int _) => true
  | some .bool => true
  | some .string => true
  | _ => false
def kindT (P : Program) (t : TypeId) (x : AVal) : Bool := match P.underlying t, x with
  | some (.int _), .int _ _ => true
  | some .bool, .bool _ => true
  | some .string, .str _ => true
  | _, _ => false
def flatFs (P : Program) : Nat → List Field → Bool
  | _, [] => true
  | o, f :: fs => f.offset == o && f.name != "_" && basicT P f.type && flatFs P (o + 1) fs
def kindsT (P : Program) : List Field → List AVal → Bool
  | [], [] => true
  | f :: fs, x :: xs => kindT P f.type x && kindsT P fs xs
  | _, _ => false
/-- a struct of plain fields, one cell each -/
def flatStruct (P : Program) (t : TypeId) (fs : Array Field) : Bool := flatFs P 0 fs.toList && !P.stoodInHeld t && !P.eqGuardType P.depth t
def kindC (P : Program) (t : TypeId) : Option Nat := match P.underlying t with
  | some (.int _) => some 0
  | some .bool => some 1
  | some .string => some 2
  | _ => none
def compBin (P : Program) (op : BinOp) (t : TypeId) (x y : Opd) : Option Ins :=
  match P.underlying t with
  | some (.int _) => some (.bin op x y)
  | some .string => some (.bin op x y)
  | some .bool => match op with
    | .eql => some (.beq false x y)
    | .neq => some (.beq true x y)
    | _ => none
  | some (.pointer _) => match op with
    | .eql => some (.peq false x y)
    | .neq => some (.peq true x y)
    | _ => none
  | some (.struct fs) => if flatStruct P t fs then match op with
    | .eql => some (.eqv false (fs.toList.map fun f => (kindC P f.type).getD 3) x y)
    | .neq => some (.eqv true (fs.toList.map fun f => (kindC P f.type).getD 3) x y)
    | _ => none else none
  | some (.interface _) => match op, y with
    | .eql, .c .nili => some (.ieq false x y)
    | .neq, .c .nili => some (.ieq true x y)
    | _, _ => none
  | _ => none
def compConv (P : Program) (src dst : TypeId) (x : Opd) : Option Ins :=
  match P.underlying src, P.underlying dst with
  | some (.int _), some (.int k) => some (.i2i k x)
  | some (.int _), some .string => some (.i2s x)
  | some .string, some .string => some (.same x)
  | some .string, some (.slice e) => match P.underlying e with
    | some (.int .u8) => some (.s2b x)
    | _ => none
  | some (.slice _), some (.slice e) => if src = dst then (match P.underlying e with
    | some (.int .u8) => some (.s2s x)
    | _ => none) else none
  | some (.slice e), some .string => match P.underlying e with
    | some (.int .u8) => some (.b2s x)
    | _ => none
  | _, _ => none
def compCall (P : Program) (an : Ann) (own : Nat) (c : Call) : Option Ins :=
  match compOs c.args.toList with
  | none => none
  | some args => match c.callee with
    | .value (.func f) => some (.call f (if own = 1 then an.cfg2 f else an.cfg f).1 (if own = 1 then an.cfg2 f else an.cfg f).2 args)
    | .value (.tmp t) => some (.callv (.t t) args)
    | .builtin .append => match c.argTypes.toList, args with
      | [t, u], [x, y] => match elemP P t with
        | some (k, bytes, z) => match P.underlying u with
          | some (.slice _) => some (.app k bytes z x y)
          | some .string => if k = 1 then some (.app k bytes z x y) else none
          | _ => none
        | none => none
      | _, _ => none
    | .builtin .len => match c.argTypes.toList, args with
      | [t], [x] => match P.underlying t with
        | some (.slice _) => some (.len x)
        | some .string => some (.slen x)
        | _ => none
      | _, _ => none
    | .builtin .clear => match c.argTypes.toList, args with
      | [t], [x] => match elemP P t with
        | some (k, _, z) => some (.clr k z x)
        | none => none
      | _, _ => none
    | .builtin .max => if args.length = 2 then some (.mm true args) else none
    | .builtin .min => if args.length = 2 then some (.mm false args) else none
    | _ => none
def compIns (P : Program) (an : Ann) (own : Nat) : Op → Option Ins
  | .move x => (compO x).map .mov
  | .assign x => (compO x).map .mov
  | .pick c a b => match compO c, compO a, compO b with
    | some c, some a, some b => some (.pick c a b)
    | _, _, _ => none
  | .alloc e => (zeroP P e).map fun z => .alloc z.cells
  | .box _ x => (compO x).map .box
  | .build t parts => match P.underlying t, zeroP P t with
    | some (.struct fields), some z => if fields.toList.all fun f => (P.info? f.type).isSome then (compParts P fields parts.toList).map (.build z.cells) else none
    | some (.array _ e), some z => match sizeP P e with
      | some k => (compArr k parts.toList).map (.build z.cells)
      | none => none
    | _, _ => none
  | .buildSlice t n parts => match elemP P t with
    | some (k, _, z) => if n * k ≤ 16777216 then (compIdx parts.toList).map (fun ps => if own = 2 then .rslice k n z ps else .bslice (own == 1) k n z ps) else none
    | none => none
  | .load t a => match kindOf P t, compO a with
    | some k, some a => some (.ld k a)
    | _, _ => none
  | .store t a v => match sizeP P t, compO a, compO v with
    | some k, some a, some v => some (.st k a v)
    | _, _, _ => none
  | .nilCheck x => (compO x).map .nilchk
  | .binOp op t x y _ => match compO x, compO y with
    | some x, some y => compBin P op t x y
    | _, _ => none
  | .unOp op _ x => (compO x).map (.un op)
  | .convert src dst x => match compO x with
    | some x => compConv P src dst x
    | none => none
  | .slice t x lo hi mx => match compO x, compOo lo, compOo hi, compOo mx with
    | some x, some lo, some hi, some mx => match P.underlying t with
      | some .string => match mx with
        | none => some (.sslice x lo hi)
        | some _ => none
      | some (.slice e) => match sizeP P e with
        | some k => if 0 < k then (match hi, mx with | none, some _ => none | _, _ => some (.slice k x lo hi mx)) else none
        | none => none
      | _ => none
    | _, _, _, _ => none
  | .fieldAddr s x i => match P.underlying s, compO x with
    | some (.struct fields), some x => match fields[i]? with
      | some f => match sizeP P f.type with
        | some k => if k = 0 then none else some (.faddr f.offset x)
        | none => none
      | none => none
    | _, _ => none
  | .field s x i => match P.underlying s, compO x with
    | some (.struct fields), some x => match fields[i]? with
      | some f => (kindOf P f.type).map fun k => .field k f.offset x
      | none => none
    | _, _ => none
  | .indexAddr t x i => match P.underlying t, compO x, compO i with
    | some (.slice e), some x, some i => (sizeP P e).map fun k => .iaddr k x i
    | some (.array n e), some x, some i => (sizeP P e).map fun k => .aaddr k n x i
    | _, _, _ => none
  | .index t x i => match P.underlying t, compO x, compO i with
    | some .string, some x, some i => some (.sindex x i)
    | some (.array n e), some x, some i => match kindOf P e, sizeP P e with
      | some s, some k => some (.aindex s k n x i)
      | _, _ => none
    | _, _, _ => none
  | .extract x i => (compO x).map fun x => .ext x i
  | .makeSlice t l c => match elemP P t, compO l, compO c with
    | some (k, bytes, z), some l, some c => some (.mkslice k bytes z l c)
    | _, _, _ => none
  | .makeFunc (.func f) first captured => if first.isEmpty then (compOs captured.toList).map (.mkfn f) else none
  | .makeInterface t x => match P.underlying t with
    | some (.interface _) => none
    | some _ => (compO x).map (.mki t)
    | none => none
  | .panic x => (compO x).map .panic
  | .range t x => match P.underlying t with
    | some .string => (compO x).map .rng
    | _ => none
  | .next x true => (compO x).map .nxt
  | .call c => compCall P an own c
  | _ => none

def Opd.reads : Opd → List Nat
  | .t n => [n]
  | .c _ => []
def optReads : Option Opd → List Nat
  | some x => x.reads
  | none => []
def Ins.reads : Ins → List Nat
  | .mov x | .box x | .un _ x | .i2i _ x | .i2s x | .same x | .s2b x | .s2s x | .b2s x | .faddr _ x | .field _ _ x | .ext x _ | .len x | .slen x | .nilchk x | .rng x | .nxt x | .clr _ _ x | .ld _ x | .mki _ x | .panic x => x.reads
  | .pick c a b => c.reads ++ a.reads ++ b.reads
  | .alloc _ => []
  | .build _ ps => ps.flatMap fun p => p.2.2.reads
  | .bslice _ _ _ _ ps | .rslice _ _ _ ps => ps.flatMap fun p => p.2.reads
  | .st _ x y | .bin _ x y | .iaddr _ x y | .aaddr _ _ x y | .sindex x y | .aindex _ _ _ x y | .app _ _ _ x y | .mkslice _ _ _ x y | .beq _ x y | .peq _ x y | .eqv _ _ x y | .ieq _ x y => x.reads ++ y.reads
  | .slice _ x a b c => x.reads ++ optReads a ++ optReads b ++ optReads c
  | .sslice x a b => x.reads ++ optReads a ++ optReads b
  | .mm _ xs | .call _ _ _ xs | .mkfn _ xs => xs.flatMap Opd.reads
  | .callv x xs => x.reads ++ xs.flatMap Opd.reads
def AOp.reads (o : AOp) : List Nat := o.ins.reads ++ (match o.guard with | some (j, _) => [j] | none => [])
/-- may it touch the heap (a new block of its own apart)? -/
def Ins.touches : Ins → Bool
  | .ld .. | .st .. | .slice .. | .iaddr .. | .app .. | .call .. | .callv .. | .bslice .. | .b2s _ | .s2s _ | .alloc _ | .box _ | .mkslice .. | .rslice .. | .rng _ | .nxt _ | .clr .. => true
  | _ => false
def AOp.apartT (x y : AOp) : Bool :=
  (match x.dst with
   | some d => !y.reads.contains d && y.dst != some d
   | none => true) &&
  (match y.dst with
   | some d => !x.reads.contains d
   | none => true)
/-- what must lie ahead of each operation, through others -/
def ancs : List (List Nat) → List (List Nat) → List (List Nat)
  | [], acc => acc
  | l :: ls, acc => ancs ls (acc ++ [l ++ l.flatMap fun i => acc.getD i []])
/-- the same as bits -/
def ancM : List (List Nat) → List Nat → List Nat
  | [], acc => acc
  | l :: ls, acc => ancM ls (acc ++ [l.foldl (fun m i => m ||| 2 ^ i ||| acc.getD i 0) 0])
def pairsOf (ops : List AOp) : Option (List (Nat × Nat)) :=
  let an := ancM (ops.map (·.after)) []
  let n := ops.length
  let ps := (List.range n).flatMap fun j => ((List.range j).filter fun i => !(an.getD j 0).testBit i).map fun i => (i, j)
  if (ps.all fun p => (ops.getD p.1 default).apartT (ops.getD p.2 default)) && ((List.range n).all fun j => (ops.getD j default).after.all fun i => decide (i < j)) then
    some (ps.filter fun p => (ops.getD p.1 default).ins.touches && (ops.getD p.2 default).ins.touches)
  else none
def compGuard (ops : Array Oper) : Option (Nat × Bool) → Option (Option (Nat × Bool))
  | none => some none
  | some (j, want) => match ops[j]? with
    | some o => match o.dst with
      | some d => some (some (d, want))
      | none => none
    | none => none
def dstOk (nt : Nat) : Option Nat → Bool
  | some d => decide (d < nt)
  | none => true
def compOp (P : Program) (an : Ann) (ops : Array Oper) (o : Oper) : Option AOp :=
  match compGuard ops o.guard, compIns P an (match o.dst with | some d => an.own d | none => 0) o.op with
  | some g, some i => if dstOk an.nt o.dst = true then some ⟨o.dst, i, g, (o.after.toList.filter (Region.binds .any)).map (·.on)⟩ else none
  | _, _ => none
def compOps (P : Program) (an : Ann) (ops : Array Oper) : List Oper → Option (List AOp)
  | [] => some []
  | o :: os => match compOp P an ops o with
    | some a => match compOps P an ops os with
      | some asl => some (a :: asl)
      | none => none
    | none => none
def firstId : Code → Nat
  | .region id _ _ => id
  | .seq a _ => firstId a
  | .block _ c => firstId c
  | .loop c => firstId c
  | .scope c => firstId c
  | _ => 0
def compC (P : Program) (an : Ann) : Code → ACode
  | .skip => .skip
  | .region id ops draw => match compOps P an ops ops.toList with
    | some l => if draw then (match pairsOf l with | some ps => .region l (some ps) (an.lr id) | none => .stuck) else .region l none (an.lr id)
    | none => .stuck
  | .seq a b => .seq (compC P an a) (compC P an b)
  | .cond c a b => match compO c with
    | some c => .cond c (compC P an a) (compC P an b)
    | none => .stuck
  | .block id c => .block id (compC P an c)
  | .loop c => .loop (an.ll (firstId c)) (compC P an c)
  | .exit id => .exit id
  | .ret => .ret
  | .scope c => compC P an c
  | .label _ => .skip
  | _ => .stuck
def compR (P : Program) : List ResultVar → Option (List ARes)
  | [] => some []
  | .tmp t :: r => (compR P r).map (.tmp t :: ·)
  | .cell a t :: r => match kindOf P t, compR P r with
    | some k, some rs => some (.cell a k :: rs)
    | _, _ => none
def compF (P : Program) (ann : Nat → Ann) (f : Nat) : Option AFunc :=
  match P.funcs[f]? with
  | some fn => match fn.body with
    | some c => if fn.name == "runtime.NumGoroutine" then none else
      match compR P fn.results.toList with
      | some rs => some ⟨rs, compC P { ann f with nt := fn.ntmps } c⟩
      | none => none
    | none => none
  | none => none
end Go.Proofs.YtaaflagbhneakaaDoor
