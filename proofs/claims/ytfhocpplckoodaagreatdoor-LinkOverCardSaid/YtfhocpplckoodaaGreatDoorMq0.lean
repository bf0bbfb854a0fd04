/- packed -/
import Derived.WalkKit
import Derived.Below
import Derived.Laws.Sem
import Derived.Lib.ItoaNum
import Derived.Shelf.Unicode.WordAny
import Derived.Deep.MidRow
import Derived.Laws.CopyRow
import Derived.Laws.AppendOwn
import Derived.Laws.BytesString
set_option linter.unusedSimpArgs false
set_option linter.unusedVariables false
open Option.some renaming injEq→Xb
open Prod.mk renaming injEq→Xd
open List renaming length_append→Xi,getElem?_eq_some_iff→Xl,map_cons→Xm,append_nil→Xo,length_cons→Xp,mem_append→Xv,getElem?_set→Xx,replicate→Xz,nil_append→XA,mem_of_getElem?→XC,eq_nil_of_length_eq_zero→XG,all_eq_true→XH,take_of_length_le→XI,getElem?_cons_zero→XJ,flatMap_cons→XK,all_cons→XO,mem_cons→XR,getElem?_take→XS,getElem?_cons_succ→XT,append_assoc→XU,length_take→X0,mem_map→X2,getElem?_eq_none_iff→X3,length_drop→X9,range→Wa,eq_of_mem_replicate→Wb,mem_flatMap→Wk,ext_getElem?→Wp,getElem?_drop→Wq,mem_or_eq_of_mem_set→Wt,mem_of_mem_drop→Ww,drop_eq_nil_of_le→Wz,getElem?_append→WL,mem_of_mem_take→WM,getElem?_map→WZ,size_toArray→Xad,getElem_mem→Xag,drop_take→Xaj,take_zero→Xax,length_set→XaE,take_take→XaM,take_left→XaN,drop_append→XaS,take_append→XaT
open Bool renaming false_eq_true→Xj,and_eq_true→Xk
open Option renaming map_eq_some_iff→Xq,map_some→X8,bind_some→Wj,isSome_none→Xal
open Or renaming inl→Xr,inr→XE
open Nat renaming zero_add→XB,le_refl→XF,add_zero→Wc,add_mul→Wh,mul_le_mul_right→Wl,add_assoc→WC,sub_self→Xaa,min_eq_left→Xam,lt_irrefl→XaF,mul_le_mul_left→XaX,zero_mul→Xbd
open Array renaming length_toList→XM,getElem?_eq_some_iff→XX,getElem?_setIfInBounds_ne→Wo,range→WS,getElem?_modify→XaP,ext'→Xbf
open BitVec renaming ofInt→XP
open UInt8 renaming ofNat→X1
open ByteArray renaming size→Wu
namespace Go.Proofs.YtfhocpplckoodaaGreatDoor
set_option maxHeartbeats 16000000
set_option maxRecDepth 10000
theorem aI{a b : Prop}(x : a)(y : b) : a /\ b:=And.intro x y
section
inductive AVal where
 |top
 |any
 |int (k:IntKind) (n:Int)
 |bool (b:Bool)
 |str (l:List UInt8)
 |nilp
 |ref (t o:Nat)
 |eref (t g i o:Nat)
 |iptr (cs:List AVal) (o:Nat)
 |lst (x:Bool) (xs:List AVal)
 |sl (t g lo n:Nat)
 |agg (cs:List AVal)
 |tup (vs:List AVal)
 |fn (f:Nat) (caps:List AVal)
 |nilm
 |map (t:Nat)
 |nili
 |iface (t:Nat) (x:AVal)
 |pan (x:AVal)
 deriving Inhabited
inductive ZO where
 |free
 |var (cs:List AVal)
 |row (g k:Nat) (xs:List AVal)
 |frow (g k:Nat) (xs:List AVal)
 |map (es:List (AVal×AVal))
 |rrow (g k:Nat) (xs:List AVal)
 |siter (l:List UInt8) (p:Nat)
 |opq
 deriving Inhabited
abbrev Za:=List ZO
def AVal.cells:AVal->List AVal
 | .agg cs=>cs
 |x=>[x]
inductive Opd where
 |t (n:Nat)
 |c (v:AVal)
 deriving Inhabited
inductive ZXT where |eql |neq |lss |leq |gtr |geq
 deriving DecidableEq,Inhabited
inductive Ins where
 |mov (x:Opd)
 |pick (c a b:Opd)
 |alloc (zs:List AVal)
 |box (x:Opd)
 |build (zs:List AVal) (parts:List (Nat×Nat×Opd))
 |bslice (own:Bool) (k n:Nat) (z:AVal) (parts:List (Nat×Opd))
 |ld (k:Option Nat) (a:Opd)
 |st (k:Nat) (a v:Opd)
 |bin (op:BinOp) (x y:Opd)
 |un (op:UnOp) (x:Opd)
 |i2i (k:IntKind) (x:Opd)
 |same (x:Opd)
 |s2b (x:Opd)
 |b2s (x:Opd)
 |slice (k:Nat) (x:Opd) (lo hi mx:Option Opd)
 |sslice (x:Opd) (lo hi:Option Opd)
 |faddr (off:Nat) (x:Opd)
 |field (k:Option Nat) (off:Nat) (x:Opd)
 |iaddr (k:Nat) (x i:Opd)
 |aaddr (k n:Nat) (x i:Opd)
 |sindex (x i:Opd)
 |aindex (s:Option Nat) (k n:Nat) (x i:Opd)
 |ext (x:Opd) (i:Nat)
 |len (x:Opd)
 |slen (x:Opd)
 |app (k bytes:Nat) (z:AVal) (x y:Opd)
 |mkslice (k bytes:Nat) (z:AVal) (l c:Opd)
 |mm (max:Bool) (xs:List Opd)
 |nilchk (x:Opd)
 |s2s (x:Opd)
 |beq (neg:Bool) (x y:Opd)
 |peq (neg:Bool) (x y:Opd)
 |eqv (neg:Bool) (ks:List Nat) (x y:Opd)
 |ieq (neg:Bool) (x y:Opd)
 |mki (t:Nat) (x:Opd)
 |panic (x:Opd)
 |call (f own:Nat) (view:Bool) (args:List Opd)
 |callv (x:Opd) (args:List Opd)
 |mkfn (f:Nat) (caps:List Opd)
 |rslice (k n:Nat) (z:AVal) (parts:List (Nat×Opd))
 |rng (x:Opd)
 |nxt (x:Opd)
 |i2s (x:Opd)
 |clr (k:Nat) (z:AVal) (x:Opd)
 |mkmap
 |look (kc:Nat) (z:AVal) (ok:Bool) (m k:Opd)
 |mset (kc:Nat) (m k v:Opd)
 |mdel (kc:Nat) (m k:Opd)
 |mlen (m:Opd)
 deriving Inhabited
structure AOp where
 dst:Option Nat
 ins:Ins
 guard:Option (Nat×Bool)
 after:List Nat
 deriving Inhabited
inductive Ze where
 |skip
 |region (ops:List AOp) (chk:Option (List (Nat×Nat))) (live:List Nat)
 |seq (a b:Ze)
 |cond (c:Opd) (a b:Ze)
 |block (id:Nat) (c:Ze)
 |loop (live:List Nat) (c:Ze)
 |exit (id:Nat)
 |ret
 |stuck
 deriving Inhabited
inductive ZcV where
 |tmp (t:Nat)
 |cell (a:Nat) (k:Option Nat)
 deriving Inhabited
structure ZA where
 res:List ZcV
 body:Ze
 deriving Inhabited
structure Cls where
 rd:List Nat:=[]
 wr:List Nat:=[]
 any:Bool:=false
 got:List (Nat×Option Nat×Nat×AVal):=[]
 upd:List (Nat×List AVal):=[]
 deriving Inhabited
abbrev Tms:=List (Nat×AVal)
def tget:Tms->Nat->AVal
 | [],_=>.top
 |(d,v)::r,n=>if d=n then v else tget r n
def tins(d:Nat)(v:AVal):Tms->Tms
 | []=>[(d,v)]
 |(e,w)::r=>if e<d then(d,v)::(e,w)::r else if e=d then(d,v)::r else(e,w)::tins d v r
def Opd.ev(tm:Tms):Opd->AVal
 | .t n=>tget tm n
 | .c v=>v
def tput(tm:Tms)(d:Option Nat)(v:AVal):Tms :=
 match d with
 |some d=>tins d v tm
 |none=>tm
def keepL(live:List Nat)(tm:Tms):Tms:=live.map fun n=>(n,tget tm n)
abbrev ZV:=Nat->List AVal->Za->Option (AVal×Za)
def Zb(b:UInt8):AVal:=.int .u8 b.toNat
def ZsI:AVal->Option UInt8
 | .int .u8 n=>some (X1 n.toNat)
 |_=>none
def Zf3:List AVal->Option (List UInt8)
 | []=>some []
 |x::xs=>match ZsI x with
  |some b=>match Zf3 xs with
   |some l=>some (b::l)
   |none=>none
  |none=>none
def ZY(σ:Za):AVal->Option (List AVal×List Nat)
 | .lst _ xs=>some (xs,[])
 | .str l=>some (l.map Zb,[])
 | .sl t g lo n=>match σ[t]? with
  |some (.row g' _ xs)=>if g'=g/\lo+n<=xs.length then some ((xs.drop lo).take n,[t])else none
  |some (.frow g' _ xs)=>if g'=g/\lo+n<=xs.length then some ((xs.drop lo).take n,[t])else none
  |_=>none
 |_=>none
def ZK(σ:Za):AVal->Option (AVal×List Nat)
 | .lst _ xs=>some (.lst false xs,[])
 | .sl t g lo n=>match ZY σ (.sl t g lo n)with
  |some (xs,ts)=>some (.lst false xs,ts)
  |none=>none
 | .int k n=>some (.int k n,[])
 | .bool b=>some (.bool b,[])
 | .str l=>some (.str l,[])
 | .nilp=>some (.nilp,[])
 | .nilm=>some (.nilm,[])
 | .nili=>some (.nili,[])
 |_=>none
def Zat(σ:Za):List AVal->Option (List AVal×List Nat)
 | []=>some ([],[])
 |x::xs=>match ZK σ x with
  |some (y,ts)=>match Zat σ xs with
   |some (ys,us)=>some (y::ys,ts++us)
   |none=>none
  |none=>none
def ZP(σ:Za):AVal->Option (AVal×List Nat)
 | .agg cs=>match Zat σ cs with
  |some (ys,ts)=>some (.agg ys,ts)
  |none=>none
 |x=>ZK σ x
def viewAs(σ:Za):List AVal->Option (List AVal×List Nat)
 | []=>some ([],[])
 |x::xs=>match ZP σ x with
  |some (y,ts)=>match viewAs σ xs with
   |some (ys,us)=>some (y::ys,ts++us)
   |none=>none
  |none=>none
def viewR(σ:Za):AVal->Option (AVal×List Nat)
 | .tup vs=>match viewAs σ vs with
  |some (ys,ts)=>some (.tup ys,ts)
  |none=>none
 |x=>ZP σ x
def Zr(σ:Za):List Nat->Za
 | []=>σ
 |t::ts=>match σ[t]? with
  |some (.row g k xs)=>Zr (σ.set t (.frow g k xs)) ts
  |_=>Zr σ ts
def Za5:AVal->Bool
 | .int _ _ | .bool _ | .str _ | .nilp | .nilm | .nili=>true
 |_=>false
def Zbr:AVal->Bool
 | .agg cs=>cs.all Za5
 |x=>Za5 x
def ZbJ:AVal->Bool
 | .tup vs=>vs.all Zbr
 | .pan (.iface _ x)=>Za5 x
 |x=>Zbr x
def partA(k:Option Nat)(cs:List AVal)(o:Nat):Option AVal :=
 match k with
 |none=>cs[o]?
 |some k=>if o+k<=cs.length then some (.agg ((cs.drop o).take k))else none
def setAt(cs:List AVal)(o:Nat)(vs:List AVal):List AVal:=cs.take o++vs++cs.drop (o+vs.length)
def ZX:AVal->Bool
 | .agg _ | .tup _ | .top | .pan _=>false
 |_=>true
def ZbA:AVal->Bool
 | .top=>false
 |_=>true
def Zab(zs:List AVal):List (Nat×Nat×AVal)->Option (List AVal)
 | []=>some zs
 |(off,k,v)::r=>if v.cells.length=k/\off+k<=zs.length/\ZbA v=true then Zab (setAt zs off v.cells) r else none
def kOk(k:Nat):List AVal->Bool
 | []=>true
 |x::_=>x.cells.length==k
def ldA(σ:Za)(k:Option Nat):AVal->Option (AVal×Za×Cls)
 | .ref t o=>match σ[t]? with
  |some (.var cs)=>match partA k cs o with
   |some v=>some (v,σ,{ rd:=[t],got:=[(t,k,o,v)] })
   |none=>none
  |_=>none
 | .eref t g i o=>match σ[t]? with
  |some (.row g' _ xs)=>if g'=g then match xs[i]? with
   |some x=>match partA k x.cells o with
    |some v=>some (v,σ,{ rd:=[t] })
    |none=>none
   |none=>none else none
  |some (.frow g' _ xs)=>if g'=g then match xs[i]? with
   |some x=>match partA k x.cells o with
    |some v=>some (v,σ,{ rd:=[t] })
    |none=>none
   |none=>none else none
  |some (.rrow g' _ xs)=>if g'=g then match xs[i]? with
   |some x=>match partA k x.cells o with
    |some v=>some (v,σ,{ rd:=[t] })
    |none=>none
   |none=>none else none
  |_=>none
 | .iptr cs o=>match partA k cs o with
  |some v=>some (v,σ,{})
  |none=>none
 |_=>none
def Zg5(x:AVal)(o:Nat)(vs:List AVal):Option AVal :=
 match x with
 | .agg cs=>if o+vs.length<=cs.length then some (.agg (setAt cs o vs))else none
 |_=>match o,vs with
  |0,[v]=>some v
  |_,_=>none
def stA(σ:Za)(k:Nat)(a v:AVal):Option (AVal×Za×Cls) :=
 if v.cells.length=k/\v.cells.all ZX then
  match a with
  | .ref t o=>match σ[t]? with
   |some (.var cs)=>if o+k<=cs.length then some (.tup [],σ.set t (.var (setAt cs o v.cells)),{ wr:=[t] })else none
   |_=>none
  | .eref t g i o=>match σ[t]? with
   |some (.row g' kk xs)=>if g'=g then match xs[i]? with
    |some x=>match Zat σ v.cells with
     |some (ys,ts)=>if ts.contains t then none else match Zg5 x o ys with
      |some x'=>some (.tup [],(Zr σ ts).set t (.row g kk (xs.set i x')),{ wr:=t::ts })
      |none=>none
     |none=>none
    |none=>none else none
   |some (.rrow g' kk xs)=>if g'=g then match xs[i]? with
    |some x=>match Zg5 x o v.cells with
     |some x'=>some (.tup [],σ.set t (.rrow g kk (xs.set i x')),{ wr:=[t] })
     |none=>none
    |none=>none else none
   |_=>none
  |_=>none
 else none
def arithA(op:BinOp)(k:IntKind)(a b:Int):Option AVal :=
 match op with
 | .add=>some (.int k (k.wrap (a+b)))
 | .sub=>some (.int k (k.wrap (a-b)))
 | .mul=>some (.int k (k.wrap (a*b)))
 | .quo=>if b=0 then none else some (.int k (k.wrap (a.tdiv b)))
 | .rem=>if b=0 then none else some (.int k (a.tmod b))
 | .and=>some (.int k (k.wrap (XP k.bits a&&&XP k.bits b).toNat))
 | .or=>some (.int k (k.wrap (XP k.bits a |||XP k.bits b).toNat))
 | .xor=>some (.int k (k.wrap (XP k.bits a ^^^ XP k.bits b).toNat))
 | .andNot=>some (.int k (k.wrap (XP k.bits a &&& ~~~ XP k.bits b).toNat))
 | .eql=>some (.bool (a==b))
 | .neq=>some (.bool (a != b))
 | .lss=>some (.bool (a<b))
 | .leq=>some (.bool (a<=b))
 | .gtr=>some (.bool (a>b))
 | .geq=>some (.bool (a>=b))
 |_=>none
def ZaR(op:BinOp)(k:IntKind)(a b:Int):Option AVal :=
 if b<0 then none else
 match op with
 | .shl=>some (.int k (k.wrap (a*2^min b.toNat k.bits)))
 | .shr=>some (.int k (a.fdiv (2^min b.toNat k.bits)))
 |_=>none
def Zbi(op:BinOp)(a b:List UInt8):Option AVal :=
 match op with
 | .add=>if a.length+b.length<=9223372036854775807 then some (.str (a++b))else none
 | .eql=>some (.bool (a==b))
 | .neq=>some (.bool (!(a==b)))
 | .lss=>some (.bool (Op.bytesLess a b))
 | .leq=>some (.bool (Op.bytesLess a b ||a==b))
 | .gtr=>some (.bool !(Op.bytesLess a b ||a==b))
 | .geq=>some (.bool !(Op.bytesLess a b))
 |_=>none
def binA(op:BinOp)(x y:AVal):Option AVal :=
 match x,y with
 | .int k a,.int k' b=>match op with
  | .shl=>ZaR .shl k a b
  | .shr=>ZaR .shr k a b
  |op=>if k=k' then arithA op k a b else none
 | .str a,.str b=>Zbi op a b
 |_,_=>none
def unA(op:UnOp)(x:AVal):Option AVal :=
 match op,x with
 | .neg,.int k n=>arithA .sub k 0 n
 | .xor,.int k n=>arithA .xor k (if k.signed then -1 else k.max) n
 | .not,.bool b=>some (.bool !b)
 |_,_=>none
def ZcP(x:AVal)(y:Nat):Option Nat :=
 match x with
 | .int _ i=>if 0<=i/\i<=y then some i.toNat else none
 |_=>none
def Zbp(x:Option AVal)(d y:Nat):Option Nat :=
 match x with
 |some v=>ZcP v y
 |none=>some d
def ZbI (σ : Za) (k : Nat) (x : AVal) (lo hi mx : Option AVal) : Option (AVal × Za × Cls) :=
  match x with
  | .lst b xs => match Zbp mx xs.length xs.length with
    | none => none
    | some m => match Zbp hi xs.length m with
      | none => none
      | some h => match Zbp lo 0 h with
        | none => none
        | some l => if l == 0 || kOk k xs then
            if mx.isSome then some (.lst (h == m) ((xs.take h).drop l), σ, {})
            else some (.lst (b && h == xs.length) ((xs.take h).drop l), σ, {})
          else none
  | .sl t g p n => match ZY σ (.sl t g p n) with
    | none => none
    | some _ => match mx with
      | some m => match ZcP m 0 with
        | some _ => match Zbp hi n 0 with
          | some _ => match Zbp lo 0 0 with
            | some _ => some (.lst true [], σ, { rd := [t] })
            | none => none
          | none => none
        | none => match ZcP m n with
          | some q1 => match Zbp hi n q1 with
            | some q2 => match Zbp lo 0 q2 with
              | some _ => some (.any, σ, { rd := [t] })
              | none => none
            | none => none
          | none => none
      | none => match σ[t]? with
        | some (.row _ k' xs) => if k' = k then match Zbp hi n (xs.length - p) with
          | none => none
          | some h => match Zbp lo 0 h with
            | none => none
            | some l => some (.sl t g (p + l) (h - l), σ, { rd := [t] }) else none
        | some (.frow _ k' xs) => if k' = k then match Zbp hi n (xs.length - p) with
          | none => none
          | some h => match Zbp lo 0 h with
            | none => none
            | some l => some (.sl t g (p + l) (h - l), σ, { rd := [t] }) else none
        | _ => none
  | _ => none
def faddrA(off:Nat):AVal->Option AVal
 | .ref t o=>some (.ref t (o+off))
 | .eref t g i o=>some (.eref t g i (o+off))
 | .iptr x o=>some (.iptr x (o+off))
 |_=>none
def Zb9 (σ : Za) (k : Nat) (x i : AVal) : Option (AVal × Za × Cls) :=
  match i with
  | .int _ i => if 0 <= i then
      match x with
      | .lst _ xs => match xs[i.toNat]? with
        | some x => if x.cells.length = k then some (.iptr x.cells 0, σ, {}) else none
        | none => none
      | .sl t g p n => if i.toNat < n then match σ[t]? with
          | some (.row g' k' _) => if g' = g /\ k' = k then some (.eref t g (p + i.toNat) 0, σ, { rd := [t] }) else none
          | some (.frow g' k' _) => if g' = g /\ k' = k then some (.eref t g (p + i.toNat) 0, σ, { rd := [t] }) else none
          | some (.rrow g' k' _) => if g' = g /\ k' = k then some (.eref t g (p + i.toNat) 0, σ, { rd := [t] }) else none
          | _ => none else none
      | _ => none
    else none
  | _ => none
def ZgP (σ : Za) (sq k bytes : Nat) (x y : AVal) : Option (AVal × Za × Cls) :=
  match y with
  | .sl u h q m => match σ[u]? with
    | some (.rrow h' k1 zs) => if h' = h /\ k1 = k /\ q + m <= zs.length /\ 0 < m then
        match x with
        | .lst true [] => if m * bytes <= 140737488355328 then some (.sl sq 0 0 m, σ.set sq (.rrow 0 k ((zs.drop q).take m)), { any := true }) else none
        | .sl t g p n => match σ[t]? with
          | some (.rrow g' k' xs) => if p = 0 /\ g' = g /\ k' = k /\ (n + m) * bytes <= 140737488355328 /\ n = xs.length then
              some (.sl t (g + 1) 0 (n + m), σ.set t (.rrow (g + 1) k (xs ++ (zs.drop q).take m)), { any := true })
            else none
          | _ => none
        | _ => none
      else none
    | _ => none
  | _ => none
def ZaE (σ : Za) (sq k bytes : Nat) (x y : AVal) : Option (AVal × Za × Cls) :=
  match ZY σ y with
  | none => ZgP σ sq k bytes x y
  | some (ys, us) => if kOk k ys then
      match x with
      | .lst true [] => if ys.length * bytes <= 140737488355328 then some (.sl sq 0 0 ys.length, σ.set sq (.row 0 k ys), { rd := us }) else none
      | .lst true (x :: xs) => if kOk k (x :: xs) /\ ((x :: xs).length + ys.length) * bytes <= 140737488355328 then
          match ys with
          | [] => some (.lst true (x :: xs), σ, { rd := us })
          | _ :: _ => some (.sl sq 0 0 ((x :: xs).length + ys.length), σ.set sq (.row 0 k ((x :: xs) ++ ys)), { rd := us })
          else none
      | .sl t g p n => match σ[t]? with
        | some (.row g' k' xs) => if p = 0 /\ g' = g /\ k' = k /\ (n + ys.length) * bytes <= 140737488355328 then
            if n = xs.length then some (.sl t (g + 1) 0 (n + ys.length), σ.set t (.row (g + 1) k (xs ++ ys)), { rd := us, wr := [t] })
            else if n + ys.length <= xs.length then some (.sl t g 0 (n + ys.length), σ.set t (.row g k (xs.take n ++ ys ++ xs.drop (n + ys.length))), { rd := us, wr := [t] })
            else none
          else none
        | _ => none
      | _ => none
    else none
def freeAt(σ:Za)(s:Nat):Bool:=match σ[s]? with
 |some .free=>true
 |_=>false
mutual
def ZT:AVal->List Nat
 | .ref t _=>[t]
 | .eref t _ _ _=>[t]
 | .sl t _ _ _=>[t]
 | .map t=>[t]
 | .agg cs=>Zt cs
 | .tup vs=>Zt vs
 | .fn _ vs=>Zt vs
 | .iface _ x=>ZT x
 | .pan x=>ZT x
 |_=>[]
def Zt:List AVal->List Nat
 | []=>[]
 |x::xs=>ZT x++Zt xs
end
def Zx:ZO->List Nat
 | .var cs=>Zt cs
 | .rrow _ _ xs=>Zt xs
 | .map es=>Zt (es.map (·.2))
 |_=>[]
abbrev Rho:=Nat->Nat->Option (Nat×Nat)
mutual
def Zo(ρ:Rho):AVal->AVal
 | .ref t o=>match ρ t 0 with
  |some (t',0)=>.ref t' o
  |_=>.any
 | .eref t g i o=>match ρ t g with
  |some (t',g')=>.eref t' g' i o
  |none=>.any
 | .sl t g lo n=>match ρ t g with
  |some (t',g')=>.sl t' g' lo n
  |none=>.any
 | .map t=>match ρ t 0 with
  |some (t',0)=>.map t'
  |_=>.any
 | .agg cs=>.agg (Zh ρ cs)
 | .tup vs=>.tup (Zh ρ vs)
 | .fn f vs=>.fn f (Zh ρ vs)
 | .iface t x=>.iface t (Zo ρ x)
 | .pan x=>.pan (Zo ρ x)
 |x=>x
def Zh(ρ:Rho):List AVal->List AVal
 | []=>[]
 |x::xs=>Zo ρ x::Zh ρ xs
end
def Zy(ρ:Rho)(g:Nat):ZO->ZO
 | .var cs=>.var (Zh ρ cs)
 | .row _ k xs=>.row g k xs
 | .frow _ k xs=>.frow g k xs
 | .map es=>.map (es.map fun p=>(p.1,Zo ρ p.2))
 | .rrow _ k xs=>.rrow g k (Zh ρ xs)
 | .siter l p=>.siter l p
 | .opq=>.opq
 | .free=>.free
def Zs(σ:Za):Nat->List Nat->List Nat->List Nat
 |0,_,acc=>acc
 |_+1,[],acc=>acc
 |n+1,t::todo,acc=>if acc.contains t then Zs σ n todo acc else Zs σ n (Zx (σ.getD t .free)++todo) (acc++[t])
def ZI(t:Nat):List Nat->Nat->Option Nat
 | [],_=>none
 |x::xs,i=>if x=t then some i else ZI t xs (i+1)
def Zl:ZO->Nat
 | .row g _ _=>g
 | .frow g _ _=>g
 | .rrow g _ _=>g
 |_=>0
def ZF(m j:Nat)(b:ZO):Nat:=if j<m/\Zl b≠0 then 1 else 0
def Zk(σ:Za)(m:Nat)(ids:List Nat):Rho:=fun t g=>match ZI t ids 0 with
 |some j=>match σ[t]? with
  |some .free=>none
  |some b=>if g=Zl b then some (j,ZF m j b)else none
  |none=>none
 |none=>none
def Zn(σ:Za)(m:Nat)(ids:List Nat)(ρ:Rho):List Nat->Nat->Za
 | [],_=>[]
 |t::ts,j=>Zy ρ (ZF m j (σ.getD t .free)) (σ.getD t .free)::Zn σ m ids ρ ts (j+1)
def Zu(m:Nat)(roots:List AVal)(σ:Za):List Nat:=Zs σ 1000 (Zt roots++(Wa m).flatMap fun t=>Zx (σ.getD t .free)) (Wa m)
def gcA(m:Nat)(roots:List AVal)(σ:Za):List AVal×Za :=
 (Zh (Zk σ m (Zu m roots σ)) roots,Zn σ m (Zu m roots σ) (Zk σ m (Zu m roots σ)) (Zu m roots σ) 0)
def gcT(m:Nat)(tm:Tms)(σ:Za):Tms×Za :=
 ((tm.map (·.1)).zip (gcA m (tm.map (·.2)) σ).1,(gcA m (tm.map (·.2)) σ).2)
def Zdc(σ:Za):AVal->Option (AVal×List Nat)
 | .lst _ xs=>some (.lst false xs,[])
 | .sl t g lo n=>match ZY σ (.sl t g lo n)with
  |some (xs,ts)=>some (.lst false xs,ts)
  |none=>none
 | .pan _=>none
 |x=>some (x,[])
def Zc2(σ:Za):List AVal->Option (List AVal×List Nat)
 | []=>some ([],[])
 |x::xs=>match Zdc σ x with
  |some (y,ts)=>match Zc2 σ xs with
   |some (ys,us)=>some (y::ys,ts++us)
   |none=>none
  |none=>none
def showA(σ:Za):AVal->Option (AVal×List Nat)
 | .agg cs=>match Zc2 σ cs with
  |some (ys,ts)=>some (.agg ys,ts)
  |none=>none
 |x=>Zdc σ x
def showAs(σ:Za):List AVal->Option (List AVal×List Nat)
 | []=>some ([],[])
 |x::xs=>match showA σ x with
  |some (y,ts)=>match showAs σ xs with
   |some (ys,us)=>some (y::ys,ts++us)
   |none=>none
  |none=>none
def ZbB(m:Nat):Option (AVal×Za)->Option (AVal×Za)
 |some (.pan x,σ)=>some (.pan x,σ)
 |some (r,σ)=>match viewR σ r with
  |some (r',ts)=>match gcA m [r'] (Zr σ ts)with
   |([r''],σ')=>some (r'',σ')
   |_=>none
  |none=>none
 |none=>none
def okB:ZO->Bool
 | .var _=>true
 | .row _ _ _=>true
 | .frow _ _ _=>true
 | .map _=>true
 | .rrow _ _ _=>true
 | .siter _ _=>true
 | .opq=>true
 | .free=>false
def Zcr:ZO->ZO->Bool
 | .var _,.var _=>true
 | .row _ _ _,.row _ _ _=>true
 | .row _ _ _,.frow _ _ _=>true
 | .frow _ _ _,.frow _ _ _=>true
 | .map _,.map _=>true
 | .rrow _ _ _,.rrow _ _ _=>true
 | .siter _ _,.siter _ _=>true
 | .opq,.opq=>true
 |_,_=>false
def ZaW(σ:Za)(ids:List Nat):Za->Nat->Bool
 | [],_=>true
 |b::bs,j=>okB b&&(match ids[j]? with
  |some t=>Zcr (σ.getD t .free) b&&decide (Zl b<=1)
  |none=>decide (Zl b=0))&&ZaW σ ids bs (j+1)
def ZaJ(σ:Za)(ids:List Nat)(sq:Nat):Rho:=fun j g=>match ids[j]? with
 |some t=>some (t,Zl (σ.getD t .free)+g)
 |none=>some (sq+(j-ids.length),g)
def ZaN(ids:List Nat)(sq j:Nat):Nat:=ids.getD j (sq+(j-ids.length))
def Zch(σ:Za)(ids:List Nat)(j:Nat)(b:ZO):Nat:=match ids[j]? with
 |some t=>Zl (σ.getD t .free)+Zl b
 |none=>Zl b
def Za9(σ0:Za)(ids:List Nat)(sq:Nat):Za->Nat->Za->Za
 | [],_,σ=>σ
 |b::bs,j,σ=>Za9 σ0 ids sq bs (j+1) (σ.set (ZaN ids sq j) (Zy (ZaJ σ0 ids sq) (Zch σ0 ids j b) b))
def ZaM(σ:Za)(sq:Nat):Nat->Bool
 |0=>true
 |n+1=>freeAt σ sq&&ZaM σ (sq+1) n
def ZbS(bf:Bool)(σ:Za)(args:List AVal):Option (List AVal×List Nat):=if bf then some (args,[])else showAs σ args
def Z3(view:Bool)(m:Nat)(r:Option (AVal×Za)):Option (AVal×Za):=if view then ZbB m r else r
def Zn6:AVal->Bool
 | .int .u8 _=>true
 |_=>false
def Zjc:AVal->Bool
 | .lst _ xs=>xs.all Zn6
 |x=>Za5 x
def Zje:AVal->Bool
 | .agg cs=>cs.all Zjc
 |x=>Zjc x
def Zji:AVal->Bool
 | .tup vs=>vs.all Zje
 |x=>Zje x
def nb1:AVal->Bool
 | .int .u8 _=>false
 | .int _ _ | .bool _ | .str _ | .lst _ _ | .nilp | .nilm | .nili=>true
 |_=>false
def Zlo(xs:List AVal):Bool:=xs.all fun x=>x.cells.all nb1
def Zgk(σ:Za)(t:Nat):Bool:=match σ[t]? with
 |some (.row _ _ xs)=>Zlo xs
 |some (.frow _ _ _)=>true
 |_=>false
def ZcY(σ:Za)(ts:List Nat)(r:AVal):Bool:=!ts.isEmpty&&Zji r&&ts.all (Zgk σ)
def ZhP(own:Nat):AVal->Za->Option (Nat×Nat×Nat×List AVal)
 | .sl 0 0 lo n,[.row 0 k xs]=>if decide (own=1)&&xs.all Zbr then some (lo,n,k,xs)else none
 |_,_=>none
def ZaZ(σ:Za):List Nat->List (Nat×List AVal)
 | []=>[]
 |t::ts=>match σ[t]? with
  |some (.var cs)=>(t,cs)::ZaZ σ ts
  |_=>ZaZ σ ts
def ZaA(σ σf:Za)(ids ts:List Nat)(sq own:Nat):Option (AVal×Za)->Option (AVal×Za×Cls)
 |none=>none
 |some (r,h) =>
  if ids.isEmpty&&h.isEmpty then
   if ZbJ r then some (r,σ,{ rd:=ts })else if ZcY σ ts r then some (r,σ,{ rd:=ts })else some (Zo (ZaJ [] [] sq) r,σf,{ rd:=ts,wr:=ts })
  else match if ids.isEmpty then ZhP own r h else none with
  |some (lo,n,k,xs)=>some (.sl sq 0 lo n,σ.set sq (.row 0 k xs),{ rd:=ts })
  |none=>if decide (h.length<=ids.length+own)&&decide (ids.length<=h.length)&&ZaW σf ids h 0&&ZaM σf sq own then
   some (Zo (ZaJ σf ids sq) r,Za9 σf ids sq h 0 σf,{ any:=true,upd:=ZaZ (Za9 σf ids sq h 0 σf) ids })
  else none
def ZbK(O:ZV)(σ σf:Za)(ids:List Nat)(sq f own:Nat)(view:Bool)(vs:List AVal)(ts:List Nat):Option (AVal×Za×Cls) :=
 if ids.all fun t=>okB (σf.getD t .free)then
  ZaA σ σf ids ts sq own (Z3 view ids.length (O f (Zh (Zk σf 0 ids) vs) (Zn σf 0 ids (Zk σf 0 ids) ids 0)))
 else none
def Zj(O:ZV)(bf:Nat->Bool)(σ:Za)(sq f own:Nat)(view:Bool)(args:List AVal):Option (AVal×Za×Cls) :=
 match ZbS (bf f) σ args with
 |none=>none
 |some (vs,ts)=>ZbK O σ (Zr σ ts) (Zs (Zr σ ts) 1000 (Zt vs) []) sq f own view vs ts
def Zf7:AVal->AVal->Option Bool
 | .int k a,.int k' b=>if k=k' then some (a==b)else none
 | .bool a,.bool b=>some (a==b)
 | .str a,.str b=>some (a==b)
 |_,_=>none
def Zbx:AVal->Nat
 | .int _ _=>0
 | .bool _=>1
 | .str _=>2
 |_=>4
def Zgt:List Nat->List AVal->Bool
 | [],[]=>true
 |k::ks,x::xs=>Zbx x==k&&Zgt ks xs
 |_,_=>false
def Zf4:List AVal->List AVal->Option Bool
 | [],[]=>some true
 |x::xs,y::ys=>match Zf7 x y with
  |some b=>match Zf4 xs ys with
   |some c=>some (b&&c)
   |none=>none
  |none=>none
 |_,_=>none
def Zoa(σ:Za)(k:Nat)(z:AVal):AVal->Option (AVal×Za×Cls)
 | .sl t g lo n=>match σ[t]? with
  |some (.row g' k' xs)=>if g'=g/\k'=k/\lo+n<=xs.length/\z.cells.length=k then some (.tup [],σ.set t (.row g k (xs.take lo++Xz n z++xs.drop (lo+n))),{ wr:=[t] })else none
  |_=>none
 |_=>none
def Zf2(l:List UInt8)(p:Nat):Nat×Nat:=Utf8.decode ⟨l.toArray⟩ p
def ZgJ(σ:Za)(a b:AVal):AVal->Option (AVal×Za×Cls)
 | .bool true=>some (a,σ,{})
 | .bool false=>some (b,σ,{})
 |_=>none
def ZnU:AVal->Bool
 | .int _ _ | .bool _ | .str _=>true
 |_=>false
def Zhm(k:AVal):List (AVal×AVal)->Nat->Option (Option (Nat×AVal))
 | [],_=>some none
 |(x,v)::r,i=>match Zf7 k x with
  |some true=>some (some (i,v))
  |some false=>Zhm k r (i+1)
  |none=>none
def Zpc(ok:Bool)(v:AVal)(b:Bool):AVal:=if ok then .tup [v,.bool b]else v
def Zf6(σ:Za)(kc:Nat)(z:AVal)(ok:Bool)(m k:AVal):Option (AVal×Za×Cls) :=
 if Zbx k=kc then match m with
  | .nilm=>some (Zpc ok z false,σ,{})
  | .map t=>match σ[t]? with
   |some (.map es)=>match Zhm k es 0 with
    |some (some (_,v))=>some (Zpc ok v true,σ,{ rd:=[t] })
    |some none=>some (Zpc ok z false,σ,{ rd:=[t] })
    |none=>none
   |_=>none
  |_=>none
 else none
def ZmL(σ:Za)(kc:Nat)(m k v:AVal):Option (AVal×Za×Cls) :=
 if Zbx k=kc/\ZnU k=true/\v.cells.all ZX=true then match m with
  | .map t=>match σ[t]? with
   |some (.map es)=>match Zhm k es 0 with
    |some (some (j,_))=>some (.tup [],σ.set t (.map (es.set j (k,v))),{ wr:=[t] })
    |some none=>some (.tup [],σ.set t (.map (es++[(k,v)])),{ wr:=[t] })
    |none=>none
   |_=>none
  |_=>none
 else none
def ZkQ(σ:Za)(kc:Nat)(m k:AVal):Option (AVal×Za×Cls) :=
 if Zbx k=kc then match m with
  | .nilm=>some (.tup [],σ,{})
  | .map t=>match σ[t]? with
   |some (.map es)=>match Zhm k es 0 with
    |some (some (j,_))=>some (.tup [],σ.set t (.map (es.eraseIdx j)),{ wr:=[t] })
    |some none=>some (.tup [],σ.set t (.map es),{ wr:=[t] })
    |none=>none
   |_=>none
  |_=>none
 else none
def Zhg(σ:Za):AVal->Option (AVal×Za×Cls)
 | .nilm=>some (.int .i64 0,σ,{})
 | .map t=>match σ[t]? with
  |some (.map es)=>some (.int .i64 es.length,σ,{ rd:=[t] })
  |_=>none
 |_=>none
def execI (O : ZV) (bf : Nat -> Bool) (tm : Tms) (σ : Za) (sq : Nat) : Ins -> Option (AVal × Za × Cls)
  | .mov x => some (x.ev tm, σ, {})
  | .pick c a b => ZgJ σ (a.ev tm) (b.ev tm) (c.ev tm)
  | .alloc zs => some (.ref sq 0, σ.set sq (.var zs), {})
  | .box x => match x.ev tm with
    | .tup _ => none
    | .top => none
    | .pan _ => none
    | v => some (.ref sq 0, σ.set sq (.var v.cells), {})
  | .build zs parts => match Zab zs (parts.map fun p => (p.1, p.2.1, p.2.2.ev tm)) with
    | some cs => some (.agg cs, σ, {})
    | none => none
  | .bslice own k n z parts => match viewAs σ (parts.map fun p => p.2.ev tm) with
    | none => none
    | some (ys, ts) => if ys.all (fun y => y.cells.length == k) && (parts.all fun p => p.1 < n) && z.cells.length == k then
        let xs := ((parts.map (·.1)).zip ys).foldl (fun l p => l.set p.1 p.2) (Xz n z)
        if own then some (.sl sq 0 0 n, (Zr σ ts).set sq (.row 0 k xs), { rd := ts, wr := ts })
        else some (.lst true xs, Zr σ ts, { rd := ts, wr := ts })
      else none
  | .ld k a => ldA σ k (a.ev tm)
  | .st k a v => stA σ k (a.ev tm) (v.ev tm)
  | .bin op x y => (binA op (x.ev tm) (y.ev tm)).map (·, σ, {})
  | .un op x => (unA op (x.ev tm)).map (·, σ, {})
  | .i2i k x => match x.ev tm with
    | .int _ n => some (.int k (k.wrap n), σ, {})
    | _ => none
  | .same x => match x.ev tm with
    | .str l => some (.str l, σ, {})
    | _ => none
  | .s2b x => match x.ev tm with
    | .str l => some (.lst false (l.map Zb), σ, {})
    | _ => none
  | .b2s x => match ZY σ (x.ev tm) with
    | some (xs, ts) => match Zf3 xs with
      | some l => some (.str l, σ, { rd := ts })
      | none => none
    | none => none
  | .slice k x lo hi mx => ZbI σ k (x.ev tm) (lo.map (·.ev tm)) (hi.map (·.ev tm)) (mx.map (·.ev tm))
  | .sslice x lo hi => match x.ev tm with
    | .str s => match Zbp (hi.map (·.ev tm)) s.length s.length with
      | none => none
      | some h => match Zbp (lo.map (·.ev tm)) 0 h with
        | none => none
        | some l => some (.str ((s.take h).drop l), σ, {})
    | _ => none
  | .faddr off x => (faddrA off (x.ev tm)).map (·, σ, {})
  | .field k off x => match x.ev tm with
    | .agg cs => (partA k cs off).map (·, σ, {})
    | _ => none
  | .iaddr k x i => Zb9 σ k (x.ev tm) (i.ev tm)
  | .aaddr k n x i => match i.ev tm with
    | .int _ i => if 0 <= i /\ i < n then (faddrA (i.toNat * k) (x.ev tm)).map (·, σ, {}) else none
    | _ => none
  | .sindex x i => match x.ev tm, i.ev tm with
    | .str s, .int _ i => if 0 <= i then (s[i.toNat]?).map fun b => (Zb b, σ, {}) else none
    | _, _ => none
  | .aindex s k n x i => match x.ev tm, i.ev tm with
    | .agg cs, .int _ i => if 0 <= i /\ i < n then (partA s cs (i.toNat * k)).map (·, σ, {}) else none
    | _, _ => none
  | .ext x i => match x.ev tm with
    | .tup vs => (vs[i]?).map (·, σ, {})
    | _ => none
  | .len x => match x.ev tm with
    | .lst _ xs => some (.int .i64 xs.length, σ, {})
    | .sl _ _ _ n => some (.int .i64 n, σ, {})
    | _ => none
  | .slen x => match x.ev tm with
    | .str l => some (.int .i64 l.length, σ, {})
    | _ => none
  | .app k bytes _ x y => ZaE σ sq k bytes (x.ev tm) (y.ev tm)
  | .mkslice k bytes z l c => match l.ev tm, c.ev tm with
    | .int .i64 l, .int .i64 c => if 0 <= l /\ l <= c /\ c <= 9223372036854775807 /\ bytes * c <= 140737488355328 /\ z.cells.length = k then
        some (.sl sq 0 0 l.toNat, σ.set sq (.row 0 k (Xz c.toNat z)), {}) else none
    | _, _ => none
  | .mm max xs => match (xs.map fun x => x.ev tm : List AVal) with
    | [.int k a, .int _ b] => some (.int k (if max then (if b > a then b else a) else (if b < a then b else a)), σ, {})
    | _ => none
  | .nilchk x => match x.ev tm with
    | .ref t o => some (.ref t o, σ, {})
    | .eref t g i o => some (.eref t g i o, σ, {})
    | .iptr x o => some (.iptr x o, σ, {})
    | _ => none
  | .s2s x => match x.ev tm with
    | .sl t g lo n => match σ[t]? with
      | some (.row g' k xs) => if g' = g /\ lo + n <= xs.length /\ 0 < n then some (.lst false ((xs.drop lo).take n), σ.set t (.frow g k xs), { wr := [t] }) else none
      | _ => none
    | _ => none
  | .beq neg x y => match x.ev tm, y.ev tm with
    | .bool a, .bool b => some (.bool ((a == b) != neg), σ, {})
    | _, _ => none
  | .peq neg x y => match x.ev tm, y.ev tm with
    | .nilp, .nilp => some (.bool (true != neg), σ, {})
    | .nilp, .ref _ _ => some (.bool (false != neg), σ, {})
    | .ref _ _, .nilp => some (.bool (false != neg), σ, {})
    | _, _ => none
  | .eqv neg ks x y => match x.ev tm, y.ev tm with
    | .agg xs, .agg ys => if Zgt ks xs then match Zf4 xs ys with
      | some b => some (.bool (b != neg), σ, {})
      | none => none else none
    | _, _ => none
  | .ieq neg x y => match x.ev tm, y.ev tm with
    | .nili, .nili => some (.bool (true != neg), σ, {})
    | .nili, .iface _ _ => some (.bool (false != neg), σ, {})
    | .iface _ _, .nili => some (.bool (false != neg), σ, {})
    | _, _ => none
  | .mki t x => match x.ev tm with
    | .tup _ => none
    | .top => none
    | .pan _ => none
    | v => some (.iface t v, σ, {})
  | .panic x => match x.ev tm with
    | .iface t v => some (.pan (.iface t v), σ, {})
    | _ => none
  | .call f own view args => Zj O bf σ sq f own view (args.map (·.ev tm))
  | .callv x args => match x.ev tm with
    | .fn f caps => Zj O bf σ sq (if f < 1000000 then f else f - 1000000) 4 false (if f < 1000000 then args.map (·.ev tm) ++ caps else caps ++ args.map (·.ev tm))
    | _ => none
  | .mkfn f caps => some (.fn f (caps.map (·.ev tm)), σ, {})
  | .i2s x => match x.ev tm with
    | .int _ n => some (.str (Utf8.encode n).data.toList, σ, {})
    | _ => none
  | .clr k z x => Zoa σ k z (x.ev tm)
  | .mkmap => some (.map sq, σ.set sq (.map []), {})
  | .look kc z ok m k => Zf6 σ kc z ok (m.ev tm) (k.ev tm)
  | .mset kc m k v => ZmL σ kc (m.ev tm) (k.ev tm) (v.ev tm)
  | .mdel kc m k => ZkQ σ kc (m.ev tm) (k.ev tm)
  | .mlen m => Zhg σ (m.ev tm)
  | .rslice k n z parts => if (parts.all fun p => (p.2.ev tm).cells.length == k && (p.2.ev tm).cells.all ZX) && (parts.all fun p => p.1 < n) && z.cells.length == k && z.cells.all ZX then
      some (.sl sq 0 0 n, σ.set sq (.rrow 0 k ((parts.map fun p => (p.1, p.2.ev tm)).foldl (fun l p => l.set p.1 p.2) (Xz n z))), {})
    else none
  | .rng x => match x.ev tm with
    | .str l => some (.ref sq 0, σ.set sq (.siter l 0), {})
    | _ => none
  | .nxt x => match x.ev tm with
    | .ref t 0 => match σ[t]? with
      | some (.siter l p) => if p < l.length then some (.tup [.bool true, .int .i64 p, .int .i32 (Zf2 l p).1], σ.set t (.siter l (p + (Zf2 l p).2)), { any := true })
        else some (.tup [.bool false], σ, { any := true })
      | _ => none
    | _ => none
def nsite:Ins->Nat
 | .alloc _ | .box _ | .app .. | .mkslice .. | .rslice .. | .rng _ | .mkmap=>1
 | .bslice own ..=>if own then 1 else 0
 | .call _ own _ _=>own
 | .callv _ _=>4
 |_=>0
def ZbM(g:Option (Nat×Bool))(tm:Tms):Option Bool :=
 match g with
 |none=>some true
 |some (j,want)=>match tget tm j with
  | .bool b=>some (b==want)
  | .tup []=>some false
  |_=>none
def ZQ (O : ZV) (bf : Nat -> Bool) (o : AOp) (sq : Nat) (tm : Tms) (σ : Za) : Option (AVal × Tms × Za × Cls) :=
  match ZbM o.guard tm with
  | none => none
  | some false => some (.tup [], tput tm o.dst (.tup []), σ, {})
  | some true => if nsite o.ins == 0 || freeAt σ sq then
      match execI O bf tm σ sq o.ins with
      | some (v, σ', c) => some (v, tput tm o.dst v, σ', c)
      | none => none
    else none
def Z8(O:ZV)(bf:Nat->Bool):List AOp->Nat->Tms->Za->Option (Tms×Za×List Cls×Option AVal)
 | [],_,tm,σ=>some (tm,σ,[],none)
 |o::os,s,tm,σ=>match ZQ O bf o s tm σ with
  |none=>none
  |some (.pan x,tm',σ',c)=>some (tm',σ',[c],some x)
  |some (_,tm',σ',c)=>match Z8 O bf os (s+nsite o.ins) tm' σ' with
   |none=>none
   |some (tm'',σ'',cs,p)=>some (tm'',σ'',c::cs,p)
def sitesOf(ops:List AOp):Nat:=(ops.map fun o=>nsite o.ins).sum
def Zcx(o:AOp)(c:Cls):Bool:=nsite o.ins==0&&c.rd.isEmpty&&c.wr.isEmpty && !c.any
def Zem(c:Cls):Bool:=c.wr.isEmpty && !c.any
def Z6:Ins->Bool
 | .call ..=>true
 | .callv ..=>true
 |_=>false
def Zaf:Ins->Bool
 | .ld ..=>true
 |_=>false
def Zah:Ins->Bool
 | .app ..=>true
 |_=>false
def Zas:Ins->Bool
 | .ld ..=>true
 | .iaddr ..=>true
 |_=>false
def Zar:Ins->Bool
 | .bslice own ..=>!own
 |_=>false
def Zau:Ins->Bool
 | .st ..=>true
 |_=>false
def ZdX:AVal->AVal->Bool
 | .int k a,.int k' b=>decide (k=k')&&decide (a=b)
 | .bool a,.bool b=>a==b
 | .str a,.str b=>a==b
 | .nilp,.nilp=>true
 | .nilm,.nilm=>true
 | .nili,.nili=>true
 | .ref t o,.ref t' o'=>decide (t=t')&&decide (o=o')
 | .sl t g l n,.sl t' g' l' n'=>decide (t=t')&&decide (g=g')&&decide (l=l')&&decide (n=n')
 | .lst a [],.lst b []=>a==b
 |_,_=>false
def Zag(cj ci:Cls):Bool:=match cj.got with
 | [(t,k,o,v)]=>match ci.upd.lookup t with
  |none=>true
  |some cs=>match partA k cs o with
   |some u=>ZdX u v
   |none=>false
 |_=>false
def Zav(cj ci:Cls):Bool:=match cj.got with
 | [(t,_,_,_)]=>!ci.wr.contains t
 |_=>false
def Zaw(cj ci:Cls)(sj:Nat):Bool:=match ci.got with
 | [(t,_,_,_)]=>decide (t<sj)&&(cj.upd.lookup t).isNone
 |_=>false
def ZcS(oj oi:AOp)(cj ci:Cls)(sj:Nat):Bool:=Zcx oj cj ||Zcx oi ci ||(Zem cj&&Zem ci&&(nsite oj.ins==0 || !ci.rd.contains sj)) ||((Z6 oj.ins ||(Zah oj.ins && !cj.any))&&(Zem ci&&ci.rd.isEmpty)) ||(Zaf oj.ins&&Z6 oi.ins&&ci.any&&Zag cj ci) ||(Zaf oj.ins&&(Zah oi.ins ||(Zau oi.ins&&Zav cj ci))&&Zag cj ci) ||(Zas oj.ins&&Zar oi.ins) ||(Z6 oj.ins&&Zaf oi.ins&&cj.any&&Zaw cj ci sj)
def Zd2(ops:List AOp)(base:Nat)(chk:List (Nat×Nat))(cs:List Cls):Bool :=
 chk.all fun p=>p.1==p.2 ||ZcS (ops.getD p.1 default) (ops.getD p.2 default) (cs.getD p.1 {}) (cs.getD p.2 {}) (base+sitesOf (ops.take p.1))
def ZdN(ops:List AOp)(base:Nat)(chk:List (Nat×Nat))(cs:List Cls):Bool :=
 (chk.any fun p=>p.1==cs.length-1&&p.2==cs.length-1)&&chk.all fun p=>p.1==p.2 ||decide (cs.length<=p.2) ||(ZcS (ops.getD p.1 default) (ops.getD p.2 default) (cs.getD p.1 {}) (cs.getD p.2 {}) (base+sitesOf (ops.take p.1))&&(decide (p.2+1<cs.length) ||Zaf (ops.getD p.1 default).ins))
inductive Zbe where
 |normal
 |exit (id:Nat)
 |ret
 |panic (x:AVal)
 deriving Inhabited
def Zdg(ops:List AOp)(L:Nat)(chk:Option (List (Nat×Nat)))(live:List Nat):Option (Tms×Za×List Cls×Option AVal)->Option (Zbe×Tms×Za)
 |none=>none
 |some (_,σ,cs,some x)=>match chk with
  |none=>some (.panic x,[],σ)
  |some l=>if ZdN ops L l cs then some (.panic x,[],σ)else none
 |some (tm,σ,cs,none)=>match chk with
  |none=>some (.normal,keepL live tm,σ)
  |some l=>if Zd2 ops L l cs then some (.normal,keepL live tm,σ)else none
def Zcd(O:ZV)(bf:Nat->Bool)(ops:List AOp)(chk:Option (List (Nat×Nat)))(live:List Nat)(tm:Tms)(σ:Za):Option (Zbe×Tms×Za) :=
 Zdg ops σ.length chk live (Z8 O bf ops σ.length tm (σ++Xz (sitesOf ops) .free))
def Zd1(m:Nat)(live:List Nat)(f:Tms->Za->Option (Zbe×Tms×Za)):Nat->Tms->Za->Option (Zbe×Tms×Za)
 |0,_,_=>none
 |n+1,tm,σ=>match f (gcT m (keepL live tm) σ).1 (gcT m (keepL live tm) σ).2 with
  |some (.normal,tm',σ')=>Zd1 m live f n tm' σ'
  |r=>r
def Zak(O:ZV)(bf:Nat->Bool)(m n:Nat):Ze->Tms->Za->Option (Zbe×Tms×Za)
 | .skip,tm,σ=>some (.normal,tm,σ)
 | .region ops chk live,tm,σ=>Zcd O bf ops chk live tm σ
 | .seq a b,tm,σ=>match Zak O bf m n a tm σ with
  |some (.normal,tm',σ')=>Zak O bf m n b tm' σ'
  |r=>r
 | .cond c a b,tm,σ=>match c.ev tm with
  | .bool true=>Zak O bf m n a tm σ
  | .bool false=>Zak O bf m n b tm σ
  |_=>none
 | .block id c,tm,σ=>match Zak O bf m n c tm σ with
  |some (.exit i,tm',σ')=>if i=id then some (.normal,tm',σ')else some (.exit i,tm',σ')
  |r=>r
 | .loop live c,tm,σ=>Zd1 m live (Zak O bf m n c) n tm σ
 | .exit id,tm,σ=>some (.exit id,tm,σ)
 | .ret,tm,σ=>some (.ret,tm,σ)
 | .stuck,_,_=>none
def resOne(tm:Tms)(σ:Za):ZcV->Option AVal
 | .tmp t=>some (tget tm t)
 | .cell a k=>match ldA σ k (tget tm a)with
  |some (v,_,_)=>some v
  |none=>none
def resAll(tm:Tms)(σ:Za):List ZcV->Option (List AVal)
 | []=>some []
 |r::rs=>match resOne tm σ r with
  |some v=>match resAll tm σ rs with
   |some vs=>some (v::vs)
   |none=>none
  |none=>none
def resA(tm:Tms)(σ:Za)(rs:List ZcV):Option AVal :=
 match resAll tm σ rs with
 |some [v]=>some v
 |some vs=>some (.tup vs)
 |none=>none
def Z4(m:Nat)(σ:Za)(r:AVal):Option (AVal×Za):=match gcA m [r] σ with
 |([r'],σ')=>some (r',σ')
 |_=>none
def Zap(m:Nat)(fn:ZA):Option (Zbe×Tms×Za)->Option (AVal×Za)
 |some (.normal,tm,σ)=>match resA tm σ fn.res with
  |some r=>Z4 m σ r
  |none=>none
 |some (.ret,tm,σ)=>match resA tm σ fn.res with
  |some r=>Z4 m σ r
  |none=>none
 |some (.panic x,_,σ)=>Z4 m σ (.pan x)
 |_=>none
def enterA:Nat->List AVal->Tms->Tms
 |_,[],acc=>acc
 |i,x::xs,acc=>enterA (i+1) xs ((i,x)::acc)
abbrev Zcu:=Nat->Option (List AVal->Za->Option (AVal×Za))
def Zay(fs:Nat->Option ZA)(prim:Zcu)(bf:Nat->Bool):Nat->ZV
 |0,_,_,_=>none
 |n+1,f,args,σ=>match prim f with
  |some g=>g args σ
  |none=>match fs f with
   |none=>none
   |some fn=>Zap σ.length fn (Zak (Zay fs prim bf n) bf σ.length n fn.body (enterA 0 args []) σ)
def oI(d:Nat)(i:Ins):AOp:=⟨some d,i,none,[]⟩
def oN(i:Ins):AOp:=⟨none,i,none,[]⟩
def oM(d n:Nat):AOp:=⟨some d,.mov (.t n),none,[]⟩
def oF(d o n:Nat):AOp:=⟨some d,.faddr o (.t n),none,[]⟩
def oL(d n:Nat):AOp:=⟨some d,.ld none (.t n),none,[]⟩
end
section
open Go.RowKit
abbrev Imm:=Nat->Nat->Option Value
structure BI where
 b:Option Nat
 k:Nat
 cap:Nat
abbrev Bmap:=Nat->Nat->Option BI
mutual
def Zbb:AVal->Bool
 | .int _ _=>true
 | .bool _=>true
 | .str _=>true
 | .nilp=>true
 | .nilm=>true
 | .nili=>true
 | .lst _ xs=>Zao xs
 |_=>false
def ZaX:List AVal->Bool
 | []=>true
 |c::cs=>Zbb c&&ZaX cs
def Zao:List AVal->Bool
 | []=>true
 | .agg cs::xs=>ZaX cs&&Zao xs
 |x::xs=>Zbb x&&Zao xs
end
mutual
def VR(I:Imm)(β:Bmap):AVal->Value->Prop
 | .top,_=>True
 | .any,v=>v.cells=#[v]/\v.oneCell'=true
 | .int k n,v=>v=.int k n
 | .bool b,v=>v=.bool b
 | .str l,v=>v=.string ⟨l.toArray⟩/\l.length<=9223372036854775807
 | .nilp,v=>v=.pointer none
 | .ref t o,v=>∃ b k c,β t 0=some ⟨some b,k,c⟩/\v=.pointer (some ⟨b,o,none⟩)
 | .eref t g i o,v=>∃ b k c,β t g=some ⟨some b,k,c⟩/\v=.pointer (some ⟨b,i*k+o,none⟩)
 | .iptr cs o,v=>∃ b off,v=.pointer (some ⟨b,off+o,none⟩)/\CR I β cs b off/\ZaX cs=true
 | .lst x xs,v=>∃ A cap,v=.slice A xs.length cap/\xs.length<=cap/\cap<=9223372036854775807/\(x=true->cap=xs.length)/\(xs=[]\/∃ b off k,A=some ⟨b,off,none⟩/\0<k/\LR I β k xs b off)/\Zao xs=true
 | .sl t g lo n,v=>∃ bi,β t g=some bi/\lo+n<=bi.cap/\bi.cap<=9223372036854775807/\((∃ b,bi.b=some b/\v=.slice (some ⟨b,lo*bi.k,none⟩) n (bi.cap-lo))\/(bi.b=none/\bi.cap=0/\∃ A,v=.slice A 0 0)\/(0<lo/\lo=bi.cap/\n=0/\∃ A,v=.slice A 0 0))
 | .agg cs,v=>∃ us,v=.agg us/\VRs I β cs us.toList
 | .tup vs,v=>∃ us,v=.tuple us/\VRs I β vs us.toList
 | .fn f caps,v=>∃ fs us,v=.func (.func (if f<1000000 then f else f-1000000)) fs us/\(if f<1000000 then fs=#[]else us=#[])/\VRs I β caps (fs.toList++us.toList)
 | .nilm,v=>v=.map none
 | .map t,v=>∃ b k c,β t 0=some ⟨some b,k,c⟩/\v=.map (some b)
 | .nili,v=>v=.nilIface
 | .iface t x,v=>∃ u,v=.iface t u/\VR I β x u
 | .pan _,_=>False
def VRs(I:Imm)(β:Bmap):List AVal->List Value->Prop
 | [],vs=>vs=[]
 |x::xs,vs=>∃ v vs',vs=v::vs'/\VR I β x v/\VRs I β xs vs'
def CR(I:Imm)(β:Bmap):List AVal->Nat->Nat->Prop
 | [],_,_=>True
 |c::cs,b,off=>(∃ u,I b off=some u/\VR I β c u)/\CR I β cs b (off+1)
def LR(I:Imm)(β:Bmap)(k:Nat):List AVal->Nat->Nat->Prop
 | [],_,_=>True
 | .agg cs::xs,b,off=>(cs.length=k/\CR I β cs b off)/\LR I β k xs b (off+k)
 |x::xs,b,off=>(1=k/\∃ u,I b off=some u/\VR I β x u)/\LR I β k xs b (off+k)
end
def Imm.le(I I':Imm):Prop:=∀ b o u,I b o=some u->I' b o=some u
def Bmap.le(β β':Bmap):Prop:=∀ t g bi,β t g=some bi->β' t g=some bi
theorem Imm.le.refl(I:Imm):I.le I:=fun _ _ _ h=>h
theorem Bmap.le.refl(β:Bmap):β.le β:=fun _ _ _ h=>h
theorem Imm.le.trans{I J K:Imm}(h:I.le J)(h':J.le K):I.le K:=fun b o u e=>h' b o u (h b o u e)
theorem Bmap.le.trans{I J K:Bmap}(h:I.le J)(h':J.le K):I.le K:=fun b o u e=>h' b o u (h b o u e)
mutual
theorem VR.mono{I I':Imm}{β β':Bmap}(hI:I.le I')(hβ:β.le β'):∀ (x:AVal) (v:Value),VR I β x v->VR I' β' x v
 | .top,_,_=>by simp only[VR]
 | .pan _,_,h=>by simp only[VR]at h
 | .nili,_,h=>by simpa only[VR]using h
 | .iface t x,_,h=>by
  simp only[VR]at h⊢
  obtain⟨u,h1,h2⟩:=h
  exact⟨u,h1,VR.mono hI hβ x u h2⟩
 | .any,_,h=>by simpa only[VR]using h
 | .int _ _,_,h=>by simpa only[VR]using h
 | .bool _,_,h=>by simpa only[VR]using h
 | .str _,_,h=>by simpa only[VR]using h
 | .nilp,_,h=>by simpa only[VR]using h
 | .nilm,_,h=>by simpa only[VR]using h
 | .ref t o,_,h=>by
  simp only[VR]at h⊢
  obtain⟨b,k,c,h1,h2⟩:=h
  exact⟨b,k,c,hβ _ _ _ h1,h2⟩
 | .eref t g i o,_,h=>by
  simp only[VR]at h⊢
  obtain⟨b,k,c,h1,h2⟩:=h
  exact⟨b,k,c,hβ _ _ _ h1,h2⟩
 | .map t,_,h=>by
  simp only[VR]at h⊢
  obtain⟨b,k,c,h1,h2⟩:=h
  exact⟨b,k,c,hβ _ _ _ h1,h2⟩
 | .iptr cs o,_,h=>by
  simp only[VR]at h⊢
  obtain⟨b,off,h1,h2,h3⟩:=h
  exact⟨b,off,h1,CR.mono hI hβ cs b off h2,h3⟩
 | .lst x xs,_,h=>by
  simp only[VR]at h⊢
  obtain⟨A,cap,h1,h2,h3,h4,h5,h6⟩:=h
  refine⟨A,cap,h1,h2,h3,h4,?_,h6⟩
  rcases h5 with h5 |⟨b,off,k,e,hk,h5⟩
  ·exact Xr h5
  ·exact XE ⟨b,off,k,e,hk,LR.mono hI hβ k xs b off h5⟩
 | .sl t g lo n,_,h=>by
  simp only[VR]at h⊢
  obtain⟨bi,h1,h2⟩:=h
  exact⟨bi,hβ _ _ _ h1,h2⟩
 | .agg cs,_,h=>by
  simp only[VR]at h⊢
  obtain⟨us,h1,h2⟩:=h
  exact⟨us,h1,VRs.mono hI hβ cs us.toList h2⟩
 | .tup cs,_,h=>by
  simp only[VR]at h⊢
  obtain⟨us,h1,h2⟩:=h
  exact⟨us,h1,VRs.mono hI hβ cs us.toList h2⟩
 | .fn f cs,_,h=>by
  simp only[VR]at h⊢
  obtain⟨fs,us,h1,h0,h2⟩:=h
  exact⟨fs,us,h1,h0,VRs.mono hI hβ cs (fs.toList++us.toList) h2⟩
theorem VRs.mono{I I':Imm}{β β':Bmap}(hI:I.le I')(hβ:β.le β'):∀ (xs:List AVal) (vs:List Value),VRs I β xs vs->VRs I' β' xs vs
 | [],_,h=>by simpa only[VRs]using h
 |x::xs,_,h=>by
  simp only[VRs]at h⊢
  obtain⟨v,vs',h1,h2,h3⟩:=h
  exact⟨v,vs',h1,VR.mono hI hβ x v h2,VRs.mono hI hβ xs vs' h3⟩
theorem CR.mono{I I':Imm}{β β':Bmap}(hI:I.le I')(hβ:β.le β'):∀ (xs:List AVal) (b off:Nat),CR I β xs b off->CR I' β' xs b off
 | [],_,_,_=>by simp only[CR]
 |x::xs,b,off,h=>by
  simp only[CR]at h⊢
  obtain⟨⟨u,h1,h2⟩,h3⟩:=h
  exact⟨⟨u,hI _ _ _ h1,VR.mono hI hβ x u h2⟩,CR.mono hI hβ xs b (off+1) h3⟩
theorem LR.mono{I I':Imm}{β β':Bmap}(hI:I.le I')(hβ:β.le β')(k:Nat):∀ (xs:List AVal) (b off:Nat),LR I β k xs b off->LR I' β' k xs b off
 | [],_,_,_=>by simp only[LR]
 | .agg cs::xs,b,off,h=>by
  simp only[LR]at h⊢
  obtain⟨⟨h1,h2⟩,h3⟩:=h
  exact⟨⟨h1,CR.mono hI hβ cs b off h2⟩,LR.mono hI hβ k xs b (off+k) h3⟩
 | .int a b'::xs,b,off,h=>by
  simp only[LR]at h⊢
  obtain⟨⟨h0,u,h1,h2⟩,h3⟩:=h
  exact⟨⟨h0,u,hI _ _ _ h1,VR.mono hI hβ _ u h2⟩,LR.mono hI hβ k xs b (off+k) h3⟩
 | .any::xs,b,off,h=>by
  simp only[LR]at h⊢
  obtain⟨⟨h0,u,h1,h2⟩,h3⟩:=h
  exact⟨⟨h0,u,hI _ _ _ h1,VR.mono hI hβ _ u h2⟩,LR.mono hI hβ k xs b (off+k) h3⟩
 | .bool _::xs,b,off,h=>by
  simp only[LR]at h⊢
  obtain⟨⟨h0,u,h1,h2⟩,h3⟩:=h
  exact⟨⟨h0,u,hI _ _ _ h1,VR.mono hI hβ _ u h2⟩,LR.mono hI hβ k xs b (off+k) h3⟩
 | .str _::xs,b,off,h=>by
  simp only[LR]at h⊢
  obtain⟨⟨h0,u,h1,h2⟩,h3⟩:=h
  exact⟨⟨h0,u,hI _ _ _ h1,VR.mono hI hβ _ u h2⟩,LR.mono hI hβ k xs b (off+k) h3⟩
 | .nilp::xs,b,off,h=>by
  simp only[LR]at h⊢
  obtain⟨⟨h0,u,h1,h2⟩,h3⟩:=h
  exact⟨⟨h0,u,hI _ _ _ h1,VR.mono hI hβ _ u h2⟩,LR.mono hI hβ k xs b (off+k) h3⟩
 | .nilm::xs,b,off,h=>by
  simp only[LR]at h⊢
  obtain⟨⟨h0,u,h1,h2⟩,h3⟩:=h
  exact⟨⟨h0,u,hI _ _ _ h1,VR.mono hI hβ _ u h2⟩,LR.mono hI hβ k xs b (off+k) h3⟩
 | .ref _ _::xs,b,off,h=>by
  simp only[LR]at h⊢
  obtain⟨⟨h0,u,h1,h2⟩,h3⟩:=h
  exact⟨⟨h0,u,hI _ _ _ h1,VR.mono hI hβ _ u h2⟩,LR.mono hI hβ k xs b (off+k) h3⟩
 | .eref _ _ _ _::xs,b,off,h=>by
  simp only[LR]at h⊢
  obtain⟨⟨h0,u,h1,h2⟩,h3⟩:=h
  exact⟨⟨h0,u,hI _ _ _ h1,VR.mono hI hβ _ u h2⟩,LR.mono hI hβ k xs b (off+k) h3⟩
 | .iptr _ _::xs,b,off,h=>by
  simp only[LR]at h⊢
  obtain⟨⟨h0,u,h1,h2⟩,h3⟩:=h
  exact⟨⟨h0,u,hI _ _ _ h1,VR.mono hI hβ _ u h2⟩,LR.mono hI hβ k xs b (off+k) h3⟩
 | .lst _ _::xs,b,off,h=>by
  simp only[LR]at h⊢
  obtain⟨⟨h0,u,h1,h2⟩,h3⟩:=h
  exact⟨⟨h0,u,hI _ _ _ h1,VR.mono hI hβ _ u h2⟩,LR.mono hI hβ k xs b (off+k) h3⟩
 | .sl _ _ _ _::xs,b,off,h=>by
  simp only[LR]at h⊢
  obtain⟨⟨h0,u,h1,h2⟩,h3⟩:=h
  exact⟨⟨h0,u,hI _ _ _ h1,VR.mono hI hβ _ u h2⟩,LR.mono hI hβ k xs b (off+k) h3⟩
 | .top::xs,b,off,h=>by
  simp only[LR]at h⊢
  obtain⟨⟨h0,u,h1,h2⟩,h3⟩:=h
  exact⟨⟨h0,u,hI _ _ _ h1,VR.mono hI hβ _ u h2⟩,LR.mono hI hβ k xs b (off+k) h3⟩
 | .pan _::xs,b,off,h=>by
  simp only[LR]at h⊢
  obtain⟨⟨h0,u,h1,h2⟩,h3⟩:=h
  exact⟨⟨h0,u,hI _ _ _ h1,VR.mono hI hβ _ u h2⟩,LR.mono hI hβ k xs b (off+k) h3⟩
 | .nili::xs,b,off,h=>by
  simp only[LR]at h⊢
  obtain⟨⟨h0,u,h1,h2⟩,h3⟩:=h
  exact⟨⟨h0,u,hI _ _ _ h1,VR.mono hI hβ _ u h2⟩,LR.mono hI hβ k xs b (off+k) h3⟩
 | .iface _ _::xs,b,off,h=>by
  simp only[LR]at h⊢
  obtain⟨⟨h0,u,h1,h2⟩,h3⟩:=h
  exact⟨⟨h0,u,hI _ _ _ h1,VR.mono hI hβ _ u h2⟩,LR.mono hI hβ k xs b (off+k) h3⟩
 | .tup _::xs,b,off,h=>by
  simp only[LR]at h⊢
  obtain⟨⟨h0,u,h1,h2⟩,h3⟩:=h
  exact⟨⟨h0,u,hI _ _ _ h1,VR.mono hI hβ _ u h2⟩,LR.mono hI hβ k xs b (off+k) h3⟩
 | .fn _ _::xs,b,off,h=>by
  simp only[LR]at h⊢
  obtain⟨⟨h0,u,h1,h2⟩,h3⟩:=h
  exact⟨⟨h0,u,hI _ _ _ h1,VR.mono hI hβ _ u h2⟩,LR.mono hI hβ k xs b (off+k) h3⟩
 | .map _::xs,b,off,h=>by
  simp only[LR]at h⊢
  obtain⟨⟨h0,u,h1,h2⟩,h3⟩:=h
  exact⟨⟨h0,u,hI _ _ _ h1,VR.mono hI hβ _ u h2⟩,LR.mono hI hβ k xs b (off+k) h3⟩
end
theorem Zgz(I:Imm)(β:Bmap)(k:Nat)(x:AVal)(xs:List AVal)(b off:Nat):LR I β k (x::xs) b off↔(x.cells.length=k/\CR I β x.cells b off)/\LR I β k xs b (off+k):=by
 cases x<;>simp[LR,CR,AVal.cells]
theorem Zv1(x:AVal)(xs:List AVal):Zao (x::xs)=(ZaX x.cells&&Zao xs):=by
 cases x<;>simp[Zao,ZaX,AVal.cells]
def B0:Bmap:=fun _ _=>none
theorem ZkU(β:Bmap):B0.le β:=fun _ _ _ h=>by cases h
mutual
theorem VR.tree{I:Imm}{β:Bmap}:∀ (x:AVal) (v:Value),Zbb x=true->VR I β x v->VR I B0 x v
 | .int _ _,_,_,h=>by simpa only[VR]using h
 | .bool _,_,_,h=>by simpa only[VR]using h
 | .str _,_,_,h=>by simpa only[VR]using h
 | .nilp,_,_,h=>by simpa only[VR]using h
 | .nilm,_,_,h=>by simpa only[VR]using h
 | .nili,_,_,h=>by simpa only[VR]using h
 | .top,_,ht,_=>by simp[Zbb]at ht
 | .pan _,_,ht,_=>by simp[Zbb]at ht
 | .iface _ _,_,ht,_=>by simp[Zbb]at ht
 | .lst x xs,_,ht,h=>by
  simp only[VR]at h⊢
  obtain⟨A,cap,h1,h2,h3,h4,h5,h6⟩:=h
  refine⟨A,cap,h1,h2,h3,h4,?_,h6⟩
  rcases h5 with h5 |⟨b,off,k,e,hk,h5⟩
  ·exact Xr h5
  ·exact XE ⟨b,off,k,e,hk,LR.tree k xs b off h6 h5⟩
 | .any,_,ht,_=>by simp[Zbb]at ht
 | .ref _ _,_,ht,_=>by simp[Zbb]at ht
 | .eref _ _ _ _,_,ht,_=>by simp[Zbb]at ht
 | .iptr _ _,_,ht,_=>by simp[Zbb]at ht
 | .sl _ _ _ _,_,ht,_=>by simp[Zbb]at ht
 | .agg _,_,ht,_=>by simp[Zbb]at ht
 | .tup _,_,ht,_=>by simp[Zbb]at ht
 | .fn _ _,_,ht,_=>by simp[Zbb]at ht
 | .map _,_,ht,_=>by simp[Zbb]at ht
theorem CR.tree{I:Imm}{β:Bmap}:∀ (xs:List AVal) (b off:Nat),ZaX xs=true->CR I β xs b off->CR I B0 xs b off
 | [],_,_,_,_=>by simp only[CR]
 |x::xs,b,off,ht,h=>by
  simp only[CR]at h⊢
  simp only[ZaX,Xk]at ht
  obtain⟨⟨u,h1,h2⟩,h3⟩:=h
  exact⟨⟨u,h1,VR.tree x u ht.1 h2⟩,CR.tree xs b (off+1) ht.2 h3⟩
theorem LR.tree{I:Imm}{β:Bmap}(k:Nat):∀ (xs:List AVal) (b off:Nat),Zao xs=true->LR I β k xs b off->LR I B0 k xs b off
 | [],_,_,_,_=>by simp only[LR]
 | .agg cs::xs,b,off,ht,h=>by
  simp only[LR]at h⊢
  simp only[Zao,Xk]at ht
  exact⟨⟨h.1.1,CR.tree cs b off ht.1 h.1.2⟩,LR.tree k xs b (off+k) ht.2 h.2⟩
 | .int p q::xs,b,off,ht,h=>by
  simp only[LR]at h⊢
  simp only[Zao,Xk]at ht
  obtain⟨⟨h0,u,h1,h2⟩,h3⟩:=h
  exact⟨⟨h0,u,h1,VR.tree _ u ht.1 h2⟩,LR.tree k xs b (off+k) ht.2 h3⟩
 | .bool p::xs,b,off,ht,h=>by
  simp only[LR]at h⊢
  simp only[Zao,Xk]at ht
  obtain⟨⟨h0,u,h1,h2⟩,h3⟩:=h
  exact⟨⟨h0,u,h1,VR.tree _ u ht.1 h2⟩,LR.tree k xs b (off+k) ht.2 h3⟩
 | .str p::xs,b,off,ht,h=>by
  simp only[LR]at h⊢
  simp only[Zao,Xk]at ht
  obtain⟨⟨h0,u,h1,h2⟩,h3⟩:=h
  exact⟨⟨h0,u,h1,VR.tree _ u ht.1 h2⟩,LR.tree k xs b (off+k) ht.2 h3⟩
 | .nilp::xs,b,off,ht,h=>by
  simp only[LR]at h⊢
  simp only[Zao,Xk]at ht
  obtain⟨⟨h0,u,h1,h2⟩,h3⟩:=h
  exact⟨⟨h0,u,h1,VR.tree _ u ht.1 h2⟩,LR.tree k xs b (off+k) ht.2 h3⟩
 | .nilm::xs,b,off,ht,h=>by
  simp only[LR]at h⊢
  simp only[Zao,Xk]at ht
  obtain⟨⟨h0,u,h1,h2⟩,h3⟩:=h
  exact⟨⟨h0,u,h1,VR.tree _ u ht.1 h2⟩,LR.tree k xs b (off+k) ht.2 h3⟩
 | .nili::xs,b,off,ht,h=>by
  simp only[LR]at h⊢
  simp only[Zao,Xk]at ht
  obtain⟨⟨h0,u,h1,h2⟩,h3⟩:=h
  exact⟨⟨h0,u,h1,VR.tree _ u ht.1 h2⟩,LR.tree k xs b (off+k) ht.2 h3⟩
 | .top::_,_,_,ht,_=>by simp[Zao,Zbb]at ht
 | .pan _::_,_,_,ht,_=>by simp[Zao,Zbb]at ht
 | .iface _ _::_,_,_,ht,_=>by simp[Zao,Zbb]at ht
 | .lst p q::xs,b,off,ht,h=>by
  simp only[LR]at h⊢
  simp only[Zao,Xk]at ht
  obtain⟨⟨h0,u,h1,h2⟩,h3⟩:=h
  exact⟨⟨h0,u,h1,VR.tree _ u ht.1 h2⟩,LR.tree k xs b (off+k) ht.2 h3⟩
 | .any::_,_,_,ht,_=>by simp[Zao,Zbb]at ht
 | .ref _ _::_,_,_,ht,_=>by simp[Zao,Zbb]at ht
 | .eref _ _ _ _::_,_,_,ht,_=>by simp[Zao,Zbb]at ht
 | .iptr _ _::_,_,_,ht,_=>by simp[Zao,Zbb]at ht
 | .sl _ _ _ _::_,_,_,ht,_=>by simp[Zao,Zbb]at ht
 | .tup _::_,_,_,ht,_=>by simp[Zao,Zbb]at ht
 | .fn _ _::_,_,_,ht,_=>by simp[Zao,Zbb]at ht
 | .map _::_,_,_,ht,_=>by simp[Zao,Zbb]at ht
end
theorem VR.of_tree{I:Imm}{β β':Bmap}{x:AVal}{v:Value}(ht:Zbb x=true)(h:VR I β x v):VR I β' x v:=(VR.tree x v ht h).mono (Imm.le.refl I) (ZkU β') x v
theorem CR.of_tree{I:Imm}{β β':Bmap}{x:List AVal}{b off:Nat}(ht:ZaX x=true)(h:CR I β x b off):CR I β' x b off:=(CR.tree x b off ht h).mono (Imm.le.refl I) (ZkU β') x b off
theorem Za1{I:Imm}{β:Bmap}:∀ {xs:List AVal} {vs:List Value},VRs I β xs vs->xs.length=vs.length
 | [],vs,h=>by simp only[VRs]at h;subst h;rfl
 |x::xs,vs,h=>by
  simp only[VRs]at h
  obtain⟨v,vs',rfl,_,h3⟩:=h
  simp[Za1 h3]
theorem ZcO{I:Imm}{β:Bmap}:∀ {xs:List AVal} {vs:List Value} (_:VRs I β xs vs) {i:Nat} {x:AVal},xs[i]?=some x->∃ v,vs[i]?=some v/\VR I β x v
 | [],_,_,i,x,hx=>by simp at hx
 |y::xs,vs,h,i,x,hx=>by
  simp only[VRs]at h
  obtain⟨v,vs',rfl,h2,h3⟩:=h
  cases i with
  |zero=>simp only[XJ,Xb]at hx;subst hx;exact⟨v,rfl,h2⟩
  |succ i=>simp only[XT]at hx ⊢;exact ZcO h3 hx
theorem Zd5{I:Imm}{β:Bmap}:∀ {xs:List AVal} {vs:List Value},xs.length=vs.length->(∀ (i:Nat) (x:AVal) (v:Value),xs[i]?=some x->vs[i]?=some v->VR I β x v)->VRs I β xs vs
 | [],vs,hl,_=>by simp only[VRs];exact XG hl.symm
 |x::xs,[],hl,_=>by simp at hl
 |x::xs,v::vs,hl,h=>by
  simp only[VRs]
  exact⟨v,vs,rfl,h 0 x v rfl rfl,Zd5 (by simpa using hl) (fun i a b h1 h2=>h (i+1) a b (by simpa using h1) (by simpa using h2))⟩
theorem ZyL{I:Imm}{β:Bmap}{xs:List AVal}{vs:List Value}(h:VRs I β xs vs){x:AVal}{v:Value}(hx:VR I β x v)(i:Nat):VRs I β (xs.set i x) (vs.set i v):=by
 have hl:=Za1 h
 refine Zd5 (by simp[hl]) (fun j a b ha hb=>?_)
 rw[Xx]at ha hb
 by_cases hij:i=j
 ·subst hij
  simp only[if_true]at ha hb
  split at ha
  ·rw[if_pos (by omega)]at hb
   simp only[Xb]at ha hb
   subst ha hb
   exact hx
  ·cases ha
 ·rw[if_neg hij]at ha hb
  obtain⟨v',h1,h2⟩:=ZcO h ha
  rw[h1]at hb
  injection hb with hb
  exact hb ▸ h2
theorem ZcE{I:Imm}{β:Bmap}:∀ {xs ys:List AVal} {us vs:List Value},VRs I β xs us->VRs I β ys vs->VRs I β (xs++ys) (us++vs)
 | [],_,us,_,h,h'=>by simp only[VRs]at h;subst h;simpa using h'
 |x::xs,ys,us,vs,h,h'=>by
  simp only[VRs]at h
  obtain⟨v,us',rfl,h2,h3⟩:=h
  simp only[List.cons_append,VRs]
  exact⟨v,us'++vs,rfl,h2,ZcE h3 h'⟩
theorem ZfK{I:Imm}{β:Bmap}{xs:List AVal}{us:List Value}(h:VRs I β xs us)(n:Nat):VRs I β (xs.take n) (us.take n):=by
 refine Zd5 (by simp[Za1 h]) (fun i x v hx hv=>?_)
 rw[XS]at hx hv
 split at hx
 ·rw[if_pos ‹_›]at hv
  obtain⟨v',h1,h2⟩:=ZcO h hx
  rw[h1]at hv;injection hv with hv;exact hv ▸ h2
 ·cases hx
theorem ZfP{I:Imm}{β:Bmap}{xs:List AVal}{us:List Value}(h:VRs I β xs us)(n:Nat):VRs I β (xs.drop n) (us.drop n):=by
 refine Zd5 (by simp[Za1 h]) (fun i x v hx hv=>?_)
 rw[Wq]at hx hv
 obtain⟨v',h1,h2⟩:=ZcO h hx
 rw[h1]at hv;injection hv with hv;exact hv ▸ h2
theorem Zke{I:Imm}{β:Bmap}{xs ys:List AVal}{us vs:List Value}(h:VRs I β xs us)(h':VRs I β ys vs)(o:Nat):VRs I β (setAt xs o ys) (us.take o++vs++us.drop (o+vs.length)):=by
 unfold setAt
 rw[<-Za1 h']
 exact ZcE (ZcE (ZfK h o) h') (ZfP h _)
theorem ZeH{I:Imm}{β:Bmap}{x:AVal}{v:Value}(ht:x≠.top)(h:VR I β x v):VRs I β x.cells v.cells.toList:=by
 cases x
 case top=>exact absurd rfl ht
 case pan x=>simp only[VR]at h
 case agg cs =>
  simp only[VR]at h
  obtain⟨us,rfl,h⟩:=h
  exact h
 all_goals
  have hv:v.cells=#[v]:=by
   simp only[VR]at h
   try exact h.1
   try (obtain⟨_,_,_,_,rfl⟩:=h;rfl)
   try (obtain⟨_,_,rfl,_⟩:=h;rfl)
   try (obtain⟨_,rfl,_⟩:=h;rfl)
   try (obtain⟨rfl,_⟩:=h;rfl)
   try (subst h;rfl)
   try (obtain⟨_,_,_,_,(⟨_,_,rfl⟩ |⟨_,_,_,rfl⟩ |⟨_,_,_,_,rfl⟩)⟩:=h<;>rfl)
  rw[hv]
  simp only[AVal.cells,VRs]
  exact⟨v,[],rfl,h,rfl⟩
def Zue(arr:Array MapEntry)(clk:Nat):Prop:=(∀ e∈arr.toList,e.born<clk)/\(arr.toList.map (·.born)).Nodup
def BR (I : Imm) (β : Bmap) (w : World) (t : Nat) : ZO -> Prop
  | .free => True
  | .var cs => ∃ b k c us ty, β t 0 = some ⟨some b, k, c⟩ /\ w.heap[b]? = some (.cells us ty (0, 0)) /\ VRs I β cs us.toList
  | .row g k xs => ∃ bi, β t g = some bi /\ bi.k = k /\ 0 < k /\ bi.cap <= 9223372036854775807 /\ xs.length <= bi.cap /\ Zao xs = true /\ (∀ x ∈ xs, x.cells.length = k) /\
      ((bi.b = none /\ bi.cap = 0) \/ ∃ b us ty, bi.b = some b /\ w.heap[b]? = some (.cells us ty (0, 0)) /\ us.size = bi.cap * k /\ VRs I β (xs.flatMap AVal.cells) (us.toList.take (xs.length * k)))
  | .frow g k xs => ∃ bi, β t g = some bi /\ bi.k = k /\ 0 < k /\ bi.cap <= 9223372036854775807 /\ xs.length <= bi.cap /\ Zao xs = true /\ (xs = [] \/ ∃ b, bi.b = some b /\ LR I β k xs b 0)
  | .map es => ∃ b k c arr clk, β t 0 = some ⟨some b, k, c⟩ /\ w.heap[b]? = some (.map arr clk) /\ VRs I β (es.map (·.1)) (arr.toList.map (·.key)) /\ VRs I β (es.map (·.2)) (arr.toList.map (·.val)) /\ (∀ p ∈ es, ZnU p.1 = true) /\ Zue arr clk
  | .rrow g k xs => ∃ bi, β t g = some bi /\ bi.k = k /\ 0 < k /\ bi.cap <= 9223372036854775807 /\ xs.length <= bi.cap /\ (∀ x ∈ xs, x.cells.length = k /\ ∀ c ∈ x.cells, ZX c = true) /\
      ∃ b us ty, bi.b = some b /\ w.heap[b]? = some (.cells us ty (0, 0)) /\ us.size = bi.cap * k /\ VRs I β (xs.flatMap AVal.cells) (us.toList.take (xs.length * k))
  | .siter l p => ∃ b k c, β t 0 = some ⟨some b, k, c⟩ /\ w.heap[b]? = some (.stringIter ⟨l.toArray⟩ p)
  | .opq => ∃ bi, β t 0 = some bi
def ZL(β:Bmap)(t:Nat):ZO->Option Nat
 | .var _=>(β t 0).bind (·.b)
 | .row g _ _=>(β t g).bind (·.b)
 | .rrow g _ _=>(β t g).bind (·.b)
 | .map _=>(β t 0).bind (·.b)
 | .siter _ _=>(β t 0).bind (·.b)
 |_=>none
structure KB(K:Nat->Prop)(w w':World):Prop where
 os:w'.os=w.os
 tape:w'.tape=w.tape
 output:w'.output=w.output
 size:w.heap.size<=w'.heap.size
 block:∀ k,K k->w'.heap[k]?=w.heap[k]?
theorem KB.refl(K:Nat->Prop)(w:World):KB K w w:=⟨rfl,rfl,rfl,XF _,fun _ _=>rfl⟩
theorem KB.trans{K:Nat->Prop}{a b c:World}(h:KB K a b)(k:KB K b c):KB K a c :=
 ⟨k.os.trans h.os,k.tape.trans h.tape,k.output.trans h.output,Nat.le_trans h.size k.size,fun i hi=>(k.block i hi).trans (h.block i hi)⟩
theorem KB.mono{K K':Nat->Prop}{w w':World}(h:KB K w w')(hK:∀ b,K' b->K b):KB K' w w':=⟨h.os,h.tape,h.output,h.size,fun k hk=>h.block k (hK k hk)⟩
def KLt(K:Nat->Prop)(w:World):Prop:=∀ b,K b->b<w.heap.size
def Gl:Imm:=fun b o =>
 if b=0 then(if o<256 then some (.int .u8 (Lib.firstT o))else none)else
 if b=1 then(if o<32 then some (.int .u8 (if o%2=0 then Lib.accLo (o/2)else Lib.accHi (o/2)))else none)else
 (none:Option Value)
def GB(base:Nat->Prop)(w0:World):Prop :=
 base 6/\(∃ t z,w0.heap[6]?=some (.cells (Lib.pow10Tab.map fun z=>Value.int .u64 z).toArray t z)) /\
 True
structure Rel(base:Nat->Prop)(w0:World)(I0 I:Imm)(β:Bmap)(σ:Za)(w:World):Prop where
 below:KB base w0 w
 old:∀ b o,base b->I b o=I0 b o
 imm:∀ b o u,I b o=some u->w.cell? ⟨b,o,none⟩=some u
 blk:∀ t x,σ[t]?=some x->BR I β w t x
 own:∀ t x b,σ[t]?=some x->ZL β t x=some b->¬base b/\∀ o,I b o=none
 apart:∀ t x t' x' b,σ[t]?=some x->σ[t']?=some x'->ZL β t x=some b->ZL β t' x'=some b->t=t'
 fresh:∀ t g,σ.length<=t->β t g=none
 free:∀ t g,σ[t]?=some .free->β t g=none
 gen:∀ t b g,σ[t]?=some b->Zl b<g->β t g=none
 glob:(∀ b o u,Gl b o=some u->I b o=some u)/\GB base w0
theorem Rel.gb{base K':Nat->Prop}{w0 w:World}{I0 I:Imm}{β:Bmap}{σ:Za}(R:Rel base w0 I0 I β σ w)(hb:∀ b,base b->K' b):GB K' w:=by
 have h:=R.glob.2
 unfold GB at h⊢
 exact⟨hb _ h.1,by obtain⟨t,z,e⟩:=h.2.1;exact⟨t,z,(R.below.block _ h.1).trans e⟩,trivial⟩
end
section
open Go.RowKit
def ZnI:Value->Option AVal
 | .int k n=>some (.int k n)
 | .bool b=>some (.bool b)
 | .string s=>if s.data.toList.length<=9223372036854775807 then some (.str s.data.toList)else none
 | .pointer none=>some .nilp
 | .slice none 0 0=>some (.lst true [])
 | .map none=>some .nilm
 | .nilIface=>some .nili
 |_=>none
def Zkf:List Value->Option (List AVal)
 | []=>some []
 |v::vs=>match ZnI v with
  |some x=>match Zkf vs with
   |some xs=>some (x::xs)
   |none=>none
  |none=>none
def ZhR:Value->Option AVal
 | .agg cs=>(Zkf cs.toList).map .agg
 |v=>ZnI v
def Zaz:Operand->Option Opd
 | .tmp t=>some (.t t)
 | .const v=>(ZhR v).map .c
 | .func f=>if f<1000000 then some (.c (.fn f []))else none
 | .global _=>none
def ZcU:List Operand->Option (List Opd)
 | []=>some []
 |x::xs=>match Zaz x with
  |some y=>match ZcU xs with
   |some ys=>some (y::ys)
   |none=>none
  |none=>none
def ZhF:Option Operand->Option (Option Opd)
 |none=>some none
 |some x=>(Zaz x).map some
def Zge(P:Program)(t:TypeId):Option (Option Nat) :=
 match P.underlying t,P.info? t with
 |some (.struct _),some i=>some (some i.size)
 |some (.array _ _),some i=>some (some i.size)
 |some _,some i=>if i.size=1 then some none else none
 |_,_=>none
def ZbY(P:Program)(t:TypeId):Option Nat:=(P.info? t).map (·.size)
def ZdU(P:Program)(t:TypeId):Option AVal:=match P.info? t with
 |some i=>match i.zero with
  |some v=>ZhR v
  |none=>none
 |none=>none
def Zfu(P:Program)(t:TypeId):Option (Nat×Nat×AVal):=match P.underlying t with
 |some (.slice e)=>match P.info? e,ZdU P e with
  |some i,some z=>if 0<i.size/\0<i.bytes/\z.cells.length=i.size then some (i.size,i.bytes,z)else none
  |_,_=>none
 |_=>none
def ZjF(P:Program)(fields:Array Field):List (Nat×Operand)->Option (List (Nat×Nat×Opd))
 | []=>some []
 |(i,x)::r=>match fields[i]? with
  |some f=>match ZbY P f.type,Zaz x,ZjF P fields r with
   |some k,some y,some ps=>some ((f.offset,k,y)::ps)
   |_,_,_=>none
  |none=>none
def ZkG (k : Nat) : List (Nat × Operand) -> Option (List (Nat × Nat × Opd))
  | [] => some []
  | (i, x) :: r => match Zaz x, ZkG k r with
      | some y, some ps => some ((i * k, k, y) :: ps)
      | _, _ => none
def Zh3 : List (Nat × Operand) -> Option (List (Nat × Opd))
  | [] => some []
  | (i, x) :: r => match Zaz x, Zh3 r with
      | some y, some ps => some ((i, y) :: ps)
      | _, _ => none
structure Ann where
 nt:Nat:=0
 keep:List Nat:=[]
 own:Nat->Nat:=fun _=>0
 cfg:Nat->Nat×Bool:=fun _=>(0,true)
 cfg2:Nat->Nat×Bool:=fun _=>(0,true)
 lr:Nat->List Nat:=fun _=>[]
 ll:Nat->List Nat:=fun _=>[]
def Zr8(P:Program)(t:TypeId):Bool:=match P.underlying t with
 |some (.int _)=>true
 |some .bool=>true
 |some .string=>true
 |_=>false
def Zf1(P:Program)(t:TypeId)(x:AVal):Bool:=match P.underlying t,x with
 |some (.int _),.int _ _=>true
 |some .bool,.bool _=>true
 |some .string,.str _=>true
 |_,_=>false
def Zn9(P:Program):Nat->List Field->Bool
 |_,[]=>true
 |o,f::fs=>f.offset==o&&f.name != "_" && Zr8 P f.type&&Zn9 P (o+1) fs
def ZgF(P:Program):List Field->List AVal->Bool
 | [],[]=>true
 |f::fs,x::xs=>Zf1 P f.type x&&ZgF P fs xs
 |_,_=>false
def Zs9(P:Program)(t:TypeId)(fs:Array Field):Bool:=Zn9 P 0 fs.toList && !P.stoodInHeld t && !P.eqGuardType P.depth t
def ZgV(P:Program)(t:TypeId):Option Nat:=match P.underlying t with
 |some (.int _)=>some 0
 |some .bool=>some 1
 |some .string=>some 2
 |_=>none
def ZAw(P:Program)(op:BinOp)(t:TypeId)(x y:Opd):Option Ins :=
 match P.underlying t with
 |some (.int _)=>some (.bin op x y)
 |some .string=>some (.bin op x y)
 |some .bool=>match op with
  | .eql=>some (.beq false x y)
  | .neq=>some (.beq true x y)
  |_=>none
 |some (.pointer _)=>match op with
  | .eql=>some (.peq false x y)
  | .neq=>some (.peq true x y)
  |_=>none
 |some (.struct fs)=>if Zs9 P t fs then match op with
  | .eql=>some (.eqv false (fs.toList.map fun f=>(ZgV P f.type).getD 3) x y)
  | .neq=>some (.eqv true (fs.toList.map fun f=>(ZgV P f.type).getD 3) x y)
  |_=>none else none
 |some (.interface _)=>match op,y with
  | .eql,.c .nili=>some (.ieq false x y)
  | .neq,.c .nili=>some (.ieq true x y)
  |_,_=>none
 |_=>none
def ZxA(P:Program)(src dst:TypeId)(x:Opd):Option Ins :=
 match P.underlying src,P.underlying dst with
 |some (.int _),some (.int k)=>some (.i2i k x)
 |some (.int _),some .string=>some (.i2s x)
 |some .string,some .string=>some (.same x)
 |some .string,some (.slice e)=>match P.underlying e with
  |some (.int .u8)=>some (.s2b x)
  |_=>none
 |some (.slice _),some (.slice e)=>if src=dst then(match P.underlying e with
  |some (.int .u8)=>some (.s2s x)
  |_=>none)else none
 |some (.slice e),some .string=>match P.underlying e with
  |some (.int .u8)=>some (.b2s x)
  |_=>none
 |_,_=>none
def Zi4(P:Program)(t:TypeId):Option (Nat×AVal):=match P.underlying t with
 |some (.map k e)=>match ZgV P k,ZdU P e with
  |some kc,some z=>some (kc,z)
  |_,_=>none
 |_=>none
def Zzs(P:Program)(an:Ann)(own:Nat)(c:Call):Option Ins :=
 match ZcU c.args.toList with
 |none=>none
 |some args=>match c.callee with
  | .value (.func f)=>some (.call f (if own=1 then an.cfg2 f else an.cfg f).1 (if own=1 then an.cfg2 f else an.cfg f).2 args)
  | .value (.tmp t)=>some (.callv (.t t) args)
  | .builtin .append=>match c.argTypes.toList,args with
   | [t,u],[x,y]=>match Zfu P t with
    |some (k,bytes,z)=>match P.underlying u with
     |some (.slice _)=>some (.app k bytes z x y)
     |some .string=>if k=1 then some (.app k bytes z x y)else none
     |_=>none
    |none=>none
   |_,_=>none
  | .builtin .len=>match c.argTypes.toList,args with
   | [t],[x]=>match P.underlying t with
    |some (.slice _)=>some (.len x)
    |some .string=>some (.slen x)
    |some (.map _ _)=>some (.mlen x)
    |_=>none
   |_,_=>none
  | .builtin .delete=>match c.argTypes.toList,args with
   |t::_,[x,y]=>match Zi4 P t with
    |some (kc,_)=>some (.mdel kc x y)
    |none=>none
   |_,_=>none
  | .builtin .clear=>match c.argTypes.toList,args with
   | [t],[x]=>match Zfu P t with
    |some (k,_,z)=>some (.clr k z x)
    |none=>none
   |_,_=>none
  | .builtin .max=>if args.length=2 then some (.mm true args)else none
  | .builtin .min=>if args.length=2 then some (.mm false args)else none
  |_=>none
def Zae(P:Program)(an:Ann)(own:Nat):Op->Option Ins
 | .move x=>(Zaz x).map .mov
 | .assign x=>(Zaz x).map .mov
 | .pick c a b=>match Zaz c,Zaz a,Zaz b with
  |some c,some a,some b=>some (.pick c a b)
  |_,_,_=>none
 | .alloc e=>(ZdU P e).map fun z=>.alloc z.cells
 | .box _ x=>(Zaz x).map .box
 | .build t parts=>match P.underlying t,ZdU P t with
  |some (.struct fields),some z=>if fields.toList.all fun f=>(P.info? f.type).isSome then(ZjF P fields parts.toList).map (.build z.cells)else none
  |some (.array _ e),some z=>match ZbY P e with
   |some k=>(ZkG k parts.toList).map (.build z.cells)
   |none=>none
  |_,_=>none
 | .buildSlice t n parts=>match Zfu P t with
  |some (k,_,z)=>if n*k<=16777216 then(Zh3 parts.toList).map (fun ps=>if own=2 then .rslice k n z ps else .bslice (own==1) k n z ps)else none
  |none=>none
 | .load t a=>match Zge P t,Zaz a with
  |some k,some a=>some (.ld k a)
  |_,_=>none
 | .store t a v=>match ZbY P t,Zaz a,Zaz v with
  |some k,some a,some v=>some (.st k a v)
  |_,_,_=>none
 | .nilCheck x=>(Zaz x).map .nilchk
 | .binOp op t x y _=>match Zaz x,Zaz y with
  |some x,some y=>ZAw P op t x y
  |_,_=>none
 | .unOp op _ x=>(Zaz x).map (.un op)
 | .convert src dst x=>match Zaz x with
  |some x=>ZxA P src dst x
  |none=>none
 | .slice t x lo hi mx=>match Zaz x,ZhF lo,ZhF hi,ZhF mx with
  |some x,some lo,some hi,some mx=>match P.underlying t with
   |some .string=>match mx with
    |none=>some (.sslice x lo hi)
    |some _=>none
   |some (.slice e)=>match ZbY P e with
    |some k=>if 0<k then(match hi,mx with |none,some _=>none |_,_=>some (.slice k x lo hi mx))else none
    |none=>none
   |_=>none
  |_,_,_,_=>none
 | .fieldAddr s x i=>match P.underlying s,Zaz x with
  |some (.struct fields),some x=>match fields[i]? with
   |some f=>match ZbY P f.type with
    |some k=>if k=0 then none else some (.faddr f.offset x)
    |none=>none
   |none=>none
  |_,_=>none
 | .field s x i=>match P.underlying s,Zaz x with
  |some (.struct fields),some x=>match fields[i]? with
   |some f=>(Zge P f.type).map fun k=>.field k f.offset x
   |none=>none
  |_,_=>none
 | .indexAddr t x i=>match P.underlying t,Zaz x,Zaz i with
  |some (.slice e),some x,some i=>(ZbY P e).map fun k=>.iaddr k x i
  |some (.array n e),some x,some i=>(ZbY P e).map fun k=>.aaddr k n x i
  |_,_,_=>none
 | .index t x i=>match P.underlying t,Zaz x,Zaz i with
  |some .string,some x,some i=>some (.sindex x i)
  |some (.array n e),some x,some i=>match Zge P e,ZbY P e with
   |some s,some k=>some (.aindex s k n x i)
   |_,_=>none
  |_,_,_=>none
 | .extract x i=>(Zaz x).map fun x=>.ext x i
 | .makeSlice t l c=>match Zfu P t,Zaz l,Zaz c with
  |some (k,bytes,z),some l,some c=>some (.mkslice k bytes z l c)
  |_,_,_=>none
 | .makeFunc (.func f) first captured=>if f<1000000 then(if first.isEmpty then(ZcU captured.toList).map (.mkfn f)else if captured.isEmpty then(ZcU first.toList).map (.mkfn (f+1000000))else none)else none
 | .makeInterface t x=>match P.underlying t with
  |some (.interface _)=>none
  |some _=>(Zaz x).map (.mki t)
  |none=>none
 | .panic x=>(Zaz x).map .panic
 | .range t x=>match P.underlying t with
  |some .string=>(Zaz x).map .rng
  |_=>none
 | .next x true=>(Zaz x).map .nxt
 | .makeMap _ r=>match r with
  |none=>some .mkmap
  |some _=>none
 | .lookup t m k ok=>match Zi4 P t,Zaz m,Zaz k with
  |some (kc,z),some m,some k=>some (.look kc z ok m k)
  |_,_,_=>none
 | .mapUpdate t m k v=>match Zi4 P t,Zaz m,Zaz k,Zaz v with
  |some (kc,_),some m,some k,some v=>some (.mset kc m k v)
  |_,_,_,_=>none
 | .insert t m k v=>match Zi4 P t,Zaz m,Zaz k,Zaz v with
  |some (kc,_),some m,some k,some v=>some (.mset kc m k v)
  |_,_,_,_=>none
 | .call c=>Zzs P an own c
 |_=>none
def Opd.reads:Opd->List Nat
 | .t n=>[n]
 | .c _=>[]
def Zif:Option Opd->List Nat
 |some x=>x.reads
 |none=>[]
def Ins.reads:Ins->List Nat
 | .mov x | .box x | .un _ x | .i2i _ x | .i2s x | .same x | .s2b x | .s2s x | .b2s x | .faddr _ x | .field _ _ x | .ext x _ | .len x | .slen x | .nilchk x | .rng x | .nxt x | .clr _ _ x | .ld _ x | .mki _ x | .panic x | .mlen x=>x.reads
 | .pick c a b=>c.reads++a.reads++b.reads
 | .alloc _ | .mkmap=>[]
 | .build _ ps=>ps.flatMap fun p=>p.2.2.reads
 | .bslice _ _ _ _ ps | .rslice _ _ _ ps=>ps.flatMap fun p=>p.2.reads
 | .st _ x y | .bin _ x y | .iaddr _ x y | .aaddr _ _ x y | .sindex x y | .aindex _ _ _ x y | .app _ _ _ x y | .mkslice _ _ _ x y | .beq _ x y | .peq _ x y | .eqv _ _ x y | .ieq _ x y | .look _ _ _ x y | .mdel _ x y=>x.reads++y.reads
 | .mset _ x y z=>x.reads++y.reads++z.reads
 | .slice _ x a b c=>x.reads++Zif a++Zif b++Zif c
 | .sslice x a b=>x.reads++Zif a++Zif b
 | .mm _ xs | .call _ _ _ xs | .mkfn _ xs=>xs.flatMap Opd.reads
 | .callv x xs=>x.reads++xs.flatMap Opd.reads
def AOp.reads(o:AOp):List Nat:=o.ins.reads++(match o.guard with |some (j,_)=>[j] |none=>[])
def Ins.touches:Ins->Bool
 | .ld .. | .st .. | .slice .. | .iaddr .. | .app .. | .call .. | .callv .. | .bslice .. | .b2s _ | .s2s _ | .alloc _ | .box _ | .mkslice .. | .rslice .. | .rng _ | .nxt _ | .clr .. | .mkmap | .look .. | .mset .. | .mdel .. | .mlen _=>true
 |_=>false
def AOp.apartT(x y : AOp) : Bool :=
  (match x.dst with
   |some d => !y.reads.contains d&&y.dst != some d
   |none=>true) &&
  (match y.dst with
   |some d => !x.reads.contains d
   |none=>true)
def Zco:List (List Nat)->List (List Nat)->List (List Nat)
 | [],acc=>acc
 |l::ls,acc=>Zco ls (acc++[l++l.flatMap fun i=>acc.getD i []])
def Zjb:List (List Nat)->List Nat->List Nat
 | [],acc=>acc
 |l::ls,acc=>Zjb ls (acc++[l.foldl (fun m i=>m |||2^i |||acc.getD i 0) 0])
def ZfS(ops:List AOp):Option (List (Nat×Nat)) :=
 let an:=Zjb (ops.map (·.after)) []
 let n:=ops.length
 let ps:=(Wa n).flatMap fun j=>((Wa j).filter fun i=>!(an.getD j 0).testBit i).map fun i=>(i,j)
 if(ps.all fun p=>(ops.getD p.1 default).apartT (ops.getD p.2 default))&&((Wa n).all fun j=>(ops.getD j default).after.all fun i=>decide (i<j))then
  some ((ps.filter fun p=>(ops.getD p.1 default).ins.touches&&(ops.getD p.2 default).ins.touches) ++
   (((Wa n).filter fun j=>Z6 (ops.getD j default).ins&&(Wa n).all fun k=>decide (k<=j) ||(an.getD k 0).testBit j).map fun j=>(j,j)))
 else none
def Zly(ops:Array Oper):Option (Nat×Bool)->Option (Option (Nat×Bool))
 |none=>some none
 |some (j,want)=>match ops[j]? with
  |some o=>match o.dst with
   |some d=>some (some (d,want))
   |none=>none
  |none=>none
def Zze(nt:Nat)(keep:List Nat):Option Nat->Bool
 |some d=>decide (d<nt) && !keep.contains d
 |none=>true
def ZhK(P:Program)(an:Ann)(ops:Array Oper)(o:Oper):Option AOp :=
 match Zly ops o.guard,Zae P an (match o.dst with |some d=>an.own d |none=>0) o.op with
 |some g,some i=>if Zze an.nt an.keep o.dst=true then some ⟨o.dst,i,g,(o.after.toList.filter (Region.binds .any)).map (·.on)⟩else none
 |_,_=>none
def ZdM(P:Program)(an:Ann)(ops:Array Oper):List Oper->Option (List AOp)
 | []=>some []
 |o::os=>match ZhK P an ops o with
  |some a=>match ZdM P an ops os with
   |some asl=>some (a::asl)
   |none=>none
  |none=>none
def Zf0:Code->Nat
 | .region id _ _=>id
 | .seq a _=>Zf0 a
 | .block _ c=>Zf0 c
 | .loop c=>Zf0 c
 | .scope c=>Zf0 c
 |_=>0
def Zbf(P:Program)(an:Ann):Code->Ze
 | .skip=>.skip
 | .region id ops draw=>match ZdM P an ops ops.toList with
  |some l=>if draw then(match ZfS l with |some ps=>.region l (some ps) (an.lr id) |none=>.stuck)else .region l none (an.lr id)
  |none=>.stuck
 | .seq a b=>.seq (Zbf P an a) (Zbf P an b)
 | .cond c a b=>match Zaz c with
  |some c=>.cond c (Zbf P an a) (Zbf P an b)
  |none=>.stuck
 | .block id c=>.block id (Zbf P an c)
 | .loop c=>.loop (an.ll (Zf0 c)) (Zbf P an c)
 | .exit id=>.exit id
 | .ret=>.ret
 | .scope c=>Zbf P an c
 | .label _=>.skip
 |_=>.stuck
def Zfp(P:Program):List ResultVar->Option (List ZcV)
 | []=>some []
 | .tmp t::r=>(Zfp P r).map (.tmp t::·)
 | .cell a t::r=>match Zge P t,Zfp P r with
  |some k,some rs=>some (.cell a k::rs)
  |_,_=>none
def Zka(P:Program)(ann:Nat->Ann)(f:Nat):Option ZA :=
 match P.funcs[f]? with
 |some fn=>match fn.body with
  |some c=>if fn.name == "runtime.NumGoroutine" then none else
   match Zfp P fn.results.toList with
   |some rs=>some ⟨rs,Zbf P { ann f with nt:=fn.ntmps } c⟩
   |none=>none
  |none=>none
 |none=>none
end
section
open Go.RowKit
section
variable {base:Nat->Prop}{w0 w w':World}{I0 I I':Imm}{β β':Bmap}{σ σ':Za}
theorem BR.keep{t:Nat}{x:ZO}(h:BR I β w t x)(hI:I.le I')(hβ:β.le β')(hb:∀ b,ZL β t x=some b->w'.heap[b]?=w.heap[b]?):BR I' β' w' t x:=by
 cases x with
 |free=>trivial
 |map es =>
  obtain⟨b,k,c,arr,clk,h1,h2,h3,h4,h5⟩:=h
  exact⟨b,k,c,arr,clk,hβ _ _ _ h1,by rw[hb b (by simp[ZL,h1])];exact h2,VRs.mono hI hβ _ _ h3,VRs.mono hI hβ _ _ h4,h5⟩
 |opq=>obtain⟨bi,h⟩:=h;exact⟨bi,hβ _ _ _ h⟩
 |siter l p =>
  obtain⟨b,k,c,h1,h2⟩:=h
  exact⟨b,k,c,hβ _ _ _ h1,by rw[hb b (by simp[ZL,h1])];exact h2⟩
 |rrow g k xs =>
  obtain⟨bi,h1,h2,h3,h4,h5,h6,b,us,ty,e,h8,h9,h10⟩:=h
  exact⟨bi,hβ _ _ _ h1,h2,h3,h4,h5,h6,b,us,ty,e,by rw[hb b (by simp[ZL,h1,e])];exact h8,h9,VRs.mono hI hβ _ _ h10⟩
 |var cs =>
  obtain⟨b,k,c,us,ty,h1,h2,h3⟩:=h
  exact⟨b,k,c,us,ty,hβ _ _ _ h1,by rw[hb b (by simp[ZL,h1])];exact h2,VRs.mono hI hβ _ _ h3⟩
 |row g k xs =>
  obtain⟨bi,h1,h2,h3,h4,h5,h6,h7,h8⟩:=h
  refine⟨bi,hβ _ _ _ h1,h2,h3,h4,h5,h6,h7,?_⟩
  rcases h8 with h8 |⟨b,us,ty,e,h8,h9,h10⟩
  ·exact Xr h8
  ·exact XE ⟨b,us,ty,e,by rw[hb b (by simp[ZL,h1,e])];exact h8,h9,VRs.mono hI hβ _ _ h10⟩
 |frow g k xs =>
  obtain⟨bi,h1,h2,h3,h4,h5,h6,h7⟩:=h
  refine⟨bi,hβ _ _ _ h1,h2,h3,h4,h5,h6,?_⟩
  rcases h7 with h7 |⟨b,e,h7⟩
  ·exact Xr h7
  ·exact XE ⟨b,e,LR.mono hI hβ _ _ _ _ h7⟩
theorem BR.owns_eq{t:Nat}{x:ZO}(h:BR I β w t x)(hβ:β.le β'):ZL β' t x=ZL β t x:=by
 cases x with
 |free=>rfl
 |opq=>rfl
 |map es =>
  obtain⟨b,k,c,_,_,h1,_⟩:=h
  simp[ZL,h1,hβ _ _ _ h1]
 |siter l p =>
  obtain⟨b,k,c,h1,_⟩:=h
  simp[ZL,h1,hβ _ _ _ h1]
 |rrow g k xs =>
  obtain⟨bi,h1,_⟩:=h
  simp[ZL,h1,hβ _ _ _ h1]
 |frow=>rfl
 |var cs =>
  obtain⟨b,k,c,us,ty,h1,_⟩:=h
  simp[ZL,h1,hβ _ _ _ h1]
 |row g k xs =>
  obtain⟨bi,h1,_⟩:=h
  simp[ZL,h1,hβ _ _ _ h1]
theorem BR.owns_lt{t b:Nat}{x:ZO}(h:BR I β w t x)(hb:ZL β t x=some b):b<w.heap.size:=by
 cases x with
 |free=>cases hb
 |opq=>cases hb
 |map es =>
  obtain⟨b',k,c,_,_,h1,h2,_⟩:=h
  simp only[ZL,h1,Wj,Xb]at hb
  subst hb
  exact(XX.1 h2).1
 |siter l p =>
  obtain⟨b',k,c,h1,h2⟩:=h
  simp only[ZL,h1,Wj,Xb]at hb
  subst hb
  exact(XX.1 h2).1
 |rrow g k xs =>
  obtain⟨bi,h1,_,_,_,_,_,b',us,ty,e,h8,_⟩:=h
  simp only[ZL,h1,Wj,e,Xb]at hb
  subst hb
  exact(XX.1 h8).1
 |frow=>cases hb
 |var cs =>
  obtain⟨b',k,c,us,ty,h1,h2,_⟩:=h
  simp only[ZL,h1,Wj,Xb]at hb
  subst hb
  exact(XX.1 h2).1
 |row g k xs =>
  obtain⟨bi,h1,_,_,_,_,_,_,h8⟩:=h
  simp only[ZL,h1,Wj]at hb
  rcases h8 with⟨h8,_⟩ |⟨b',us,ty,e,h8,_⟩
  ·rw[h8]at hb;cases hb
  ·rw[e]at hb;injection hb with hb;subst hb
   exact(XX.1 h8).1
theorem Rel.stay(R:Rel base w0 I0 I β σ w)(hI:I.le I')(hB:KB base w w')(hold:∀ b o,base b->I' b o=I b o)
  (himm:∀ b o u,I' b o=some u->w'.cell? ⟨b,o,none⟩=some u)
  (keep:∀ t x b,σ[t]?=some x->ZL β t x=some b->w'.heap[b]?=w.heap[b]?/\∀ o,I' b o=none):Rel base w0 I0 I' β σ w' where
 below:=R.below.trans hB
 old:=fun b o h=>(hold b o h).trans (R.old b o h)
 imm:=himm
 blk:=fun t x h=>(R.blk t x h).keep hI (Bmap.le.refl β) (fun b hb=>(keep t x b h hb).1)
 own:=fun t x b h hb=>⟨(R.own t x b h hb).1,(keep t x b h hb).2⟩
 apart:=R.apart
 fresh:=R.fresh
 free:=R.free
 gen:=R.gen
 glob:=⟨fun b o u h=>hI b o u (R.glob.1 b o u h),R.glob.2⟩
theorem Rel.same(R:Rel base w0 I0 I β σ w)(hh:w'.heap=w.heap)(h1:w'.os=w.os)(h2:w'.tape=w.tape)(h3:w'.output=w.output):Rel base w0 I0 I β σ w' :=
 R.stay (Imm.le.refl I) ⟨h1,h2,h3,by rw[hh];exact XF _,fun k _=>by rw[hh]⟩ (fun _ _ _=>rfl) (fun b o u h=>by
  have:=R.imm b o u h
  rw[<-this]
  simp[World.cell?,hh]) (fun t x b h hb=>⟨by rw[hh],(R.own t x b h hb).2⟩)
theorem Rel.upd(R:Rel base w0 I0 I β σ w)(hI:I.le I')(hβ:β.le β')(hB:KB base w w')(hold:∀ b o,base b->I' b o=I b o)
  (himm:∀ b o u,I' b o=some u->w'.cell? ⟨b,o,none⟩=some u)
  (s:Nat) (x':ZO) (hσ:σ'=σ.set s x') (hs:s<σ.length) (hβs:∀ t g,t≠s->β' t g=β t g)
  (keep:∀ t x b,t≠s->σ[t]?=some x->ZL β t x=some b->w'.heap[b]?=w.heap[b]?/\(∀ o,I' b o=none)/\ZL β' s x'≠some b)
  (hblk:BR I' β' w' s x') (hown':∀ b,ZL β' s x'=some b->¬base b/\∀ o,I' b o=none)
  (hgen':∀ g,Zl x'<g->β' s g=none) (hx':x'≠.free):Rel base w0 I0 I' β' σ' w':=by
 subst hσ
 have look:∀ t x,(σ.set s x')[t]?=some x->(t=s/\x=x')\/(t≠s/\σ[t]?=some x):=by
  intro t x h
  rw[Xx]at h
  by_cases e:s=t
  ·subst e
   rw[if_pos rfl,if_pos hs]at h
   injection h with h
   exact Xr ⟨rfl,h.symm⟩
  ·rw[if_neg e]at h
   exact XE ⟨fun h=>e h.symm,h⟩
 refine⟨R.below.trans hB,fun b o h=>(hold b o h).trans (R.old b o h),himm,?_,?_,?_,?_,?_,?_,⟨fun b o u h=>hI b o u (R.glob.1 b o u h),R.glob.2⟩⟩
 ·intro t x h
  rcases look t x h with⟨rfl,rfl⟩ |⟨hne,h⟩
  ·exact hblk
  ·exact(R.blk t x h).keep hI hβ (fun b hb=>(keep t x b hne h hb).1)
 ·intro t x b h hb
  rcases look t x h with⟨rfl,rfl⟩ |⟨hne,h⟩
  ·exact hown' b hb
  ·rw[(R.blk t x h).owns_eq hβ]at hb
   exact⟨(R.own t x b h hb).1,(keep t x b hne h hb).2.1⟩
 ·intro t x t' x'' b h h' hb hb'
  rcases look t x h with⟨e1,e2⟩ |⟨hne,h1⟩
  ·rcases look t' x'' h' with⟨e3,e4⟩ |⟨hne',h1'⟩
   ·rw[e1,e3]
   ·rw[(R.blk _ _ h1').owns_eq hβ]at hb'
    rw[e1,e2]at hb
    exact absurd hb (keep _ _ b hne' h1' hb').2.2
  ·rw[(R.blk t x h1).owns_eq hβ]at hb
   rcases look t' x'' h' with⟨e3,e4⟩ |⟨hne',h1'⟩
   ·rw[e3,e4]at hb'
    exact absurd hb' (keep _ _ b hne h1 hb).2.2
   ·rw[(R.blk _ _ h1').owns_eq hβ]at hb'
    exact R.apart t x t' x'' b h1 h1' hb hb'
 ·intro t g h
  simp only[XaE]at h
  rw[hβs t g (by omega)]
  exact R.fresh t g h
 ·intro t g h
  rcases look t _ h with⟨rfl,e⟩ |⟨hne,h⟩
  ·exact absurd e.symm hx'
  ·rw[hβs t g hne];exact R.free t g h
 ·intro t b g h hg
  rcases look t _ h with⟨rfl,e⟩ |⟨hne,h⟩
  ·exact hgen' g (e ▸ hg)
  ·rw[hβs t g hne];exact R.gen t b g h hg
def Bmap.put(β:Bmap)(s g:Nat)(bi:BI):Bmap:=fun t g'=>if t=s/\g'=g then some bi else β t g'
theorem Bmap.put_same(β:Bmap)(s g:Nat)(bi:BI):β.put s g bi s g=some bi:=by simp[Bmap.put]
theorem Bmap.put_le{s g:Nat}{bi:BI}(h:β s g=none):β.le (β.put s g bi):=by
 intro t g' x hx
 unfold Bmap.put
 split
 ·rename_i e;rw[e.1,e.2,h]at hx;cases hx
 ·exact hx
theorem Bmap.put_ne{s g t g':Nat}{bi:BI}(h:t≠s):β.put s g bi t g'=β t g':=by simp[Bmap.put,h]
theorem Bmap.put_gen{s g g':Nat}{bi:BI}(h:g'≠g):β.put s g bi s g'=β s g':=by simp[Bmap.put,h]
theorem Zgj(w:World)(o:Obj){b:Nat}(h:b<w.heap.size):(w.heap.push o)[b]?=w.heap[b]?:=by rw[Array.getElem?_push];simp;omega
theorem Zij(w:World)(o:Obj):(w.heap.push o)[w.heap.size]?=some o:=by simp
theorem Zez{b o:Nat}{u:Value}(h:w.cell? ⟨b,o,none⟩=some u):b<w.heap.size:=by
 unfold World.cell? at h
 split at h
 ·rename_i e;exact(XX.1 e).1
 ·cases h
theorem ZiY(w:World)(o:Obj){b off:Nat}{u:Value}(h:w.cell? ⟨b,off,none⟩=some u):World.cell? { w with heap:=w.heap.push o } ⟨b,off,none⟩=some u:=by
 have hb:=Zez h
 rw[<-h]
 simp only[World.cell?,Zgj w o hb]
theorem ZiG(base:Nat->Prop)(w:World)(o:Obj)(hb:KLt base w):KB base w { w with heap:=w.heap.push o } :=
 ⟨rfl,rfl,rfl,by simp,fun k hk=>Zgj w o (hb k hk)⟩
theorem Rel.base_le(R:Rel base w0 I0 I β σ w)(hb:KLt base w0):KLt base w:=fun b h=>Nat.lt_of_lt_of_le (hb b h) R.below.size
theorem Rel.newObj(R:Rel base w0 I0 I β σ w)(hb:KLt base w0){s:Nat}(hs:σ[s]?=some .free)(o:Obj)(x':ZO)(k c:Nat)
  (hown:ZL (β.put s 0 ⟨some w.heap.size,k,c⟩) s x'=some w.heap.size) (hg0:Zl x'=0) (hnf:x'≠.free)
  (hblk:BR I (β.put s 0 ⟨some w.heap.size,k,c⟩) { w with heap:=w.heap.push o } s x') :
  Rel base w0 I0 I (β.put s 0 ⟨some w.heap.size,k,c⟩) (σ.set s x') { w with heap:=w.heap.push o }/\β.le (β.put s 0 ⟨some w.heap.size,k,c⟩):=by
 have hle:β.le (β.put s 0 ⟨some w.heap.size,k,c⟩):=Bmap.put_le (R.free s 0 hs)
 have hbw:=R.base_le hb
 have hsl:s<σ.length:=(Xl.1 hs).1
 have hI0:∀ o,I w.heap.size o=none:=by
  intro o
  cases h:I w.heap.size o with
  |none=>rfl
  |some u=>have:=Zez (R.imm _ _ _ h);omega
 refine⟨R.upd (Imm.le.refl I) hle (ZiG base w _ hbw) (fun _ _ _=>rfl) (fun b o u h=>ZiY w _ (R.imm b o u h)) s x' rfl hsl (fun t g h=>Bmap.put_ne h) ?_ hblk ?_ ?_ hnf,hle⟩
 ·intro t x b hne h hb'
  have hlt:=(R.blk t x h).owns_lt hb'
  refine⟨Zgj w _ hlt,(R.own t x b h hb').2,?_⟩
  rw[hown];intro e;injection e with e;omega
 ·intro b e
  rw[hown]at e;injection e with e;subst e
  exact⟨fun h=>XaF _ (hbw _ h),hI0⟩
 ·intro g hg
  rw[Bmap.put_gen (by omega)]
  exact R.free s g hs
theorem Rel.newOwn(R:Rel base w0 I0 I β σ w)(hb:KLt base w0){s:Nat}(hs:σ[s]?=some .free)(us:Array Value)(ty:TypeId)(x':ZO)(k c:Nat)
  (hx:(∃ cs,x'=.var cs/\VRs I β cs us.toList)\/(∃ xs,x'=.row 0 k xs/\0<k/\c<=9223372036854775807/\xs.length<=c/\Zao xs=true/\(∀ x∈xs,x.cells.length=k)/\us.size=c*k/\VRs I β (xs.flatMap AVal.cells) (us.toList.take (xs.length*k)))) :
  Rel base w0 I0 I (β.put s 0 ⟨some w.heap.size,k,c⟩) (σ.set s x') { w with heap:=w.heap.push (.cells us ty) }/\β.le (β.put s 0 ⟨some w.heap.size,k,c⟩):=by
 have hle:β.le (β.put s 0 ⟨some w.heap.size,k,c⟩):=Bmap.put_le (R.free s 0 hs)
 have hbw:=R.base_le hb
 have hsl:s<σ.length:=(Xl.1 hs).1
 have hI0:∀ o,I w.heap.size o=none:=by
  intro o
  cases h:I w.heap.size o with
  |none=>rfl
  |some u=>have:=Zez (R.imm _ _ _ h);omega
 have hown:ZL (β.put s 0 ⟨some w.heap.size,k,c⟩) s x'=some w.heap.size:=by
  rcases hx with⟨cs,rfl,_⟩ |⟨xs,rfl,_⟩<;>simp[ZL,Bmap.put_same]
 refine⟨R.upd (Imm.le.refl I) hle (ZiG base w _ hbw) (fun _ _ _=>rfl) (fun b o u h=>ZiY w _ (R.imm b o u h)) s x' rfl hsl (fun t g h=>Bmap.put_ne h) ?_ ?_ ?_ ?_ ?_,hle⟩
 ·intro t x b hne h hb'
  have hlt:=(R.blk t x h).owns_lt hb'
  refine⟨Zgj w _ hlt,(R.own t x b h hb').2,?_⟩
  rw[hown];intro e;injection e with e;omega
 ·rcases hx with⟨cs,rfl,h⟩ |⟨xs,rfl,h1,h2,h3,h4,h5,h6,h7⟩
  ·exact⟨w.heap.size,k,c,us,ty,Bmap.put_same β s 0 _,Zij w _,VRs.mono (Imm.le.refl I) hle _ _ h⟩
  ·exact⟨_,Bmap.put_same β s 0 _,rfl,h1,h2,h3,h4,h5,XE ⟨w.heap.size,us,ty,rfl,Zij w _,h6,VRs.mono (Imm.le.refl I) hle _ _ h7⟩⟩
 ·intro b e
  rw[hown]at e;injection e with e;subst e
  exact⟨fun h=>XaF _ (hbw _ h),hI0⟩
 ·intro g hg
  have h0:Zl x'=0:=by rcases hx with⟨cs,rfl,_⟩ |⟨xs,rfl,_⟩<;>rfl
  rw[Bmap.put_gen (by omega)]
  exact R.free s g hs
 ·rcases hx with⟨cs,rfl,_⟩ |⟨xs,rfl,_⟩<;>simp
theorem Rel.newNone(R:Rel base w0 I0 I β σ w){s:Nat}(hs:σ[s]?=some .free)(k:Nat)(hk:0<k) :
  Rel base w0 I0 I (β.put s 0 ⟨none,k,0⟩) (σ.set s (.row 0 k [])) w/\β.le (β.put s 0 ⟨none,k,0⟩):=by
 have hle:β.le (β.put s 0 ⟨none,k,0⟩):=Bmap.put_le (R.free s 0 hs)
 have hsl:s<σ.length:=(Xl.1 hs).1
 have hown:ZL (β.put s 0 ⟨none,k,0⟩) s (.row 0 k [])=none:=by simp[ZL,Bmap.put_same]
 refine⟨R.upd (Imm.le.refl I) hle (KB.refl base w) (fun _ _ _=>rfl) R.imm s _ rfl hsl (fun t g h=>Bmap.put_ne h) ?_ ?_ ?_ ?_ (by simp),hle⟩
 ·intro t x b hne h hb'
  exact⟨rfl,(R.own t x b h hb').2,by rw[hown];simp⟩
 ·exact⟨_,Bmap.put_same β s 0 _,rfl,hk,by simp,by simp,by simp[Zao],by simp,Xr ⟨rfl,rfl⟩⟩
 ·intro b e;rw[hown]at e;cases e
 ·intro g hg
  simp only[Zl]at hg
  rw[Bmap.put_gen (by omega)]
  exact R.free s g hs
def Imm.add(I:Imm)(b:Nat)(us:Array Value):Imm:=fun b' o=>if b'=b then us[o]? else I b' o
theorem Rel.newImm(R:Rel base w0 I0 I β σ w)(hb:KLt base w0)(us:Array Value)(ty:TypeId)(fz:Nat×Nat) :
  Rel base w0 I0 (I.add w.heap.size us) β σ { w with heap:=w.heap.push (.cells us ty fz) }/\I.le (I.add w.heap.size us):=by
 have hbw:=R.base_le hb
 have hle:I.le (I.add w.heap.size us):=by
  intro b o u h
  have:=Zez (R.imm _ _ _ h)
  unfold Imm.add
  rw[if_neg (by omega)]
  exact h
 refine⟨R.stay hle (ZiG base w _ hbw) (fun b o h=>by unfold Imm.add;rw[if_neg (by have:=hbw b h;omega)]) ?_ ?_,hle⟩
 ·intro b o u h
  unfold Imm.add at h
  split at h
  ·rename_i e
   subst e
   simp only[World.cell?,Zij]
   simpa using h
  ·exact ZiY w _ (R.imm b o u h)
 ·intro t x b h hb'
  have hlt:=(R.blk t x h).owns_lt hb'
  refine⟨Zgj w _ hlt,fun o=>?_⟩
  unfold Imm.add
  rw[if_neg (by omega)]
  exact(R.own t x b h hb').2 o
theorem Rel.putObj(R:Rel base w0 I0 I β σ w){t b:Nat}{x x':ZO}(ht:σ[t]?=some x)(hx:ZL β t x=some b)(hx':ZL β t x'=some b)(o:Obj)
  (hblk:BR I β { w with heap:=w.heap.setIfInBounds b o } t x') (hg:Zl x'=Zl x) :
  Rel base w0 I0 I β (σ.set t x') { w with heap:=w.heap.setIfInBounds b o }:=by
 have hsl:t<σ.length:=(Xl.1 ht).1
 have ho:=R.own t x b ht hx
 have hh:∀ b',b'≠b->(w.heap.setIfInBounds b o)[b']?=w.heap[b']?:=by
  intro b' hne
  rw[Wo (fun e=>hne e.symm)]
 refine R.upd (Imm.le.refl I) (Bmap.le.refl β) ⟨rfl,rfl,rfl,by simp,fun k hk=>hh k (by rintro rfl;exact ho.1 hk)⟩ (fun _ _ _=>rfl) ?_ t x' rfl hsl (fun _ _ _=>rfl) ?_ hblk ?_ ?_ ?_
 ·intro b' o u h
  have hne:b'≠b:=by rintro rfl;rw[ho.2 o]at h;cases h
  rw[<-R.imm b' o u h]
  simp only[World.cell?,hh b' hne]
 ·intro t' y b' hne hy hb'
  have hbb:b'≠b:=by rintro rfl;exact hne (R.apart t' y t x b' hy ht hb' hx)
  exact⟨hh b' hbb,(R.own t' y b' hy hb').2,by rw[hx'];intro e;injection e with e;exact hbb e.symm⟩
 ·intro b' e
  rw[hx']at e;injection e with e;subst e
  exact ho
 ·intro g hlt
  exact R.gen t x g ht (by rw[<-hg];exact hlt)
 ·rintro rfl
  cases hx'
theorem Rel.write(R:Rel base w0 I0 I β σ w){t b:Nat}{x x':ZO}(ht:σ[t]?=some x)(hx:ZL β t x=some b)(hx':ZL β t x'=some b)(us:Array Value)
  (hblk:BR I β (w.setRow b us) t x') (hg:Zl x'=Zl x) :
  Rel base w0 I0 I β (σ.set t x') (w.setRow b us):=by
 have hsl:t<σ.length:=(Xl.1 ht).1
 have ho:=R.own t x b ht hx
 have hh:∀ b',b'≠b->(w.setRow b us).heap[b']?=w.heap[b']?:=by
  intro b' hne
  simp only[World.setRow,XaP]
  rw[if_neg (fun e=>hne e.symm)]
 refine R.upd (Imm.le.refl I) (Bmap.le.refl β) ⟨rfl,rfl,rfl,by simp[World.setRow],fun k hk=>hh k (by rintro rfl;exact ho.1 hk)⟩ (fun _ _ _=>rfl) ?_ t x' rfl hsl (fun _ _ _=>rfl) ?_ hblk ?_ ?_ ?_
 ·intro b' o u h
  have hne:b'≠b:=by rintro rfl;rw[ho.2 o]at h;cases h
  rw[<-R.imm b' o u h]
  simp only[World.cell?,hh b' hne]
 ·intro t' y b' hne hy hb'
  have hbb:b'≠b:=by rintro rfl;exact hne (R.apart t' y t x b' hy ht hb' hx)
  exact⟨hh b' hbb,(R.own t' y b' hy hb').2,by rw[hx'];intro e;injection e with e;exact hbb e.symm⟩
 ·intro b' e
  rw[hx']at e;injection e with e;subst e
  exact ho
 ·intro g hlt
  exact R.gen t x g ht (by rw[<-hg];exact hlt)
 ·rintro rfl
  cases hx'
end
end
section
open Go.RowKit
theorem Ze0{k:Nat}:∀ {xs:List AVal},(∀ x∈xs,x.cells.length=k)->(xs.flatMap AVal.cells).length=xs.length*k
 | [],_=>by simp
 |x::xs,h=>by
  have:=Ze0 (xs:=xs) (fun y hy=>h y (by simp[hy]))
  simp[h x (by simp),this,Wh,Nat.add_comm]
theorem Zip{k:Nat}:∀ {xs:List AVal} {i:Nat},(∀ x∈xs,x.cells.length=k)->(xs.flatMap AVal.cells).drop (i*k)=(xs.drop i).flatMap AVal.cells
 |xs,0,_=>by simp
 | [],i+1,_=>by simp
 |x::xs,i+1,h=>by
  have:=Zip (xs:=xs) (i:=i) (fun y hy=>h y (by simp[hy]))
  have hx:=h x (by simp)
  rw[XK,List.drop_succ_cons,<-this,XaS,hx,Wz (by rw[hx,Wh];omega),XA]
  congr 1
  rw[Wh];omega
theorem ZkV{k:Nat}:∀ {xs:List AVal} {i:Nat},(∀ x∈xs,x.cells.length=k)->(xs.flatMap AVal.cells).take (i*k)=(xs.take i).flatMap AVal.cells
 |xs,0,_=>by simp
 | [],i+1,_=>by simp
 |x::xs,i+1,h=>by
  have:=ZkV (xs:=xs) (i:=i) (fun y hy=>h y (by simp[hy]))
  have hx:=h x (by simp)
  rw[XK,List.take_succ_cons,XK,<-this,XaT,hx,XI (by rw[hx,Wh];omega)]
  congr 2
  rw[Wh];omega
theorem ZJa{k i:Nat}{xs:List AVal}{x:AVal}(h:∀ x∈xs,x.cells.length=k)(hx:xs[i]?=some x):((xs.flatMap AVal.cells).drop (i*k)).take k=x.cells:=by
 rw[Zip h]
 have hl:=Xl.1 hx
 obtain⟨hi,hxe⟩:=hl
 rw[List.drop_eq_getElem_cons hi,hxe,XK,XaT,h x (hxe ▸ Xag hi)]
 simp[<-h x (hxe ▸ Xag hi)]
theorem ZpD{i n k:Nat}(h:i<n):i*k+k<=n*k:=by
 have:=Wl k (show i+1<=n by omega)
 rw[Wh]at this;omega
section
variable {P:Program}{base:Nat->Prop}{w0 w w':World}{I0 I I':Imm}{β β':Bmap}{σ σ':Za}
theorem Zcl{t g n:Nat}{v:Value}:VR I β (.sl t g 0 n) v↔∃ bi,β t g=some bi/\n<=bi.cap/\bi.cap<=9223372036854775807/\((∃ b,bi.b=some b/\v=.slice (some ⟨b,0,none⟩) n bi.cap)\/(bi.b=none/\bi.cap=0/\∃ A,v=.slice A 0 0)):=by
 simp only[VR,Xbd,XB,Nat.sub_zero,XaF,false_and,or_false]
theorem Znl:∀ {cs:List AVal} {b off:Nat},CR I β cs b off->∃ us:List Value,VRs I β cs us/\∀ j u,us[j]?=some u->I b (off+j)=some u
 | [],b,off,_=>⟨[],by simp only[VRs],fun j u h=>by simp at h⟩
 |c::cs,b,off,h=>by
  simp only[CR]at h
  obtain⟨⟨u,h1,h2⟩,h3⟩:=h
  obtain⟨us,h4,h5⟩:=Znl h3
  refine⟨u::us,by simp only[VRs];exact⟨u,us,rfl,h2,h4⟩,fun j v hv=>?_⟩
  cases j with
  |zero=>simp only[XJ,Xb]at hv;subst hv;exact h1
  |succ j =>
   simp only[XT]at hv
   have:=h5 j v hv
   rwa [show off+(j+1)=off+1+j by omega]
theorem Zx8:∀ {cs:List AVal} {us:List Value} {b off:Nat},VRs I β cs us->(∀ j u,us[j]?=some u->I b (off+j)=some u)->CR I β cs b off
 | [],us,b,off,_,_=>by simp only[CR]
 |c::cs,us,b,off,h,hi=>by
  simp only[VRs]at h
  obtain⟨v,us',rfl,h2,h3⟩:=h
  simp only[CR]
  exact⟨⟨v,hi 0 v rfl,h2⟩,Zx8 h3 (fun j u hu=>by rw[show off+1+j=off+(j+1)by omega];exact hi (j+1) u (by simpa using hu))⟩
theorem Zno{k:Nat}:∀ {xs:List AVal} {b off i:Nat} {x:AVal},LR I β k xs b off->xs[i]?=some x->x.cells.length=k/\CR I β x.cells b (off+i*k)
 | [],_,_,i,x,_,hx=>by simp at hx
 |y::xs,b,off,i,x,h,hx=>by
  rw[Zgz]at h
  cases i with
  |zero =>
   simp only[XJ,Xb]at hx;subst hx
   simpa using h.1
  |succ i =>
   simp only[XT]at hx
   have:=Zno h.2 hx
   rwa [show off+(i+1)*k=off+k+i*k by rw[Wh];omega]
theorem Zws{k:Nat}{xs:List AVal}{b off:Nat}(h:LR I β k xs b off):∀ x∈xs,x.cells.length=k:=by
 intro x hx
 obtain⟨i,hi⟩:=List.mem_iff_getElem?.1 hx
 exact(Zno h hi).1
theorem Zk2{k:Nat}:∀ {xs:List AVal} {us:List Value} {b off:Nat},(∀ x∈xs,x.cells.length=k)->VRs I β (xs.flatMap AVal.cells) us->(∀ j u,us[j]?=some u->I b (off+j)=some u)->LR I β k xs b off
 | [],_,_,_,_,_,_=>by simp only[LR]
 |x::xs,us,b,off,hk,h,hi=>by
  rw[Zgz]
  have hx:=hk x (by simp)
  have h1:=ZfK h k
  have h2:=ZfP h k
  rw[XK,XaT,hx,XI (by omega),Xaa,Xax,Xo]at h1
  rw[XK,XaS,hx,Wz (by omega),Xaa,List.drop_zero,XA]at h2
  refine⟨⟨hx,Zx8 h1 (fun j u hu=>hi j u ?_)⟩,Zk2 (fun y hy=>hk y (by simp[hy])) h2 (fun j u hu=>?_)⟩
  ·rw[XS]at hu;split at hu
   ·exact hu
   ·cases hu
  ·rw[Wq]at hu
   rw[show off+k+j=off+(k+j)by omega]
   exact hi _ u hu
theorem Zym{k:Nat}:∀ {xs:List AVal} {b off:Nat},LR I β k xs b off->∃ us:List Value,VRs I β (xs.flatMap AVal.cells) us/\∀ j u,us[j]?=some u->I b (off+j)=some u
 | [],b,off,_=>⟨[],by simp only[List.flatMap_nil,VRs],fun j u h=>by simp at h⟩
 |x::xs,b,off,h=>by
  rw[Zgz]at h
  obtain⟨us,h1,h2⟩:=Znl h.1.2
  obtain⟨vs,h3,h4⟩:=Zym h.2
  have hl:=Za1 h1
  refine⟨us++vs,by rw[XK];exact ZcE h1 h3,fun j u hu=>?_⟩
  rw[WL]at hu
  split at hu
  ·exact h2 j u hu
  ·have:=h4 _ u hu
   rw[show off+j=off+k+(j-us.length)by omega]
   exact this
theorem ZsE{k:Nat}:∀ {xs:List AVal} {b off n:Nat},LR I β k xs b off->LR I β k (xs.drop n) b (off+n*k)
 |xs,b,off,0,h=>by simpa using h
 | [],b,off,n+1,h=>by simp[LR]
 |x::xs,b,off,n+1,h=>by
  rw[Zgz]at h
  have:=ZsE (n:=n) h.2
  rw[List.drop_succ_cons,show off+(n+1)*k=off+k+n*k by rw[Wh];omega]
  exact this
theorem ZqT{k:Nat}:∀ {xs:List AVal} {b off n:Nat},LR I β k xs b off->LR I β k (xs.take n) b off
 |xs,b,off,0,h=>by simp[LR]
 | [],b,off,n+1,h=>by simp[LR]
 |x::xs,b,off,n+1,h=>by
  rw[Zgz]at h
  rw[List.take_succ_cons,Zgz]
  exact⟨h.1,ZqT h.2⟩
theorem Zdd:∀ {xs:List AVal},Zao xs=true↔∀ x∈xs,ZaX x.cells=true
 | []=>by simp[Zao]
 |x::xs=>by
  rw[Zv1,Xk,Zdd (xs:=xs)]
  simp
theorem Zdy:∀ {xs:List AVal},ZaX xs=true↔∀ x∈xs,Zbb x=true
 | []=>by simp[ZaX]
 |x::xs=>by
  rw[ZaX,Xk,Zdy (xs:=xs)]
  simp
theorem Zm9{xs:List AVal}(h:Zao xs=true):ZaX (xs.flatMap AVal.cells)=true:=by
 rw[Zdy]
 intro x hx
 obtain⟨y,hy,hx⟩:=Wk.1 hx
 exact Zdy.1 (Zdd.1 h y hy) x hx
theorem VR.one{x:AVal}{v:Value}(hx:ZX x=true)(h:VR I β x v):v.oneCell'=true:=by
 cases x
 case agg=>simp[ZX]at hx
 case tup=>simp[ZX]at hx
 case top=>simp[ZX]at hx
 case pan=>simp[ZX]at hx
 all_goals
  simp only[VR]at h
  try exact h.2
  try (obtain⟨_,_,_,_,rfl⟩:=h;rfl)
  try (obtain⟨_,_,rfl,_⟩:=h;rfl)
  try (obtain⟨_,rfl,_⟩:=h;rfl)
  try (obtain⟨rfl,_⟩:=h;rfl)
  try (subst h;rfl)
  try (obtain⟨_,_,_,_,(⟨_,_,rfl⟩ |⟨_,_,_,rfl⟩ |⟨_,_,_,_,rfl⟩)⟩:=h<;>rfl)
theorem Zjt{x:AVal}(h:Zbb x=true):ZX x=true:=by cases x<;>simp_all[Zbb,ZX]
theorem Zhi:∀ {xs:List AVal} {vs:List Value},(∀ x∈xs,ZX x=true)->VRs I β xs vs->∀ v∈vs,v.oneCell'=true
 | [],vs,_,h,v,hv=>by simp only[VRs]at h;subst h;simp at hv
 |x::xs,vs,hx,h,v,hv=>by
  simp only[VRs]at h
  obtain⟨u,us,rfl,h2,h3⟩:=h
  rcases XR.1 hv with rfl |hv
  ·exact VR.one (hx x (by simp)) h2
  ·exact Zhi (fun y hy=>hx y (by simp[hy])) h3 v hv
theorem ZNj{t:TypeId}{k:Option Nat}(hk:Zge P t=some k){b off:Nat}{us:List Value}(hc:∀ j u,us[j]?=some u->w.cell? ⟨b,off+j,none⟩=some u)
  {cs:List AVal} (hv:VRs I β cs us) {o:Nat} {x:AVal} (hp:partA k cs o=some x):∃ u,(loadVar t ⟨b,off+o,none⟩).run P w=.ok u w/\VR I β x u:=by
 unfold Zge at hk
 have hl:=Za1 hv
 have many:∀ (d:TypeDesc) (i:TypeInfo),P.underlying t=some d->d.isRow=true->P.info? t=some i->k=some i.size->∃ u,(loadVar t ⟨b,off+o,none⟩).run P w=.ok u w/\VR I β x u:=by
  intro d i hu hd hi e
  subst e
  simp only[partA]at hp
  split at hp
  ·rename_i hle
   injection hp with hp
   subst hp
   refine⟨_,run_loadVar_mid w b (off+o) t ((us.drop o).take i.size) d ?_ hu hd (by simp[hi];omega),?_⟩
   ·intro j v hj
    rw[XS]at hj
    split at hj
    ·rw[Wq]at hj
     rw[WC]
     exact hc _ v hj
    ·cases hj
   ·simp only[VR]
    exact⟨_,rfl,by simpa using ZfK (ZfP hv o) i.size⟩
  ·cases hp
 have one:∀ (d:TypeDesc),P.underlying t=some d->d.isRow=false->k=none->∃ u,(loadVar t ⟨b,off+o,none⟩).run P w=.ok u w/\VR I β x u:=by
  intro d hu hd e
  subst e
  simp only[partA]at hp
  obtain⟨u,h1,h2⟩:=ZcO hv hp
  refine⟨u,?_,h2⟩
  have hagg:(isAgg t).run P w=.ok false w:=by
   unfold isAgg
   rw[Sem.run_bind,run_underlying hu w]
   cases d<;>simp_all[TypeDesc.isRow]
  simp[loadVar,Sem.run_bind,hagg,hc o u h1]
 split at hk
 ·rename_i hu hi;injection hk with hk;exact many _ _ hu rfl hi hk.symm
 ·rename_i hu hi;injection hk with hk;exact many _ _ hu rfl hi hk.symm
 ·rename_i d i hu hi hn1 hn2
  split at hk
  ·injection hk with hk
   refine one d hn1 ?_ hk.symm
   cases d<;>simp_all[TypeDesc.isRow]
  ·cases hk
 ·cases hk
theorem Zgy{b o:Nat}{us:Array Value}{ty:TypeId}{fz:Nat×Nat}(h:w.heap[b]?=some (.cells us ty fz)):w.cell? ⟨b,o,none⟩=us[o]?:=by simp[World.cell?,h]
theorem Zyt {t : TypeId} {k : Option Nat} (hk : Zge P t = some k) (R : Rel base w0 I0 I β σ w) {a x : AVal} {v : Value} (ha : VR I β a v) {c : Cls} (h : ldA σ k a = some (x, σ', c)) :
    ∃ u, (Instr.loadAt t v).run P w = .ok u w /\ VR I β x u /\ σ' = σ := by
  have fin : ∀ {b off o : Nat} {us : List Value} {cs : List AVal}, (∀ j u, us[j]? = some u -> w.cell? ⟨b, off + j, none⟩ = some u) -> VRs I β cs us -> partA k cs o = some x -> v = .pointer (some ⟨b, off + o, none⟩) ->
      ∃ u, (Instr.loadAt t v).run P w = .ok u w /\ VR I β x u := by
    intro b off o us cs hc hv hp e
    subst e
    obtain ⟨u, h1, h2⟩ := ZNj hk hc hv hp
    exact ⟨u, by simp only [Instr.loadAt, Instr.sureAddr, Sem.run_bind, Sem.run_pure, Result.andThen_ok, h1], h2⟩
  have rowcase : ∀ {b kk i o cap : Nat} {us : Array Value} {ty : TypeId} {xs : List AVal} {y : AVal}, w.heap[b]? = some (.cells us ty (0, 0)) -> (∀ x ∈ xs, x.cells.length = kk) -> VRs I β (xs.flatMap AVal.cells) (us.toList.take (xs.length * kk)) ->
      xs[i]? = some y -> partA k y.cells o = some x -> v = .pointer (some ⟨b, i * kk + o, none⟩) -> ∃ u, (Instr.loadAt t v).run P w = .ok u w /\ VR I β x u := by
    intro b kk i o cap us ty xs y hh hlen hv hy hp e
    have h1 := ZfK (ZfP hv (i * kk)) kk
    rw [ZJa hlen hy] at h1
    refine fin (off := i * kk) ?_ h1 hp e
    intro j u hu
    rw [XS] at hu
    split at hu
    . rw [Wq, XS] at hu
      split at hu
      . rw [Zgy hh]; simpa using hu
      . cases hu
    . cases hu
  have frowcase : ∀ {kk i o b : Nat} {xs : List AVal} {y : AVal}, LR I β kk xs b 0 -> xs[i]? = some y -> partA k y.cells o = some x -> v = .pointer (some ⟨b, i * kk + o, none⟩) -> ∃ u, (Instr.loadAt t v).run P w = .ok u w /\ VR I β x u := by
    intro kk i o b xs y hL hy hp e
    obtain ⟨us, h1, h2⟩ := Znl (Zno hL hy).2
    exact fin (off := i * kk) (fun j u hu => R.imm _ _ _ (by have := h2 j u hu; rwa [XB] at this)) h1 hp e
  unfold ldA at h
  split at h
  . rename_i t' o
    simp only [VR] at ha
    obtain ⟨b, k', c', hβ, rfl⟩ := ha
    split at h
    . rename_i cs hs
      split at h
      . rename_i v' hp
        simp only [Xb, Xd] at h
        obtain ⟨rfl, rfl, rfl⟩ := h
        obtain ⟨b', k'', c'', us, ty, h1, h2, h3⟩ := R.blk _ _ hs
        rw [hβ] at h1
        simp only [Xb, BI.mk.injEq] at h1
        obtain ⟨rfl, rfl, rfl⟩ := h1
        obtain ⟨u, hu1, hu2⟩ := fin (off := 0) (fun j u hu => by rw [Zgy h2]; simpa using hu) h3 hp (by simp)
        exact ⟨u, hu1, hu2, rfl⟩
      . cases h
    . cases h
  . rename_i t' g i o
    simp only [VR] at ha
    obtain ⟨b, k', c', hβ, rfl⟩ := ha
    split at h
    . rename_i g' kk xs hs
      split at h
      . rename_i e; subst e
        split at h
        . rename_i y hy
          split at h
          . rename_i v' hp
            simp only [Xb, Xd] at h
            obtain ⟨rfl, rfl, rfl⟩ := h
            obtain ⟨bi, h1, h2, h3, h4, h5, h6, h7, h8⟩ := R.blk _ _ hs
            rw [hβ] at h1
            injection h1 with h1
            subst h1
            simp only at h2 h8
            subst h2
            rcases h8 with ⟨h8, _⟩ | ⟨b', us, ty, e, h8, h9, h10⟩
            . cases h8
            . injection e with e
              subst e
              obtain ⟨u, hu1, hu2⟩ := rowcase (cap := 0) h8 h7 h10 hy hp rfl
              exact ⟨u, hu1, hu2, rfl⟩
          . cases h
        . cases h
      . cases h
    . rename_i g' kk xs hs
      split at h
      . rename_i e; subst e
        split at h
        . rename_i y hy
          split at h
          . rename_i v' hp
            simp only [Xb, Xd] at h
            obtain ⟨rfl, rfl, rfl⟩ := h
            obtain ⟨bi, h1, h2, h3, h4, h5, h6, h7⟩ := R.blk _ _ hs
            rw [hβ] at h1
            injection h1 with h1
            subst h1
            simp only at h2 h7
            subst h2
            rcases h7 with h7 | ⟨b', e, h7⟩
            . subst h7; simp at hy
            . injection e with e
              subst e
              obtain ⟨u, hu1, hu2⟩ := frowcase h7 hy hp rfl
              exact ⟨u, hu1, hu2, rfl⟩
          . cases h
        . cases h
      . cases h
    . rename_i g' kk xs hs
      split at h
      . rename_i e; subst e
        split at h
        . rename_i y hy
          split at h
          . rename_i v' hp
            simp only [Xb, Xd] at h
            obtain ⟨rfl, rfl, rfl⟩ := h
            obtain ⟨bi, h1, h2, h3, h4, h5, h6, b', us, ty, e, h8, h9, h10⟩ := R.blk _ _ hs
            rw [hβ] at h1
            injection h1 with h1
            subst h1
            simp only at h2 e
            subst h2
            injection e with e
            subst e
            obtain ⟨u, hu1, hu2⟩ := rowcase (cap := 0) h8 (fun x hx => (h6 x hx).1) h10 hy hp rfl
            exact ⟨u, hu1, hu2, rfl⟩
          . cases h
        . cases h
      . cases h
    . cases h
  . rename_i cs o
    simp only [VR] at ha
    obtain ⟨b, off, rfl, h1, h2⟩ := ha
    split at h
    . rename_i v' hp
      simp only [Xb, Xd] at h
      obtain ⟨rfl, rfl, rfl⟩ := h
      obtain ⟨us, h3, h4⟩ := Znl h1
      obtain ⟨u, hu1, hu2⟩ := fin (off := off) (fun j u hu => R.imm _ _ _ (h4 j u hu)) h3 hp rfl
      exact ⟨u, hu1, hu2, rfl⟩
    . cases h
  . cases h
end
end
section
open Go.RowKit
section
variable {P:Program}{base:Nat->Prop}{w0 w w':World}{I0 I I':Imm}{β β':Bmap}{σ σ':Za}
def Zil(I:Imm)(β:Bmap)(w:World)(v:Value)(xs:List AVal):Prop :=
 ∃ A cap,v=.slice A xs.length cap/\xs.length<=cap/\cap<=9223372036854775807/\Zao xs=true /\
  (xs=[]\/∃ b off k us,A=some ⟨b,off,none⟩/\0<k/\(∀ x∈xs,x.cells.length=k)/\VRs I β (xs.flatMap AVal.cells) us/\∀ j u,us[j]?=some u->w.cell? ⟨b,off+j,none⟩=some u)
theorem Zoy(R:Rel base w0 I0 I β σ w){x:Bool}{xs:List AVal}{v:Value}(h:VR I β (.lst x xs) v):Zil I β w v xs:=by
 simp only[VR]at h
 obtain⟨A,cap,h1,h2,h3,h4,h5,h6⟩:=h
 refine⟨A,cap,h1,h2,h3,h6,?_⟩
 rcases h5 with h5 |⟨b,off,k,e,hk,h5⟩
 ·exact Xr h5
 ·obtain⟨us,h7,h8⟩:=Zym h5
  exact XE ⟨b,off,k,us,e,hk,Zws h5,h7,fun j u hu=>R.imm _ _ _ (h8 j u hu)⟩
theorem Zkq{xs:List AVal}(h:Zao xs=true)(n:Nat):Zao (xs.take n)=true:=by
 rw[Zdd]at h⊢
 exact fun x hx=>h x (WM hx)
theorem ZjT{xs:List AVal}(h:Zao xs=true)(n:Nat):Zao (xs.drop n)=true:=by
 rw[Zdd]at h⊢
 exact fun x hx=>h x (Ww hx)
theorem ZhH{xs ys:List AVal}(h:Zao xs=true)(h':Zao ys=true):Zao (xs++ys)=true:=by
 rw[Zdd]at h h' ⊢
 intro x hx
 rcases Xv.1 hx with hx |hx
 ·exact h x hx
 ·exact h' x hx
theorem ZNR(R:Rel base w0 I0 I β σ w){t g k lo n:Nat}{xs:List AVal}{v:Value}(hs:σ[t]?=some (.row g k xs))(hn:lo+n<=xs.length)(h:VR I β (.sl t g lo n) v):Zil I β w v ((xs.drop lo).take n):=by
 simp only[VR]at h
 obtain⟨bi,h1,h2,h3,h4⟩:=h
 obtain⟨bi',e1,e2,e3,e4,e5,e6,e7,e8⟩:=R.blk _ _ hs
 rw[h1]at e1
 injection e1 with e1
 subst e1
 have hl:((xs.drop lo).take n).length=n:=by simp;omega
 have ht:=Zkq (ZjT e6 lo) n
 have zero:∀ A,n=0->v=.slice A 0 0->Zil I β w v ((xs.drop lo).take n):=by
  intro A hz e
  subst hz
  exact⟨A,0,by simpa using e,by simp,by simp,by simp[Zao],Xr (by simp)⟩
 rcases h4 with⟨b,hb,rfl⟩ |⟨hb,hc,A,rfl⟩ |⟨_,_,hz,A,hv⟩
 ·rcases e8 with⟨e8,_⟩ |⟨b',us,ty,e,e8,e9,e10⟩
  ·rw[hb]at e8;cases e8
  ·rw[hb]at e
   injection e with e
   subst e
   refine⟨_,_,by rw[hl],by rw[hl];omega,by omega,ht,XE ⟨b,lo*bi.k,k,((us.toList.take (xs.length*k)).drop (lo*k)).take (n*k),rfl,e3,fun x hx=>e7 x (Ww (WM hx)),?_,?_⟩⟩
   ·have h5:=ZfK (ZfP e10 (lo*k)) (n*k)
    rwa [Zip e7,ZkV (fun x hx=>e7 x (Ww hx))]at h5
   ·intro j u hu
    rw[XS]at hu
    split at hu
    ·rw[Wq,XS]at hu
     split at hu
     ·rw[Zgy e8,e2];simpa using hu
     ·cases hu
    ·cases hu
 ·exact zero A (by omega) rfl
 ·exact zero A hz hv
theorem ZpG(R:Rel base w0 I0 I β σ w){t g k lo n:Nat}{xs:List AVal}{v:Value}(hs:σ[t]?=some (.frow g k xs))(hn:lo+n<=xs.length)(h:VR I β (.sl t g lo n) v):VR I β (.lst false ((xs.drop lo).take n)) v:=by
 simp only[VR]at h⊢
 obtain⟨bi,h1,h2,h3,h4⟩:=h
 obtain⟨bi',e1,e2,e3,e4,e5,e6,e7⟩:=R.blk _ _ hs
 rw[h1]at e1
 injection e1 with e1
 subst e1
 have hl:((xs.drop lo).take n).length=n:=by simp;omega
 have ht:=Zkq (ZjT e6 lo) n
 have zero:∀ A,n=0->v=.slice A 0 0->∃ A cap,v=.slice A ((xs.drop lo).take n).length cap/\((xs.drop lo).take n).length<=cap/\cap<=9223372036854775807/\(false=true->cap=((xs.drop lo).take n).length)/\((xs.drop lo).take n=[]\/∃ b off k,A=some ⟨b,off,none⟩/\0<k/\LR I β k ((xs.drop lo).take n) b off)/\Zao ((xs.drop lo).take n)=true:=by
  intro A hz e
  subst hz
  exact⟨A,0,by simpa using e,by simp,by simp,by simp,Xr (by simp),by simp[Zao]⟩
 rcases h4 with⟨b,hb,rfl⟩ |⟨hb,hc,A,rfl⟩ |⟨_,_,hz,A,hv⟩
 ·refine⟨_,_,by rw[hl],by rw[hl];omega,by omega,by simp,?_,ht⟩
  rcases e7 with e7 |⟨b',e,e7⟩
  ·subst e7;exact Xr (by simp)
  ·rw[hb]at e
   injection e with e
   subst e
   have h5:=ZqT (n:=n) (ZsE (n:=lo) e7)
   rw[XB]at h5
   exact XE ⟨b,lo*bi.k,k,rfl,e3,by rw[e2];exact h5⟩
 ·exact zero A (by omega) rfl
 ·exact zero A hz hv
theorem Zsi(R:Rel base w0 I0 I β σ w){a:AVal}{xs:List AVal}{ts:List Nat}{v:Value}(hn:∀ l,a≠.str l)(h:ZY σ a=some (xs,ts))(hv:VR I β a v):Zil I β w v xs:=by
 unfold ZY at h
 split at h
 ·simp only[Xb,Xd]at h
  obtain⟨rfl,rfl⟩:=h
  exact Zoy R hv
 ·rename_i l;exact absurd rfl (hn l)
 ·split at h
  ·rename_i hs
   split at h
   ·rename_i he
    obtain⟨rfl,he⟩:=he
    simp only[Xb,Xd]at h
    obtain⟨rfl,rfl⟩:=h
    exact ZNR R hs he hv
   ·cases h
  ·rename_i hs
   split at h
   ·rename_i he
    obtain⟨rfl,he⟩:=he
    simp only[Xb,Xd]at h
    obtain⟨rfl,rfl⟩:=h
    exact Zoy R (ZpG R hs he hv)
   ·cases h
  ·cases h
 ·cases h
def Rowy(σ:Za)(ts:List Nat):Prop:=∀ t∈ts,∃ g k xs,σ[t]?=some (.row g k xs)\/σ[t]?=some (.frow g k xs)
def Frozen(σ:Za)(ts:List Nat):Prop:=∀ t∈ts,∃ g k xs,σ[t]?=some (.frow g k xs)
theorem Rowy.append{ts us:List Nat}(h:Rowy σ ts)(h':Rowy σ us):Rowy σ (ts++us):=by
 intro t ht
 rcases Xv.1 ht with ht |ht
 ·exact h t ht
 ·exact h' t ht
theorem Zma{a:AVal}{xs:List AVal}{ts:List Nat}(h:ZY σ a=some (xs,ts)):Rowy σ ts:=by
 unfold ZY at h
 split at h
 ·simp only[Xb,Xd]at h;rw[<-h.2];intro t ht;simp at ht
 ·simp only[Xb,Xd]at h;rw[<-h.2];intro t ht;simp at ht
 ·split at h
  ·rename_i hs
   split at h
   ·simp only[Xb,Xd]at h;rw[<-h.2];intro t ht;simp at ht;subst ht;exact⟨_,_,_,Xr hs⟩
   ·cases h
  ·rename_i hs
   split at h
   ·simp only[Xb,Xd]at h;rw[<-h.2];intro t ht;simp at ht;subst ht;exact⟨_,_,_,XE hs⟩
   ·cases h
  ·cases h
 ·cases h
theorem Zlm{a y:AVal}{ts:List Nat}(h:ZK σ a=some (y,ts)):Rowy σ ts:=by
 unfold ZK at h
 split at h
 case h_2 =>
  split at h
  ·rename_i he
   simp only[Xb,Xd]at h
   rw[<-h.2]
   exact Zma he
  ·cases h
 case h_9=>cases h
 all_goals
  simp only[Xb,Xd]at h
  rw[<-h.2]
  intro t ht
  simp at ht
theorem Zrb:∀ {cs ys:List AVal} {ts:List Nat},Zat σ cs=some (ys,ts)->Rowy σ ts
 | [],ys,ts,h=>by simp only[Zat,Xb,Xd]at h;rw[<-h.2];intro t ht;simp at ht
 |c::cs,ys,ts,h=>by
  simp only[Zat]at h
  split at h
  ·rename_i h1
   split at h
   ·rename_i h2
    simp only[Xb,Xd]at h
    rw[<-h.2]
    exact(Zlm h1).append (Zrb h2)
   ·cases h
  ·cases h
theorem Zx1{a y:AVal}{ts:List Nat}(h:ZP σ a=some (y,ts)):Rowy σ ts:=by
 unfold ZP at h
 split at h
 ·split at h
  ·rename_i h1
   simp only[Xb,Xd]at h
   rw[<-h.2]
   exact Zrb h1
  ·cases h
 ·exact Zlm h
theorem Zlz:∀ {cs ys:List AVal} {ts:List Nat},viewAs σ cs=some (ys,ts)->Rowy σ ts
 | [],ys,ts,h=>by simp only[viewAs,Xb,Xd]at h;rw[<-h.2];intro t ht;simp at ht
 |c::cs,ys,ts,h=>by
  simp only[viewAs]at h
  split at h
  ·rename_i h1
   split at h
   ·rename_i h2
    simp only[Xb,Xd]at h
    rw[<-h.2]
    exact(Zx1 h1).append (Zlz h2)
   ·cases h
  ·cases h
theorem ZXu{a y:AVal}{ts:List Nat}(h:viewR σ a=some (y,ts)):Rowy σ ts:=by
 unfold viewR at h
 split at h
 ·split at h
  ·rename_i h1
   simp only[Xb,Xd]at h
   rw[<-h.2]
   exact Zlz h1
  ·cases h
 ·exact Zx1 h
def Alike(σ σ':Za):Prop:=∀ a,ZY σ' a=ZY σ a
theorem Alike.view1(h:Alike σ σ')(a:AVal):ZK σ' a=ZK σ a:=by
 cases a<;>simp only[ZK]
 rw[h]
theorem Alike.views(h:Alike σ σ'):∀ cs,Zat σ' cs=Zat σ cs
 | []=>rfl
 |c::cs=>by simp only[Zat,h.view1,h.views cs]
theorem Alike.view(h:Alike σ σ')(a:AVal):ZP σ' a=ZP σ a:=by
 cases a<;>simp only[ZP,h.view1,h.views]
theorem Alike.viewAs(h:Alike σ σ'):∀ cs,viewAs σ' cs=viewAs σ cs
 | []=>rfl
 |c::cs=>by
  have ih:=h.viewAs cs
  simp only[YtfhocpplckoodaaGreatDoor.viewAs,h.view,ih]
theorem Alike.viewR(h:Alike σ σ')(a:AVal):viewR σ' a=viewR σ a:=by
 cases a<;>simp only[YtfhocpplckoodaaGreatDoor.viewR,h.view,h.viewAs]
theorem ZI7{I:Imm}{β:Bmap}{xs:List AVal}{vs:List Value}(h:VRs I β xs vs){i:Nat}{v:Value}(hv:vs[i]?=some v):∃ x,xs[i]?=some x/\VR I β x v:=by
 cases hx:xs[i]? with
 |none =>
  rw[X3,Za1 h,<-X3]at hx
  rw[hx]at hv;cases hv
 |some x =>
  obtain⟨v',h1,h2⟩:=ZcO h hx
  rw[hv]at h1;injection h1 with h1;subst h1
  exact⟨x,rfl,h2⟩
theorem ZG5{I:Imm}{β:Bmap}{c:AVal}{n:Int}(h:nb1 c=true)(hv:VR I β c (.int .u8 n)):False:=by
 unfold nb1 at h
 split at h
 ·cases h
 ·rename_i k m hk
  simp only[VR]at hv
  injection hv with h1 h2
  subst h1;exact hk rfl
 all_goals first
  |(cases h;done)
  |(simp only[VR]at hv;first |(cases hv;done) |(cases hv.1;done) |(obtain⟨_,_,hv,_⟩:=hv;cases hv))
theorem ZBr(R:Rel base w0 I0 I β σ w){t g k:Nat}{xs:List AVal}(hs:σ[t]?=some (.row g k xs)) :
  ∃ I',I.le I'/\Rel base w0 I0 I' β (σ.set t (.frow g k xs)) w/\(Zlo xs=true->∀ b o n,I' b o=some (.int .u8 n)->I b o=some (.int .u8 n)):=by
 have hsl:t<σ.length:=(Xl.1 hs).1
 obtain⟨bi,h1,h2,h3,h4,h5,h6,h7,h8⟩:=R.blk _ _ hs
 rcases h8 with⟨h8,h9⟩ |⟨b,us,ty,e,h8,h9,h10⟩
 ·have hx:xs=[]:=XG (by omega)
  refine⟨I,Imm.le.refl I,R.upd (Imm.le.refl I) (Bmap.le.refl β) (KB.refl base w) (fun _ _ _=>rfl) R.imm t _ rfl hsl (fun _ _ _=>rfl) (fun t' x b _ hx hb=>⟨rfl,(R.own t' x b hx hb).2,by simp[ZL]⟩) ⟨bi,h1,h2,h3,h4,h5,h6,Xr hx⟩ (fun b e=>by cases e) (fun g' hg=>R.gen t _ g' hs (by simpa[Zl]using hg)) (by simp),fun _ _ _ _ h=>h⟩
 ·have hown:ZL β t (.row g k xs)=some b:=by simp[ZL,h1,e]
  have ho:=R.own t _ b hs hown
  let I':Imm:=fun b' o=>if b'=b/\o<xs.length*k then us[o]? else I b' o
  have hle:I.le I':=by
   intro b' o u hu
   have : b'≠b:=by rintro rfl;rw[ho.2 o]at hu;cases hu
   simp only[I',this,false_and,if_false]
   exact hu
  have hlen:xs.length*k<=us.size:=by rw[h9];exact Wl k h5
  refine⟨I',hle,R.upd hle (Bmap.le.refl β) (KB.refl base w) ?_ ?_ t _ rfl hsl (fun _ _ _=>rfl) ?_ ?_ (fun b e=>by cases e) (fun g' hg=>R.gen t _ g' hs (by simpa[Zl]using hg)) (by simp),?_⟩
  ·intro b' o hb'
   have : b'≠b:=by rintro rfl;exact ho.1 hb'
   simp only[I',this,false_and,if_false]
  ·intro b' o u hu
   simp only[I']at hu
   split at hu
   ·rename_i hc
    rw[hc.1,Zgy h8];exact hu
   ·exact R.imm _ _ _ hu
  ·intro t' x b' hne hx hb'
   have : b'≠b:=by rintro rfl;exact hne (R.apart t' x t _ b' hx hs hb' hown)
   refine⟨rfl,fun o=>?_,by simp[ZL]⟩
   simp only[I',this,false_and,if_false]
   exact(R.own t' x b' hx hb').2 o
  ·refine⟨bi,h1,h2,h3,h4,h5,h6,XE ⟨b,e,?_⟩⟩
   refine Zk2 h7 (VRs.mono hle (Bmap.le.refl β) _ _ h10) (fun j u hu=>?_)
   rw[XS]at hu
   split at hu
   ·rename_i hj
    simp only[I',XB,true_and,hj,if_true]
    simpa using hu
   ·cases hu
  ·intro hnb b' o n hu
   simp only[I']at hu
   split at hu
   ·rename_i hc
    exfalso
    have hj:(us.toList.take (xs.length*k))[o]?=some (.int .u8 n):=by
     rw[XS,if_pos hc.2];simpa using hu
    obtain⟨c,hc1,hc2⟩:=ZI7 h10 hj
    obtain⟨x,hx,hcx⟩:=Wk.1 (XC hc1)
    exact ZG5 (XH.1 (XH.1 hnb x hx) c hcx) hc2
   ·exact hu
theorem ZEM{t g k:Nat}{xs:List AVal}(hs:σ[t]?=some (.row g k xs)):Alike σ (σ.set t (.frow g k xs)):=by
 have hsl:t<σ.length:=(Xl.1 hs).1
 intro a
 cases a<;>simp only[ZY]
 rename_i t' g' lo n
 rw[Xx]
 by_cases e:t=t'
 ·subst e
  rw[if_pos rfl,if_pos hsl,hs]
 ·rw[if_neg e]
theorem Zix:∀ (ts:List Nat) {I:Imm} {σ:Za},Rel base w0 I0 I β σ w->∃ I',I.le I'/\Rel base w0 I0 I' β (Zr σ ts) w/\Alike σ (Zr σ ts)/\(∀ (t g k:Nat) (xs:List AVal),σ[t]?=some (ZO.frow g k xs)->(Zr σ ts)[t]?=some (ZO.frow g k xs))/\(Rowy σ ts->Frozen (Zr σ ts) ts)/\(Zr σ ts).length=σ.length/\(∀ (t:Nat) (x:ZO),t∉ts->σ[t]?=some x->(Zr σ ts)[t]?=some x)/\(ts.all (Zgk σ)=true->∀ b o n,I' b o=some (.int .u8 n)->I b o=some (.int .u8 n))
 | [],I,σ,R=>⟨I,Imm.le.refl I,R,fun _=>rfl,fun _ _ _ _ h=>h,fun _ t ht=>by simp at ht,rfl,fun _ _ _ h=>h,fun _ _ _ _ h=>h⟩
 |t::ts,I,σ,R=>by
  unfold Zr
  split
  ·rename_i g k xs hs
   obtain⟨I1,h1,R1,h1n⟩:=ZBr R hs
   have hsl:t<σ.length:=(Xl.1 hs).1
   obtain⟨I2,h2,R2,h3,h4,h5,h6,h7,h8⟩:=Zix ts R1
   have hk:∀ (t' g' k':Nat) (xs':List AVal),σ[t']?=some (ZO.frow g' k' xs')->(σ.set t (ZO.frow g k xs))[t']?=some (ZO.frow g' k' xs'):=by
    intro t' g' k' xs' h
    rw[Xx,if_neg (by rintro rfl;rw[hs]at h;cases h)]
    exact h
   refine⟨I2,h1.trans h2,R2,fun a=>(h3 a).trans (ZEM hs a),fun t' g' k' xs' h=>h4 _ _ _ _ (hk _ _ _ _ h),?_,by rw[h6];simp,?_,?_⟩
   ·intro hr t' ht'
    rcases XR.1 ht' with rfl |ht'
    ·exact⟨g,k,xs,h4 _ _ _ _ (by rw[Xx,if_pos rfl,if_pos hsl])⟩
    ·refine h5 (fun t'' ht''=>?_) t' ht'
     obtain⟨g',k',xs',hx⟩:=hr t'' (by simp[ht''])
     by_cases e:t=t''
     ·subst e;exact⟨g,k,xs,XE (by rw[Xx,if_pos rfl,if_pos hsl])⟩
     ·exact⟨g',k',xs',by rw[Xx,if_neg e];exact hx⟩
   ·intro t' x hn h
    simp only[XR,not_or]at hn
    exact h7 t' x hn.2 (by rw[Xx,if_neg (fun e=>hn.1 e.symm)];exact h)
   ·intro hnb b o n hu
    simp only[XO,Xk]at hnb
    refine h1n (by simpa[Zgk,hs]using hnb.1) b o n (h8 ?_ b o n hu)
    refine XH.2 fun t' ht'=>?_
    have:=XH.1 hnb.2 t' ht'
    unfold Zgk at this ⊢
    rw[Xx]
    by_cases e:t=t'
    ·rw[if_pos e,if_pos hsl]
    ·rw[if_neg e];exact this
  ·rename_i hno
   obtain⟨I2,h2,R2,h3,h4,h5,h6,h7,h8⟩:=Zix ts R
   refine⟨I2,h2,R2,h3,h4,?_,h6,fun t' x hn h=>h7 t' x (fun hc=>hn (by simp[hc])) h,fun hnb=>h8 (by simp only[XO,Xk]at hnb;exact hnb.2)⟩
   intro hr t' ht'
   rcases XR.1 ht' with rfl |ht'
   ·obtain⟨g,k,xs,hx |hx⟩:=hr t' (by simp)
    ·exact absurd hx (hno g k xs)
    ·exact⟨g,k,xs,h4 _ _ _ _ hx⟩
   ·exact h5 (fun t'' ht''=>hr t'' (by simp[ht''])) t' ht'
theorem Znj(R:Rel base w0 I0 I β σ w){a y:AVal}{ts:List Nat}{v:Value}(hF:Frozen σ ts)(h:ZK σ a=some (y,ts))(hv:VR I β a v):VR I β y v/\Zbb y=true:=by
 unfold ZK at h
 split at h
 case h_1 x xs =>
  simp only[Xb,Xd]at h
  obtain⟨rfl,rfl⟩:=h
  simp only[VR]at hv ⊢
  obtain⟨A,cap,h1,h2,h3,h4,h5,h6⟩:=hv
  exact⟨⟨A,cap,h1,h2,h3,by simp,h5,h6⟩,by simpa[Zbb]using h6⟩
 case h_2 t g lo n =>
  split at h
  ·rename_i xs us he
   simp only[Xb,Xd]at h
   obtain⟨rfl,rfl⟩:=h
   simp only[ZY]at he
   split at he
   ·rename_i hs
    split at he
    ·simp only[Xb,Xd]at he
     obtain⟨g',k',xs',hx⟩:=hF t (by rw[<-he.2];simp)
     rw[hs]at hx;cases hx
    ·cases he
   ·rename_i hs
    split at he
    ·rename_i hc
     obtain⟨rfl,hc⟩:=hc
     simp only[Xb,Xd]at he
     obtain⟨rfl,rfl⟩:=he
     have:=ZpG R hs hc hv
     refine⟨this,?_⟩
     simp only[VR]at this
     obtain⟨_,_,_,_,_,_,_,h6⟩:=this
     simpa[Zbb]using h6
    ·cases he
   ·cases he
  ·cases h
 case h_9=>cases h
 all_goals
  simp only[Xb,Xd]at h
  obtain⟨rfl,rfl⟩:=h
  exact⟨hv,rfl⟩
theorem Frozen.left{ts us:List Nat}(h:Frozen σ (ts++us)):Frozen σ ts:=fun t ht=>h t (by simp[ht])
theorem Frozen.right{ts us:List Nat}(h:Frozen σ (ts++us)):Frozen σ us:=fun t ht=>h t (by simp[ht])
theorem Ztf(R:Rel base w0 I0 I β σ w):∀ {cs ys:List AVal} {ts:List Nat} {vs:List Value},Frozen σ ts->Zat σ cs=some (ys,ts)->VRs I β cs vs->VRs I β ys vs/\ZaX ys=true
 | [],ys,ts,vs,_,h,hv=>by
  simp only[Zat,Xb,Xd]at h
  rw[<-h.1]
  exact⟨hv,rfl⟩
 |c::cs,ys,ts,vs,hF,h,hv=>by
  simp only[Zat]at h
  simp only[VRs]at hv
  obtain⟨v,vs',rfl,hv1,hv2⟩:=hv
  split at h
  ·rename_i y ts1 h1
   split at h
   ·rename_i ys1 us1 h2
    simp only[Xb,Xd]at h
    obtain⟨rfl,rfl⟩:=h
    obtain⟨a1,a2⟩:=Znj R hF.left h1 hv1
    obtain⟨b1,b2⟩:=Ztf R hF.right h2 hv2
    exact⟨by simp only[VRs];exact⟨v,vs',rfl,a1,b1⟩,by simp[ZaX,a2,b2]⟩
   ·cases h
  ·cases h
theorem Zwn(R:Rel base w0 I0 I β σ w){a y:AVal}{ts:List Nat}{v:Value}(hF:Frozen σ ts)(h:ZP σ a=some (y,ts))(hv:VR I β a v):VR I β y v/\ZaX y.cells=true:=by
 unfold ZP at h
 split at h
 ·rename_i cs
  split at h
  ·rename_i ys us h1
   simp only[Xb,Xd]at h
   obtain⟨rfl,rfl⟩:=h
   simp only[VR]at hv ⊢
   obtain⟨us',rfl,hv⟩:=hv
   obtain⟨a1,a2⟩:=Ztf R hF h1 hv
   exact⟨⟨us',rfl,a1⟩,a2⟩
  ·cases h
 ·rename_i hne
  obtain⟨a1,a2⟩:=Znj R hF h hv
  refine⟨a1,?_⟩
  cases y<;>simp_all[Zbb,AVal.cells,ZaX]
theorem ZqU(R:Rel base w0 I0 I β σ w):∀ {cs ys:List AVal} {ts:List Nat} {vs:List Value},Frozen σ ts->viewAs σ cs=some (ys,ts)->VRs I β cs vs->VRs I β ys vs/\∀ y∈ys,ZaX y.cells=true
 | [],ys,ts,vs,_,h,hv=>by
  simp only[viewAs,Xb,Xd]at h
  rw[<-h.1]
  exact⟨hv,by simp⟩
 |c::cs,ys,ts,vs,hF,h,hv=>by
  simp only[viewAs]at h
  simp only[VRs]at hv
  obtain⟨v,vs',rfl,hv1,hv2⟩:=hv
  split at h
  ·rename_i y ts1 h1
   split at h
   ·rename_i ys1 us1 h2
    simp only[Xb,Xd]at h
    obtain⟨rfl,rfl⟩:=h
    obtain⟨a1,a2⟩:=Zwn R hF.left h1 hv1
    obtain⟨b1,b2⟩:=ZqU R hF.right h2 hv2
    refine⟨by simp only[VRs];exact⟨v,vs',rfl,a1,b1⟩,?_⟩
    intro z hz
    rcases XR.1 hz with rfl |hz
    ·exact a2
    ·exact b2 z hz
   ·cases h
  ·cases h
theorem VR.of_cells{I:Imm}{β β':Bmap}{x:AVal}{v:Value}(ht:ZaX x.cells=true)(h:VR I β x v):VR I β' x v:=by
 cases x
 case agg cs =>
  simp only[VR]at h⊢
  obtain⟨us,rfl,h⟩:=h
  refine⟨us,rfl,Zd5 (Za1 h) (fun i x v hx hv=>?_)⟩
  obtain⟨v',h1,h2⟩:=ZcO h hx
  rw[hv]at h1;injection h1 with h1;subst h1
  exact VR.of_tree (Zdy.1 ht x (XC hx)) h2
 all_goals exact VR.of_tree (by simpa[AVal.cells,ZaX]using ht) h
theorem VRs.of_cells{I:Imm}{β β':Bmap}{xs:List AVal}{vs:List Value}(ht:∀ x∈xs,ZaX x.cells=true)(h:VRs I β xs vs):VRs I β' xs vs :=
 Zd5 (Za1 h) (fun i x v hx hv=>by
  obtain⟨v',h1,h2⟩:=ZcO h hx
  rw[hv]at h1;injection h1 with h1;subst h1
  exact VR.of_cells (ht x (XC hx)) h2)
theorem ZNw(R:Rel base w0 I0 I β σ w){a y:AVal}{ts:List Nat}{v:Value}(hF:Frozen σ ts)(h:viewR σ a=some (y,ts))(hv:VR I β a v):VR I B0 y v:=by
 unfold viewR at h
 split at h
 ·rename_i vs
  split at h
  ·rename_i ys us h1
   simp only[Xb,Xd]at h
   obtain⟨rfl,rfl⟩:=h
   simp only[VR]at hv ⊢
   obtain⟨us',rfl,hv⟩:=hv
   obtain⟨a1,a2⟩:=ZqU R hF h1 hv
   exact⟨us',rfl,VRs.of_cells a2 a1⟩
  ·cases h
 ·obtain⟨a1,a2⟩:=Zwn R hF h hv
  exact VR.of_cells a2 a1
theorem Zl9{I I':Imm}{β β':Bmap}{x:AVal}{v:Value}(hf:Za5 x=true)(h:VR I β x v):VR I' β' x v:=by
 cases x<;>simp[Za5]at hf<;>simpa only[VR]using h
theorem Zxv{I I':Imm}{β β':Bmap}{xs:List AVal}{vs:List Value}(hf:xs.all Za5=true)(h:VRs I β xs vs):VRs I' β' xs vs :=
 Zd5 (Za1 h) (fun i x v hx hv=>by
  obtain⟨v',h1,h2⟩:=ZcO h hx
  rw[hv]at h1;injection h1 with h1;subst h1
  exact Zl9 (XH.1 hf x (XC hx)) h2)
theorem Zyz{I I':Imm}{β β':Bmap}{x:AVal}{v:Value}(hf:Zbr x=true)(h:VR I β x v):VR I' β' x v:=by
 cases x
 case agg cs =>
  simp only[VR]at h⊢
  obtain⟨us,rfl,h⟩:=h
  exact⟨us,rfl,Zxv hf h⟩
 all_goals exact Zl9 hf h
theorem ZIE{I I':Imm}{β β':Bmap}{x:AVal}{v:Value}(hf:ZbJ x=true)(h:VR I β x v):VR I' β' x v:=by
 cases x
 case tup cs =>
  simp only[VR]at h⊢
  obtain⟨us,rfl,h⟩:=h
  exact⟨us,rfl,Zd5 (Za1 h) (fun i x v hx hv=>by
   obtain⟨v',h1,h2⟩:=ZcO h hx
   rw[hv]at h1;injection h1 with h1;subst h1
   exact Zyz (XH.1 hf x (XC hx)) h2)⟩
 case pan=>simp only[VR]at h
 all_goals exact Zyz hf h
theorem ZAl(R:Rel base w0 I0 I β σ w){a y:AVal}{ts:List Nat}{v:Value}(hF:Frozen σ ts)(h:Zdc σ a=some (y,ts))(hv:VR I β a v):VR I β y v:=by
 unfold Zdc at h
 split at h
 case h_3=>cases h
 case h_1 x xs =>
  exact(Znj R hF (a:=.lst x xs) (by simpa only[ZK]using h) hv).1
 case h_2 t g lo n =>
  exact(Znj R hF (a:=.sl t g lo n) (by simpa only[ZK]using h) hv).1
 case h_4 =>
  simp only[Xb,Xd]at h
  obtain⟨rfl,rfl⟩:=h
  exact hv
theorem ZyW{a y:AVal}{ts:List Nat}(h:Zdc σ a=some (y,ts)):Rowy σ ts:=by
 unfold Zdc at h
 split at h
 case h_3=>cases h
 case h_1 x xs=>exact Zlm (a:=.lst x xs) (by simpa only[ZK]using h)
 case h_2 t g lo n=>exact Zlm (a:=.sl t g lo n) (by simpa only[ZK]using h)
 case h_4 =>
  simp only[Xb,Xd]at h
  rw[<-h.2];intro t ht;simp at ht
theorem Zxt:∀ {cs ys:List AVal} {ts:List Nat},Zc2 σ cs=some (ys,ts)->Rowy σ ts
 | [],ys,ts,h=>by simp only[Zc2,Xb,Xd]at h;rw[<-h.2];intro t ht;simp at ht
 |c::cs,ys,ts,h=>by
  simp only[Zc2]at h
  split at h
  ·rename_i h1
   split at h
   ·rename_i h2
    simp only[Xb,Xd]at h
    rw[<-h.2]
    exact(ZyW h1).append (Zxt h2)
   ·cases h
  ·cases h
theorem ZTk{a y:AVal}{ts:List Nat}(h:showA σ a=some (y,ts)):Rowy σ ts:=by
 unfold showA at h
 split at h
 ·split at h
  ·rename_i h1
   simp only[Xb,Xd]at h
   rw[<-h.2]
   exact Zxt h1
  ·cases h
 ·exact ZyW h
theorem ZnA:∀ {cs ys:List AVal} {ts:List Nat},showAs σ cs=some (ys,ts)->Rowy σ ts
 | [],ys,ts,h=>by simp only[showAs,Xb,Xd]at h;rw[<-h.2];intro t ht;simp at ht
 |c::cs,ys,ts,h=>by
  simp only[showAs]at h
  split at h
  ·rename_i h1
   split at h
   ·rename_i h2
    simp only[Xb,Xd]at h
    rw[<-h.2]
    exact(ZTk h1).append (ZnA h2)
   ·cases h
  ·cases h
theorem ZAm(R:Rel base w0 I0 I β σ w):∀ {cs ys:List AVal} {ts:List Nat} {vs:List Value},Frozen σ ts->Zc2 σ cs=some (ys,ts)->VRs I β cs vs->VRs I β ys vs
 | [],ys,ts,vs,_,h,hv=>by
  simp only[Zc2,Xb,Xd]at h
  rw[<-h.1];exact hv
 |c::cs,ys,ts,vs,hF,h,hv=>by
  simp only[Zc2]at h
  simp only[VRs]at hv
  obtain⟨v,vs',rfl,hv1,hv2⟩:=hv
  split at h
  ·rename_i y ts1 h1
   split at h
   ·rename_i ys1 us1 h2
    simp only[Xb,Xd]at h
    obtain⟨rfl,rfl⟩:=h
    simp only[VRs]
    exact⟨v,vs',rfl,ZAl R hF.left h1 hv1,ZAm R hF.right h2 hv2⟩
   ·cases h
  ·cases h
theorem ZH2(R:Rel base w0 I0 I β σ w){a y:AVal}{ts:List Nat}{v:Value}(hF:Frozen σ ts)(h:showA σ a=some (y,ts))(hv:VR I β a v):VR I β y v:=by
 unfold showA at h
 split at h
 ·rename_i cs
  split at h
  ·rename_i ys us h1
   simp only[Xb,Xd]at h
   obtain⟨rfl,rfl⟩:=h
   simp only[VR]at hv ⊢
   obtain⟨us',rfl,hv⟩:=hv
   exact⟨us',rfl,ZAm R hF h1 hv⟩
  ·cases h
 ·exact ZAl R hF h hv
theorem Zzp(R:Rel base w0 I0 I β σ w):∀ {cs ys:List AVal} {ts:List Nat} {vs:List Value},Frozen σ ts->showAs σ cs=some (ys,ts)->VRs I β cs vs->VRs I β ys vs
 | [],ys,ts,vs,_,h,hv=>by
  simp only[showAs,Xb,Xd]at h
  rw[<-h.1];exact hv
 |c::cs,ys,ts,vs,hF,h,hv=>by
  simp only[showAs]at h
  simp only[VRs]at hv
  obtain⟨v,vs',rfl,hv1,hv2⟩:=hv
  split at h
  ·rename_i y ts1 h1
   split at h
   ·rename_i ys1 us1 h2
    simp only[Xb,Xd]at h
    obtain⟨rfl,rfl⟩:=h
    simp only[VRs]
    exact⟨v,vs',rfl,ZH2 R hF.left h1 hv1,Zzp R hF.right h2 hv2⟩
   ·cases h
  ·cases h
theorem Alike.show1(h:Alike σ σ')(a:AVal):Zdc σ' a=Zdc σ a:=by
 cases a<;>simp only[Zdc]
 rw[h]
theorem Alike.shows(h:Alike σ σ'):∀ cs,Zc2 σ' cs=Zc2 σ cs
 | []=>rfl
 |c::cs=>by simp only[Zc2,h.show1,h.shows cs]
theorem Alike.showA(h:Alike σ σ')(a:AVal):showA σ' a=showA σ a:=by
 cases a<;>simp only[YtfhocpplckoodaaGreatDoor.showA,h.show1,h.shows]
theorem Alike.showAs(h:Alike σ σ'):∀ cs,showAs σ' cs=showAs σ cs
 | []=>rfl
 |c::cs=>by
  have ih:=h.showAs cs
  simp only[YtfhocpplckoodaaGreatDoor.showAs,h.showA,ih]
end
end
section
open Go.RowKit
theorem ZyU{cs vs:List AVal}{o:Nat}(h:o+vs.length<=cs.length):(setAt cs o vs).length=cs.length:=by
 unfold setAt;simp;omega
theorem ZLQ{A B ys:List AVal}{o:Nat}(h:o+ys.length<=A.length):setAt (A++B) o ys=setAt A o ys++B:=by
 unfold setAt
 rw[List.take_append_of_le_length (by omega),List.drop_append_of_le_length h,XU,XU,XU]
theorem ZRU{A B ys:List AVal}{p:Nat}:setAt (A++B) (A.length+p) ys=A++setAt B p ys:=by
 unfold setAt
 rw[XaT,XI (by omega),XaS,Wz (by omega)]
 simp only[XA,XU]
 congr 3
 ·congr 1;omega
 ·congr 2;omega
theorem Zll{k o:Nat}{ys:List AVal}:∀ {xs:List AVal} {i:Nat} {x x':AVal},(∀ x∈xs,x.cells.length=k)->xs[i]?=some x->x'.cells=setAt x.cells o ys->o+ys.length<=k ->
  (xs.set i x').flatMap AVal.cells=setAt (xs.flatMap AVal.cells) (i*k+o) ys
 | [],i,x,x',_,hx,_,_=>by simp at hx
 |y::r,0,x,x',hk,hx,he,ho=>by
  simp only[XJ,Xb]at hx
  subst hx
  rw[List.set_cons_zero,XK,XK,he,Xbd,XB,ZLQ (by rw[hk y (by simp)];exact ho)]
 |y::r,i+1,x,x',hk,hx,he,ho=>by
  simp only[XT]at hx
  have ih:=Zll (fun z hz=>hk z (by simp[hz])) hx he ho
  have hy:=hk y (by simp)
  rw[List.set_cons_succ,XK,XK,ih,show(i+1)*k+o=y.cells.length+(i*k+o)by rw[hy,Wh];omega,ZRU]
theorem ZAV{x x':AVal}{o:Nat}{ys:List AVal}(hy:ys.all ZX=true)(h:Zg5 x o ys=some x'):x'.cells=setAt x.cells o ys/\o+ys.length<=x.cells.length:=by
 unfold Zg5 at h
 split at h
 ·rename_i cs
  split at h
  ·injection h with h;subst h;exact⟨rfl,by assumption⟩
  ·cases h
 ·rename_i hne
  split at h
  ·rename_i v
   injection h with h;subst h
   have h1:v.cells=[v]:=by cases v<;>simp_all[AVal.cells,ZX]
   have h2:x.cells=[x]:=by cases x<;>simp_all[AVal.cells]
   rw[h1,h2];simp[setAt]
  ·cases h
section
variable {P:Program}{base:Nat->Prop}{w0 w w':World}{I0 I I':Imm}{β β':Bmap}{σ σ':Za}
theorem Zr6{t:TypeId}{k:Nat}(hk:ZbY P t=some k){b o:Nat}{us:Array Value}{ty:TypeId}(hh:w.heap[b]?=some (.cells us ty (0,0))){v:Value}(hl:v.cells.size=k)(hle:o+k<=us.size)(h1:∀ u∈v.cells.toList,u.oneCell'=true) :
  (Instr.storeAt t (.pointer (some ⟨b,o,none⟩)) v).run P w=.ok () (w.setRow b (us.toList.take o++v.cells.toList++us.toList.drop (o+v.cells.toList.length)).toArray):=by
 have:=run_storeCells_at (P:=P) b o ty v.cells.toList 0 us w hh (by simp;omega) h1
 unfold ZbY at hk
 cases hi:P.info? t with
 |none=>simp[hi]at hk
 |some i =>
  have hs:i.size=k:=by simpa[hi]using hk
  simp only[Wc]at this
  simp[Instr.storeAt,Instr.sureAddr,storeVar,sizeOf,typeInfo,hi,hs,hl,this]
def Post(base:Nat->Prop)(w0:World)(I0 I:Imm)(β:Bmap)(x:AVal)(σ':Za)(u:Value)(w':World):Prop :=
 ∃ I' β',I.le I'/\β.le β'/\Rel base w0 I0 I' β' σ' w'/\VR I' β' x u
theorem Post.mk{x:AVal}{u:Value}(hI:I.le I')(hβ:β.le β')(R:Rel base w0 I0 I' β' σ' w')(h:VR I' β' x u):Post base w0 I0 I β x σ' u w':=⟨I',β',hI,hβ,R,h⟩
theorem Post.here{x:AVal}{u:Value}(R:Rel base w0 I0 I β σ w)(h:VR I β x u):Post base w0 I0 I β x σ u w:=⟨I,β,Imm.le.refl I,Bmap.le.refl β,R,h⟩
theorem ZmU(I:Imm)(β:Bmap):VR I β (.tup []) undef:=by simp only[VR,VRs];exact⟨#[],rfl,rfl⟩
theorem ZhM{x:AVal}{v:Value}(ht:x≠.top)(h:VR I β x v):v.cells.size=x.cells.length:=by
 have:=Za1 (ZeH ht h);simpa using this.symm
theorem ZQM{x:AVal}(h:ZbA x=true):x≠.top:=by rintro rfl;simp[ZbA]at h
theorem ZWS{x:AVal}(h:ZaX x.cells=true):x≠.top:=by rintro rfl;simp[AVal.cells,ZaX,Zbb]at h
theorem ZRZ{x:AVal}(h:x.cells.all ZX=true):x≠.top:=by
 rintro rfl
 simp[AVal.cells,ZX]at h
theorem ZQQ{t:TypeId}{k:Nat}(hk:ZbY P t=some k)(R:Rel base w0 I0 I β σ w){a x:AVal}{va vx:Value}(ha:VR I β a va)(hx:VR I β x vx){y:AVal}{c:Cls}(h:stA σ k a x=some (y,σ',c)) :
  ∃ w',(Instr.storeAt t va vx).run P w=.ok () w'/\Post base w0 I0 I β y σ' undef w':=by
 unfold stA at h
 split at h
 case isFalse=>cases h
 rename_i hc
 obtain⟨hlen,hok⟩:=hc
 have htop:=ZRZ hok
 have hone:=Zhi (fun z hz=>XH.1 hok z hz) (ZeH htop hx)
 have hsz:=ZhM htop hx
 split at h
 ·rename_i t' o
  split at h
  ·rename_i cs hs
   split at h
   ·rename_i hle
    simp only[Xb,Xd]at h
    obtain⟨rfl,rfl,rfl⟩:=h
    simp only[VR]at ha
    obtain⟨b,k',c',hβ,rfl⟩:=ha
    obtain⟨b',k'',c'',us,ty,h1,h2,h3⟩:=R.blk _ _ hs
    rw[hβ]at h1
    simp only[Xb,BI.mk.injEq]at h1
    obtain⟨rfl,rfl,rfl⟩:=h1
    have hul:=Za1 h3
    refine⟨_,Zr6 hk h2 (by omega) (by simp at hul;omega) hone,Post.here (R.write hs (by simp[ZL,hβ]) (by simp[ZL,hβ]) _ ?_ rfl) (ZmU I β)⟩
    refine⟨b,k',c',_,ty,hβ,setRow_heap w b us _ ty (0,0) h2,?_⟩
    have:=Zke h3 (ZeH htop hx) o
    simpa using this
   ·cases h
  ·cases h
 ·rename_i t' g i o
  split at h
  ·rename_i g' kk xs hs
   split at h
   ·rename_i e;subst e
    split at h
    ·rename_i z hz
     split at h
     ·rename_i ys ts hv
      split at h
      ·cases h
      ·rename_i hnt
       split at h
       ·rename_i z' hp
        simp only[Xb,Xd]at h
        obtain⟨rfl,rfl,rfl⟩:=h
        obtain⟨I1,hI1,R1,hal,_,hfz,_,hoth,_⟩:=Zix ts R
        have hs1:=hoth t' _ (by simpa using hnt) hs
        obtain⟨v1,v2⟩:=Ztf R1 (hfz (Zrb hv)) (by rw[hal.views];exact hv) ((ZeH htop hx).mono hI1 (Bmap.le.refl β) _ _)
        simp only[VR]at ha
        obtain⟨b,k',c',hβ,rfl⟩:=ha
        obtain⟨bi,h1,h2,h3,h4,h5,h6,h7,h8⟩:=R1.blk _ _ hs1
        rw[hβ]at h1
        injection h1 with h1
        subst h1
        simp only at h2 h8
        subst h2
        rcases h8 with⟨h8,_⟩ |⟨b',us,ty,e,h8,h9,h10⟩
        ·cases h8
        injection e with e
        subst e
        have hyok:ys.all ZX=true:=XH.2 (fun q hq=>Zjt (Zdy.1 v2 q hq))
        obtain⟨p1,p2⟩:=ZAV hyok hp
        have hyl:=Za1 v1
        have hzk:z.cells.length=k':=h7 z (XC hz)
        have hil:i<xs.length:=(Xl.1 hz).1
        have hmul:=ZpD (k:=k') hil
        have hsize:xs.length*k'<=us.size:=by rw[h9];exact Wl k' h5
        simp only[XM]at hyl
        refine⟨_,Zr6 hk h8 (by omega) (by omega) hone,Post.mk hI1 (Bmap.le.refl β) (R1.write hs1 (b:=b) (by simp[ZL,hβ]) (by simp[ZL,hβ]) _ ?_ rfl) (ZmU I1 β)⟩
        refine⟨_,hβ,rfl,h3,h4,by simpa using h5,?_,?_,XE ⟨b,_,ty,rfl,setRow_heap w b us _ ty (0,0) h8,?_,?_⟩⟩
        ·rw[Zdd]
         intro q hq
         rcases Wt hq with hq |rfl
         ·exact Zdd.1 h6 q hq
         ·rw[p1,Zdy]
          intro r hr
          unfold setAt at hr
          simp only[Xv]at hr
          rcases hr with(hr |hr) |hr
          ·exact Zdy.1 (Zdd.1 h6 z (XC hz)) r (WM hr)
          ·exact Zdy.1 v2 r hr
          ·exact Zdy.1 (Zdd.1 h6 z (XC hz)) r (Ww hr)
        ·intro q hq
         rcases Wt hq with hq |rfl
         ·exact h7 q hq
         ·rw[p1,ZyU p2];exact hzk
        ·simp;omega
        ·rw[Zll h7 hz p1 (by omega)]
         have:=Zke h10 v1 (i*k'+o)
         refine cast ?_ this
         congr 1
         simp only[XaE]
         rw[XaM,Xam (by omega),Xaj]
         apply Wp
         intro j
         simp only[WL,XS,Wq,Xi,X0,XM]
         repeat' split
         all_goals first |rfl |omega |(congr 1;omega) |(exfalso;omega) |skip
         all_goals (first |(symm;rw[X3];simp;omega) |(rw[X3];simp;omega))
       ·cases h
     ·cases h
    ·cases h
   ·cases h
  ·rename_i g' kk xs hs
   split at h
   ·rename_i e;subst e
    split at h
    ·rename_i z hz
     split at h
     ·rename_i z' hp
      simp only[Xb,Xd]at h
      obtain⟨rfl,rfl,rfl⟩:=h
      simp only[VR]at ha
      obtain⟨b,k',c',hβ,rfl⟩:=ha
      obtain⟨bi,h1,h2,h3,h4,h5,h6,b',us,ty,e,h8,h9,h10⟩:=R.blk _ _ hs
      rw[hβ]at h1
      injection h1 with h1
      subst h1
      simp only at h2 e
      subst h2
      injection e with e
      subst e
      have v1:=ZeH htop hx
      obtain⟨p1,p2⟩:=ZAV hok hp
      have hyl:=Za1 v1
      have hzk:z.cells.length=k':=(h6 z (XC hz)).1
      have hil:i<xs.length:=(Xl.1 hz).1
      have hmul:=ZpD (k:=k') hil
      have hsize:xs.length*k'<=us.size:=by rw[h9];exact Wl k' h5
      simp only[XM]at hyl
      refine⟨_,Zr6 hk h8 (by omega) (by omega) hone,Post.here (R.write hs (b:=b) (by simp[ZL,hβ]) (by simp[ZL,hβ]) _ ?_ rfl) (ZmU I β)⟩
      refine⟨_,hβ,rfl,h3,h4,by simpa using h5,?_,b,_,ty,rfl,setRow_heap w b us _ ty (0,0) h8,?_,?_⟩
      ·intro q hq
       rcases Wt hq with hq |rfl
       ·exact h6 q hq
       ·rw[p1]
        refine⟨by rw[ZyU p2];exact hzk,fun r hr=>?_⟩
        unfold setAt at hr
        simp only[Xv]at hr
        rcases hr with(hr |hr) |hr
        ·exact(h6 z (XC hz)).2 r (WM hr)
        ·exact XH.1 hok r hr
        ·exact(h6 z (XC hz)).2 r (Ww hr)
      ·have h9b:us.size=c'*k':=h9
       simp only[Xad,Xi,X0,X9,XM]
       rw[h9b];rw[h9b]at hsize;omega
      ·rw[Zll (fun x hx=>(h6 x hx).1) hz p1 (by omega)]
       have:=Zke h10 v1 (i*k'+o)
       refine cast ?_ this
       congr 1
       simp only[XaE]
       rw[XaM,Xam (by omega),Xaj]
       apply Wp
       intro j
       simp only[WL,XS,Wq,Xi,X0,XM]
       repeat' split
       all_goals first |rfl |omega |(congr 1;omega) |(exfalso;omega) |skip
       all_goals (first |(symm;rw[X3];simp;omega) |(rw[X3];simp;omega))
     ·cases h
    ·cases h
   ·cases h
  ·cases h
 ·cases h
def TR(I:Imm)(β:Bmap)(tm:Tms)(tmps:Array Value):Prop:=∀ n,VR I β (tget tm n) (tmps.getD n undef)
theorem TR.mono{tm:Tms}{tmps:Array Value}(hI:I.le I')(hβ:β.le β')(h:TR I β tm tmps):TR I' β' tm tmps:=fun n=>(h n).mono hI hβ _ _
theorem Zk4{d n:Nat}{v:AVal}:∀ {tm:Tms},tget (tins d v tm) n=if d=n then v else tget tm n
 | []=>by simp[tins,tget]
 |(e,w)::r=>by
  simp only[tins]
  split
  ·simp only[tget]
  ·split
   ·rename_i h;subst h
    simp only[tget]
    split<;>rfl
   ·rename_i h
    simp only[tget,Zk4 (tm:=r)]
    by_cases h1:e=n
    ·subst h1;rw[if_pos rfl,if_neg (fun h'=>h h'.symm),if_pos rfl]
    ·simp[h1]
theorem TR.put{tm:Tms}{tmps:Array Value}(h:TR I β tm tmps){x:AVal}{v:Value}(hx:VR I β x v){d:Nat}(hd:d<tmps.size):TR I β (tins d x tm) (tmps.setIfInBounds d v):=by
 intro n
 rw[Zk4]
 by_cases e:d=n
 ·subst e
  rw[if_pos rfl]
  rw[show(tmps.setIfInBounds d v).getD d undef=v by simp[Array.getD,hd]];exact hx
 ·rw[if_neg e]
  rw[show(tmps.setIfInBounds d v).getD n undef=tmps.getD n undef by simp only[Array.getD_eq_getD_getElem?];rw[Wo e]]
  exact h n
theorem Zxd{tm:Tms}{n:Nat}:∀ {live:List Nat},tget (keepL live tm) n=if n∈live then tget tm n else .top
 | []=>by simp[keepL,tget]
 |l::live=>by
  have ih:=Zxd (tm:=tm) (n:=n) (live:=live)
  simp only[keepL,Xm,tget,XR]at ih ⊢
  by_cases h:l=n
  ·subst h;simp
  ·simp only[h,if_false,ih]
   simp[Ne.symm h]
theorem TR.keep{tm:Tms}{tmps:Array Value}(h:TR I β tm tmps)(live:List Nat):TR I β (keepL live tm) tmps:=by
 intro n
 rw[Zxd]
 split
 ·exact h n
 ·simp only[VR]
end
end
section
open Go.RowKit
section
variable {P:Program}{base:Nat->Prop}{w0 w w':World}{I0 I I':Imm}{β β':Bmap}{σ σ':Za}
theorem ZlE{k k':Nat}{ys:List AVal}(h:kOk k ys=true)(h':∀ y∈ys,y.cells.length=k')(hne:ys≠[]):k'=k:=by
 cases ys with
 |nil=>exact absurd rfl hne
 |cons y ys=>simp only[kOk,beq_iff_eq]at h;rw[<-h' y (by simp)];exact h
theorem ZwE(l:List UInt8):VRs I β (l.map Zb) (l.map fun b=>Value.int .u8 b.toNat) :=
 Zd5 (by simp) (fun i x v hx hv=>by
  simp only[WZ,Xq]at hx hv
  obtain⟨b,h1,rfl⟩:=hx
  obtain⟨b',h2,rfl⟩:=hv
  rw[h1]at h2;injection h2 with h2;subst h2
  simp only[Zb,VR])
theorem Zve(l:List UInt8):(l.map Zb).flatMap AVal.cells=l.map Zb:=by
 induction l with
 |nil=>rfl
 |cons b l ih=>simp only[Xm,XK,ih];rfl
theorem Zvw(l:List UInt8):Zao (l.map Zb)=true:=by
 rw[Zdd];intro x hx
 simp only[X2]at hx
 obtain⟨b,_,rfl⟩:=hx
 rfl
theorem Zpo(l:List UInt8):∀ x∈l.map Zb,x.cells.length=1:=by
 intro x hx
 simp only[X2]at hx
 obtain⟨b,_,rfl⟩:=hx
 rfl
structure Src(P:Program)(I:Imm)(β:Bmap)(w:World)(k:Nat)(v:Value)(ys:List AVal)(us:List Value):Prop where
 vr:VRs I β (ys.flatMap AVal.cells) us
 len:us.length=ys.length*k
 lens:∀ y∈ys,y.cells.length=k
 tree:Zao ys=true
 lenOf:(Builtin.lenOf v)=pure ys.length
 run:∀ w':World,w'.heap=w.heap->(Builtin.firstCells k ys.length v).run P w'=.ok us.toArray w'
 le:ys.length<=9223372036854775807
structure Zmv(P:Program)(I:Imm)(β:Bmap)(w:World)(k:Nat)(v:Value)(ys:List AVal)(us:List Value):Prop where
 vr:VRs I β (ys.flatMap AVal.cells) us
 len:us.length=ys.length*k
 lens:∀ y∈ys,y.cells.length=k
 lenOf:(Builtin.lenOf v)=pure ys.length
 run:∀ w':World,w'.heap=w.heap->(Builtin.firstCells k ys.length v).run P w'=.ok us.toArray w'
theorem Src.to0{k:Nat}{v:Value}{ys:List AVal}{us:List Value}(S:Src P I β w k v ys us):Zmv P I β w k v ys us:=⟨S.vr,S.len,S.lens,S.lenOf,S.run⟩
theorem Zlg{w w':World}(h:w'.heap=w.heap)(a:Addr):w'.cell? a=w.cell? a:=by simp[World.cell?,h]
theorem ZAd{k:Nat}{v:Value}{ys:List AVal}(h:Zil I β w v ys)(hk:kOk k ys=true):∃ us,Src P I β w k v ys us:=by
 obtain⟨A,cap,rfl,h1,h2,h3,h4⟩:=h
 by_cases hne:ys=[]
 ·subst hne
  refine⟨[],by simp[VRs],by simp,by simp,h3,rfl,fun w' _=>?_,by simp⟩
  cases A<;>simp[Builtin.firstCells,loadCells,loadCellsFrom]
 ·rcases h4 with h4 |⟨b,off,k',us,rfl,hk',hl,hv,hc⟩
  ·exact absurd h4 hne
  ·have e:=ZlE hk hl hne
   subst e
   have hlen:us.length=ys.length*k':=by rw[<-Za1 hv,Ze0 hl]
   refine⟨us,hv,hlen,hl,h3,rfl,fun w' hw=>?_,by omega⟩
   simp only[Builtin.firstCells]
   rw[<-hlen]
   exact run_loadCells_list w' _ us (fun j u hu=>by rw[Addr.add_mid,Zlg hw];exact hc j u hu)
theorem ZEy{k:Nat}{l:List UInt8}(hl:l.length<=9223372036854775807)(hk:kOk k (l.map Zb)=true):∃ us,Src P I β w k (.string ⟨l.toArray⟩) (l.map Zb) us:=by
 by_cases hne:l=[]
 ·subst hne
  exact⟨[],by simp[VRs],by simp,by simp,rfl,rfl,fun w' _=>by simp[Builtin.firstCells],by simp⟩
 ·have e:=ZlE hk (Zpo l) (by simpa using hne)
  subst e
  refine⟨l.map fun b=>Value.int .u8 b.toNat,by rw[Zve];exact ZwE l,by simp,Zpo l,Zvw l,by simp[Builtin.lenOf,Wu],fun w' _=>?_,by simpa using hl⟩
  simp only[Builtin.firstCells,List.length_map,Sem.run_pure]
  congr 1
  apply Xbf
  simp[ByteArray.data_extract]
theorem ZWL{k:Nat}{y:AVal}{v:Value}{ys:List AVal}{ts:List Nat}(R:Rel base w0 I0 I β σ w)(h:ZY σ y=some (ys,ts))(hv:VR I β y v)(hk:kOk k ys=true):∃ us,Src P I β w k v ys us:=by
 by_cases hs:∃ l,y=.str l
 ·obtain⟨l,rfl⟩:=hs
  simp only[ZY,Xb,Xd]at h
  obtain⟨rfl,rfl⟩:=h
  simp only[VR]at hv
  obtain⟨rfl,hl⟩:=hv
  exact ZEy hl hk
 ·exact ZAd (Zsi R (fun l e=>hs ⟨l,e⟩) h hv) hk
structure ZjN(P:Program)(t u e:TypeId)(i:TypeInfo)(z:Value):Prop where
 ht:P.underlying t=some (.slice e)
 hu:(∃ e',P.underlying u=some (.slice e'))\/P.underlying u=some .string
 hi:P.info? e=some i
 hz:i.zero=some z
 hzs:z.cells.size=i.size
 hs:0<i.size
 hb:0<i.bytes
theorem ZiF{t u e ty:TypeId}{i:TypeInfo}{z:Value}(T:ZjN P t u e i z){A:Option Addr}{n cap:Nat}{v:Value}{ys:List AVal}{us:List Value}(S:Zmv P I β w i.size v ys us)(hfit:n+ys.length<=cap) :
  (Builtin.append_ #[t,u] ty #[.slice A n cap,v]).run P w=match A with
   |some a=>((storeCells (a.add (n*i.size)) us).run P w).andThen fun _ w'=>.ok (.slice A (n+ys.length) cap) w'
   |none=>.ok (.slice A (n+ys.length) cap) w:=by
 have hr:=S.run w rfl
 have hl:=S.lenOf
 rcases T.hu with⟨e',hd⟩ |hd<;>cases A<;>simp[Builtin.append_,run_underlying T.ht,run_underlying hd,sizeOf,typeInfo,T.hi,hl,hfit,hr]
theorem ZwI {t u e ty : TypeId} {i : TypeInfo} {z : Value} (T : ZjN P t u e i z) {A : Option Addr} {n cap : Nat} {v : Value} {ys : List AVal} {us olds : List Value} (S : Zmv P I β w i.size v ys us)
    (hold : ∀ w' : World, w'.heap = w.heap -> (Builtin.firstCells i.size n (.slice A n cap)).run P w' = .ok olds.toArray w') (hg : cap < n + ys.length) (hb : (n + ys.length) * i.bytes <= 140737488355328) :
    ∃ newCap, n + ys.length <= newCap /\ newCap <= 9223372036854775807 /\ (Builtin.append_ #[t, u] ty #[.slice A n cap, v]).run P w =
      .ok (.slice (some ⟨w.heap.size, 0, none⟩) (n + ys.length) newCap) (w.drew.alloc (.cells (olds ++ us ++ (Builtin.zeroCells z.cells (newCap - (n + ys.length))).toList).toArray e)) := by
  have hl := S.lenOf
  have hn : ¬ (n + ys.length <= cap) := by omega
  have hneed : n + ys.length <= 140737488355328 := by
    have : (n + ys.length) * 1 <= (n + ys.length) * i.bytes := XaX _ T.hb
    omega
  have h63' : ¬ (9223372036854775807 < ((n : Int) + (ys.length : Int))) := by omega
  have h48' : ¬ (281474976710656 < Builtin.nextslicecap (n + ys.length) cap * i.bytes) := by
    have := growslice_fits hg hb; omega
  refine ⟨grownCap w (n + ys.length) cap e, grownCap_ge w _ _ _, ?_, ?_⟩
  . have := grownCap_le_maxLen w (n + ys.length) cap e (by simp only [maxLen]; omega)
    simpa only [maxLen] using this
  . have hf := S.run w.drew rfl
    have hfo := hold w.drew rfl
    rcases T.hu with ⟨e', hd⟩ | hd <;>
      (simp [Builtin.append_, run_underlying T.ht, run_underlying hd, sizeOf, typeInfo, zeroValue, T.hi, T.hz, hl, hn, h63', h48', Question.forced, hf, hfo, newRow, grownCap]
       congr 2
       apply Xbf
       simp [])
theorem Rel.growX(R:Rel base w0 I0 I β σ w){t g:Nat}{x x':ZO}(hs:σ[t]?=some x)(hg:Zl x=g)(hg':Zl x'=g+1)(bi':BI)(hB:KB base w w')
  (himm:∀ b o u,I b o=some u->w'.cell? ⟨b,o,none⟩=some u)
  (keep:∀ b,ZL β t x≠some b->b<w.heap.size->w'.heap[b]?=w.heap[b]?)
  (hbi:bi'.b=none\/∃ b,bi'.b=some b/\(ZL β t x=some b\/b=w.heap.size))
  (hbw:KLt base w) (hown:ZL (β.put t (g+1) bi') t x'=bi'.b) (hnf:x'≠.free)
  (hblk:BR I (β.put t (g+1) bi') w' t x') :
  Rel base w0 I0 I (β.put t (g+1) bi') (σ.set t x') w'/\β.le (β.put t (g+1) bi'):=by
 have hsl:t<σ.length:=(Xl.1 hs).1
 have hnone:β t (g+1)=none:=R.gen t _ (g+1) hs (by omega)
 have hle:β.le (β.put t (g+1) bi'):=Bmap.put_le hnone
 have hI0:∀ o,I w.heap.size o=none:=by
  intro o
  cases h:I w.heap.size o with
  |none=>rfl
  |some u=>have:=Zez (R.imm _ _ _ h);omega
 refine⟨R.upd (Imm.le.refl I) hle hB (fun _ _ _=>rfl) himm t _ rfl hsl (fun _ _ h=>Bmap.put_ne h) ?_ hblk ?_ ?_ hnf,hle⟩
 ·intro t' y b hne hy hb
  have hlt:=(R.blk t' y hy).owns_lt hb
  have hno:ZL β t x≠some b:=fun e=>hne (R.apart t' y t _ b hy hs hb e)
  refine⟨keep b hno hlt,(R.own t' y b hy hb).2,?_⟩
  rw[hown]
  rcases hbi with e |⟨b',e,e' |e'⟩
  ·rw[e];simp
  ·rw[e];intro h;injection h with h;subst h;exact hno e'
  ·rw[e];intro h;injection h with h;omega
 ·intro b e
  rw[hown]at e
  rcases hbi with e1 |⟨b',e1,e' |e'⟩
  ·rw[e1]at e;cases e
  ·rw[e1]at e;injection e with e;subst e;exact R.own t _ _ hs e'
  ·rw[e1]at e;injection e with e;subst e;subst e';exact⟨fun h=>XaF _ (hbw _ h),hI0⟩
 ·intro g' hlt
  rw[Bmap.put_gen (by omega)]
  exact R.gen t _ g' hs (by omega)
theorem Rel.grow(R:Rel base w0 I0 I β σ w){t g k:Nat}{xs xs':List AVal}(hs:σ[t]?=some (.row g k xs))(bi':BI)(hB:KB base w w')
  (himm:∀ b o u,I b o=some u->w'.cell? ⟨b,o,none⟩=some u)
  (keep:∀ b,ZL β t (.row g k xs)≠some b->b<w.heap.size->w'.heap[b]?=w.heap[b]?)
  (hbi:bi'.b=none\/∃ b,bi'.b=some b/\(ZL β t (.row g k xs)=some b\/b=w.heap.size))
  (hbw:KLt base w)
  (hblk:BR I (β.put t (g+1) bi') w' t (.row (g+1) k xs')) :
  Rel base w0 I0 I (β.put t (g+1) bi') (σ.set t (.row (g+1) k xs')) w'/\β.le (β.put t (g+1) bi'):=by
 have hsl:t<σ.length:=(Xl.1 hs).1
 have hnone:β t (g+1)=none:=R.gen t _ (g+1) hs (by simp[Zl])
 have hle:β.le (β.put t (g+1) bi'):=Bmap.put_le hnone
 have hown:ZL (β.put t (g+1) bi') t (.row (g+1) k xs')=bi'.b:=by simp[ZL,Bmap.put_same]
 have hI0:∀ o,I w.heap.size o=none:=by
  intro o
  cases h:I w.heap.size o with
  |none=>rfl
  |some u=>have:=Zez (R.imm _ _ _ h);omega
 refine⟨R.upd (Imm.le.refl I) hle hB (fun _ _ _=>rfl) himm t _ rfl hsl (fun _ _ h=>Bmap.put_ne h) ?_ hblk ?_ ?_ (by simp),hle⟩
 ·intro t' x b hne hx hb
  have hlt:=(R.blk t' x hx).owns_lt hb
  have hno:ZL β t (.row g k xs)≠some b:=fun e=>hne (R.apart t' x t _ b hx hs hb e)
  refine⟨keep b hno hlt,(R.own t' x b hx hb).2,?_⟩
  rw[hown]
  rcases hbi with e |⟨b',e,e' |e'⟩
  ·rw[e];simp
  ·rw[e];intro h;injection h with h;subst h;exact hno e'
  ·rw[e];intro h;injection h with h;omega
 ·intro b e
  rw[hown]at e
  rcases hbi with e1 |⟨b',e1,e' |e'⟩
  ·rw[e1]at e;cases e
  ·rw[e1]at e;injection e with e;subst e;exact R.own t _ _ hs e'
  ·rw[e1]at e;injection e with e;subst e;subst e';exact⟨fun h=>XaF _ (hbw _ h),hI0⟩
 ·intro g' hlt
  simp only[Zl]at hlt
  rw[Bmap.put_gen (by omega)]
  exact R.gen t _ g' hs (by simp only[Zl];omega)
theorem ZfW(xs ys:List AVal):(xs++ys).flatMap AVal.cells=xs.flatMap AVal.cells++ys.flatMap AVal.cells:=by simp
theorem Zyh(z:Array Value)(n:Nat):(Builtin.zeroCells z n).size=n*z.size:=by simp[Builtin.zeroCells]
theorem ZR5(R:Rel base w0 I0 I β σ w){u h k q m:Nat}{zs:List AVal}{v:Value}(hs:σ[u]?=some (.rrow h k zs))(hn:q+m<=zs.length)(hm:0<m)(hv:VR I β (.sl u h q m) v) :
  ∃ us,Zmv P I β w k v ((zs.drop q).take m) us/\(∀ y∈(zs.drop q).take m,∀ c∈y.cells,ZX c=true):=by
 obtain⟨bi,e1,e2,e3,e4,e5,e6,b,us,ty,eb,e8,e9,e10⟩:=R.blk _ _ hs
 subst e2
 simp only[VR]at hv
 obtain⟨bi',f1,f2,f3,f4⟩:=hv
 rw[e1]at f1
 injection f1 with f1
 subst f1
 have hlens:∀ x∈zs,x.cells.length=bi.k:=fun x hx=>(e6 x hx).1
 have hmem:∀ y∈(zs.drop q).take m,y∈zs:=fun y hy=>Ww (WM hy)
 have hl:((zs.drop q).take m).length=m:=by simp;omega
 have hvr:VRs I β (((zs.drop q).take m).flatMap AVal.cells) (((us.toList.take (zs.length*bi.k)).drop (q*bi.k)).take (m*bi.k)):=by
  rw[<-ZkV (fun x hx=>hlens x (Ww hx)),<-Zip hlens]
  exact ZfK (ZfP e10 _) _
 have hlen2:(((us.toList.take (zs.length*bi.k)).drop (q*bi.k)).take (m*bi.k)).length=m*bi.k:=by
  rw[<-Za1 hvr,Ze0 (fun y hy=>hlens y (hmem y hy)),hl]
 have hval:v=.slice (some ⟨b,q*bi.k,none⟩) m (bi.cap-q):=by
  rcases f4 with⟨b',hb',rfl⟩ |⟨hbn,_⟩ |⟨_,hbn,_⟩
  ·rw[eb]at hb';injection hb' with hb';subst hb';rfl
  ·rw[eb]at hbn;cases hbn
  ·omega
 subst hval
 refine⟨_,⟨hvr,by rw[hlen2,hl],fun y hy=>hlens y (hmem y hy),by rw[hl];rfl,fun w' hw=>?_⟩,fun y hy=>(e6 y (hmem y hy)).2⟩
 simp only[Builtin.firstCells]
 have key:=run_loadCells_list (P:=P) w' ⟨b,q*bi.k,none⟩ (((us.toList.take (zs.length*bi.k)).drop (q*bi.k)).take (m*bi.k)) ?_
 ·rw[hlen2]at key;rw[hl];exact key
 intro j u hu
 rw[Addr.add_mid,Zlg hw,Zgy e8]
 rw[XS]at hu
 split at hu
 ·rw[Wq,XS]at hu
  split at hu
  ·simpa using hu
  ·cases hu
 ·cases hu
theorem ZVa {t u e ty : TypeId} {i : TypeInfo} {z : Value} (T : ZjN P t u e i z) (R : Rel base w0 I0 I β σ w) (hb : KLt base w0) {x y r : AVal} {vx vy : Value} (hx : VR I β x vx) (hy : VR I β y vy) {sq : Nat} (hsite : σ[sq]? = some .free) {c : Cls}
    (h : ZgP σ sq i.size i.bytes x y = some (r, σ', c)) : ∃ v w', (Builtin.append_ #[t, u] ty #[vx, vy]).run P w = .ok v w' /\ Post base w0 I0 I β r σ' v w' := by
  have hbw := R.base_le hb
  have hz := T.hzs
  unfold ZgP at h
  split at h
  case h_2 => cases h
  rename_i u' h' q m
  split at h
  case h_2 => cases h
  rename_i hh k1 zs hu
  split at h
  case isFalse => cases h
  rename_i hc
  obtain ⟨rfl, rfl, hqm, hm0⟩ := hc
  obtain ⟨us, S, hok⟩ := ZR5 (P := P) R hu hqm hm0 hy
  have hyl : ((zs.drop q).take m).length = m := by simp; omega
  have hone : ∀ v ∈ us, v.oneCell' = true := Zhi (fun z hz => by
    obtain ⟨y, hy, hz⟩ := Wk.1 hz
    exact hok y hy z hz) S.vr
  have hlu := S.len
  rw [hyl] at hlu
  generalize hys : (zs.drop q).take m = ys at *
  have fresh : ∀ {A : Option Addr} {n cap : Nat} {olds : List Value} {xs : List AVal}, (∀ w' : World, w'.heap = w.heap -> (Builtin.firstCells i.size n (.slice A n cap)).run P w' = .ok olds.toArray w') -> cap < n + m -> (n + m) * i.bytes <= 140737488355328 ->
      VRs I β (xs.flatMap AVal.cells) olds -> xs.length = n -> (∀ x ∈ xs, x.cells.length = i.size /\ ∀ c ∈ x.cells, ZX c = true) ->
      ∃ newCap us', n + m <= newCap /\ newCap <= 9223372036854775807 /\ us'.size = newCap * i.size /\ VRs I β ((xs ++ ys).flatMap AVal.cells) (us'.toList.take ((xs ++ ys).length * i.size)) /\ (∀ x ∈ xs ++ ys, x.cells.length = i.size /\ ∀ c ∈ x.cells, ZX c = true) /\
        (Builtin.append_ #[t, u] ty #[.slice A n cap, vy]).run P w = .ok (.slice (some ⟨w.heap.size, 0, none⟩) (n + m) newCap) { w with heap := w.heap.push (.cells us' e), drawn := w.drawn + 1 } := by
    intro A n cap olds xs hold hg hbytes hvo hn hlx
    obtain ⟨newCap, h1, h2, h3⟩ := ZwI (ty := ty) T S hold (by rw [hyl]; exact hg) (by rw [hyl]; exact hbytes)
    rw [hyl] at h1 h3
    have hol : olds.length = n * i.size := by rw [<- Za1 hvo, Ze0 (fun x hx => (hlx x hx).1), hn]
    refine ⟨newCap, _, h1, h2, ?_, ?_, ?_, h3⟩
    . simp only [Xad, Xi, XM, Zyh, hz, hol, hlu, <- Wh]
      congr 1; omega
    . rw [ZfW, Xi, hn, hyl]
      have hlen : (olds ++ us).length = (n + m) * i.size := by rw [Xi, hol, hlu, Wh]
      simp only [<- hlen, XaN]
      exact ZcE hvo S.vr
    . intro q hq
      rcases Xv.1 hq with hq | hq
      . exact hlx q hq
      . exact ⟨S.lens q hq, hok q hq⟩
  split at h
  ·
    split at h
    case isFalse => cases h
    rename_i hbytes
    simp only [Xb, Xd] at h
    obtain ⟨rfl, rfl, rfl⟩ := h
    simp only [VR] at hx
    obtain ⟨A, cap, rfl, h2, h3, h4, _, _⟩ := hx
    have hc : cap = 0 := by simpa using h4
    subst hc
    obtain ⟨newCap, us', h5, h6, h7, h8, h10, h11⟩ := fresh (A := A) (n := 0) (cap := 0) (olds := []) (xs := []) (fun w' _ => by cases A <;> simp [Builtin.firstCells, loadCells, loadCellsFrom]) (by omega) (by simpa using hbytes) (by simp [VRs]) rfl (by simp)
    simp only [XA] at h8 h10
    rw [hyl] at h8
    obtain ⟨R', hle⟩ := (R.same (w' := { w with drawn := w.drawn + 1 }) rfl rfl rfl rfl).newObj hb hsite (.cells us' e) (.rrow 0 i.size ys) i.size newCap (by simp [ZL, Bmap.put_same]) rfl (by simp)
      ⟨_, Bmap.put_same β sq 0 _, rfl, T.hs, h6, by simp only [hyl]; omega, h10, w.heap.size, us', e, rfl, by simp, h7, by rw [hyl]; exact VRs.mono (Imm.le.refl I) (Bmap.put_le (R.free sq 0 hsite)) _ _ h8⟩
    refine ⟨_, _, h11, Post.mk (Imm.le.refl I) hle R' ?_⟩
    rw [Zcl]
    exact ⟨_, Bmap.put_same β sq 0 _, by simpa using h5, h6, Xr ⟨_, rfl, by simp⟩⟩
  . rename_i t' g p n
    split at h
    case h_2 => cases h
    rename_i g' k' xs hs
    split at h
    case isFalse => cases h
    rename_i hc
    obtain ⟨rfl, rfl, rfl, hbytes, rfl⟩ := hc
    simp only [Xb, Xd] at h
    obtain ⟨rfl, rfl, rfl⟩ := h
    obtain ⟨bi, e1, e2, e3, e4, e5, e7, b, us0, ty0, hbb, e8, e9, e10⟩ := R.blk _ _ hs
    rw [Zcl] at hx
    obtain ⟨bi', f1, f2, f3, f4⟩ := hx
    rw [e1] at f1
    injection f1 with f1
    subst f1
    have hown : ZL β t' (.rrow g' i.size xs) = bi.b := by simp [ZL, e1]
    have hxl : ∀ x ∈ xs, x.cells.length = i.size := fun x hx => (e7 x hx).1
    rcases f4 with ⟨b', eb, rfl⟩ | ⟨hbn, _⟩
    case inr => rw [hbb] at hbn; cases hbn
    rw [hbb] at eb
    injection eb with eb
    subst eb
    have hlx : (us0.toList.take (xs.length * i.size)).length = xs.length * i.size := by rw [<- Za1 e10, Ze0 hxl]
    by_cases hfit : xs.length + m <= bi.cap
    . have hcells : xs.length * i.size + us.length <= us0.size := by rw [hlu, e9, <- Wh]; exact Wl _ hfit
      have hst := run_storeCells_at (P := P) b (xs.length * i.size) ty0 us 0 us0 w e8 (by omega) hone
      simp only [Wc] at hst
      have hle0 := Bmap.put_le (bi := bi) (R.gen t' _ (g' + 1) hs (by simp [Zl]))
      obtain ⟨R', hle⟩ := R.growX (w' := w.setRow b (us0.toList.take (xs.length * i.size) ++ us ++ us0.toList.drop (xs.length * i.size + us.length)).toArray) (x' := .rrow (g' + 1) i.size (xs ++ ys)) hs rfl rfl bi
        ⟨rfl, rfl, rfl, by simp [World.setRow], fun k hk => setRow_other w b k _ (by rintro rfl; exact (R.own t' _ k hs (by rw [hown, hbb])).1 hk)⟩
        (fun b' o u hu => by
          have : b' ≠ b := by rintro rfl; rw [(R.own t' _ b' hs (by rw [hown, hbb])).2 o] at hu; cases hu
          rw [<- R.imm b' o u hu]
          simp only [World.cell?, setRow_other w b b' _ this])
        (fun b' hne _ => setRow_other w b b' _ (by rintro rfl; exact hne (by rw [hown, hbb])))
        (XE ⟨b, hbb, Xr (by rw [hown, hbb])⟩) hbw (by simp [ZL, Zl, Bmap.put_same]) (by simp)
        ⟨bi, Bmap.put_same β t' _ bi, e2, e3, e4, by simp only [Xi, hyl]; exact hfit, fun q hq => by
          rcases Xv.1 hq with hq | hq
          . exact e7 q hq
          . exact ⟨S.lens q hq, hok q hq⟩, b, _, ty0, hbb, setRow_heap w b us0 _ ty0 (0, 0) e8, by simp only [Xad, Xi, X0, X9, XM]; omega, by
            have hl2 : (us0.toList.take (xs.length * i.size) ++ us).length = (xs ++ ys).length * i.size := by rw [Xi, hlx, hlu, Xi, Wh, hyl]
            have := ZcE (VRs.mono (Imm.le.refl I) hle0 _ _ e10) (VRs.mono (Imm.le.refl I) hle0 _ _ S.vr)
            rw [ZfW, <- hl2]
            simp only [XaN]
            exact this⟩
      refine ⟨.slice (some ⟨b, 0, none⟩) (xs.length + m) bi.cap, _, ?_, Post.mk (Imm.le.refl I) hle R' ?_⟩
      . rw [ZiF T S (by rw [hyl]; exact hfit), hyl]
        simp only [Addr.add_mid, XB, hst, Result.andThen_ok]
      . rw [Zcl]
        exact ⟨bi, Bmap.put_same β t' _ bi, hfit, e4, Xr ⟨b, hbb, rfl⟩⟩
    . obtain ⟨newCap, us', g5, g6, g7, g8, g10, g11⟩ := fresh (A := some ⟨b, 0, none⟩) (n := xs.length) (cap := bi.cap) (olds := us0.toList.take (xs.length * i.size)) (xs := xs)
        (fun w' hw => by
          simp only [Builtin.firstCells]
          have key := run_loadCells_list (P := P) w' ⟨b, 0, none⟩ (us0.toList.take (xs.length * i.size)) ?_
          . rw [hlx] at key; exact key
          intro j u hu
          rw [Addr.add_mid, Zlg hw, Zgy e8]
          rw [XS] at hu
          split at hu
          . simpa using hu
          . cases hu) (by omega) hbytes e10 rfl e7
      have hle0 := Bmap.put_le (bi := (⟨some w.heap.size, i.size, newCap⟩ : BI)) (R.gen t' _ (g' + 1) hs (by simp [Zl]))
      obtain ⟨R', hle⟩ := (R.same (w' := { w with drawn := w.drawn + 1 }) rfl rfl rfl rfl).growX (w' := { w with heap := w.heap.push (.cells us' e), drawn := w.drawn + 1 }) (x' := .rrow (g' + 1) i.size (xs ++ ys)) hs rfl rfl ⟨some w.heap.size, i.size, newCap⟩
        (ZiG base { w with drawn := w.drawn + 1 } _ hbw) (fun b' o u hu => ZiY { w with drawn := w.drawn + 1 } _ (R.imm b' o u hu)) (fun b' _ hlt => Zgj w _ hlt) (XE ⟨_, rfl, XE rfl⟩) hbw (by simp [ZL, Zl, Bmap.put_same]) (by simp)
        ⟨_, Bmap.put_same β t' _ _, rfl, e3, g6, by simp only [Xi, hyl]; exact g5, g10, _, us', e, rfl, Zij w _, g7, VRs.mono (Imm.le.refl I) hle0 _ _ g8⟩
      refine ⟨_, _, g11, Post.mk (Imm.le.refl I) hle R' ?_⟩
      rw [Zcl]
      exact ⟨_, Bmap.put_same β t' _ _, g5, g6, Xr ⟨_, rfl, rfl⟩⟩
  . cases h
theorem ZLB {t u e ty : TypeId} {i : TypeInfo} {z : Value} (T : ZjN P t u e i z) (R : Rel base w0 I0 I β σ w) (hb : KLt base w0) {x y r : AVal} {vx vy : Value} (hx : VR I β x vx) (hy : VR I β y vy) {sq : Nat} (hsite : σ[sq]? = some .free) {c : Cls}
    (h : ZaE σ sq i.size i.bytes x y = some (r, σ', c)) : ∃ v w', (Builtin.append_ #[t, u] ty #[vx, vy]).run P w = .ok v w' /\ Post base w0 I0 I β r σ' v w' := by
  unfold ZaE at h
  split at h
  case h_1 => exact ZVa T R hb hx hy hsite h
  rename_i ys ts he
  split at h
  case isFalse => cases h
  rename_i hk
  obtain ⟨us, S⟩ := ZWL (P := P) R he hy hk
  have hbw := R.base_le hb
  have hz := T.hzs
  have hone : ∀ v ∈ us, v.oneCell' = true := Zhi (fun z hz => Zjt (Zdy.1 (Zm9 S.tree) z hz)) S.vr
  have fresh : ∀ {A : Option Addr} {n cap : Nat} {olds : List Value} {xs : List AVal}, (∀ w' : World, w'.heap = w.heap -> (Builtin.firstCells i.size n (.slice A n cap)).run P w' = .ok olds.toArray w') -> cap < n + ys.length -> (n + ys.length) * i.bytes <= 140737488355328 ->
      VRs I β (xs.flatMap AVal.cells) olds -> xs.length = n -> Zao xs = true -> (∀ x ∈ xs, x.cells.length = i.size) ->
      ∃ newCap us', n + ys.length <= newCap /\ newCap <= 9223372036854775807 /\ us'.size = newCap * i.size /\ VRs I β ((xs ++ ys).flatMap AVal.cells) (us'.toList.take ((xs ++ ys).length * i.size)) /\ Zao (xs ++ ys) = true /\ (∀ x ∈ xs ++ ys, x.cells.length = i.size) /\
        (Builtin.append_ #[t, u] ty #[.slice A n cap, vy]).run P w = .ok (.slice (some ⟨w.heap.size, 0, none⟩) (n + ys.length) newCap) { w with heap := w.heap.push (.cells us' e), drawn := w.drawn + 1 } := by
    intro A n cap olds xs hold hg hbytes hvo hn htx hlx
    obtain ⟨newCap, h1, h2, h3⟩ := ZwI (ty := ty) T S.to0 hold hg hbytes
    have hol : olds.length = n * i.size := by rw [<- Za1 hvo, Ze0 hlx, hn]
    refine ⟨newCap, _, h1, h2, ?_, ?_, ZhH htx S.tree, ?_, h3⟩
    . simp only [Xad, Xi, XM, Zyh, hz, hol, S.len, <- Wh]
      congr 1; omega
    . rw [ZfW, Xi, hn]
      have hlen : (olds ++ us).length = (n + ys.length) * i.size := by rw [Xi, hol, S.len, Wh]
      simp only [<- hlen, XaN]
      exact ZcE hvo S.vr
    . intro q hq
      rcases Xv.1 hq with hq | hq
      . exact hlx q hq
      . exact S.lens q hq
  split at h
  ·
    split at h
    case isFalse => cases h
    rename_i hbytes
    simp only [Xb, Xd] at h
    obtain ⟨rfl, rfl, rfl⟩ := h
    simp only [VR] at hx
    obtain ⟨A, cap, rfl, h2, h3, h4, _, _⟩ := hx
    have hc : cap = 0 := by simpa using h4
    subst hc
    by_cases hne : ys = []
    . subst hne
      have hus : us = [] := XG (by simpa using S.len)
      subst hus
      obtain ⟨R', hle⟩ := R.newNone hsite i.size T.hs
      refine ⟨.slice A 0 0, w, ?_, Post.mk (Imm.le.refl I) hle R' ?_⟩
      . rw [ZiF T S.to0 (by simp)]
        cases A <;> simp [storeCells]
      . rw [Zcl]
        exact ⟨_, Bmap.put_same β sq 0 _, by simp, by simp, XE ⟨rfl, rfl, A, rfl⟩⟩
    . have hpos : 0 < ys.length := List.length_pos_iff.2 hne
      obtain ⟨newCap, us', h5, h6, h7, h8, h9, h10, h11⟩ := fresh (A := A) (n := 0) (cap := 0) (olds := []) (xs := []) (fun w' _ => by cases A <;> simp [Builtin.firstCells, loadCells, loadCellsFrom]) (by omega) (by simpa using hbytes) (by simp [VRs]) rfl (by simp [Zao]) (by simp)
      obtain ⟨R', hle⟩ := (R.same (w' := { w with drawn := w.drawn + 1 }) rfl rfl rfl rfl).newOwn hb hsite us' e (.row 0 i.size ys) i.size newCap (XE ⟨ys, rfl, T.hs, h6, by omega, S.tree, S.lens, h7, by simpa using h8⟩)
      refine ⟨_, _, h11, Post.mk (Imm.le.refl I) hle R' ?_⟩
      rw [Zcl]
      exact ⟨_, Bmap.put_same β sq 0 _, by simpa using h5, h6, Xr ⟨_, rfl, by simp⟩⟩
  ·
    rename_i x0 xs0
    split at h
    case isFalse => cases h
    rename_i hc
    obtain ⟨hk0, hbytes⟩ := hc
    have hrd := Zoy R hx
    have hx' := hx
    simp only [VR] at hx
    obtain ⟨A, cap, rfl, h2, h3, h4, h5, h6⟩ := hx
    have hc : cap = (x0 :: xs0).length := by simpa using h4
    subst hc
    split at h
    . simp only [Xb, Xd] at h
      obtain ⟨rfl, rfl, rfl⟩ := h
      have hus : us = [] := XG (by simpa using S.len)
      subst hus
      refine ⟨_, w, ?_, Post.here R hx'⟩
      rw [ZiF T S.to0 (by simp)]
      cases A <;> simp [storeCells]
    . rename_i y0 ys0
      simp only [Xb, Xd] at h
      obtain ⟨rfl, rfl, rfl⟩ := h
      obtain ⟨olds, So⟩ := ZAd (P := P) hrd hk0
      obtain ⟨newCap, us', g5, g6, g7, g8, g9, g10, g11⟩ := fresh (A := A) (n := (x0 :: xs0).length) (cap := (x0 :: xs0).length) (olds := olds) (xs := x0 :: xs0) So.run (by simp) hbytes So.vr rfl So.tree So.lens
      obtain ⟨R', hle⟩ := (R.same (w' := { w with drawn := w.drawn + 1 }) rfl rfl rfl rfl).newOwn hb hsite us' e (.row 0 i.size ((x0 :: xs0) ++ (y0 :: ys0))) i.size newCap (XE ⟨_, rfl, T.hs, g6, by rw [Xi]; exact g5, g9, g10, g7, g8⟩)
      refine ⟨_, _, g11, Post.mk (Imm.le.refl I) hle R' ?_⟩
      rw [Zcl]
      exact ⟨_, Bmap.put_same β sq 0 _, by simpa using g5, g6, Xr ⟨_, rfl, rfl⟩⟩
  ·
    rename_i t' g p n
    split at h
    case h_2 => cases h
    rename_i g' k' xs hs
    split at h
    case isFalse => cases h
    rename_i hc
    obtain ⟨rfl, rfl, rfl, hbytes⟩ := hc
    obtain ⟨bi, e1, e2, e3, e4, e5, e6, e7, e8⟩ := R.blk _ _ hs
    rw [Zcl] at hx
    obtain ⟨bi', f1, f2, f3, f4⟩ := hx
    rw [e1] at f1
    injection f1 with f1
    subst f1
    have hown : ZL β t' (.row g' i.size xs) = bi.b := by simp [ZL, e1]
    split at h
    . rename_i hn
      subst hn
      simp only [Xb, Xd] at h
      obtain ⟨rfl, rfl, rfl⟩ := h
      rcases f4 with ⟨b, hbb, rfl⟩ | ⟨hbn, hcz, A, rfl⟩
      . rcases e8 with ⟨e8, _⟩ | ⟨b', us0, ty0, eb, e8, e9, e10⟩
        . rw [hbb] at e8; cases e8
        rw [hbb] at eb
        injection eb with eb
        subst eb
        have hlx : (us0.toList.take (xs.length * i.size)).length = xs.length * i.size := by rw [<- Za1 e10, Ze0 e7]
        by_cases hfit : xs.length + ys.length <= bi.cap
        . have hcells : xs.length * i.size + us.length <= us0.size := by rw [S.len, e9, <- Wh]; exact Wl _ hfit
          have hst := run_storeCells_at (P := P) b (xs.length * i.size) ty0 us 0 us0 w e8 (by omega) hone
          simp only [Wc] at hst
          obtain ⟨R', hle⟩ := R.grow (w' := w.setRow b (us0.toList.take (xs.length * i.size) ++ us ++ us0.toList.drop (xs.length * i.size + us.length)).toArray) (xs' := xs ++ ys) hs bi
            ⟨rfl, rfl, rfl, by simp [World.setRow], fun k hk => setRow_other w b k _ (by rintro rfl; exact (R.own t' _ k hs (by rw [hown, hbb])).1 hk)⟩
            (fun b' o u hu => by
              have : b' ≠ b := by rintro rfl; rw [(R.own t' _ b' hs (by rw [hown, hbb])).2 o] at hu; cases hu
              rw [<- R.imm b' o u hu]
              simp only [World.cell?, setRow_other w b b' _ this])
            (fun b' hne _ => setRow_other w b b' _ (by rintro rfl; exact hne (by rw [hown, hbb])))
            (XE ⟨b, hbb, Xr (by rw [hown, hbb])⟩) hbw
            ⟨bi, Bmap.put_same β t' _ bi, e2, e3, e4, by simpa using hfit, ZhH e6 S.tree, fun q hq => by
              rcases Xv.1 hq with hq | hq
              . exact e7 q hq
              . exact S.lens q hq, XE ⟨b, _, ty0, hbb, setRow_heap w b us0 _ ty0 (0, 0) e8, by simp; omega, by
                have hl2 : (us0.toList.take (xs.length * i.size) ++ us).length = (xs ++ ys).length * i.size := by rw [Xi, hlx, S.len, Xi, Wh]
                have := ZcE (VRs.mono (Imm.le.refl I) (Bmap.put_le (R.gen t' _ (g' + 1) hs (by simp [Zl]))) _ _ e10) (VRs.mono (Imm.le.refl I) (Bmap.put_le (bi := bi) (R.gen t' _ (g' + 1) hs (by simp [Zl]))) _ _ S.vr)
                rw [ZfW, <- hl2]
                simp only [XaN]
                exact this⟩⟩
          refine ⟨.slice (some ⟨b, 0, none⟩) (xs.length + ys.length) bi.cap, _, ?_, Post.mk (Imm.le.refl I) hle R' ?_⟩
          . rw [ZiF T S.to0 hfit]
            simp only [Addr.add_mid, XB, hst, Result.andThen_ok]
          . rw [Zcl]
            exact ⟨bi, Bmap.put_same β t' _ bi, hfit, e4, Xr ⟨b, hbb, rfl⟩⟩
        . obtain ⟨newCap, us', g5, g6, g7, g8, g9, g10, g11⟩ := fresh (A := some ⟨b, 0, none⟩) (n := xs.length) (cap := bi.cap) (olds := us0.toList.take (xs.length * i.size)) (xs := xs)
            (fun w' hw => by
              simp only [Builtin.firstCells]
              have key := run_loadCells_list (P := P) w' ⟨b, 0, none⟩ (us0.toList.take (xs.length * i.size)) ?_
              . rw [hlx] at key; exact key
              intro j u hu
              rw [Addr.add_mid, Zlg hw, Zgy e8]
              rw [XS] at hu
              split at hu
              . simpa using hu
              . cases hu) (by omega) hbytes e10 rfl e6 e7
          obtain ⟨R', hle⟩ := (R.same (w' := { w with drawn := w.drawn + 1 }) rfl rfl rfl rfl).grow (w' := { w with heap := w.heap.push (.cells us' e), drawn := w.drawn + 1 }) (xs' := xs ++ ys) hs ⟨some w.heap.size, i.size, newCap⟩
            (ZiG base { w with drawn := w.drawn + 1 } _ hbw) (fun b' o u hu => ZiY { w with drawn := w.drawn + 1 } _ (R.imm b' o u hu)) (fun b' _ hlt => Zgj w _ hlt) (XE ⟨_, rfl, XE rfl⟩) hbw
            ⟨_, Bmap.put_same β t' _ _, rfl, e3, g6, by simpa using g5, g9, g10, XE ⟨_, us', e, rfl, Zij w _, g7, VRs.mono (Imm.le.refl I) (Bmap.put_le (R.gen t' _ (g' + 1) hs (by simp [Zl]))) _ _ g8⟩⟩
          refine ⟨_, _, g11, Post.mk (Imm.le.refl I) hle R' ?_⟩
          rw [Zcl]
          exact ⟨_, Bmap.put_same β t' _ _, g5, g6, Xr ⟨_, rfl, rfl⟩⟩
      . have hxs : xs = [] := XG (by omega)
        subst hxs
        by_cases hne : ys = []
        . subst hne
          have hus : us = [] := XG (by simpa using S.len)
          subst hus
          obtain ⟨R', hle⟩ := R.grow (w' := w) (xs' := []) hs ⟨none, i.size, 0⟩ (KB.refl base w) R.imm (fun _ _ _ => rfl) (Xr rfl) hbw
            ⟨_, Bmap.put_same β t' _ _, rfl, e3, by simp, by simp, by simp [Zao], by simp, Xr ⟨rfl, rfl⟩⟩
          refine ⟨.slice A 0 0, w, ?_, Post.mk (Imm.le.refl I) hle (by simpa using R') ?_⟩
          . rw [ZiF T S.to0 (by simp)]
            cases A <;> simp [storeCells]
          . rw [Zcl]
            exact ⟨_, Bmap.put_same β t' _ _, by simp, by simp, XE ⟨rfl, rfl, A, rfl⟩⟩
        . have hpos : 0 < ys.length := List.length_pos_iff.2 hne
          obtain ⟨newCap, us', g5, g6, g7, g8, g9, g10, g11⟩ := fresh (A := A) (n := 0) (cap := 0) (olds := []) (xs := []) (fun w' _ => by cases A <;> simp [Builtin.firstCells, loadCells, loadCellsFrom]) (by omega) (by simpa using hbytes) (by simp [VRs]) rfl (by simp [Zao]) (by simp)
          obtain ⟨R', hle⟩ := (R.same (w' := { w with drawn := w.drawn + 1 }) rfl rfl rfl rfl).grow (w' := { w with heap := w.heap.push (.cells us' e), drawn := w.drawn + 1 }) (xs' := [] ++ ys) hs ⟨some w.heap.size, i.size, newCap⟩
            (ZiG base { w with drawn := w.drawn + 1 } _ hbw) (fun b' o u hu => ZiY { w with drawn := w.drawn + 1 } _ (R.imm b' o u hu)) (fun b' _ hlt => Zgj w _ hlt) (XE ⟨_, rfl, XE rfl⟩) hbw
            ⟨_, Bmap.put_same β t' _ _, rfl, e3, g6, by simpa using g5, g9, g10, XE ⟨_, us', e, rfl, Zij w _, g7, VRs.mono (Imm.le.refl I) (Bmap.put_le (R.gen t' _ (g' + 1) hs (by simp [Zl]))) _ _ g8⟩⟩
          refine ⟨_, _, g11, Post.mk (Imm.le.refl I) hle R' ?_⟩
          rw [Zcl]
          exact ⟨_, Bmap.put_same β t' _ _, by simpa using g5, g6, Xr ⟨_, rfl, by simp⟩⟩
    . rename_i hnn
      split at h
      case isFalse => cases h
      rename_i hle'
      simp only [Xb, Xd] at h
      obtain ⟨rfl, rfl, rfl⟩ := h
      have hnlt : n < xs.length := by omega
      rcases f4 with ⟨b, hbb, rfl⟩ | ⟨hbn, hcz, A, rfl⟩
      . rcases e8 with ⟨e8, _⟩ | ⟨b', us0, ty0, eb, e8, e9, e10⟩
        . rw [hbb] at e8; cases e8
        rw [hbb] at eb
        injection eb with eb
        subst eb
        have hfit : n + ys.length <= bi.cap := by omega
        have hmul : (n + ys.length) * i.size <= xs.length * i.size := Wl _ hle'
        have hmul2 : xs.length * i.size <= us0.size := by rw [e9]; exact Wl _ e5
        have hcells : n * i.size + us.length <= us0.size := by rw [S.len, <- Wh]; omega
        have hst := run_storeCells_at (P := P) b (n * i.size) ty0 us 0 us0 w e8 (by omega) hone
        simp only [Wc] at hst
        refine ⟨.slice (some ⟨b, 0, none⟩) (n + ys.length) bi.cap, w.setRow b (us0.toList.take (n * i.size) ++ us ++ us0.toList.drop (n * i.size + us.length)).toArray, ?_, Post.here (R.write hs (b := b) (by rw [hown, hbb]) (by simp [ZL, e1, hbb]) _ ?_ rfl) ?_⟩
        . rw [ZiF T S.to0 hfit]
          simp only [Addr.add_mid, XB, hst, Result.andThen_ok]
        . have hxl : (xs.take n ++ ys ++ xs.drop (n + ys.length)).length = xs.length := by simp; omega
          refine ⟨bi, e1, e2, e3, e4, by rw [hxl]; exact e5, ?_, ?_, XE ⟨b, _, ty0, hbb, setRow_heap w b us0 _ ty0 (0, 0) e8, by simp; omega, ?_⟩⟩
          . exact ZhH (ZhH (Zkq e6 n) S.tree) (ZjT e6 _)
          . intro q hq
            simp only [Xv] at hq
            rcases hq with (hq | hq) | hq
            . exact e7 q (WM hq)
            . exact S.lens q hq
            . exact e7 q (Ww hq)
          . rw [hxl, ZfW, ZfW, <- ZkV e7, <- Zip e7]
            have h1 := ZfK e10 (n * i.size)
            have h2 := ZfP e10 ((n + ys.length) * i.size)
            have := ZcE (ZcE h1 S.vr) h2
            refine cast ?_ this
            congr 1
            rw [XaM, Xam (by rw [Wh] at hmul; omega), Xaj]
            have hsl := S.len
            rw [Wh] at hmul ⊢
            apply Wp
            intro j
            simp only [WL, XS, Wq, Xi, X0, XM]
            repeat' split
            all_goals first | rfl | omega | (congr 1; omega) | (exfalso; omega) | skip
            all_goals (first | (symm; rw [X3]; simp; omega) | (rw [X3]; simp; omega))
        . rw [Zcl]
          exact ⟨bi, e1, hfit, e4, Xr ⟨b, hbb, rfl⟩⟩
      . omega
  . cases h
end
end
section
open Go.RowKit
theorem Zt7{I:Imm}{β:Bmap}{v:Value}{x:AVal}(h:ZnI v=some x):VR I β x v/\v.cells=#[v]/\x.cells=[x]/\Zbb x=true:=by
 unfold ZnI at h
 split at h
 ·injection h with h;subst h;exact⟨by simp only[VR],rfl,rfl,rfl⟩
 ·injection h with h;subst h;exact⟨by simp only[VR],rfl,rfl,rfl⟩
 ·split at h
  ·injection h with h;subst h
   refine⟨?_,rfl,rfl,rfl⟩
   simp only[VR]
   exact⟨by simp,by assumption⟩
  ·cases h
 ·injection h with h;subst h;exact⟨by simp only[VR],rfl,rfl,rfl⟩
 ·injection h with h;subst h
  refine⟨?_,rfl,rfl,rfl⟩
  simp only[VR]
  exact⟨none,0,rfl,by simp,by simp,by simp,Xr trivial,rfl⟩
 ·injection h with h;subst h;exact⟨by simp only[VR],rfl,rfl,rfl⟩
 ·injection h with h;subst h;exact⟨by simp only[VR],rfl,rfl,rfl⟩
 ·cases h
theorem Zyu{I:Imm}{β:Bmap}:∀ {vs:List Value} {xs:List AVal},Zkf vs=some xs->VRs I β xs vs/\ZaX xs=true
 | [],xs,h=>by simp only[Zkf,Xb]at h;subst h;exact⟨by simp only[VRs],rfl⟩
 |v::vs,xs,h=>by
  simp only[Zkf]at h
  split at h
  ·rename_i x h1
   split at h
   ·rename_i ys h2
    injection h with h;subst h
    obtain⟨a1,_,_,a2⟩:=Zt7 (I:=I) (β:=β) h1
    obtain⟨b1,b2⟩:=Zyu (I:=I) (β:=β) h2
    exact⟨by simp only[VRs];exact⟨v,vs,rfl,a1,b1⟩,by simp[ZaX,a2,b2]⟩
   ·cases h
  ·cases h
theorem Zf8{v:Value}{x:AVal}(h:ZhR v=some x):x≠.top:=by
 unfold ZhR at h
 split at h
 ·simp only[Xq]at h
  obtain⟨xs,h1,rfl⟩:=h
  simp
 ·obtain⟨_,_,_,a3⟩:=Zt7 (I:=fun _ _=>none) (β:=B0) h
  rintro rfl;simp[Zbb]at a3
theorem ZfV{I:Imm}{β:Bmap}{v:Value}{x:AVal}(h:ZhR v=some x):VR I β x v/\ZaX x.cells=true:=by
 unfold ZhR at h
 split at h
 ·simp only[Xq]at h
  obtain⟨xs,h1,rfl⟩:=h
  obtain⟨b1,b2⟩:=Zyu (I:=I) (β:=β) h1
  exact⟨by simp only[VR];exact⟨_,rfl,b1⟩,b2⟩
 ·obtain⟨a1,_,a2,a3⟩:=Zt7 (I:=I) (β:=β) h
  exact⟨a1,by rw[a2];simp[ZaX,a3]⟩
section
variable {P:Program}{base:Nat->Prop}{w0 w w':World}{I0 I I':Imm}{β β':Bmap}{σ σ':Za}{tm:Tms}{ρ:Operand->Value}
theorem ZaB{a:Act}(T:TR I β tm a.tmps){x:Operand}{y:Opd}(h:Zaz x=some y):VR I β (y.ev tm) (a.eval x):=by
 cases x with
 |tmp t =>
  simp only[Zaz,Xb]at h;subst h
  exact T t
 |const v =>
  simp only[Zaz,Xq]at h
  obtain⟨c,h1,rfl⟩:=h
  exact(ZfV h1).1
 |func f =>
  simp only[Zaz]at h
  split at h
  case isFalse=>cases h
  rename_i hf
  simp only[Xb]at h;subst h
  simp only[Opd.ev,Act.eval,VR,if_pos hf]
  exact⟨#[],#[],rfl,rfl,by simp[VRs]⟩
 |global g=>cases h
def OpOk(P:Program)(s:Sem Next)(w:World)(Φ:Value->World->Prop):Prop :=
 (∃ u w',s.run P w=.ok (.value u) w'/\Φ u w')\/(∃ w',s.run P w=.ok .skip w'/\Φ undef w')\/(∃ f args w',s.run P w=.ok (.enter f args) w'/\Calls P f args w' (fun e w''=>∃ u,e=.returned u/\Φ u w''))
def OpPan(P:Program)(s:Sem Next)(w:World)(Φ:Value->World->Prop):Prop :=
 (∃ u w',s.run P w=.halt (.panic u) w'/\Φ u w')\/(∃ f args w',s.run P w=.ok (.enter f args) w'/\Calls P f args w' (fun e w''=>∃ u,e=.panicked [{ v:=u,recovered:=false }]/\Φ u w''))
theorem OpPan.wp{o:Oper}{a:Act}{Φ:Value->World->Prop}{K:Act->World->Prop}{Q:Exit->Act->World->Prop}(h:OpPan P (execOp a.eval o) w Φ)(hQ:∀ u w',Φ u w'->Q (.panic [{ v:=u,recovered:=false }]) a w'):o.wp P a w K Q:=by
 unfold Oper.wp
 rcases h with⟨u,w',h1,h2⟩ |⟨f,args,w',h1,h2⟩
 ·rw[h1];exact hQ u w' h2
 ·rw[h1]
  exact h2.mono fun e w'' ⟨u,he,hu⟩=>by subst he;exact hQ u w'' hu
theorem OpOk.wp{o:Oper}{a:Act}{Φ:Value->World->Prop}{K:Act->World->Prop}{Q:Exit->Act->World->Prop}(h:OpOk P (execOp a.eval o) w Φ)(hK:∀ u w',Φ u w'->K (a.put o.dst u) w'):o.wp P a w K Q:=by
 unfold Oper.wp
 rcases h with⟨u,w',h1,h2⟩ |⟨w',h1,h2⟩ |⟨f,args,w',h1,h2⟩
 ·rw[h1];exact hK u w' h2
 ·rw[h1];exact hK _ w' h2
 ·rw[h1]
  exact h2.mono fun e w'' ⟨u,he,hu⟩=>by subst he;exact hK u w'' hu
theorem OpOk.val{s:Sem Value}{Φ:Value->World->Prop}(h:∃ u w',s.run P w=.ok u w'/\Φ u w'):OpOk P (do let x <-s;pure (.value x)) w Φ:=by
 obtain⟨u,w',h1,h2⟩:=h
 exact Xr ⟨u,w',by simp[h1],h2⟩
theorem OpOk.unit{s:Sem Unit}{Φ:Value->World->Prop}(h:∃ w',s.run P w=.ok () w'/\Φ undef w'):OpOk P (do s;pure .skip) w Φ:=by
 obtain⟨w',h1,h2⟩:=h
 exact XE (Xr ⟨w',by simp[h1],h2⟩)
theorem ZVX(R:Rel base w0 I0 I β σ w)(hb:KLt base w0){e:TypeId}{z:AVal}(hz:ZdU P e=some z){sq:Nat}(hs:σ[sq]?=some .free) :
  ∃ u w',(Instr.alloc e true (.tuple #[])).run P w=.ok u w'/\Post base w0 I0 I β (.ref sq 0) (σ.set sq (.var z.cells)) u w':=by
 unfold ZdU at hz
 split at hz
 ·rename_i i hi
  split at hz
  ·rename_i v hv
   obtain⟨h1,h2⟩:=ZfV (I:=I) (β:=β) hz
   obtain⟨R',hle⟩:=R.newOwn hb hs v.cells e (.var z.cells) 1 v.cells.size (Xr ⟨_,rfl,ZeH (Zf8 hz) h1⟩)
   refine⟨.pointer (some ⟨w.heap.size,0,none⟩),_,?_,Post.mk (Imm.le.refl I) hle R' ?_⟩
   ·simp[Instr.alloc,zeroValue,typeInfo,hi,hv,newVar,newRow]
   ·simp only[VR]
    exact⟨_,_,_,Bmap.put_same β sq 0 _,rfl⟩
  ·cases hz
 ·cases hz
theorem ZQ6(R:Rel base w0 I0 I β σ w)(hb:KLt base w0){e:TypeId}{x:AVal}{v:Value}(ht:x≠.top)(hx:VR I β x v){sq:Nat}(hs:σ[sq]?=some .free) :
  ∃ u w',(Instr.box e v).run P w=.ok u w'/\Post base w0 I0 I β (.ref sq 0) (σ.set sq (.var x.cells)) u w':=by
 obtain⟨R',hle⟩:=R.newOwn hb hs v.cells e (.var x.cells) 1 v.cells.size (Xr ⟨_,rfl,ZeH ht hx⟩)
 refine⟨.pointer (some ⟨w.heap.size,0,none⟩),_,?_,Post.mk (Imm.le.refl I) hle R' ?_⟩
 ·simp[Instr.box,newVar,newRow]
 ·simp only[VR]
  exact⟨_,_,_,Bmap.put_same β sq 0 _,rfl⟩
theorem Zn8(op:BinOp)(t:TypeId)(x y:Operand)(k k':IntKind)(a b:Int):(eqGuard op t x y (.int k a) (.int k' b)).run P w=.ok () w:=by
 cases op<;>simp[eqGuard]
theorem ZAY(op:BinOp)(t:TypeId)(x y:Operand)(a b:ByteArray):(eqGuard op t x y (.string a) (.string b)).run P w=.ok () w:=by
 cases op<;>simp[eqGuard]
theorem Zls(l:List UInt8):ByteArray.toList ⟨l.toArray⟩=l:=by
 rw[ByteArray.toList_eq]
theorem ZxJ {op : BinOp} {t : TypeId} {x y r : AVal} {vx vy : Value} (ox oy : Operand) (hx : VR I β x vx) (hy : VR I β y vy) (h : binA op x y = some r) :
    ∃ u, (do eqGuard op t ox oy vx vy; binOp op t vx vy : Sem Value).run P w = .ok u w /\ VR I β r u := by
  unfold binA at h
  split at h
  . rename_i k a k' b
    simp only [VR] at hx hy
    subst hx hy
    split at h
    . unfold ZaR at h
      split at h
      . cases h
      . rename_i hb
        simp only at h
        injection h with h; subst h
        simp only [VR, exists_eq_right]; simp [Zn8, binOp, Op.shift, hb]
    . unfold ZaR at h
      split at h
      . cases h
      . rename_i hb
        simp only at h
        injection h with h; subst h
        simp only [VR, exists_eq_right]; simp [Zn8, binOp, Op.shift, hb]
    . rename_i n1 n2
      split at h
      . rename_i e; subst e
        unfold arithA at h
        cases op <;> simp only at h <;> first
          | (cases h; done)
          | (exact absurd rfl n1)
          | (exact absurd rfl n2)
          | (injection h with h; subst h; simp only [VR, exists_eq_right]; simp [Zn8, binOp, Op.intArith, Op.intBits, Op.intCmp]; done)
          | (split at h
             . cases h
             . rename_i hb
               injection h with h; subst h
               simp only [VR, exists_eq_right]
               simp [Zn8, binOp, Op.intDiv, hb])
      . cases h
  . rename_i a b
    simp only [VR] at hx hy
    obtain ⟨rfl, ha⟩ := hx
    obtain ⟨rfl, hb⟩ := hy
    unfold Zbi at h
    cases op <;> simp only at h <;> first
      | (cases h; done)
      | (injection h with h; subst h; simp only [VR, exists_eq_right]; simp [ZAY, binOp, Op.stringOp]; done)
      | (split at h
         . rename_i hlen
           injection h with h; subst h
           refine ⟨.string ⟨(a ++ b).toArray⟩, ?_, by simp only [VR]; exact ⟨trivial, by simpa using hlen⟩⟩
           have hn : ¬ ((9223372036854775807 : Int) < ((a.length : Int) + (b.length : Int))) := by omega
           have hmx : IntKind.i64.max = 9223372036854775807 := by decide
           have hs : ∀ l : List UInt8, Wu ⟨l.toArray⟩ = l.length := fun l => by simp [Wu]
           have he : (⟨a.toArray⟩ : ByteArray) ++ ⟨b.toArray⟩ = ⟨(a ++ b).toArray⟩ := by
             apply ByteArray.ext
             simp [ByteArray.data_append]
           simp [ZAY, binOp, Op.stringOp, hs, hmx, hn, he]
           try omega
         . cases h)
  . cases h
end
end
section
open Go.RowKit
section
variable {P:Program}{base:Nat->Prop}{w0 w w':World}{I0 I I':Imm}{β β':Bmap}{σ σ':Za}{tm:Tms}
theorem ZKK{op:UnOp}{x r:AVal}{v:Value}(hx:VR I β x v)(h:unA op x=some r):∃ u,(Op.unary op v).run P w=.ok u w/\VR I β r u:=by
 unfold unA at h
 split at h
 ·simp only[VR]at hx;subst hx
  simp only[arithA]at h
  injection h with h;subst h
  simp only[VR,exists_eq_right];simp[Op.unary,Op.intArith]
 ·simp only[VR]at hx;subst hx
  simp only[arithA]at h
  injection h with h;subst h
  simp only[VR,exists_eq_right];simp[Op.unary,Op.intBits]
 ·simp only[VR]at hx;subst hx
  injection h with h;subst h
  simp only[VR,exists_eq_right];simp[Op.unary]
 ·cases h
theorem Ztc:∀ {xs:List AVal} {l:List UInt8},Zf3 xs=some l->∃ ns:List Int,xs=ns.map (AVal.int .u8)/\l=ns.map fun n=>X1 n.toNat
 | [],l,h=>by simp only[Zf3,Xb]at h;subst h;exact⟨[],rfl,rfl⟩
 |x::xs,l,h=>by
  simp only[Zf3]at h
  split at h
  ·rename_i b hb
   split at h
   ·rename_i l' hl
    injection h with h;subst h
    obtain⟨ns,rfl,rfl⟩:=Ztc hl
    unfold ZsI at hb
    split at hb
    ·rename_i n
     injection hb with hb;subst hb
     exact⟨n::ns,rfl,rfl⟩
    ·cases hb
   ·cases h
  ·cases h
theorem ZTi(ns:List Int):∀ s:ByteArray,ns.foldl (fun r n=>r.push (X1 n.toNat)) s=⟨s.data++(ns.map fun n=>X1 n.toNat).toArray⟩:=by
 induction ns with
 |nil=>intro s;simp
 |cons n ns ih =>
  intro s
  rw[List.foldl_cons,ih]
  simp[ByteArray.push]
theorem ZJg{ns:List Int}{us:List Value}(h:VRs I β (ns.map (AVal.int .u8)) us):us=ns.map (Value.int .u8):=by
 have hl:=Za1 h
 apply Wp
 intro j
 cases hj:(ns.map (AVal.int .u8))[j]? with
 |none =>
  have h1:us[j]?=none:=by rw[X3]at hj ⊢;omega
  have h2:(ns.map (Value.int .u8))[j]?=none:=by rw[X3]at hj ⊢;simpa using hj
  rw[h1,h2]
 |some x =>
  obtain⟨v,hv,hr⟩:=ZcO h hj
  simp only[WZ,Xq]at hj
  obtain⟨n,hn,rfl⟩:=hj
  simp only[VR]at hr
  subst hr
  rw[hv]
  simp[hn]
theorem ZC0(ns:List Int):(ns.map (AVal.int .u8)).flatMap AVal.cells=ns.map (AVal.int .u8):=by
 induction ns with
 |nil=>rfl
 |cons n ns ih=>simp only[Xm,XK,ih];rfl
theorem ZKX{src dst e:TypeId}(hs:P.underlying src=some (.slice e))(he:P.underlying e=some (.int .u8))(hd:P.underlying dst=some .string){xs:List AVal}{v:Value}(hr:Zil I β w v xs){l:List UInt8}(hl:Zf3 xs=some l) :
  (convert src dst v).run P w=.ok (.string ⟨l.toArray⟩) w/\l.length<=9223372036854775807:=by
 obtain⟨A,cap,rfl,h1,h2,h3,h4⟩:=hr
 obtain⟨ns,rfl,rfl⟩:=Ztc hl
 refine⟨?_,by simp at h1 ⊢;omega⟩
 rw[run_convert_bytes_string w src dst e A _ cap hs he hd]
 rcases A with _ |a
 ·have : ns=[]:=by
   rcases h4 with h4 |⟨b,off,k,us,e',_⟩
   ·simpa using h4
   ·cases e'
  subst this
  simp[Conv.bytesToString];rfl
 ·have hload:(loadCells a (ns.map (AVal.int .u8)).length).run P w=.ok (ns.map (Value.int .u8)).toArray w:=by
   rcases h4 with h4 |⟨b,off,k,us,e',hk,hlen,hv,hc⟩
   ·have : ns=[]:=by simpa using h4
    subst this
    simp[loadCells,loadCellsFrom]
   ·injection e' with e';subst e'
    rw[ZC0]at hv
    have:=ZJg hv
    subst this
    have key:=run_loadCells_list (P:=P) w ⟨b,off,none⟩ (ns.map (Value.int .u8)) (fun j u hu=>by rw[Addr.add_mid];exact hc j u hu)
    simpa using key
  rw[run_bytesToString w a _ cap ns hload,ZTi]
  simp[ByteArray.empty,ByteArray.emptyWithCapacity]
  rfl
theorem ZJ7{src dst e:TypeId}(hs:P.underlying src=some .string)(hd:P.underlying dst=some (.slice e))(he:P.underlying e=some (.int .u8))(R:Rel base w0 I0 I β σ w)(hb:KLt base w0){l:List UInt8}(hl:l.length<=9223372036854775807) :
  ∃ u w',(convert src dst (.string ⟨l.toArray⟩)).run P w=.ok u w'/\Post base w0 I0 I β (.lst false (l.map Zb)) σ u w':=by
 have hsz:Wu ⟨l.toArray⟩=l.length:=by simp[Wu]
 obtain⟨cap,hcap⟩:∃ cap,cap=(Question.appendCap l.length 0 e).cut (w.tape w.drawn (.appendCap l.length 0 e)):=⟨_,rfl⟩
 have hge:l.length<=cap:=by rw[hcap];simp[Question.cut]
 have hle:cap<=9223372036854775807:=by
  rw[hcap];simp only[Question.cut]
  have:=Nat.mod_lt (w.tape w.drawn (.appendCap l.length 0 e)) (show 0<2^63-l.length by omega)
  omega
 obtain⟨us,hus⟩:∃ us:Array Value,us=(l.map fun b=>Value.int .u8 b.toNat).toArray++Array.replicate (cap-l.length) (.int .u8 0):=⟨_,rfl⟩
 have husz:us.size=cap:=by rw[hus];simp;omega
 obtain⟨R',hI⟩:=(R.same (w':={ w with drawn:=w.drawn+1 }) rfl rfl rfl rfl).newImm hb us e (us.size,us.size+1)
 refine⟨.slice (some ⟨w.heap.size,0,none⟩) l.length cap,{ w with drawn:=w.drawn+1,heap:=w.heap.push (.cells us e (us.size,us.size+1)) },?_,Post.mk hI (Bmap.le.refl β) R' ?_⟩
 ·have hmap:(l.toArray.map fun b=>Value.int .u8 (b.toNat:Int))=(l.map fun b=>Value.int .u8 (b.toNat:Int)).toArray:=by simp
  simp only[convert,Sem.run_bind,run_underlying hs,run_underlying hd,run_underlying he,Result.andThen_ok,Conv.stringToBytes,hsz,run_choose,Question.forced,Xj,if_false,<-hcap,newRow,run_newObj,Sem.run_pure,markStringish,run_shape]
  rw[hmap,<-hus]
  simp[World.shape?,World.freeze]
  congr 1
  apply Array.ext
  ·simp
  ·intro i h1 h2
   simp only[Array.size_modify,Array.size_push]at h1
   by_cases hi:i=w.heap.size
   ·subst hi;simp[Array.getElem_modify]
   ·simp only[Array.getElem_modify,Ne.symm hi,if_false]
    rw[Array.getElem_push_lt (by omega),Array.getElem_push_lt (by omega)]
 ·simp only[VR]
  refine⟨some ⟨w.heap.size,0,none⟩,cap,by simp,by simpa using hge,hle,by simp,?_,Zvw l⟩
  by_cases hne:l=[]
  ·exact Xr (by simp[hne])
  ·refine XE ⟨w.heap.size,0,1,rfl,by omega,Zk2 (Zpo l) (by rw[Zve];exact ZwE l) (fun j u hu=>?_)⟩
   simp only[Imm.add,XB,if_true]
   rw[hus]
   have hj:j<l.length:=by simpa using(Xl.1 hu).1
   rw[Array.getElem?_append_left (by simpa using hj)]
   simpa using hu
theorem Zoe{x:AVal}{v:Value}(hx:VR I β x v){y n:Nat}(h:ZcP x y=some n)(y':Nat)(hy:y<=y')(code:BoundsCode):(Instr.sliceBound v y' code).run P w=.ok n w/\n<=y:=by
 unfold ZcP at h
 split at h
 ·rename_i i
  split at h
  ·rename_i hc
   injection h with h;subst h
   simp only[VR]at hx;subst hx
   refine⟨?_,by omega⟩
   simp[Instr.sliceBound,asIntOf,hc.1,show i<=(y':Int)by omega]
  ·cases h
 ·cases h
theorem ZkD(isSlice:Bool){len cap d:Nat}{lo hi mx:Option AVal}{vlo vhi vmx:Option Value}(hlo:∀ x,lo=some x->∃ v,vlo=some v/\VR I β x v)(hlo':lo=none->vlo=none)
  (hhi:∀ x,hi=some x->∃ v,vhi=some v/\VR I β x v) (hhi':hi=none->vhi=none) (hmx:∀ x,mx=some x->∃ v,vmx=some v/\VR I β x v) (hmx':mx=none->vmx=none) (hd:d<=cap) (hhm:hi=none->mx=none) {m h l:Nat}
  (h1:Zbp mx d d=some m) (h2:Zbp hi len m=some h) (h3:Zbp lo 0 h=some l) :
  (Instr.sliceBounds isSlice len cap vlo vhi vmx).run P w=.ok (l,h,if mx.isSome then m else cap) w/\l<=h/\(hi.isSome->h<=m)/\m<=d:=by
 have b3:∀ y',h<=y'->∀ code,(match vlo with |some v=>Instr.sliceBound v y' code |none=>pure 0:Sem Nat).run P w=.ok l w/\l<=h:=by
  intro y' hy code
  cases lo with
  |none=>rw[hlo' rfl];simp only[Zbp,Xb]at h3;subst h3;simp
  |some x =>
   obtain⟨v,rfl,hv⟩:=hlo x rfl
   simpa using Zoe hv h3 y' hy code
 cases mx with
 |none =>
  rw[hmx' rfl]
  simp only[Zbp,Xb]at h1
  subst h1
  cases hi with
  |none =>
   rw[hhi' rfl]
   simp only[Zbp,Xb]at h2
   subst h2
   have:=b3 len (XF _) .sliceB
   refine⟨?_,this.2,by simp,XF _⟩
   cases vlo<;>simp_all[Instr.sliceBounds]
  |some x =>
   obtain⟨v,rfl,hv⟩:=hhi x rfl
   have hb:=fun code=>Zoe (P:=P) (w:=w) hv h2 cap hd code
   have hb2:=(hb .sliceAcap).2
   have:=b3 h (XF _) .sliceB
   refine⟨?_,this.2,fun _=>hb2,XF _⟩
   have e1:=fun c=>(hb c).1
   cases vlo<;>simp_all[Instr.sliceBounds]
 |some y =>
  obtain⟨vm,rfl,hvm⟩:=hmx y rfl
  have hm:=fun code=>Zoe (P:=P) (w:=w) hvm h1 cap hd code
  have hm2:=(hm .slice3B).2
  cases hi with
  |none=>cases hhm rfl
  |some x =>
   obtain⟨v,rfl,hv⟩:=hhi x rfl
   have hb:=fun code=>Zoe (P:=P) (w:=w) hv h2 m (XF _) code
   have hb2:=(hb .sliceAcap).2
   have:=b3 h (XF _) .slice3C
   refine⟨?_,this.2,fun _=>hb2,hm2⟩
   have e1:=fun c=>(hb c).1
   have e2:=fun c=>(hm c).1
   cases vlo<;>simp_all[Instr.sliceBounds]
end
end
section
open Go.RowKit
section
variable {P:Program}{base:Nat->Prop}{w0 w w':World}{I0 I I':Imm}{β β':Bmap}{σ σ':Za}{tm:Tms}
def OVR(I:Imm)(β:Bmap):Option AVal->Option Value->Prop
 |none,v=>v=none
 |some x,v=>∃ u,v=some u/\VR I β x u
theorem OVR.some'{x:Option AVal}{v:Option Value}(h:OVR I β x v):∀ y,x=some y->∃ u,v=some u/\VR I β y u:=by
 rintro y rfl;exact h
theorem OVR.none'{x:Option AVal}{v:Option Value}(h:OVR I β x v):x=none->v=none:=by
 rintro rfl;exact h
theorem ZvI{b:Bool}{xs:List AVal}{A:Option Addr}{cap:Nat}(hcap:xs.length<=cap)(hmax:cap<=9223372036854775807)(hA:xs=[]\/∃ b off k,A=some ⟨b,off,none⟩/\0<k/\LR I β k xs b off)(ht:Zao xs=true){k l h m:Nat}(hk:l=0\/kOk k xs=true)(hl:l<=h)(hh:h<=xs.length)(hm:h<=m)(hmc:m<=cap)(x:Bool)(hx:x=true->m=h) :
  VR I β (.lst x ((xs.take h).drop l)) (.slice (if m=l then A else A.map (·.add (l*k))) (h-l) (m-l)):=by
 simp only[VR]
 have hlen:((xs.take h).drop l).length=h-l:=by simp;omega
 refine⟨_,_,by rw[hlen],by rw[hlen];omega,by omega,fun hx'=>by rw[hlen,hx hx'],?_,ZjT (Zkq ht h) l⟩
 by_cases he:(xs.take h).drop l=[]
 ·exact Xr he
 ·have hlt:l<h:=by
   rcases Nat.lt_or_ge l h with h1 |h1
   ·exact h1
   ·exact absurd (XG (by rw[hlen];omega)) he
  rcases hA with rfl |⟨b',off,k',rfl,hk',hL⟩
  ·simp at he
  ·have hml:¬m=l:=by omega
   refine XE ⟨b',off+l*k,k',?_,hk',?_⟩
   ·rw[if_neg hml];simp[Addr.add_mid]
   ·have hkk:l*k=l*k':=by
     rcases hk with rfl |hk
     ·simp
     ·have hne:xs≠[]:=by rintro rfl;simp at he
      rw[ZlE hk (Zws hL) hne]
    rw[hkk]
    exact ZsE (ZqT hL)
theorem ZK3 {t e : TypeId} {k : Nat} (ht : P.underlying t = some (.slice e)) (hk : ZbY P e = some k) (R : Rel base w0 I0 I β σ w) {x r : AVal} {v : Value} (hx : VR I β x v) {lo hi mx : Option AVal} {vlo vhi vmx : Option Value} (hlo : OVR I β lo vlo) (hhi : OVR I β hi vhi) (hmx : OVR I β mx vmx) (hhm : hi = none -> mx = none) {c : Cls}
    (h : ZbI σ k x lo hi mx = some (r, σ', c)) : ∃ u, (Instr.sliceAt t v vlo vhi vmx).run P w = .ok u w /\ Post base w0 I0 I β r σ' u w := by
  obtain ⟨ie, hie, hke⟩ : ∃ ie, P.info? e = some ie /\ ie.size = k := by
    unfold ZbY at hk
    cases hi : P.info? e with
    | none => simp [hi] at hk
    | some i => exact ⟨i, rfl, by simpa [hi] using hk⟩
  have run : ∀ {A : Option Addr} {len cap l h m : Nat}, (Instr.sliceBounds true len cap vlo vhi vmx).run P w = .ok (l, h, m) w ->
      (Instr.sliceAt t (.slice A len cap) vlo vhi vmx).run P w = .ok (.slice (if m = l then A else A.map (·.add (l * k))) (h - l) (m - l)) w := by
    intro A len cap l h m hr
    simp [Instr.sliceAt, Instr.slice, run_underlying ht, hr, sizeOf, typeInfo, hie, hke]
  unfold ZbI at h
  split at h
  . rename_i b xs
    simp only [VR] at hx
    obtain ⟨A, cap, rfl, h2, h3, h4, h5, h6⟩ := hx
    split at h
    . cases h
    rename_i m hm
    split at h
    . cases h
    rename_i h' hh
    split at h
    . cases h
    rename_i l hl
    split at h
    case isFalse => cases h
    rename_i hk0
    have hk0' : l = 0 \/ kOk k xs = true := by simpa using hk0
    obtain ⟨hr, hlh, hhm', hmd⟩ := ZkD (P := P) (w := w) true hlo.some' hlo.none' hhi.some' hhi.none' hmx.some' hmx.none' h2 hhm hm hh hl
    have hhle : h' <= xs.length := by
      cases hi with
      | none => simp only [Zbp, Xb] at hh; omega
      | some y => have := hhm' rfl; omega
    have hhm2 : h' <= m := by
      cases hi with
      | none => rw [hhm rfl] at hm; simp only [Zbp, Xb] at hm hh; omega
      | some y => exact hhm' rfl
    split at h
    . rename_i hmx'
      simp only [Xb, Xd] at h
      obtain ⟨rfl, rfl, rfl⟩ := h
      rw [if_pos hmx'] at hr
      exact ⟨_, run hr, Post.here R (ZvI (b := b) h2 h3 h5 h6 hk0' hlh hhle hhm2 (by omega) _ (fun e => by simpa using (by simpa using e : h' = m).symm))⟩
    . rename_i hmx'
      simp only [Xb, Xd] at h
      obtain ⟨rfl, rfl, rfl⟩ := h
      rw [if_neg hmx'] at hr
      refine ⟨_, run hr, Post.here R (ZvI (b := b) h2 h3 h5 h6 hk0' hlh hhle (by omega) (XF _) _ (fun e => ?_))⟩
      simp only [Xk, beq_iff_eq] at e
      rw [h4 e.1, e.2]
  . rename_i t' g p n
    split at h
    . cases h
    rename_i els hels
    have hx0 := hx
    simp only [VR] at hx
    obtain ⟨bi, f1, f2, f3, f4⟩ := hx
    obtain ⟨A, hv⟩ : ∃ A, v = .slice A n (bi.cap - p) := by
      rcases f4 with ⟨b, _, rfl⟩ | ⟨_, hc, A, rfl⟩ | ⟨_, hc, hn, A, rfl⟩
      . exact ⟨_, rfl⟩
      . exact ⟨A, by rw [hc, show n = 0 by omega, Nat.zero_sub]⟩
      . exact ⟨A, by rw [hn, <- hc, Xaa]⟩
    have row : ∀ {k' : Nat} {xs : List AVal} {h' l : Nat}, bi.k = k -> xs.length <= bi.cap -> p + n <= xs.length -> vmx = none -> mx = none -> Zbp hi n (xs.length - p) = some h' -> Zbp lo 0 h' = some l ->
        ∃ u, (Instr.sliceAt t v vlo vhi vmx).run P w = .ok u w /\ VR I β (.sl t' g (p + l) (h' - l)) u := by
      intro k' xs h' l hbk hxc hpn hv1 hv2 hh hl
      subst hv1 hv2
      obtain ⟨hr, hlh, hhm', hmd⟩ := ZkD (P := P) (w := w) true (len := n) (cap := bi.cap - p) (d := xs.length - p) (mx := none) (vmx := none) hlo.some' hlo.none' hhi.some' hhi.none' (by simp) (by simp) (by omega) (fun _ => rfl) (m := xs.length - p) rfl hh hl
      have hhn : h' <= bi.cap - p := by
        cases hi with
        | none => simp only [Zbp, Xb] at hh; omega
        | some y => have := hhm' rfl; omega
      rw [hv]
      simp only [Xal, Xj, if_false] at hr
      refine ⟨_, run hr, ?_⟩
      simp only [VR]
      refine ⟨bi, f1, by omega, f3, ?_⟩
      rcases f4 with ⟨b, hb, hv'⟩ | ⟨hb, hc, A', hv'⟩ | ⟨hp, hc, hn, A', hv'⟩
      . rw [hv] at hv'; injection hv' with hv'; subst hv'
        by_cases hcl : bi.cap - p = l
        . rw [if_pos hcl]
          by_cases hz : p + l = 0
          . have hp0 : p = 0 := by omega
            have hl0 : l = 0 := by omega
            subst hp0 hl0
            exact Xr ⟨b, hb, by simp⟩
          . exact XE (XE ⟨by omega, by omega, by omega, _, by rw [show h' - l = 0 by omega, show bi.cap - p - l = 0 by omega]⟩)
        . rw [if_neg hcl]
          refine Xr ⟨b, hb, ?_⟩
          simp only [X8, Addr.add_mid, <- hbk, <- Wh]
          rw [Nat.sub_sub]
      . refine XE (Xr ⟨hb, hc, ?_⟩)
        rw [hc]
        exact ⟨A, by simp [show h' = 0 by omega, show l = 0 by omega]⟩
      . refine XE (XE ⟨by omega, by omega, by omega, ?_⟩)
        exact ⟨_, by rw [show h' - l = 0 by omega, show bi.cap - p - l = 0 by omega]⟩
    split at h
    . rename_i m0
      split at h
      . rename_i q1 hq1
        split at h
        . rename_i q2 hq2
          split at h
          . rename_i q3 hq3
            simp only [Xb, Xd] at h
            obtain ⟨rfl, rfl, rfl⟩ := h
            have hq1' : q1 = 0 := by
              unfold ZcP at hq1; split at hq1
              . split at hq1
                . injection hq1 with hq1; omega
                . cases hq1
              . cases hq1
            subst hq1'
            cases hi with
            | none => cases hhm rfl
            | some y =>
              obtain ⟨hr, hlh, hhm', hmd⟩ := ZkD (P := P) (w := w) true (len := n) (cap := bi.cap - p) (d := 0) hlo.some' hlo.none' hhi.some' hhi.none' hmx.some' hmx.none' (Nat.zero_le _) hhm (m := 0) (h := q2) (l := q3) hq1 hq2 (by
                have : q2 = 0 := by
                  unfold Zbp ZcP at hq2; simp only at hq2; split at hq2
                  . split at hq2
                    . injection hq2 with hq2; omega
                    . cases hq2
                  . cases hq2
                rw [this]; exact hq3)
              have hq2' : q2 <= 0 := hhm' rfl
              have e2 : q2 = 0 := by omega
              have e3 : q3 = 0 := by omega
              subst e2 e3
              rw [hv]
              refine ⟨_, run hr, Post.here R ?_⟩
              simp only [VR]
              exact ⟨A, 0, by simp, by simp, by simp, by simp, Xr trivial, by simp [Zao]⟩
          . cases h
        . cases h
      . split at h
        . rename_i q1 hq1
          split at h
          . rename_i q2 hq2
            split at h
            . rename_i q3 hq3
              simp only [Xb, Xd] at h
              obtain ⟨rfl, rfl, rfl⟩ := h
              cases hi with
              | none => cases hhm rfl
              | some y =>
                obtain ⟨hr, hlh, hhm', hmd⟩ := ZkD (P := P) (w := w) true (len := n) (cap := bi.cap - p) (d := n) hlo.some' hlo.none' hhi.some' hhi.none' hmx.some' hmx.none' (by omega) hhm (m := q1) (h := q2) (l := q3) hq1 hq2 hq3
                rw [hv]
                refine ⟨_, run hr, Post.here R ?_⟩
                simp only [VR]
                exact ⟨rfl, rfl⟩
            . cases h
          . cases h
        . cases h
    . have hmx0 : vmx = none := hmx
      split at h
      . rename_i g' k' xs hs
        split at h
        case isFalse => cases h
        rename_i hkk
        split at h
        . cases h
        rename_i h' hh
        split at h
        . cases h
        rename_i l hl
        simp only [Xb, Xd] at h
        obtain ⟨rfl, rfl, rfl⟩ := h
        simp only [ZY, hs] at hels
        split at hels
        case isFalse => cases hels
        rename_i hc
        obtain ⟨bi', e1, e2, _, _, e5, _⟩ := R.blk _ _ hs
        rw [hc.1, f1] at e1
        injection e1 with e1; subst e1
        obtain ⟨u, h1, h2⟩ := row (k' := k') (by rw [e2]; exact hkk) e5 hc.2 hmx0 rfl hh hl
        exact ⟨u, h1, Post.here R h2⟩
      . rename_i g' k' xs hs
        split at h
        case isFalse => cases h
        rename_i hkk
        split at h
        . cases h
        rename_i h' hh
        split at h
        . cases h
        rename_i l hl
        simp only [Xb, Xd] at h
        obtain ⟨rfl, rfl, rfl⟩ := h
        simp only [ZY, hs] at hels
        split at hels
        case isFalse => cases hels
        rename_i hc
        obtain ⟨bi', e1, e2, _, _, e5, _⟩ := R.blk _ _ hs
        rw [hc.1, f1] at e1
        injection e1 with e1; subst e1
        obtain ⟨u, h1, h2⟩ := row (k' := k') (by rw [e2]; exact hkk) e5 hc.2 hmx0 rfl hh hl
        exact ⟨u, h1, Post.here R h2⟩
      . cases h
  . cases h
theorem ZK6{t:TypeId}(ht:P.underlying t=some .string){s:List UInt8}(hs:s.length<=9223372036854775807){lo hi:Option AVal}{vlo vhi:Option Value}(hlo:OVR I β lo vlo)(hhi:OVR I β hi vhi){h l:Nat}(h1:Zbp hi s.length s.length=some h)(h2:Zbp lo 0 h=some l) :
  (Instr.sliceAt t (.string ⟨s.toArray⟩) vlo vhi none).run P w=.ok (.string ⟨((s.take h).drop l).toArray⟩) w:=by
 have hsz:Wu ⟨s.toArray⟩=s.length:=by simp[Wu]
 obtain⟨hr,hlh,_,_⟩:=ZkD (P:=P) (w:=w) false (len:=s.length) (cap:=s.length) (d:=s.length) (mx:=none) (vmx:=none) hlo.some' hlo.none' hhi.some' hhi.none' (by simp) (by simp) (XF _) (fun _=>rfl) (m:=s.length) rfl h1 h2
 simp only[Xal,Xj,if_false]at hr
 simp[Instr.sliceAt,Instr.slice,run_underlying ht,hsz,hr]
 apply ByteArray.ext
 apply Xbf
 simp[ByteArray.data_extract,Xaj]
theorem ZEx{s:TypeId}{fields:Array Field}{i:Nat}{f:Field}{k:Nat}(hs:P.underlying s=some (.struct fields))(hf:fields[i]?=some f)(hk:ZbY P f.type=some k)(hk0:k≠0){x r:AVal}{v:Value}(hx:VR I β x v)(h:faddrA f.offset x=some r) :
  ∃ u,(Instr.fieldAt s v i).run P w=.ok u w/\VR I β r u:=by
 obtain⟨ie,hie,hke⟩:∃ ie,P.info? f.type=some ie/\ie.size=k:=by
  unfold ZbY at hk
  cases hi:P.info? f.type with
  |none=>simp[hi]at hk
  |some i=>exact⟨i,rfl,by simpa[hi]using hk⟩
 have run:∀ b o,(Instr.fieldAt s (.pointer (some ⟨b,o,none⟩)) i).run P w=.ok (.pointer (some ⟨b,o+f.offset,none⟩)) w:=by
  intro b o
  simp[Instr.fieldAt,run_underlying hs,hf,Instr.sureAddr,fieldPlace,sizeOf,typeInfo,hie,hke,hk0,Addr.add_mid]
 unfold faddrA at h
 split at h
 ·injection h with h;subst h
  simp only[VR]at hx ⊢
  obtain⟨b,k',c,h1,rfl⟩:=hx
  exact⟨_,run b _,b,k',c,h1,rfl⟩
 ·injection h with h;subst h
  simp only[VR]at hx ⊢
  obtain⟨b,k',c,h1,rfl⟩:=hx
  exact⟨_,run b _,b,k',c,h1,by rw[WC]⟩
 ·injection h with h;subst h
  simp only[VR]at hx ⊢
  obtain⟨b,off,rfl,h1,h2⟩:=hx
  exact⟨_,run b _,b,off,by rw[WC],h1,h2⟩
 ·cases h
theorem ZAp{t:TypeId}{k:Option Nat}(hk:Zge P t=some k){cs:List AVal}{us:Array Value}(hv:VRs I β cs us.toList){o:Nat}{x:AVal}(hp:partA k cs o=some x):∃ u,(part t us o).run P w=.ok u w/\VR I β x u:=by
 unfold Zge at hk
 have hl:=Za1 hv
 have many:∀ (d:TypeDesc) (i:TypeInfo),P.underlying t=some d->d.isRow=true->P.info? t=some i->k=some i.size->∃ u,(part t us o).run P w=.ok u w/\VR I β x u:=by
  intro d i hu hd hi e
  subst e
  simp only[partA]at hp
  split at hp
  ·rename_i hle
   injection hp with hp
   subst hp
   have hagg:(isAgg t).run P w=.ok true w:=by
    unfold isAgg
    rw[Sem.run_bind,run_underlying hu w]
    cases d<;>simp_all
   refine⟨.agg (us.extract o (o+i.size)),by simp[part,hagg,sizeOf,typeInfo,hi],?_⟩
   simp only[VR]
   refine⟨_,rfl,?_⟩
   have:=ZfK (ZfP hv o) i.size
   have e:(us.extract o (o+i.size)).toList=(us.toList.drop o).take i.size:=by
    rw[Array.toList_extract,List.extract_eq_take_drop,Nat.add_sub_cancel_left]
   rw[e];exact this
  ·cases hp
 have one:∀ (d:TypeDesc),P.underlying t=some d->d.isRow=false->k=none->∃ u,(part t us o).run P w=.ok u w/\VR I β x u:=by
  intro d hu hd e
  subst e
  simp only[partA]at hp
  obtain⟨u,h1,h2⟩:=ZcO hv hp
  refine⟨u,?_,h2⟩
  have hagg:(isAgg t).run P w=.ok false w:=by
   unfold isAgg
   rw[Sem.run_bind,run_underlying hu w]
   cases d<;>simp_all[TypeDesc.isRow]
  have h1':us[o]?=some u:=by simpa using h1
  simp[part,hagg,h1']
 split at hk
 ·rename_i hu hi;injection hk with hk;exact many _ _ hu rfl hi hk.symm
 ·rename_i hu hi;injection hk with hk;exact many _ _ hu rfl hi hk.symm
 ·rename_i d i hu hi hn1 hn2
  split at hk
  ·injection hk with hk
   refine one d hn1 ?_ hk.symm
   cases d<;>simp_all[TypeDesc.isRow]
  ·cases hk
 ·cases hk
theorem ZOG{t e:TypeId}{k:Nat}(ht:P.underlying t=some (.slice e))(hk:ZbY P e=some k)(R:Rel base w0 I0 I β σ w){x i r:AVal}{v vi:Value}(hx:VR I β x v)(hi:VR I β i vi){c:Cls}(h:Zb9 σ k x i=some (r,σ',c)) :
  ∃ u,(Instr.indexAt t v vi).run P w=.ok u w/\VR I β r u/\σ'=σ:=by
 obtain⟨ie,hie,hke⟩:∃ ie,P.info? e=some ie/\ie.size=k:=by
  unfold ZbY at hk
  cases hi:P.info? e with
  |none=>simp[hi]at hk
  |some i=>exact⟨i,rfl,by simpa[hi]using hk⟩
 have run:∀ {b o len cap:Nat} {kk:IntKind} {i:Int},0<=i->i.toNat<len->(Instr.indexAt t (.slice (some ⟨b,o,none⟩) len cap) (.int kk i)).run P w=.ok (.pointer (some ⟨b,o+i.toNat*k,none⟩)) w:=by
  intro b o len cap kk i h0 h1
  simp[Instr.indexAt,asIntOf,run_underlying ht,h0,show i<(len:Int)by omega,sizeOf,typeInfo,hie,hke,Addr.add_mid]
 unfold Zb9 at h
 split at h
 case h_2=>cases h
 rename_i kk i
 simp only[VR]at hi
 subst hi
 split at h
 case isFalse=>cases h
 rename_i h0
 split at h
 ·rename_i b xs
  split at h
  ·rename_i y hy
   split at h
   ·rename_i hyk
    simp only[Xb,Xd]at h
    obtain⟨rfl,rfl,rfl⟩:=h
    have hlt:=(Xl.1 hy).1
    simp only[VR]at hx
    obtain⟨A,cap,rfl,h2,h3,h4,h5,h6⟩:=hx
    rcases h5 with rfl |⟨b',off,k',rfl,hk',hL⟩
    ·simp at hy
    obtain⟨q1,q2⟩:=Zno hL hy
    have : k'=k:=by omega
    subst this
    refine⟨_,run h0 hlt,?_,rfl⟩
    simp only[VR]
    exact⟨b',_,rfl,q2,Zdd.1 h6 y (XC hy)⟩
   ·cases h
  ·cases h
 ·rename_i t' g p n
  split at h
  case isFalse=>cases h
  rename_i hlt
  have fin:∀ bi,β t' g=some bi->bi.k=k->r=.eref t' g (p+i.toNat) 0->∃ u,(Instr.indexAt t v (.int kk i)).run P w=.ok u w/\VR I β r u:=by
   intro bi hb hbk hr
   subst hr
   simp only[VR]at hx
   obtain⟨bi',f1,f2,f3,f4⟩:=hx
   rw[hb]at f1;injection f1 with f1;subst f1
   rcases f4 with⟨b,hbb,rfl⟩ |⟨_,hc,_⟩ |⟨_,_,hn,_⟩
   ·refine⟨_,run h0 hlt,?_⟩
    simp only[VR]
    refine⟨b,bi.k,bi.cap,?_,by rw[hbk,Wc,Wh]⟩
    rw[hb]
    cases bi
    simp_all
   ·omega
   ·omega
  split at h
  ·rename_i g' k' xs hs
   split at h
   ·rename_i hc
    simp only[Xb,Xd]at h
    obtain⟨hr,rfl,rfl⟩:=h
    obtain⟨bi,e1,e2,_⟩:=R.blk _ _ hs
    rw[hc.1]at e1
    obtain⟨u,hu1,hu2⟩:=fin bi e1 (by rw[e2];exact hc.2) hr.symm
    exact⟨u,hu1,hu2,rfl⟩
   ·cases h
  ·rename_i g' k' xs hs
   split at h
   ·rename_i hc
    simp only[Xb,Xd]at h
    obtain⟨hr,rfl,rfl⟩:=h
    obtain⟨bi,e1,e2,_⟩:=R.blk _ _ hs
    rw[hc.1]at e1
    obtain⟨u,hu1,hu2⟩:=fin bi e1 (by rw[e2];exact hc.2) hr.symm
    exact⟨u,hu1,hu2,rfl⟩
   ·cases h
  ·rename_i g' k' xs hs
   split at h
   ·rename_i hc
    simp only[Xb,Xd]at h
    obtain⟨hr,rfl,rfl⟩:=h
    obtain⟨bi,e1,e2,_⟩:=R.blk _ _ hs
    rw[hc.1]at e1
    obtain⟨u,hu1,hu2⟩:=fin bi e1 (by rw[e2];exact hc.2) hr.symm
    exact⟨u,hu1,hu2,rfl⟩
   ·cases h
  ·cases h
 ·cases h
theorem ZB9{t e:TypeId}{n k:Nat}(ht:P.underlying t=some (.array n e))(hk:ZbY P e=some k){x r:AVal}{v:Value}(hx:VR I β x v){kk:IntKind}{i:Int}(h0:0<=i)(h1:i<n)(h:faddrA (i.toNat*k) x=some r) :
  ∃ u,(Instr.indexAt t v (.int kk i)).run P w=.ok u w/\VR I β r u:=by
 obtain⟨ie,hie,hke⟩:∃ ie,P.info? e=some ie/\ie.size=k:=by
  unfold ZbY at hk
  cases hi:P.info? e with
  |none=>simp[hi]at hk
  |some i=>exact⟨i,rfl,by simpa[hi]using hk⟩
 have run:∀ b o,(Instr.indexAt t (.pointer (some ⟨b,o,none⟩)) (.int kk i)).run P w=.ok (.pointer (some ⟨b,o+i.toNat*k,none⟩)) w:=by
  intro b o
  simp[Instr.indexAt,asIntOf,run_underlying ht,Instr.sureAddr,h0,h1,sizeOf,typeInfo,hie,hke,Addr.add_mid]
 unfold faddrA at h
 split at h
 ·injection h with h;subst h
  simp only[VR]at hx ⊢
  obtain⟨b,k',c,h1,rfl⟩:=hx
  exact⟨_,run b _,b,k',c,h1,rfl⟩
 ·injection h with h;subst h
  simp only[VR]at hx ⊢
  obtain⟨b,k',c,h1,rfl⟩:=hx
  exact⟨_,run b _,b,k',c,h1,by rw[WC]⟩
 ·injection h with h;subst h
  simp only[VR]at hx ⊢
  obtain⟨b,off,rfl,h1,h2⟩:=hx
  exact⟨_,run b _,b,off,by rw[WC],h1,h2⟩
 ·cases h
end
end
section
open Go.RowKit
section
variable {P:Program}{base:Nat->Prop}{w0 w w':World}{I0 I I':Imm}{β β':Bmap}{σ σ':Za}{tm:Tms}
theorem ZuX(off:Nat):∀ (l:List Value) (j0:Nat) (cells:Array Value),off+j0+l.length<=cells.size ->
  ((l.zipIdx j0).foldl (fun cs p=>cs.setIfInBounds (off+p.2) p.1) cells).toList=cells.toList.take (off+j0)++l++cells.toList.drop (off+j0+l.length)
 | [],j0,cells,_=>by simp
 |v::l,j0,cells,h=>by
  simp only[Xp]at h
  rw[List.zipIdx_cons,List.foldl_cons,ZuX off l (j0+1) _ (by simp;omega)]
  apply Wp
  intro j
  simp only[Array.toList_setIfInBounds,WL,XS,Wq,Xi,X0,Xp,XaE,XM,Xx,List.getElem?_cons]
  have e1:min (off+(j0+1)) cells.size=off+j0+1:=by omega
  have e2:min (off+j0) cells.size=off+j0:=by omega
  rw[e1,e2]
  by_cases c1:j<off+j0
  ·simp only[show j<off+(j0+1)by omega,show j<off+j0+1 by omega,show j<off+j0+1+l.length by omega,show j<off+j0+(l.length+1)by omega,c1,if_true,show off+j0≠j by omega,if_false]
  ·by_cases c2:j=off+j0
   ·subst c2
    simp only[show off+j0<off+(j0+1)by omega,show off+j0<off+j0+1 by omega,show off+j0<off+j0+1+l.length by omega,show off+j0<off+j0+(l.length+1)by omega,if_true,XaF,if_false,Xaa,show off+j0<cells.size by omega]
   ·by_cases c3:j<off+j0+1+l.length
    ·simp only[c3,show j<off+j0+(l.length+1)by omega,show¬j<off+j0+1 by omega,c1,if_true,if_false,show¬j-(off+j0)=0 by omega]
     first |done |(congr 1;omega) |rfl
    ·simp only[c3,show¬j<off+j0+(l.length+1)by omega,if_false]
     rw[show off+(j0+1)+l.length+(j-(off+j0+1+l.length))=j by omega,show off+j0+(l.length+1)+(j-(off+j0+(l.length+1)))=j by omega,if_neg (by omega)]
theorem ZyY(off:Nat)(v:Value)(cells:Array Value)(h:off+v.cells.size<=cells.size) :
  (v.cells.zipIdx.foldl (fun cs (c,j)=>cs.setIfInBounds (off+j) c) cells).toList=cells.toList.take off++v.cells.toList++cells.toList.drop (off+v.cells.toList.length):=by
 have:=ZuX off v.cells.toList 0 cells (by simpa using h)
 rw[<-Array.foldl_toList]
 simpa using this
def Zfw(I:Imm)(β:Bmap)(place:Nat->Option (Nat×Nat)):List (Nat×Nat×AVal)->List (Nat×Value)->Prop
 | [],vs=>vs=[]
 |(off,k,x)::r,vs=>∃ i v vs',vs=(i,v)::vs'/\place i=some (off,k)/\VR I β x v/\Zfw I β place r vs'
theorem Zpw(place:Nat->Option (Nat×Nat)):∀ {ps:List (Nat×Nat×AVal)} {vs:List (Nat×Value)} {zs cs:List AVal} {zc:Array Value},Zfw I β place ps vs->VRs I β zs zc.toList->Zab zs ps=some cs ->
  ∃ cells,Instr.fill place zc vs=some cells/\VRs I β cs cells.toList
 | [],vs,zs,cs,zc,hp,hz,h=>by
  simp only[Zfw]at hp;subst hp
  simp only[Zab,Xb]at h;subst h
  exact⟨zc,rfl,hz⟩
 |(off,k,x)::ps,vs,zs,cs,zc,hp,hz,h=>by
  simp only[Zfw]at hp
  obtain⟨i,v,vs',rfl,h1,h2,h3⟩:=hp
  simp only[Zab]at h
  split at h
  ·rename_i hc
   have hnt:=ZQM hc.2.2
   have hl:=ZhM hnt h2
   have hzl:=Za1 hz
   simp only[XM]at hzl
   have hle:off+v.cells.size<=zc.size:=by omega
   have hset:VRs I β (setAt zs off x.cells) (v.cells.zipIdx.foldl (fun cs (c,j)=>cs.setIfInBounds (off+j) c) zc).toList:=by
    rw[ZyY off v zc hle]
    exact Zke hz (ZeH hnt h2) off
   obtain⟨cells,g1,g2⟩:=Zpw place h3 hset h
   refine⟨cells,?_,g2⟩
   simp only[Instr.fill,h1]
   rw[if_neg (by simp;omega)]
   exact g1
  ·cases h
theorem ZAh:∀ (fs:List Field),fs.all (fun f=>(P.info? f.type).isSome)=true->∃ places,fs.mapM (fun f=>(P.info? f.type).map fun i=>(f.offset,i.size))=some places/\∀ (j:Nat) (f:Field) (k:Nat),fs[j]?=some f->ZbY P f.type=some k->places[j]?=some (f.offset,k)
 | [],_=>⟨[],by simp,by simp⟩
 |f::fs,h=>by
  simp only[XO,Xk]at h
  obtain⟨places,h1,h2⟩:=ZAh fs h.2
  obtain⟨i,hi⟩:=Option.isSome_iff_exists.1 h.1
  refine⟨(f.offset,i.size)::places,by simp[List.mapM_cons,hi,h1],?_⟩
  intro j g k hj hk
  cases j with
  |zero =>
   simp only[XJ,Xb]at hj;subst hj
   simp only[ZbY,hi,X8,Xb]at hk;subst hk
   rfl
  |succ j=>simp only[XT]at hj ⊢;exact h2 j g k hj hk
theorem Zz5{a:Act}(T:TR I β tm a.tmps){fields:Array Field}{place:Nat->Option (Nat×Nat)}(hpl:∀ j f k,fields[j]?=some f->ZbY P f.type=some k->place j=some (f.offset,k)) :
  ∀ {parts:List (Nat×Operand)} {ps:List (Nat×Nat×Opd)},ZjF P fields parts=some ps->Zfw I β place (ps.map fun p=>(p.1,p.2.1,p.2.2.ev tm)) (parts.map fun(i,x)=>(i,a.eval x))
 | [],ps,h=>by simp only[ZjF,Xb]at h;subst h;simp[Zfw]
 |(i,x)::r,ps,h=>by
  simp only[ZjF]at h
  split at h
  ·rename_i f hf
   split at h
   ·rename_i k y ps' hk hy hps
    injection h with h;subst h
    simp only[Xm,Zfw]
    exact⟨i,a.eval x,_,rfl,hpl i f k hf hk,ZaB T hy,Zz5 T hpl hps⟩
   ·cases h
  ·cases h
theorem Zv5{a:Act}(T:TR I β tm a.tmps){k:Nat} :
  ∀ {parts:List (Nat×Operand)} {ps:List (Nat×Nat×Opd)},ZkG k parts=some ps->Zfw I β (fun i=>some (i*k,k)) (ps.map fun p=>(p.1,p.2.1,p.2.2.ev tm)) (parts.map fun(i,x)=>(i,a.eval x))
 | [],ps,h=>by simp only[ZkG,Xb]at h;subst h;simp[Zfw]
 |(i,x)::r,ps,h=>by
  simp only[ZkG]at h
  split at h
  ·rename_i y ps' hy hps
   injection h with h;subst h
   simp only[Xm,Zfw]
   exact⟨i,a.eval x,_,rfl,rfl,ZaB T hy,Zv5 T hps⟩
  ·cases h
theorem ZV7{a:Act}(T:TR I β tm a.tmps){t:TypeId}{parts:Array (Nat×Operand)}{an:Ann}{own:Nat}{zs:List AVal}{ps:List (Nat×Nat×Opd)}(hc:Zae P an own (.build t parts)=some (.build zs ps)){cs:List AVal}(h:Zab zs (ps.map fun p=>(p.1,p.2.1,p.2.2.ev tm))=some cs) :
  ∃ u,(Instr.build t (parts.map fun(i,x)=>(i,a.eval x))).run P w=.ok u w/\VR I β (.agg cs) u:=by
 simp only[Zae]at hc
 have zero:∀ z,ZdU P t=some z->∃ i v,P.info? t=some i/\i.zero=some v/\VRs I β z.cells v.cells.toList:=by
  intro z hz
  unfold ZdU at hz
  split at hz
  ·rename_i i hi
   split at hz
   ·rename_i v hv
    exact⟨i,v,hi,hv,ZeH (Zf8 hz) (ZfV hz).1⟩
   ·cases hz
  ·cases hz
 split at hc
 ·rename_i fields z hu hz
  split at hc
  ·rename_i hall
   simp only[Xq]at hc
   obtain⟨ps',hps,he⟩:=hc
   injection he with e1 e2;subst e1 e2
   obtain⟨i,v,hi,hv,hzv⟩:=zero z hz
   obtain⟨places,hp1,hp2⟩:=ZAh (P:=P) fields.toList hall
   obtain⟨cells,g1,g2⟩:=Zpw (places.toArray[·]?) (Zz5 (a:=a) T (place:=(places.toArray[·]?)) (fun j f k hj hk=>by simpa using hp2 j f k (by simpa using hj) hk) hps) hzv h
   refine⟨.agg cells,run_build w t _ cells ?_,by simp only[VR];exact⟨cells,rfl,g2⟩⟩
   simp only[Program.built,hi,hu,hv,hp1]
   simpa using g1
  ·cases hc
 ·rename_i n e z hu hz
  split at hc
  ·rename_i k hk
   simp only[Xq]at hc
   obtain⟨ps',hps,he⟩:=hc
   injection he with e1 e2;subst e1 e2
   obtain⟨i,v,hi,hv,hzv⟩:=zero z hz
   obtain⟨ie,hie,hke⟩:∃ ie,P.info? e=some ie/\ie.size=k:=by
    unfold ZbY at hk
    cases hi:P.info? e with
    |none=>simp[hi]at hk
    |some i=>exact⟨i,rfl,by simpa[hi]using hk⟩
   obtain⟨cells,g1,g2⟩:=Zpw (fun i=>some (i*k,k)) (Zv5 (a:=a) T hps) hzv h
   refine⟨.agg cells,run_build w t _ cells ?_,by simp only[VR];exact⟨cells,rfl,g2⟩⟩
   simp only[Program.built,hi,hu,hv,hie,hke]
   simpa using g1
  ·cases hc
 ·cases hc
theorem Zxc{z:AVal}{k:Nat}(hz:z.cells.length=k)(hk:0<k):∀ (n j:Nat),j<n*k->((Xz n z).flatMap AVal.cells)[j]?=z.cells[j%k]?
 |0,j,h=>by simp at h
 |n+1,j,h=>by
  rw[List.replicate_succ,XK,WL]
  split
  ·rename_i hj;rw[Nat.mod_eq_of_lt (by omega)]
  ·rename_i hj
   rw[Wh]at h
   rw[Zxc hz hk n (j-z.cells.length) (by omega),hz]
   congr 1
   rw[<-Nat.mod_eq_sub_mod (by omega)]
theorem Zoq{z:AVal}{v:Value}{k:Nat}(hnt:z≠.top)(hz:VR I β z v)(hl:z.cells.length=k)(hk:0<k)(n:Nat):VRs I β ((Xz n z).flatMap AVal.cells) ((WS (n*k)).map (v.cells[· % v.cells.size]!)).toList:=by
 have hv:=ZeH hnt hz
 have hvl:=ZhM hnt hz
 have hfl:((Xz n z).flatMap AVal.cells).length=n*k:=by rw[Ze0 (k:=k) (by intro x hx;rw[Wb hx];exact hl)];simp
 refine Zd5 (by rw[hfl];simp) (fun j x u hx hu=>?_)
 have hj:j<n*k:=by have:=(Xl.1 hx).1;omega
 rw[Zxc hl hk n j hj]at hx
 obtain⟨u',h1,h2⟩:=ZcO hv hx
 have hjk:j%k<v.cells.size:=by rw[hvl,hl];exact Nat.mod_lt _ hk
 simp only[Array.toList_map,Array.toList_range,WZ,List.getElem?_range hj,X8,Xb]at hu
 rw[hvl,hl]at hu
 have : v.cells[j%k]! = u':=by
  rw[getElem!_pos v.cells (j%k) hjk]
  have h1':v.cells[j%k]?=some u':=by simpa using h1
  rw[Array.getElem?_eq_getElem hjk]at h1'
  injection h1'
 rw[this]at hu
 subst hu
 exact h2
theorem Zqb{k:Nat}:∀ {is:List Nat} {ys:List AVal} {vs:List Value} {xs:List AVal} {cells:Array Value},is.length=ys.length->(∀ y∈ys,y≠.top)->VRs I β ys vs->(∀ y∈ys,y.cells.length=k)->(∀ i∈is,i<xs.length)->(∀ x∈xs,x.cells.length=k)->VRs I β (xs.flatMap AVal.cells) cells.toList ->
  ∃ cells',Instr.fill (fun i=>some (i*k,k)) cells (is.zip vs)=some cells'/\VRs I β (((is.zip ys).foldl (fun l p=>l.set p.1 p.2) xs).flatMap AVal.cells) cells'.toList/\(∀ x∈(is.zip ys).foldl (fun l p=>l.set p.1 p.2) xs,x.cells.length=k)/\((is.zip ys).foldl (fun l p=>l.set p.1 p.2) xs).length=xs.length/\cells'.size=cells.size
 | [],ys,vs,xs,cells,hl,_,hv,hk,hi,hx,hc=>by
  have : ys=[]:=XG (by simpa using hl.symm)
  subst this
  exact⟨cells,by simp[Instr.fill],by simpa using hc,by simpa using hx,rfl,rfl⟩
 |i::is,[],vs,xs,cells,hl,_,hv,hk,hi,hx,hc=>by simp at hl
 |i::is,y::ys,vs,xs,cells,hl,hnt,hv,hk,hi,hx,hc=>by
  simp only[VRs]at hv
  obtain⟨v,vs',rfl,hv1,hv2⟩:=hv
  have hil:i<xs.length:=hi i (by simp)
  have hyk:=hk y (by simp)
  have hcl:=ZhM (hnt y (by simp)) hv1
  have hfl:=Ze0 hx
  have hcs:=Za1 hc
  simp only[XM]at hcs
  have hmul:=ZpD (k:=k) hil
  have hset:VRs I β ((xs.set i y).flatMap AVal.cells) (v.cells.zipIdx.foldl (fun cs (c,j)=>cs.setIfInBounds (i*k+j) c) cells).toList:=by
   rw[ZyY (i*k) v cells (by omega)]
   have hself:y.cells=setAt (xs[i]).cells 0 y.cells:=by
    unfold setAt
    rw[Xax,XA,XB,Wz (by rw[hyk,hx _ (Xag hil)];exact XF _),Xo]
   rw[Zll hx (List.getElem?_eq_getElem hil) hself (by omega),Wc]
   exact Zke hc (ZeH (hnt y (by simp)) hv1) (i*k)
  have hx':∀ x∈xs.set i y,x.cells.length=k:=by
   intro x hm
   rcases Wt hm with hm |rfl
   ·exact hx x hm
   ·exact hyk
  obtain⟨cells',g1,g2,g3,g4,g5⟩:=Zqb (k:=k) (is:=is) (ys:=ys) (vs:=vs') (xs:=xs.set i y) (cells:=v.cells.zipIdx.foldl (fun cs (c,j)=>cs.setIfInBounds (i*k+j) c) cells) (by simpa using hl) (fun z hz=>hnt z (by simp[hz])) hv2 (fun z hz=>hk z (by simp[hz])) (fun j hj=>by simpa using hi j (by simp[hj])) hx' hset
  refine⟨cells',?_,by simpa using g2,by simpa using g3,by simpa using g4,?_⟩
  ·simp only[List.zip_cons_cons,Instr.fill]
   rw[if_neg (by simp;omega)]
   exact g1
  ·rw[g5]
   have h1:=Za1 hset
   have h2:=Ze0 hx'
   rw[XaE]at h2
   rw[XM]at h1
   exact h1.symm.trans (h2.trans (hfl.symm.trans hcs))
end
end
section
open Go.RowKit
section
variable {P:Program}{base:Nat->Prop}{w0 w w':World}{I0 I I':Imm}{β β':Bmap}{σ σ':Za}{tm:Tms}
theorem Zty{a:Act}(T:TR I β tm a.tmps):∀ {parts:List (Nat×Operand)} {ps:List (Nat×Opd)},Zh3 parts=some ps ->
  (parts.map fun(i,x)=>(i,a.eval x))=(ps.map (·.1)).zip (parts.map fun p=>a.eval p.2)/\VRs I β (ps.map fun p=>p.2.ev tm) (parts.map fun p=>a.eval p.2)/\ps.length=parts.length
 | [],ps,h=>by simp only[Zh3,Xb]at h;subst h;exact⟨rfl,by simp[VRs],rfl⟩
 |(i,x)::r,ps,h=>by
  simp only[Zh3]at h
  split at h
  ·rename_i y ps' hy hps
   injection h with h;subst h
   obtain⟨h1,h2,h3⟩:=Zty T hps
   refine⟨by simp[h1],?_,by simp[h3]⟩
   simp only[Xm,VRs]
   exact⟨_,_,rfl,ZaB T hy,h2⟩
  ·cases h
theorem Zj1{t:TypeId}{k bytes:Nat}{z:AVal}(h:Zfu P t=some (k,bytes,z)):∃ e i v,P.underlying t=some (.slice e)/\P.info? e=some i/\i.size=k/\i.bytes=bytes/\i.zero=some v/\ZhR v=some z/\0<k/\0<bytes/\z.cells.length=k:=by
 unfold Zfu at h
 split at h
 ·rename_i e hu
  split at h
  ·rename_i i z' hi hz
   split at h
   ·rename_i hc
    simp only[Xb,Xd]at h
    obtain⟨rfl,rfl,rfl⟩:=h
    unfold ZdU at hz
    rw[hi]at hz
    simp only at hz
    split at hz
    ·rename_i v hv
     exact⟨e,i,v,hu,hi,rfl,rfl,hv,hz,hc.1,hc.2.1,hc.2.2⟩
    ·cases hz
   ·cases h
  ·cases h
 ·cases h
theorem ZHj{k:Nat}{xs:List AVal}{us:Array Value}(hk:∀ x∈xs,x.cells.length=k)(hv:VRs I β (xs.flatMap AVal.cells) us.toList)(hI:I.le (I.add w.heap.size us)):LR (I.add w.heap.size us) β k xs w.heap.size 0 :=
 Zk2 hk (VRs.mono hI (Bmap.le.refl β) _ _ hv) (fun j u hu=>by simp only[Imm.add,XB,if_true];simpa using hu)
theorem ZHg{a:Act}(T:TR I β tm a.tmps)(R:Rel base w0 I0 I β σ w)(hb:KLt base w0){t:TypeId}{n:Nat}{parts:Array (Nat×Operand)}{k bytes:Nat}{z:AVal}{own:Bool}{ps:List (Nat×Opd)}(he:Zfu P t=some (k,bytes,z))(hn:n*k<=16777216)(hps:Zh3 parts.toList=some ps)
  {sq:Nat} (hs:own=true->σ[sq]?=some .free) {O:ZV} {pure':Nat->Bool} {r:AVal} {c:Cls} (h:execI O pure' tm σ sq (.bslice own k n z ps)=some (r,σ',c)) :
  ∃ u w',(Instr.buildSlice t n (parts.map fun(i,x)=>(i,a.eval x))).run P w=.ok u w'/\Post base w0 I0 I β r σ' u w':=by
 obtain⟨e,i,v,hu,hi,hik,hib,hv,hz,hk,hby,hzl⟩:=Zj1 he
 obtain⟨hz1,hz2⟩:=ZfV (I:=I) (β:=β) hz
 simp only[execI]at h
 split at h
 ·cases h
 rename_i ys ts hview
 split at h
 case isFalse=>cases h
 rename_i hc
 simp only[Xk,XH,beq_iff_eq,decide_eq_true_eq]at hc
 obtain⟨⟨hy,hidx⟩,_⟩:=hc
 obtain⟨c1,c2,c3⟩:=Zty (a:=a) T hps
 obtain⟨I1,hI1,R1,hal,_,hfz,_,hoth,_⟩:=Zix ts R
 obtain⟨v1,v2⟩:=ZqU R1 (hfz (Zlz hview)) (by rw[hal.viewAs];exact hview) (c2.mono hI1 (Bmap.le.refl β) _ _)
 have hyl:(ps.map (·.1)).length=ys.length:=by rw[Za1 v1];simp[c3]
 obtain⟨cells',g1,g2,g3,g4,g5⟩:=Zqb (I:=I1) (β:=β) (k:=k) (is:=ps.map (·.1)) (ys:=ys) (vs:=parts.toList.map fun p=>a.eval p.2) (xs:=Xz n z) (cells:=(WS (n*k)).map (v.cells[· % v.cells.size]!)) hyl (fun y hy=>ZWS (v2 y hy)) v1 hy
  (by intro j hj;simp only[X2]at hj;obtain⟨p,hp,rfl⟩:=hj;simpa using hidx p hp) (by intro x hx;rw[Wb hx];exact hzl) (Zoq (Zf8 hz) (hz1.mono hI1 (Bmap.le.refl β) _ _) hzl hk n)
 have hrun:(Instr.buildSlice t n (parts.map fun(i,x)=>(i,a.eval x))).run P w=.ok (.slice (some ⟨w.heap.size,0,none⟩) n n) { w with heap:=w.heap.push (.cells cells' e) }:=by
  have hpl:(parts.map fun(i,x)=>(i,a.eval x)).toList=(ps.map (·.1)).zip (parts.toList.map fun p=>a.eval p.2):=by rw[<-c1];simp
  have hle:¬16777216<n*i.size:=by rw[hik];omega
  have hle':¬2^24<n*k:=by omega
  by_cases hn0:n*k=0
  ·have hr0:WS 0=#[]:=rfl
   have g1':Instr.fill (fun i=>some (i*k,k)) #[] ((ps.map (·.1)).zip (parts.toList.map fun p=>a.eval p.2))=some cells':=by
    rw[hn0,hr0]at g1;simpa using g1
   simp only[Instr.buildSlice,Sem.run_bind,run_underlying hu,Result.andThen_ok,sizeOf,typeInfo,run_program,hi,Sem.run_pure,Sem.run_ite,hik,hn0,hpl]
   simp[hr0,g1',newRow]
  ·simp only[Instr.buildSlice,Sem.run_bind,run_underlying hu,Result.andThen_ok,sizeOf,typeInfo,run_program,hi,Sem.run_pure,Sem.run_ite,hik,hn0,hpl,zeroValue,hv,if_false]
   simp[show¬16777216<n*k by omega,g1,newRow]
 have htree:Zao (((ps.map (·.1)).zip ys).foldl (fun l p=>l.set p.1 p.2) (Xz n z))=true:=by
  have aux:∀ (l:List (Nat×AVal)) (xs:List AVal),(∀ p∈l,ZaX p.2.cells=true)->Zao xs=true->Zao (l.foldl (fun l p=>l.set p.1 p.2) xs)=true:=by
   intro l
   induction l with
   |nil=>intro xs _ h;exact h
   |cons p l ih =>
    intro xs hp hx
    refine ih _ (fun q hq=>hp q (by simp[hq])) ?_
    rw[Zdd]at hx ⊢
    intro x hm
    rcases Wt hm with hm |rfl
    ·exact hx x hm
    ·exact hp p (by simp)
  refine aux _ _ (fun p hp=>v2 p.2 (List.of_mem_zip hp).2) ?_
  rw[Zdd];intro x hx;rw[Wb hx];exact hz2
 have hcs:cells'.size=n*k:=by rw[g5];simp
 have hn63:n<=9223372036854775807:=by
  have : n*1<=n*k:=XaX n hk
  omega
 generalize ((ps.map (·.1)).zip ys).foldl (fun l p=>l.set p.1 p.2) (Xz n z)=xs at *
 have hxl:xs.length=n:=by rw[g4];simp
 split at h
 ·rename_i ho
  simp only[Xb,Xd]at h
  obtain⟨rfl,rfl,rfl⟩:=h
  have hs1:(Zr σ ts)[sq]?=some .free:=by
   refine hoth sq _ ?_ (hs ho)
   intro hm
   obtain⟨g,k',xs',hx |hx⟩:=Zlz hview sq hm<;>(rw[hs ho]at hx;cases hx)
  obtain⟨R',hle⟩:=R1.newOwn hb hs1 cells' e (.row 0 k xs) k n (XE ⟨xs,rfl,hk,hn63,by omega,htree,g3,hcs,by rw[XI (by simp[hcs,hxl])];exact g2⟩)
  refine⟨_,_,hrun,Post.mk hI1 hle R' ?_⟩
  rw[Zcl]
  exact⟨_,Bmap.put_same β sq 0 _,XF _,hn63,Xr ⟨_,rfl,rfl⟩⟩
 ·simp only[Xb,Xd]at h
  obtain⟨rfl,rfl,rfl⟩:=h
  obtain⟨R',hI⟩:=R1.newImm hb cells' e (0,0)
  refine⟨_,_,hrun,Post.mk (hI1.trans hI) (Bmap.le.refl β) R' ?_⟩
  simp only[VR]
  refine⟨some ⟨w.heap.size,0,none⟩,n,by rw[hxl],by omega,hn63,fun _=>hxl.symm,?_,htree⟩
  by_cases hx0:xs=[]
  ·exact Xr hx0
  ·exact XE ⟨w.heap.size,0,k,rfl,hk,ZHj g3 g2 hI⟩
theorem ZEw{a:Act}(T:TR I β tm a.tmps)(R:Rel base w0 I0 I β σ w)(hb:KLt base w0){t:TypeId}{n:Nat}{parts:Array (Nat×Operand)}{k bytes:Nat}{z:AVal}{ps:List (Nat×Opd)}(he:Zfu P t=some (k,bytes,z))(hn:n*k<=16777216)(hps:Zh3 parts.toList=some ps)
  {sq:Nat} (hs:σ[sq]?=some .free) {O:ZV} {pure':Nat->Bool} {r:AVal} {c:Cls} (h:execI O pure' tm σ sq (.rslice k n z ps)=some (r,σ',c)) :
  ∃ u w',(Instr.buildSlice t n (parts.map fun(i,x)=>(i,a.eval x))).run P w=.ok u w'/\Post base w0 I0 I β r σ' u w':=by
 obtain⟨e,i,v,hu,hi,hik,hib,hv,hz,hk,hby,hzl⟩:=Zj1 he
 obtain⟨hz1,hz2⟩:=ZfV (I:=I) (β:=β) hz
 simp only[execI]at h
 split at h
 case isFalse=>cases h
 rename_i hc
 simp only[Xk,XH,beq_iff_eq,decide_eq_true_eq]at hc
 obtain⟨⟨⟨hy0,hidx⟩,_⟩,hzok⟩:=hc
 obtain⟨c1,c2,c3⟩:=Zty (a:=a) T hps
 have hzip:(ps.map (·.1)).zip (ps.map fun p=>p.2.ev tm)=ps.map fun p=>(p.1,p.2.ev tm):=by
  rw[List.zip_map']
 have hy:∀ y∈ps.map (fun p=>p.2.ev tm),y.cells.length=k:=by
  intro y hy
  obtain⟨p,hp,rfl⟩:=X2.1 hy
  exact(hy0 p hp).1
 have hyok:∀ y∈ps.map (fun p=>p.2.ev tm),∀ c∈y.cells,ZX c=true:=by
  intro y hy
  obtain⟨p,hp,rfl⟩:=X2.1 hy
  exact(hy0 p hp).2
 have hntop:∀ y∈ps.map (fun p=>p.2.ev tm),y≠.top:=by
  intro y hy e
  have:=hyok y hy
  rw[e]at this
  have:=this .top (by simp[AVal.cells])
  cases this
 obtain⟨cells',g1,g2,g3,g4,g5⟩:=Zqb (I:=I) (β:=β) (k:=k) (is:=ps.map (·.1)) (ys:=ps.map fun p=>p.2.ev tm) (vs:=parts.toList.map fun p=>a.eval p.2) (xs:=Xz n z) (cells:=(WS (n*k)).map (v.cells[· % v.cells.size]!)) (by simp) hntop c2 hy
  (by intro j hj;simp only[X2]at hj;obtain⟨p,hp,rfl⟩:=hj;simpa using hidx p hp) (by intro x hx;rw[Wb hx];exact hzl) (Zoq (Zf8 hz) hz1 hzl hk n)
 have hrun:(Instr.buildSlice t n (parts.map fun(i,x)=>(i,a.eval x))).run P w=.ok (.slice (some ⟨w.heap.size,0,none⟩) n n) { w with heap:=w.heap.push (.cells cells' e) }:=by
  have hpl:(parts.map fun(i,x)=>(i,a.eval x)).toList=(ps.map (·.1)).zip (parts.toList.map fun p=>a.eval p.2):=by rw[<-c1];simp
  have hle:¬16777216<n*i.size:=by rw[hik];omega
  have hle':¬2^24<n*k:=by omega
  by_cases hn0:n*k=0
  ·have hr0:WS 0=#[]:=rfl
   have g1':Instr.fill (fun i=>some (i*k,k)) #[] ((ps.map (·.1)).zip (parts.toList.map fun p=>a.eval p.2))=some cells':=by
    rw[hn0,hr0]at g1;simpa using g1
   simp only[Instr.buildSlice,Sem.run_bind,run_underlying hu,Result.andThen_ok,sizeOf,typeInfo,run_program,hi,Sem.run_pure,Sem.run_ite,hik,hn0,hpl]
   simp[hr0,g1',newRow]
  ·simp only[Instr.buildSlice,Sem.run_bind,run_underlying hu,Result.andThen_ok,sizeOf,typeInfo,run_program,hi,Sem.run_pure,Sem.run_ite,hik,hn0,hpl,zeroValue,hv,if_false]
   simp[show¬16777216<n*k by omega,g1,newRow]
 rw[hzip]at g2 g3 g4
 have hall:∀ x∈(ps.map fun p=>(p.1,p.2.ev tm)).foldl (fun l p=>l.set p.1 p.2) (Xz n z),∀ c∈x.cells,ZX c=true:=by
  have aux:∀ (l:List (Nat×AVal)) (xs:List AVal),(∀ p∈l,∀ c∈p.2.cells,ZX c=true)->(∀ x∈xs,∀ c∈x.cells,ZX c=true)->∀ x∈l.foldl (fun l p=>l.set p.1 p.2) xs,∀ c∈x.cells,ZX c=true:=by
   intro l
   induction l with
   |nil=>intro xs _ h;exact h
   |cons p l ih =>
    intro xs hp hx
    refine ih _ (fun q hq=>hp q (by simp[hq])) ?_
    intro x hm
    rcases Wt hm with hm |rfl
    ·exact hx x hm
    ·exact hp p (by simp)
  refine aux _ _ (fun p hp=>?_) (fun x hx=>by rw[Wb hx];exact hzok)
  obtain⟨q,hq,rfl⟩:=X2.1 hp
  exact(hy0 q hq).2
 have hcs:cells'.size=n*k:=by rw[g5];simp
 have hn63:n<=9223372036854775807:=by
  have : n*1<=n*k:=XaX n hk
  omega
 generalize (ps.map fun p=>(p.1,p.2.ev tm)).foldl (fun l p=>l.set p.1 p.2) (Xz n z)=xs at *
 have hxl:xs.length=n:=by rw[g4];simp
 simp only[Xb,Xd]at h
 obtain⟨rfl,rfl,rfl⟩:=h
 obtain⟨R',hle⟩:=R.newObj hb hs (.cells cells' e) (.rrow 0 k xs) k n (by simp[ZL,Bmap.put_same]) rfl (by simp)
  ⟨_,Bmap.put_same β sq 0 _,rfl,hk,hn63,by simp only[hxl];exact XF _,fun x hx=>⟨g3 x hx,hall x hx⟩,w.heap.size,cells',e,rfl,by simp,hcs,by rw[XI (by simp[hcs,hxl])];exact VRs.mono (Imm.le.refl I) (Bmap.put_le (R.free sq 0 hs)) _ _ g2⟩
 refine⟨_,_,hrun,Post.mk (Imm.le.refl I) hle R' ?_⟩
 rw[Zcl]
 exact⟨_,Bmap.put_same β sq 0 _,XF _,hn63,Xr ⟨_,rfl,rfl⟩⟩
theorem ZLh(R:Rel base w0 I0 I β σ w){t ty:TypeId}{k bytes:Nat}{z:AVal}(he:Zfu P t=some (k,bytes,z)){x r:AVal}{v:Value}(hx:VR I β x v){c:Cls}(h:Zoa σ k z x=some (r,σ',c)) :
  ∃ u w',(Builtin.clear_ #[t] ty #[v]).run P w=.ok u w'/\Post base w0 I0 I β r σ' u w':=by
 obtain⟨e,i,vz,hu,hi,hik,hib,hvz,hz,hk,hby,hzl⟩:=Zj1 he
 obtain⟨hz1,hz2⟩:=ZfV (I:=I) (β:=β) hz
 unfold Zoa at h
 split at h
 case h_2=>cases h
 rename_i t' g lo n
 split at h
 case h_2=>cases h
 rename_i g' k' xs hs
 split at h
 case isFalse=>cases h
 rename_i hc
 obtain⟨rfl,rfl,hle,_⟩:=hc
 simp only[Xb,Xd]at h
 obtain⟨rfl,rfl,rfl⟩:=h
 have ZiD:VR I β (.tup []) (.tuple #[]):=by simp[VR,VRs]
 by_cases hn:n=0
 ·subst hn
  have hsame:σ.set t' (.row g' k' (xs.take lo++Xz 0 z++xs.drop (lo+0)))=σ:=by
   have : xs.take lo++Xz 0 z++xs.drop (lo+0)=xs:=by simp
   rw[this]
   apply Wp
   intro j
   rw[Xx]
   split
   ·rename_i e;subst e
    split
    ·exact hs.symm
    ·rename_i hlt;rw[List.getElem?_eq_none (by omega)]
   ·rfl
  rw[hsame]
  refine⟨.tuple #[],w,?_,Post.here R ZiD⟩
  simp only[VR]at hx
  obtain⟨bi,_,_,_,hv⟩:=hx
  rcases hv with⟨b,_,rfl⟩ |⟨_,_,A,rfl⟩ |⟨_,_,_,A,rfl⟩
  ·simp[Builtin.clear_,run_underlying hu]
  ·cases A<;>simp[Builtin.clear_,run_underlying hu]
  ·cases A<;>simp[Builtin.clear_,run_underlying hu]
 ·obtain⟨bi,e1,e2,e3,e4,e5,e6,e7,e8⟩:=R.blk _ _ hs
  subst e2
  simp only[VR]at hx
  obtain⟨bi',f1,f2,f3,f4⟩:=hx
  rw[e1]at f1
  injection f1 with f1
  subst f1
  have hown:ZL β t' (.row g' bi.k xs)=bi.b:=by simp[ZL,e1]
  rcases e8 with⟨_,hz0⟩ |⟨b,us,ty0,hbb,e8,e9,e10⟩
  ·omega
  have hv0:v=.slice (some ⟨b,lo*bi.k,none⟩) n (bi.cap-lo):=by
   rcases f4 with⟨b',eb,rfl⟩ |⟨_,hz0,_⟩ |⟨_,_,hn0,_⟩
   ·rw[hbb]at eb;injection eb with eb;subst eb;rfl
   ·omega
   ·exact absurd hn0 hn
  subst hv0
  have hrep:=Zoq (I:=I) (β:=β) (Zf8 hz) hz1 hzl hk n
  have hvl:=ZhM (Zf8 hz) hz1
  have hzc:Builtin.zeroCells vz.cells n=(WS (n*bi.k)).map (vz.cells[· % vz.cells.size]!):=by
   unfold Builtin.zeroCells
   rw[hvl,hzl]
  have hlen:((WS (n*bi.k)).map (vz.cells[· % vz.cells.size]!)).toList.length=n*bi.k:=by simp
  have hone:∀ v∈((WS (n*bi.k)).map (vz.cells[· % vz.cells.size]!)).toList,v.oneCell'=true:=Zhi (fun y hy=>by
   obtain⟨q,hq,hy⟩:=Wk.1 hy
   rw[Wb hq]at hy
   exact Zjt (Zdy.1 hz2 y hy)) hrep
  have hmul:(lo+n)*bi.k<=us.size:=by rw[e9];exact Wl _ f2
  have hmul2:(lo+n)*bi.k<=xs.length*bi.k:=Wl _ hle
  rw[Wh]at hmul hmul2
  have hst:=run_storeCells_at (P:=P) b (lo*bi.k) ty0 _ 0 us w e8 (by rw[hlen];omega) hone
  simp only[Wc]at hst
  refine⟨.tuple #[],_,?_,Post.here (R.write hs (b:=b) (by rw[hown,hbb]) (by simp[ZL,e1,hbb]) (us.toList.take (lo*bi.k)++((WS (n*bi.k)).map (vz.cells[· % vz.cells.size]!)).toList++us.toList.drop (lo*bi.k+((WS (n*bi.k)).map (vz.cells[· % vz.cells.size]!)).toList.length)).toArray ?_ rfl) ZiD⟩
  ·obtain⟨m,rfl⟩:∃ m,n=m+1:=⟨n-1,by omega⟩
   simp only[Builtin.clear_,zeroValue,typeInfo,hi,hvz,hzc,run_underlying hu,Sem.run_bind,Sem.run_pure,Result.andThen_ok,List.getElem?_toArray,XJ,run_program]
   rw[hst]
   rfl
  ·have hxl:(xs.take lo++Xz n z++xs.drop (lo+n)).length=xs.length:=by simp;omega
   refine⟨bi,e1,rfl,e3,e4,by rw[hxl];exact e5,?_,?_,XE ⟨b,_,ty0,hbb,setRow_heap w b us _ ty0 (0,0) e8,?_,?_⟩⟩
   ·exact ZhH (ZhH (Zkq e6 lo) (by rw[Zdd];intro x hx;rw[Wb hx];exact hz2)) (ZjT e6 _)
   ·intro q hq
    simp only[Xv]at hq
    rcases hq with(hq |hq) |hq
    ·exact e7 q (WM hq)
    ·rw[Wb hq];exact hzl
    ·exact e7 q (Ww hq)
   ·simp only[Xad,Xi,X0,X9,XM,hlen]
    rw[<-e9];omega
   ·rw[hxl,ZfW,ZfW,<-ZkV e7,<-Zip e7]
    have h1:=ZfK e10 (lo*bi.k)
    have h2:=ZfP e10 ((lo+n)*bi.k)
    have:=ZcE (ZcE h1 hrep) h2
    refine cast ?_ this
    congr 1
    rw[XaM,Xam (by omega),Xaj]
    rw[Wh]
    apply Wp
    intro j
    simp only[WL,XS,Wq,Xi,X0,XM,hlen]
    repeat' split
    all_goals first |rfl |omega |(congr 1;omega) |(exfalso;omega) |skip
    all_goals (first |(symm;rw[X3];simp;omega) |(rw[X3];simp;omega))
theorem ZOq(R:Rel base w0 I0 I β σ w)(hb:KLt base w0){t:TypeId}(ht:P.underlying t=some .string){l:List UInt8}{sq:Nat}(hs:σ[sq]?=some .free) :
  ∃ u w',(Instr.range t (.string ⟨l.toArray⟩)).run P w=.ok u w'/\Post base w0 I0 I β (.ref sq 0) (σ.set sq (.siter l 0)) u w':=by
 obtain⟨R',hle⟩:=R.newObj hb hs (.stringIter ⟨l.toArray⟩ 0) (.siter l 0) 1 1 (by simp[ZL,Bmap.put_same]) rfl (by simp)
  ⟨_,_,_,Bmap.put_same β sq 0 _,by simp⟩
 refine⟨.pointer (some ⟨w.heap.size,0,none⟩),_,?_,Post.mk (Imm.le.refl I) hle R' ?_⟩
 ·simp[Instr.range,run_underlying ht]
 ·simp only[VR]
  exact⟨_,_,_,Bmap.put_same β sq 0 _,rfl⟩
theorem ZOd(R:Rel base w0 I0 I β σ w){t:Nat}{l:List UInt8}{p:Nat}(hs:σ[t]?=some (.siter l p)){v:Value}(hv:VR I β (.ref t 0) v)(ty:TypeId) :
  ∃ u w',(Instr.next v true ty).run P w=.ok u w'/\(if p<l.length then Post base w0 I0 I β (.tup [.bool true,.int .i64 p,.int .i32 (Zf2 l p).1]) (σ.set t (.siter l (p+(Zf2 l p).2))) u w' else Post base w0 I0 I β (.tup [.bool false]) σ u w'):=by
 simp only[VR]at hv
 obtain⟨b,k,c,hb,rfl⟩:=hv
 obtain⟨b',k',c',e1,e2⟩:=R.blk _ _ hs
 rw[hb]at e1
 simp only[Xb,BI.mk.injEq]at e1
 obtain⟨rfl,rfl,rfl⟩:=e1
 have hg:(getObj b).run P w=.ok (.stringIter ⟨l.toArray⟩ p) w:=by simp[getObj,Sem.run,e2]
 have hsz:(ByteArray.mk l.toArray).size=l.length:=by simp[Wu]
 have hlt:b<w.heap.size:=(XX.1 e2).1
 by_cases hp:p<l.length
 ·have hso:∀ o,(setObj b o).run P w=.ok () { w with heap:=w.heap.setIfInBounds b o }:=by intro o;simp[setObj,Sem.run,e2]
  refine⟨.tuple #[.bool true,goInt p,.int .i32 (Zf2 l p).1],{ w with heap:=w.heap.setIfInBounds b (.stringIter ⟨l.toArray⟩ (p+(Zf2 l p).2)) },?_,?_⟩
  ·simp[Instr.next,hg,hsz,hp,hso,Zf2]
  ·rw[if_pos hp]
   refine Post.here (R.putObj hs (by simp[ZL,hb]) (by simp[ZL,hb]) _ ⟨b,k,c,hb,?_⟩ rfl) ?_
   ·rw[Array.getElem?_setIfInBounds_self_of_lt hlt]
   ·simp[VR,VRs,goInt]
 ·refine⟨.tuple #[.bool false],w,?_,?_⟩
  ·simp[Instr.next,hg,hsz,hp]
  ·rw[if_neg hp]
   refine Post.here R ?_
   simp[VR,VRs]
theorem ZLK(R:Rel base w0 I0 I β σ w)(hb:KLt base w0){t:TypeId}{k bytes:Nat}{z:AVal}(he:Zfu P t=some (k,bytes,z)){l c:Int}(h0:0<=l)(h1:l<=c)(h2:c<=9223372036854775807)(h3:bytes*c<=140737488355328){sq:Nat}(hs:σ[sq]?=some .free) :
  ∃ u w',(Instr.makeSlice t (.int .i64 l) (.int .i64 c)).run P w=.ok u w'/\Post base w0 I0 I β (.sl sq 0 0 l.toNat) (σ.set sq (.row 0 k (Xz c.toNat z))) u w':=by
 obtain⟨e,i,v,hu,hi,hik,hib,hv,hz,hk,hby,hzl⟩:=Zj1 he
 obtain⟨hz1,hz2⟩:=ZfV (I:=I) (β:=β) hz
 have wl:IntKind.i64.wrap l=l:=by rw[IntKind.wrap_i64];omega
 have wc:IntKind.i64.wrap c=c:=by rw[IntKind.wrap_i64];omega
 have hc0:¬c<0:=by omega
 have hbc:¬(281474976710656:Int)<bytes*c:=by omega
 have hl0:¬l<0:=by omega
 have hlc:¬c<l:=by omega
 have hvl:=ZhM (Zf8 hz) hz1
 have hrep:=Zoq (Zf8 hz) hz1 hzl hk c.toNat
 have husz:((WS (c.toNat*k)).map (v.cells[· % v.cells.size]!)).size=c.toNat*k:=by simp
 obtain⟨R',hle⟩:=R.newOwn hb hs ((WS (c.toNat*k)).map (v.cells[· % v.cells.size]!)) e (.row 0 k (Xz c.toNat z)) k c.toNat (XE ⟨_,rfl,hk,by omega,by simp,by rw[Zdd];intro x hx;rw[Wb hx];exact hz2,by intro x hx;rw[Wb hx];exact hzl,husz,by rw[XI (by simp)];exact hrep⟩)
 refine⟨.slice (some ⟨w.heap.size,0,none⟩) l.toNat c.toNat,_,?_,Post.mk (Imm.le.refl I) hle R' ?_⟩
 ·by_cases hn0:c.toNat*k=0
  ·have hr0:WS 0=#[]:=rfl
   simp[Instr.makeSlice,run_underlying hu,asInt,asIntOf,typeInfo,hi,hib,wl,wc,sizeOf,hik,hn0,hc0,hbc,hl0,hlc,newRow,hr0]
  ·simp[Instr.makeSlice,run_underlying hu,asInt,asIntOf,typeInfo,hi,hib,wl,wc,sizeOf,hik,hn0,hc0,hbc,hl0,hlc,newRow,zeroValue,hv]
 ·rw[Zcl]
  exact⟨_,Bmap.put_same β sq 0 _,by simp;omega,by simp;omega,Xr ⟨_,rfl,rfl⟩⟩
theorem ZGS{t e:TypeId}(hu:P.underlying t=some (.slice e))(he:P.underlying e=some (.int .u8))(R:Rel base w0 I0 I β σ w){t' g k lo n:Nat}{xs:List AVal}(hs:σ[t']?=some (.row g k xs))(hn:lo+n<=xs.length)(h0:0<n){v:Value}(hx:VR I β (.sl t' g lo n) v) :
  ∃ w',(convert t t v).run P w=.ok v w'/\Post base w0 I0 I β (.lst false ((xs.drop lo).take n)) (σ.set t' (.frow g k xs)) v w':=by
 have hsl:t'<σ.length:=(Xl.1 hs).1
 have hx0:=hx
 simp only[VR]at hx
 obtain⟨bi,f1,f2,f3,f4⟩:=hx
 obtain⟨bi',h1,h2,h3,h4,h5,h6,h7,h8⟩:=R.blk _ _ hs
 rw[f1]at h1;injection h1 with h1;subst h1
 rcases f4 with⟨b,hbb,rfl⟩ |⟨_,hc,_⟩ |⟨_,_,hz,_⟩
 ·rcases h8 with⟨h8,_⟩ |⟨b',us,ty,eb,h8,h9,h10⟩
  ·rw[hbb]at h8;cases h8
  rw[hbb]at eb;injection eb with eb;subst eb
  have hown:ZL β t' (.row g k xs)=some b:=by simp[ZL,f1,hbb]
  have ho:=R.own t' _ b hs hown
  let w':World:=w.freeze ⟨b,us.size,none⟩ 1
  have hhb:w'.heap[b]?=some (.cells us ty (us.size,us.size+1)):=by
   simp only[w',World.freeze,Nat.one_ne_zero,if_false,XaP,if_true,h8,X8]
   simp
  have hho:∀ b',b'≠b->w'.heap[b']?=w.heap[b']?:=by
   intro b' hne
   simp only[w',World.freeze,Nat.one_ne_zero,if_false,XaP]
   rw[if_neg (fun e=>hne e.symm)]
  have hsz:w'.heap.size=w.heap.size:=by simp[w',World.freeze]
  let I':Imm:=fun b' o=>if b'=b/\o<xs.length*k then us[o]? else I b' o
  have hle:I.le I':=by
   intro b' o u hu
   have : b'≠b:=by rintro rfl;rw[ho.2 o]at hu;cases hu
   simp only[I',this,false_and,if_false]
   exact hu
  have R':Rel base w0 I0 I' β (σ.set t' (.frow g k xs)) w':=by
   refine R.upd hle (Bmap.le.refl β) ⟨rfl,rfl,rfl,by rw[hsz];exact XF _,fun q hq=>hho q (by rintro rfl;exact ho.1 hq)⟩ ?_ ?_ t' _ rfl hsl (fun _ _ _=>rfl) ?_ ?_ (fun b e=>by cases e) (fun g' hg=>R.gen t' _ g' hs (by simpa[Zl]using hg)) (by simp)
   ·intro b' o hb'
    have : b'≠b:=by rintro rfl;exact ho.1 hb'
    simp only[I',this,false_and,if_false]
   ·intro b' o u hu
    simp only[I']at hu
    split at hu
    ·rename_i hc
     rw[hc.1,Zgy hhb];exact hu
    ·have:=R.imm _ _ _ hu
     have hne:b'≠b:=by rintro rfl;rw[ho.2 o]at hu;cases hu
     rw[<-this]
     simp only[World.cell?,hho b' hne]
   ·intro t'' x b' hne hx hb'
    have hbb':b'≠b:=by rintro rfl;exact hne (R.apart t'' x t' _ b' hx hs hb' hown)
    refine⟨hho b' hbb',fun o=>?_,by simp[ZL]⟩
    simp only[I',hbb',false_and,if_false]
    exact(R.own t'' x b' hx hb').2 o
   ·refine⟨bi,f1,h2,h3,h4,h5,h6,XE ⟨b,hbb,?_⟩⟩
    refine Zk2 h7 (VRs.mono hle (Bmap.le.refl β) _ _ h10) (fun j u hu=>?_)
    rw[XS]at hu
    split at hu
    ·rename_i hj
     simp only[I',XB,true_and,hj,if_true]
     simpa using hu
    ·cases hu
  refine⟨w',?_,Post.mk hle (Bmap.le.refl β) R' (ZpG R' (by rw[Xx,if_pos rfl,if_pos hsl]) hn (hx0.mono hle (Bmap.le.refl β) _ _))⟩
  have hshape:w.shape? b=some (ty,us.size):=by simp[World.shape?,h8]
  simp[convert,run_underlying hu,run_underlying he,markStringish,hshape,w']
 ·omega
 ·omega
end
end
end Go.Proofs.YtfhocpplckoodaaGreatDoor
