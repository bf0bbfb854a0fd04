/- packed -/
import Derived.WalkKit
import Derived.Below
import Derived.Laws.Sem
import Derived.Shelf.Unicode.WordAny
import Derived.Deep.MidRow
import Derived.Laws.CopyRow
import Derived.Laws.AppendOwn
import Derived.Laws.BytesString
import Derived.Laws.StructEq
set_option linter.unusedSimpArgs false
set_option linter.unusedVariables false
open Option.some renaming injEq→Xb
open Prod.mk renaming injEq→Xe
open List renaming getD_eq_getElem?_getD→Xh,getElem?_eq_some_iff→Xn,nil_append→Xp,map_cons→Xu,eq_nil_of_length_eq_zero→Xx,all_eq_true→Xy,length_cons→Xz,getElem?_eq_getElem→XA,flatMap_cons→XB,map_nil→XC,mem_append→XE,take_of_length_le→XG,replicate→XI,cons_append→XJ,getElem?_cons_zero→XK,mem_of_getElem?→XL,length_append→XM,getElem?_cons_succ→XN,getElem?_set→XO,length_map→XS,all_cons→XW,mem_cons→X0,getElem?_take→X4,range→X5,mem_map→X7,getElem?_eq_none→Wb,drop_eq_nil_of_le→Wg,mem_flatMap→Wr,ext_getElem?→Wy,eq_of_mem_replicate→WA,getElem?_drop→WF,length_take→WK,mem_or_eq_of_mem_set→WN,isEmpty_iff→WR,mem_of_mem_drop→WT,getElem?_append→WU,mem_iff_getElem?→W5,length_set→Xaa,getElem?_map→Xab,drop_take→Xaj,take_left→Xak,mem_of_mem_take→Xas,size_toArray→XaF,take_take→XaG,map_map→XaJ,take_append→XaM,getElem_mem→XaN,drop_drop→XaX,drop_append→Xa2
open Bool renaming false_eq_true→Xi,and_eq_true→Xk,and_self→XT,or_eq_true→WH
open Option renaming map_eq_some_iff→Xo,map_some→X9,bind_some→Wk,isSome_none→Xal,getD_none→XaO
open Or renaming inl→Xq,inr→Xt
open Nat renaming zero_add→XF,le_refl→XH,add_zero→X6,mul_le_mul_right→Wd,add_mul→We,lt_or_ge→Wz,mul_le_mul_left→Xae,sub_self→XaB,lt_irrefl→XaC,min_eq_left→XaD,zero_mul→Xa7
open BitVec renaming ofInt→XR
open Array renaming length_toList→XU,range→WQ,getElem?_modify→XaI,ext'→Xbd
open UInt8 renaming ofNat→Wo
open ByteArray renaming size→Ws
namespace Go.Proofs.YtjhabjdfhmbanaaGreatDoor
set_option maxHeartbeats 16000000
set_option maxRecDepth 10000
theorem aI{a b : Prop}(x : a)(y : b) : a /\ b:=And.intro x y
section
inductive AVal where
 |top
 |any
 |int (k:IntKind) (n:Int)
 |bool (b:Bool)
 |str (l:List UInt8)
 |nilp
 |ref (t o:Nat)
 |eref (t g i o:Nat)
 |iptr (cs:List AVal) (o:Nat)
 |lst (x:Bool) (xs:List AVal)
 |sl (t g lo n:Nat)
 |agg (cs:List AVal)
 |tup (vs:List AVal)
 |fn (f:Nat) (caps:List AVal)
 |nilm
 |map (t:Nat)
 |nili
 |iface (t:Nat) (x:AVal)
 |pan (x:AVal)
 |lnt (l:List UInt8)
 deriving Inhabited
inductive ZP where
 |free
 |var (cs:List AVal)
 |row (g k:Nat) (xs:List AVal)
 |frow (g k:Nat) (xs:List AVal)
 |map (es:List (AVal×AVal))
 |rrow (g k:Nat) (xs:List AVal)
 |siter (l:List UInt8) (p:Nat)
 |opq
 deriving Inhabited
abbrev Za:=List ZP
def AVal.cells:AVal->List AVal
 | .agg cs=>cs
 |x=>[x]
inductive Opd where
 |t (n:Nat)
 |c (v:AVal)
 deriving Inhabited
inductive ZVr where |eql |neq |lss |leq |gtr |geq
 deriving DecidableEq,Inhabited
inductive Ins where
 |mov (x:Opd)
 |pick (c a b:Opd)
 |alloc (zs:List AVal)
 |box (x:Opd)
 |build (zs:List AVal) (parts:List (Nat×Nat×Opd))
 |bslice (own:Bool) (k n:Nat) (z:AVal) (parts:List (Nat×Opd))
 |ld (k:Option Nat) (a:Opd)
 |st (k:Nat) (a v:Opd)
 |bin (op:BinOp) (x y:Opd)
 |un (op:UnOp) (x:Opd)
 |i2i (k:IntKind) (x:Opd)
 |same (x:Opd)
 |s2b (x:Opd)
 |b2s (x:Opd)
 |slice (k:Nat) (x:Opd) (lo hi mx:Option Opd)
 |sslice (x:Opd) (lo hi:Option Opd)
 |faddr (off:Nat) (x:Opd)
 |field (k:Option Nat) (off:Nat) (x:Opd)
 |iaddr (k:Nat) (x i:Opd)
 |aaddr (k n:Nat) (x i:Opd)
 |sindex (x i:Opd)
 |aindex (s:Option Nat) (k n:Nat) (x i:Opd)
 |ext (x:Opd) (i:Nat)
 |len (x:Opd)
 |slen (x:Opd)
 |app (k bytes:Nat) (z:AVal) (x y:Opd)
 |mkslice (k bytes:Nat) (z:AVal) (l c:Opd)
 |mm (max:Bool) (xs:List Opd)
 |nilchk (x:Opd)
 |s2s (x:Opd)
 |beq (neg:Bool) (x y:Opd)
 |peq (neg:Bool) (x y:Opd)
 |eqv (neg:Bool) (ks:List Nat) (x y:Opd)
 |ieq (neg:Bool) (x y:Opd)
 |mki (t:Nat) (x:Opd)
 |panic (x:Opd)
 |call (f own:Nat) (view:Bool) (args:List Opd)
 |callv (x:Opd) (args:List Opd)
 |mkfn (f:Nat) (caps:List Opd)
 |rslice (k n:Nat) (z:AVal) (parts:List (Nat×Opd))
 |rng (x:Opd)
 |nxt (x:Opd)
 |i2s (x:Opd)
 |clr (k:Nat) (z:AVal) (x:Opd)
 |mkmap
 |look (kc:Nat) (z:AVal) (ok:Bool) (m k:Opd)
 |mset (kc:Nat) (m k v:Opd)
 |mdel (kc:Nat) (m k:Opd)
 |mlen (m:Opd)
 deriving Inhabited
structure AOp where
 dst:Option Nat
 ins:Ins
 guard:Option (Nat×Bool)
 after:List Nat
 deriving Inhabited
inductive Zf where
 |skip
 |region (ops:List AOp) (chk:Option (List (Nat×Nat))) (live:List Nat)
 |seq (a b:Zf)
 |cond (c:Opd) (a b:Zf)
 |block (id:Nat) (c:Zf)
 |loop (live:List Nat) (c:Zf)
 |exit (id:Nat)
 |ret
 |stuck
 deriving Inhabited
inductive Zdw where
 |tmp (t:Nat)
 |cell (a:Nat) (k:Option Nat)
 deriving Inhabited
structure ZM where
 res:List Zdw
 body:Zf
 deriving Inhabited
structure Cls where
 rd:List Nat:=[]
 wr:List Nat:=[]
 any:Bool:=false
 got:List (Nat×Option Nat×Nat×AVal):=[]
 upd:List (Nat×List AVal):=[]
 deriving Inhabited
abbrev Tms:=List (Nat×AVal)
def tget:Tms->Nat->AVal
 | [],_=>.top
 |(d,v)::r,n=>if d=n then v else tget r n
def tins(d:Nat)(v:AVal):Tms->Tms
 | []=>[(d,v)]
 |(e,w)::r=>if e<d then(d,v)::(e,w)::r else if e=d then(d,v)::r else(e,w)::tins d v r
def Opd.ev(tm:Tms):Opd->AVal
 | .t n=>tget tm n
 | .c v=>v
def tput(tm:Tms)(d:Option Nat)(v:AVal):Tms :=
 match d with
 |some d=>tins d v tm
 |none=>tm
def keepL(live:List Nat)(tm:Tms):Tms:=live.map fun n=>(n,tget tm n)
abbrev ZS:=Nat->List AVal->Za->Option (AVal×Za)
def Zh(b:UInt8):AVal:=.int .u8 b.toNat
def Ztk:AVal->Option UInt8
 | .int .u8 n=>some (Wo n.toNat)
 |_=>none
def bytesOf:List AVal->Option (List UInt8)
 | []=>some []
 |x::xs=>match Ztk x with
  |some b=>match bytesOf xs with
   |some l=>some (b::l)
   |none=>none
  |none=>none
def ZZ(G:Za):AVal->Option (List AVal×List Nat)
 | .lst _ xs=>some (xs,[])
 | .str l=>some (l.map Zh,[])
 | .lnt l=>some (l.map Zh,[])
 | .sl t g lo n=>match G[t]? with
  |some (.row g' _ xs)=>if g'=g/\lo+n<=xs.length then some ((xs.drop lo).take n,[t])else none
  |some (.frow g' _ xs)=>if g'=g/\lo+n<=xs.length then some ((xs.drop lo).take n,[t])else none
  |_=>none
 |_=>none
def ZN(G:Za):AVal->Option (AVal×List Nat)
 | .lst _ xs=>some (.lst false xs,[])
 | .sl t g lo n=>match ZZ G (.sl t g lo n)with
  |some (xs,ts)=>some (.lst false xs,ts)
  |none=>none
 | .int k n=>some (.int k n,[])
 | .bool b=>some (.bool b,[])
 | .str l=>some (.str l,[])
 | .nilp=>some (.nilp,[])
 | .nilm=>some (.nilm,[])
 | .nili=>some (.nili,[])
 |_=>none
def Zae(G:Za):List AVal->Option (List AVal×List Nat)
 | []=>some ([],[])
 |x::xs=>match ZN G x with
  |some (y,ts)=>match Zae G xs with
   |some (ys,us)=>some (y::ys,ts++us)
   |none=>none
  |none=>none
def Z3(G:Za):AVal->Option (AVal×List Nat)
 | .agg cs=>match Zae G cs with
  |some (ys,ts)=>some (.agg ys,ts)
  |none=>none
 |x=>ZN G x
def viewAs(G:Za):List AVal->Option (List AVal×List Nat)
 | []=>some ([],[])
 |x::xs=>match Z3 G x with
  |some (y,ts)=>match viewAs G xs with
   |some (ys,us)=>some (y::ys,ts++us)
   |none=>none
  |none=>none
def viewR(G:Za):AVal->Option (AVal×List Nat)
 | .tup vs=>match viewAs G vs with
  |some (ys,ts)=>some (.tup ys,ts)
  |none=>none
 |x=>Z3 G x
def Zv(G:Za):List Nat->Za
 | []=>G
 |t::ts=>match G[t]? with
  |some (.row g k xs)=>Zv (G.set t (.frow g k xs)) ts
  |_=>Zv G ts
def ZaJ:AVal->Bool
 | .int _ _ | .bool _ | .str _ | .nilp | .nilm | .nili=>true
 |_=>false
def Za2:AVal->Bool
 | .agg cs=>cs.all ZaJ
 |x=>ZaJ x
def ZbC:AVal->Bool
 | .tup vs=>vs.all Za2
 | .pan (.iface _ x)=>ZaJ x
 |x=>Za2 x
def partA(k:Option Nat)(cs:List AVal)(o:Nat):Option AVal :=
 match k with
 |none=>cs[o]?
 |some k=>if o+k<=cs.length then some (.agg ((cs.drop o).take k))else none
def setAt(cs:List AVal)(o:Nat)(vs:List AVal):List AVal:=cs.take o++vs++cs.drop (o+vs.length)
def ZY:AVal->Bool
 | .agg _ | .tup _ | .top | .pan _=>false
 |_=>true
def Zby:AVal->Bool
 | .top=>false
 |_=>true
def Zao(zs:List AVal):List (Nat×Nat×AVal)->Option (List AVal)
 | []=>some zs
 |(off,k,v)::r=>if v.cells.length=k/\off+k<=zs.length/\Zby v=true then Zao (setAt zs off v.cells) r else none
def kOk(k:Nat):List AVal->Bool
 | []=>true
 |x::_=>x.cells.length==k
def ldA(G:Za)(k:Option Nat):AVal->Option (AVal×Za×Cls)
 | .ref t o=>match G[t]? with
  |some (.var cs)=>match partA k cs o with
   |some v=>some (v,G,{ rd:=[t],got:=[(t,k,o,v)] })
   |none=>none
  |_=>none
 | .eref t g i o=>match G[t]? with
  |some (.row g' _ xs)=>if g'=g then match xs[i]? with
   |some x=>match partA k x.cells o with
    |some v=>some (v,G,{ rd:=[t] })
    |none=>none
   |none=>none else none
  |some (.frow g' _ xs)=>if g'=g then match xs[i]? with
   |some x=>match partA k x.cells o with
    |some v=>some (v,G,{ rd:=[t] })
    |none=>none
   |none=>none else none
  |some (.rrow g' _ xs)=>if g'=g then match xs[i]? with
   |some x=>match partA k x.cells o with
    |some v=>some (v,G,{ rd:=[t] })
    |none=>none
   |none=>none else none
  |_=>none
 | .iptr cs o=>match partA k cs o with
  |some v=>some (v,G,{})
  |none=>none
 |_=>none
def Zkt(x:AVal)(o:Nat)(vs:List AVal):Option AVal :=
 match x with
 | .agg cs=>if o+vs.length<=cs.length then some (.agg (setAt cs o vs))else none
 |_=>match o,vs with
  |0,[v]=>some v
  |_,_=>none
def stA(G:Za)(k:Nat)(a v:AVal):Option (AVal×Za×Cls) :=
 if v.cells.length=k/\v.cells.all ZY then
  match a with
  | .ref t o=>match G[t]? with
   |some (.var cs)=>if o+k<=cs.length then some (.tup [],G.set t (.var (setAt cs o v.cells)),{ wr:=[t] })else none
   |_=>none
  | .eref t g i o=>match G[t]? with
   |some (.row g' kk xs)=>if g'=g then match xs[i]? with
    |some x=>match Zae G v.cells with
     |some (ys,ts)=>if ts.contains t then none else match Zkt x o ys with
      |some x'=>some (.tup [],(Zv G ts).set t (.row g kk (xs.set i x')),{ wr:=t::ts })
      |none=>none
     |none=>none
    |none=>none else none
   |some (.rrow g' kk xs)=>if g'=g then match xs[i]? with
    |some x=>match Zkt x o v.cells with
     |some x'=>some (.tup [],G.set t (.rrow g kk (xs.set i x')),{ wr:=[t] })
     |none=>none
    |none=>none else none
   |_=>none
  |_=>none
 else none
def arithA(op:BinOp)(k:IntKind)(a b:Int):Option AVal :=
 match op with
 | .add=>some (.int k (k.wrap (a+b)))
 | .sub=>some (.int k (k.wrap (a-b)))
 | .mul=>some (.int k (k.wrap (a*b)))
 | .quo=>if b=0 then none else some (.int k (k.wrap (a.tdiv b)))
 | .rem=>if b=0 then none else some (.int k (a.tmod b))
 | .and=>some (.int k (k.wrap (XR k.bits a&&&XR k.bits b).toNat))
 | .or=>some (.int k (k.wrap (XR k.bits a |||XR k.bits b).toNat))
 | .xor=>some (.int k (k.wrap (XR k.bits a ^^^ XR k.bits b).toNat))
 | .andNot=>some (.int k (k.wrap (XR k.bits a &&& ~~~ XR k.bits b).toNat))
 | .eql=>some (.bool (a==b))
 | .neq=>some (.bool (a != b))
 | .lss=>some (.bool (a<b))
 | .leq=>some (.bool (a<=b))
 | .gtr=>some (.bool (a>b))
 | .geq=>some (.bool (a>=b))
 |_=>none
def Zbh(op:BinOp)(k:IntKind)(a b:Int):Option AVal :=
 if b<0 then none else
 match op with
 | .shl=>some (.int k (k.wrap (a*2^min b.toNat k.bits)))
 | .shr=>some (.int k (a.fdiv (2^min b.toNat k.bits)))
 |_=>none
def Zc8(op:BinOp)(a b:List UInt8):Option AVal :=
 match op with
 | .add=>if a.length+b.length<=9223372036854775807 then some (.str (a++b))else none
 | .eql=>some (.bool (a==b))
 | .neq=>some (.bool (!(a==b)))
 | .lss=>some (.bool (Op.bytesLess a b))
 | .leq=>some (.bool (Op.bytesLess a b ||a==b))
 | .gtr=>some (.bool !(Op.bytesLess a b ||a==b))
 | .geq=>some (.bool !(Op.bytesLess a b))
 |_=>none
def binA(op:BinOp)(x y:AVal):Option AVal :=
 match x,y with
 | .int k a,.int k' b=>match op with
  | .shl=>Zbh .shl k a b
  | .shr=>Zbh .shr k a b
  |op=>if k=k' then arithA op k a b else none
 | .str a,.str b=>Zc8 op a b
 |_,_=>none
def unA(op:UnOp)(x:AVal):Option AVal :=
 match op,x with
 | .neg,.int k n=>arithA .sub k 0 n
 | .xor,.int k n=>arithA .xor k (if k.signed then -1 else k.max) n
 | .not,.bool b=>some (.bool !b)
 |_,_=>none
def ZdC(x:AVal)(y:Nat):Option Nat :=
 match x with
 | .int _ i=>if 0<=i/\i<=y then some i.toNat else none
 |_=>none
def Za5(x:Option AVal)(d y:Nat):Option Nat :=
 match x with
 |some v=>ZdC v y
 |none=>some d
def ZbO (G : Za) (k : Nat) (x : AVal) (lo hi mx : Option AVal) : Option (AVal × Za × Cls) :=
  match x with
  | .lst b xs => match Za5 mx xs.length xs.length with
    | none => none
    | some m => match Za5 hi xs.length m with
      | none => none
      | some h => match Za5 lo 0 h with
        | none => none
        | some l => if l == 0 || kOk k xs then
            if mx.isSome then some (.lst (h == m) ((xs.take h).drop l), G, {})
            else some (.lst (b && h == xs.length) ((xs.take h).drop l), G, {})
          else none
  | .lnt l => if k = 1 /\ mx.isNone = true then match Za5 hi l.length l.length with
      | none => none
      | some h => match Za5 lo 0 h with
        | none => none
        | some q => some (.lnt ((l.take h).drop q), G, {})
    else none
  | .sl t g p n => match ZZ G (.sl t g p n) with
    | none => none
    | some _ => match mx with
      | some m => match ZdC m 0 with
        | some _ => match Za5 hi n 0 with
          | some _ => match Za5 lo 0 0 with
            | some _ => some (.lst true [], G, { rd := [t] })
            | none => none
          | none => none
        | none => match ZdC m n with
          | some q1 => match Za5 hi n q1 with
            | some q2 => match Za5 lo 0 q2 with
              | some _ => some (.any, G, { rd := [t] })
              | none => none
            | none => none
          | none => none
      | none => match G[t]? with
        | some (.row _ k' xs) => if k' = k then match Za5 hi n (xs.length - p) with
          | none => none
          | some h => match Za5 lo 0 h with
            | none => none
            | some l => some (.sl t g (p + l) (h - l), G, { rd := [t] }) else none
        | some (.frow _ k' xs) => if k' = k then match Za5 hi n (xs.length - p) with
          | none => none
          | some h => match Za5 lo 0 h with
            | none => none
            | some l => some (.sl t g (p + l) (h - l), G, { rd := [t] }) else none
        | _ => none
  | _ => none
def faddrA(off:Nat):AVal->Option AVal
 | .ref t o=>some (.ref t (o+off))
 | .eref t g i o=>some (.eref t g i (o+off))
 | .iptr x o=>some (.iptr x (o+off))
 |_=>none
def Zc5 (G : Za) (k : Nat) (x i : AVal) : Option (AVal × Za × Cls) :=
  match i with
  | .int _ i => if 0 <= i then
      match x with
      | .lst _ xs => match xs[i.toNat]? with
        | some x => if x.cells.length = k then some (.iptr x.cells 0, G, {}) else none
        | none => none
      | .sl t g p n => if i.toNat < n then match G[t]? with
          | some (.row g' k' _) => if g' = g /\ k' = k then some (.eref t g (p + i.toNat) 0, G, { rd := [t] }) else none
          | some (.frow g' k' _) => if g' = g /\ k' = k then some (.eref t g (p + i.toNat) 0, G, { rd := [t] }) else none
          | some (.rrow g' k' _) => if g' = g /\ k' = k then some (.eref t g (p + i.toNat) 0, G, { rd := [t] }) else none
          | _ => none else none
      | _ => none
    else none
  | _ => none
def ZdY (G : Za) (sq k bytes : Nat) (x y : AVal) : Option (AVal × Za × Cls) :=
  match y with
  | .sl u h q m => match G[u]? with
    | some (.rrow h' k1 zs) => if h' = h /\ k1 = k /\ q + m <= zs.length /\ 0 < m then
        match x with
        | .lst true [] => if m * bytes <= 140737488355328 then some (.sl sq 0 0 m, G.set sq (.rrow 0 k ((zs.drop q).take m)), { any := true }) else none
        | .sl t g p n => match G[t]? with
          | some (.rrow g' k' xs) => if p = 0 /\ g' = g /\ k' = k /\ (n + m) * bytes <= 140737488355328 /\ n = xs.length then
              some (.sl t (g + 1) 0 (n + m), G.set t (.rrow (g + 1) k (xs ++ (zs.drop q).take m)), { any := true })
            else none
          | _ => none
        | _ => none
      else none
    | _ => none
  | _ => none
def Zan (G : Za) (sq k bytes : Nat) (x y : AVal) : Option (AVal × Za × Cls) :=
  match ZZ G y with
  | none => ZdY G sq k bytes x y
  | some (ys, us) => if kOk k ys then
      match x with
      | .lst true [] => if ys.length * bytes <= 140737488355328 then some (.sl sq 0 0 ys.length, G.set sq (.row 0 k ys), { rd := us }) else none
      | .lst true (x :: xs) => if kOk k (x :: xs) /\ ((x :: xs).length + ys.length) * bytes <= 140737488355328 then
          match ys with
          | [] => some (.lst true (x :: xs), G, { rd := us })
          | _ :: _ => some (.sl sq 0 0 ((x :: xs).length + ys.length), G.set sq (.row 0 k ((x :: xs) ++ ys)), { rd := us })
          else none
      | .sl t g p n => match G[t]? with
        | some (.row g' k' xs) => if p = 0 /\ g' = g /\ k' = k /\ (n + ys.length) * bytes <= 140737488355328 then
            if n = xs.length then some (.sl t (g + 1) 0 (n + ys.length), G.set t (.row (g + 1) k (xs ++ ys)), { rd := us, wr := [t] })
            else if n + ys.length <= xs.length then some (.sl t g 0 (n + ys.length), G.set t (.row g k (xs.take n ++ ys ++ xs.drop (n + ys.length))), { rd := us, wr := [t] })
            else none
          else none
        | _ => none
      | _ => none
    else none
def freeAt(G:Za)(s:Nat):Bool:=match G[s]? with
 |some .free=>true
 |_=>false
mutual
def ZH:AVal->List Nat
 | .ref t _=>[t]
 | .eref t _ _ _=>[t]
 | .sl t _ _ _=>[t]
 | .map t=>[t]
 | .agg cs=>Zl cs
 | .tup vs=>Zl vs
 | .fn _ vs=>Zl vs
 | .iface _ x=>ZH x
 | .pan x=>ZH x
 |_=>[]
def Zl:List AVal->List Nat
 | []=>[]
 |x::xs=>ZH x++Zl xs
end
def ZB:ZP->List Nat
 | .var cs=>Zl cs
 | .rrow _ _ xs=>Zl xs
 | .map es=>Zl (es.map (·.2))
 |_=>[]
abbrev Rho:=Nat->Nat->Option (Nat×Nat)
mutual
def Zp(C:Rho):AVal->AVal
 | .ref t o=>match C t 0 with
  |some (t',0)=>.ref t' o
  |_=>.any
 | .eref t g i o=>match C t g with
  |some (t',g')=>.eref t' g' i o
  |none=>.any
 | .sl t g lo n=>match C t g with
  |some (t',g')=>.sl t' g' lo n
  |none=>.any
 | .map t=>match C t 0 with
  |some (t',0)=>.map t'
  |_=>.any
 | .agg cs=>.agg (Zj C cs)
 | .tup vs=>.tup (Zj C vs)
 | .fn f vs=>.fn f (Zj C vs)
 | .iface t x=>.iface t (Zp C x)
 | .pan x=>.pan (Zp C x)
 |x=>x
def Zj(C:Rho):List AVal->List AVal
 | []=>[]
 |x::xs=>Zp C x::Zj C xs
end
def Zz(C:Rho)(g:Nat):ZP->ZP
 | .var cs=>.var (Zj C cs)
 | .row _ k xs=>.row g k xs
 | .frow _ k xs=>.frow g k xs
 | .map es=>.map (es.map fun p=>(p.1,Zp C p.2))
 | .rrow _ k xs=>.rrow g k (Zj C xs)
 | .siter l p=>.siter l p
 | .opq=>.opq
 | .free=>.free
def Zt(G:Za):Nat->List Nat->List Nat->List Nat
 |0,_,acc=>acc
 |_+1,[],acc=>acc
 |n+1,t::todo,acc=>if acc.contains t then Zt G n todo acc else Zt G n (ZB (G.getD t .free)++todo) (acc++[t])
def ZI(t:Nat):List Nat->Nat->Option Nat
 | [],_=>none
 |x::xs,i=>if x=t then some i else ZI t xs (i+1)
def Zm:ZP->Nat
 | .row g _ _=>g
 | .frow g _ _=>g
 | .rrow g _ _=>g
 |_=>0
def ZD(m j:Nat)(b:ZP):Nat:=if j<m/\Zm b≠0 then 1 else 0
def Zn(G:Za)(m:Nat)(ids:List Nat):Rho:=fun t g=>match ZI t ids 0 with
 |some j=>match G[t]? with
  |some .free=>none
  |some b=>if g=Zm b then some (j,ZD m j b)else none
  |none=>none
 |none=>none
def Zo(G:Za)(m:Nat)(ids:List Nat)(C:Rho):List Nat->Nat->Za
 | [],_=>[]
 |t::ts,j=>Zz C (ZD m j (G.getD t .free)) (G.getD t .free)::Zo G m ids C ts (j+1)
def Zw(m:Nat)(roots:List AVal)(G:Za):List Nat:=Zt G 1000 (Zl roots++(X5 m).flatMap fun t=>ZB (G.getD t .free)) (X5 m)
def gcA(m:Nat)(roots:List AVal)(G:Za):List AVal×Za :=
 (Zj (Zn G m (Zw m roots G)) roots,Zo G m (Zw m roots G) (Zn G m (Zw m roots G)) (Zw m roots G) 0)
def gcT(m:Nat)(tm:Tms)(G:Za):Tms×Za :=
 ((tm.map (·.1)).zip (gcA m (tm.map (·.2)) G).1,(gcA m (tm.map (·.2)) G).2)
def Zcu(G:Za):AVal->Option (AVal×List Nat)
 | .lst _ xs=>some (.lst false xs,[])
 | .sl t g lo n=>match ZZ G (.sl t g lo n)with
  |some (xs,ts)=>some (.lst false xs,ts)
  |none=>none
 | .pan _=>none
 |x=>some (x,[])
def ZcJ(G:Za):List AVal->Option (List AVal×List Nat)
 | []=>some ([],[])
 |x::xs=>match Zcu G x with
  |some (y,ts)=>match ZcJ G xs with
   |some (ys,us)=>some (y::ys,ts++us)
   |none=>none
  |none=>none
def showA(G:Za):AVal->Option (AVal×List Nat)
 | .agg cs=>match ZcJ G cs with
  |some (ys,ts)=>some (.agg ys,ts)
  |none=>none
 |x=>Zcu G x
def showAs(G:Za):List AVal->Option (List AVal×List Nat)
 | []=>some ([],[])
 |x::xs=>match showA G x with
  |some (y,ts)=>match showAs G xs with
   |some (ys,us)=>some (y::ys,ts++us)
   |none=>none
  |none=>none
def ZbR(m:Nat):Option (AVal×Za)->Option (AVal×Za)
 |some (.pan x,G)=>some (.pan x,G)
 |some (r,G)=>match viewR G r with
  |some (r',ts)=>match gcA m [r'] (Zv G ts)with
   |([r''],G')=>some (r'',G')
   |_=>none
  |none=>none
 |none=>none
def okB:ZP->Bool
 | .var _=>true
 | .row _ _ _=>true
 | .frow _ _ _=>true
 | .map _=>true
 | .rrow _ _ _=>true
 | .siter _ _=>true
 | .opq=>true
 | .free=>false
def Zcy:ZP->ZP->Bool
 | .var _,.var _=>true
 | .row _ _ _,.row _ _ _=>true
 | .row _ _ _,.frow _ _ _=>true
 | .frow _ _ _,.frow _ _ _=>true
 | .map _,.map _=>true
 | .rrow _ _ _,.rrow _ _ _=>true
 | .siter _ _,.siter _ _=>true
 | .opq,.opq=>true
 |_,_=>false
def Za1(G:Za)(ids:List Nat):Za->Nat->Bool
 | [],_=>true
 |b::bs,j=>okB b&&(match ids[j]? with
  |some t=>Zcy (G.getD t .free) b&&decide (Zm b<=1)
  |none=>decide (Zm b=0))&&Za1 G ids bs (j+1)
def Zak(G:Za)(ids:List Nat)(sq:Nat):Rho:=fun j g=>match ids[j]? with
 |some t=>some (t,Zm (G.getD t .free)+g)
 |none=>some (sq+(j-ids.length),g)
def ZaA(ids:List Nat)(sq j:Nat):Nat:=ids.getD j (sq+(j-ids.length))
def ZbZ(G:Za)(ids:List Nat)(j:Nat)(b:ZP):Nat:=match ids[j]? with
 |some t=>Zm (G.getD t .free)+Zm b
 |none=>Zm b
def ZaQ(G0:Za)(ids:List Nat)(sq:Nat):Za->Nat->Za->Za
 | [],_,G=>G
 |b::bs,j,G=>ZaQ G0 ids sq bs (j+1) (G.set (ZaA ids sq j) (Zz (Zak G0 ids sq) (ZbZ G0 ids j b) b))
def Zaj(G:Za)(sq:Nat):Nat->Bool
 |0=>true
 |n+1=>freeAt G sq&&Zaj G (sq+1) n
def ZV(view:Bool)(m:Nat)(r:Option (AVal×Za)):Option (AVal×Za):=if view then ZbR m r else r
def Zl0:AVal->Bool
 | .int .u8 _=>true
 |_=>false
def Zij:AVal->Bool
 | .lst _ xs=>xs.all Zl0
 |x=>ZaJ x
def Zic:AVal->Bool
 | .agg cs=>cs.all Zij
 |x=>Zij x
def Ziw:AVal->Bool
 | .tup vs=>vs.all Zic
 |x=>Zic x
def nb1:AVal->Bool
 | .int .u8 _=>false
 | .int _ _ | .bool _ | .str _ | .lst _ _ | .nilp | .nilm | .nili=>true
 |_=>false
def ZjS(xs:List AVal):Bool:=xs.all fun x=>x.cells.all nb1
def Zej(G:Za)(t:Nat):Bool:=match G[t]? with
 |some (.row _ _ xs)=>ZjS xs
 |some (.frow _ _ _)=>true
 |_=>false
def Zda(G:Za)(ts:List Nat)(r:AVal):Bool:=!ts.isEmpty&&Ziw r&&ts.all (Zej G)
def ZgJ(own:Nat):AVal->Za->Option (Nat×Nat×Nat×List AVal)
 | .sl 0 0 lo n,[.row 0 k xs]=>if decide (own=1)&&xs.all Za2 then some (lo,n,k,xs)else none
 |_,_=>none
def Za9(G:Za):List Nat->List (Nat×List AVal)
 | []=>[]
 |t::ts=>match G[t]? with
  |some (.var cs)=>(t,cs)::Za9 G ts
  |_=>Za9 G ts
def Zaz(G Gf:Za)(ids ts:List Nat)(sq own:Nat):Option (AVal×Za)->Option (AVal×Za×Cls)
 |none=>none
 |some (r,h) =>
  if ids.isEmpty&&h.isEmpty then
   if ZbC r then some (r,G,{ rd:=ts })else if Zda G ts r then some (r,G,{ rd:=ts })else some (Zp (Zak [] [] sq) r,Gf,{ rd:=ts,wr:=ts })
  else match if ids.isEmpty then ZgJ own r h else none with
  |some (lo,n,k,xs)=>some (.sl sq 0 lo n,G.set sq (.row 0 k xs),{ rd:=ts })
  |none=>if decide (h.length<=ids.length+own)&&decide (ids.length<=h.length)&&Za1 Gf ids h 0&&Zaj Gf sq own then
   some (Zp (Zak Gf ids sq) r,ZaQ Gf ids sq h 0 Gf,{ any:=true,upd:=Za9 (ZaQ Gf ids sq h 0 Gf) ids })
  else none
def Zg6:AVal->Bool
 | .lnt _=>true
 |_=>false
def Zcx:AVal->Bool
 | .agg cs=>cs.any Zg6
 |x=>Zg6 x
def ZbE:AVal->AVal
 | .lnt l=>.lst false (l.map Zh)
 |x=>x
mutual
def ZcV:AVal->Bool
 | .lnt _=>false
 | .agg cs=>Zb5 cs
 | .tup vs=>Zb5 vs
 | .fn _ vs=>Zb5 vs
 | .iface _ x=>ZcV x
 | .pan x=>ZcV x
 | .iptr cs _=>Zb5 cs
 |_=>true
def Zb5:List AVal->Bool
 | []=>true
 |x::xs=>ZcV x&&Zb5 xs
end
def ZoD:ZP->Bool
 | .row _ _ _=>true
 | .frow _ _ _=>true
 |_=>false
def ZuD:AVal->Option UInt8
 | .int .u8 n=>if n=((Wo n.toNat).toNat:Int)then some (Wo n.toNat)else none
 |_=>none
def Zia:List AVal->Option (List UInt8)
 | []=>some []
 |x::xs=>match ZuD x with
  |some b=>match Zia xs with
   |some l=>some (b::l)
   |none=>none
  |none=>none
def Ze1(G:Za):AVal->Option (List UInt8×List Nat)
 | .sl t g lo n=>match ZZ G (.sl t g lo n)with
  |some (xs,ts)=>match Zia xs with
   |some l=>some (l,ts)
   |none=>none
  |none=>none
 |_=>none
def Zzq:AVal->Bool
 | .sl _ _ _ _=>true
 |_=>false
def Zig:AVal->Bool
 | .agg cs=>cs.any Zzq
 |x=>Zzq x
def ZfP(G:Za)(x:AVal):Option (AVal×List Nat×List Nat) :=
 match Ze1 G x with
 |some (l,ls)=>some (.lnt l,[],ls)
 |none=>match Zcu G x with
  |some (y,ts)=>some (y,ts,[])
  |none=>none
def Ze8(G:Za):List AVal->Option (List AVal×List Nat×List Nat)
 | []=>some ([],[],[])
 |x::xs=>match ZfP G x with
  |some (y,ts,ls)=>match Ze8 G xs with
   |some (ys,us,ms)=>some (y::ys,ts++us,ls++ms)
   |none=>none
  |none=>none
def ZgF(G:Za):AVal->Option (AVal×List Nat×List Nat)
 | .agg cs=>match Ze8 G cs with
  |some (ys,ts,ls)=>some (.agg ys,ts,ls)
  |none=>none
 |x=>ZfP G x
def ZdT(G:Za):List AVal->Option (List AVal×List Nat×List Nat)
 | []=>some ([],[],[])
 |x::xs=>match ZgF G x with
  |some (y,ts,ls)=>match ZdT G xs with
   |some (ys,us,ms)=>some (y::ys,ts++us,ls++ms)
   |none=>none
  |none=>none
def Zlt:AVal->Bool
 | .sl _ _ _ _=>true
 | .lst _ []=>true
 |x=>ZaJ x
def Zk3:AVal->Bool
 | .agg cs=>cs.all Zlt
 |x=>Zlt x
def Zhs:AVal->Bool
 | .tup vs=>vs.all Zk3
 |x=>Zk3 x
def Zgc:ZP->Bool
 | .row _ _ xs=>xs.all Za2
 |_=>false
def Zgd:Option (AVal×Za)->Option (AVal×Za)
 |some (r,h)=>if(ZbC r&&h.isEmpty) ||(Zhs r&&h.all Zgc)then some (r,h)else none
 |none=>none
def Zi4:Option (AVal×Za)->Option (AVal×Za)
 |some (r,h)=>if ZcV r&&h.all ZoD then some (r,h)else none
 |none=>none
def ZbV(md:Nat)(r:Option (AVal×Za)):Option (AVal×Za):=match md with
 |0=>r
 |1=>Zgd r
 |_=>Zi4 r
def Zbb(bf:Nat->Bool)(f:Nat)(G:Za)(args:List AVal):Option (List AVal×List Nat×List Nat×Nat) :=
 if bf f then
  if bf (f+2000000)&&args.any Zig then match ZdT G args with
   |some (vs,ts,ls)=>if(Zl vs).isEmpty then some (vs,ts,ts++ls,2)else none
   |none=>none
  else if bf (f+3000000)then match showAs G args with
   |some (vs,ts)=>some (vs,ts,ts,0)
   |none=>none
  else some (args,[],[],0)
 else match showAs G args with
  |some (vs,ts)=>if vs.any Zcx then(if(Zl vs).isEmpty then some (vs.map ZbE,ts,ts,1)else none)else some (vs,ts,ts,0)
  |none=>none
def Zbk(O:ZS)(G Gf:Za)(ids:List Nat)(sq f own:Nat)(view:Bool)(vs:List AVal)(ts:List Nat)(md:Nat):Option (AVal×Za×Cls) :=
 if ids.all fun t=>okB (Gf.getD t .free)then
  Zaz G Gf ids ts sq own (ZV view ids.length (ZbV md (O f (Zj (Zn Gf 0 ids) vs) (Zo Gf 0 ids (Zn Gf 0 ids) ids 0))))
 else none
def Zq(O:ZS)(bf:Nat->Bool)(G:Za)(sq f own:Nat)(view:Bool)(args:List AVal):Option (AVal×Za×Cls) :=
 match Zbb bf f G args with
 |none=>none
 |some (vs,ts,us,md)=>Zbk O G (Zv G ts) (Zt (Zv G ts) 1000 (Zl vs) []) sq f own view vs us md
def Zgu:AVal->AVal->Option Bool
 | .int k a,.int k' b=>if k=k' then some (a==b)else none
 | .bool a,.bool b=>some (a==b)
 | .str a,.str b=>some (a==b)
 |_,_=>none
def Zbr:AVal->Nat
 | .int _ _=>0
 | .bool _=>1
 | .str _=>2
 |_=>4
def Zhu:List Nat->List AVal->Bool
 | [],[]=>true
 |k::ks,x::xs=>Zbr x==k&&Zhu ks xs
 |_,_=>false
def ZeO:List AVal->List AVal->Option Bool
 | [],[]=>some true
 |x::xs,y::ys=>match Zgu x y with
  |some b=>match ZeO xs ys with
   |some c=>some (b&&c)
   |none=>none
  |none=>none
 |_,_=>none
def Zoi(G:Za)(k:Nat)(z:AVal):AVal->Option (AVal×Za×Cls)
 | .sl t g lo n=>match G[t]? with
  |some (.row g' k' xs)=>if g'=g/\k'=k/\lo+n<=xs.length/\z.cells.length=k then some (.tup [],G.set t (.row g k (xs.take lo++XI n z++xs.drop (lo+n))),{ wr:=[t] })else none
  |_=>none
 |_=>none
def ZgC(l:List UInt8)(p:Nat):Nat×Nat:=Utf8.decode ⟨l.toArray⟩ p
def Zhh(G:Za)(a b:AVal):AVal->Option (AVal×Za×Cls)
 | .bool true=>some (a,G,{})
 | .bool false=>some (b,G,{})
 |_=>none
def ZlN:AVal->Bool
 | .int _ _ | .bool _ | .str _=>true
 |_=>false
def Zh9(k:AVal):List (AVal×AVal)->Nat->Option (Option (Nat×AVal))
 | [],_=>some none
 |(x,v)::r,i=>match Zgu k x with
  |some true=>some (some (i,v))
  |some false=>Zh9 k r (i+1)
  |none=>none
def Zr1(ok:Bool)(v:AVal)(b:Bool):AVal:=if ok then .tup [v,.bool b]else v
def ZgE(G:Za)(kc:Nat)(z:AVal)(ok:Bool)(m k:AVal):Option (AVal×Za×Cls) :=
 if Zbr k=kc then match m with
  | .nilm=>some (Zr1 ok z false,G,{})
  | .map t=>match G[t]? with
   |some (.map es)=>match Zh9 k es 0 with
    |some (some (_,v))=>some (Zr1 ok v true,G,{ rd:=[t] })
    |some none=>some (Zr1 ok z false,G,{ rd:=[t] })
    |none=>none
   |_=>none
  |_=>none
 else none
def ZmC(G:Za)(kc:Nat)(m k v:AVal):Option (AVal×Za×Cls) :=
 if Zbr k=kc/\ZlN k=true/\v.cells.all ZY=true then match m with
  | .map t=>match G[t]? with
   |some (.map es)=>match Zh9 k es 0 with
    |some (some (j,_))=>some (.tup [],G.set t (.map (es.set j (k,v))),{ wr:=[t] })
    |some none=>some (.tup [],G.set t (.map (es++[(k,v)])),{ wr:=[t] })
    |none=>none
   |_=>none
  |_=>none
 else none
def ZkS(G:Za)(kc:Nat)(m k:AVal):Option (AVal×Za×Cls) :=
 if Zbr k=kc then match m with
  | .nilm=>some (.tup [],G,{})
  | .map t=>match G[t]? with
   |some (.map es)=>match Zh9 k es 0 with
    |some (some (j,_))=>some (.tup [],G.set t (.map (es.eraseIdx j)),{ wr:=[t] })
    |some none=>some (.tup [],G.set t (.map es),{ wr:=[t] })
    |none=>none
   |_=>none
  |_=>none
 else none
def ZhR(G:Za):AVal->Option (AVal×Za×Cls)
 | .nilm=>some (.int .i64 0,G,{})
 | .map t=>match G[t]? with
  |some (.map es)=>some (.int .i64 es.length,G,{ rd:=[t] })
  |_=>none
 |_=>none
def execI (O : ZS) (bf : Nat -> Bool) (tm : Tms) (G : Za) (sq : Nat) : Ins -> Option (AVal × Za × Cls)
  | .mov x => some (x.ev tm, G, {})
  | .pick c a b => Zhh G (a.ev tm) (b.ev tm) (c.ev tm)
  | .alloc zs => some (.ref sq 0, G.set sq (.var zs), {})
  | .box x => match x.ev tm with
    | .tup _ => none
    | .top => none
    | .pan _ => none
    | v => some (.ref sq 0, G.set sq (.var v.cells), {})
  | .build zs parts => match Zao zs (parts.map fun p => (p.1, p.2.1, p.2.2.ev tm)) with
    | some cs => some (.agg cs, G, {})
    | none => none
  | .bslice own k n z parts => match viewAs G (parts.map fun p => p.2.ev tm) with
    | none => none
    | some (ys, ts) => if ys.all (fun y => y.cells.length == k) && (parts.all fun p => p.1 < n) && z.cells.length == k then
        let xs := ((parts.map (·.1)).zip ys).foldl (fun l p => l.set p.1 p.2) (XI n z)
        if own then some (.sl sq 0 0 n, (Zv G ts).set sq (.row 0 k xs), { rd := ts, wr := ts })
        else some (.lst true xs, Zv G ts, { rd := ts, wr := ts })
      else none
  | .ld k a => ldA G k (a.ev tm)
  | .st k a v => stA G k (a.ev tm) (v.ev tm)
  | .bin op x y => (binA op (x.ev tm) (y.ev tm)).map (·, G, {})
  | .un op x => (unA op (x.ev tm)).map (·, G, {})
  | .i2i k x => match x.ev tm with
    | .int _ n => some (.int k (k.wrap n), G, {})
    | _ => none
  | .same x => match x.ev tm with
    | .str l => some (.str l, G, {})
    | _ => none
  | .s2b x => match x.ev tm with
    | .str l => some (.lst false (l.map Zh), G, {})
    | _ => none
  | .b2s x => match ZZ G (x.ev tm) with
    | some (xs, ts) => match bytesOf xs with
      | some l => some (.str l, G, { rd := ts })
      | none => none
    | none => none
  | .slice k x lo hi mx => ZbO G k (x.ev tm) (lo.map (·.ev tm)) (hi.map (·.ev tm)) (mx.map (·.ev tm))
  | .sslice x lo hi => match x.ev tm with
    | .str s => match Za5 (hi.map (·.ev tm)) s.length s.length with
      | none => none
      | some h => match Za5 (lo.map (·.ev tm)) 0 h with
        | none => none
        | some l => some (.str ((s.take h).drop l), G, {})
    | _ => none
  | .faddr off x => (faddrA off (x.ev tm)).map (·, G, {})
  | .field k off x => match x.ev tm with
    | .agg cs => (partA k cs off).map (·, G, {})
    | _ => none
  | .iaddr k x i => Zc5 G k (x.ev tm) (i.ev tm)
  | .aaddr k n x i => match i.ev tm with
    | .int _ i => if 0 <= i /\ i < n then (faddrA (i.toNat * k) (x.ev tm)).map (·, G, {}) else none
    | _ => none
  | .sindex x i => match x.ev tm, i.ev tm with
    | .str s, .int _ i => if 0 <= i then (s[i.toNat]?).map fun b => (Zh b, G, {}) else none
    | _, _ => none
  | .aindex s k n x i => match x.ev tm, i.ev tm with
    | .agg cs, .int _ i => if 0 <= i /\ i < n then (partA s cs (i.toNat * k)).map (·, G, {}) else none
    | _, _ => none
  | .ext x i => match x.ev tm with
    | .tup vs => (vs[i]?).map (·, G, {})
    | _ => none
  | .len x => match x.ev tm with
    | .lst _ xs => some (.int .i64 xs.length, G, {})
    | .sl _ _ _ n => some (.int .i64 n, G, {})
    | .lnt l => some (.int .i64 l.length, G, {})
    | _ => none
  | .slen x => match x.ev tm with
    | .str l => some (.int .i64 l.length, G, {})
    | _ => none
  | .app k bytes _ x y => Zan G sq k bytes (x.ev tm) (y.ev tm)
  | .mkslice k bytes z l c => match l.ev tm, c.ev tm with
    | .int .i64 l, .int .i64 c => if 0 <= l /\ l <= c /\ c <= 9223372036854775807 /\ bytes * c <= 140737488355328 /\ z.cells.length = k then
        some (.sl sq 0 0 l.toNat, G.set sq (.row 0 k (XI c.toNat z)), {}) else none
    | _, _ => none
  | .mm max xs => match (xs.map fun x => x.ev tm : List AVal) with
    | [.int k a, .int _ b] => some (.int k (if max then (if b > a then b else a) else (if b < a then b else a)), G, {})
    | _ => none
  | .nilchk x => match x.ev tm with
    | .ref t o => some (.ref t o, G, {})
    | .eref t g i o => some (.eref t g i o, G, {})
    | .iptr x o => some (.iptr x o, G, {})
    | _ => none
  | .s2s x => match x.ev tm with
    | .sl t g lo n => match G[t]? with
      | some (.row g' k xs) => if g' = g /\ lo + n <= xs.length /\ 0 < n then some (.lst false ((xs.drop lo).take n), G.set t (.frow g k xs), { wr := [t] }) else none
      | _ => none
    | _ => none
  | .beq neg x y => match x.ev tm, y.ev tm with
    | .bool a, .bool b => some (.bool ((a == b) != neg), G, {})
    | _, _ => none
  | .peq neg x y => match x.ev tm, y.ev tm with
    | .nilp, .nilp => some (.bool (true != neg), G, {})
    | .nilp, .ref _ _ => some (.bool (false != neg), G, {})
    | .ref _ _, .nilp => some (.bool (false != neg), G, {})
    | _, _ => none
  | .eqv neg ks x y => match x.ev tm, y.ev tm with
    | .agg xs, .agg ys => if Zhu ks xs then match ZeO xs ys with
      | some b => some (.bool (b != neg), G, {})
      | none => none else none
    | _, _ => none
  | .ieq neg x y => match x.ev tm, y.ev tm with
    | .nili, .nili => some (.bool (true != neg), G, {})
    | .nili, .iface _ _ => some (.bool (false != neg), G, {})
    | .iface _ _, .nili => some (.bool (false != neg), G, {})
    | _, _ => none
  | .mki t x => match x.ev tm with
    | .tup _ => none
    | .top => none
    | .pan _ => none
    | v => some (.iface t v, G, {})
  | .panic x => match x.ev tm with
    | .iface t v => some (.pan (.iface t v), G, {})
    | _ => none
  | .call f own view args => Zq O bf G sq f own view (args.map (·.ev tm))
  | .callv x args => match x.ev tm with
    | .fn f caps => Zq O bf G sq (if f < 1000000 then f else f - 1000000) 4 false (if f < 1000000 then args.map (·.ev tm) ++ caps else caps ++ args.map (·.ev tm))
    | _ => none
  | .mkfn f caps => some (.fn f (caps.map (·.ev tm)), G, {})
  | .i2s x => match x.ev tm with
    | .int _ n => some (.str (Utf8.encode n).data.toList, G, {})
    | _ => none
  | .clr k z x => Zoi G k z (x.ev tm)
  | .mkmap => some (.map sq, G.set sq (.map []), {})
  | .look kc z ok m k => ZgE G kc z ok (m.ev tm) (k.ev tm)
  | .mset kc m k v => ZmC G kc (m.ev tm) (k.ev tm) (v.ev tm)
  | .mdel kc m k => ZkS G kc (m.ev tm) (k.ev tm)
  | .mlen m => ZhR G (m.ev tm)
  | .rslice k n z parts => if (parts.all fun p => (p.2.ev tm).cells.length == k && (p.2.ev tm).cells.all ZY) && (parts.all fun p => p.1 < n) && z.cells.length == k && z.cells.all ZY then
      some (.sl sq 0 0 n, G.set sq (.rrow 0 k ((parts.map fun p => (p.1, p.2.ev tm)).foldl (fun l p => l.set p.1 p.2) (XI n z))), {})
    else none
  | .rng x => match x.ev tm with
    | .str l => some (.ref sq 0, G.set sq (.siter l 0), {})
    | _ => none
  | .nxt x => match x.ev tm with
    | .ref t 0 => match G[t]? with
      | some (.siter l p) => if p < l.length then some (.tup [.bool true, .int .i64 p, .int .i32 (ZgC l p).1], G.set t (.siter l (p + (ZgC l p).2)), { any := true })
        else some (.tup [.bool false], G, { any := true })
      | _ => none
    | _ => none
def nsite:Ins->Nat
 | .alloc _ | .box _ | .app .. | .mkslice .. | .rslice .. | .rng _ | .mkmap=>1
 | .bslice own ..=>if own then 1 else 0
 | .call _ own _ _=>own
 | .callv _ _=>4
 |_=>0
def ZbM(g:Option (Nat×Bool))(tm:Tms):Option Bool :=
 match g with
 |none=>some true
 |some (j,want)=>match tget tm j with
  | .bool b=>some (b==want)
  | .tup []=>some false
  |_=>none
def ZW (O : ZS) (bf : Nat -> Bool) (o : AOp) (sq : Nat) (tm : Tms) (G : Za) : Option (AVal × Tms × Za × Cls) :=
  match ZbM o.guard tm with
  | none => none
  | some false => some (.tup [], tput tm o.dst (.tup []), G, {})
  | some true => if nsite o.ins == 0 || freeAt G sq then
      match execI O bf tm G sq o.ins with
      | some (v, G', c) => some (v, tput tm o.dst v, G', c)
      | none => none
    else none
def Zac(O:ZS)(bf:Nat->Bool):List AOp->Nat->Tms->Za->Option (Tms×Za×List Cls×Option AVal)
 | [],_,tm,G=>some (tm,G,[],none)
 |o::os,s,tm,G=>match ZW O bf o s tm G with
  |none=>none
  |some (.pan x,tm',G',c)=>some (tm',G',[c],some x)
  |some (_,tm',G',c)=>match Zac O bf os (s+nsite o.ins) tm' G' with
   |none=>none
   |some (tm'',G'',cs,p)=>some (tm'',G'',c::cs,p)
def sitesOf(ops:List AOp):Nat:=(ops.map fun o=>nsite o.ins).sum
def ZcP(o:AOp)(c:Cls):Bool:=nsite o.ins==0&&c.rd.isEmpty&&c.wr.isEmpty && !c.any
def ZeJ(c:Cls):Bool:=c.wr.isEmpty && !c.any
def ZaG:Ins->Bool
 | .call ..=>true
 | .callv ..=>true
 |_=>false
def ZaP:Ins->Bool
 | .ld ..=>true
 |_=>false
def ZaU:Ins->Bool
 | .app ..=>true
 |_=>false
def Zbl:Ins->Bool
 | .ld ..=>true
 | .iaddr ..=>true
 |_=>false
def Zbg:Ins->Bool
 | .bslice own ..=>!own
 |_=>false
def Zbi:Ins->Bool
 | .st ..=>true
 |_=>false
def Zei:AVal->AVal->Bool
 | .int k a,.int k' b=>decide (k=k')&&decide (a=b)
 | .bool a,.bool b=>a==b
 | .str a,.str b=>a==b
 | .nilp,.nilp=>true
 | .nilm,.nilm=>true
 | .nili,.nili=>true
 | .ref t o,.ref t' o'=>decide (t=t')&&decide (o=o')
 | .sl t g l n,.sl t' g' l' n'=>decide (t=t')&&decide (g=g')&&decide (l=l')&&decide (n=n')
 | .lst a [],.lst b []=>a==b
 |_,_=>false
def ZaV(cj ci:Cls):Bool:=match cj.got with
 | [(t,k,o,v)]=>match ci.upd.lookup t with
  |none=>true
  |some cs=>match partA k cs o with
   |some u=>Zei u v
   |none=>false
 |_=>false
def Zbq(cj ci:Cls):Bool:=match cj.got with
 | [(t,_,_,_)]=>!ci.wr.contains t
 |_=>false
def Zbo(cj ci:Cls)(sj:Nat):Bool:=match ci.got with
 | [(t,_,_,_)]=>decide (t<sj)&&(cj.upd.lookup t).isNone
 |_=>false
def Zdc(oj oi:AOp)(cj ci:Cls)(sj:Nat):Bool:=ZcP oj cj ||ZcP oi ci ||(ZeJ cj&&ZeJ ci&&(nsite oj.ins==0 || !ci.rd.contains sj)) ||((ZaG oj.ins ||(ZaU oj.ins && !cj.any))&&(ZeJ ci&&ci.rd.isEmpty)) ||(ZaP oj.ins&&ZaG oi.ins&&ci.any&&ZaV cj ci) ||(ZaP oj.ins&&(ZaU oi.ins ||(Zbi oi.ins&&Zbq cj ci))&&ZaV cj ci) ||(Zbl oj.ins&&Zbg oi.ins) ||(ZaG oj.ins&&ZaP oi.ins&&cj.any&&Zbo cj ci sj)
def Zeb(ops:List AOp)(base:Nat)(chk:List (Nat×Nat))(cs:List Cls):Bool :=
 chk.all fun p=>p.1==p.2 ||Zdc (ops.getD p.1 default) (ops.getD p.2 default) (cs.getD p.1 {}) (cs.getD p.2 {}) (base+sitesOf (ops.take p.1))
def Zef(ops:List AOp)(base:Nat)(chk:List (Nat×Nat))(cs:List Cls):Bool :=
 (chk.any fun p=>p.1==cs.length-1&&p.2==cs.length-1)&&chk.all fun p=>p.1==p.2 ||decide (cs.length<=p.2) ||(Zdc (ops.getD p.1 default) (ops.getD p.2 default) (cs.getD p.1 {}) (cs.getD p.2 {}) (base+sitesOf (ops.take p.1))&&(decide (p.2+1<cs.length) ||ZaP (ops.getD p.1 default).ins))
inductive Za6 where
 |normal
 |exit (id:Nat)
 |ret
 |panic (x:AVal)
 deriving Inhabited
def ZdH(ops:List AOp)(L:Nat)(chk:Option (List (Nat×Nat)))(live:List Nat):Option (Tms×Za×List Cls×Option AVal)->Option (Za6×Tms×Za)
 |none=>none
 |some (_,G,cs,some x)=>match chk with
  |none=>some (.panic x,[],G)
  |some l=>if Zef ops L l cs then some (.panic x,[],G)else none
 |some (tm,G,cs,none)=>match chk with
  |none=>some (.normal,keepL live tm,G)
  |some l=>if Zeb ops L l cs then some (.normal,keepL live tm,G)else none
def Zcq(O:ZS)(bf:Nat->Bool)(ops:List AOp)(chk:Option (List (Nat×Nat)))(live:List Nat)(tm:Tms)(G:Za):Option (Za6×Tms×Za) :=
 ZdH ops G.length chk live (Zac O bf ops G.length tm (G++XI (sitesOf ops) .free))
def Zeu(m:Nat)(live:List Nat)(f:Tms->Za->Option (Za6×Tms×Za)):Nat->Tms->Za->Option (Za6×Tms×Za)
 |0,_,_=>none
 |n+1,tm,G=>match f (gcT m (keepL live tm) G).1 (gcT m (keepL live tm) G).2 with
  |some (.normal,tm',G')=>Zeu m live f n tm' G'
  |r=>r
def Zam(O:ZS)(bf:Nat->Bool)(m n:Nat):Zf->Tms->Za->Option (Za6×Tms×Za)
 | .skip,tm,G=>some (.normal,tm,G)
 | .region ops chk live,tm,G=>Zcq O bf ops chk live tm G
 | .seq a b,tm,G=>match Zam O bf m n a tm G with
  |some (.normal,tm',G')=>Zam O bf m n b tm' G'
  |r=>r
 | .cond c a b,tm,G=>match c.ev tm with
  | .bool true=>Zam O bf m n a tm G
  | .bool false=>Zam O bf m n b tm G
  |_=>none
 | .block id c,tm,G=>match Zam O bf m n c tm G with
  |some (.exit i,tm',G')=>if i=id then some (.normal,tm',G')else some (.exit i,tm',G')
  |r=>r
 | .loop live c,tm,G=>Zeu m live (Zam O bf m n c) n tm G
 | .exit id,tm,G=>some (.exit id,tm,G)
 | .ret,tm,G=>some (.ret,tm,G)
 | .stuck,_,_=>none
def resOne(tm:Tms)(G:Za):Zdw->Option AVal
 | .tmp t=>some (tget tm t)
 | .cell a k=>match ldA G k (tget tm a)with
  |some (v,_,_)=>some v
  |none=>none
def resAll(tm:Tms)(G:Za):List Zdw->Option (List AVal)
 | []=>some []
 |r::rs=>match resOne tm G r with
  |some v=>match resAll tm G rs with
   |some vs=>some (v::vs)
   |none=>none
  |none=>none
def resA(tm:Tms)(G:Za)(rs:List Zdw):Option AVal :=
 match resAll tm G rs with
 |some [v]=>some v
 |some vs=>some (.tup vs)
 |none=>none
def ZR(m:Nat)(G:Za)(r:AVal):Option (AVal×Za):=match gcA m [r] G with
 |([r'],G')=>some (r',G')
 |_=>none
def Zax(m:Nat)(fn:ZM):Option (Za6×Tms×Za)->Option (AVal×Za)
 |some (.normal,tm,G)=>match resA tm G fn.res with
  |some r=>ZR m G r
  |none=>none
 |some (.ret,tm,G)=>match resA tm G fn.res with
  |some r=>ZR m G r
  |none=>none
 |some (.panic x,_,G)=>ZR m G (.pan x)
 |_=>none
def enterA:Nat->List AVal->Tms->Tms
 |_,[],acc=>acc
 |i,x::xs,acc=>enterA (i+1) xs ((i,x)::acc)
abbrev ZcR:=Nat->Option (List AVal->Za->Option (AVal×Za))
def Zau(fs:Nat->Option ZM)(prim:ZcR)(bf:Nat->Bool):Nat->ZS
 |0,_,_,_=>none
 |n+1,f,args,G=>match prim f with
  |some g=>g args G
  |none=>match fs f with
   |none=>none
   |some fn=>Zax G.length fn (Zam (Zau fs prim bf n) bf G.length n fn.body (enterA 0 args []) G)
def oI(d:Nat)(i:Ins):AOp:=⟨some d,i,none,[]⟩
def oN(i:Ins):AOp:=⟨none,i,none,[]⟩
def oM(d n:Nat):AOp:=⟨some d,.mov (.t n),none,[]⟩
def oF(d o n:Nat):AOp:=⟨some d,.faddr o (.t n),none,[]⟩
def oL(d n:Nat):AOp:=⟨some d,.ld none (.t n),none,[]⟩
end
section
open Go.RowKit
structure Imm where
 im:Nat->Nat->Option Value
 ln:Nat->Nat->Option Value
instance:CoeFun Imm (fun _=>Nat->Nat->Option Value):=⟨Imm.im⟩
structure BI where
 b:Option Nat
 k:Nat
 cap:Nat
abbrev Bmap:=Nat->Nat->Option BI
mutual
def ZaN:AVal->Bool
 | .int _ _=>true
 | .bool _=>true
 | .str _=>true
 | .nilp=>true
 | .nilm=>true
 | .nili=>true
 | .lst _ xs=>Zaq xs
 |_=>false
def ZaK:List AVal->Bool
 | []=>true
 |c::cs=>ZaN c&&ZaK cs
def Zaq:List AVal->Bool
 | []=>true
 | .agg cs::xs=>ZaK cs&&Zaq xs
 |x::xs=>ZaN x&&Zaq xs
end
mutual
def VR(I:Imm)(V:Bmap):AVal->Value->Prop
 | .top,_=>True
 | .any,v=>v.cells=#[v]/\v.oneCell'=true
 | .int k n,v=>v=.int k n
 | .bool b,v=>v=.bool b
 | .str l,v=>v=.string ⟨l.toArray⟩/\l.length<=9223372036854775807
 | .nilp,v=>v=.pointer none
 | .ref t o,v=>∃ b k c,V t 0=some ⟨some b,k,c⟩/\v=.pointer (some ⟨b,o,none⟩)
 | .eref t g i o,v=>∃ b k c,V t g=some ⟨some b,k,c⟩/\v=.pointer (some ⟨b,i*k+o,none⟩)
 | .iptr cs o,v=>∃ b off,v=.pointer (some ⟨b,off+o,none⟩)/\CR I V cs b off/\ZaK cs=true
 | .lst x xs,v=>∃ A cap,v=.slice A xs.length cap/\xs.length<=cap/\cap<=9223372036854775807/\(x=true->cap=xs.length)/\(xs=[]\/∃ b off k,A=some ⟨b,off,none⟩/\0<k/\LR I V k xs b off)/\Zaq xs=true
 | .sl t g lo n,v=>∃ bi,V t g=some bi/\lo+n<=bi.cap/\bi.cap<=9223372036854775807/\((∃ b,bi.b=some b/\v=.slice (some ⟨b,lo*bi.k,none⟩) n (bi.cap-lo))\/(bi.b=none/\bi.cap=0/\∃ A,v=.slice A 0 0)\/(0<lo/\lo=bi.cap/\n=0/\∃ A,v=.slice A 0 0))
 | .agg cs,v=>∃ us,v=.agg us/\VRs I V cs us.toList
 | .tup vs,v=>∃ us,v=.tuple us/\VRs I V vs us.toList
 | .fn f caps,v=>∃ fs us,v=.func (.func (if f<1000000 then f else f-1000000)) fs us/\(if f<1000000 then fs=#[]else us=#[])/\VRs I V caps (fs.toList++us.toList)
 | .nilm,v=>v=.map none
 | .map t,v=>∃ b k c,V t 0=some ⟨some b,k,c⟩/\v=.map (some b)
 | .nili,v=>v=.nilIface
 | .iface t x,v=>∃ u,v=.iface t u/\VR I V x u
 | .pan _,_=>False
 | .lnt l,v=>∃ A cap,v=.slice A l.length cap/\l.length<=cap/\cap<=9223372036854775807/\(l=[]\/∃ b off,A=some ⟨b,off,none⟩/\∀ i c,l[i]?=some c->I.im b (off+i)=some (.int .u8 c.toNat)\/I.ln b (off+i)=some (.int .u8 c.toNat))
def VRs(I:Imm)(V:Bmap):List AVal->List Value->Prop
 | [],vs=>vs=[]
 |x::xs,vs=>∃ v vs',vs=v::vs'/\VR I V x v/\VRs I V xs vs'
def CR(I:Imm)(V:Bmap):List AVal->Nat->Nat->Prop
 | [],_,_=>True
 |c::cs,b,off=>(∃ u,I b off=some u/\VR I V c u)/\CR I V cs b (off+1)
def LR(I:Imm)(V:Bmap)(k:Nat):List AVal->Nat->Nat->Prop
 | [],_,_=>True
 | .agg cs::xs,b,off=>(cs.length=k/\CR I V cs b off)/\LR I V k xs b (off+k)
 |x::xs,b,off=>(1=k/\∃ u,I b off=some u/\VR I V x u)/\LR I V k xs b (off+k)
end
def Imm.sub(I I':Imm):Prop:=(∀ b o u,I b o=some u->I' b o=some u)/\∀ b o u,I.ln b o=some u->I'.ln b o=some u
def Imm.le(I I':Imm):Prop:=(∀ b o u,I b o=some u->I' b o=some u)/\I'.ln=I.ln
instance {I I':Imm}:CoeFun (I.le I') (fun _=>∀ b o u,I b o=some u->I' b o=some u):=⟨And.left⟩
theorem Imm.le.sub{I I':Imm}(h:I.le I'):I.sub I':=⟨h.1,fun b o u e=>by rw[h.2];exact e⟩
def Bmap.le(V V':Bmap):Prop:=∀ t g bi,V t g=some bi->V' t g=some bi
theorem Imm.le.refl(I:Imm):I.le I:=⟨fun _ _ _ h=>h,rfl⟩
theorem Bmap.le.refl(V:Bmap):V.le V:=fun _ _ _ h=>h
theorem Imm.le.trans{I J K:Imm}(h:I.le J)(h':J.le K):I.le K:=⟨fun b o u e=>h'.1 b o u (h.1 b o u e),h'.2.trans h.2⟩
theorem Bmap.le.trans{I J K:Bmap}(h:I.le J)(h':J.le K):I.le K:=fun b o u e=>h' b o u (h b o u e)
mutual
theorem VR.monoS{I I':Imm}{V V':Bmap}(hI:I.sub I')(hV:V.le V'):∀ (x:AVal) (v:Value),VR I V x v->VR I' V' x v
 | .top,_,_=>by simp only[VR]
 | .pan _,_,h=>by simp only[VR]at h
 | .nili,_,h=>by simpa only[VR]using h
 | .lnt l,_,h=>by
  simp only[VR]at h⊢
  obtain⟨A,cap,h1,h2,h3,h4⟩:=h
  refine⟨A,cap,h1,h2,h3,h4.imp id ?_⟩
  rintro⟨b,off,e,h5⟩
  exact⟨b,off,e,fun i c hc=>(h5 i c hc).imp (hI.1 _ _ _) (hI.2 _ _ _)⟩
 | .iface t x,_,h=>by
  simp only[VR]at h⊢
  obtain⟨u,h1,h2⟩:=h
  exact⟨u,h1,VR.monoS hI hV x u h2⟩
 | .any,_,h=>by simpa only[VR]using h
 | .int _ _,_,h=>by simpa only[VR]using h
 | .bool _,_,h=>by simpa only[VR]using h
 | .str _,_,h=>by simpa only[VR]using h
 | .nilp,_,h=>by simpa only[VR]using h
 | .nilm,_,h=>by simpa only[VR]using h
 | .ref t o,_,h=>by
  simp only[VR]at h⊢
  obtain⟨b,k,c,h1,h2⟩:=h
  exact⟨b,k,c,hV _ _ _ h1,h2⟩
 | .eref t g i o,_,h=>by
  simp only[VR]at h⊢
  obtain⟨b,k,c,h1,h2⟩:=h
  exact⟨b,k,c,hV _ _ _ h1,h2⟩
 | .map t,_,h=>by
  simp only[VR]at h⊢
  obtain⟨b,k,c,h1,h2⟩:=h
  exact⟨b,k,c,hV _ _ _ h1,h2⟩
 | .iptr cs o,_,h=>by
  simp only[VR]at h⊢
  obtain⟨b,off,h1,h2,h3⟩:=h
  exact⟨b,off,h1,CR.monoS hI hV cs b off h2,h3⟩
 | .lst x xs,_,h=>by
  simp only[VR]at h⊢
  obtain⟨A,cap,h1,h2,h3,h4,h5,h6⟩:=h
  refine⟨A,cap,h1,h2,h3,h4,?_,h6⟩
  rcases h5 with h5 |⟨b,off,k,e,hk,h5⟩
  ·grind
  ·exact Xt ⟨b,off,k,e,hk,LR.monoS hI hV k xs b off h5⟩
 | .sl t g lo n,_,h=>by
  simp only[VR]at h⊢
  obtain⟨bi,h1,h2⟩:=h
  exact⟨bi,hV _ _ _ h1,h2⟩
 | .agg cs,_,h=>by
  simp only[VR]at h⊢
  obtain⟨us,h1,h2⟩:=h
  exact⟨us,h1,VRs.monoS hI hV cs us.toList h2⟩
 | .tup cs,_,h=>by
  simp only[VR]at h⊢
  obtain⟨us,h1,h2⟩:=h
  exact⟨us,h1,VRs.monoS hI hV cs us.toList h2⟩
 | .fn f cs,_,h=>by
  simp only[VR]at h⊢
  obtain⟨fs,us,h1,h0,h2⟩:=h
  exact⟨fs,us,h1,h0,VRs.monoS hI hV cs (fs.toList++us.toList) h2⟩
theorem VRs.monoS{I I':Imm}{V V':Bmap}(hI:I.sub I')(hV:V.le V'):∀ (xs:List AVal) (vs:List Value),VRs I V xs vs->VRs I' V' xs vs
 | [],_,h=>by simpa only[VRs]using h
 |x::xs,_,h=>by
  simp only[VRs]at h⊢
  obtain⟨v,vs',h1,h2,h3⟩:=h
  exact⟨v,vs',h1,VR.monoS hI hV x v h2,VRs.monoS hI hV xs vs' h3⟩
theorem CR.monoS{I I':Imm}{V V':Bmap}(hI:I.sub I')(hV:V.le V'):∀ (xs:List AVal) (b off:Nat),CR I V xs b off->CR I' V' xs b off
 | [],_,_,_=>by simp only[CR]
 |x::xs,b,off,h=>by
  simp only[CR]at h⊢
  obtain⟨⟨u,h1,h2⟩,h3⟩:=h
  exact⟨⟨u,hI.1 _ _ _ h1,VR.monoS hI hV x u h2⟩,CR.monoS hI hV xs b (off+1) h3⟩
theorem LR.monoS{I I':Imm}{V V':Bmap}(hI:I.sub I')(hV:V.le V')(k:Nat):∀ (xs:List AVal) (b off:Nat),LR I V k xs b off->LR I' V' k xs b off
 | [],_,_,_=>by simp only[LR]
 | .agg cs::xs,b,off,h=>by
  simp only[LR]at h⊢
  obtain⟨⟨h1,h2⟩,h3⟩:=h
  exact⟨⟨h1,CR.monoS hI hV cs b off h2⟩,LR.monoS hI hV k xs b (off+k) h3⟩
 | .int a b'::xs,b,off,h=>by
  simp only[LR]at h⊢
  obtain⟨⟨h0,u,h1,h2⟩,h3⟩:=h
  exact⟨⟨h0,u,hI.1 _ _ _ h1,VR.monoS hI hV _ u h2⟩,LR.monoS hI hV k xs b (off+k) h3⟩
 | .any::xs,b,off,h=>by
  simp only[LR]at h⊢
  obtain⟨⟨h0,u,h1,h2⟩,h3⟩:=h
  exact⟨⟨h0,u,hI.1 _ _ _ h1,VR.monoS hI hV _ u h2⟩,LR.monoS hI hV k xs b (off+k) h3⟩
 | .bool _::xs,b,off,h=>by
  simp only[LR]at h⊢
  obtain⟨⟨h0,u,h1,h2⟩,h3⟩:=h
  exact⟨⟨h0,u,hI.1 _ _ _ h1,VR.monoS hI hV _ u h2⟩,LR.monoS hI hV k xs b (off+k) h3⟩
 | .str _::xs,b,off,h=>by
  simp only[LR]at h⊢
  obtain⟨⟨h0,u,h1,h2⟩,h3⟩:=h
  exact⟨⟨h0,u,hI.1 _ _ _ h1,VR.monoS hI hV _ u h2⟩,LR.monoS hI hV k xs b (off+k) h3⟩
 | .nilp::xs,b,off,h=>by
  simp only[LR]at h⊢
  obtain⟨⟨h0,u,h1,h2⟩,h3⟩:=h
  exact⟨⟨h0,u,hI.1 _ _ _ h1,VR.monoS hI hV _ u h2⟩,LR.monoS hI hV k xs b (off+k) h3⟩
 | .nilm::xs,b,off,h=>by
  simp only[LR]at h⊢
  obtain⟨⟨h0,u,h1,h2⟩,h3⟩:=h
  exact⟨⟨h0,u,hI.1 _ _ _ h1,VR.monoS hI hV _ u h2⟩,LR.monoS hI hV k xs b (off+k) h3⟩
 | .ref _ _::xs,b,off,h=>by
  simp only[LR]at h⊢
  obtain⟨⟨h0,u,h1,h2⟩,h3⟩:=h
  exact⟨⟨h0,u,hI.1 _ _ _ h1,VR.monoS hI hV _ u h2⟩,LR.monoS hI hV k xs b (off+k) h3⟩
 | .eref _ _ _ _::xs,b,off,h=>by
  simp only[LR]at h⊢
  obtain⟨⟨h0,u,h1,h2⟩,h3⟩:=h
  exact⟨⟨h0,u,hI.1 _ _ _ h1,VR.monoS hI hV _ u h2⟩,LR.monoS hI hV k xs b (off+k) h3⟩
 | .iptr _ _::xs,b,off,h=>by
  simp only[LR]at h⊢
  obtain⟨⟨h0,u,h1,h2⟩,h3⟩:=h
  exact⟨⟨h0,u,hI.1 _ _ _ h1,VR.monoS hI hV _ u h2⟩,LR.monoS hI hV k xs b (off+k) h3⟩
 | .lst _ _::xs,b,off,h=>by
  simp only[LR]at h⊢
  obtain⟨⟨h0,u,h1,h2⟩,h3⟩:=h
  exact⟨⟨h0,u,hI.1 _ _ _ h1,VR.monoS hI hV _ u h2⟩,LR.monoS hI hV k xs b (off+k) h3⟩
 | .sl _ _ _ _::xs,b,off,h=>by
  simp only[LR]at h⊢
  obtain⟨⟨h0,u,h1,h2⟩,h3⟩:=h
  exact⟨⟨h0,u,hI.1 _ _ _ h1,VR.monoS hI hV _ u h2⟩,LR.monoS hI hV k xs b (off+k) h3⟩
 | .top::xs,b,off,h=>by
  simp only[LR]at h⊢
  obtain⟨⟨h0,u,h1,h2⟩,h3⟩:=h
  exact⟨⟨h0,u,hI.1 _ _ _ h1,VR.monoS hI hV _ u h2⟩,LR.monoS hI hV k xs b (off+k) h3⟩
 | .pan _::xs,b,off,h=>by
  simp only[LR]at h⊢
  obtain⟨⟨h0,u,h1,h2⟩,h3⟩:=h
  exact⟨⟨h0,u,hI.1 _ _ _ h1,VR.monoS hI hV _ u h2⟩,LR.monoS hI hV k xs b (off+k) h3⟩
 | .nili::xs,b,off,h=>by
  simp only[LR]at h⊢
  obtain⟨⟨h0,u,h1,h2⟩,h3⟩:=h
  exact⟨⟨h0,u,hI.1 _ _ _ h1,VR.monoS hI hV _ u h2⟩,LR.monoS hI hV k xs b (off+k) h3⟩
 | .iface _ _::xs,b,off,h=>by
  simp only[LR]at h⊢
  obtain⟨⟨h0,u,h1,h2⟩,h3⟩:=h
  exact⟨⟨h0,u,hI.1 _ _ _ h1,VR.monoS hI hV _ u h2⟩,LR.monoS hI hV k xs b (off+k) h3⟩
 | .tup _::xs,b,off,h=>by
  simp only[LR]at h⊢
  obtain⟨⟨h0,u,h1,h2⟩,h3⟩:=h
  exact⟨⟨h0,u,hI.1 _ _ _ h1,VR.monoS hI hV _ u h2⟩,LR.monoS hI hV k xs b (off+k) h3⟩
 | .fn _ _::xs,b,off,h=>by
  simp only[LR]at h⊢
  obtain⟨⟨h0,u,h1,h2⟩,h3⟩:=h
  exact⟨⟨h0,u,hI.1 _ _ _ h1,VR.monoS hI hV _ u h2⟩,LR.monoS hI hV k xs b (off+k) h3⟩
 | .lnt _::xs,b,off,h=>by
  simp only[LR]at h⊢
  obtain⟨⟨h0,u,h1,h2⟩,h3⟩:=h
  exact⟨⟨h0,u,hI.1 _ _ _ h1,VR.monoS hI hV _ u h2⟩,LR.monoS hI hV k xs b (off+k) h3⟩
 | .map _::xs,b,off,h=>by
  simp only[LR]at h⊢
  obtain⟨⟨h0,u,h1,h2⟩,h3⟩:=h
  exact⟨⟨h0,u,hI.1 _ _ _ h1,VR.monoS hI hV _ u h2⟩,LR.monoS hI hV k xs b (off+k) h3⟩
end
theorem VR.mono{I I':Imm}{V V':Bmap}(hI:I.le I')(hV:V.le V')(x:AVal)(v:Value)(h:VR I V x v):VR I' V' x v:=VR.monoS hI.sub hV x v h
theorem VRs.mono{I I':Imm}{V V':Bmap}(hI:I.le I')(hV:V.le V')(xs:List AVal)(vs:List Value)(h:VRs I V xs vs):VRs I' V' xs vs:=VRs.monoS hI.sub hV xs vs h
theorem CR.mono{I I':Imm}{V V':Bmap}(hI:I.le I')(hV:V.le V')(xs:List AVal)(b off:Nat)(h:CR I V xs b off):CR I' V' xs b off:=CR.monoS hI.sub hV xs b off h
theorem LR.mono{I I':Imm}{V V':Bmap}(hI:I.le I')(hV:V.le V')(k:Nat)(xs:List AVal)(b off:Nat)(h:LR I V k xs b off):LR I' V' k xs b off:=LR.monoS hI.sub hV k xs b off h
theorem Zhm(I:Imm)(V:Bmap)(k:Nat)(x:AVal)(xs:List AVal)(b off:Nat):LR I V k (x::xs) b off↔(x.cells.length=k/\CR I V x.cells b off)/\LR I V k xs b (off+k):=by
 cases x<;>simp[LR,CR,AVal.cells]
theorem Zse(x:AVal)(xs:List AVal):Zaq (x::xs)=(ZaK x.cells&&Zaq xs):=by
 cases x<;>simp[Zaq,ZaK,AVal.cells]
def B0:Bmap:=fun _ _=>none
theorem ZhA(V:Bmap):B0.le V:=fun _ _ _ h=>by cases h
mutual
theorem VR.treeI{I I':Imm}{V:Bmap}(hI:∀ b o u,I b o=some u->I' b o=some u):∀ (x:AVal) (v:Value),ZaN x=true->VR I V x v->VR I' B0 x v
 | .int _ _,_,_,h=>by simpa only[VR]using h
 | .bool _,_,_,h=>by simpa only[VR]using h
 | .str _,_,_,h=>by simpa only[VR]using h
 | .nilp,_,_,h=>by simpa only[VR]using h
 | .nilm,_,_,h=>by simpa only[VR]using h
 | .nili,_,_,h=>by simpa only[VR]using h
 | .top,_,ht,_=>by simp[ZaN]at ht
 | .pan _,_,ht,_=>by simp[ZaN]at ht
 | .iface _ _,_,ht,_=>by simp[ZaN]at ht
 | .lst x xs,_,ht,h=>by
  simp only[VR]at h⊢
  obtain⟨A,cap,h1,h2,h3,h4,h5,h6⟩:=h
  refine⟨A,cap,h1,h2,h3,h4,?_,h6⟩
  rcases h5 with h5 |⟨b,off,k,e,hk,h5⟩
  ·grind
  ·exact Xt ⟨b,off,k,e,hk,LR.treeI hI k xs b off h6 h5⟩
 | .any,_,ht,_=>by simp[ZaN]at ht
 | .ref _ _,_,ht,_=>by simp[ZaN]at ht
 | .eref _ _ _ _,_,ht,_=>by simp[ZaN]at ht
 | .iptr _ _,_,ht,_=>by simp[ZaN]at ht
 | .sl _ _ _ _,_,ht,_=>by simp[ZaN]at ht
 | .agg _,_,ht,_=>by simp[ZaN]at ht
 | .tup _,_,ht,_=>by simp[ZaN]at ht
 | .fn _ _,_,ht,_=>by simp[ZaN]at ht
 | .map _,_,ht,_=>by simp[ZaN]at ht
 | .lnt _,_,ht,_=>by simp[ZaN]at ht
theorem CR.treeI{I I':Imm}{V:Bmap}(hI:∀ b o u,I b o=some u->I' b o=some u):∀ (xs:List AVal) (b off:Nat),ZaK xs=true->CR I V xs b off->CR I' B0 xs b off
 | [],_,_,_,_=>by simp only[CR]
 |x::xs,b,off,ht,h=>by
  simp only[CR]at h⊢
  simp only[ZaK,Xk]at ht
  obtain⟨⟨u,h1,h2⟩,h3⟩:=h
  exact⟨⟨u,hI _ _ _ h1,VR.treeI hI x u ht.1 h2⟩,CR.treeI hI xs b (off+1) ht.2 h3⟩
theorem LR.treeI{I I':Imm}{V:Bmap}(hI:∀ b o u,I b o=some u->I' b o=some u)(k:Nat):∀ (xs:List AVal) (b off:Nat),Zaq xs=true->LR I V k xs b off->LR I' B0 k xs b off
 | [],_,_,_,_=>by simp only[LR]
 | .agg cs::xs,b,off,ht,h=>by
  simp only[LR]at h⊢
  simp only[Zaq,Xk]at ht
  exact⟨⟨h.1.1,CR.treeI hI cs b off ht.1 h.1.2⟩,LR.treeI hI k xs b (off+k) ht.2 h.2⟩
 | .int p q::xs,b,off,ht,h=>by
  simp only[LR]at h⊢
  simp only[Zaq,Xk]at ht
  obtain⟨⟨h0,u,h1,h2⟩,h3⟩:=h
  exact⟨⟨h0,u,hI _ _ _ h1,VR.treeI hI _ u ht.1 h2⟩,LR.treeI hI k xs b (off+k) ht.2 h3⟩
 | .bool p::xs,b,off,ht,h=>by
  simp only[LR]at h⊢
  simp only[Zaq,Xk]at ht
  obtain⟨⟨h0,u,h1,h2⟩,h3⟩:=h
  exact⟨⟨h0,u,hI _ _ _ h1,VR.treeI hI _ u ht.1 h2⟩,LR.treeI hI k xs b (off+k) ht.2 h3⟩
 | .str p::xs,b,off,ht,h=>by
  simp only[LR]at h⊢
  simp only[Zaq,Xk]at ht
  obtain⟨⟨h0,u,h1,h2⟩,h3⟩:=h
  exact⟨⟨h0,u,hI _ _ _ h1,VR.treeI hI _ u ht.1 h2⟩,LR.treeI hI k xs b (off+k) ht.2 h3⟩
 | .nilp::xs,b,off,ht,h=>by
  simp only[LR]at h⊢
  simp only[Zaq,Xk]at ht
  obtain⟨⟨h0,u,h1,h2⟩,h3⟩:=h
  exact⟨⟨h0,u,hI _ _ _ h1,VR.treeI hI _ u ht.1 h2⟩,LR.treeI hI k xs b (off+k) ht.2 h3⟩
 | .nilm::xs,b,off,ht,h=>by
  simp only[LR]at h⊢
  simp only[Zaq,Xk]at ht
  obtain⟨⟨h0,u,h1,h2⟩,h3⟩:=h
  exact⟨⟨h0,u,hI _ _ _ h1,VR.treeI hI _ u ht.1 h2⟩,LR.treeI hI k xs b (off+k) ht.2 h3⟩
 | .nili::xs,b,off,ht,h=>by
  simp only[LR]at h⊢
  simp only[Zaq,Xk]at ht
  obtain⟨⟨h0,u,h1,h2⟩,h3⟩:=h
  exact⟨⟨h0,u,hI _ _ _ h1,VR.treeI hI _ u ht.1 h2⟩,LR.treeI hI k xs b (off+k) ht.2 h3⟩
 | .top::_,_,_,ht,_=>by simp[Zaq,ZaN]at ht
 | .pan _::_,_,_,ht,_=>by simp[Zaq,ZaN]at ht
 | .iface _ _::_,_,_,ht,_=>by simp[Zaq,ZaN]at ht
 | .lst p q::xs,b,off,ht,h=>by
  simp only[LR]at h⊢
  simp only[Zaq,Xk]at ht
  obtain⟨⟨h0,u,h1,h2⟩,h3⟩:=h
  exact⟨⟨h0,u,hI _ _ _ h1,VR.treeI hI _ u ht.1 h2⟩,LR.treeI hI k xs b (off+k) ht.2 h3⟩
 | .any::_,_,_,ht,_=>by simp[Zaq,ZaN]at ht
 | .ref _ _::_,_,_,ht,_=>by simp[Zaq,ZaN]at ht
 | .eref _ _ _ _::_,_,_,ht,_=>by simp[Zaq,ZaN]at ht
 | .iptr _ _::_,_,_,ht,_=>by simp[Zaq,ZaN]at ht
 | .sl _ _ _ _::_,_,_,ht,_=>by simp[Zaq,ZaN]at ht
 | .tup _::_,_,_,ht,_=>by simp[Zaq,ZaN]at ht
 | .fn _ _::_,_,_,ht,_=>by simp[Zaq,ZaN]at ht
 | .map _::_,_,_,ht,_=>by simp[Zaq,ZaN]at ht
 | .lnt _::_,_,_,ht,_=>by simp[Zaq,ZaN]at ht
end
theorem VR.tree{I:Imm}{V:Bmap}(x:AVal)(v:Value)(ht:ZaN x=true)(h:VR I V x v):VR I B0 x v:=VR.treeI (fun _ _ _ h=>h) x v ht h
theorem CR.tree{I:Imm}{V:Bmap}(xs:List AVal)(b off:Nat)(ht:ZaK xs=true)(h:CR I V xs b off):CR I B0 xs b off:=CR.treeI (fun _ _ _ h=>h) xs b off ht h
theorem LR.tree{I:Imm}{V:Bmap}(k:Nat)(xs:List AVal)(b off:Nat)(ht:Zaq xs=true)(h:LR I V k xs b off):LR I B0 k xs b off:=LR.treeI (fun _ _ _ h=>h) k xs b off ht h
theorem VR.of_tree{I:Imm}{V V':Bmap}{x:AVal}{v:Value}(ht:ZaN x=true)(h:VR I V x v):VR I V' x v:=(VR.tree x v ht h).mono (Imm.le.refl I) (ZhA V') x v
theorem CR.of_tree{I:Imm}{V V':Bmap}{x:List AVal}{b off:Nat}(ht:ZaK x=true)(h:CR I V x b off):CR I V' x b off:=(CR.tree x b off ht h).mono (Imm.le.refl I) (ZhA V') x b off
mutual
theorem VR.noLn{I I':Imm}{V:Bmap}(hI:∀ b o u,I b o=some u->I' b o=some u):∀ (x:AVal) (v:Value),ZcV x=true->VR I V x v->VR I' V x v
 | .top,_,_,_=>by simp only[VR]
 | .pan _,_,_,h=>by simp only[VR]at h
 | .nili,_,_,h=>by simpa only[VR]using h
 | .iface t x,_,hn,h=>by
  simp only[VR,ZcV]at h hn ⊢
  obtain⟨u,h1,h2⟩:=h
  exact⟨u,h1,VR.noLn hI x u hn h2⟩
 | .any,_,_,h=>by simpa only[VR]using h
 | .int _ _,_,_,h=>by simpa only[VR]using h
 | .bool _,_,_,h=>by simpa only[VR]using h
 | .str _,_,_,h=>by simpa only[VR]using h
 | .nilp,_,_,h=>by simpa only[VR]using h
 | .nilm,_,_,h=>by simpa only[VR]using h
 | .ref t o,_,_,h=>by simpa only[VR]using h
 | .eref t g i o,_,_,h=>by simpa only[VR]using h
 | .map t,_,_,h=>by simpa only[VR]using h
 | .lnt l,_,hn,_=>by simp[ZcV]at hn
 | .iptr cs o,_,_,h=>by
  simp only[VR]at h⊢
  obtain⟨b,off,h1,h2,h3⟩:=h
  exact⟨b,off,h1,CR.mono (Imm.le.refl I') (ZhA V) cs b off (CR.treeI hI cs b off h3 h2),h3⟩
 | .lst x xs,_,_,h=>by
  simp only[VR]at h⊢
  obtain⟨A,cap,h1,h2,h3,h4,h5,h6⟩:=h
  refine⟨A,cap,h1,h2,h3,h4,?_,h6⟩
  rcases h5 with h5 |⟨b,off,k,e,hk,h5⟩
  ·grind
  ·exact Xt ⟨b,off,k,e,hk,LR.mono (Imm.le.refl I') (ZhA V) k xs b off (LR.treeI hI k xs b off h6 h5)⟩
 | .sl t g lo n,_,_,h=>by simpa only[VR]using h
 | .agg cs,_,hn,h=>by
  simp only[VR,ZcV]at h hn ⊢
  obtain⟨us,h1,h2⟩:=h
  exact⟨us,h1,VRs.noLn hI cs us.toList hn h2⟩
 | .tup cs,_,hn,h=>by
  simp only[VR,ZcV]at h hn ⊢
  obtain⟨us,h1,h2⟩:=h
  exact⟨us,h1,VRs.noLn hI cs us.toList hn h2⟩
 | .fn f cs,_,hn,h=>by
  simp only[VR,ZcV]at h hn ⊢
  obtain⟨fs,us,h1,h0,h2⟩:=h
  exact⟨fs,us,h1,h0,VRs.noLn hI cs (fs.toList++us.toList) hn h2⟩
theorem VRs.noLn{I I':Imm}{V:Bmap}(hI:∀ b o u,I b o=some u->I' b o=some u):∀ (xs:List AVal) (vs:List Value),Zb5 xs=true->VRs I V xs vs->VRs I' V xs vs
 | [],_,_,h=>by simpa only[VRs]using h
 |x::xs,_,hn,h=>by
  simp only[VRs,Zb5,Xk]at h hn ⊢
  obtain⟨v,vs',h1,h2,h3⟩:=h
  exact⟨v,vs',h1,VR.noLn hI x v hn.1 h2,VRs.noLn hI xs vs' hn.2 h3⟩
end
theorem ZaO{I:Imm}{V:Bmap}:∀ {xs:List AVal} {vs:List Value},VRs I V xs vs->xs.length=vs.length
 | [],vs,h=>by simp only[VRs]at h;grind
 |x::xs,vs,h=>by
  simp only[VRs]at h
  obtain⟨v,vs',rfl,_,h3⟩:=h
  simp[ZaO h3]
theorem Zcm{I:Imm}{V:Bmap}:∀ {xs:List AVal} {vs:List Value} (_:VRs I V xs vs) {i:Nat} {x:AVal},xs[i]?=some x->∃ v,vs[i]?=some v/\VR I V x v
 | [],_,_,i,x,hx=>by simp at hx
 |y::xs,vs,h,i,x,hx=>by
  simp only[VRs]at h
  obtain⟨v,vs',rfl,h2,h3⟩:=h
  cases i with
  |zero=>grind
  |succ i=>simp only[XN]at hx ⊢;exact Zcm h3 hx
theorem Zd7{I:Imm}{V:Bmap}:∀ {xs:List AVal} {vs:List Value},xs.length=vs.length->(∀ (i:Nat) (x:AVal) (v:Value),xs[i]?=some x->vs[i]?=some v->VR I V x v)->VRs I V xs vs
 | [],vs,hl,_=>by simp only[VRs];grind
 |x::xs,[],hl,_=>by simp at hl
 |x::xs,v::vs,hl,h=>by
  simp only[VRs]
  exact⟨v,vs,rfl,h 0 x v rfl rfl,Zd7 (by grind) (fun i a b h1 h2=>h (i+1) a b (by grind) (by grind))⟩
theorem ZzF{I:Imm}{V:Bmap}{xs:List AVal}{vs:List Value}(h:VRs I V xs vs){x:AVal}{v:Value}(hx:VR I V x v)(i:Nat):VRs I V (xs.set i x) (vs.set i v):=by
 have hl:=ZaO h
 refine Zd7 (by simp[hl]) (fun j a b ha hb=>?_)
 rw[XO]at ha hb
 by_cases hij:i=j
 ·grind
 ·rw[if_neg hij]at ha hb
  obtain⟨v',h1,h2⟩:=Zcm h ha
  grind
theorem Zc3{I:Imm}{V:Bmap}:∀ {xs ys:List AVal} {us vs:List Value},VRs I V xs us->VRs I V ys vs->VRs I V (xs++ys) (us++vs)
 | [],_,us,_,h,h'=>by simp only[VRs]at h;grind
 |x::xs,ys,us,vs,h,h'=>by
  simp only[VRs]at h
  obtain⟨v,us',rfl,h2,h3⟩:=h
  simp only[XJ,VRs]
  exact⟨v,us'++vs,rfl,h2,Zc3 h3 h'⟩
theorem Zgi{I:Imm}{V:Bmap}{xs:List AVal}{us:List Value}(h:VRs I V xs us)(n:Nat):VRs I V (xs.take n) (us.take n):=by
 refine Zd7 (by simp[ZaO h]) (fun i x v hx hv=>?_)
 rw[X4]at hx hv
 split at hx
 ·rw[if_pos ‹_›]at hv
  obtain⟨v',h1,h2⟩:=Zcm h hx
  grind
 ·cases hx
theorem Zgm{I:Imm}{V:Bmap}{xs:List AVal}{us:List Value}(h:VRs I V xs us)(n:Nat):VRs I V (xs.drop n) (us.drop n):=by
 refine Zd7 (by simp[ZaO h]) (fun i x v hx hv=>?_)
 rw[WF]at hx hv
 obtain⟨v',h1,h2⟩:=Zcm h hx
 grind
theorem Zlf{I:Imm}{V:Bmap}{xs ys:List AVal}{us vs:List Value}(h:VRs I V xs us)(h':VRs I V ys vs)(o:Nat):VRs I V (setAt xs o ys) (us.take o++vs++us.drop (o+vs.length)):=by
 unfold setAt
 rw[<-ZaO h']
 exact Zc3 (Zc3 (Zgi h o) h') (Zgm h _)
theorem Zfe{I:Imm}{V:Bmap}{x:AVal}{v:Value}(ht:x≠.top)(h:VR I V x v):VRs I V x.cells v.cells.toList:=by
 cases x
 case top=>grind
 case pan x=>simp only[VR]at h
 case agg cs =>
  simp only[VR]at h
  obtain⟨us,rfl,h⟩:=h
  exact h
 all_goals
  have hv:v.cells=#[v]:=by
   simp only[VR]at h
   try exact h.1
   try (obtain⟨_,_,_,_,rfl⟩:=h;rfl)
   try (obtain⟨_,_,rfl,_⟩:=h;rfl)
   try (obtain⟨_,rfl,_⟩:=h;rfl)
   try (obtain⟨rfl,_⟩:=h;rfl)
   try (subst h;rfl)
   try (obtain⟨_,_,_,_,(⟨_,_,rfl⟩ |⟨_,_,_,rfl⟩ |⟨_,_,_,_,rfl⟩)⟩:=h<;>rfl)
  rw[hv]
  simp only[AVal.cells,VRs]
  grind
def Zp9(arr:Array MapEntry)(clk:Nat):Prop:=(∀ e∈arr.toList,e.born<clk)/\(arr.toList.map (·.born)).Nodup
def BR (I : Imm) (V : Bmap) (w : World) (t : Nat) : ZP -> Prop
  | .free => True
  | .var cs => ∃ b k c us ty, V t 0 = some ⟨some b, k, c⟩ /\ w.heap[b]? = some (.cells us ty (0, 0)) /\ VRs I V cs us.toList
  | .row g k xs => ∃ bi, V t g = some bi /\ bi.k = k /\ 0 < k /\ bi.cap <= 9223372036854775807 /\ xs.length <= bi.cap /\ Zaq xs = true /\ (∀ x ∈ xs, x.cells.length = k) /\
      ((bi.b = none /\ bi.cap = 0) \/ ∃ b us ty, bi.b = some b /\ w.heap[b]? = some (.cells us ty (0, 0)) /\ us.size = bi.cap * k /\ VRs I V (xs.flatMap AVal.cells) (us.toList.take (xs.length * k)))
  | .frow g k xs => ∃ bi, V t g = some bi /\ bi.k = k /\ 0 < k /\ bi.cap <= 9223372036854775807 /\ xs.length <= bi.cap /\ Zaq xs = true /\ (xs = [] \/ ∃ b, bi.b = some b /\ LR I V k xs b 0)
  | .map es => ∃ b k c arr clk, V t 0 = some ⟨some b, k, c⟩ /\ w.heap[b]? = some (.map arr clk) /\ VRs I V (es.map (·.1)) (arr.toList.map (·.key)) /\ VRs I V (es.map (·.2)) (arr.toList.map (·.val)) /\ (∀ p ∈ es, ZlN p.1 = true) /\ Zp9 arr clk
  | .rrow g k xs => ∃ bi, V t g = some bi /\ bi.k = k /\ 0 < k /\ bi.cap <= 9223372036854775807 /\ xs.length <= bi.cap /\ (∀ x ∈ xs, x.cells.length = k /\ ∀ c ∈ x.cells, ZY c = true) /\
      ∃ b us ty, bi.b = some b /\ w.heap[b]? = some (.cells us ty (0, 0)) /\ us.size = bi.cap * k /\ VRs I V (xs.flatMap AVal.cells) (us.toList.take (xs.length * k))
  | .siter l p => ∃ b k c, V t 0 = some ⟨some b, k, c⟩ /\ w.heap[b]? = some (.stringIter ⟨l.toArray⟩ p)
  | .opq => ∃ bi, V t 0 = some bi
def ZJ(V:Bmap)(t:Nat):ZP->Option Nat
 | .var _=>(V t 0).bind (·.b)
 | .row g _ _=>(V t g).bind (·.b)
 | .rrow g _ _=>(V t g).bind (·.b)
 | .map _=>(V t 0).bind (·.b)
 | .siter _ _=>(V t 0).bind (·.b)
 |_=>none
structure KB(K:Nat->Prop)(w w':World):Prop where
 os:w'.os=w.os
 tape:w'.tape=w.tape
 output:w'.output=w.output
 size:w.heap.size<=w'.heap.size
 block:∀ k,K k->w'.heap[k]?=w.heap[k]?
theorem KB.refl(K:Nat->Prop)(w:World):KB K w w:=⟨rfl,rfl,rfl,XH _,fun _ _=>rfl⟩
theorem KB.trans{K:Nat->Prop}{a b c:World}(h:KB K a b)(k:KB K b c):KB K a c :=
 ⟨k.os.trans h.os,k.tape.trans h.tape,k.output.trans h.output,Nat.le_trans h.size k.size,fun i hi=>(k.block i hi).trans (h.block i hi)⟩
theorem KB.mono{K K':Nat->Prop}{w w':World}(h:KB K w w')(hK:∀ b,K' b->K b):KB K' w w':=⟨h.os,h.tape,h.output,h.size,fun k hk=>h.block k (hK k hk)⟩
def KLt(K:Nat->Prop)(w:World):Prop:=∀ b,K b->b<w.heap.size
def Gl:Nat->Nat->Option Value:=fun b o =>
 if b=1 then(if o<256 then some (.int .u8 (Lib.firstT o))else none)else
 if b=2 then(if o<32 then some (.int .u8 (if o%2=0 then Lib.accLo (o/2)else Lib.accHi (o/2)))else none)else
 (none:Option Value)
def GB(base:Nat->Prop)(w0:World):Prop :=
 True
def Zrz(base:Nat->Prop)(w0:World)(ln:Nat->Nat->Option Value):Prop:=∀ b o u,ln b o=some u->base b/\w0.cell? ⟨b,o,none⟩=some u
structure Rel(base:Nat->Prop)(w0:World)(I0 I:Imm)(V:Bmap)(G:Za)(w:World):Prop where
 below:KB base w0 w
 old:∀ b o,base b->I b o=I0 b o
 imm:∀ b o u,I b o=some u->w.cell? ⟨b,o,none⟩=some u
 blk:∀ t x,G[t]?=some x->BR I V w t x
 own:∀ t x b,G[t]?=some x->ZJ V t x=some b->¬base b/\∀ o,I b o=none
 apart:∀ t x t' x' b,G[t]?=some x->G[t']?=some x'->ZJ V t x=some b->ZJ V t' x'=some b->t=t'
 fresh:∀ t g,G.length<=t->V t g=none
 free:∀ t g,G[t]?=some .free->V t g=none
 gen:∀ t b g,G[t]?=some b->Zm b<g->V t g=none
 glob:(∀ b o u,Gl b o=some u->I b o=some u)/\GB base w0/\Zrz base w0 I.ln
theorem Rel.gb0{base K':Nat->Prop}{w0 w:World}{I0 I:Imm}{V:Bmap}{G:Za}(R:Rel base w0 I0 I V G w)(hb:∀ b,base b->K' b):GB K' w:=by
 have h:=R.glob.2.1
 unfold GB at h⊢
 exact h
theorem Rel.lnow{base:Nat->Prop}{w0 w:World}{I0 I:Imm}{V:Bmap}{G:Za}(R:Rel base w0 I0 I V G w){b o:Nat}{u:Value}(h:I.ln b o=some u):base b/\w.cell? ⟨b,o,none⟩=some u:=by
 obtain⟨h1,h2⟩:=R.glob.2.2 b o u h
 refine⟨h1,?_⟩
 rw[<-h2]
 simp only[World.cell?,R.below.block b h1]
theorem Rel.gb{base K':Nat->Prop}{w0 w:World}{I0 I:Imm}{V:Bmap}{G:Za}(R:Rel base w0 I0 I V G w)(hb:∀ b,base b->K' b):GB K' w/\Zrz K' w I.ln :=
 ⟨R.gb0 hb,fun _ _ _ h=>⟨hb _ (R.lnow h).1,(R.lnow h).2⟩⟩
end
section
open Go.RowKit
def Zm9:Value->Option AVal
 | .int k n=>some (.int k n)
 | .bool b=>some (.bool b)
 | .string s=>if s.data.toList.length<=9223372036854775807 then some (.str s.data.toList)else none
 | .pointer none=>some .nilp
 | .slice none 0 0=>some (.lst true [])
 | .map none=>some .nilm
 | .nilIface=>some .nili
 |_=>none
def Zk7:List Value->Option (List AVal)
 | []=>some []
 |v::vs=>match Zm9 v with
  |some x=>match Zk7 vs with
   |some xs=>some (x::xs)
   |none=>none
  |none=>none
def Zir:Value->Option AVal
 | .agg cs=>(Zk7 cs.toList).map .agg
 |v=>Zm9 v
def Zat:Operand->Option Opd
 | .tmp t=>some (.t t)
 | .const v=>(Zir v).map .c
 | .func f=>if f<1000000 then some (.c (.fn f []))else none
 | .global _=>none
def Zdm:List Operand->Option (List Opd)
 | []=>some []
 |x::xs=>match Zat x with
  |some y=>match Zdm xs with
   |some ys=>some (y::ys)
   |none=>none
  |none=>none
def ZhW:Option Operand->Option (Option Opd)
 |none=>some none
 |some x=>(Zat x).map some
def Zgz(P:Program)(t:TypeId):Option (Option Nat) :=
 match P.underlying t,P.info? t with
 |some (.struct _),some i=>some (some i.size)
 |some (.array _ _),some i=>some (some i.size)
 |some _,some i=>if i.size=1 then some none else none
 |_,_=>none
def Zca(P:Program)(t:TypeId):Option Nat:=(P.info? t).map (·.size)
def Zer(P:Program)(t:TypeId):Option AVal:=match P.info? t with
 |some i=>match i.zero with
  |some v=>Zir v
  |none=>none
 |none=>none
def Zf3(P:Program)(t:TypeId):Option (Nat×Nat×AVal):=match P.underlying t with
 |some (.slice e)=>match P.info? e,Zer P e with
  |some i,some z=>if 0<i.size/\0<i.bytes/\z.cells.length=i.size then some (i.size,i.bytes,z)else none
  |_,_=>none
 |_=>none
def ZkN(P:Program)(fields:Array Field):List (Nat×Operand)->Option (List (Nat×Nat×Opd))
 | []=>some []
 |(i,x)::r=>match fields[i]? with
  |some f=>match Zca P f.type,Zat x,ZkN P fields r with
   |some k,some y,some ps=>some ((f.offset,k,y)::ps)
   |_,_,_=>none
  |none=>none
def Zkk (k : Nat) : List (Nat × Operand) -> Option (List (Nat × Nat × Opd))
  | [] => some []
  | (i, x) :: r => match Zat x, Zkk k r with
      | some y, some ps => some ((i * k, k, y) :: ps)
      | _, _ => none
def Zii : List (Nat × Operand) -> Option (List (Nat × Opd))
  | [] => some []
  | (i, x) :: r => match Zat x, Zii r with
      | some y, some ps => some ((i, y) :: ps)
      | _, _ => none
structure Ann where
 nt:Nat:=0
 keep:List Nat:=[]
 own:Nat->Nat:=fun _=>0
 cfg:Nat->Nat×Bool:=fun _=>(0,true)
 cfg2:Nat->Nat×Bool:=fun _=>(0,true)
 lr:Nat->List Nat:=fun _=>[]
 ll:Nat->List Nat:=fun _=>[]
def Zt4(P:Program)(t:TypeId):Bool:=match P.underlying t with
 |some (.int _)=>true
 |some .bool=>true
 |some .string=>true
 |_=>false
def Zgn(P:Program)(t:TypeId)(x:AVal):Bool:=match P.underlying t,x with
 |some (.int _),.int _ _=>true
 |some .bool,.bool _=>true
 |some .string,.str _=>true
 |_,_=>false
def ZnX(P:Program):Nat->List Field->Bool
 |_,[]=>true
 |o,f::fs=>f.offset==o&&f.name != "_" && Zt4 P f.type&&ZnX P (o+1) fs
def Zhd(P:Program):List Field->List AVal->Bool
 | [],[]=>true
 |f::fs,x::xs=>Zgn P f.type x&&Zhd P fs xs
 |_,_=>false
def ZrS(P:Program)(t:TypeId)(fs:Array Field):Bool:=ZnX P 0 fs.toList && !P.stoodInHeld t && !P.eqGuardType P.depth t
def ZhE(P:Program)(t:TypeId):Option Nat:=match P.underlying t with
 |some (.int _)=>some 0
 |some .bool=>some 1
 |some .string=>some 2
 |_=>none
def ZuQ(P:Program)(op:BinOp)(t:TypeId)(x y:Opd):Option Ins :=
 match P.underlying t with
 |some (.int _)=>some (.bin op x y)
 |some .string=>some (.bin op x y)
 |some .bool=>match op with
  | .eql=>some (.beq false x y)
  | .neq=>some (.beq true x y)
  |_=>none
 |some (.pointer _)=>match op with
  | .eql=>some (.peq false x y)
  | .neq=>some (.peq true x y)
  |_=>none
 |some (.struct fs)=>if ZrS P t fs then match op with
  | .eql=>some (.eqv false (fs.toList.map fun f=>(ZhE P f.type).getD 3) x y)
  | .neq=>some (.eqv true (fs.toList.map fun f=>(ZhE P f.type).getD 3) x y)
  |_=>none else none
 |some (.interface _)=>match op,y with
  | .eql,.c .nili=>some (.ieq false x y)
  | .neq,.c .nili=>some (.ieq true x y)
  |_,_=>none
 |_=>none
def Zy2(P:Program)(src dst:TypeId)(x:Opd):Option Ins :=
 match P.underlying src,P.underlying dst with
 |some (.int _),some (.int k)=>some (.i2i k x)
 |some (.int _),some .string=>some (.i2s x)
 |some .string,some .string=>some (.same x)
 |some .string,some (.slice e)=>match P.underlying e with
  |some (.int .u8)=>some (.s2b x)
  |_=>none
 |some (.slice _),some (.slice e)=>if src=dst then(match P.underlying e with
  |some (.int .u8)=>some (.s2s x)
  |_=>none)else none
 |some (.slice e),some .string=>match P.underlying e with
  |some (.int .u8)=>some (.b2s x)
  |_=>none
 |_,_=>none
def Zjg(P:Program)(t:TypeId):Option (Nat×AVal):=match P.underlying t with
 |some (.map k e)=>match ZhE P k,Zer P e with
  |some kc,some z=>some (kc,z)
  |_,_=>none
 |_=>none
def ZyM(P:Program)(an:Ann)(own:Nat)(c:Call):Option Ins :=
 match Zdm c.args.toList with
 |none=>none
 |some args=>match c.callee with
  | .value (.func f)=>some (.call f (if own=1 then an.cfg2 f else an.cfg f).1 (if own=1 then an.cfg2 f else an.cfg f).2 args)
  | .value (.tmp t)=>some (.callv (.t t) args)
  | .builtin .append=>match c.argTypes.toList,args with
   | [t,u],[x,y]=>match Zf3 P t with
    |some (k,bytes,z)=>match P.underlying u with
     |some (.slice _)=>some (.app k bytes z x y)
     |some .string=>if k=1 then some (.app k bytes z x y)else none
     |_=>none
    |none=>none
   |_,_=>none
  | .builtin .len=>match c.argTypes.toList,args with
   | [t],[x]=>match P.underlying t with
    |some (.slice _)=>some (.len x)
    |some .string=>some (.slen x)
    |some (.map _ _)=>some (.mlen x)
    |_=>none
   |_,_=>none
  | .builtin .delete=>match c.argTypes.toList,args with
   |t::_,[x,y]=>match Zjg P t with
    |some (kc,_)=>some (.mdel kc x y)
    |none=>none
   |_,_=>none
  | .builtin .clear=>match c.argTypes.toList,args with
   | [t],[x]=>match Zf3 P t with
    |some (k,_,z)=>some (.clr k z x)
    |none=>none
   |_,_=>none
  | .builtin .max=>if args.length=2 then some (.mm true args)else none
  | .builtin .min=>if args.length=2 then some (.mm false args)else none
  |_=>none
def Zad(P:Program)(an:Ann)(own:Nat):Op->Option Ins
 | .move x=>(Zat x).map .mov
 | .assign x=>(Zat x).map .mov
 | .pick c a b=>match Zat c,Zat a,Zat b with
  |some c,some a,some b=>some (.pick c a b)
  |_,_,_=>none
 | .alloc e=>(Zer P e).map fun z=>.alloc z.cells
 | .box _ x=>(Zat x).map .box
 | .build t parts=>match P.underlying t,Zer P t with
  |some (.struct fields),some z=>if fields.toList.all fun f=>(P.info? f.type).isSome then(ZkN P fields parts.toList).map (.build z.cells)else none
  |some (.array _ e),some z=>match Zca P e with
   |some k=>(Zkk k parts.toList).map (.build z.cells)
   |none=>none
  |_,_=>none
 | .buildSlice t n parts=>match Zf3 P t with
  |some (k,_,z)=>if n*k<=16777216 then(Zii parts.toList).map (fun ps=>if own=2 then .rslice k n z ps else .bslice (own==1) k n z ps)else none
  |none=>none
 | .load t a=>match Zgz P t,Zat a with
  |some k,some a=>some (.ld k a)
  |_,_=>none
 | .store t a v=>match Zca P t,Zat a,Zat v with
  |some k,some a,some v=>some (.st k a v)
  |_,_,_=>none
 | .nilCheck x=>(Zat x).map .nilchk
 | .binOp op t x y _=>match Zat x,Zat y with
  |some x,some y=>ZuQ P op t x y
  |_,_=>none
 | .unOp op _ x=>(Zat x).map (.un op)
 | .convert src dst x=>match Zat x with
  |some x=>Zy2 P src dst x
  |none=>none
 | .slice t x lo hi mx=>match Zat x,ZhW lo,ZhW hi,ZhW mx with
  |some x,some lo,some hi,some mx=>match P.underlying t with
   |some .string=>match mx with
    |none=>some (.sslice x lo hi)
    |some _=>none
   |some (.slice e)=>match Zca P e with
    |some k=>if 0<k then(match hi,mx with |none,some _=>none |_,_=>some (.slice k x lo hi mx))else none
    |none=>none
   |_=>none
  |_,_,_,_=>none
 | .fieldAddr s x i=>match P.underlying s,Zat x with
  |some (.struct fields),some x=>match fields[i]? with
   |some f=>match Zca P f.type with
    |some k=>if k=0 then none else some (.faddr f.offset x)
    |none=>none
   |none=>none
  |_,_=>none
 | .field s x i=>match P.underlying s,Zat x with
  |some (.struct fields),some x=>match fields[i]? with
   |some f=>(Zgz P f.type).map fun k=>.field k f.offset x
   |none=>none
  |_,_=>none
 | .indexAddr t x i=>match P.underlying t,Zat x,Zat i with
  |some (.slice e),some x,some i=>(Zca P e).map fun k=>.iaddr k x i
  |some (.array n e),some x,some i=>(Zca P e).map fun k=>.aaddr k n x i
  |_,_,_=>none
 | .index t x i=>match P.underlying t,Zat x,Zat i with
  |some .string,some x,some i=>some (.sindex x i)
  |some (.array n e),some x,some i=>match Zgz P e,Zca P e with
   |some s,some k=>some (.aindex s k n x i)
   |_,_=>none
  |_,_,_=>none
 | .extract x i=>(Zat x).map fun x=>.ext x i
 | .makeSlice t l c=>match Zf3 P t,Zat l,Zat c with
  |some (k,bytes,z),some l,some c=>some (.mkslice k bytes z l c)
  |_,_,_=>none
 | .makeFunc (.func f) first captured=>if f<1000000 then(if first.isEmpty then(Zdm captured.toList).map (.mkfn f)else if captured.isEmpty then(Zdm first.toList).map (.mkfn (f+1000000))else none)else none
 | .makeInterface t x=>match P.underlying t with
  |some (.interface _)=>none
  |some _=>(Zat x).map (.mki t)
  |none=>none
 | .panic x=>(Zat x).map .panic
 | .range t x=>match P.underlying t with
  |some .string=>(Zat x).map .rng
  |_=>none
 | .next x true=>(Zat x).map .nxt
 | .makeMap _ r=>match r with
  |none=>some .mkmap
  |some _=>none
 | .lookup t m k ok=>match Zjg P t,Zat m,Zat k with
  |some (kc,z),some m,some k=>some (.look kc z ok m k)
  |_,_,_=>none
 | .mapUpdate t m k v=>match Zjg P t,Zat m,Zat k,Zat v with
  |some (kc,_),some m,some k,some v=>some (.mset kc m k v)
  |_,_,_,_=>none
 | .insert t m k v=>match Zjg P t,Zat m,Zat k,Zat v with
  |some (kc,_),some m,some k,some v=>some (.mset kc m k v)
  |_,_,_,_=>none
 | .call c=>ZyM P an own c
 |_=>none
def Opd.reads:Opd->List Nat
 | .t n=>[n]
 | .c _=>[]
def Zjz:Option Opd->List Nat
 |some x=>x.reads
 |none=>[]
def Ins.reads:Ins->List Nat
 | .mov x | .box x | .un _ x | .i2i _ x | .i2s x | .same x | .s2b x | .s2s x | .b2s x | .faddr _ x | .field _ _ x | .ext x _ | .len x | .slen x | .nilchk x | .rng x | .nxt x | .clr _ _ x | .ld _ x | .mki _ x | .panic x | .mlen x=>x.reads
 | .pick c a b=>c.reads++a.reads++b.reads
 | .alloc _ | .mkmap=>[]
 | .build _ ps=>ps.flatMap fun p=>p.2.2.reads
 | .bslice _ _ _ _ ps | .rslice _ _ _ ps=>ps.flatMap fun p=>p.2.reads
 | .st _ x y | .bin _ x y | .iaddr _ x y | .aaddr _ _ x y | .sindex x y | .aindex _ _ _ x y | .app _ _ _ x y | .mkslice _ _ _ x y | .beq _ x y | .peq _ x y | .eqv _ _ x y | .ieq _ x y | .look _ _ _ x y | .mdel _ x y=>x.reads++y.reads
 | .mset _ x y z=>x.reads++y.reads++z.reads
 | .slice _ x a b c=>x.reads++Zjz a++Zjz b++Zjz c
 | .sslice x a b=>x.reads++Zjz a++Zjz b
 | .mm _ xs | .call _ _ _ xs | .mkfn _ xs=>xs.flatMap Opd.reads
 | .callv x xs=>x.reads++xs.flatMap Opd.reads
def AOp.reads(o:AOp):List Nat:=o.ins.reads++(match o.guard with |some (j,_)=>[j] |none=>[])
def Ins.touches:Ins->Bool
 | .ld .. | .st .. | .slice .. | .iaddr .. | .app .. | .call .. | .callv .. | .bslice .. | .b2s _ | .s2s _ | .alloc _ | .box _ | .mkslice .. | .rslice .. | .rng _ | .nxt _ | .clr .. | .mkmap | .look .. | .mset .. | .mdel .. | .mlen _=>true
 |_=>false
def AOp.apartT(x y : AOp) : Bool :=
  (match x.dst with
   |some d => !y.reads.contains d&&y.dst != some d
   |none=>true) &&
  (match y.dst with
   |some d => !x.reads.contains d
   |none=>true)
def ZcF:List (List Nat)->List (List Nat)->List (List Nat)
 | [],acc=>acc
 |l::ls,acc=>ZcF ls (acc++[l++l.flatMap fun i=>acc.getD i []])
def ZiD:List (List Nat)->List Nat->List Nat
 | [],acc=>acc
 |l::ls,acc=>ZiD ls (acc++[l.foldl (fun m i=>m |||2^i |||acc.getD i 0) 0])
def Zga(ops:List AOp):Option (List (Nat×Nat)) :=
 let an:=ZiD (ops.map (·.after)) []
 let n:=ops.length
 let ps:=(X5 n).flatMap fun j=>((X5 j).filter fun i=>!(an.getD j 0).testBit i).map fun i=>(i,j)
 if(ps.all fun p=>(ops.getD p.1 default).apartT (ops.getD p.2 default))&&((X5 n).all fun j=>(ops.getD j default).after.all fun i=>decide (i<j))then
  some ((ps.filter fun p=>(ops.getD p.1 default).ins.touches&&(ops.getD p.2 default).ins.touches) ++
   (((X5 n).filter fun j=>ZaG (ops.getD j default).ins&&(X5 n).all fun k=>decide (k<=j) ||(an.getD k 0).testBit j).map fun j=>(j,j)))
 else none
def ZlW(ops:Array Oper):Option (Nat×Bool)->Option (Option (Nat×Bool))
 |none=>some none
 |some (j,want)=>match ops[j]? with
  |some o=>match o.dst with
   |some d=>some (some (d,want))
   |none=>none
  |none=>none
def Zyv(nt:Nat)(keep:List Nat):Option Nat->Bool
 |some d=>decide (d<nt) && !keep.contains d
 |none=>true
def Zh5(P:Program)(an:Ann)(ops:Array Oper)(o:Oper):Option AOp :=
 match ZlW ops o.guard,Zad P an (match o.dst with |some d=>an.own d |none=>0) o.op with
 |some g,some i=>if Zyv an.nt an.keep o.dst=true then some ⟨o.dst,i,g,(o.after.toList.filter (Region.binds .any)).map (·.on)⟩else none
 |_,_=>none
def Zex(P:Program)(an:Ann)(ops:Array Oper):List Oper->Option (List AOp)
 | []=>some []
 |o::os=>match Zh5 P an ops o with
  |some a=>match Zex P an ops os with
   |some asl=>some (a::asl)
   |none=>none
  |none=>none
def Zge:Code->Nat
 | .region id _ _=>id
 | .seq a _=>Zge a
 | .block _ c=>Zge c
 | .loop c=>Zge c
 | .scope c=>Zge c
 |_=>0
def Za7(P:Program)(an:Ann):Code->Zf
 | .skip=>.skip
 | .region id ops draw=>match Zex P an ops ops.toList with
  |some l=>if draw then(match Zga l with |some ps=>.region l (some ps) (an.lr id) |none=>.stuck)else .region l none (an.lr id)
  |none=>.stuck
 | .seq a b=>.seq (Za7 P an a) (Za7 P an b)
 | .cond c a b=>match Zat c with
  |some c=>.cond c (Za7 P an a) (Za7 P an b)
  |none=>.stuck
 | .block id c=>.block id (Za7 P an c)
 | .loop c=>.loop (an.ll (Zge c)) (Za7 P an c)
 | .exit id=>.exit id
 | .ret=>.ret
 | .scope c=>Za7 P an c
 | .label _=>.skip
 |_=>.stuck
def ZfY(P:Program):List ResultVar->Option (List Zdw)
 | []=>some []
 | .tmp t::r=>(ZfY P r).map (.tmp t::·)
 | .cell a t::r=>match Zgz P t,ZfY P r with
  |some k,some rs=>some (.cell a k::rs)
  |_,_=>none
def ZkQ(P:Program)(ann:Nat->Ann)(f:Nat):Option ZM :=
 match P.funcs[f]? with
 |some fn=>match fn.body with
  |some c=>if fn.name == "runtime.NumGoroutine" then none else
   match ZfY P fn.results.toList with
   |some rs=>some ⟨rs,Za7 P { ann f with nt:=fn.ntmps } c⟩
   |none=>none
  |none=>none
 |none=>none
end
section
open Go.RowKit
section
variable {base:Nat->Prop}{w0 w w':World}{I0 I I':Imm}{V V':Bmap}{G G':Za}
theorem BR.keep{t:Nat}{x:ZP}(h:BR I V w t x)(hI:I.le I')(hV:V.le V')(hb:∀ b,ZJ V t x=some b->w'.heap[b]?=w.heap[b]?):BR I' V' w' t x:=by
 cases x with
 |free=>trivial
 |map es =>
  obtain⟨b,k,c,arr,clk,h1,h2,h3,h4,h5⟩:=h
  exact⟨b,k,c,arr,clk,hV _ _ _ h1,by rw[hb b (by simp[ZJ,h1])];exact h2,VRs.mono hI hV _ _ h3,VRs.mono hI hV _ _ h4,h5⟩
 |opq=>obtain⟨bi,h⟩:=h;exact⟨bi,hV _ _ _ h⟩
 |siter l p =>
  obtain⟨b,k,c,h1,h2⟩:=h
  exact⟨b,k,c,hV _ _ _ h1,by rw[hb b (by simp[ZJ,h1])];exact h2⟩
 |rrow g k xs =>
  obtain⟨bi,h1,h2,h3,h4,h5,h6,b,us,ty,e,h8,h9,h10⟩:=h
  exact⟨bi,hV _ _ _ h1,h2,h3,h4,h5,h6,b,us,ty,e,by rw[hb b (by simp[ZJ,h1,e])];exact h8,h9,VRs.mono hI hV _ _ h10⟩
 |var cs =>
  obtain⟨b,k,c,us,ty,h1,h2,h3⟩:=h
  exact⟨b,k,c,us,ty,hV _ _ _ h1,by rw[hb b (by simp[ZJ,h1])];exact h2,VRs.mono hI hV _ _ h3⟩
 |row g k xs =>
  obtain⟨bi,h1,h2,h3,h4,h5,h6,h7,h8⟩:=h
  refine⟨bi,hV _ _ _ h1,h2,h3,h4,h5,h6,h7,?_⟩
  rcases h8 with h8 |⟨b,us,ty,e,h8,h9,h10⟩
  ·grind
  ·exact Xt ⟨b,us,ty,e,by rw[hb b (by simp[ZJ,h1,e])];exact h8,h9,VRs.mono hI hV _ _ h10⟩
 |frow g k xs =>
  obtain⟨bi,h1,h2,h3,h4,h5,h6,h7⟩:=h
  refine⟨bi,hV _ _ _ h1,h2,h3,h4,h5,h6,?_⟩
  rcases h7 with h7 |⟨b,e,h7⟩
  ·grind
  ·exact Xt ⟨b,e,LR.mono hI hV _ _ _ _ h7⟩
theorem BR.owns_eq{t:Nat}{x:ZP}(h:BR I V w t x)(hV:V.le V'):ZJ V' t x=ZJ V t x:=by
 cases x with
 |free=>rfl
 |opq=>rfl
 |map es =>
  obtain⟨b,k,c,_,_,h1,_⟩:=h
  simp[ZJ,h1,hV _ _ _ h1]
 |siter l p =>
  obtain⟨b,k,c,h1,_⟩:=h
  simp[ZJ,h1,hV _ _ _ h1]
 |rrow g k xs =>
  obtain⟨bi,h1,_⟩:=h
  simp[ZJ,h1,hV _ _ _ h1]
 |frow=>rfl
 |var cs =>
  obtain⟨b,k,c,us,ty,h1,_⟩:=h
  simp[ZJ,h1,hV _ _ _ h1]
 |row g k xs =>
  obtain⟨bi,h1,_⟩:=h
  simp[ZJ,h1,hV _ _ _ h1]
theorem BR.owns_lt{t b:Nat}{x:ZP}(h:BR I V w t x)(hb:ZJ V t x=some b):b<w.heap.size:=by
 cases x with
 |free=>cases hb
 |opq=>cases hb
 |map es =>
  obtain⟨b',k,c,_,_,h1,h2,_⟩:=h
  simp only[ZJ,h1,Wk,Xb]at hb
  grind
 |siter l p =>
  obtain⟨b',k,c,h1,h2⟩:=h
  simp only[ZJ,h1,Wk,Xb]at hb
  grind
 |rrow g k xs =>
  obtain⟨bi,h1,_,_,_,_,_,b',us,ty,e,h8,_⟩:=h
  simp only[ZJ,h1,Wk,e,Xb]at hb
  grind
 |frow=>cases hb
 |var cs =>
  obtain⟨b',k,c,us,ty,h1,h2,_⟩:=h
  simp only[ZJ,h1,Wk,Xb]at hb
  grind
 |row g k xs =>
  obtain⟨bi,h1,_,_,_,_,_,_,h8⟩:=h
  simp only[ZJ,h1,Wk]at hb
  grind
theorem Rel.stay(R:Rel base w0 I0 I V G w)(hI:I.le I')(hB:KB base w w')(hold:∀ b o,base b->I' b o=I b o)
  (himm:∀ b o u,I' b o=some u->w'.cell? ⟨b,o,none⟩=some u)
  (keep:∀ t x b,G[t]?=some x->ZJ V t x=some b->w'.heap[b]?=w.heap[b]?/\∀ o,I' b o=none):Rel base w0 I0 I' V G w' where
 below:=R.below.trans hB
 old:=fun b o h=>(hold b o h).trans (R.old b o h)
 imm:=himm
 blk:=fun t x h=>(R.blk t x h).keep hI (Bmap.le.refl V) (fun b hb=>(keep t x b h hb).1)
 own:=fun t x b h hb=>⟨(R.own t x b h hb).1,(keep t x b h hb).2⟩
 apart:=R.apart
 fresh:=R.fresh
 free:=R.free
 gen:=R.gen
 glob:=⟨fun b o u h=>hI b o u (R.glob.1 b o u h),by rw[hI.2];exact R.glob.2⟩
theorem Rel.same(R:Rel base w0 I0 I V G w)(hh:w'.heap=w.heap)(h1:w'.os=w.os)(h2:w'.tape=w.tape)(h3:w'.output=w.output):Rel base w0 I0 I V G w' :=
 R.stay (Imm.le.refl I) ⟨h1,h2,h3,by grind,fun k _=>by rw[hh]⟩ (fun _ _ _=>rfl) (fun b o u h=>by
  have:=R.imm b o u h
  rw[<-this]
  simp[World.cell?,hh]) (fun t x b h hb=>⟨by rw[hh],(R.own t x b h hb).2⟩)
theorem Rel.upd(R:Rel base w0 I0 I V G w)(hI:I.le I')(hV:V.le V')(hB:KB base w w')(hold:∀ b o,base b->I' b o=I b o)
  (himm:∀ b o u,I' b o=some u->w'.cell? ⟨b,o,none⟩=some u)
  (s:Nat) (x':ZP) (hG:G'=G.set s x') (hs:s<G.length) (hVs:∀ t g,t≠s->V' t g=V t g)
  (keep:∀ t x b,t≠s->G[t]?=some x->ZJ V t x=some b->w'.heap[b]?=w.heap[b]?/\(∀ o,I' b o=none)/\ZJ V' s x'≠some b)
  (hblk:BR I' V' w' s x') (hown':∀ b,ZJ V' s x'=some b->¬base b/\∀ o,I' b o=none)
  (hgen':∀ g,Zm x'<g->V' s g=none) (hx':x'≠.free):Rel base w0 I0 I' V' G' w':=by
 subst hG
 have look:∀ t x,(G.set s x')[t]?=some x->(t=s/\x=x')\/(t≠s/\G[t]?=some x):=by
  intro t x h
  rw[XO]at h
  by_cases e:s=t
  ·subst e
   rw[if_pos rfl,if_pos hs]at h
   injection h with h
   exact Xq ⟨rfl,h.symm⟩
  ·rw[if_neg e]at h
   exact Xt ⟨fun h=>e h.symm,h⟩
 refine⟨R.below.trans hB,fun b o h=>(hold b o h).trans (R.old b o h),himm,?_,?_,?_,?_,?_,?_,⟨fun b o u h=>hI b o u (R.glob.1 b o u h),by rw[hI.2];exact R.glob.2⟩⟩
 ·intro t x h
  rcases look t x h with⟨rfl,rfl⟩ |⟨hne,h⟩
  ·exact hblk
  ·exact(R.blk t x h).keep hI hV (fun b hb=>(keep t x b hne h hb).1)
 ·intro t x b h hb
  rcases look t x h with⟨rfl,rfl⟩ |⟨hne,h⟩
  ·grind
  ·rw[(R.blk t x h).owns_eq hV]at hb
   exact⟨(R.own t x b h hb).1,(keep t x b hne h hb).2.1⟩
 ·intro t x t' x'' b h h' hb hb'
  rcases look t x h with⟨e1,e2⟩ |⟨hne,h1⟩
  ·rcases look t' x'' h' with⟨e3,e4⟩ |⟨hne',h1'⟩
   ·rw[e1,e3]
   ·rw[(R.blk _ _ h1').owns_eq hV]at hb'
    rw[e1,e2]at hb
    exact absurd hb (keep _ _ b hne' h1' hb').2.2
  ·rw[(R.blk t x h1).owns_eq hV]at hb
   rcases look t' x'' h' with⟨e3,e4⟩ |⟨hne',h1'⟩
   ·grind
   ·rw[(R.blk _ _ h1').owns_eq hV]at hb'
    exact R.apart t x t' x'' b h1 h1' hb hb'
 ·intro t g h
  simp only[Xaa]at h
  rw[hVs t g (by omega)]
  exact R.fresh t g h
 ·intro t g h
  rcases look t _ h with⟨rfl,e⟩ |⟨hne,h⟩
  ·grind
  ·rw[hVs t g hne];exact R.free t g h
 ·intro t b g h hg
  rcases look t _ h with⟨rfl,e⟩ |⟨hne,h⟩
  ·grind
  ·rw[hVs t g hne];exact R.gen t b g h hg
def Bmap.put(V:Bmap)(s g:Nat)(bi:BI):Bmap:=fun t g'=>if t=s/\g'=g then some bi else V t g'
theorem Bmap.put_same(V:Bmap)(s g:Nat)(bi:BI):V.put s g bi s g=some bi:=by simp[Bmap.put]
theorem Bmap.put_le{s g:Nat}{bi:BI}(h:V s g=none):V.le (V.put s g bi):=by
 intro t g' x hx
 unfold Bmap.put
 grind
theorem Bmap.put_ne{s g t g':Nat}{bi:BI}(h:t≠s):V.put s g bi t g'=V t g':=by simp[Bmap.put,h]
theorem Bmap.put_gen{s g g':Nat}{bi:BI}(h:g'≠g):V.put s g bi s g'=V s g':=by simp[Bmap.put,h]
theorem ZhJ(w:World)(o:Obj){b:Nat}(h:b<w.heap.size):(w.heap.push o)[b]?=w.heap[b]?:=by grind
theorem Zi9(w:World)(o:Obj):(w.heap.push o)[w.heap.size]?=some o:=by simp
theorem Zez{b o:Nat}{u:Value}(h:w.cell? ⟨b,o,none⟩=some u):b<w.heap.size:=by
 unfold World.cell? at h
 grind
theorem ZjH(w:World)(o:Obj){b off:Nat}{u:Value}(h:w.cell? ⟨b,off,none⟩=some u):World.cell? { w with heap:=w.heap.push o } ⟨b,off,none⟩=some u:=by
 have hb:=Zez h
 rw[<-h]
 simp only[World.cell?,ZhJ w o hb]
theorem Zjy(base:Nat->Prop)(w:World)(o:Obj)(hb:KLt base w):KB base w { w with heap:=w.heap.push o } :=
 ⟨rfl,rfl,rfl,by simp,fun k hk=>ZhJ w o (hb k hk)⟩
theorem Rel.base_le(R:Rel base w0 I0 I V G w)(hb:KLt base w0):KLt base w:=fun b h=>Nat.lt_of_lt_of_le (hb b h) R.below.size
theorem Rel.newObj(R:Rel base w0 I0 I V G w)(hb:KLt base w0){s:Nat}(hs:G[s]?=some .free)(o:Obj)(x':ZP)(k c:Nat)
  (hown:ZJ (V.put s 0 ⟨some w.heap.size,k,c⟩) s x'=some w.heap.size) (hg0:Zm x'=0) (hnf:x'≠.free)
  (hblk:BR I (V.put s 0 ⟨some w.heap.size,k,c⟩) { w with heap:=w.heap.push o } s x') :
  Rel base w0 I0 I (V.put s 0 ⟨some w.heap.size,k,c⟩) (G.set s x') { w with heap:=w.heap.push o }/\V.le (V.put s 0 ⟨some w.heap.size,k,c⟩):=by
 have hle:V.le (V.put s 0 ⟨some w.heap.size,k,c⟩):=Bmap.put_le (R.free s 0 hs)
 have hbw:=R.base_le hb
 have hsl:s<G.length:=(Xn.1 hs).1
 have hI0:∀ o,I w.heap.size o=none:=by
  intro o
  cases h:I w.heap.size o with
  |none=>rfl
  |some u=>have:=Zez (R.imm _ _ _ h);omega
 refine⟨R.upd (Imm.le.refl I) hle (Zjy base w _ hbw) (fun _ _ _=>rfl) (fun b o u h=>ZjH w _ (R.imm b o u h)) s x' rfl hsl (fun t g h=>Bmap.put_ne h) ?_ hblk ?_ ?_ hnf,hle⟩
 ·intro t x b hne h hb'
  have hlt:=(R.blk t x h).owns_lt hb'
  refine⟨ZhJ w _ hlt,(R.own t x b h hb').2,?_⟩
  grind
 ·intro b e
  rw[hown]at e;injection e with e;subst e
  exact⟨fun h=>XaC _ (hbw _ h),hI0⟩
 ·intro g hg
  rw[Bmap.put_gen (by omega)]
  exact R.free s g hs
theorem Rel.newOwn(R:Rel base w0 I0 I V G w)(hb:KLt base w0){s:Nat}(hs:G[s]?=some .free)(us:Array Value)(ty:TypeId)(x':ZP)(k c:Nat)
  (hx:(∃ cs,x'=.var cs/\VRs I V cs us.toList)\/(∃ xs,x'=.row 0 k xs/\0<k/\c<=9223372036854775807/\xs.length<=c/\Zaq xs=true/\(∀ x∈xs,x.cells.length=k)/\us.size=c*k/\VRs I V (xs.flatMap AVal.cells) (us.toList.take (xs.length*k)))) :
  Rel base w0 I0 I (V.put s 0 ⟨some w.heap.size,k,c⟩) (G.set s x') { w with heap:=w.heap.push (.cells us ty) }/\V.le (V.put s 0 ⟨some w.heap.size,k,c⟩):=by
 have hle:V.le (V.put s 0 ⟨some w.heap.size,k,c⟩):=Bmap.put_le (R.free s 0 hs)
 have hbw:=R.base_le hb
 have hsl:s<G.length:=(Xn.1 hs).1
 have hI0:∀ o,I w.heap.size o=none:=by
  intro o
  cases h:I w.heap.size o with
  |none=>rfl
  |some u=>have:=Zez (R.imm _ _ _ h);omega
 have hown:ZJ (V.put s 0 ⟨some w.heap.size,k,c⟩) s x'=some w.heap.size:=by
  rcases hx with⟨cs,rfl,_⟩ |⟨xs,rfl,_⟩<;>simp[ZJ,Bmap.put_same]
 refine⟨R.upd (Imm.le.refl I) hle (Zjy base w _ hbw) (fun _ _ _=>rfl) (fun b o u h=>ZjH w _ (R.imm b o u h)) s x' rfl hsl (fun t g h=>Bmap.put_ne h) ?_ ?_ ?_ ?_ ?_,hle⟩
 ·intro t x b hne h hb'
  have hlt:=(R.blk t x h).owns_lt hb'
  refine⟨ZhJ w _ hlt,(R.own t x b h hb').2,?_⟩
  grind
 ·rcases hx with⟨cs,rfl,h⟩ |⟨xs,rfl,h1,h2,h3,h4,h5,h6,h7⟩
  ·exact⟨w.heap.size,k,c,us,ty,Bmap.put_same V s 0 _,Zi9 w _,VRs.mono (Imm.le.refl I) hle _ _ h⟩
  ·exact⟨_,Bmap.put_same V s 0 _,rfl,h1,h2,h3,h4,h5,Xt ⟨w.heap.size,us,ty,rfl,Zi9 w _,h6,VRs.mono (Imm.le.refl I) hle _ _ h7⟩⟩
 ·intro b e
  rw[hown]at e;injection e with e;subst e
  exact⟨fun h=>XaC _ (hbw _ h),hI0⟩
 ·intro g hg
  have h0:Zm x'=0:=by rcases hx with⟨cs,rfl,_⟩ |⟨xs,rfl,_⟩<;>rfl
  rw[Bmap.put_gen (by omega)]
  exact R.free s g hs
 grind
theorem Rel.newNone(R:Rel base w0 I0 I V G w){s:Nat}(hs:G[s]?=some .free)(k:Nat)(hk:0<k) :
  Rel base w0 I0 I (V.put s 0 ⟨none,k,0⟩) (G.set s (.row 0 k [])) w/\V.le (V.put s 0 ⟨none,k,0⟩):=by
 have hle:V.le (V.put s 0 ⟨none,k,0⟩):=Bmap.put_le (R.free s 0 hs)
 have hsl:s<G.length:=(Xn.1 hs).1
 have hown:ZJ (V.put s 0 ⟨none,k,0⟩) s (.row 0 k [])=none:=by simp[ZJ,Bmap.put_same]
 refine⟨R.upd (Imm.le.refl I) hle (KB.refl base w) (fun _ _ _=>rfl) R.imm s _ rfl hsl (fun t g h=>Bmap.put_ne h) ?_ ?_ ?_ ?_ (by simp),hle⟩
 ·intro t x b hne h hb'
  exact⟨rfl,(R.own t x b h hb').2,by grind⟩
 ·exact⟨_,Bmap.put_same V s 0 _,rfl,hk,by simp,by simp,by simp[Zaq],by simp,Xq ⟨rfl,rfl⟩⟩
 ·grind
 ·intro g hg
  simp only[Zm]at hg
  rw[Bmap.put_gen (by omega)]
  exact R.free s g hs
def Imm.add(I:Imm)(b:Nat)(us:Array Value):Imm:={ im:=fun b' o=>if b'=b then us[o]? else I b' o,ln:=I.ln }
theorem Rel.newImm(R:Rel base w0 I0 I V G w)(hb:KLt base w0)(us:Array Value)(ty:TypeId)(fz:Nat×Nat) :
  Rel base w0 I0 (I.add w.heap.size us) V G { w with heap:=w.heap.push (.cells us ty fz) }/\I.le (I.add w.heap.size us):=by
 have hbw:=R.base_le hb
 have hle:I.le (I.add w.heap.size us):=by
  refine⟨fun b o u h=>?_,rfl⟩
  have:=Zez (R.imm _ _ _ h)
  show(if b=w.heap.size then us[o]? else I b o)=some u
  rw[if_neg (by omega)]
  exact h
 refine⟨R.stay hle (Zjy base w _ hbw) (fun b o h=>by show(if b=w.heap.size then us[o]? else I b o)=I b o;rw[if_neg (by have:=hbw b h;omega)]) ?_ ?_,hle⟩
 ·intro b o u h
  replace h:(if b=w.heap.size then us[o]? else I b o)=some u:=h
  split at h
  ·rename_i e
   subst e
   simp only[World.cell?,Zi9]
   grind
  ·exact ZjH w _ (R.imm b o u h)
 ·intro t x b h hb'
  have hlt:=(R.blk t x h).owns_lt hb'
  refine⟨ZhJ w _ hlt,fun o=>?_⟩
  show(if b=w.heap.size then us[o]? else I b o)=none
  rw[if_neg (by omega)]
  exact(R.own t x b h hb').2 o
theorem Rel.putObj(R:Rel base w0 I0 I V G w){t b:Nat}{x x':ZP}(ht:G[t]?=some x)(hx:ZJ V t x=some b)(hx':ZJ V t x'=some b)(o:Obj)
  (hblk:BR I V { w with heap:=w.heap.setIfInBounds b o } t x') (hg:Zm x'=Zm x) :
  Rel base w0 I0 I V (G.set t x') { w with heap:=w.heap.setIfInBounds b o }:=by
 have hsl:t<G.length:=(Xn.1 ht).1
 have ho:=R.own t x b ht hx
 have hh:∀ b',b'≠b->(w.heap.setIfInBounds b o)[b']?=w.heap[b']?:=by
  intro b' hne
  rw[Array.getElem?_setIfInBounds_ne (fun e=>hne e.symm)]
 refine R.upd (Imm.le.refl I) (Bmap.le.refl V) ⟨rfl,rfl,rfl,by simp,fun k hk=>hh k (by grind)⟩ (fun _ _ _=>rfl) ?_ t x' rfl hsl (fun _ _ _=>rfl) ?_ hblk ?_ ?_ ?_
 ·intro b' o u h
  have hne:b'≠b:=by rintro rfl;rw[ho.2 o]at h;cases h
  rw[<-R.imm b' o u h]
  simp only[World.cell?,hh b' hne]
 ·intro t' y b' hne hy hb'
  have hbb:b'≠b:=by rintro rfl;exact hne (R.apart t' y t x b' hy ht hb' hx)
  exact⟨hh b' hbb,(R.own t' y b' hy hb').2,by grind⟩
 ·grind
 ·intro g hlt
  exact R.gen t x g ht (by grind)
 ·rintro rfl
  cases hx'
theorem Rel.write(R:Rel base w0 I0 I V G w){t b:Nat}{x x':ZP}(ht:G[t]?=some x)(hx:ZJ V t x=some b)(hx':ZJ V t x'=some b)(us:Array Value)
  (hblk:BR I V (w.setRow b us) t x') (hg:Zm x'=Zm x) :
  Rel base w0 I0 I V (G.set t x') (w.setRow b us):=by
 have hsl:t<G.length:=(Xn.1 ht).1
 have ho:=R.own t x b ht hx
 have hh:∀ b',b'≠b->(w.setRow b us).heap[b']?=w.heap[b']?:=by
  intro b' hne
  simp only[World.setRow,XaI]
  grind
 refine R.upd (Imm.le.refl I) (Bmap.le.refl V) ⟨rfl,rfl,rfl,by simp[World.setRow],fun k hk=>hh k (by grind)⟩ (fun _ _ _=>rfl) ?_ t x' rfl hsl (fun _ _ _=>rfl) ?_ hblk ?_ ?_ ?_
 ·intro b' o u h
  have hne:b'≠b:=by rintro rfl;rw[ho.2 o]at h;cases h
  rw[<-R.imm b' o u h]
  simp only[World.cell?,hh b' hne]
 ·intro t' y b' hne hy hb'
  have hbb:b'≠b:=by rintro rfl;exact hne (R.apart t' y t x b' hy ht hb' hx)
  exact⟨hh b' hbb,(R.own t' y b' hy hb').2,by grind⟩
 ·grind
 ·intro g hlt
  exact R.gen t x g ht (by grind)
 ·rintro rfl
  cases hx'
end
end
section
open Go.RowKit
theorem Zfi{k:Nat}:∀ {xs:List AVal},(∀ x∈xs,x.cells.length=k)->(xs.flatMap AVal.cells).length=xs.length*k
 | [],_=>by simp
 |x::xs,h=>by
  have:=Zfi (xs:=xs) (fun y hy=>h y (by simp[hy]))
  simp[h x (by simp),this,We,Nat.add_comm]
theorem Zi6{k:Nat}:∀ {xs:List AVal} {i:Nat},(∀ x∈xs,x.cells.length=k)->(xs.flatMap AVal.cells).drop (i*k)=(xs.drop i).flatMap AVal.cells
 |xs,0,_=>by simp
 | [],i+1,_=>by simp
 |x::xs,i+1,h=>by
  have:=Zi6 (xs:=xs) (i:=i) (fun y hy=>h y (by simp[hy]))
  have hx:=h x (by simp)
  rw[XB,List.drop_succ_cons,<-this,Xa2,hx,Wg (by rw[hx,We];omega),Xp]
  congr 1
  rw[We];omega
theorem Zkf{k:Nat}:∀ {xs:List AVal} {i:Nat},(∀ x∈xs,x.cells.length=k)->(xs.flatMap AVal.cells).take (i*k)=(xs.take i).flatMap AVal.cells
 |xs,0,_=>by simp
 | [],i+1,_=>by simp
 |x::xs,i+1,h=>by
  have:=Zkf (xs:=xs) (i:=i) (fun y hy=>h y (by simp[hy]))
  have hx:=h x (by simp)
  rw[XB,List.take_succ_cons,XB,<-this,XaM,hx,XG (by rw[hx,We];omega)]
  congr 2
  rw[We];omega
theorem ZCk{k i:Nat}{xs:List AVal}{x:AVal}(h:∀ x∈xs,x.cells.length=k)(hx:xs[i]?=some x):((xs.flatMap AVal.cells).drop (i*k)).take k=x.cells:=by
 rw[Zi6 h]
 have hl:=Xn.1 hx
 obtain⟨hi,hxe⟩:=hl
 rw[List.drop_eq_getElem_cons hi,hxe,XB,XaM,h x (hxe ▸ XaN hi)]
 simp[<-h x (hxe ▸ XaN hi)]
theorem Zs6{i n k:Nat}(h:i<n):i*k+k<=n*k:=by
 have:=Wd k (show i+1<=n by omega)
 rw[We]at this;omega
section
variable {P:Program}{base:Nat->Prop}{w0 w w':World}{I0 I I':Imm}{V V':Bmap}{G G':Za}
theorem Zcl{t g n:Nat}{v:Value}:VR I V (.sl t g 0 n) v↔∃ bi,V t g=some bi/\n<=bi.cap/\bi.cap<=9223372036854775807/\((∃ b,bi.b=some b/\v=.slice (some ⟨b,0,none⟩) n bi.cap)\/(bi.b=none/\bi.cap=0/\∃ A,v=.slice A 0 0)):=by
 simp only[VR,Xa7,XF,Nat.sub_zero,XaC,false_and,or_false]
theorem Zmh:∀ {cs:List AVal} {b off:Nat},CR I V cs b off->∃ us:List Value,VRs I V cs us/\∀ j u,us[j]?=some u->I b (off+j)=some u
 | [],b,off,_=>⟨[],by simp only[VRs],fun j u h=>by simp at h⟩
 |c::cs,b,off,h=>by
  simp only[CR]at h
  obtain⟨⟨u,h1,h2⟩,h3⟩:=h
  obtain⟨us,h4,h5⟩:=Zmh h3
  refine⟨u::us,by simp only[VRs];grind,fun j v hv=>?_⟩
  grind
theorem ZxF:∀ {cs:List AVal} {us:List Value} {b off:Nat},VRs I V cs us->(∀ j u,us[j]?=some u->I b (off+j)=some u)->CR I V cs b off
 | [],us,b,off,_,_=>by simp only[CR]
 |c::cs,us,b,off,h,hi=>by
  simp only[VRs]at h
  obtain⟨v,us',rfl,h2,h3⟩:=h
  simp only[CR]
  exact⟨⟨v,hi 0 v rfl,h2⟩,ZxF h3 (fun j u hu=>by rw[show off+1+j=off+(j+1)by omega];exact hi (j+1) u (by grind))⟩
theorem Znd{k:Nat}:∀ {xs:List AVal} {b off i:Nat} {x:AVal},LR I V k xs b off->xs[i]?=some x->x.cells.length=k/\CR I V x.cells b (off+i*k)
 | [],_,_,i,x,_,hx=>by simp at hx
 |y::xs,b,off,i,x,h,hx=>by
  rw[Zhm]at h
  cases i with
  |zero =>
   grind
  |succ i =>
   simp only[XN]at hx
   have:=Znd h.2 hx
   rwa [show off+(i+1)*k=off+k+i*k by rw[We];omega]
theorem ZyU{k:Nat}{xs:List AVal}{b off:Nat}(h:LR I V k xs b off):∀ x∈xs,x.cells.length=k:=by
 intro x hx
 obtain⟨i,hi⟩:=W5.1 hx
 exact(Znd h hi).1
theorem ZjK{k:Nat}:∀ {xs:List AVal} {us:List Value} {b off:Nat},(∀ x∈xs,x.cells.length=k)->VRs I V (xs.flatMap AVal.cells) us->(∀ j u,us[j]?=some u->I b (off+j)=some u)->LR I V k xs b off
 | [],_,_,_,_,_,_=>by simp only[LR]
 |x::xs,us,b,off,hk,h,hi=>by
  rw[Zhm]
  have hx:=hk x (by simp)
  have h1:=Zgi h k
  have h2:=Zgm h k
  rw[XB,XaM,hx,XG (by omega),XaB,List.take_zero,List.append_nil]at h1
  rw[XB,Xa2,hx,Wg (by omega),XaB,List.drop_zero,Xp]at h2
  refine⟨⟨hx,ZxF h1 (fun j u hu=>hi j u ?_)⟩,ZjK (fun y hy=>hk y (by simp[hy])) h2 (fun j u hu=>?_)⟩
  ·grind
  grind
theorem Zw4{k:Nat}:∀ {xs:List AVal} {b off:Nat},LR I V k xs b off->∃ us:List Value,VRs I V (xs.flatMap AVal.cells) us/\∀ j u,us[j]?=some u->I b (off+j)=some u
 | [],b,off,_=>⟨[],by simp only[List.flatMap_nil,VRs],fun j u h=>by simp at h⟩
 |x::xs,b,off,h=>by
  rw[Zhm]at h
  obtain⟨us,h1,h2⟩:=Zmh h.1.2
  obtain⟨vs,h3,h4⟩:=Zw4 h.2
  have hl:=ZaO h1
  refine⟨us++vs,by rw[XB];exact Zc3 h1 h3,fun j u hu=>?_⟩
  grind
theorem Zt5{k:Nat}:∀ {xs:List AVal} {b off n:Nat},LR I V k xs b off->LR I V k (xs.drop n) b (off+n*k)
 |xs,b,off,0,h=>by grind
 | [],b,off,n+1,h=>by simp[LR]
 |x::xs,b,off,n+1,h=>by
  rw[Zhm]at h
  have:=Zt5 (n:=n) h.2
  rw[List.drop_succ_cons,show off+(n+1)*k=off+k+n*k by rw[We];omega]
  exact this
theorem Zt2{k:Nat}:∀ {xs:List AVal} {b off n:Nat},LR I V k xs b off->LR I V k (xs.take n) b off
 |xs,b,off,0,h=>by simp[LR]
 | [],b,off,n+1,h=>by simp[LR]
 |x::xs,b,off,n+1,h=>by
  rw[Zhm]at h
  rw[List.take_succ_cons,Zhm]
  exact⟨h.1,Zt2 h.2⟩
theorem ZdG:∀ {xs:List AVal},Zaq xs=true↔∀ x∈xs,ZaK x.cells=true
 | []=>by simp[Zaq]
 |x::xs=>by
  rw[Zse,Xk,ZdG (xs:=xs)]
  simp
theorem Zd0:∀ {xs:List AVal},ZaK xs=true↔∀ x∈xs,ZaN x=true
 | []=>by simp[ZaK]
 |x::xs=>by
  rw[ZaK,Xk,Zd0 (xs:=xs)]
  simp
theorem ZnK{xs:List AVal}(h:Zaq xs=true):ZaK (xs.flatMap AVal.cells)=true:=by
 rw[Zd0]
 intro x hx
 obtain⟨y,hy,hx⟩:=Wr.1 hx
 exact Zd0.1 (ZdG.1 h y hy) x hx
theorem VR.one{x:AVal}{v:Value}(hx:ZY x=true)(h:VR I V x v):v.oneCell'=true:=by
 cases x
 case agg=>simp[ZY]at hx
 case tup=>simp[ZY]at hx
 case top=>simp[ZY]at hx
 case pan=>simp[ZY]at hx
 all_goals
  simp only[VR]at h
  try exact h.2
  try (obtain⟨_,_,_,_,rfl⟩:=h;rfl)
  try (obtain⟨_,_,rfl,_⟩:=h;rfl)
  try (obtain⟨_,rfl,_⟩:=h;rfl)
  try (obtain⟨rfl,_⟩:=h;rfl)
  try (subst h;rfl)
  try (obtain⟨_,_,_,_,(⟨_,_,rfl⟩ |⟨_,_,_,rfl⟩ |⟨_,_,_,_,rfl⟩)⟩:=h<;>rfl)
theorem Zka{x:AVal}(h:ZaN x=true):ZY x=true:=by cases x<;>simp_all[ZaN,ZY]
theorem Zih:∀ {xs:List AVal} {vs:List Value},(∀ x∈xs,ZY x=true)->VRs I V xs vs->∀ v∈vs,v.oneCell'=true
 | [],vs,_,h,v,hv=>by simp only[VRs]at h;grind
 |x::xs,vs,hx,h,v,hv=>by
  simp only[VRs]at h
  obtain⟨u,us,rfl,h2,h3⟩:=h
  rcases X0.1 hv with rfl |hv
  ·exact VR.one (hx x (by simp)) h2
  ·exact Zih (fun y hy=>hx y (by simp[hy])) h3 v hv
theorem ZA1{t:TypeId}{k:Option Nat}(hk:Zgz P t=some k){b off:Nat}{us:List Value}(hc:∀ j u,us[j]?=some u->w.cell? ⟨b,off+j,none⟩=some u)
  {cs:List AVal} (hv:VRs I V cs us) {o:Nat} {x:AVal} (hp:partA k cs o=some x):∃ u,(loadVar t ⟨b,off+o,none⟩).run P w=.ok u w/\VR I V x u:=by
 unfold Zgz at hk
 have hl:=ZaO hv
 have many:∀ (d:TypeDesc) (i:TypeInfo),P.underlying t=some d->d.isRow=true->P.info? t=some i->k=some i.size->∃ u,(loadVar t ⟨b,off+o,none⟩).run P w=.ok u w/\VR I V x u:=by
  intro d i hu hd hi e
  subst e
  simp only[partA]at hp
  split at hp
  ·rename_i hle
   injection hp with hp
   subst hp
   refine⟨_,run_loadVar_mid w b (off+o) t ((us.drop o).take i.size) d ?_ hu hd (by grind),?_⟩
   ·intro j v hj
    grind
   ·simp only[VR]
    exact⟨_,rfl,by simpa using Zgi (Zgm hv o) i.size⟩
  ·cases hp
 have one:∀ (d:TypeDesc),P.underlying t=some d->d.isRow=false->k=none->∃ u,(loadVar t ⟨b,off+o,none⟩).run P w=.ok u w/\VR I V x u:=by
  intro d hu hd e
  subst e
  simp only[partA]at hp
  obtain⟨u,h1,h2⟩:=Zcm hv hp
  refine⟨u,?_,h2⟩
  have hagg:(isAgg t).run P w=.ok false w:=by
   unfold isAgg
   rw[Sem.run_bind,run_underlying hu w]
   cases d<;>simp_all[TypeDesc.isRow]
  simp[loadVar,Sem.run_bind,hagg,hc o u h1]
 grind
theorem Zg5{b o:Nat}{us:Array Value}{ty:TypeId}{fz:Nat×Nat}(h:w.heap[b]?=some (.cells us ty fz)):w.cell? ⟨b,o,none⟩=us[o]?:=by simp[World.cell?,h]
theorem Zv1 {t : TypeId} {k : Option Nat} (hk : Zgz P t = some k) (R : Rel base w0 I0 I V G w) {a x : AVal} {v : Value} (ha : VR I V a v) {c : Cls} (h : ldA G k a = some (x, G', c)) :
    ∃ u, (Instr.loadAt t v).run P w = .ok u w /\ VR I V x u /\ G' = G := by
  have fin : ∀ {b off o : Nat} {us : List Value} {cs : List AVal}, (∀ j u, us[j]? = some u -> w.cell? ⟨b, off + j, none⟩ = some u) -> VRs I V cs us -> partA k cs o = some x -> v = .pointer (some ⟨b, off + o, none⟩) ->
      ∃ u, (Instr.loadAt t v).run P w = .ok u w /\ VR I V x u := by
    intro b off o us cs hc hv hp e
    subst e
    obtain ⟨u, h1, h2⟩ := ZA1 hk hc hv hp
    exact ⟨u, by simp only [Instr.loadAt, Instr.sureAddr, Sem.run_bind, Sem.run_pure, Result.andThen_ok, h1], h2⟩
  have rowcase : ∀ {b kk i o cap : Nat} {us : Array Value} {ty : TypeId} {xs : List AVal} {y : AVal}, w.heap[b]? = some (.cells us ty (0, 0)) -> (∀ x ∈ xs, x.cells.length = kk) -> VRs I V (xs.flatMap AVal.cells) (us.toList.take (xs.length * kk)) ->
      xs[i]? = some y -> partA k y.cells o = some x -> v = .pointer (some ⟨b, i * kk + o, none⟩) -> ∃ u, (Instr.loadAt t v).run P w = .ok u w /\ VR I V x u := by
    intro b kk i o cap us ty xs y hh hlen hv hy hp e
    have h1 := Zgi (Zgm hv (i * kk)) kk
    rw [ZCk hlen hy] at h1
    refine fin (off := i * kk) ?_ h1 hp e
    intro j u hu
    rw [X4] at hu
    split at hu
    . rw [WF, X4] at hu
      split at hu
      . rw [Zg5 hh]; simpa using hu
      . cases hu
    . cases hu
  have frowcase : ∀ {kk i o b : Nat} {xs : List AVal} {y : AVal}, LR I V kk xs b 0 -> xs[i]? = some y -> partA k y.cells o = some x -> v = .pointer (some ⟨b, i * kk + o, none⟩) -> ∃ u, (Instr.loadAt t v).run P w = .ok u w /\ VR I V x u := by
    intro kk i o b xs y hL hy hp e
    obtain ⟨us, h1, h2⟩ := Zmh (Znd hL hy).2
    exact fin (off := i * kk) (fun j u hu => R.imm _ _ _ (by grind)) h1 hp e
  unfold ldA at h
  split at h
  . rename_i t' o
    simp only [VR] at ha
    obtain ⟨b, k', c', hV, rfl⟩ := ha
    split at h
    . rename_i cs hs
      split at h
      . rename_i v' hp
        simp only [Xb, Xe] at h
        obtain ⟨rfl, rfl, rfl⟩ := h
        obtain ⟨b', k'', c'', us, ty, h1, h2, h3⟩ := R.blk _ _ hs
        rw [hV] at h1
        simp only [Xb, BI.mk.injEq] at h1
        obtain ⟨rfl, rfl, rfl⟩ := h1
        obtain ⟨u, hu1, hu2⟩ := fin (off := 0) (fun j u hu => by rw [Zg5 h2]; simpa using hu) h3 hp (by simp)
        grind
      . cases h
    . cases h
  . rename_i t' g i o
    simp only [VR] at ha
    obtain ⟨b, k', c', hV, rfl⟩ := ha
    split at h
    . rename_i g' kk xs hs
      split at h
      . rename_i e; subst e
        split at h
        . rename_i y hy
          split at h
          . rename_i v' hp
            simp only [Xb, Xe] at h
            obtain ⟨rfl, rfl, rfl⟩ := h
            obtain ⟨bi, h1, h2, h3, h4, h5, h6, h7, h8⟩ := R.blk _ _ hs
            rw [hV] at h1
            injection h1 with h1
            subst h1
            simp only at h2 h8
            subst h2
            rcases h8 with ⟨h8, _⟩ | ⟨b', us, ty, e, h8, h9, h10⟩
            . cases h8
            . injection e with e
              subst e
              obtain ⟨u, hu1, hu2⟩ := rowcase (cap := 0) h8 h7 h10 hy hp rfl
              grind
          . cases h
        . cases h
      . cases h
    . rename_i g' kk xs hs
      split at h
      . rename_i e; subst e
        split at h
        . rename_i y hy
          split at h
          . rename_i v' hp
            simp only [Xb, Xe] at h
            obtain ⟨rfl, rfl, rfl⟩ := h
            obtain ⟨bi, h1, h2, h3, h4, h5, h6, h7⟩ := R.blk _ _ hs
            grind
          . cases h
        . cases h
      . cases h
    . rename_i g' kk xs hs
      split at h
      . rename_i e; subst e
        split at h
        . rename_i y hy
          split at h
          . rename_i v' hp
            simp only [Xb, Xe] at h
            obtain ⟨rfl, rfl, rfl⟩ := h
            obtain ⟨bi, h1, h2, h3, h4, h5, h6, b', us, ty, e, h8, h9, h10⟩ := R.blk _ _ hs
            rw [hV] at h1
            injection h1 with h1
            subst h1
            simp only at h2 e
            subst h2
            injection e with e
            subst e
            obtain ⟨u, hu1, hu2⟩ := rowcase (cap := 0) h8 (fun x hx => (h6 x hx).1) h10 hy hp rfl
            grind
          . cases h
        . cases h
      . cases h
    . cases h
  . rename_i cs o
    simp only [VR] at ha
    obtain ⟨b, off, rfl, h1, h2⟩ := ha
    split at h
    . rename_i v' hp
      simp only [Xb, Xe] at h
      obtain ⟨rfl, rfl, rfl⟩ := h
      obtain ⟨us, h3, h4⟩ := Zmh h1
      obtain ⟨u, hu1, hu2⟩ := fin (off := off) (fun j u hu => R.imm _ _ _ (h4 j u hu)) h3 hp rfl
      grind
    . cases h
  . cases h
end
end
section
open Go.RowKit
section
variable {P:Program}{base:Nat->Prop}{w0 w w':World}{I0 I I':Imm}{V V':Bmap}{G G':Za}
def Zg9(I:Imm)(V:Bmap)(w:World)(v:Value)(xs:List AVal):Prop :=
 ∃ A cap,v=.slice A xs.length cap/\xs.length<=cap/\cap<=9223372036854775807/\Zaq xs=true /\
  (xs=[]\/∃ b off k us,A=some ⟨b,off,none⟩/\0<k/\(∀ x∈xs,x.cells.length=k)/\VRs I V (xs.flatMap AVal.cells) us/\∀ j u,us[j]?=some u->w.cell? ⟨b,off+j,none⟩=some u)
theorem Zm6(R:Rel base w0 I0 I V G w){x:Bool}{xs:List AVal}{v:Value}(h:VR I V (.lst x xs) v):Zg9 I V w v xs:=by
 simp only[VR]at h
 obtain⟨A,cap,h1,h2,h3,h4,h5,h6⟩:=h
 refine⟨A,cap,h1,h2,h3,h6,?_⟩
 rcases h5 with h5 |⟨b,off,k,e,hk,h5⟩
 ·grind
 ·obtain⟨us,h7,h8⟩:=Zw4 h5
  exact Xt ⟨b,off,k,us,e,hk,ZyU h5,h7,fun j u hu=>R.imm _ _ _ (h8 j u hu)⟩
theorem ZvO(l:List UInt8):(l.map Zh).flatMap AVal.cells=l.map Zh:=by
 induction l with
 |nil=>rfl
 |cons c l ih=>simp only[Xu,XB,ih];rfl
theorem ZL9(I:Imm)(V:Bmap)(l:List UInt8):VRs I V (l.map Zh) (l.map fun c=>Value.int .u8 c.toNat):=by
 induction l with
 |nil=>simp only[XC,VRs]
 |cons c l ih=>simp only[Xu,VRs];exact⟨_,_,rfl,by simp only[Zh,VR],ih⟩
theorem Zzm(R:Rel base w0 I0 I V G w){l:List UInt8}{v:Value}(h:VR I V (.lnt l) v):Zg9 I V w v (l.map Zh):=by
 simp only[VR]at h
 obtain⟨A,cap,h1,h2,h3,h4⟩:=h
 refine⟨A,cap,by grind,by grind,h3,?_,?_⟩
 ·rw[ZdG]
  intro x hx
  obtain⟨c,_,rfl⟩:=X7.1 hx
  rfl
 ·rcases h4 with rfl |⟨b,off,e,h4⟩
  ·grind
  ·refine Xt ⟨b,off,1,_,e,by omega,?_,by rw[ZvO];exact ZL9 I V l,?_⟩
   ·intro x hx
    obtain⟨c,_,rfl⟩:=X7.1 hx
    rfl
   ·intro j u hu
    rw[Xab,Xo]at hu
    obtain⟨c,hc,rfl⟩:=hu
    rcases h4 j c hc with h4 |h4
    ·exact R.imm _ _ _ h4
    ·exact(R.lnow h4).2
theorem ZkZ{xs:List AVal}(h:Zaq xs=true)(n:Nat):Zaq (xs.take n)=true:=by
 rw[ZdG]at h⊢
 exact fun x hx=>h x (Xas hx)
theorem Zkg{xs:List AVal}(h:Zaq xs=true)(n:Nat):Zaq (xs.drop n)=true:=by
 rw[ZdG]at h⊢
 exact fun x hx=>h x (WT hx)
theorem Zie{xs ys:List AVal}(h:Zaq xs=true)(h':Zaq ys=true):Zaq (xs++ys)=true:=by
 rw[ZdG]at h h' ⊢
 intro x hx
 rcases XE.1 hx with hx |hx
 ·exact h x hx
 ·exact h' x hx
theorem ZNv(R:Rel base w0 I0 I V G w){t g k lo n:Nat}{xs:List AVal}{v:Value}(hs:G[t]?=some (.row g k xs))(hn:lo+n<=xs.length)(h:VR I V (.sl t g lo n) v):Zg9 I V w v ((xs.drop lo).take n):=by
 simp only[VR]at h
 obtain⟨bi,h1,h2,h3,h4⟩:=h
 obtain⟨bi',e1,e2,e3,e4,e5,e6,e7,e8⟩:=R.blk _ _ hs
 rw[h1]at e1
 injection e1 with e1
 subst e1
 have hl:((xs.drop lo).take n).length=n:=by simp;omega
 have ht:=ZkZ (Zkg e6 lo) n
 have zero:∀ A,n=0->v=.slice A 0 0->Zg9 I V w v ((xs.drop lo).take n):=by
  intro A hz e
  subst hz
  exact⟨A,0,by grind,by simp,by simp,by grind,Xq (by simp)⟩
 rcases h4 with⟨b,hb,rfl⟩ |⟨hb,hc,A,rfl⟩ |⟨_,_,hz,A,hv⟩
 ·rcases e8 with⟨e8,_⟩ |⟨b',us,ty,e,e8,e9,e10⟩
  ·grind
  ·rw[hb]at e
   injection e with e
   subst e
   refine⟨_,_,by rw[hl],by grind,by omega,ht,Xt ⟨b,lo*bi.k,k,((us.toList.take (xs.length*k)).drop (lo*k)).take (n*k),rfl,e3,fun x hx=>e7 x (WT (Xas hx)),?_,?_⟩⟩
   ·have h5:=Zgi (Zgm e10 (lo*k)) (n*k)
    rwa [Zi6 e7,Zkf (fun x hx=>e7 x (WT hx))]at h5
   ·intro j u hu
    rw[X4]at hu
    split at hu
    ·rw[WF,X4]at hu
     split at hu
     ·rw[Zg5 e8,e2];simpa using hu
     ·cases hu
    ·cases hu
 ·grind
 grind
theorem Zrx(R:Rel base w0 I0 I V G w){t g k lo n:Nat}{xs:List AVal}{v:Value}(hs:G[t]?=some (.frow g k xs))(hn:lo+n<=xs.length)(h:VR I V (.sl t g lo n) v):VR I V (.lst false ((xs.drop lo).take n)) v:=by
 simp only[VR]at h⊢
 obtain⟨bi,h1,h2,h3,h4⟩:=h
 obtain⟨bi',e1,e2,e3,e4,e5,e6,e7⟩:=R.blk _ _ hs
 rw[h1]at e1
 injection e1 with e1
 subst e1
 have hl:((xs.drop lo).take n).length=n:=by simp;omega
 have ht:=ZkZ (Zkg e6 lo) n
 have zero:∀ A,n=0->v=.slice A 0 0->∃ A cap,v=.slice A ((xs.drop lo).take n).length cap/\((xs.drop lo).take n).length<=cap/\cap<=9223372036854775807/\(false=true->cap=((xs.drop lo).take n).length)/\((xs.drop lo).take n=[]\/∃ b off k,A=some ⟨b,off,none⟩/\0<k/\LR I V k ((xs.drop lo).take n) b off)/\Zaq ((xs.drop lo).take n)=true:=by
  intro A hz e
  subst hz
  exact⟨A,0,by simpa using e,by simp,by simp,by simp,Xq (by simp),by simp[Zaq]⟩
 rcases h4 with⟨b,hb,rfl⟩ |⟨hb,hc,A,rfl⟩ |⟨_,_,hz,A,hv⟩
 ·refine⟨_,_,by rw[hl],by grind,by omega,by simp,?_,ht⟩
  rcases e7 with e7 |⟨b',e,e7⟩
  ·grind
  ·rw[hb]at e
   injection e with e
   subst e
   have h5:=Zt2 (n:=n) (Zt5 (n:=lo) e7)
   rw[XF]at h5
   exact Xt ⟨b,lo*bi.k,k,rfl,e3,by rw[e2];exact h5⟩
 ·exact zero A (by omega) rfl
 grind
theorem ZlZ(R:Rel base w0 I0 I V G w){a:AVal}{xs:List AVal}{ts:List Nat}{v:Value}(hn:∀ l,a≠.str l)(h:ZZ G a=some (xs,ts))(hv:VR I V a v):Zg9 I V w v xs:=by
 unfold ZZ at h
 split at h
 ·simp only[Xb,Xe]at h
  obtain⟨rfl,rfl⟩:=h
  exact Zm6 R hv
 ·grind
 ·simp only[Xb,Xe]at h
  obtain⟨rfl,rfl⟩:=h
  exact Zzm R hv
 ·split at h
  ·rename_i hs
   split at h
   ·rename_i he
    obtain⟨rfl,he⟩:=he
    simp only[Xb,Xe]at h
    obtain⟨rfl,rfl⟩:=h
    exact ZNv R hs he hv
   ·cases h
  ·rename_i hs
   split at h
   ·rename_i he
    obtain⟨rfl,he⟩:=he
    simp only[Xb,Xe]at h
    obtain⟨rfl,rfl⟩:=h
    exact Zm6 R (Zrx R hs he hv)
   ·cases h
  ·cases h
 ·cases h
def Rowy(G:Za)(ts:List Nat):Prop:=∀ t∈ts,∃ g k xs,G[t]?=some (.row g k xs)\/G[t]?=some (.frow g k xs)
def Frozen(G:Za)(ts:List Nat):Prop:=∀ t∈ts,∃ g k xs,G[t]?=some (.frow g k xs)
theorem Rowy.append{ts us:List Nat}(h:Rowy G ts)(h':Rowy G us):Rowy G (ts++us):=by
 intro t ht
 rcases XE.1 ht with ht |ht
 ·exact h t ht
 ·exact h' t ht
theorem ZjW{a:AVal}{xs:List AVal}{ts:List Nat}(h:ZZ G a=some (xs,ts)):Rowy G ts:=by
 unfold ZZ at h
 split at h
 ·simp only[Xb,Xe]at h;rw[<-h.2];intro t ht;simp at ht
 ·simp only[Xb,Xe]at h;rw[<-h.2];intro t ht;simp at ht
 ·simp only[Xb,Xe]at h;rw[<-h.2];intro t ht;simp at ht
 ·split at h
  ·rename_i hs
   split at h
   ·simp only[Xb,Xe]at h;rw[<-h.2];intro t ht;grind
   ·cases h
  ·rename_i hs
   split at h
   ·simp only[Xb,Xe]at h;rw[<-h.2];intro t ht;grind
   ·cases h
  ·cases h
 ·cases h
theorem ZlH{a y:AVal}{ts:List Nat}(h:ZN G a=some (y,ts)):Rowy G ts:=by
 unfold ZN at h
 split at h
 case h_2 =>
  split at h
  ·rename_i he
   simp only[Xb,Xe]at h
   rw[<-h.2]
   exact ZjW he
  ·cases h
 case h_9=>cases h
 all_goals
  simp only[Xb,Xe]at h
  rw[<-h.2]
  intro t ht
  simp at ht
theorem Zsx:∀ {cs ys:List AVal} {ts:List Nat},Zae G cs=some (ys,ts)->Rowy G ts
 | [],ys,ts,h=>by simp only[Zae,Xb,Xe]at h;rw[<-h.2];intro t ht;simp at ht
 |c::cs,ys,ts,h=>by
  simp only[Zae]at h
  split at h
  ·rename_i h1
   split at h
   ·rename_i h2
    simp only[Xb,Xe]at h
    rw[<-h.2]
    exact(ZlH h1).append (Zsx h2)
   ·cases h
  ·cases h
theorem ZxT{a y:AVal}{ts:List Nat}(h:Z3 G a=some (y,ts)):Rowy G ts:=by
 unfold Z3 at h
 split at h
 ·split at h
  ·rename_i h1
   simp only[Xb,Xe]at h
   rw[<-h.2]
   exact Zsx h1
  ·cases h
 ·exact ZlH h
theorem Znw:∀ {cs ys:List AVal} {ts:List Nat},viewAs G cs=some (ys,ts)->Rowy G ts
 | [],ys,ts,h=>by simp only[viewAs,Xb,Xe]at h;rw[<-h.2];intro t ht;simp at ht
 |c::cs,ys,ts,h=>by
  simp only[viewAs]at h
  split at h
  ·rename_i h1
   split at h
   ·rename_i h2
    simp only[Xb,Xe]at h
    rw[<-h.2]
    exact(ZxT h1).append (Znw h2)
   ·cases h
  ·cases h
theorem ZLH{a y:AVal}{ts:List Nat}(h:viewR G a=some (y,ts)):Rowy G ts:=by
 unfold viewR at h
 split at h
 ·split at h
  ·rename_i h1
   simp only[Xb,Xe]at h
   rw[<-h.2]
   exact Znw h1
  ·cases h
 ·exact ZxT h
def Alike(G G':Za):Prop:=∀ a,ZZ G' a=ZZ G a
theorem Alike.view1(h:Alike G G')(a:AVal):ZN G' a=ZN G a:=by
 cases a<;>simp only[ZN]
 rw[h]
theorem Alike.views(h:Alike G G'):∀ cs,Zae G' cs=Zae G cs
 | []=>rfl
 |c::cs=>by simp only[Zae,h.view1,h.views cs]
theorem Alike.view(h:Alike G G')(a:AVal):Z3 G' a=Z3 G a:=by
 cases a<;>simp only[Z3,h.view1,h.views]
theorem Alike.viewAs(h:Alike G G'):∀ cs,viewAs G' cs=viewAs G cs
 | []=>rfl
 |c::cs=>by
  have ih:=h.viewAs cs
  simp only[YtjhabjdfhmbanaaGreatDoor.viewAs,h.view,ih]
theorem Alike.viewR(h:Alike G G')(a:AVal):viewR G' a=viewR G a:=by
 cases a<;>simp only[YtjhabjdfhmbanaaGreatDoor.viewR,h.view,h.viewAs]
theorem ZPa{I:Imm}{V:Bmap}{xs:List AVal}{vs:List Value}(h:VRs I V xs vs){i:Nat}{v:Value}(hv:vs[i]?=some v):∃ x,xs[i]?=some x/\VR I V x v:=by
 cases hx:xs[i]? with
 |none =>
  rw[List.getElem?_eq_none_iff,ZaO h,<-List.getElem?_eq_none_iff]at hx
  rw[hx]at hv;cases hv
 |some x =>
  obtain⟨v',h1,h2⟩:=Zcm h hx
  grind
theorem ZOe{I:Imm}{V:Bmap}{c:AVal}{n:Int}(h:nb1 c=true)(hv:VR I V c (.int .u8 n)):False:=by
 unfold nb1 at h
 split at h
 ·cases h
 ·rename_i k m hk
  simp only[VR]at hv
  grind
 all_goals first
  |(cases h;done)
  |(simp only[VR]at hv;first |(cases hv;done) |(cases hv.1;done) |(obtain⟨_,_,hv,_⟩:=hv;cases hv))
theorem ZBm(R:Rel base w0 I0 I V G w){t g k:Nat}{xs:List AVal}(hs:G[t]?=some (.row g k xs)) :
  ∃ I',I.le I'/\Rel base w0 I0 I' V (G.set t (.frow g k xs)) w/\(ZjS xs=true->∀ b o n,I' b o=some (.int .u8 n)->I b o=some (.int .u8 n)):=by
 have hsl:t<G.length:=(Xn.1 hs).1
 obtain⟨bi,h1,h2,h3,h4,h5,h6,h7,h8⟩:=R.blk _ _ hs
 rcases h8 with⟨h8,h9⟩ |⟨b,us,ty,e,h8,h9,h10⟩
 ·have hx:xs=[]:=Xx (by omega)
  refine⟨I,Imm.le.refl I,R.upd (Imm.le.refl I) (Bmap.le.refl V) (KB.refl base w) (fun _ _ _=>rfl) R.imm t _ rfl hsl (fun _ _ _=>rfl) (fun t' x b _ hx hb=>⟨rfl,(R.own t' x b hx hb).2,by simp[ZJ]⟩) ⟨bi,h1,h2,h3,h4,h5,h6,Xq hx⟩ (fun b e=>by cases e) (fun g' hg=>R.gen t _ g' hs (by simpa[Zm]using hg)) (by simp),fun _ _ _ _ h=>h⟩
 ·have hown:ZJ V t (.row g k xs)=some b:=by simp[ZJ,h1,e]
  have ho:=R.own t _ b hs hown
  let I':Imm:={ im:=fun b' o=>if b'=b/\o<xs.length*k then us[o]? else I b' o,ln:=I.ln }
  have hle:I.le I':=by
   refine⟨fun b' o u hu=>?_,rfl⟩
   have : b'≠b:=by rintro rfl;rw[ho.2 o]at hu;cases hu
   simp only[I',this,false_and,if_false]
   exact hu
  have hlen:xs.length*k<=us.size:=by rw[h9];exact Wd k h5
  refine⟨I',hle,R.upd hle (Bmap.le.refl V) (KB.refl base w) ?_ ?_ t _ rfl hsl (fun _ _ _=>rfl) ?_ ?_ (fun b e=>by cases e) (fun g' hg=>R.gen t _ g' hs (by simpa[Zm]using hg)) (by simp),?_⟩
  ·grind
  ·intro b' o u hu
   simp only[I']at hu
   split at hu
   ·rename_i hc
    rw[hc.1,Zg5 h8];exact hu
   ·exact R.imm _ _ _ hu
  ·intro t' x b' hne hx hb'
   have : b'≠b:=by rintro rfl;exact hne (R.apart t' x t _ b' hx hs hb' hown)
   refine⟨rfl,fun o=>?_,by simp[ZJ]⟩
   simp only[I',this,false_and,if_false]
   exact(R.own t' x b' hx hb').2 o
  ·refine⟨bi,h1,h2,h3,h4,h5,h6,Xt ⟨b,e,?_⟩⟩
   refine ZjK h7 (VRs.mono hle (Bmap.le.refl V) _ _ h10) (fun j u hu=>?_)
   grind
  ·intro hnb b' o n hu
   simp only[I']at hu
   split at hu
   ·rename_i hc
    exfalso
    have hj:(us.toList.take (xs.length*k))[o]?=some (.int .u8 n):=by
     rw[X4,if_pos hc.2];simpa using hu
    obtain⟨c,hc1,hc2⟩:=ZPa h10 hj
    obtain⟨x,hx,hcx⟩:=Wr.1 (XL hc1)
    exact ZOe (Xy.1 (Xy.1 hnb x hx) c hcx) hc2
   ·exact hu
theorem ZQ9{t g k:Nat}{xs:List AVal}(hs:G[t]?=some (.row g k xs)):Alike G (G.set t (.frow g k xs)):=by
 have hsl:t<G.length:=(Xn.1 hs).1
 intro a
 cases a<;>simp only[ZZ]
 grind
theorem Zh3:∀ (ts:List Nat) {I:Imm} {G:Za},Rel base w0 I0 I V G w->∃ I',I.le I'/\Rel base w0 I0 I' V (Zv G ts) w/\Alike G (Zv G ts)/\(∀ (t g k:Nat) (xs:List AVal),G[t]?=some (ZP.frow g k xs)->(Zv G ts)[t]?=some (ZP.frow g k xs))/\(Rowy G ts->Frozen (Zv G ts) ts)/\(Zv G ts).length=G.length/\(∀ (t:Nat) (x:ZP),t∉ts->G[t]?=some x->(Zv G ts)[t]?=some x)/\(ts.all (Zej G)=true->∀ b o n,I' b o=some (.int .u8 n)->I b o=some (.int .u8 n))
 | [],I,G,R=>⟨I,Imm.le.refl I,R,fun _=>rfl,fun _ _ _ _ h=>h,fun _ t ht=>by simp at ht,rfl,fun _ _ _ h=>h,fun _ _ _ _ h=>h⟩
 |t::ts,I,G,R=>by
  unfold Zv
  split
  ·rename_i g k xs hs
   obtain⟨I1,h1,R1,h1n⟩:=ZBm R hs
   have hsl:t<G.length:=(Xn.1 hs).1
   obtain⟨I2,h2,R2,h3,h4,h5,h6,h7,h8⟩:=Zh3 ts R1
   have hk:∀ (t' g' k':Nat) (xs':List AVal),G[t']?=some (ZP.frow g' k' xs')->(G.set t (ZP.frow g k xs))[t']?=some (ZP.frow g' k' xs'):=by
    intro t' g' k' xs' h
    rw[XO,if_neg (by rintro rfl;rw[hs]at h;cases h)]
    exact h
   refine⟨I2,h1.trans h2,R2,fun a=>(h3 a).trans (ZQ9 hs a),fun t' g' k' xs' h=>h4 _ _ _ _ (hk _ _ _ _ h),?_,by grind,?_,?_⟩
   ·intro hr t' ht'
    rcases X0.1 ht' with rfl |ht'
    ·grind
    ·refine h5 (fun t'' ht''=>?_) t' ht'
     obtain⟨g',k',xs',hx⟩:=hr t'' (by simp[ht''])
     grind
   ·grind
   ·intro hnb b o n hu
    simp only[XW,Xk]at hnb
    refine h1n (by simpa[Zej,hs]using hnb.1) b o n (h8 ?_ b o n hu)
    refine Xy.2 fun t' ht'=>?_
    have:=Xy.1 hnb.2 t' ht'
    unfold Zej at this ⊢
    grind
  ·rename_i hno
   obtain⟨I2,h2,R2,h3,h4,h5,h6,h7,h8⟩:=Zh3 ts R
   refine⟨I2,h2,R2,h3,h4,?_,h6,fun t' x hn h=>h7 t' x (fun hc=>hn (by simp[hc])) h,fun hnb=>h8 (by grind)⟩
   intro hr t' ht'
   rcases X0.1 ht' with rfl |ht'
   ·obtain⟨g,k,xs,hx |hx⟩:=hr t' (by simp)
    ·grind
    grind
   ·exact h5 (fun t'' ht''=>hr t'' (by simp[ht''])) t' ht'
theorem ZmI(R:Rel base w0 I0 I V G w){a y:AVal}{ts:List Nat}{v:Value}(hF:Frozen G ts)(h:ZN G a=some (y,ts))(hv:VR I V a v):VR I V y v/\ZaN y=true:=by
 unfold ZN at h
 split at h
 case h_1 x xs =>
  simp only[Xb,Xe]at h
  obtain⟨rfl,rfl⟩:=h
  simp only[VR]at hv ⊢
  obtain⟨A,cap,h1,h2,h3,h4,h5,h6⟩:=hv
  exact⟨⟨A,cap,h1,h2,h3,by simp,h5,h6⟩,by simpa[ZaN]using h6⟩
 case h_2 t g lo n =>
  split at h
  ·rename_i xs us he
   simp only[Xb,Xe]at h
   obtain⟨rfl,rfl⟩:=h
   simp only[ZZ]at he
   split at he
   ·rename_i hs
    split at he
    ·simp only[Xb,Xe]at he
     obtain⟨g',k',xs',hx⟩:=hF t (by grind)
     grind
    ·cases he
   ·rename_i hs
    split at he
    ·rename_i hc
     obtain⟨rfl,hc⟩:=hc
     simp only[Xb,Xe]at he
     obtain⟨rfl,rfl⟩:=he
     have:=Zrx R hs hc hv
     refine⟨this,?_⟩
     simp only[VR]at this
     obtain⟨_,_,_,_,_,_,_,h6⟩:=this
     simpa[ZaN]using h6
    ·cases he
   ·cases he
  ·cases h
 case h_9=>cases h
 all_goals
  simp only[Xb,Xe]at h
  obtain⟨rfl,rfl⟩:=h
  exact⟨hv,rfl⟩
theorem Frozen.left{ts us:List Nat}(h:Frozen G (ts++us)):Frozen G ts:=fun t ht=>h t (by simp[ht])
theorem Frozen.right{ts us:List Nat}(h:Frozen G (ts++us)):Frozen G us:=fun t ht=>h t (by simp[ht])
theorem Ztj(R:Rel base w0 I0 I V G w):∀ {cs ys:List AVal} {ts:List Nat} {vs:List Value},Frozen G ts->Zae G cs=some (ys,ts)->VRs I V cs vs->VRs I V ys vs/\ZaK ys=true
 | [],ys,ts,vs,_,h,hv=>by
  simp only[Zae,Xb,Xe]at h
  rw[<-h.1]
  exact⟨hv,rfl⟩
 |c::cs,ys,ts,vs,hF,h,hv=>by
  simp only[Zae]at h
  simp only[VRs]at hv
  obtain⟨v,vs',rfl,hv1,hv2⟩:=hv
  split at h
  ·rename_i y ts1 h1
   split at h
   ·rename_i ys1 us1 h2
    simp only[Xb,Xe]at h
    obtain⟨rfl,rfl⟩:=h
    obtain⟨a1,a2⟩:=ZmI R hF.left h1 hv1
    obtain⟨b1,b2⟩:=Ztj R hF.right h2 hv2
    exact⟨by simp only[VRs];grind,by simp[ZaK,a2,b2]⟩
   ·cases h
  ·cases h
theorem Zxi(R:Rel base w0 I0 I V G w){a y:AVal}{ts:List Nat}{v:Value}(hF:Frozen G ts)(h:Z3 G a=some (y,ts))(hv:VR I V a v):VR I V y v/\ZaK y.cells=true:=by
 unfold Z3 at h
 split at h
 ·rename_i cs
  split at h
  ·rename_i ys us h1
   simp only[Xb,Xe]at h
   obtain⟨rfl,rfl⟩:=h
   simp only[VR]at hv ⊢
   obtain⟨us',rfl,hv⟩:=hv
   obtain⟨a1,a2⟩:=Ztj R hF h1 hv
   exact⟨⟨us',rfl,a1⟩,a2⟩
  ·cases h
 ·rename_i hne
  obtain⟨a1,a2⟩:=ZmI R hF h hv
  refine⟨a1,?_⟩
  cases y<;>simp_all[ZaN,AVal.cells,ZaK]
theorem ZtP(R:Rel base w0 I0 I V G w):∀ {cs ys:List AVal} {ts:List Nat} {vs:List Value},Frozen G ts->viewAs G cs=some (ys,ts)->VRs I V cs vs->VRs I V ys vs/\∀ y∈ys,ZaK y.cells=true
 | [],ys,ts,vs,_,h,hv=>by
  simp only[viewAs,Xb,Xe]at h
  grind
 |c::cs,ys,ts,vs,hF,h,hv=>by
  simp only[viewAs]at h
  simp only[VRs]at hv
  obtain⟨v,vs',rfl,hv1,hv2⟩:=hv
  split at h
  ·rename_i y ts1 h1
   split at h
   ·rename_i ys1 us1 h2
    simp only[Xb,Xe]at h
    obtain⟨rfl,rfl⟩:=h
    obtain⟨a1,a2⟩:=Zxi R hF.left h1 hv1
    obtain⟨b1,b2⟩:=ZtP R hF.right h2 hv2
    refine⟨by simp only[VRs];grind,?_⟩
    grind
   ·cases h
  ·cases h
theorem VR.of_cells{I:Imm}{V V':Bmap}{x:AVal}{v:Value}(ht:ZaK x.cells=true)(h:VR I V x v):VR I V' x v:=by
 cases x
 case agg cs =>
  simp only[VR]at h⊢
  obtain⟨us,rfl,h⟩:=h
  refine⟨us,rfl,Zd7 (ZaO h) (fun i x v hx hv=>?_)⟩
  obtain⟨v',h1,h2⟩:=Zcm h hx
  rw[hv]at h1;injection h1 with h1;subst h1
  exact VR.of_tree (Zd0.1 ht x (XL hx)) h2
 all_goals exact VR.of_tree (by simpa[AVal.cells,ZaK]using ht) h
theorem VRs.of_cells{I:Imm}{V V':Bmap}{xs:List AVal}{vs:List Value}(ht:∀ x∈xs,ZaK x.cells=true)(h:VRs I V xs vs):VRs I V' xs vs :=
 Zd7 (ZaO h) (fun i x v hx hv=>by
  obtain⟨v',h1,h2⟩:=Zcm h hx
  rw[hv]at h1;injection h1 with h1;subst h1
  exact VR.of_cells (ht x (XL hx)) h2)
theorem ZGD(R:Rel base w0 I0 I V G w){a y:AVal}{ts:List Nat}{v:Value}(hF:Frozen G ts)(h:viewR G a=some (y,ts))(hv:VR I V a v):VR I B0 y v:=by
 unfold viewR at h
 split at h
 ·rename_i vs
  split at h
  ·rename_i ys us h1
   simp only[Xb,Xe]at h
   obtain⟨rfl,rfl⟩:=h
   simp only[VR]at hv ⊢
   obtain⟨us',rfl,hv⟩:=hv
   obtain⟨a1,a2⟩:=ZtP R hF h1 hv
   exact⟨us',rfl,VRs.of_cells a2 a1⟩
  ·cases h
 ·obtain⟨a1,a2⟩:=Zxi R hF h hv
  exact VR.of_cells a2 a1
theorem ZjT{I I':Imm}{V V':Bmap}{x:AVal}{v:Value}(hf:ZaJ x=true)(h:VR I V x v):VR I' V' x v:=by
 cases x<;>simp[ZaJ]at hf<;>simpa only[VR]using h
theorem ZrI{I I':Imm}{V V':Bmap}{xs:List AVal}{vs:List Value}(hf:xs.all ZaJ=true)(h:VRs I V xs vs):VRs I' V' xs vs :=
 Zd7 (ZaO h) (fun i x v hx hv=>by
  obtain⟨v',h1,h2⟩:=Zcm h hx
  rw[hv]at h1;injection h1 with h1;subst h1
  exact ZjT (Xy.1 hf x (XL hx)) h2)
theorem Zve{I I':Imm}{V V':Bmap}{x:AVal}{v:Value}(hf:Za2 x=true)(h:VR I V x v):VR I' V' x v:=by
 cases x
 case agg cs =>
  simp only[VR]at h⊢
  obtain⟨us,rfl,h⟩:=h
  exact⟨us,rfl,ZrI hf h⟩
 all_goals exact ZjT hf h
theorem ZPL{I I':Imm}{V V':Bmap}{x:AVal}{v:Value}(hf:ZbC x=true)(h:VR I V x v):VR I' V' x v:=by
 cases x
 case tup cs =>
  simp only[VR]at h⊢
  obtain⟨us,rfl,h⟩:=h
  exact⟨us,rfl,Zd7 (ZaO h) (fun i x v hx hv=>by
   obtain⟨v',h1,h2⟩:=Zcm h hx
   rw[hv]at h1;injection h1 with h1;subst h1
   exact Zve (Xy.1 hf x (XL hx)) h2)⟩
 case pan=>simp only[VR]at h
 all_goals exact Zve hf h
theorem ZuA(R:Rel base w0 I0 I V G w){a y:AVal}{ts:List Nat}{v:Value}(hF:Frozen G ts)(h:Zcu G a=some (y,ts))(hv:VR I V a v):VR I V y v:=by
 unfold Zcu at h
 split at h
 case h_3=>cases h
 case h_1 x xs =>
  exact(ZmI R hF (a:=.lst x xs) (by simpa only[ZN]using h) hv).1
 case h_2 t g lo n =>
  exact(ZmI R hF (a:=.sl t g lo n) (by simpa only[ZN]using h) hv).1
 grind
theorem Zq9{a y:AVal}{ts:List Nat}(h:Zcu G a=some (y,ts)):Rowy G ts:=by
 unfold Zcu at h
 split at h
 case h_3=>cases h
 case h_1 x xs=>exact ZlH (a:=.lst x xs) (by simpa only[ZN]using h)
 case h_2 t g lo n=>exact ZlH (a:=.sl t g lo n) (by simpa only[ZN]using h)
 case h_4 =>
  simp only[Xb,Xe]at h
  rw[<-h.2];intro t ht;simp at ht
theorem ZuP:∀ {cs ys:List AVal} {ts:List Nat},ZcJ G cs=some (ys,ts)->Rowy G ts
 | [],ys,ts,h=>by simp only[ZcJ,Xb,Xe]at h;rw[<-h.2];intro t ht;simp at ht
 |c::cs,ys,ts,h=>by
  simp only[ZcJ]at h
  split at h
  ·rename_i h1
   split at h
   ·rename_i h2
    simp only[Xb,Xe]at h
    rw[<-h.2]
    exact(Zq9 h1).append (ZuP h2)
   ·cases h
  ·cases h
theorem ZIP{a y:AVal}{ts:List Nat}(h:showA G a=some (y,ts)):Rowy G ts:=by
 unfold showA at h
 split at h
 ·split at h
  ·rename_i h1
   simp only[Xb,Xe]at h
   rw[<-h.2]
   exact ZuP h1
  ·cases h
 ·exact Zq9 h
theorem ZjX:∀ {cs ys:List AVal} {ts:List Nat},showAs G cs=some (ys,ts)->Rowy G ts
 | [],ys,ts,h=>by simp only[showAs,Xb,Xe]at h;rw[<-h.2];intro t ht;simp at ht
 |c::cs,ys,ts,h=>by
  simp only[showAs]at h
  split at h
  ·rename_i h1
   split at h
   ·rename_i h2
    simp only[Xb,Xe]at h
    rw[<-h.2]
    exact(ZIP h1).append (ZjX h2)
   ·cases h
  ·cases h
theorem ZyV(R:Rel base w0 I0 I V G w):∀ {cs ys:List AVal} {ts:List Nat} {vs:List Value},Frozen G ts->ZcJ G cs=some (ys,ts)->VRs I V cs vs->VRs I V ys vs
 | [],ys,ts,vs,_,h,hv=>by
  simp only[ZcJ,Xb,Xe]at h
  grind
 |c::cs,ys,ts,vs,hF,h,hv=>by
  simp only[ZcJ]at h
  simp only[VRs]at hv
  obtain⟨v,vs',rfl,hv1,hv2⟩:=hv
  split at h
  ·rename_i y ts1 h1
   split at h
   ·rename_i ys1 us1 h2
    simp only[Xb,Xe]at h
    obtain⟨rfl,rfl⟩:=h
    simp only[VRs]
    exact⟨v,vs',rfl,ZuA R hF.left h1 hv1,ZyV R hF.right h2 hv2⟩
   ·cases h
  ·cases h
theorem ZMT(R:Rel base w0 I0 I V G w){a y:AVal}{ts:List Nat}{v:Value}(hF:Frozen G ts)(h:showA G a=some (y,ts))(hv:VR I V a v):VR I V y v:=by
 unfold showA at h
 split at h
 ·rename_i cs
  split at h
  ·rename_i ys us h1
   simp only[Xb,Xe]at h
   obtain⟨rfl,rfl⟩:=h
   simp only[VR]at hv ⊢
   obtain⟨us',rfl,hv⟩:=hv
   exact⟨us',rfl,ZyV R hF h1 hv⟩
  ·cases h
 ·exact ZuA R hF h hv
theorem ZvD(R:Rel base w0 I0 I V G w):∀ {cs ys:List AVal} {ts:List Nat} {vs:List Value},Frozen G ts->showAs G cs=some (ys,ts)->VRs I V cs vs->VRs I V ys vs
 | [],ys,ts,vs,_,h,hv=>by
  simp only[showAs,Xb,Xe]at h
  grind
 |c::cs,ys,ts,vs,hF,h,hv=>by
  simp only[showAs]at h
  simp only[VRs]at hv
  obtain⟨v,vs',rfl,hv1,hv2⟩:=hv
  split at h
  ·rename_i y ts1 h1
   split at h
   ·rename_i ys1 us1 h2
    simp only[Xb,Xe]at h
    obtain⟨rfl,rfl⟩:=h
    simp only[VRs]
    exact⟨v,vs',rfl,ZMT R hF.left h1 hv1,ZvD R hF.right h2 hv2⟩
   ·cases h
  ·cases h
theorem Alike.show1(h:Alike G G')(a:AVal):Zcu G' a=Zcu G a:=by
 cases a<;>simp only[Zcu]
 rw[h]
theorem Alike.shows(h:Alike G G'):∀ cs,ZcJ G' cs=ZcJ G cs
 | []=>rfl
 |c::cs=>by simp only[ZcJ,h.show1,h.shows cs]
theorem Alike.showA(h:Alike G G')(a:AVal):showA G' a=showA G a:=by
 cases a<;>simp only[YtjhabjdfhmbanaaGreatDoor.showA,h.show1,h.shows]
theorem Alike.showAs(h:Alike G G'):∀ cs,showAs G' cs=showAs G cs
 | []=>rfl
 |c::cs=>by
  have ih:=h.showAs cs
  simp only[YtjhabjdfhmbanaaGreatDoor.showAs,h.showA,ih]
end
end
section
open Go.RowKit
theorem ZyR{cs vs:List AVal}{o:Nat}(h:o+vs.length<=cs.length):(setAt cs o vs).length=cs.length:=by
 unfold setAt;simp;omega
theorem ZSF{A B ys:List AVal}{o:Nat}(h:o+ys.length<=A.length):setAt (A++B) o ys=setAt A o ys++B:=by
 unfold setAt
 grind
theorem ZIY{A B ys:List AVal}{p:Nat}:setAt (A++B) (A.length+p) ys=A++setAt B p ys:=by
 unfold setAt
 rw[XaM,XG (by omega),Xa2,Wg (by omega)]
 simp only[Xp,List.append_assoc]
 congr 3
 ·congr 1;omega
 ·congr 2;omega
theorem ZnC{k o:Nat}{ys:List AVal}:∀ {xs:List AVal} {i:Nat} {x x':AVal},(∀ x∈xs,x.cells.length=k)->xs[i]?=some x->x'.cells=setAt x.cells o ys->o+ys.length<=k ->
  (xs.set i x').flatMap AVal.cells=setAt (xs.flatMap AVal.cells) (i*k+o) ys
 | [],i,x,x',_,hx,_,_=>by simp at hx
 |y::r,0,x,x',hk,hx,he,ho=>by
  simp only[XK,Xb]at hx
  subst hx
  rw[List.set_cons_zero,XB,XB,he,Xa7,XF,ZSF (by rw[hk y (by simp)];exact ho)]
 |y::r,i+1,x,x',hk,hx,he,ho=>by
  simp only[XN]at hx
  have ih:=ZnC (fun z hz=>hk z (by simp[hz])) hx he ho
  have hy:=hk y (by simp)
  rw[List.set_cons_succ,XB,XB,ih,show(i+1)*k+o=y.cells.length+(i*k+o)by rw[hy,We];omega,ZIY]
theorem ZvX{x x':AVal}{o:Nat}{ys:List AVal}(hy:ys.all ZY=true)(h:Zkt x o ys=some x'):x'.cells=setAt x.cells o ys/\o+ys.length<=x.cells.length:=by
 unfold Zkt at h
 split at h
 ·rename_i cs
  split at h
  ·injection h with h;subst h;exact⟨rfl,by assumption⟩
  ·cases h
 ·rename_i hne
  split at h
  ·rename_i v
   injection h with h;subst h
   have h1:v.cells=[v]:=by cases v<;>simp_all[AVal.cells,ZY]
   have h2:x.cells=[x]:=by cases x<;>simp_all[AVal.cells]
   rw[h1,h2];simp[setAt]
  ·cases h
section
variable {P:Program}{base:Nat->Prop}{w0 w w':World}{I0 I I':Imm}{V V':Bmap}{G G':Za}
theorem Zpd{t:TypeId}{k:Nat}(hk:Zca P t=some k){b o:Nat}{us:Array Value}{ty:TypeId}(hh:w.heap[b]?=some (.cells us ty (0,0))){v:Value}(hl:v.cells.size=k)(hle:o+k<=us.size)(h1:∀ u∈v.cells.toList,u.oneCell'=true) :
  (Instr.storeAt t (.pointer (some ⟨b,o,none⟩)) v).run P w=.ok () (w.setRow b (us.toList.take o++v.cells.toList++us.toList.drop (o+v.cells.toList.length)).toArray):=by
 have:=run_storeCells_at (P:=P) b o ty v.cells.toList 0 us w hh (by simp;omega) h1
 unfold Zca at hk
 cases hi:P.info? t with
 |none=>grind
 |some i =>
  have hs:i.size=k:=by simpa[hi]using hk
  simp only[X6]at this
  simp[Instr.storeAt,Instr.sureAddr,storeVar,sizeOf,typeInfo,hi,hs,hl,this]
def Post(base:Nat->Prop)(w0:World)(I0 I:Imm)(V:Bmap)(x:AVal)(G':Za)(u:Value)(w':World):Prop :=
 ∃ I' V',I.le I'/\V.le V'/\Rel base w0 I0 I' V' G' w'/\VR I' V' x u
theorem Post.mk{x:AVal}{u:Value}(hI:I.le I')(hV:V.le V')(R:Rel base w0 I0 I' V' G' w')(h:VR I' V' x u):Post base w0 I0 I V x G' u w':=⟨I',V',hI,hV,R,h⟩
theorem Post.here{x:AVal}{u:Value}(R:Rel base w0 I0 I V G w)(h:VR I V x u):Post base w0 I0 I V x G u w:=⟨I,V,Imm.le.refl I,Bmap.le.refl V,R,h⟩
theorem Zob(I:Imm)(V:Bmap):VR I V (.tup []) undef:=by simp only[VR,VRs];exact⟨#[],rfl,rfl⟩
theorem Zh0{x:AVal}{v:Value}(ht:x≠.top)(h:VR I V x v):v.cells.size=x.cells.length:=by
 have:=ZaO (Zfe ht h);simpa using this.symm
theorem ZKW{x:AVal}(h:Zby x=true):x≠.top:=by rintro rfl;simp[Zby]at h
theorem ZGo{x:AVal}(h:ZaK x.cells=true):x≠.top:=by rintro rfl;simp[AVal.cells,ZaK,ZaN]at h
theorem ZNC{x:AVal}(h:x.cells.all ZY=true):x≠.top:=by
 rintro rfl
 simp[AVal.cells,ZY]at h
theorem ZIt{t:TypeId}{k:Nat}(hk:Zca P t=some k)(R:Rel base w0 I0 I V G w){a x:AVal}{va vx:Value}(ha:VR I V a va)(hx:VR I V x vx){y:AVal}{c:Cls}(h:stA G k a x=some (y,G',c)) :
  ∃ w',(Instr.storeAt t va vx).run P w=.ok () w'/\Post base w0 I0 I V y G' undef w':=by
 unfold stA at h
 split at h
 case isFalse=>cases h
 rename_i hc
 obtain⟨hlen,hok⟩:=hc
 have htop:=ZNC hok
 have hone:=Zih (fun z hz=>Xy.1 hok z hz) (Zfe htop hx)
 have hsz:=Zh0 htop hx
 split at h
 ·rename_i t' o
  split at h
  ·rename_i cs hs
   split at h
   ·rename_i hle
    simp only[Xb,Xe]at h
    obtain⟨rfl,rfl,rfl⟩:=h
    simp only[VR]at ha
    obtain⟨b,k',c',hV,rfl⟩:=ha
    obtain⟨b',k'',c'',us,ty,h1,h2,h3⟩:=R.blk _ _ hs
    rw[hV]at h1
    simp only[Xb,BI.mk.injEq]at h1
    obtain⟨rfl,rfl,rfl⟩:=h1
    have hul:=ZaO h3
    refine⟨_,Zpd hk h2 (by omega) (by grind) hone,Post.here (R.write hs (by simp[ZJ,hV]) (by simp[ZJ,hV]) _ ?_ rfl) (Zob I V)⟩
    refine⟨b,k',c',_,ty,hV,setRow_heap w b us _ ty (0,0) h2,?_⟩
    have:=Zlf h3 (Zfe htop hx) o
    simpa using this
   ·cases h
  ·cases h
 ·rename_i t' g i o
  split at h
  ·rename_i g' kk xs hs
   split at h
   ·rename_i e;subst e
    split at h
    ·rename_i z hz
     split at h
     ·rename_i ys ts hv
      split at h
      ·cases h
      ·rename_i hnt
       split at h
       ·rename_i z' hp
        simp only[Xb,Xe]at h
        obtain⟨rfl,rfl,rfl⟩:=h
        obtain⟨I1,hI1,R1,hal,_,hfz,_,hoth,_⟩:=Zh3 ts R
        have hs1:=hoth t' _ (by grind) hs
        obtain⟨v1,v2⟩:=Ztj R1 (hfz (Zsx hv)) (by rw[hal.views];exact hv) ((Zfe htop hx).mono hI1 (Bmap.le.refl V) _ _)
        simp only[VR]at ha
        obtain⟨b,k',c',hV,rfl⟩:=ha
        obtain⟨bi,h1,h2,h3,h4,h5,h6,h7,h8⟩:=R1.blk _ _ hs1
        rw[hV]at h1
        injection h1 with h1
        subst h1
        simp only at h2 h8
        subst h2
        rcases h8 with⟨h8,_⟩ |⟨b',us,ty,e,h8,h9,h10⟩
        ·cases h8
        injection e with e
        subst e
        have hyok:ys.all ZY=true:=Xy.2 (fun q hq=>Zka (Zd0.1 v2 q hq))
        obtain⟨p1,p2⟩:=ZvX hyok hp
        have hyl:=ZaO v1
        have hzk:z.cells.length=k':=h7 z (XL hz)
        have hil:i<xs.length:=(Xn.1 hz).1
        have hmul:=Zs6 (k:=k') hil
        have hsize:xs.length*k'<=us.size:=by rw[h9];exact Wd k' h5
        simp only[XU]at hyl
        refine⟨_,Zpd hk h8 (by omega) (by omega) hone,Post.mk hI1 (Bmap.le.refl V) (R1.write hs1 (b:=b) (by simp[ZJ,hV]) (by simp[ZJ,hV]) _ ?_ rfl) (Zob I1 V)⟩
        refine⟨_,hV,rfl,h3,h4,by grind,?_,?_,Xt ⟨b,_,ty,rfl,setRow_heap w b us _ ty (0,0) h8,?_,?_⟩⟩
        ·rw[ZdG]
         intro q hq
         rcases WN hq with hq |rfl
         ·exact ZdG.1 h6 q hq
         ·rw[p1,Zd0]
          intro r hr
          unfold setAt at hr
          simp only[XE]at hr
          rcases hr with(hr |hr) |hr
          ·exact Zd0.1 (ZdG.1 h6 z (XL hz)) r (Xas hr)
          ·exact Zd0.1 v2 r hr
          ·exact Zd0.1 (ZdG.1 h6 z (XL hz)) r (WT hr)
        ·intro q hq
         rcases WN hq with hq |rfl
         ·grind
         ·rw[p1,ZyR p2];exact hzk
        ·simp;omega
        ·rw[ZnC h7 hz p1 (by omega)]
         have:=Zlf h10 v1 (i*k'+o)
         refine cast ?_ this
         congr 1
         simp only[Xaa]
         rw[XaG,XaD (by omega),Xaj]
         apply Wy
         intro j
         simp only[WU,X4,WF,XM,WK,XU]
         grind
       ·cases h
     ·cases h
    ·cases h
   ·cases h
  ·rename_i g' kk xs hs
   split at h
   ·rename_i e;subst e
    split at h
    ·rename_i z hz
     split at h
     ·rename_i z' hp
      simp only[Xb,Xe]at h
      obtain⟨rfl,rfl,rfl⟩:=h
      simp only[VR]at ha
      obtain⟨b,k',c',hV,rfl⟩:=ha
      obtain⟨bi,h1,h2,h3,h4,h5,h6,b',us,ty,e,h8,h9,h10⟩:=R.blk _ _ hs
      rw[hV]at h1
      injection h1 with h1
      subst h1
      simp only at h2 e
      subst h2
      injection e with e
      subst e
      have v1:=Zfe htop hx
      obtain⟨p1,p2⟩:=ZvX hok hp
      have hyl:=ZaO v1
      have hzk:z.cells.length=k':=(h6 z (XL hz)).1
      have hil:i<xs.length:=(Xn.1 hz).1
      have hmul:=Zs6 (k:=k') hil
      have hsize:xs.length*k'<=us.size:=by rw[h9];exact Wd k' h5
      simp only[XU]at hyl
      refine⟨_,Zpd hk h8 (by omega) (by omega) hone,Post.here (R.write hs (b:=b) (by simp[ZJ,hV]) (by simp[ZJ,hV]) _ ?_ rfl) (Zob I V)⟩
      refine⟨_,hV,rfl,h3,h4,by grind,?_,b,_,ty,rfl,setRow_heap w b us _ ty (0,0) h8,?_,?_⟩
      ·intro q hq
       rcases WN hq with hq |rfl
       ·grind
       ·rw[p1]
        refine⟨by rw[ZyR p2];exact hzk,fun r hr=>?_⟩
        unfold setAt at hr
        grind
      ·grind
      ·rw[ZnC (fun x hx=>(h6 x hx).1) hz p1 (by omega)]
       have:=Zlf h10 v1 (i*k'+o)
       refine cast ?_ this
       congr 1
       simp only[Xaa]
       rw[XaG,XaD (by omega),Xaj]
       apply Wy
       intro j
       simp only[WU,X4,WF,XM,WK,XU]
       grind
     ·cases h
    ·cases h
   ·cases h
  ·cases h
 ·cases h
def TR(I:Imm)(V:Bmap)(tm:Tms)(tmps:Array Value):Prop:=∀ n,VR I V (tget tm n) (tmps.getD n undef)
theorem TR.mono{tm:Tms}{tmps:Array Value}(hI:I.le I')(hV:V.le V')(h:TR I V tm tmps):TR I' V' tm tmps:=fun n=>(h n).mono hI hV _ _
theorem ZnP{d n:Nat}{v:AVal}:∀ {tm:Tms},tget (tins d v tm) n=if d=n then v else tget tm n
 | []=>by simp[tins,tget]
 |(e,w)::r=>by
  simp only[tins]
  split
  ·simp only[tget]
  ·split
   ·rename_i h;subst h
    simp only[tget]
    split<;>rfl
   ·rename_i h
    simp only[tget,ZnP (tm:=r)]
    grind
theorem TR.put{tm:Tms}{tmps:Array Value}(h:TR I V tm tmps){x:AVal}{v:Value}(hx:VR I V x v){d:Nat}(hd:d<tmps.size):TR I V (tins d x tm) (tmps.setIfInBounds d v):=by
 intro n
 rw[ZnP]
 by_cases e:d=n
 ·subst e
  rw[if_pos rfl]
  rw[show(tmps.setIfInBounds d v).getD d undef=v by simp[Array.getD,hd]];exact hx
 ·rw[if_neg e]
  rw[show(tmps.setIfInBounds d v).getD n undef=tmps.getD n undef by simp only[Array.getD_eq_getD_getElem?];grind]
  exact h n
theorem ZvT{tm:Tms}{n:Nat}:∀ {live:List Nat},tget (keepL live tm) n=if n∈live then tget tm n else .top
 | []=>by simp[keepL,tget]
 |l::live=>by
  have ih:=ZvT (tm:=tm) (n:=n) (live:=live)
  simp only[keepL,Xu,tget,X0]at ih ⊢
  grind
theorem TR.keep{tm:Tms}{tmps:Array Value}(h:TR I V tm tmps)(live:List Nat):TR I V (keepL live tm) tmps:=by
 intro n
 rw[ZvT]
 split
 ·exact h n
 ·simp only[VR]
end
end
section
open Go.RowKit
section
variable {P:Program}{base:Nat->Prop}{w0 w w':World}{I0 I I':Imm}{V V':Bmap}{G G':Za}
theorem ZlU{k k':Nat}{ys:List AVal}(h:kOk k ys=true)(h':∀ y∈ys,y.cells.length=k')(hne:ys≠[]):k'=k:=by
 cases ys with
 |nil=>grind
 |cons y ys=>simp only[kOk,beq_iff_eq]at h;grind
theorem Zyh(l:List UInt8):VRs I V (l.map Zh) (l.map fun b=>Value.int .u8 b.toNat) :=
 Zd7 (by simp) (fun i x v hx hv=>by
  simp only[Xab,Xo]at hx hv
  obtain⟨b,h1,rfl⟩:=hx
  obtain⟨b',h2,rfl⟩:=hv
  rw[h1]at h2;injection h2 with h2;subst h2
  simp only[Zh,VR])
theorem Zsf(l:List UInt8):(l.map Zh).flatMap AVal.cells=l.map Zh:=by
 induction l with
 |nil=>rfl
 |cons b l ih=>simp only[Xu,XB,ih];rfl
theorem Zyt(l:List UInt8):Zaq (l.map Zh)=true:=by
 rw[ZdG];intro x hx
 simp only[X7]at hx
 obtain⟨b,_,rfl⟩:=hx
 rfl
theorem Zrp(l:List UInt8):∀ x∈l.map Zh,x.cells.length=1:=by
 intro x hx
 simp only[X7]at hx
 obtain⟨b,_,rfl⟩:=hx
 rfl
structure Src(P:Program)(I:Imm)(V:Bmap)(w:World)(k:Nat)(v:Value)(ys:List AVal)(us:List Value):Prop where
 vr:VRs I V (ys.flatMap AVal.cells) us
 len:us.length=ys.length*k
 lens:∀ y∈ys,y.cells.length=k
 tree:Zaq ys=true
 lenOf:(Builtin.lenOf v)=pure ys.length
 run:∀ w':World,w'.heap=w.heap->(Builtin.firstCells k ys.length v).run P w'=.ok us.toArray w'
 le:ys.length<=9223372036854775807
structure Zl9(P:Program)(I:Imm)(V:Bmap)(w:World)(k:Nat)(v:Value)(ys:List AVal)(us:List Value):Prop where
 vr:VRs I V (ys.flatMap AVal.cells) us
 len:us.length=ys.length*k
 lens:∀ y∈ys,y.cells.length=k
 lenOf:(Builtin.lenOf v)=pure ys.length
 run:∀ w':World,w'.heap=w.heap->(Builtin.firstCells k ys.length v).run P w'=.ok us.toArray w'
theorem Src.to0{k:Nat}{v:Value}{ys:List AVal}{us:List Value}(S:Src P I V w k v ys us):Zl9 P I V w k v ys us:=⟨S.vr,S.len,S.lens,S.lenOf,S.run⟩
theorem ZlL{w w':World}(h:w'.heap=w.heap)(a:Addr):w'.cell? a=w.cell? a:=by simp[World.cell?,h]
theorem Zxl{k:Nat}{v:Value}{ys:List AVal}(h:Zg9 I V w v ys)(hk:kOk k ys=true):∃ us,Src P I V w k v ys us:=by
 obtain⟨A,cap,rfl,h1,h2,h3,h4⟩:=h
 by_cases hne:ys=[]
 ·subst hne
  refine⟨[],by simp[VRs],by simp,by simp,h3,rfl,fun w' _=>?_,by simp⟩
  cases A<;>simp[Builtin.firstCells,loadCells,loadCellsFrom]
 ·rcases h4 with h4 |⟨b,off,k',us,rfl,hk',hl,hv,hc⟩
  ·grind
  ·have e:=ZlU hk hl hne
   subst e
   have hlen:us.length=ys.length*k':=by rw[<-ZaO hv,Zfi hl]
   refine⟨us,hv,hlen,hl,h3,rfl,fun w' hw=>?_,by omega⟩
   simp only[Builtin.firstCells]
   rw[<-hlen]
   exact run_loadCells_list w' _ us (fun j u hu=>by rw[Addr.add_mid,ZlL hw];exact hc j u hu)
theorem ZGV{k:Nat}{l:List UInt8}(hl:l.length<=9223372036854775807)(hk:kOk k (l.map Zh)=true):∃ us,Src P I V w k (.string ⟨l.toArray⟩) (l.map Zh) us:=by
 by_cases hne:l=[]
 ·subst hne
  exact⟨[],by simp[VRs],by simp,by simp,rfl,rfl,fun w' _=>by simp[Builtin.firstCells],by simp⟩
 ·have e:=ZlU hk (Zrp l) (by simpa using hne)
  subst e
  refine⟨l.map fun b=>Value.int .u8 b.toNat,by rw[Zsf];exact Zyh l,by simp,Zrp l,Zyt l,by simp[Builtin.lenOf,Ws],fun w' _=>?_,by grind⟩
  simp only[Builtin.firstCells,XS,Sem.run_pure]
  congr 1
  apply Xbd
  simp[ByteArray.data_extract]
theorem ZJT{k:Nat}{y:AVal}{v:Value}{ys:List AVal}{ts:List Nat}(R:Rel base w0 I0 I V G w)(h:ZZ G y=some (ys,ts))(hv:VR I V y v)(hk:kOk k ys=true):∃ us,Src P I V w k v ys us:=by
 by_cases hs:∃ l,y=.str l
 ·obtain⟨l,rfl⟩:=hs
  simp only[ZZ,Xb,Xe]at h
  obtain⟨rfl,rfl⟩:=h
  simp only[VR]at hv
  obtain⟨rfl,hl⟩:=hv
  exact ZGV hl hk
 ·exact Zxl (ZlZ R (fun l e=>hs ⟨l,e⟩) h hv) hk
structure Zj4(P:Program)(t u e:TypeId)(i:TypeInfo)(z:Value):Prop where
 ht:P.underlying t=some (.slice e)
 hu:(∃ e',P.underlying u=some (.slice e'))\/P.underlying u=some .string
 hi:P.info? e=some i
 hz:i.zero=some z
 hzs:z.cells.size=i.size
 hs:0<i.size
 hb:0<i.bytes
theorem Zjd{t u e ty:TypeId}{i:TypeInfo}{z:Value}(T:Zj4 P t u e i z){A:Option Addr}{n cap:Nat}{v:Value}{ys:List AVal}{us:List Value}(S:Zl9 P I V w i.size v ys us)(hfit:n+ys.length<=cap) :
  (Builtin.append_ #[t,u] ty #[.slice A n cap,v]).run P w=match A with
   |some a=>((storeCells (a.add (n*i.size)) us).run P w).andThen fun _ w'=>.ok (.slice A (n+ys.length) cap) w'
   |none=>.ok (.slice A (n+ys.length) cap) w:=by
 have hr:=S.run w rfl
 have hl:=S.lenOf
 rcases T.hu with⟨e',hd⟩ |hd<;>cases A<;>simp[Builtin.append_,run_underlying T.ht,run_underlying hd,sizeOf,typeInfo,T.hi,hl,hfit,hr]
theorem ZwQ {t u e ty : TypeId} {i : TypeInfo} {z : Value} (T : Zj4 P t u e i z) {A : Option Addr} {n cap : Nat} {v : Value} {ys : List AVal} {us olds : List Value} (S : Zl9 P I V w i.size v ys us)
    (hold : ∀ w' : World, w'.heap = w.heap -> (Builtin.firstCells i.size n (.slice A n cap)).run P w' = .ok olds.toArray w') (hg : cap < n + ys.length) (hb : (n + ys.length) * i.bytes <= 140737488355328) :
    ∃ newCap, n + ys.length <= newCap /\ newCap <= 9223372036854775807 /\ (Builtin.append_ #[t, u] ty #[.slice A n cap, v]).run P w =
      .ok (.slice (some ⟨w.heap.size, 0, none⟩) (n + ys.length) newCap) (w.drew.alloc (.cells (olds ++ us ++ (Builtin.zeroCells z.cells (newCap - (n + ys.length))).toList).toArray e)) := by
  have hl := S.lenOf
  have hn : ¬ (n + ys.length <= cap) := by omega
  have hneed : n + ys.length <= 140737488355328 := by
    have : (n + ys.length) * 1 <= (n + ys.length) * i.bytes := Xae _ T.hb
    omega
  have h63' : ¬ (9223372036854775807 < ((n : Int) + (ys.length : Int))) := by omega
  have h48' : ¬ (281474976710656 < Builtin.nextslicecap (n + ys.length) cap * i.bytes) := by
    have := growslice_fits hg hb; omega
  refine ⟨grownCap w (n + ys.length) cap e, grownCap_ge w _ _ _, ?_, ?_⟩
  . have := grownCap_le_maxLen w (n + ys.length) cap e (by simp only [maxLen]; omega)
    simpa only [maxLen] using this
  . have hf := S.run w.drew rfl
    have hfo := hold w.drew rfl
    rcases T.hu with ⟨e', hd⟩ | hd <;>
      (simp [Builtin.append_, run_underlying T.ht, run_underlying hd, sizeOf, typeInfo, zeroValue, T.hi, T.hz, hl, hn, h63', h48', Question.forced, hf, hfo, newRow, grownCap]
       congr 2
       grind)
theorem Rel.growX(R:Rel base w0 I0 I V G w){t g:Nat}{x x':ZP}(hs:G[t]?=some x)(hg:Zm x=g)(hg':Zm x'=g+1)(bi':BI)(hB:KB base w w')
  (himm:∀ b o u,I b o=some u->w'.cell? ⟨b,o,none⟩=some u)
  (keep:∀ b,ZJ V t x≠some b->b<w.heap.size->w'.heap[b]?=w.heap[b]?)
  (hbi:bi'.b=none\/∃ b,bi'.b=some b/\(ZJ V t x=some b\/b=w.heap.size))
  (hbw:KLt base w) (hown:ZJ (V.put t (g+1) bi') t x'=bi'.b) (hnf:x'≠.free)
  (hblk:BR I (V.put t (g+1) bi') w' t x') :
  Rel base w0 I0 I (V.put t (g+1) bi') (G.set t x') w'/\V.le (V.put t (g+1) bi'):=by
 have hsl:t<G.length:=(Xn.1 hs).1
 have hnone:V t (g+1)=none:=R.gen t _ (g+1) hs (by omega)
 have hle:V.le (V.put t (g+1) bi'):=Bmap.put_le hnone
 have hI0:∀ o,I w.heap.size o=none:=by
  intro o
  cases h:I w.heap.size o with
  |none=>rfl
  |some u=>have:=Zez (R.imm _ _ _ h);omega
 refine⟨R.upd (Imm.le.refl I) hle hB (fun _ _ _=>rfl) himm t _ rfl hsl (fun _ _ h=>Bmap.put_ne h) ?_ hblk ?_ ?_ hnf,hle⟩
 ·intro t' y b hne hy hb
  have hlt:=(R.blk t' y hy).owns_lt hb
  have hno:ZJ V t x≠some b:=fun e=>hne (R.apart t' y t _ b hy hs hb e)
  refine⟨keep b hno hlt,(R.own t' y b hy hb).2,?_⟩
  grind
 ·intro b e
  rw[hown]at e
  rcases hbi with e1 |⟨b',e1,e' |e'⟩
  ·grind
  ·rw[e1]at e;injection e with e;subst e;exact R.own t _ _ hs e'
  ·rw[e1]at e;injection e with e;subst e;subst e';exact⟨fun h=>XaC _ (hbw _ h),hI0⟩
 ·intro g' hlt
  rw[Bmap.put_gen (by omega)]
  exact R.gen t _ g' hs (by omega)
theorem Rel.grow(R:Rel base w0 I0 I V G w){t g k:Nat}{xs xs':List AVal}(hs:G[t]?=some (.row g k xs))(bi':BI)(hB:KB base w w')
  (himm:∀ b o u,I b o=some u->w'.cell? ⟨b,o,none⟩=some u)
  (keep:∀ b,ZJ V t (.row g k xs)≠some b->b<w.heap.size->w'.heap[b]?=w.heap[b]?)
  (hbi:bi'.b=none\/∃ b,bi'.b=some b/\(ZJ V t (.row g k xs)=some b\/b=w.heap.size))
  (hbw:KLt base w)
  (hblk:BR I (V.put t (g+1) bi') w' t (.row (g+1) k xs')) :
  Rel base w0 I0 I (V.put t (g+1) bi') (G.set t (.row (g+1) k xs')) w'/\V.le (V.put t (g+1) bi'):=by
 have hsl:t<G.length:=(Xn.1 hs).1
 have hnone:V t (g+1)=none:=R.gen t _ (g+1) hs (by simp[Zm])
 have hle:V.le (V.put t (g+1) bi'):=Bmap.put_le hnone
 have hown:ZJ (V.put t (g+1) bi') t (.row (g+1) k xs')=bi'.b:=by simp[ZJ,Bmap.put_same]
 have hI0:∀ o,I w.heap.size o=none:=by
  intro o
  cases h:I w.heap.size o with
  |none=>rfl
  |some u=>have:=Zez (R.imm _ _ _ h);omega
 refine⟨R.upd (Imm.le.refl I) hle hB (fun _ _ _=>rfl) himm t _ rfl hsl (fun _ _ h=>Bmap.put_ne h) ?_ hblk ?_ ?_ (by simp),hle⟩
 ·intro t' x b hne hx hb
  have hlt:=(R.blk t' x hx).owns_lt hb
  have hno:ZJ V t (.row g k xs)≠some b:=fun e=>hne (R.apart t' x t _ b hx hs hb e)
  refine⟨keep b hno hlt,(R.own t' x b hx hb).2,?_⟩
  grind
 ·intro b e
  rw[hown]at e
  rcases hbi with e1 |⟨b',e1,e' |e'⟩
  ·grind
  ·rw[e1]at e;injection e with e;subst e;exact R.own t _ _ hs e'
  ·rw[e1]at e;injection e with e;subst e;subst e';exact⟨fun h=>XaC _ (hbw _ h),hI0⟩
 ·intro g' hlt
  simp only[Zm]at hlt
  rw[Bmap.put_gen (by omega)]
  exact R.gen t _ g' hs (by simp only[Zm];omega)
theorem Zgl(xs ys:List AVal):(xs++ys).flatMap AVal.cells=xs.flatMap AVal.cells++ys.flatMap AVal.cells:=by simp
theorem ZwU(z:Array Value)(n:Nat):(Builtin.zeroCells z n).size=n*z.size:=by simp[Builtin.zeroCells]
theorem ZDy(R:Rel base w0 I0 I V G w){u h k q m:Nat}{zs:List AVal}{v:Value}(hs:G[u]?=some (.rrow h k zs))(hn:q+m<=zs.length)(hm:0<m)(hv:VR I V (.sl u h q m) v) :
  ∃ us,Zl9 P I V w k v ((zs.drop q).take m) us/\(∀ y∈(zs.drop q).take m,∀ c∈y.cells,ZY c=true):=by
 obtain⟨bi,e1,e2,e3,e4,e5,e6,b,us,ty,eb,e8,e9,e10⟩:=R.blk _ _ hs
 subst e2
 simp only[VR]at hv
 obtain⟨bi',f1,f2,f3,f4⟩:=hv
 rw[e1]at f1
 injection f1 with f1
 subst f1
 have hlens:∀ x∈zs,x.cells.length=bi.k:=fun x hx=>(e6 x hx).1
 have hmem:∀ y∈(zs.drop q).take m,y∈zs:=fun y hy=>WT (Xas hy)
 have hl:((zs.drop q).take m).length=m:=by simp;omega
 have hvr:VRs I V (((zs.drop q).take m).flatMap AVal.cells) (((us.toList.take (zs.length*bi.k)).drop (q*bi.k)).take (m*bi.k)):=by
  rw[<-Zkf (fun x hx=>hlens x (WT hx)),<-Zi6 hlens]
  exact Zgi (Zgm e10 _) _
 have hlen2:(((us.toList.take (zs.length*bi.k)).drop (q*bi.k)).take (m*bi.k)).length=m*bi.k:=by
  rw[<-ZaO hvr,Zfi (fun y hy=>hlens y (hmem y hy)),hl]
 have hval:v=.slice (some ⟨b,q*bi.k,none⟩) m (bi.cap-q):=by
  rcases f4 with⟨b',hb',rfl⟩ |⟨hbn,_⟩ |⟨_,hbn,_⟩
  ·rw[eb]at hb';injection hb' with hb';subst hb';rfl
  ·rw[eb]at hbn;cases hbn
  ·omega
 subst hval
 refine⟨_,⟨hvr,by grind,fun y hy=>hlens y (hmem y hy),by rw[hl];rfl,fun w' hw=>?_⟩,fun y hy=>(e6 y (hmem y hy)).2⟩
 simp only[Builtin.firstCells]
 have key:=run_loadCells_list (P:=P) w' ⟨b,q*bi.k,none⟩ (((us.toList.take (zs.length*bi.k)).drop (q*bi.k)).take (m*bi.k)) ?_
 ·grind
 intro j u hu
 rw[Addr.add_mid,ZlL hw,Zg5 e8]
 rw[X4]at hu
 split at hu
 ·rw[WF,X4]at hu
  split at hu
  ·simpa using hu
  ·cases hu
 ·cases hu
theorem ZAU {t u e ty : TypeId} {i : TypeInfo} {z : Value} (T : Zj4 P t u e i z) (R : Rel base w0 I0 I V G w) (hb : KLt base w0) {x y r : AVal} {vx vy : Value} (hx : VR I V x vx) (hy : VR I V y vy) {sq : Nat} (hsite : G[sq]? = some .free) {c : Cls}
    (h : ZdY G sq i.size i.bytes x y = some (r, G', c)) : ∃ v w', (Builtin.append_ #[t, u] ty #[vx, vy]).run P w = .ok v w' /\ Post base w0 I0 I V r G' v w' := by
  have hbw := R.base_le hb
  have hz := T.hzs
  unfold ZdY at h
  split at h
  case h_2 => cases h
  rename_i u' h' q m
  split at h
  case h_2 => cases h
  rename_i hh k1 zs hu
  split at h
  case isFalse => cases h
  rename_i hc
  obtain ⟨rfl, rfl, hqm, hm0⟩ := hc
  obtain ⟨us, S, hok⟩ := ZDy (P := P) R hu hqm hm0 hy
  have hyl : ((zs.drop q).take m).length = m := by simp; omega
  have hone : ∀ v ∈ us, v.oneCell' = true := Zih (fun z hz => by
    grind) S.vr
  have hlu := S.len
  rw [hyl] at hlu
  generalize hys : (zs.drop q).take m = ys at *
  have fresh : ∀ {A : Option Addr} {n cap : Nat} {olds : List Value} {xs : List AVal}, (∀ w' : World, w'.heap = w.heap -> (Builtin.firstCells i.size n (.slice A n cap)).run P w' = .ok olds.toArray w') -> cap < n + m -> (n + m) * i.bytes <= 140737488355328 ->
      VRs I V (xs.flatMap AVal.cells) olds -> xs.length = n -> (∀ x ∈ xs, x.cells.length = i.size /\ ∀ c ∈ x.cells, ZY c = true) ->
      ∃ newCap us', n + m <= newCap /\ newCap <= 9223372036854775807 /\ us'.size = newCap * i.size /\ VRs I V ((xs ++ ys).flatMap AVal.cells) (us'.toList.take ((xs ++ ys).length * i.size)) /\ (∀ x ∈ xs ++ ys, x.cells.length = i.size /\ ∀ c ∈ x.cells, ZY c = true) /\
        (Builtin.append_ #[t, u] ty #[.slice A n cap, vy]).run P w = .ok (.slice (some ⟨w.heap.size, 0, none⟩) (n + m) newCap) { w with heap := w.heap.push (.cells us' e), drawn := w.drawn + 1 } := by
    intro A n cap olds xs hold hg hbytes hvo hn hlx
    obtain ⟨newCap, h1, h2, h3⟩ := ZwQ (ty := ty) T S hold (by grind) (by grind)
    rw [hyl] at h1 h3
    have hol : olds.length = n * i.size := by rw [<- ZaO hvo, Zfi (fun x hx => (hlx x hx).1), hn]
    refine ⟨newCap, _, h1, h2, ?_, ?_, ?_, h3⟩
    . simp only [XaF, XM, XU, ZwU, hz, hol, hlu, <- We]
      grind
    . rw [Zgl, XM, hn, hyl]
      have hlen : (olds ++ us).length = (n + m) * i.size := by rw [XM, hol, hlu, We]
      simp only [<- hlen, Xak]
      exact Zc3 hvo S.vr
    . intro q hq
      rcases XE.1 hq with hq | hq
      . grind
      . exact ⟨S.lens q hq, hok q hq⟩
  split at h
  ·
    split at h
    case isFalse => cases h
    rename_i hbytes
    simp only [Xb, Xe] at h
    obtain ⟨rfl, rfl, rfl⟩ := h
    simp only [VR] at hx
    obtain ⟨A, cap, rfl, h2, h3, h4, _, _⟩ := hx
    have hc : cap = 0 := by simpa using h4
    subst hc
    obtain ⟨newCap, us', h5, h6, h7, h8, h10, h11⟩ := fresh (A := A) (n := 0) (cap := 0) (olds := []) (xs := []) (fun w' _ => by cases A <;> simp [Builtin.firstCells, loadCells, loadCellsFrom]) (by omega) (by grind) (by simp [VRs]) rfl (by simp)
    simp only [Xp] at h8 h10
    rw [hyl] at h8
    obtain ⟨R', hle⟩ := (R.same (w' := { w with drawn := w.drawn + 1 }) rfl rfl rfl rfl).newObj hb hsite (.cells us' e) (.rrow 0 i.size ys) i.size newCap (by simp [ZJ, Bmap.put_same]) rfl (by simp)
      ⟨_, Bmap.put_same V sq 0 _, rfl, T.hs, h6, by grind, h10, w.heap.size, us', e, rfl, by simp, h7, by rw [hyl]; exact VRs.mono (Imm.le.refl I) (Bmap.put_le (R.free sq 0 hsite)) _ _ h8⟩
    refine ⟨_, _, h11, Post.mk (Imm.le.refl I) hle R' ?_⟩
    rw [Zcl]
    exact ⟨_, Bmap.put_same V sq 0 _, by grind, h6, Xq ⟨_, rfl, by simp⟩⟩
  . rename_i t' g p n
    split at h
    case h_2 => cases h
    rename_i g' k' xs hs
    split at h
    case isFalse => cases h
    rename_i hc
    obtain ⟨rfl, rfl, rfl, hbytes, rfl⟩ := hc
    simp only [Xb, Xe] at h
    obtain ⟨rfl, rfl, rfl⟩ := h
    obtain ⟨bi, e1, e2, e3, e4, e5, e7, b, us0, ty0, hbb, e8, e9, e10⟩ := R.blk _ _ hs
    rw [Zcl] at hx
    obtain ⟨bi', f1, f2, f3, f4⟩ := hx
    rw [e1] at f1
    injection f1 with f1
    subst f1
    have hown : ZJ V t' (.rrow g' i.size xs) = bi.b := by simp [ZJ, e1]
    have hxl : ∀ x ∈ xs, x.cells.length = i.size := fun x hx => (e7 x hx).1
    rcases f4 with ⟨b', eb, rfl⟩ | ⟨hbn, _⟩
    case inr => grind
    rw [hbb] at eb
    injection eb with eb
    subst eb
    have hlx : (us0.toList.take (xs.length * i.size)).length = xs.length * i.size := by rw [<- ZaO e10, Zfi hxl]
    by_cases hfit : xs.length + m <= bi.cap
    . have hcells : xs.length * i.size + us.length <= us0.size := by rw [hlu, e9, <- We]; exact Wd _ hfit
      have hst := run_storeCells_at (P := P) b (xs.length * i.size) ty0 us 0 us0 w e8 (by omega) hone
      simp only [X6] at hst
      have hle0 := Bmap.put_le (bi := bi) (R.gen t' _ (g' + 1) hs (by simp [Zm]))
      obtain ⟨R', hle⟩ := R.growX (w' := w.setRow b (us0.toList.take (xs.length * i.size) ++ us ++ us0.toList.drop (xs.length * i.size + us.length)).toArray) (x' := .rrow (g' + 1) i.size (xs ++ ys)) hs rfl rfl bi
        ⟨rfl, rfl, rfl, by simp [World.setRow], fun k hk => setRow_other w b k _ (by rintro rfl; exact (R.own t' _ k hs (by grind)).1 hk)⟩
        (fun b' o u hu => by
          have : b' ≠ b := by rintro rfl; rw [(R.own t' _ b' hs (by grind)).2 o] at hu; cases hu
          rw [<- R.imm b' o u hu]
          simp only [World.cell?, setRow_other w b b' _ this])
        (fun b' hne _ => setRow_other w b b' _ (by grind))
        (Xt ⟨b, hbb, Xq (by grind)⟩) hbw (by simp [ZJ, Zm, Bmap.put_same]) (by simp)
        ⟨bi, Bmap.put_same V t' _ bi, e2, e3, e4, by grind, fun q hq => by
          rcases XE.1 hq with hq | hq
          . grind
          . exact ⟨S.lens q hq, hok q hq⟩, b, _, ty0, hbb, setRow_heap w b us0 _ ty0 (0, 0) e8, by grind, by
            have hl2 : (us0.toList.take (xs.length * i.size) ++ us).length = (xs ++ ys).length * i.size := by rw [XM, hlx, hlu, XM, We, hyl]
            have := Zc3 (VRs.mono (Imm.le.refl I) hle0 _ _ e10) (VRs.mono (Imm.le.refl I) hle0 _ _ S.vr)
            rw [Zgl, <- hl2]
            simp only [Xak]
            exact this⟩
      refine ⟨.slice (some ⟨b, 0, none⟩) (xs.length + m) bi.cap, _, ?_, Post.mk (Imm.le.refl I) hle R' ?_⟩
      . rw [Zjd T S (by grind), hyl]
        simp only [Addr.add_mid, XF, hst, Result.andThen_ok]
      . rw [Zcl]
        exact ⟨bi, Bmap.put_same V t' _ bi, hfit, e4, Xq ⟨b, hbb, rfl⟩⟩
    . obtain ⟨newCap, us', g5, g6, g7, g8, g10, g11⟩ := fresh (A := some ⟨b, 0, none⟩) (n := xs.length) (cap := bi.cap) (olds := us0.toList.take (xs.length * i.size)) (xs := xs)
        (fun w' hw => by
          simp only [Builtin.firstCells]
          have key := run_loadCells_list (P := P) w' ⟨b, 0, none⟩ (us0.toList.take (xs.length * i.size)) ?_
          . grind
          intro j u hu
          rw [Addr.add_mid, ZlL hw, Zg5 e8]
          rw [X4] at hu
          split at hu
          . simpa using hu
          . cases hu) (by omega) hbytes e10 rfl e7
      have hle0 := Bmap.put_le (bi := (⟨some w.heap.size, i.size, newCap⟩ : BI)) (R.gen t' _ (g' + 1) hs (by simp [Zm]))
      obtain ⟨R', hle⟩ := (R.same (w' := { w with drawn := w.drawn + 1 }) rfl rfl rfl rfl).growX (w' := { w with heap := w.heap.push (.cells us' e), drawn := w.drawn + 1 }) (x' := .rrow (g' + 1) i.size (xs ++ ys)) hs rfl rfl ⟨some w.heap.size, i.size, newCap⟩
        (Zjy base { w with drawn := w.drawn + 1 } _ hbw) (fun b' o u hu => ZjH { w with drawn := w.drawn + 1 } _ (R.imm b' o u hu)) (fun b' _ hlt => ZhJ w _ hlt) (Xt ⟨_, rfl, Xt rfl⟩) hbw (by simp [ZJ, Zm, Bmap.put_same]) (by simp)
        ⟨_, Bmap.put_same V t' _ _, rfl, e3, g6, by grind, g10, _, us', e, rfl, Zi9 w _, g7, VRs.mono (Imm.le.refl I) hle0 _ _ g8⟩
      refine ⟨_, _, g11, Post.mk (Imm.le.refl I) hle R' ?_⟩
      rw [Zcl]
      exact ⟨_, Bmap.put_same V t' _ _, g5, g6, Xq ⟨_, rfl, rfl⟩⟩
  . cases h
theorem ZPz {t u e ty : TypeId} {i : TypeInfo} {z : Value} (T : Zj4 P t u e i z) (R : Rel base w0 I0 I V G w) (hb : KLt base w0) {x y r : AVal} {vx vy : Value} (hx : VR I V x vx) (hy : VR I V y vy) {sq : Nat} (hsite : G[sq]? = some .free) {c : Cls}
    (h : Zan G sq i.size i.bytes x y = some (r, G', c)) : ∃ v w', (Builtin.append_ #[t, u] ty #[vx, vy]).run P w = .ok v w' /\ Post base w0 I0 I V r G' v w' := by
  unfold Zan at h
  split at h
  case h_1 => exact ZAU T R hb hx hy hsite h
  rename_i ys ts he
  split at h
  case isFalse => cases h
  rename_i hk
  obtain ⟨us, S⟩ := ZJT (P := P) R he hy hk
  have hbw := R.base_le hb
  have hz := T.hzs
  have hone : ∀ v ∈ us, v.oneCell' = true := Zih (fun z hz => Zka (Zd0.1 (ZnK S.tree) z hz)) S.vr
  have fresh : ∀ {A : Option Addr} {n cap : Nat} {olds : List Value} {xs : List AVal}, (∀ w' : World, w'.heap = w.heap -> (Builtin.firstCells i.size n (.slice A n cap)).run P w' = .ok olds.toArray w') -> cap < n + ys.length -> (n + ys.length) * i.bytes <= 140737488355328 ->
      VRs I V (xs.flatMap AVal.cells) olds -> xs.length = n -> Zaq xs = true -> (∀ x ∈ xs, x.cells.length = i.size) ->
      ∃ newCap us', n + ys.length <= newCap /\ newCap <= 9223372036854775807 /\ us'.size = newCap * i.size /\ VRs I V ((xs ++ ys).flatMap AVal.cells) (us'.toList.take ((xs ++ ys).length * i.size)) /\ Zaq (xs ++ ys) = true /\ (∀ x ∈ xs ++ ys, x.cells.length = i.size) /\
        (Builtin.append_ #[t, u] ty #[.slice A n cap, vy]).run P w = .ok (.slice (some ⟨w.heap.size, 0, none⟩) (n + ys.length) newCap) { w with heap := w.heap.push (.cells us' e), drawn := w.drawn + 1 } := by
    intro A n cap olds xs hold hg hbytes hvo hn htx hlx
    obtain ⟨newCap, h1, h2, h3⟩ := ZwQ (ty := ty) T S.to0 hold hg hbytes
    have hol : olds.length = n * i.size := by rw [<- ZaO hvo, Zfi hlx, hn]
    refine ⟨newCap, _, h1, h2, ?_, ?_, Zie htx S.tree, ?_, h3⟩
    . simp only [XaF, XM, XU, ZwU, hz, hol, S.len, <- We]
      grind
    . rw [Zgl, XM, hn]
      have hlen : (olds ++ us).length = (n + ys.length) * i.size := by rw [XM, hol, S.len, We]
      simp only [<- hlen, Xak]
      exact Zc3 hvo S.vr
    . intro q hq
      rcases XE.1 hq with hq | hq
      . grind
      . exact S.lens q hq
  split at h
  ·
    split at h
    case isFalse => cases h
    rename_i hbytes
    simp only [Xb, Xe] at h
    obtain ⟨rfl, rfl, rfl⟩ := h
    simp only [VR] at hx
    obtain ⟨A, cap, rfl, h2, h3, h4, _, _⟩ := hx
    have hc : cap = 0 := by simpa using h4
    subst hc
    by_cases hne : ys = []
    . subst hne
      have hus : us = [] := Xx (by simpa using S.len)
      subst hus
      obtain ⟨R', hle⟩ := R.newNone hsite i.size T.hs
      refine ⟨.slice A 0 0, w, ?_, Post.mk (Imm.le.refl I) hle R' ?_⟩
      . rw [Zjd T S.to0 (by simp)]
        cases A <;> simp [storeCells]
      . rw [Zcl]
        exact ⟨_, Bmap.put_same V sq 0 _, by simp, by simp, Xt ⟨rfl, rfl, A, rfl⟩⟩
    . have hpos : 0 < ys.length := List.length_pos_iff.2 hne
      obtain ⟨newCap, us', h5, h6, h7, h8, h9, h10, h11⟩ := fresh (A := A) (n := 0) (cap := 0) (olds := []) (xs := []) (fun w' _ => by cases A <;> simp [Builtin.firstCells, loadCells, loadCellsFrom]) (by omega) (by grind) (by simp [VRs]) rfl (by grind) (by simp)
      obtain ⟨R', hle⟩ := (R.same (w' := { w with drawn := w.drawn + 1 }) rfl rfl rfl rfl).newOwn hb hsite us' e (.row 0 i.size ys) i.size newCap (Xt ⟨ys, rfl, T.hs, h6, by omega, S.tree, S.lens, h7, by grind⟩)
      refine ⟨_, _, h11, Post.mk (Imm.le.refl I) hle R' ?_⟩
      rw [Zcl]
      exact ⟨_, Bmap.put_same V sq 0 _, by grind, h6, Xq ⟨_, rfl, by simp⟩⟩
  ·
    rename_i x0 xs0
    split at h
    case isFalse => cases h
    rename_i hc
    obtain ⟨hk0, hbytes⟩ := hc
    have hrd := Zm6 R hx
    have hx' := hx
    simp only [VR] at hx
    obtain ⟨A, cap, rfl, h2, h3, h4, h5, h6⟩ := hx
    have hc : cap = (x0 :: xs0).length := by simpa using h4
    subst hc
    split at h
    . simp only [Xb, Xe] at h
      obtain ⟨rfl, rfl, rfl⟩ := h
      have hus : us = [] := Xx (by simpa using S.len)
      subst hus
      refine ⟨_, w, ?_, Post.here R hx'⟩
      rw [Zjd T S.to0 (by simp)]
      cases A <;> simp [storeCells]
    . rename_i y0 ys0
      simp only [Xb, Xe] at h
      obtain ⟨rfl, rfl, rfl⟩ := h
      obtain ⟨olds, So⟩ := Zxl (P := P) hrd hk0
      obtain ⟨newCap, us', g5, g6, g7, g8, g9, g10, g11⟩ := fresh (A := A) (n := (x0 :: xs0).length) (cap := (x0 :: xs0).length) (olds := olds) (xs := x0 :: xs0) So.run (by simp) hbytes So.vr rfl So.tree So.lens
      obtain ⟨R', hle⟩ := (R.same (w' := { w with drawn := w.drawn + 1 }) rfl rfl rfl rfl).newOwn hb hsite us' e (.row 0 i.size ((x0 :: xs0) ++ (y0 :: ys0))) i.size newCap (Xt ⟨_, rfl, T.hs, g6, by grind, g9, g10, g7, g8⟩)
      refine ⟨_, _, g11, Post.mk (Imm.le.refl I) hle R' ?_⟩
      rw [Zcl]
      exact ⟨_, Bmap.put_same V sq 0 _, by grind, g6, Xq ⟨_, rfl, rfl⟩⟩
  ·
    rename_i t' g p n
    split at h
    case h_2 => cases h
    rename_i g' k' xs hs
    split at h
    case isFalse => cases h
    rename_i hc
    obtain ⟨rfl, rfl, rfl, hbytes⟩ := hc
    obtain ⟨bi, e1, e2, e3, e4, e5, e6, e7, e8⟩ := R.blk _ _ hs
    rw [Zcl] at hx
    obtain ⟨bi', f1, f2, f3, f4⟩ := hx
    rw [e1] at f1
    injection f1 with f1
    subst f1
    have hown : ZJ V t' (.row g' i.size xs) = bi.b := by simp [ZJ, e1]
    split at h
    . rename_i hn
      subst hn
      simp only [Xb, Xe] at h
      obtain ⟨rfl, rfl, rfl⟩ := h
      rcases f4 with ⟨b, hbb, rfl⟩ | ⟨hbn, hcz, A, rfl⟩
      . rcases e8 with ⟨e8, _⟩ | ⟨b', us0, ty0, eb, e8, e9, e10⟩
        . grind
        rw [hbb] at eb
        injection eb with eb
        subst eb
        have hlx : (us0.toList.take (xs.length * i.size)).length = xs.length * i.size := by rw [<- ZaO e10, Zfi e7]
        by_cases hfit : xs.length + ys.length <= bi.cap
        . have hcells : xs.length * i.size + us.length <= us0.size := by rw [S.len, e9, <- We]; exact Wd _ hfit
          have hst := run_storeCells_at (P := P) b (xs.length * i.size) ty0 us 0 us0 w e8 (by omega) hone
          simp only [X6] at hst
          obtain ⟨R', hle⟩ := R.grow (w' := w.setRow b (us0.toList.take (xs.length * i.size) ++ us ++ us0.toList.drop (xs.length * i.size + us.length)).toArray) (xs' := xs ++ ys) hs bi
            ⟨rfl, rfl, rfl, by simp [World.setRow], fun k hk => setRow_other w b k _ (by rintro rfl; exact (R.own t' _ k hs (by grind)).1 hk)⟩
            (fun b' o u hu => by
              have : b' ≠ b := by rintro rfl; rw [(R.own t' _ b' hs (by grind)).2 o] at hu; cases hu
              rw [<- R.imm b' o u hu]
              simp only [World.cell?, setRow_other w b b' _ this])
            (fun b' hne _ => setRow_other w b b' _ (by grind))
            (Xt ⟨b, hbb, Xq (by grind)⟩) hbw
            ⟨bi, Bmap.put_same V t' _ bi, e2, e3, e4, by grind, Zie e6 S.tree, fun q hq => by
              rcases XE.1 hq with hq | hq
              . grind
              . exact S.lens q hq, Xt ⟨b, _, ty0, hbb, setRow_heap w b us0 _ ty0 (0, 0) e8, by simp; omega, by
                have hl2 : (us0.toList.take (xs.length * i.size) ++ us).length = (xs ++ ys).length * i.size := by rw [XM, hlx, S.len, XM, We]
                have := Zc3 (VRs.mono (Imm.le.refl I) (Bmap.put_le (R.gen t' _ (g' + 1) hs (by simp [Zm]))) _ _ e10) (VRs.mono (Imm.le.refl I) (Bmap.put_le (bi := bi) (R.gen t' _ (g' + 1) hs (by simp [Zm]))) _ _ S.vr)
                rw [Zgl, <- hl2]
                simp only [Xak]
                exact this⟩⟩
          refine ⟨.slice (some ⟨b, 0, none⟩) (xs.length + ys.length) bi.cap, _, ?_, Post.mk (Imm.le.refl I) hle R' ?_⟩
          . rw [Zjd T S.to0 hfit]
            simp only [Addr.add_mid, XF, hst, Result.andThen_ok]
          . rw [Zcl]
            exact ⟨bi, Bmap.put_same V t' _ bi, hfit, e4, Xq ⟨b, hbb, rfl⟩⟩
        . obtain ⟨newCap, us', g5, g6, g7, g8, g9, g10, g11⟩ := fresh (A := some ⟨b, 0, none⟩) (n := xs.length) (cap := bi.cap) (olds := us0.toList.take (xs.length * i.size)) (xs := xs)
            (fun w' hw => by
              simp only [Builtin.firstCells]
              have key := run_loadCells_list (P := P) w' ⟨b, 0, none⟩ (us0.toList.take (xs.length * i.size)) ?_
              . grind
              intro j u hu
              rw [Addr.add_mid, ZlL hw, Zg5 e8]
              rw [X4] at hu
              split at hu
              . simpa using hu
              . cases hu) (by omega) hbytes e10 rfl e6 e7
          obtain ⟨R', hle⟩ := (R.same (w' := { w with drawn := w.drawn + 1 }) rfl rfl rfl rfl).grow (w' := { w with heap := w.heap.push (.cells us' e), drawn := w.drawn + 1 }) (xs' := xs ++ ys) hs ⟨some w.heap.size, i.size, newCap⟩
            (Zjy base { w with drawn := w.drawn + 1 } _ hbw) (fun b' o u hu => ZjH { w with drawn := w.drawn + 1 } _ (R.imm b' o u hu)) (fun b' _ hlt => ZhJ w _ hlt) (Xt ⟨_, rfl, Xt rfl⟩) hbw
            ⟨_, Bmap.put_same V t' _ _, rfl, e3, g6, by grind, g9, g10, Xt ⟨_, us', e, rfl, Zi9 w _, g7, VRs.mono (Imm.le.refl I) (Bmap.put_le (R.gen t' _ (g' + 1) hs (by simp [Zm]))) _ _ g8⟩⟩
          refine ⟨_, _, g11, Post.mk (Imm.le.refl I) hle R' ?_⟩
          rw [Zcl]
          exact ⟨_, Bmap.put_same V t' _ _, g5, g6, Xq ⟨_, rfl, rfl⟩⟩
      . have hxs : xs = [] := Xx (by omega)
        subst hxs
        by_cases hne : ys = []
        . subst hne
          have hus : us = [] := Xx (by simpa using S.len)
          subst hus
          obtain ⟨R', hle⟩ := R.grow (w' := w) (xs' := []) hs ⟨none, i.size, 0⟩ (KB.refl base w) R.imm (fun _ _ _ => rfl) (Xq rfl) hbw
            ⟨_, Bmap.put_same V t' _ _, rfl, e3, by simp, by simp, by grind, by simp, Xq ⟨rfl, rfl⟩⟩
          refine ⟨.slice A 0 0, w, ?_, Post.mk (Imm.le.refl I) hle (by grind) ?_⟩
          . rw [Zjd T S.to0 (by simp)]
            cases A <;> simp [storeCells]
          . rw [Zcl]
            exact ⟨_, Bmap.put_same V t' _ _, by simp, by simp, Xt ⟨rfl, rfl, A, rfl⟩⟩
        . have hpos : 0 < ys.length := List.length_pos_iff.2 hne
          obtain ⟨newCap, us', g5, g6, g7, g8, g9, g10, g11⟩ := fresh (A := A) (n := 0) (cap := 0) (olds := []) (xs := []) (fun w' _ => by cases A <;> simp [Builtin.firstCells, loadCells, loadCellsFrom]) (by omega) (by grind) (by simp [VRs]) rfl (by grind) (by simp)
          obtain ⟨R', hle⟩ := (R.same (w' := { w with drawn := w.drawn + 1 }) rfl rfl rfl rfl).grow (w' := { w with heap := w.heap.push (.cells us' e), drawn := w.drawn + 1 }) (xs' := [] ++ ys) hs ⟨some w.heap.size, i.size, newCap⟩
            (Zjy base { w with drawn := w.drawn + 1 } _ hbw) (fun b' o u hu => ZjH { w with drawn := w.drawn + 1 } _ (R.imm b' o u hu)) (fun b' _ hlt => ZhJ w _ hlt) (Xt ⟨_, rfl, Xt rfl⟩) hbw
            ⟨_, Bmap.put_same V t' _ _, rfl, e3, g6, by grind, g9, g10, Xt ⟨_, us', e, rfl, Zi9 w _, g7, VRs.mono (Imm.le.refl I) (Bmap.put_le (R.gen t' _ (g' + 1) hs (by simp [Zm]))) _ _ g8⟩⟩
          refine ⟨_, _, g11, Post.mk (Imm.le.refl I) hle R' ?_⟩
          rw [Zcl]
          exact ⟨_, Bmap.put_same V t' _ _, by grind, g6, Xq ⟨_, rfl, by simp⟩⟩
    . rename_i hnn
      split at h
      case isFalse => cases h
      rename_i hle'
      simp only [Xb, Xe] at h
      obtain ⟨rfl, rfl, rfl⟩ := h
      have hnlt : n < xs.length := by omega
      rcases f4 with ⟨b, hbb, rfl⟩ | ⟨hbn, hcz, A, rfl⟩
      . rcases e8 with ⟨e8, _⟩ | ⟨b', us0, ty0, eb, e8, e9, e10⟩
        . grind
        rw [hbb] at eb
        injection eb with eb
        subst eb
        have hfit : n + ys.length <= bi.cap := by omega
        have hmul : (n + ys.length) * i.size <= xs.length * i.size := Wd _ hle'
        have hmul2 : xs.length * i.size <= us0.size := by rw [e9]; exact Wd _ e5
        have hcells : n * i.size + us.length <= us0.size := by rw [S.len, <- We]; omega
        have hst := run_storeCells_at (P := P) b (n * i.size) ty0 us 0 us0 w e8 (by omega) hone
        simp only [X6] at hst
        refine ⟨.slice (some ⟨b, 0, none⟩) (n + ys.length) bi.cap, w.setRow b (us0.toList.take (n * i.size) ++ us ++ us0.toList.drop (n * i.size + us.length)).toArray, ?_, Post.here (R.write hs (b := b) (by grind) (by simp [ZJ, e1, hbb]) _ ?_ rfl) ?_⟩
        . rw [Zjd T S.to0 hfit]
          simp only [Addr.add_mid, XF, hst, Result.andThen_ok]
        . have hxl : (xs.take n ++ ys ++ xs.drop (n + ys.length)).length = xs.length := by simp; omega
          refine ⟨bi, e1, e2, e3, e4, by grind, ?_, ?_, Xt ⟨b, _, ty0, hbb, setRow_heap w b us0 _ ty0 (0, 0) e8, by simp; omega, ?_⟩⟩
          . exact Zie (Zie (ZkZ e6 n) S.tree) (Zkg e6 _)
          . intro q hq
            simp only [XE] at hq
            rcases hq with (hq | hq) | hq
            . grind
            . exact S.lens q hq
            grind
          . rw [hxl, Zgl, Zgl, <- Zkf e7, <- Zi6 e7]
            have h1 := Zgi e10 (n * i.size)
            have h2 := Zgm e10 ((n + ys.length) * i.size)
            have := Zc3 (Zc3 h1 S.vr) h2
            refine cast ?_ this
            congr 1
            rw [XaG, XaD (by grind), Xaj]
            have hsl := S.len
            rw [We] at hmul ⊢
            apply Wy
            grind
        . rw [Zcl]
          exact ⟨bi, e1, hfit, e4, Xq ⟨b, hbb, rfl⟩⟩
      . omega
  . cases h
end
end
section
open Go.RowKit
theorem Zo6{I:Imm}{V:Bmap}{v:Value}{x:AVal}(h:Zm9 v=some x):VR I V x v/\v.cells=#[v]/\x.cells=[x]/\ZaN x=true:=by
 unfold Zm9 at h
 split at h
 ·injection h with h;subst h;exact⟨by simp only[VR],rfl,rfl,rfl⟩
 ·injection h with h;subst h;exact⟨by simp only[VR],rfl,rfl,rfl⟩
 ·split at h
  ·injection h with h;subst h
   refine⟨?_,rfl,rfl,rfl⟩
   simp only[VR]
   grind
  ·cases h
 ·injection h with h;subst h;exact⟨by simp only[VR],rfl,rfl,rfl⟩
 ·injection h with h;subst h
  refine⟨?_,rfl,rfl,rfl⟩
  simp only[VR]
  exact⟨none,0,rfl,by simp,by simp,by simp,Xq trivial,rfl⟩
 ·injection h with h;subst h;exact⟨by simp only[VR],rfl,rfl,rfl⟩
 ·injection h with h;subst h;exact⟨by simp only[VR],rfl,rfl,rfl⟩
 ·cases h
theorem ZzB{I:Imm}{V:Bmap}:∀ {vs:List Value} {xs:List AVal},Zk7 vs=some xs->VRs I V xs vs/\ZaK xs=true
 | [],xs,h=>by simp only[Zk7,Xb]at h;subst h;exact⟨by simp only[VRs],rfl⟩
 |v::vs,xs,h=>by
  simp only[Zk7]at h
  split at h
  ·rename_i x h1
   split at h
   ·rename_i ys h2
    injection h with h;subst h
    obtain⟨a1,_,_,a2⟩:=Zo6 (I:=I) (V:=V) h1
    obtain⟨b1,b2⟩:=ZzB (I:=I) (V:=V) h2
    exact⟨by simp only[VRs];grind,by simp[ZaK,a2,b2]⟩
   ·cases h
  ·cases h
theorem Zgt{v:Value}{x:AVal}(h:Zir v=some x):x≠.top:=by
 unfold Zir at h
 split at h
 ·simp only[Xo]at h
  grind
 ·obtain⟨_,_,_,a3⟩:=Zo6 (I:=⟨fun _ _=>none,fun _ _=>none⟩) (V:=B0) h
  rintro rfl;simp[ZaN]at a3
theorem Zgr{I:Imm}{V:Bmap}{v:Value}{x:AVal}(h:Zir v=some x):VR I V x v/\ZaK x.cells=true:=by
 unfold Zir at h
 split at h
 ·simp only[Xo]at h
  obtain⟨xs,h1,rfl⟩:=h
  obtain⟨b1,b2⟩:=ZzB (I:=I) (V:=V) h1
  exact⟨by simp only[VR];grind,b2⟩
 ·obtain⟨a1,_,a2,a3⟩:=Zo6 (I:=I) (V:=V) h
  exact⟨a1,by rw[a2];simp[ZaK,a3]⟩
section
variable {P:Program}{base:Nat->Prop}{w0 w w':World}{I0 I I':Imm}{V V':Bmap}{G G':Za}{tm:Tms}{C:Operand->Value}
theorem Zay{a:Act}(T:TR I V tm a.tmps){x:Operand}{y:Opd}(h:Zat x=some y):VR I V (y.ev tm) (a.eval x):=by
 cases x with
 |tmp t =>
  simp only[Zat,Xb]at h;subst h
  exact T t
 |const v =>
  simp only[Zat,Xo]at h
  obtain⟨c,h1,rfl⟩:=h
  exact(Zgr h1).1
 |func f =>
  simp only[Zat]at h
  split at h
  case isFalse=>cases h
  rename_i hf
  simp only[Xb]at h;subst h
  simp only[Opd.ev,Act.eval,VR,if_pos hf]
  exact⟨#[],#[],rfl,rfl,by simp[VRs]⟩
 |global g=>cases h
def OpOk(P:Program)(s:Sem Next)(w:World)(Φ:Value->World->Prop):Prop :=
 (∃ u w',s.run P w=.ok (.value u) w'/\Φ u w')\/(∃ w',s.run P w=.ok .skip w'/\Φ undef w')\/(∃ f args w',s.run P w=.ok (.enter f args) w'/\Calls P f args w' (fun e w''=>∃ u,e=.returned u/\Φ u w''))
def OpPan(P:Program)(s:Sem Next)(w:World)(Φ:Value->World->Prop):Prop :=
 (∃ u w',s.run P w=.halt (.panic u) w'/\Φ u w')\/(∃ f args w',s.run P w=.ok (.enter f args) w'/\Calls P f args w' (fun e w''=>∃ u,e=.panicked [{ v:=u,recovered:=false }]/\Φ u w''))
theorem OpPan.wp{o:Oper}{a:Act}{Φ:Value->World->Prop}{K:Act->World->Prop}{Q:Exit->Act->World->Prop}(h:OpPan P (execOp a.eval o) w Φ)(hQ:∀ u w',Φ u w'->Q (.panic [{ v:=u,recovered:=false }]) a w'):o.wp P a w K Q:=by
 unfold Oper.wp
 rcases h with⟨u,w',h1,h2⟩ |⟨f,args,w',h1,h2⟩
 ·rw[h1];exact hQ u w' h2
 ·rw[h1]
  exact h2.mono fun e w'' ⟨u,he,hu⟩=>by grind
theorem OpOk.wp{o:Oper}{a:Act}{Φ:Value->World->Prop}{K:Act->World->Prop}{Q:Exit->Act->World->Prop}(h:OpOk P (execOp a.eval o) w Φ)(hK:∀ u w',Φ u w'->K (a.put o.dst u) w'):o.wp P a w K Q:=by
 unfold Oper.wp
 rcases h with⟨u,w',h1,h2⟩ |⟨w',h1,h2⟩ |⟨f,args,w',h1,h2⟩
 ·rw[h1];exact hK u w' h2
 ·rw[h1];exact hK _ w' h2
 ·rw[h1]
  exact h2.mono fun e w'' ⟨u,he,hu⟩=>by grind
theorem OpOk.val{s:Sem Value}{Φ:Value->World->Prop}(h:∃ u w',s.run P w=.ok u w'/\Φ u w'):OpOk P (do let x <-s;pure (.value x)) w Φ:=by
 obtain⟨u,w',h1,h2⟩:=h
 exact Xq ⟨u,w',by simp[h1],h2⟩
theorem OpOk.unit{s:Sem Unit}{Φ:Value->World->Prop}(h:∃ w',s.run P w=.ok () w'/\Φ undef w'):OpOk P (do s;pure .skip) w Φ:=by
 obtain⟨w',h1,h2⟩:=h
 exact Xt (Xq ⟨w',by simp[h1],h2⟩)
theorem ZTM(R:Rel base w0 I0 I V G w)(hb:KLt base w0){e:TypeId}{z:AVal}(hz:Zer P e=some z){sq:Nat}(hs:G[sq]?=some .free) :
  ∃ u w',(Instr.alloc e true (.tuple #[])).run P w=.ok u w'/\Post base w0 I0 I V (.ref sq 0) (G.set sq (.var z.cells)) u w':=by
 unfold Zer at hz
 split at hz
 ·rename_i i hi
  split at hz
  ·rename_i v hv
   obtain⟨h1,h2⟩:=Zgr (I:=I) (V:=V) hz
   obtain⟨R',hle⟩:=R.newOwn hb hs v.cells e (.var z.cells) 1 v.cells.size (Xq ⟨_,rfl,Zfe (Zgt hz) h1⟩)
   refine⟨.pointer (some ⟨w.heap.size,0,none⟩),_,?_,Post.mk (Imm.le.refl I) hle R' ?_⟩
   ·simp[Instr.alloc,zeroValue,typeInfo,hi,hv,newVar,newRow]
   ·simp only[VR]
    exact⟨_,_,_,Bmap.put_same V sq 0 _,rfl⟩
  ·cases hz
 ·cases hz
theorem ZBV(R:Rel base w0 I0 I V G w)(hb:KLt base w0){e:TypeId}{x:AVal}{v:Value}(ht:x≠.top)(hx:VR I V x v){sq:Nat}(hs:G[sq]?=some .free) :
  ∃ u w',(Instr.box e v).run P w=.ok u w'/\Post base w0 I0 I V (.ref sq 0) (G.set sq (.var x.cells)) u w':=by
 obtain⟨R',hle⟩:=R.newOwn hb hs v.cells e (.var x.cells) 1 v.cells.size (Xq ⟨_,rfl,Zfe ht hx⟩)
 refine⟨.pointer (some ⟨w.heap.size,0,none⟩),_,?_,Post.mk (Imm.le.refl I) hle R' ?_⟩
 ·simp[Instr.box,newVar,newRow]
 ·simp only[VR]
  exact⟨_,_,_,Bmap.put_same V sq 0 _,rfl⟩
theorem ZmR(op:BinOp)(t:TypeId)(x y:Operand)(k k':IntKind)(a b:Int):(eqGuard op t x y (.int k a) (.int k' b)).run P w=.ok () w:=by
 cases op<;>simp[eqGuard]
theorem ZzI(op:BinOp)(t:TypeId)(x y:Operand)(a b:ByteArray):(eqGuard op t x y (.string a) (.string b)).run P w=.ok () w:=by
 cases op<;>simp[eqGuard]
theorem ZoA(l:List UInt8):ByteArray.toList ⟨l.toArray⟩=l:=by
 rw[ByteArray.toList_eq]
theorem ZwM {op : BinOp} {t : TypeId} {x y r : AVal} {vx vy : Value} (ox oy : Operand) (hx : VR I V x vx) (hy : VR I V y vy) (h : binA op x y = some r) :
    ∃ u, (do eqGuard op t ox oy vx vy; binOp op t vx vy : Sem Value).run P w = .ok u w /\ VR I V r u := by
  unfold binA at h
  split at h
  . rename_i k a k' b
    simp only [VR] at hx hy
    subst hx hy
    split at h
    . unfold Zbh at h
      split at h
      . cases h
      . rename_i hb
        simp only at h
        injection h with h; subst h
        simp only [VR, exists_eq_right]; simp [ZmR, binOp, Op.shift, hb]
    . unfold Zbh at h
      split at h
      . cases h
      . rename_i hb
        simp only at h
        injection h with h; subst h
        simp only [VR, exists_eq_right]; simp [ZmR, binOp, Op.shift, hb]
    . rename_i n1 n2
      split at h
      . rename_i e; subst e
        unfold arithA at h
        cases op <;> simp only at h <;> first
          | (cases h; done)
          | (exact absurd rfl n1)
          | (exact absurd rfl n2)
          | (injection h with h; subst h; simp only [VR, exists_eq_right]; simp [ZmR, binOp, Op.intArith, Op.intBits, Op.intCmp]; done)
          | (split at h
             . cases h
             . rename_i hb
               injection h with h; subst h
               simp only [VR, exists_eq_right]
               simp [ZmR, binOp, Op.intDiv, hb])
      . cases h
  . rename_i a b
    simp only [VR] at hx hy
    obtain ⟨rfl, ha⟩ := hx
    obtain ⟨rfl, hb⟩ := hy
    unfold Zc8 at h
    cases op <;> simp only at h <;> first
      | (cases h; done)
      | (injection h with h; subst h; simp only [VR, exists_eq_right]; simp [ZzI, binOp, Op.stringOp]; done)
      | (split at h
         . rename_i hlen
           injection h with h; subst h
           refine ⟨.string ⟨(a ++ b).toArray⟩, ?_, by simp only [VR]; grind⟩
           have hn : ¬ ((9223372036854775807 : Int) < ((a.length : Int) + (b.length : Int))) := by omega
           have hmx : IntKind.i64.max = 9223372036854775807 := by decide
           have hs : ∀ l : List UInt8, Ws ⟨l.toArray⟩ = l.length := fun l => by simp [Ws]
           have he : (⟨a.toArray⟩ : ByteArray) ++ ⟨b.toArray⟩ = ⟨(a ++ b).toArray⟩ := by
             apply ByteArray.ext
             simp [ByteArray.data_append]
           simp [ZzI, binOp, Op.stringOp, hs, hmx, hn, he]
           try omega
         . cases h)
  . cases h
end
end
section
open Go.RowKit
section
variable {P:Program}{base:Nat->Prop}{w0 w w':World}{I0 I I':Imm}{V V':Bmap}{G G':Za}{tm:Tms}
theorem ZUs{op:UnOp}{x r:AVal}{v:Value}(hx:VR I V x v)(h:unA op x=some r):∃ u,(Op.unary op v).run P w=.ok u w/\VR I V r u:=by
 unfold unA at h
 split at h
 ·simp only[VR]at hx;subst hx
  simp only[arithA]at h
  injection h with h;subst h
  simp only[VR,exists_eq_right];simp[Op.unary,Op.intArith]
 ·simp only[VR]at hx;subst hx
  simp only[arithA]at h
  injection h with h;subst h
  simp only[VR,exists_eq_right];simp[Op.unary,Op.intBits]
 ·simp only[VR]at hx;subst hx
  injection h with h;subst h
  simp only[VR,exists_eq_right];simp[Op.unary]
 ·cases h
theorem ZsN:∀ {xs:List AVal} {l:List UInt8},bytesOf xs=some l->∃ ns:List Int,xs=ns.map (AVal.int .u8)/\l=ns.map fun n=>Wo n.toNat
 | [],l,h=>by simp only[bytesOf,Xb]at h;subst h;exact⟨[],rfl,rfl⟩
 |x::xs,l,h=>by
  simp only[bytesOf]at h
  split at h
  ·rename_i b hb
   split at h
   ·rename_i l' hl
    injection h with h;subst h
    obtain⟨ns,rfl,rfl⟩:=ZsN hl
    unfold Ztk at hb
    split at hb
    ·rename_i n
     injection hb with hb;subst hb
     exact⟨n::ns,rfl,rfl⟩
    ·cases hb
   ·cases h
  ·cases h
theorem ZF8(ns:List Int):∀ s:ByteArray,ns.foldl (fun r n=>r.push (Wo n.toNat)) s=⟨s.data++(ns.map fun n=>Wo n.toNat).toArray⟩:=by
 induction ns with
 |nil=>intro s;simp
 |cons n ns ih =>
  intro s
  rw[List.foldl_cons,ih]
  simp[ByteArray.push]
theorem ZI3{ns:List Int}{us:List Value}(h:VRs I V (ns.map (AVal.int .u8)) us):us=ns.map (Value.int .u8):=by
 have hl:=ZaO h
 apply Wy
 intro j
 cases hj:(ns.map (AVal.int .u8))[j]? with
 |none =>
  grind
 |some x =>
  obtain⟨v,hv,hr⟩:=Zcm h hj
  simp only[Xab,Xo]at hj
  obtain⟨n,hn,rfl⟩:=hj
  simp only[VR]at hr
  grind
theorem ZJQ(ns:List Int):(ns.map (AVal.int .u8)).flatMap AVal.cells=ns.map (AVal.int .u8):=by
 induction ns with
 |nil=>rfl
 |cons n ns ih=>simp only[Xu,XB,ih];rfl
theorem ZGp{src dst e:TypeId}(hs:P.underlying src=some (.slice e))(he:P.underlying e=some (.int .u8))(hd:P.underlying dst=some .string){xs:List AVal}{v:Value}(hr:Zg9 I V w v xs){l:List UInt8}(hl:bytesOf xs=some l) :
  (convert src dst v).run P w=.ok (.string ⟨l.toArray⟩) w/\l.length<=9223372036854775807:=by
 obtain⟨A,cap,rfl,h1,h2,h3,h4⟩:=hr
 obtain⟨ns,rfl,rfl⟩:=ZsN hl
 refine⟨?_,by grind⟩
 rw[run_convert_bytes_string w src dst e A _ cap hs he hd]
 rcases A with _ |a
 ·have : ns=[]:=by
   rcases h4 with h4 |⟨b,off,k,us,e',_⟩
   ·simpa using h4
   ·cases e'
  subst this
  simp[Conv.bytesToString];rfl
 ·have hload:(loadCells a (ns.map (AVal.int .u8)).length).run P w=.ok (ns.map (Value.int .u8)).toArray w:=by
   rcases h4 with h4 |⟨b,off,k,us,e',hk,hlen,hv,hc⟩
   ·have : ns=[]:=by simpa using h4
    subst this
    simp[loadCells,loadCellsFrom]
   ·injection e' with e';subst e'
    rw[ZJQ]at hv
    have:=ZI3 hv
    subst this
    have key:=run_loadCells_list (P:=P) w ⟨b,off,none⟩ (ns.map (Value.int .u8)) (fun j u hu=>by rw[Addr.add_mid];exact hc j u hu)
    simpa using key
  rw[run_bytesToString w a _ cap ns hload,ZF8]
  simp[ByteArray.empty,ByteArray.emptyWithCapacity]
  rfl
theorem ZRP{src dst e:TypeId}(hs:P.underlying src=some .string)(hd:P.underlying dst=some (.slice e))(he:P.underlying e=some (.int .u8))(R:Rel base w0 I0 I V G w)(hb:KLt base w0){l:List UInt8}(hl:l.length<=9223372036854775807) :
  ∃ u w',(convert src dst (.string ⟨l.toArray⟩)).run P w=.ok u w'/\Post base w0 I0 I V (.lst false (l.map Zh)) G u w':=by
 have hsz:Ws ⟨l.toArray⟩=l.length:=by simp[Ws]
 obtain⟨cap,hcap⟩:∃ cap,cap=(Question.appendCap l.length 0 e).cut (w.tape w.drawn (.appendCap l.length 0 e)):=⟨_,rfl⟩
 have hge:l.length<=cap:=by rw[hcap];simp[Question.cut]
 have hle:cap<=9223372036854775807:=by
  rw[hcap];simp only[Question.cut]
  have:=Nat.mod_lt (w.tape w.drawn (.appendCap l.length 0 e)) (show 0<2^63-l.length by omega)
  omega
 obtain⟨us,hus⟩:∃ us:Array Value,us=(l.map fun b=>Value.int .u8 b.toNat).toArray++Array.replicate (cap-l.length) (.int .u8 0):=⟨_,rfl⟩
 have husz:us.size=cap:=by rw[hus];simp;omega
 obtain⟨R',hI⟩:=(R.same (w':={ w with drawn:=w.drawn+1 }) rfl rfl rfl rfl).newImm hb us e (us.size,us.size+1)
 refine⟨.slice (some ⟨w.heap.size,0,none⟩) l.length cap,{ w with drawn:=w.drawn+1,heap:=w.heap.push (.cells us e (us.size,us.size+1)) },?_,Post.mk hI (Bmap.le.refl V) R' ?_⟩
 ·have hmap:(l.toArray.map fun b=>Value.int .u8 (b.toNat:Int))=(l.map fun b=>Value.int .u8 (b.toNat:Int)).toArray:=by simp
  simp only[convert,Sem.run_bind,run_underlying hs,run_underlying hd,run_underlying he,Result.andThen_ok,Conv.stringToBytes,hsz,run_choose,Question.forced,Xi,if_false,<-hcap,newRow,run_newObj,Sem.run_pure,markStringish,run_shape]
  rw[hmap,<-hus]
  simp[World.shape?,World.freeze]
  grind
 ·simp only[VR]
  refine⟨some ⟨w.heap.size,0,none⟩,cap,by simp,by grind,hle,by simp,?_,Zyt l⟩
  by_cases hne:l=[]
  ·grind
  ·refine Xt ⟨w.heap.size,0,1,rfl,by omega,ZjK (Zrp l) (by rw[Zsf];exact Zyh l) (fun j u hu=>?_)⟩
   simp only[Imm.add,XF,if_true]
   grind
theorem ZlF{x:AVal}{v:Value}(hx:VR I V x v){y n:Nat}(h:ZdC x y=some n)(y':Nat)(hy:y<=y')(code:BoundsCode):(Instr.sliceBound v y' code).run P w=.ok n w/\n<=y:=by
 unfold ZdC at h
 split at h
 ·rename_i i
  split at h
  ·rename_i hc
   injection h with h;subst h
   simp only[VR]at hx;subst hx
   refine⟨?_,by omega⟩
   simp[Instr.sliceBound,asIntOf,hc.1,show i<=(y':Int)by omega]
  ·cases h
 ·cases h
theorem ZiM(isSlice:Bool){len cap d:Nat}{lo hi mx:Option AVal}{vlo vhi vmx:Option Value}(hlo:∀ x,lo=some x->∃ v,vlo=some v/\VR I V x v)(hlo':lo=none->vlo=none)
  (hhi:∀ x,hi=some x->∃ v,vhi=some v/\VR I V x v) (hhi':hi=none->vhi=none) (hmx:∀ x,mx=some x->∃ v,vmx=some v/\VR I V x v) (hmx':mx=none->vmx=none) (hd:d<=cap) (hhm:hi=none->mx=none) {m h l:Nat}
  (h1:Za5 mx d d=some m) (h2:Za5 hi len m=some h) (h3:Za5 lo 0 h=some l) :
  (Instr.sliceBounds isSlice len cap vlo vhi vmx).run P w=.ok (l,h,if mx.isSome then m else cap) w/\l<=h/\(hi.isSome->h<=m)/\m<=d:=by
 have b3:∀ y',h<=y'->∀ code,(match vlo with |some v=>Instr.sliceBound v y' code |none=>pure 0:Sem Nat).run P w=.ok l w/\l<=h:=by
  intro y' hy code
  cases lo with
  |none=>rw[hlo' rfl];simp only[Za5,Xb]at h3;subst h3;simp
  |some x =>
   obtain⟨v,rfl,hv⟩:=hlo x rfl
   simpa using ZlF hv h3 y' hy code
 cases mx with
 |none =>
  rw[hmx' rfl]
  simp only[Za5,Xb]at h1
  subst h1
  cases hi with
  |none =>
   rw[hhi' rfl]
   simp only[Za5,Xb]at h2
   subst h2
   have:=b3 len (XH _) .sliceB
   refine⟨?_,this.2,by simp,XH _⟩
   cases vlo<;>simp_all[Instr.sliceBounds]
  |some x =>
   obtain⟨v,rfl,hv⟩:=hhi x rfl
   have hb:=fun code=>ZlF (P:=P) (w:=w) hv h2 cap hd code
   have hb2:=(hb .sliceAcap).2
   have:=b3 h (XH _) .sliceB
   refine⟨?_,this.2,fun _=>hb2,XH _⟩
   have e1:=fun c=>(hb c).1
   cases vlo<;>simp_all[Instr.sliceBounds]
 |some y =>
  obtain⟨vm,rfl,hvm⟩:=hmx y rfl
  have hm:=fun code=>ZlF (P:=P) (w:=w) hvm h1 cap hd code
  have hm2:=(hm .slice3B).2
  cases hi with
  |none=>grind
  |some x =>
   obtain⟨v,rfl,hv⟩:=hhi x rfl
   have hb:=fun code=>ZlF (P:=P) (w:=w) hv h2 m (XH _) code
   have hb2:=(hb .sliceAcap).2
   have:=b3 h (XH _) .slice3C
   refine⟨?_,this.2,fun _=>hb2,hm2⟩
   have e1:=fun c=>(hb c).1
   have e2:=fun c=>(hm c).1
   cases vlo<;>simp_all[Instr.sliceBounds]
end
end
section
open Go.RowKit
section
variable {P:Program}{base:Nat->Prop}{w0 w w':World}{I0 I I':Imm}{V V':Bmap}{G G':Za}{tm:Tms}
def OVR(I:Imm)(V:Bmap):Option AVal->Option Value->Prop
 |none,v=>v=none
 |some x,v=>∃ u,v=some u/\VR I V x u
theorem OVR.some'{x:Option AVal}{v:Option Value}(h:OVR I V x v):∀ y,x=some y->∃ u,v=some u/\VR I V y u:=by
 rintro y rfl;exact h
theorem OVR.none'{x:Option AVal}{v:Option Value}(h:OVR I V x v):x=none->v=none:=by
 rintro rfl;exact h
theorem ZvF{b:Bool}{xs:List AVal}{A:Option Addr}{cap:Nat}(hcap:xs.length<=cap)(hmax:cap<=9223372036854775807)(hA:xs=[]\/∃ b off k,A=some ⟨b,off,none⟩/\0<k/\LR I V k xs b off)(ht:Zaq xs=true){k l h m:Nat}(hk:l=0\/kOk k xs=true)(hl:l<=h)(hh:h<=xs.length)(hm:h<=m)(hmc:m<=cap)(x:Bool)(hx:x=true->m=h) :
  VR I V (.lst x ((xs.take h).drop l)) (.slice (if m=l then A else A.map (·.add (l*k))) (h-l) (m-l)):=by
 simp only[VR]
 have hlen:((xs.take h).drop l).length=h-l:=by simp;omega
 refine⟨_,_,by rw[hlen],by grind,by omega,fun hx'=>by grind,?_,Zkg (ZkZ ht h) l⟩
 by_cases he:(xs.take h).drop l=[]
 ·grind
 ·have hlt:l<h:=by
   rcases Wz l h with h1 |h1
   ·exact h1
   ·exact absurd (Xx (by rw[hlen];omega)) he
  rcases hA with rfl |⟨b',off,k',rfl,hk',hL⟩
  ·simp at he
  ·have hml:¬m=l:=by omega
   refine Xt ⟨b',off+l*k,k',?_,hk',?_⟩
   ·rw[if_neg hml];simp[Addr.add_mid]
   ·have hkk:l*k=l*k':=by
     rcases hk with rfl |hk
     ·simp
     ·have hne:xs≠[]:=by rintro rfl;simp at he
      rw[ZlU hk (ZyU hL) hne]
    rw[hkk]
    exact Zt5 (Zt2 hL)
theorem ZE6{xs:List UInt8}{A:Option Addr}{cap:Nat}(hcap:xs.length<=cap)(hmax:cap<=9223372036854775807)(hA:xs=[]\/∃ b off,A=some ⟨b,off,none⟩/\∀ i c,xs[i]?=some c->I.im b (off+i)=some (.int .u8 c.toNat)\/I.ln b (off+i)=some (.int .u8 c.toNat)){l h:Nat}(hl:l<=h)(hh:h<=xs.length) :
  VR I V (.lnt ((xs.take h).drop l)) (.slice (if cap=l then A else A.map (·.add (l*1))) (h-l) (cap-l)):=by
 simp only[VR]
 have hlen:((xs.take h).drop l).length=h-l:=by simp;omega
 refine⟨_,_,by rw[hlen],by grind,by omega,?_⟩
 by_cases he:(xs.take h).drop l=[]
 ·grind
 ·have hlt:l<h:=by
   rcases Wz l h with h1 |h1
   ·exact h1
   ·exact absurd (Xx (by rw[hlen];omega)) he
  rcases hA with rfl |⟨b',off,rfl,hL⟩
  ·simp at he
  ·have hml:¬cap=l:=by omega
   refine Xt ⟨b',off+l,?_,fun i c hc=>?_⟩
   ·rw[if_neg hml];simp[Addr.add_mid]
   grind
theorem ZGJ {t e : TypeId} {k : Nat} (ht : P.underlying t = some (.slice e)) (hk : Zca P e = some k) (R : Rel base w0 I0 I V G w) {x r : AVal} {v : Value} (hx : VR I V x v) {lo hi mx : Option AVal} {vlo vhi vmx : Option Value} (hlo : OVR I V lo vlo) (hhi : OVR I V hi vhi) (hmx : OVR I V mx vmx) (hhm : hi = none -> mx = none) {c : Cls}
    (h : ZbO G k x lo hi mx = some (r, G', c)) : ∃ u, (Instr.sliceAt t v vlo vhi vmx).run P w = .ok u w /\ Post base w0 I0 I V r G' u w := by
  obtain ⟨ie, hie, hke⟩ : ∃ ie, P.info? e = some ie /\ ie.size = k := by
    unfold Zca at hk
    cases hi : P.info? e with
    | none => grind
    | some i => grind
  have run : ∀ {A : Option Addr} {len cap l h m : Nat}, (Instr.sliceBounds true len cap vlo vhi vmx).run P w = .ok (l, h, m) w ->
      (Instr.sliceAt t (.slice A len cap) vlo vhi vmx).run P w = .ok (.slice (if m = l then A else A.map (·.add (l * k))) (h - l) (m - l)) w := by
    intro A len cap l h m hr
    simp [Instr.sliceAt, Instr.slice, run_underlying ht, hr, sizeOf, typeInfo, hie, hke]
  unfold ZbO at h
  split at h
  . rename_i b xs
    simp only [VR] at hx
    obtain ⟨A, cap, rfl, h2, h3, h4, h5, h6⟩ := hx
    split at h
    . cases h
    rename_i m hm
    split at h
    . cases h
    rename_i h' hh
    split at h
    . cases h
    rename_i l hl
    split at h
    case isFalse => cases h
    rename_i hk0
    have hk0' : l = 0 \/ kOk k xs = true := by simpa using hk0
    obtain ⟨hr, hlh, hhm', hmd⟩ := ZiM (P := P) (w := w) true hlo.some' hlo.none' hhi.some' hhi.none' hmx.some' hmx.none' h2 hhm hm hh hl
    have hhle : h' <= xs.length := by
      cases hi with
      | none => simp only [Za5, Xb] at hh; omega
      | some y => grind
    have hhm2 : h' <= m := by
      cases hi with
      | none => rw [hhm rfl] at hm; simp only [Za5, Xb] at hm hh; omega
      | some y => grind
    split at h
    . rename_i hmx'
      simp only [Xb, Xe] at h
      obtain ⟨rfl, rfl, rfl⟩ := h
      rw [if_pos hmx'] at hr
      exact ⟨_, run hr, Post.here R (ZvF (b := b) h2 h3 h5 h6 hk0' hlh hhle hhm2 (by omega) _ (fun e => by grind))⟩
    . rename_i hmx'
      simp only [Xb, Xe] at h
      obtain ⟨rfl, rfl, rfl⟩ := h
      rw [if_neg hmx'] at hr
      refine ⟨_, run hr, Post.here R (ZvF (b := b) h2 h3 h5 h6 hk0' hlh hhle (by omega) (XH _) _ (fun e => ?_))⟩
      grind
  . rename_i xs
    simp only [VR] at hx
    obtain ⟨A, cap, rfl, h2, h3, h4⟩ := hx
    split at h
    case isFalse => cases h
    rename_i hk1
    obtain ⟨rfl, hmn⟩ := hk1
    obtain rfl : mx = none := by simpa using hmn
    split at h
    . cases h
    rename_i h' hh
    split at h
    . cases h
    rename_i l hl
    obtain ⟨hr, hlh, hhm', hmd⟩ := ZiM (P := P) (w := w) true hlo.some' hlo.none' hhi.some' hhi.none' hmx.some' hmx.none' h2 hhm (m := xs.length) rfl hh hl
    have hhle : h' <= xs.length := by
      cases hi with
      | none => simp only [Za5, Xb] at hh; omega
      | some y => grind
    simp only [Xb, Xe] at h
    obtain ⟨rfl, rfl, rfl⟩ := h
    rw [if_neg (by simp)] at hr
    exact ⟨_, run hr, Post.here R (ZE6 h2 h3 h4 hlh hhle)⟩
  . rename_i t' g p n
    split at h
    . cases h
    rename_i els hels
    have hx0 := hx
    simp only [VR] at hx
    obtain ⟨bi, f1, f2, f3, f4⟩ := hx
    obtain ⟨A, hv⟩ : ∃ A, v = .slice A n (bi.cap - p) := by
      rcases f4 with ⟨b, _, rfl⟩ | ⟨_, hc, A, rfl⟩ | ⟨_, hc, hn, A, rfl⟩
      . grind
      . exact ⟨A, by rw [hc, show n = 0 by omega, Nat.zero_sub]⟩
      . exact ⟨A, by rw [hn, <- hc, XaB]⟩
    have row : ∀ {k' : Nat} {xs : List AVal} {h' l : Nat}, bi.k = k -> xs.length <= bi.cap -> p + n <= xs.length -> vmx = none -> mx = none -> Za5 hi n (xs.length - p) = some h' -> Za5 lo 0 h' = some l ->
        ∃ u, (Instr.sliceAt t v vlo vhi vmx).run P w = .ok u w /\ VR I V (.sl t' g (p + l) (h' - l)) u := by
      intro k' xs h' l hbk hxc hpn hv1 hv2 hh hl
      subst hv1 hv2
      obtain ⟨hr, hlh, hhm', hmd⟩ := ZiM (P := P) (w := w) true (len := n) (cap := bi.cap - p) (d := xs.length - p) (mx := none) (vmx := none) hlo.some' hlo.none' hhi.some' hhi.none' (by simp) (by simp) (by omega) (fun _ => rfl) (m := xs.length - p) rfl hh hl
      have hhn : h' <= bi.cap - p := by
        cases hi with
        | none => simp only [Za5, Xb] at hh; omega
        | some y => grind
      rw [hv]
      simp only [Xal, Xi, if_false] at hr
      refine ⟨_, run hr, ?_⟩
      simp only [VR]
      refine ⟨bi, f1, by omega, f3, ?_⟩
      rcases f4 with ⟨b, hb, hv'⟩ | ⟨hb, hc, A', hv'⟩ | ⟨hp, hc, hn, A', hv'⟩
      . rw [hv] at hv'; injection hv' with hv'; subst hv'
        by_cases hcl : bi.cap - p = l
        . rw [if_pos hcl]
          by_cases hz : p + l = 0
          . grind
          . exact Xt (Xt ⟨by omega, by omega, by omega, _, by rw [show h' - l = 0 by omega, show bi.cap - p - l = 0 by omega]⟩)
        . rw [if_neg hcl]
          refine Xq ⟨b, hb, ?_⟩
          simp only [X9, Addr.add_mid, <- hbk, <- We]
          grind
      . refine Xt (Xq ⟨hb, hc, ?_⟩)
        rw [hc]
        exact ⟨A, by simp [show h' = 0 by omega, show l = 0 by omega]⟩
      . refine Xt (Xt ⟨by omega, by omega, by omega, ?_⟩)
        grind
    split at h
    . rename_i m0
      split at h
      . rename_i q1 hq1
        split at h
        . rename_i q2 hq2
          split at h
          . rename_i q3 hq3
            simp only [Xb, Xe] at h
            obtain ⟨rfl, rfl, rfl⟩ := h
            have hq1' : q1 = 0 := by
              unfold ZdC at hq1; split at hq1
              . grind
              . cases hq1
            subst hq1'
            cases hi with
            | none => grind
            | some y =>
              obtain ⟨hr, hlh, hhm', hmd⟩ := ZiM (P := P) (w := w) true (len := n) (cap := bi.cap - p) (d := 0) hlo.some' hlo.none' hhi.some' hhi.none' hmx.some' hmx.none' (Nat.zero_le _) hhm (m := 0) (h := q2) (l := q3) hq1 hq2 (by
                have : q2 = 0 := by
                  unfold Za5 ZdC at hq2; simp only at hq2; split at hq2
                  . grind
                  . cases hq2
                grind)
              have hq2' : q2 <= 0 := hhm' rfl
              have e2 : q2 = 0 := by omega
              have e3 : q3 = 0 := by omega
              subst e2 e3
              rw [hv]
              refine ⟨_, run hr, Post.here R ?_⟩
              simp only [VR]
              exact ⟨A, 0, by simp, by simp, by simp, by simp, Xq trivial, by simp [Zaq]⟩
          . cases h
        . cases h
      . split at h
        . rename_i q1 hq1
          split at h
          . rename_i q2 hq2
            split at h
            . rename_i q3 hq3
              simp only [Xb, Xe] at h
              obtain ⟨rfl, rfl, rfl⟩ := h
              cases hi with
              | none => grind
              | some y =>
                obtain ⟨hr, hlh, hhm', hmd⟩ := ZiM (P := P) (w := w) true (len := n) (cap := bi.cap - p) (d := n) hlo.some' hlo.none' hhi.some' hhi.none' hmx.some' hmx.none' (by omega) hhm (m := q1) (h := q2) (l := q3) hq1 hq2 hq3
                rw [hv]
                refine ⟨_, run hr, Post.here R ?_⟩
                simp only [VR]
                exact ⟨rfl, rfl⟩
            . cases h
          . cases h
        . cases h
    . have hmx0 : vmx = none := hmx
      split at h
      . rename_i g' k' xs hs
        split at h
        case isFalse => cases h
        rename_i hkk
        split at h
        . cases h
        rename_i h' hh
        split at h
        . cases h
        rename_i l hl
        simp only [Xb, Xe] at h
        obtain ⟨rfl, rfl, rfl⟩ := h
        simp only [ZZ, hs] at hels
        split at hels
        case isFalse => cases hels
        rename_i hc
        obtain ⟨bi', e1, e2, _, _, e5, _⟩ := R.blk _ _ hs
        rw [hc.1, f1] at e1
        injection e1 with e1; subst e1
        obtain ⟨u, h1, h2⟩ := row (k' := k') (by grind) e5 hc.2 hmx0 rfl hh hl
        exact ⟨u, h1, Post.here R h2⟩
      . rename_i g' k' xs hs
        split at h
        case isFalse => cases h
        rename_i hkk
        split at h
        . cases h
        rename_i h' hh
        split at h
        . cases h
        rename_i l hl
        simp only [Xb, Xe] at h
        obtain ⟨rfl, rfl, rfl⟩ := h
        simp only [ZZ, hs] at hels
        split at hels
        case isFalse => cases hels
        rename_i hc
        obtain ⟨bi', e1, e2, _, _, e5, _⟩ := R.blk _ _ hs
        rw [hc.1, f1] at e1
        injection e1 with e1; subst e1
        obtain ⟨u, h1, h2⟩ := row (k' := k') (by grind) e5 hc.2 hmx0 rfl hh hl
        exact ⟨u, h1, Post.here R h2⟩
      . cases h
  . cases h
theorem ZHw{t:TypeId}(ht:P.underlying t=some .string){s:List UInt8}(hs:s.length<=9223372036854775807){lo hi:Option AVal}{vlo vhi:Option Value}(hlo:OVR I V lo vlo)(hhi:OVR I V hi vhi){h l:Nat}(h1:Za5 hi s.length s.length=some h)(h2:Za5 lo 0 h=some l) :
  (Instr.sliceAt t (.string ⟨s.toArray⟩) vlo vhi none).run P w=.ok (.string ⟨((s.take h).drop l).toArray⟩) w:=by
 have hsz:Ws ⟨s.toArray⟩=s.length:=by simp[Ws]
 obtain⟨hr,hlh,_,_⟩:=ZiM (P:=P) (w:=w) false (len:=s.length) (cap:=s.length) (d:=s.length) (mx:=none) (vmx:=none) hlo.some' hlo.none' hhi.some' hhi.none' (by simp) (by simp) (XH _) (fun _=>rfl) (m:=s.length) rfl h1 h2
 simp only[Xal,Xi,if_false]at hr
 simp[Instr.sliceAt,Instr.slice,run_underlying ht,hsz,hr]
 apply ByteArray.ext
 apply Xbd
 simp[ByteArray.data_extract,Xaj]
theorem ZJW{s:TypeId}{fields:Array Field}{i:Nat}{f:Field}{k:Nat}(hs:P.underlying s=some (.struct fields))(hf:fields[i]?=some f)(hk:Zca P f.type=some k)(hk0:k≠0){x r:AVal}{v:Value}(hx:VR I V x v)(h:faddrA f.offset x=some r) :
  ∃ u,(Instr.fieldAt s v i).run P w=.ok u w/\VR I V r u:=by
 obtain⟨ie,hie,hke⟩:∃ ie,P.info? f.type=some ie/\ie.size=k:=by
  unfold Zca at hk
  cases hi:P.info? f.type with
  |none=>grind
  |some i=>grind
 have run:∀ b o,(Instr.fieldAt s (.pointer (some ⟨b,o,none⟩)) i).run P w=.ok (.pointer (some ⟨b,o+f.offset,none⟩)) w:=by
  intro b o
  simp[Instr.fieldAt,run_underlying hs,hf,Instr.sureAddr,fieldPlace,sizeOf,typeInfo,hie,hke,hk0,Addr.add_mid]
 unfold faddrA at h
 split at h
 ·injection h with h;subst h
  simp only[VR]at hx ⊢
  grind
 ·injection h with h;subst h
  simp only[VR]at hx ⊢
  grind
 ·injection h with h;subst h
  simp only[VR]at hx ⊢
  grind
 ·cases h
theorem Zyb{t:TypeId}{k:Option Nat}(hk:Zgz P t=some k){cs:List AVal}{us:Array Value}(hv:VRs I V cs us.toList){o:Nat}{x:AVal}(hp:partA k cs o=some x):∃ u,(part t us o).run P w=.ok u w/\VR I V x u:=by
 unfold Zgz at hk
 have hl:=ZaO hv
 have many:∀ (d:TypeDesc) (i:TypeInfo),P.underlying t=some d->d.isRow=true->P.info? t=some i->k=some i.size->∃ u,(part t us o).run P w=.ok u w/\VR I V x u:=by
  intro d i hu hd hi e
  subst e
  simp only[partA]at hp
  split at hp
  ·rename_i hle
   injection hp with hp
   subst hp
   have hagg:(isAgg t).run P w=.ok true w:=by
    unfold isAgg
    rw[Sem.run_bind,run_underlying hu w]
    cases d<;>simp_all
   refine⟨.agg (us.extract o (o+i.size)),by simp[part,hagg,sizeOf,typeInfo,hi],?_⟩
   simp only[VR]
   refine⟨_,rfl,?_⟩
   have:=Zgi (Zgm hv o) i.size
   have e:(us.extract o (o+i.size)).toList=(us.toList.drop o).take i.size:=by
    rw[Array.toList_extract,List.extract_eq_take_drop,Nat.add_sub_cancel_left]
   grind
  ·cases hp
 have one:∀ (d:TypeDesc),P.underlying t=some d->d.isRow=false->k=none->∃ u,(part t us o).run P w=.ok u w/\VR I V x u:=by
  intro d hu hd e
  subst e
  simp only[partA]at hp
  obtain⟨u,h1,h2⟩:=Zcm hv hp
  refine⟨u,?_,h2⟩
  have hagg:(isAgg t).run P w=.ok false w:=by
   unfold isAgg
   rw[Sem.run_bind,run_underlying hu w]
   cases d<;>simp_all[TypeDesc.isRow]
  have h1':us[o]?=some u:=by simpa using h1
  simp[part,hagg,h1']
 grind
theorem ZQD{t e:TypeId}{k:Nat}(ht:P.underlying t=some (.slice e))(hk:Zca P e=some k)(R:Rel base w0 I0 I V G w){x i r:AVal}{v vi:Value}(hx:VR I V x v)(hi:VR I V i vi){c:Cls}(h:Zc5 G k x i=some (r,G',c)) :
  ∃ u,(Instr.indexAt t v vi).run P w=.ok u w/\VR I V r u/\G'=G:=by
 obtain⟨ie,hie,hke⟩:∃ ie,P.info? e=some ie/\ie.size=k:=by
  unfold Zca at hk
  cases hi:P.info? e with
  |none=>grind
  |some i=>grind
 have run:∀ {b o len cap:Nat} {kk:IntKind} {i:Int},0<=i->i.toNat<len->(Instr.indexAt t (.slice (some ⟨b,o,none⟩) len cap) (.int kk i)).run P w=.ok (.pointer (some ⟨b,o+i.toNat*k,none⟩)) w:=by
  intro b o len cap kk i h0 h1
  simp[Instr.indexAt,asIntOf,run_underlying ht,h0,show i<(len:Int)by omega,sizeOf,typeInfo,hie,hke,Addr.add_mid]
 unfold Zc5 at h
 split at h
 case h_2=>cases h
 rename_i kk i
 simp only[VR]at hi
 subst hi
 split at h
 case isFalse=>cases h
 rename_i h0
 split at h
 ·rename_i b xs
  split at h
  ·rename_i y hy
   split at h
   ·rename_i hyk
    simp only[Xb,Xe]at h
    obtain⟨rfl,rfl,rfl⟩:=h
    have hlt:=(Xn.1 hy).1
    simp only[VR]at hx
    obtain⟨A,cap,rfl,h2,h3,h4,h5,h6⟩:=hx
    rcases h5 with rfl |⟨b',off,k',rfl,hk',hL⟩
    ·simp at hy
    obtain⟨q1,q2⟩:=Znd hL hy
    have : k'=k:=by omega
    subst this
    refine⟨_,run h0 hlt,?_,rfl⟩
    simp only[VR]
    exact⟨b',_,rfl,q2,ZdG.1 h6 y (XL hy)⟩
   ·cases h
  ·cases h
 ·rename_i t' g p n
  split at h
  case isFalse=>cases h
  rename_i hlt
  have fin:∀ bi,V t' g=some bi->bi.k=k->r=.eref t' g (p+i.toNat) 0->∃ u,(Instr.indexAt t v (.int kk i)).run P w=.ok u w/\VR I V r u:=by
   intro bi hb hbk hr
   subst hr
   simp only[VR]at hx
   obtain⟨bi',f1,f2,f3,f4⟩:=hx
   rw[hb]at f1;injection f1 with f1;subst f1
   rcases f4 with⟨b,hbb,rfl⟩ |⟨_,hc,_⟩ |⟨_,_,hn,_⟩
   ·refine⟨_,run h0 hlt,?_⟩
    simp only[VR]
    refine⟨b,bi.k,bi.cap,?_,by grind⟩
    rw[hb]
    cases bi
    simp_all
   ·omega
   ·omega
  split at h
  ·rename_i g' k' xs hs
   split at h
   ·rename_i hc
    simp only[Xb,Xe]at h
    obtain⟨hr,rfl,rfl⟩:=h
    obtain⟨bi,e1,e2,_⟩:=R.blk _ _ hs
    grind
   ·cases h
  ·rename_i g' k' xs hs
   split at h
   ·rename_i hc
    simp only[Xb,Xe]at h
    obtain⟨hr,rfl,rfl⟩:=h
    obtain⟨bi,e1,e2,_⟩:=R.blk _ _ hs
    grind
   ·cases h
  ·rename_i g' k' xs hs
   split at h
   ·rename_i hc
    simp only[Xb,Xe]at h
    obtain⟨hr,rfl,rfl⟩:=h
    obtain⟨bi,e1,e2,_⟩:=R.blk _ _ hs
    grind
   ·cases h
  ·cases h
 ·cases h
theorem ZQ5{t e:TypeId}{n k:Nat}(ht:P.underlying t=some (.array n e))(hk:Zca P e=some k){x r:AVal}{v:Value}(hx:VR I V x v){kk:IntKind}{i:Int}(h0:0<=i)(h1:i<n)(h:faddrA (i.toNat*k) x=some r) :
  ∃ u,(Instr.indexAt t v (.int kk i)).run P w=.ok u w/\VR I V r u:=by
 obtain⟨ie,hie,hke⟩:∃ ie,P.info? e=some ie/\ie.size=k:=by
  unfold Zca at hk
  cases hi:P.info? e with
  |none=>grind
  |some i=>grind
 have run:∀ b o,(Instr.indexAt t (.pointer (some ⟨b,o,none⟩)) (.int kk i)).run P w=.ok (.pointer (some ⟨b,o+i.toNat*k,none⟩)) w:=by
  intro b o
  simp[Instr.indexAt,asIntOf,run_underlying ht,Instr.sureAddr,h0,h1,sizeOf,typeInfo,hie,hke,Addr.add_mid]
 unfold faddrA at h
 split at h
 ·injection h with h;subst h
  simp only[VR]at hx ⊢
  grind
 ·injection h with h;subst h
  simp only[VR]at hx ⊢
  grind
 ·injection h with h;subst h
  simp only[VR]at hx ⊢
  grind
 ·cases h
end
end
section
open Go.RowKit
section
variable {P:Program}{base:Nat->Prop}{w0 w w':World}{I0 I I':Imm}{V V':Bmap}{G G':Za}{tm:Tms}
theorem Zyi(off:Nat):∀ (l:List Value) (j0:Nat) (cells:Array Value),off+j0+l.length<=cells.size ->
  ((l.zipIdx j0).foldl (fun cs p=>cs.setIfInBounds (off+p.2) p.1) cells).toList=cells.toList.take (off+j0)++l++cells.toList.drop (off+j0+l.length)
 | [],j0,cells,_=>by simp
 |v::l,j0,cells,h=>by
  simp only[Xz]at h
  rw[List.zipIdx_cons,List.foldl_cons,Zyi off l (j0+1) _ (by simp;omega)]
  apply Wy
  intro j
  simp only[Array.toList_setIfInBounds,WU,X4,WF,XM,WK,Xz,Xaa,XU,XO,List.getElem?_cons]
  grind
theorem ZwD(off:Nat)(v:Value)(cells:Array Value)(h:off+v.cells.size<=cells.size) :
  (v.cells.zipIdx.foldl (fun cs (c,j)=>cs.setIfInBounds (off+j) c) cells).toList=cells.toList.take off++v.cells.toList++cells.toList.drop (off+v.cells.toList.length):=by
 have:=Zyi off v.cells.toList 0 cells (by grind)
 rw[<-Array.foldl_toList]
 simpa using this
def ZfG(I:Imm)(V:Bmap)(place:Nat->Option (Nat×Nat)):List (Nat×Nat×AVal)->List (Nat×Value)->Prop
 | [],vs=>vs=[]
 |(off,k,x)::r,vs=>∃ i v vs',vs=(i,v)::vs'/\place i=some (off,k)/\VR I V x v/\ZfG I V place r vs'
theorem Zt9(place:Nat->Option (Nat×Nat)):∀ {ps:List (Nat×Nat×AVal)} {vs:List (Nat×Value)} {zs cs:List AVal} {zc:Array Value},ZfG I V place ps vs->VRs I V zs zc.toList->Zao zs ps=some cs ->
  ∃ cells,Instr.fill place zc vs=some cells/\VRs I V cs cells.toList
 | [],vs,zs,cs,zc,hp,hz,h=>by
  simp only[ZfG]at hp;subst hp
  simp only[Zao,Xb]at h;subst h
  exact⟨zc,rfl,hz⟩
 |(off,k,x)::ps,vs,zs,cs,zc,hp,hz,h=>by
  simp only[ZfG]at hp
  obtain⟨i,v,vs',rfl,h1,h2,h3⟩:=hp
  simp only[Zao]at h
  split at h
  ·rename_i hc
   have hnt:=ZKW hc.2.2
   have hl:=Zh0 hnt h2
   have hzl:=ZaO hz
   simp only[XU]at hzl
   have hle:off+v.cells.size<=zc.size:=by omega
   have hset:VRs I V (setAt zs off x.cells) (v.cells.zipIdx.foldl (fun cs (c,j)=>cs.setIfInBounds (off+j) c) zc).toList:=by
    rw[ZwD off v zc hle]
    exact Zlf hz (Zfe hnt h2) off
   obtain⟨cells,g1,g2⟩:=Zt9 place h3 hset h
   refine⟨cells,?_,g2⟩
   simp only[Instr.fill,h1]
   grind
  ·cases h
theorem ZAu:∀ (fs:List Field),fs.all (fun f=>(P.info? f.type).isSome)=true->∃ places,fs.mapM (fun f=>(P.info? f.type).map fun i=>(f.offset,i.size))=some places/\∀ (j:Nat) (f:Field) (k:Nat),fs[j]?=some f->Zca P f.type=some k->places[j]?=some (f.offset,k)
 | [],_=>⟨[],by simp,by simp⟩
 |f::fs,h=>by
  simp only[XW,Xk]at h
  obtain⟨places,h1,h2⟩:=ZAu fs h.2
  obtain⟨i,hi⟩:=Option.isSome_iff_exists.1 h.1
  refine⟨(f.offset,i.size)::places,by simp[List.mapM_cons,hi,h1],?_⟩
  intro j g k hj hk
  cases j with
  |zero =>
   simp only[XK,Xb]at hj;subst hj
   simp only[Zca,hi,X9,Xb]at hk;grind
  |succ j=>grind
theorem ZwR{a:Act}(T:TR I V tm a.tmps){fields:Array Field}{place:Nat->Option (Nat×Nat)}(hpl:∀ j f k,fields[j]?=some f->Zca P f.type=some k->place j=some (f.offset,k)) :
  ∀ {parts:List (Nat×Operand)} {ps:List (Nat×Nat×Opd)},ZkN P fields parts=some ps->ZfG I V place (ps.map fun p=>(p.1,p.2.1,p.2.2.ev tm)) (parts.map fun(i,x)=>(i,a.eval x))
 | [],ps,h=>by simp only[ZkN,Xb]at h;subst h;simp[ZfG]
 |(i,x)::r,ps,h=>by
  simp only[ZkN]at h
  split at h
  ·rename_i f hf
   split at h
   ·rename_i k y ps' hk hy hps
    injection h with h;subst h
    simp only[Xu,ZfG]
    exact⟨i,a.eval x,_,rfl,hpl i f k hf hk,Zay T hy,ZwR T hpl hps⟩
   ·cases h
  ·cases h
theorem ZzP{a:Act}(T:TR I V tm a.tmps){k:Nat} :
  ∀ {parts:List (Nat×Operand)} {ps:List (Nat×Nat×Opd)},Zkk k parts=some ps->ZfG I V (fun i=>some (i*k,k)) (ps.map fun p=>(p.1,p.2.1,p.2.2.ev tm)) (parts.map fun(i,x)=>(i,a.eval x))
 | [],ps,h=>by simp only[Zkk,Xb]at h;subst h;simp[ZfG]
 |(i,x)::r,ps,h=>by
  simp only[Zkk]at h
  split at h
  ·rename_i y ps' hy hps
   injection h with h;subst h
   simp only[Xu,ZfG]
   exact⟨i,a.eval x,_,rfl,rfl,Zay T hy,ZzP T hps⟩
  ·cases h
theorem ZQV{a:Act}(T:TR I V tm a.tmps){t:TypeId}{parts:Array (Nat×Operand)}{an:Ann}{own:Nat}{zs:List AVal}{ps:List (Nat×Nat×Opd)}(hc:Zad P an own (.build t parts)=some (.build zs ps)){cs:List AVal}(h:Zao zs (ps.map fun p=>(p.1,p.2.1,p.2.2.ev tm))=some cs) :
  ∃ u,(Instr.build t (parts.map fun(i,x)=>(i,a.eval x))).run P w=.ok u w/\VR I V (.agg cs) u:=by
 simp only[Zad]at hc
 have zero:∀ z,Zer P t=some z->∃ i v,P.info? t=some i/\i.zero=some v/\VRs I V z.cells v.cells.toList:=by
  intro z hz
  unfold Zer at hz
  split at hz
  ·rename_i i hi
   split at hz
   ·rename_i v hv
    exact⟨i,v,hi,hv,Zfe (Zgt hz) (Zgr hz).1⟩
   ·cases hz
  ·cases hz
 split at hc
 ·rename_i fields z hu hz
  split at hc
  ·rename_i hall
   simp only[Xo]at hc
   obtain⟨ps',hps,he⟩:=hc
   injection he with e1 e2;subst e1 e2
   obtain⟨i,v,hi,hv,hzv⟩:=zero z hz
   obtain⟨places,hp1,hp2⟩:=ZAu (P:=P) fields.toList hall
   obtain⟨cells,g1,g2⟩:=Zt9 (places.toArray[·]?) (ZwR (a:=a) T (place:=(places.toArray[·]?)) (fun j f k hj hk=>by grind) hps) hzv h
   refine⟨.agg cells,run_build w t _ cells ?_,by simp only[VR];grind⟩
   simp only[Program.built,hi,hu,hv,hp1]
   simpa using g1
  ·cases hc
 ·rename_i n e z hu hz
  split at hc
  ·rename_i k hk
   simp only[Xo]at hc
   obtain⟨ps',hps,he⟩:=hc
   injection he with e1 e2;subst e1 e2
   obtain⟨i,v,hi,hv,hzv⟩:=zero z hz
   obtain⟨ie,hie,hke⟩:∃ ie,P.info? e=some ie/\ie.size=k:=by
    unfold Zca at hk
    cases hi:P.info? e with
    |none=>grind
    |some i=>grind
   obtain⟨cells,g1,g2⟩:=Zt9 (fun i=>some (i*k,k)) (ZzP (a:=a) T hps) hzv h
   refine⟨.agg cells,run_build w t _ cells ?_,by simp only[VR];grind⟩
   simp only[Program.built,hi,hu,hv,hie,hke]
   simpa using g1
  ·cases hc
 ·cases hc
theorem ZAE{z:AVal}{k:Nat}(hz:z.cells.length=k)(hk:0<k):∀ (n j:Nat),j<n*k->((XI n z).flatMap AVal.cells)[j]?=z.cells[j%k]?
 |0,j,h=>by simp at h
 |n+1,j,h=>by
  rw[List.replicate_succ,XB,WU]
  split
  ·rename_i hj;rw[Nat.mod_eq_of_lt (by omega)]
  ·rename_i hj
   rw[We]at h
   rw[ZAE hz hk n (j-z.cells.length) (by omega),hz]
   congr 1
   rw[<-Nat.mod_eq_sub_mod (by omega)]
theorem Znv{z:AVal}{v:Value}{k:Nat}(hnt:z≠.top)(hz:VR I V z v)(hl:z.cells.length=k)(hk:0<k)(n:Nat):VRs I V ((XI n z).flatMap AVal.cells) ((WQ (n*k)).map (v.cells[· % v.cells.size]!)).toList:=by
 have hv:=Zfe hnt hz
 have hvl:=Zh0 hnt hz
 have hfl:((XI n z).flatMap AVal.cells).length=n*k:=by rw[Zfi (k:=k) (by grind)];simp
 refine Zd7 (by grind) (fun j x u hx hu=>?_)
 have hj:j<n*k:=by have:=(Xn.1 hx).1;omega
 rw[ZAE hl hk n j hj]at hx
 obtain⟨u',h1,h2⟩:=Zcm hv hx
 grind
theorem ZrT{k:Nat}:∀ {is:List Nat} {ys:List AVal} {vs:List Value} {xs:List AVal} {cells:Array Value},is.length=ys.length->(∀ y∈ys,y≠.top)->VRs I V ys vs->(∀ y∈ys,y.cells.length=k)->(∀ i∈is,i<xs.length)->(∀ x∈xs,x.cells.length=k)->VRs I V (xs.flatMap AVal.cells) cells.toList ->
  ∃ cells',Instr.fill (fun i=>some (i*k,k)) cells (is.zip vs)=some cells'/\VRs I V (((is.zip ys).foldl (fun l p=>l.set p.1 p.2) xs).flatMap AVal.cells) cells'.toList/\(∀ x∈(is.zip ys).foldl (fun l p=>l.set p.1 p.2) xs,x.cells.length=k)/\((is.zip ys).foldl (fun l p=>l.set p.1 p.2) xs).length=xs.length/\cells'.size=cells.size
 | [],ys,vs,xs,cells,hl,_,hv,hk,hi,hx,hc=>by
  have : ys=[]:=Xx (by grind)
  subst this
  exact⟨cells,by simp[Instr.fill],by simpa using hc,by simpa using hx,rfl,rfl⟩
 |i::is,[],vs,xs,cells,hl,_,hv,hk,hi,hx,hc=>by simp at hl
 |i::is,y::ys,vs,xs,cells,hl,hnt,hv,hk,hi,hx,hc=>by
  simp only[VRs]at hv
  obtain⟨v,vs',rfl,hv1,hv2⟩:=hv
  have hil:i<xs.length:=hi i (by simp)
  have hyk:=hk y (by simp)
  have hcl:=Zh0 (hnt y (by simp)) hv1
  have hfl:=Zfi hx
  have hcs:=ZaO hc
  simp only[XU]at hcs
  have hmul:=Zs6 (k:=k) hil
  have hset:VRs I V ((xs.set i y).flatMap AVal.cells) (v.cells.zipIdx.foldl (fun cs (c,j)=>cs.setIfInBounds (i*k+j) c) cells).toList:=by
   rw[ZwD (i*k) v cells (by omega)]
   have hself:y.cells=setAt (xs[i]).cells 0 y.cells:=by
    unfold setAt
    grind
   rw[ZnC hx (XA hil) hself (by omega),X6]
   exact Zlf hc (Zfe (hnt y (by simp)) hv1) (i*k)
  have hx':∀ x∈xs.set i y,x.cells.length=k:=by
   intro x hm
   rcases WN hm with hm |rfl
   ·exact hx x hm
   ·exact hyk
  obtain⟨cells',g1,g2,g3,g4,g5⟩:=ZrT (k:=k) (is:=is) (ys:=ys) (vs:=vs') (xs:=xs.set i y) (cells:=v.cells.zipIdx.foldl (fun cs (c,j)=>cs.setIfInBounds (i*k+j) c) cells) (by grind) (fun z hz=>hnt z (by simp[hz])) hv2 (fun z hz=>hk z (by simp[hz])) (fun j hj=>by grind) hx' hset
  refine⟨cells',?_,by simpa using g2,by simpa using g3,by simpa using g4,?_⟩
  ·simp only[List.zip_cons_cons,Instr.fill]
   grind
  ·rw[g5]
   have h1:=ZaO hset
   have h2:=Zfi hx'
   rw[Xaa]at h2
   rw[XU]at h1
   exact h1.symm.trans (h2.trans (hfl.symm.trans hcs))
end
end
section
open Go.RowKit
section
variable {P:Program}{base:Nat->Prop}{w0 w w':World}{I0 I I':Imm}{V V':Bmap}{G G':Za}{tm:Tms}
theorem Zs8{a:Act}(T:TR I V tm a.tmps):∀ {parts:List (Nat×Operand)} {ps:List (Nat×Opd)},Zii parts=some ps ->
  (parts.map fun(i,x)=>(i,a.eval x))=(ps.map (·.1)).zip (parts.map fun p=>a.eval p.2)/\VRs I V (ps.map fun p=>p.2.ev tm) (parts.map fun p=>a.eval p.2)/\ps.length=parts.length
 | [],ps,h=>by simp only[Zii,Xb]at h;subst h;exact⟨rfl,by simp[VRs],rfl⟩
 |(i,x)::r,ps,h=>by
  simp only[Zii]at h
  split at h
  ·rename_i y ps' hy hps
   injection h with h;subst h
   obtain⟨h1,h2,h3⟩:=Zs8 T hps
   refine⟨by simp[h1],?_,by simp[h3]⟩
   simp only[Xu,VRs]
   exact⟨_,_,rfl,Zay T hy,h2⟩
  ·cases h
theorem Zj0{t:TypeId}{k bytes:Nat}{z:AVal}(h:Zf3 P t=some (k,bytes,z)):∃ e i v,P.underlying t=some (.slice e)/\P.info? e=some i/\i.size=k/\i.bytes=bytes/\i.zero=some v/\Zir v=some z/\0<k/\0<bytes/\z.cells.length=k:=by
 unfold Zf3 at h
 split at h
 ·rename_i e hu
  split at h
  ·rename_i i z' hi hz
   split at h
   ·rename_i hc
    simp only[Xb,Xe]at h
    obtain⟨rfl,rfl,rfl⟩:=h
    unfold Zer at hz
    grind
   ·cases h
  ·cases h
 ·cases h
theorem ZSr{k:Nat}{xs:List AVal}{us:Array Value}(hk:∀ x∈xs,x.cells.length=k)(hv:VRs I V (xs.flatMap AVal.cells) us.toList)(hI:I.le (I.add w.heap.size us)):LR (I.add w.heap.size us) V k xs w.heap.size 0 :=
 ZjK hk (VRs.mono hI (Bmap.le.refl V) _ _ hv) (fun j u hu=>by simp only[Imm.add,XF,if_true];grind)
theorem ZUt{a:Act}(T:TR I V tm a.tmps)(R:Rel base w0 I0 I V G w)(hb:KLt base w0){t:TypeId}{n:Nat}{parts:Array (Nat×Operand)}{k bytes:Nat}{z:AVal}{own:Bool}{ps:List (Nat×Opd)}(he:Zf3 P t=some (k,bytes,z))(hn:n*k<=16777216)(hps:Zii parts.toList=some ps)
  {sq:Nat} (hs:own=true->G[sq]?=some .free) {O:ZS} {pure':Nat->Bool} {r:AVal} {c:Cls} (h:execI O pure' tm G sq (.bslice own k n z ps)=some (r,G',c)) :
  ∃ u w',(Instr.buildSlice t n (parts.map fun(i,x)=>(i,a.eval x))).run P w=.ok u w'/\Post base w0 I0 I V r G' u w':=by
 obtain⟨e,i,v,hu,hi,hik,hib,hv,hz,hk,hby,hzl⟩:=Zj0 he
 obtain⟨hz1,hz2⟩:=Zgr (I:=I) (V:=V) hz
 simp only[execI]at h
 split at h
 ·cases h
 rename_i ys ts hview
 split at h
 case isFalse=>cases h
 rename_i hc
 simp only[Xk,Xy,beq_iff_eq,decide_eq_true_eq]at hc
 obtain⟨⟨hy,hidx⟩,_⟩:=hc
 obtain⟨c1,c2,c3⟩:=Zs8 (a:=a) T hps
 obtain⟨I1,hI1,R1,hal,_,hfz,_,hoth,_⟩:=Zh3 ts R
 obtain⟨v1,v2⟩:=ZtP R1 (hfz (Znw hview)) (by rw[hal.viewAs];exact hview) (c2.mono hI1 (Bmap.le.refl V) _ _)
 have hyl:(ps.map (·.1)).length=ys.length:=by rw[ZaO v1];simp[c3]
 obtain⟨cells',g1,g2,g3,g4,g5⟩:=ZrT (I:=I1) (V:=V) (k:=k) (is:=ps.map (·.1)) (ys:=ys) (vs:=parts.toList.map fun p=>a.eval p.2) (xs:=XI n z) (cells:=(WQ (n*k)).map (v.cells[· % v.cells.size]!)) hyl (fun y hy=>ZGo (v2 y hy)) v1 hy
  (by grind) (by grind) (Znv (Zgt hz) (hz1.mono hI1 (Bmap.le.refl V) _ _) hzl hk n)
 have hrun:(Instr.buildSlice t n (parts.map fun(i,x)=>(i,a.eval x))).run P w=.ok (.slice (some ⟨w.heap.size,0,none⟩) n n) { w with heap:=w.heap.push (.cells cells' e) }:=by
  have hpl:(parts.map fun(i,x)=>(i,a.eval x)).toList=(ps.map (·.1)).zip (parts.toList.map fun p=>a.eval p.2):=by rw[<-c1];simp
  have hle:¬16777216<n*i.size:=by rw[hik];omega
  have hle':¬2^24<n*k:=by omega
  by_cases hn0:n*k=0
  ·have hr0:WQ 0=#[]:=rfl
   have g1':Instr.fill (fun i=>some (i*k,k)) #[] ((ps.map (·.1)).zip (parts.toList.map fun p=>a.eval p.2))=some cells':=by
    rw[hn0,hr0]at g1;simpa using g1
   simp only[Instr.buildSlice,Sem.run_bind,run_underlying hu,Result.andThen_ok,sizeOf,typeInfo,run_program,hi,Sem.run_pure,Sem.run_ite,hik,hn0,hpl]
   simp[hr0,g1',newRow]
  ·simp only[Instr.buildSlice,Sem.run_bind,run_underlying hu,Result.andThen_ok,sizeOf,typeInfo,run_program,hi,Sem.run_pure,Sem.run_ite,hik,hn0,hpl,zeroValue,hv,if_false]
   simp[show¬16777216<n*k by omega,g1,newRow]
 have htree:Zaq (((ps.map (·.1)).zip ys).foldl (fun l p=>l.set p.1 p.2) (XI n z))=true:=by
  have aux:∀ (l:List (Nat×AVal)) (xs:List AVal),(∀ p∈l,ZaK p.2.cells=true)->Zaq xs=true->Zaq (l.foldl (fun l p=>l.set p.1 p.2) xs)=true:=by
   intro l
   induction l with
   |nil=>grind
   |cons p l ih =>
    intro xs hp hx
    refine ih _ (fun q hq=>hp q (by simp[hq])) ?_
    rw[ZdG]at hx ⊢
    intro x hm
    rcases WN hm with hm |rfl
    ·exact hx x hm
    ·exact hp p (by simp)
  refine aux _ _ (fun p hp=>v2 p.2 (List.of_mem_zip hp).2) ?_
  rw[ZdG];intro x hx;rw[WA hx];exact hz2
 have hcs:cells'.size=n*k:=by rw[g5];simp
 have hn63:n<=9223372036854775807:=by
  have : n*1<=n*k:=Xae n hk
  omega
 generalize ((ps.map (·.1)).zip ys).foldl (fun l p=>l.set p.1 p.2) (XI n z)=xs at *
 have hxl:xs.length=n:=by rw[g4];simp
 split at h
 ·rename_i ho
  simp only[Xb,Xe]at h
  obtain⟨rfl,rfl,rfl⟩:=h
  have hs1:(Zv G ts)[sq]?=some .free:=by
   refine hoth sq _ ?_ (hs ho)
   intro hm
   obtain⟨g,k',xs',hx |hx⟩:=Znw hview sq hm<;>grind
  obtain⟨R',hle⟩:=R1.newOwn hb hs1 cells' e (.row 0 k xs) k n (Xt ⟨xs,rfl,hk,hn63,by omega,htree,g3,hcs,by rw[XG (by simp[hcs,hxl])];exact g2⟩)
  refine⟨_,_,hrun,Post.mk hI1 hle R' ?_⟩
  rw[Zcl]
  exact⟨_,Bmap.put_same V sq 0 _,XH _,hn63,Xq ⟨_,rfl,rfl⟩⟩
 ·simp only[Xb,Xe]at h
  obtain⟨rfl,rfl,rfl⟩:=h
  obtain⟨R',hI⟩:=R1.newImm hb cells' e (0,0)
  refine⟨_,_,hrun,Post.mk (hI1.trans hI) (Bmap.le.refl V) R' ?_⟩
  simp only[VR]
  refine⟨some ⟨w.heap.size,0,none⟩,n,by rw[hxl],by omega,hn63,fun _=>hxl.symm,?_,htree⟩
  by_cases hx0:xs=[]
  ·grind
  ·exact Xt ⟨w.heap.size,0,k,rfl,hk,ZSr g3 g2 hI⟩
theorem ZJ6{a:Act}(T:TR I V tm a.tmps)(R:Rel base w0 I0 I V G w)(hb:KLt base w0){t:TypeId}{n:Nat}{parts:Array (Nat×Operand)}{k bytes:Nat}{z:AVal}{ps:List (Nat×Opd)}(he:Zf3 P t=some (k,bytes,z))(hn:n*k<=16777216)(hps:Zii parts.toList=some ps)
  {sq:Nat} (hs:G[sq]?=some .free) {O:ZS} {pure':Nat->Bool} {r:AVal} {c:Cls} (h:execI O pure' tm G sq (.rslice k n z ps)=some (r,G',c)) :
  ∃ u w',(Instr.buildSlice t n (parts.map fun(i,x)=>(i,a.eval x))).run P w=.ok u w'/\Post base w0 I0 I V r G' u w':=by
 obtain⟨e,i,v,hu,hi,hik,hib,hv,hz,hk,hby,hzl⟩:=Zj0 he
 obtain⟨hz1,hz2⟩:=Zgr (I:=I) (V:=V) hz
 simp only[execI]at h
 split at h
 case isFalse=>cases h
 rename_i hc
 simp only[Xk,Xy,beq_iff_eq,decide_eq_true_eq]at hc
 obtain⟨⟨⟨hy0,hidx⟩,_⟩,hzok⟩:=hc
 obtain⟨c1,c2,c3⟩:=Zs8 (a:=a) T hps
 have hzip:(ps.map (·.1)).zip (ps.map fun p=>p.2.ev tm)=ps.map fun p=>(p.1,p.2.ev tm):=by
  rw[List.zip_map']
 have hy:∀ y∈ps.map (fun p=>p.2.ev tm),y.cells.length=k:=by
  intro y hy
  obtain⟨p,hp,rfl⟩:=X7.1 hy
  exact(hy0 p hp).1
 have hyok:∀ y∈ps.map (fun p=>p.2.ev tm),∀ c∈y.cells,ZY c=true:=by
  intro y hy
  obtain⟨p,hp,rfl⟩:=X7.1 hy
  exact(hy0 p hp).2
 have hntop:∀ y∈ps.map (fun p=>p.2.ev tm),y≠.top:=by
  intro y hy e
  have:=hyok y hy
  rw[e]at this
  have:=this .top (by simp[AVal.cells])
  cases this
 obtain⟨cells',g1,g2,g3,g4,g5⟩:=ZrT (I:=I) (V:=V) (k:=k) (is:=ps.map (·.1)) (ys:=ps.map fun p=>p.2.ev tm) (vs:=parts.toList.map fun p=>a.eval p.2) (xs:=XI n z) (cells:=(WQ (n*k)).map (v.cells[· % v.cells.size]!)) (by simp) hntop c2 hy
  (by grind) (by grind) (Znv (Zgt hz) hz1 hzl hk n)
 have hrun:(Instr.buildSlice t n (parts.map fun(i,x)=>(i,a.eval x))).run P w=.ok (.slice (some ⟨w.heap.size,0,none⟩) n n) { w with heap:=w.heap.push (.cells cells' e) }:=by
  have hpl:(parts.map fun(i,x)=>(i,a.eval x)).toList=(ps.map (·.1)).zip (parts.toList.map fun p=>a.eval p.2):=by rw[<-c1];simp
  have hle:¬16777216<n*i.size:=by rw[hik];omega
  have hle':¬2^24<n*k:=by omega
  by_cases hn0:n*k=0
  ·have hr0:WQ 0=#[]:=rfl
   have g1':Instr.fill (fun i=>some (i*k,k)) #[] ((ps.map (·.1)).zip (parts.toList.map fun p=>a.eval p.2))=some cells':=by
    rw[hn0,hr0]at g1;simpa using g1
   simp only[Instr.buildSlice,Sem.run_bind,run_underlying hu,Result.andThen_ok,sizeOf,typeInfo,run_program,hi,Sem.run_pure,Sem.run_ite,hik,hn0,hpl]
   simp[hr0,g1',newRow]
  ·simp only[Instr.buildSlice,Sem.run_bind,run_underlying hu,Result.andThen_ok,sizeOf,typeInfo,run_program,hi,Sem.run_pure,Sem.run_ite,hik,hn0,hpl,zeroValue,hv,if_false]
   simp[show¬16777216<n*k by omega,g1,newRow]
 rw[hzip]at g2 g3 g4
 have hall:∀ x∈(ps.map fun p=>(p.1,p.2.ev tm)).foldl (fun l p=>l.set p.1 p.2) (XI n z),∀ c∈x.cells,ZY c=true:=by
  have aux:∀ (l:List (Nat×AVal)) (xs:List AVal),(∀ p∈l,∀ c∈p.2.cells,ZY c=true)->(∀ x∈xs,∀ c∈x.cells,ZY c=true)->∀ x∈l.foldl (fun l p=>l.set p.1 p.2) xs,∀ c∈x.cells,ZY c=true:=by
   intro l
   induction l with
   |nil=>grind
   |cons p l ih =>
    intro xs hp hx
    refine ih _ (fun q hq=>hp q (by simp[hq])) ?_
    grind
  refine aux _ _ (fun p hp=>?_) (fun x hx=>by grind)
  obtain⟨q,hq,rfl⟩:=X7.1 hp
  exact(hy0 q hq).2
 have hcs:cells'.size=n*k:=by rw[g5];simp
 have hn63:n<=9223372036854775807:=by
  have : n*1<=n*k:=Xae n hk
  omega
 generalize (ps.map fun p=>(p.1,p.2.ev tm)).foldl (fun l p=>l.set p.1 p.2) (XI n z)=xs at *
 have hxl:xs.length=n:=by rw[g4];simp
 simp only[Xb,Xe]at h
 obtain⟨rfl,rfl,rfl⟩:=h
 obtain⟨R',hle⟩:=R.newObj hb hs (.cells cells' e) (.rrow 0 k xs) k n (by simp[ZJ,Bmap.put_same]) rfl (by simp)
  ⟨_,Bmap.put_same V sq 0 _,rfl,hk,hn63,by grind,fun x hx=>⟨g3 x hx,hall x hx⟩,w.heap.size,cells',e,rfl,by simp,hcs,by rw[XG (by grind)];exact VRs.mono (Imm.le.refl I) (Bmap.put_le (R.free sq 0 hs)) _ _ g2⟩
 refine⟨_,_,hrun,Post.mk (Imm.le.refl I) hle R' ?_⟩
 rw[Zcl]
 exact⟨_,Bmap.put_same V sq 0 _,XH _,hn63,Xq ⟨_,rfl,rfl⟩⟩
theorem ZJO(R:Rel base w0 I0 I V G w){t ty:TypeId}{k bytes:Nat}{z:AVal}(he:Zf3 P t=some (k,bytes,z)){x r:AVal}{v:Value}(hx:VR I V x v){c:Cls}(h:Zoi G k z x=some (r,G',c)) :
  ∃ u w',(Builtin.clear_ #[t] ty #[v]).run P w=.ok u w'/\Post base w0 I0 I V r G' u w':=by
 obtain⟨e,i,vz,hu,hi,hik,hib,hvz,hz,hk,hby,hzl⟩:=Zj0 he
 obtain⟨hz1,hz2⟩:=Zgr (I:=I) (V:=V) hz
 unfold Zoi at h
 split at h
 case h_2=>cases h
 rename_i t' g lo n
 split at h
 case h_2=>cases h
 rename_i g' k' xs hs
 split at h
 case isFalse=>cases h
 rename_i hc
 obtain⟨rfl,rfl,hle,_⟩:=hc
 simp only[Xb,Xe]at h
 obtain⟨rfl,rfl,rfl⟩:=h
 have Zja:VR I V (.tup []) (.tuple #[]):=by simp[VR,VRs]
 by_cases hn:n=0
 ·subst hn
  have hsame:G.set t' (.row g' k' (xs.take lo++XI 0 z++xs.drop (lo+0)))=G:=by
   have : xs.take lo++XI 0 z++xs.drop (lo+0)=xs:=by simp
   rw[this]
   apply Wy
   intro j
   rw[XO]
   split
   ·grind
   ·rfl
  rw[hsame]
  refine⟨.tuple #[],w,?_,Post.here R Zja⟩
  simp only[VR]at hx
  obtain⟨bi,_,_,_,hv⟩:=hx
  rcases hv with⟨b,_,rfl⟩ |⟨_,_,A,rfl⟩ |⟨_,_,_,A,rfl⟩
  ·simp[Builtin.clear_,run_underlying hu]
  ·cases A<;>simp[Builtin.clear_,run_underlying hu]
  ·cases A<;>simp[Builtin.clear_,run_underlying hu]
 ·obtain⟨bi,e1,e2,e3,e4,e5,e6,e7,e8⟩:=R.blk _ _ hs
  subst e2
  simp only[VR]at hx
  obtain⟨bi',f1,f2,f3,f4⟩:=hx
  rw[e1]at f1
  injection f1 with f1
  subst f1
  have hown:ZJ V t' (.row g' bi.k xs)=bi.b:=by simp[ZJ,e1]
  rcases e8 with⟨_,hz0⟩ |⟨b,us,ty0,hbb,e8,e9,e10⟩
  ·omega
  have hv0:v=.slice (some ⟨b,lo*bi.k,none⟩) n (bi.cap-lo):=by
   rcases f4 with⟨b',eb,rfl⟩ |⟨_,hz0,_⟩ |⟨_,_,hn0,_⟩
   ·rw[hbb]at eb;injection eb with eb;subst eb;rfl
   ·omega
   ·exact absurd hn0 hn
  subst hv0
  have hrep:=Znv (I:=I) (V:=V) (Zgt hz) hz1 hzl hk n
  have hvl:=Zh0 (Zgt hz) hz1
  have hzc:Builtin.zeroCells vz.cells n=(WQ (n*bi.k)).map (vz.cells[· % vz.cells.size]!):=by
   unfold Builtin.zeroCells
   grind
  have hlen:((WQ (n*bi.k)).map (vz.cells[· % vz.cells.size]!)).toList.length=n*bi.k:=by simp
  have hone:∀ v∈((WQ (n*bi.k)).map (vz.cells[· % vz.cells.size]!)).toList,v.oneCell'=true:=Zih (fun y hy=>by
   obtain⟨q,hq,hy⟩:=Wr.1 hy
   rw[WA hq]at hy
   exact Zka (Zd0.1 hz2 y hy)) hrep
  have hmul:(lo+n)*bi.k<=us.size:=by rw[e9];exact Wd _ f2
  have hmul2:(lo+n)*bi.k<=xs.length*bi.k:=Wd _ hle
  rw[We]at hmul hmul2
  have hst:=run_storeCells_at (P:=P) b (lo*bi.k) ty0 _ 0 us w e8 (by grind) hone
  simp only[X6]at hst
  refine⟨.tuple #[],_,?_,Post.here (R.write hs (b:=b) (by grind) (by simp[ZJ,e1,hbb]) (us.toList.take (lo*bi.k)++((WQ (n*bi.k)).map (vz.cells[· % vz.cells.size]!)).toList++us.toList.drop (lo*bi.k+((WQ (n*bi.k)).map (vz.cells[· % vz.cells.size]!)).toList.length)).toArray ?_ rfl) Zja⟩
  ·obtain⟨m,rfl⟩:∃ m,n=m+1:=⟨n-1,by omega⟩
   simp only[Builtin.clear_,zeroValue,typeInfo,hi,hvz,hzc,run_underlying hu,Sem.run_bind,Sem.run_pure,Result.andThen_ok,List.getElem?_toArray,XK,run_program]
   rw[hst]
   rfl
  ·have hxl:(xs.take lo++XI n z++xs.drop (lo+n)).length=xs.length:=by simp;omega
   refine⟨bi,e1,rfl,e3,e4,by grind,?_,?_,Xt ⟨b,_,ty0,hbb,setRow_heap w b us _ ty0 (0,0) e8,?_,?_⟩⟩
   ·exact Zie (Zie (ZkZ e6 lo) (by rw[ZdG];intro x hx;rw[WA hx];exact hz2)) (Zkg e6 _)
   ·grind
   ·grind
   ·rw[hxl,Zgl,Zgl,<-Zkf e7,<-Zi6 e7]
    have h1:=Zgi e10 (lo*bi.k)
    have h2:=Zgm e10 ((lo+n)*bi.k)
    have:=Zc3 (Zc3 h1 hrep) h2
    refine cast ?_ this
    congr 1
    rw[XaG,XaD (by omega),Xaj]
    rw[We]
    apply Wy
    intro j
    simp only[WU,X4,WF,XM,WK,XU,hlen]
    grind
theorem ZBE(R:Rel base w0 I0 I V G w)(hb:KLt base w0){t:TypeId}(ht:P.underlying t=some .string){l:List UInt8}{sq:Nat}(hs:G[sq]?=some .free) :
  ∃ u w',(Instr.range t (.string ⟨l.toArray⟩)).run P w=.ok u w'/\Post base w0 I0 I V (.ref sq 0) (G.set sq (.siter l 0)) u w':=by
 obtain⟨R',hle⟩:=R.newObj hb hs (.stringIter ⟨l.toArray⟩ 0) (.siter l 0) 1 1 (by simp[ZJ,Bmap.put_same]) rfl (by simp)
  ⟨_,_,_,Bmap.put_same V sq 0 _,by simp⟩
 refine⟨.pointer (some ⟨w.heap.size,0,none⟩),_,?_,Post.mk (Imm.le.refl I) hle R' ?_⟩
 ·simp[Instr.range,run_underlying ht]
 ·simp only[VR]
  exact⟨_,_,_,Bmap.put_same V sq 0 _,rfl⟩
theorem ZMZ(R:Rel base w0 I0 I V G w){t:Nat}{l:List UInt8}{p:Nat}(hs:G[t]?=some (.siter l p)){v:Value}(hv:VR I V (.ref t 0) v)(ty:TypeId) :
  ∃ u w',(Instr.next v true ty).run P w=.ok u w'/\(if p<l.length then Post base w0 I0 I V (.tup [.bool true,.int .i64 p,.int .i32 (ZgC l p).1]) (G.set t (.siter l (p+(ZgC l p).2))) u w' else Post base w0 I0 I V (.tup [.bool false]) G u w'):=by
 simp only[VR]at hv
 obtain⟨b,k,c,hb,rfl⟩:=hv
 obtain⟨b',k',c',e1,e2⟩:=R.blk _ _ hs
 rw[hb]at e1
 simp only[Xb,BI.mk.injEq]at e1
 obtain⟨rfl,rfl,rfl⟩:=e1
 have hg:(getObj b).run P w=.ok (.stringIter ⟨l.toArray⟩ p) w:=by simp[getObj,Sem.run,e2]
 have hsz:(ByteArray.mk l.toArray).size=l.length:=by simp[Ws]
 have hlt:b<w.heap.size:=(Array.getElem?_eq_some_iff.1 e2).1
 by_cases hp:p<l.length
 ·have hso:∀ o,(setObj b o).run P w=.ok () { w with heap:=w.heap.setIfInBounds b o }:=by intro o;simp[setObj,Sem.run,e2]
  refine⟨.tuple #[.bool true,goInt p,.int .i32 (ZgC l p).1],{ w with heap:=w.heap.setIfInBounds b (.stringIter ⟨l.toArray⟩ (p+(ZgC l p).2)) },?_,?_⟩
  ·simp[Instr.next,hg,hsz,hp,hso,ZgC]
  ·rw[if_pos hp]
   refine Post.here (R.putObj hs (by simp[ZJ,hb]) (by simp[ZJ,hb]) _ ⟨b,k,c,hb,?_⟩ rfl) ?_
   ·grind
   ·simp[VR,VRs,goInt]
 ·refine⟨.tuple #[.bool false],w,?_,?_⟩
  ·simp[Instr.next,hg,hsz,hp]
  ·rw[if_neg hp]
   refine Post.here R ?_
   simp[VR,VRs]
theorem ZO1(R:Rel base w0 I0 I V G w)(hb:KLt base w0){t:TypeId}{k bytes:Nat}{z:AVal}(he:Zf3 P t=some (k,bytes,z)){l c:Int}(h0:0<=l)(h1:l<=c)(h2:c<=9223372036854775807)(h3:bytes*c<=140737488355328){sq:Nat}(hs:G[sq]?=some .free) :
  ∃ u w',(Instr.makeSlice t (.int .i64 l) (.int .i64 c)).run P w=.ok u w'/\Post base w0 I0 I V (.sl sq 0 0 l.toNat) (G.set sq (.row 0 k (XI c.toNat z))) u w':=by
 obtain⟨e,i,v,hu,hi,hik,hib,hv,hz,hk,hby,hzl⟩:=Zj0 he
 obtain⟨hz1,hz2⟩:=Zgr (I:=I) (V:=V) hz
 have wl:IntKind.i64.wrap l=l:=by rw[IntKind.wrap_i64];omega
 have wc:IntKind.i64.wrap c=c:=by rw[IntKind.wrap_i64];omega
 have hc0:¬c<0:=by omega
 have hbc:¬(281474976710656:Int)<bytes*c:=by omega
 have hl0:¬l<0:=by omega
 have hlc:¬c<l:=by omega
 have hvl:=Zh0 (Zgt hz) hz1
 have hrep:=Znv (Zgt hz) hz1 hzl hk c.toNat
 have husz:((WQ (c.toNat*k)).map (v.cells[· % v.cells.size]!)).size=c.toNat*k:=by simp
 obtain⟨R',hle⟩:=R.newOwn hb hs ((WQ (c.toNat*k)).map (v.cells[· % v.cells.size]!)) e (.row 0 k (XI c.toNat z)) k c.toNat (Xt ⟨_,rfl,hk,by omega,by simp,by rw[ZdG];intro x hx;rw[WA hx];exact hz2,by intro x hx;rw[WA hx];exact hzl,husz,by rw[XG (by simp)];exact hrep⟩)
 refine⟨.slice (some ⟨w.heap.size,0,none⟩) l.toNat c.toNat,_,?_,Post.mk (Imm.le.refl I) hle R' ?_⟩
 ·by_cases hn0:c.toNat*k=0
  ·have hr0:WQ 0=#[]:=rfl
   simp[Instr.makeSlice,run_underlying hu,asInt,asIntOf,typeInfo,hi,hib,wl,wc,sizeOf,hik,hn0,hc0,hbc,hl0,hlc,newRow,hr0]
  ·simp[Instr.makeSlice,run_underlying hu,asInt,asIntOf,typeInfo,hi,hib,wl,wc,sizeOf,hik,hn0,hc0,hbc,hl0,hlc,newRow,zeroValue,hv]
 ·rw[Zcl]
  exact⟨_,Bmap.put_same V sq 0 _,by simp;omega,by simp;omega,Xq ⟨_,rfl,rfl⟩⟩
theorem ZHo{t e:TypeId}(hu:P.underlying t=some (.slice e))(he:P.underlying e=some (.int .u8))(R:Rel base w0 I0 I V G w){t' g k lo n:Nat}{xs:List AVal}(hs:G[t']?=some (.row g k xs))(hn:lo+n<=xs.length)(h0:0<n){v:Value}(hx:VR I V (.sl t' g lo n) v) :
  ∃ w',(convert t t v).run P w=.ok v w'/\Post base w0 I0 I V (.lst false ((xs.drop lo).take n)) (G.set t' (.frow g k xs)) v w':=by
 have hsl:t'<G.length:=(Xn.1 hs).1
 have hx0:=hx
 simp only[VR]at hx
 obtain⟨bi,f1,f2,f3,f4⟩:=hx
 obtain⟨bi',h1,h2,h3,h4,h5,h6,h7,h8⟩:=R.blk _ _ hs
 rw[f1]at h1;injection h1 with h1;subst h1
 rcases f4 with⟨b,hbb,rfl⟩ |⟨_,hc,_⟩ |⟨_,_,hz,_⟩
 ·rcases h8 with⟨h8,_⟩ |⟨b',us,ty,eb,h8,h9,h10⟩
  ·grind
  rw[hbb]at eb;injection eb with eb;subst eb
  have hown:ZJ V t' (.row g k xs)=some b:=by simp[ZJ,f1,hbb]
  have ho:=R.own t' _ b hs hown
  let w':World:=w.freeze ⟨b,us.size,none⟩ 1
  have hhb:w'.heap[b]?=some (.cells us ty (us.size,us.size+1)):=by
   simp only[w',World.freeze,Nat.one_ne_zero,if_false,XaI,if_true,h8,X9]
   simp
  have hho:∀ b',b'≠b->w'.heap[b']?=w.heap[b']?:=by
   intro b' hne
   simp only[w',World.freeze,Nat.one_ne_zero,if_false,XaI]
   grind
  have hsz:w'.heap.size=w.heap.size:=by simp[w',World.freeze]
  let I':Imm:={ im:=fun b' o=>if b'=b/\o<xs.length*k then us[o]? else I b' o,ln:=I.ln }
  have hle:I.le I':=by
   refine⟨fun b' o u hu=>?_,rfl⟩
   have : b'≠b:=by rintro rfl;rw[ho.2 o]at hu;cases hu
   simp only[I',this,false_and,if_false]
   exact hu
  have R':Rel base w0 I0 I' V (G.set t' (.frow g k xs)) w':=by
   refine R.upd hle (Bmap.le.refl V) ⟨rfl,rfl,rfl,by grind,fun q hq=>hho q (by grind)⟩ ?_ ?_ t' _ rfl hsl (fun _ _ _=>rfl) ?_ ?_ (fun b e=>by cases e) (fun g' hg=>R.gen t' _ g' hs (by simpa[Zm]using hg)) (by simp)
   ·grind
   ·intro b' o u hu
    simp only[I']at hu
    split at hu
    ·rename_i hc
     rw[hc.1,Zg5 hhb];exact hu
    ·have:=R.imm _ _ _ hu
     have hne:b'≠b:=by rintro rfl;rw[ho.2 o]at hu;cases hu
     rw[<-this]
     simp only[World.cell?,hho b' hne]
   ·intro t'' x b' hne hx hb'
    have hbb':b'≠b:=by rintro rfl;exact hne (R.apart t'' x t' _ b' hx hs hb' hown)
    refine⟨hho b' hbb',fun o=>?_,by simp[ZJ]⟩
    simp only[I',hbb',false_and,if_false]
    exact(R.own t'' x b' hx hb').2 o
   ·refine⟨bi,f1,h2,h3,h4,h5,h6,Xt ⟨b,hbb,?_⟩⟩
    refine ZjK h7 (VRs.mono hle (Bmap.le.refl V) _ _ h10) (fun j u hu=>?_)
    grind
  refine⟨w',?_,Post.mk hle (Bmap.le.refl V) R' (Zrx R' (by rw[XO,if_pos rfl,if_pos hsl]) hn (hx0.mono hle (Bmap.le.refl V) _ _))⟩
  have hshape:w.shape? b=some (ty,us.size):=by simp[World.shape?,h8]
  simp[convert,run_underlying hu,run_underlying he,markStringish,hshape,w']
 ·omega
 ·omega
end
end
section
open Go.RowKit
section
variable {base:Nat->Prop}{w0 w w':World}{I0 I I':Imm}{V V':Bmap}{G G':Za}{C:Rho}
def ZhM(C:Rho)(V V':Bmap):Prop:=∀ t g t' g' bi,C t g=some (t',g')->V t g=some bi->V' t' g'=some bi
mutual
theorem ZjB(hC:ZhM C V V'):∀ (x:AVal) (v:Value),VR I V x v->VR I V' (Zp C x) v
 | .top,_,h=>by simp only[Zp,VR]
 | .any,_,h=>by simpa only[Zp,VR]using h
 | .int _ _,_,h=>by simpa only[Zp,VR]using h
 | .bool _,_,h=>by simpa only[Zp,VR]using h
 | .str _,_,h=>by simpa only[Zp,VR]using h
 | .nilp,_,h=>by simpa only[Zp,VR]using h
 | .nilm,_,h=>by simpa only[Zp,VR]using h
 | .nili,_,h=>by simpa only[Zp,VR]using h
 | .lnt _,_,h=>by simpa only[Zp,VR]using h
 | .pan _,_,h=>by simp only[VR]at h
 | .iface t x,_,h=>by
  simp only[Zp,VR]at h⊢
  obtain⟨u,h1,h2⟩:=h
  exact⟨u,h1,ZjB hC x u h2⟩
 | .ref t o,_,h=>by
  simp only[VR]at h
  obtain⟨b,k,c,h1,h2⟩:=h
  simp only[Zp]
  split
  ·rename_i t' e
   simp only[VR]
   exact⟨b,k,c,hC _ _ _ _ _ e h1,h2⟩
  ·subst h2;simp only[VR];exact⟨rfl,rfl⟩
 | .map t,_,h=>by
  simp only[VR]at h
  obtain⟨b,k,c,h1,h2⟩:=h
  simp only[Zp]
  split
  ·rename_i t' e
   simp only[VR]
   exact⟨b,k,c,hC _ _ _ _ _ e h1,h2⟩
  ·subst h2;simp only[VR];exact⟨rfl,rfl⟩
 | .eref t g i o,_,h=>by
  simp only[VR]at h
  obtain⟨b,k,c,h1,h2⟩:=h
  simp only[Zp]
  split
  ·rename_i t' g' e
   simp only[VR]
   exact⟨b,k,c,hC _ _ _ _ _ e h1,h2⟩
  ·subst h2;simp only[VR];exact⟨rfl,rfl⟩
 | .sl t g lo n,_,h=>by
  simp only[VR]at h
  obtain⟨bi,h1,h2,h3,h4⟩:=h
  simp only[Zp]
  split
  ·rename_i t' g' e
   simp only[VR]
   exact⟨bi,hC _ _ _ _ _ e h1,h2,h3,h4⟩
  ·simp only[VR]
   rcases h4 with⟨_,_,rfl⟩ |⟨_,_,_,rfl⟩ |⟨_,_,_,_,rfl⟩<;>exact⟨rfl,rfl⟩
 | .iptr cs o,_,h=>by
  simp only[Zp,VR]at h⊢
  obtain⟨b,off,h1,h2,h3⟩:=h
  exact⟨b,off,h1,CR.of_tree h3 h2,h3⟩
 | .lst x xs,_,h=>by
  simp only[Zp,VR]at h⊢
  obtain⟨A,cap,h1,h2,h3,h4,h5,h6⟩:=h
  refine⟨A,cap,h1,h2,h3,h4,?_,h6⟩
  rcases h5 with h5 |⟨b,off,k,e,hk,h5⟩
  ·grind
  ·exact Xt ⟨b,off,k,e,hk,(LR.tree k xs b off h6 h5).mono (Imm.le.refl I) (ZhA V') _ _ _ _⟩
 | .agg cs,_,h=>by
  simp only[Zp,VR]at h⊢
  obtain⟨us,h1,h2⟩:=h
  exact⟨us,h1,Zg3 hC cs us.toList h2⟩
 | .tup cs,_,h=>by
  simp only[Zp,VR]at h⊢
  obtain⟨us,h1,h2⟩:=h
  exact⟨us,h1,Zg3 hC cs us.toList h2⟩
 | .fn f cs,_,h=>by
  simp only[Zp,VR]at h⊢
  obtain⟨fs,us,h1,h0,h2⟩:=h
  exact⟨fs,us,h1,h0,Zg3 hC cs (fs.toList++us.toList) h2⟩
theorem Zg3(hC:ZhM C V V'):∀ (xs:List AVal) (vs:List Value),VRs I V xs vs->VRs I V' (Zj C xs) vs
 | [],_,h=>by simpa only[Zj,VRs]using h
 |x::xs,_,h=>by
  simp only[Zj,VRs]at h⊢
  obtain⟨v,vs',h1,h2,h3⟩:=h
  exact⟨v,vs',h1,ZjB hC x v h2,Zg3 hC xs vs' h3⟩
end
theorem ZhB:∀ (xs:List AVal),Zj C xs=xs.map (Zp C)
 | []=>rfl
 |x::xs=>by simp only[Zj,Xu,ZhB xs]
def Zfj:ZP->Bool
 | .var _ | .map _ | .siter _ _ | .opq=>true
 |_=>false
theorem Zwn(x:AVal):(Zp C x).cells=x.cells.map (Zp C):=by
 cases x with
 |agg cs=>simp only[Zp,AVal.cells,ZhB]
 |ref t o =>
  show(Zp C (.ref t o)).cells=[Zp C (.ref t o)]
  simp only[Zp]
  generalize C t 0=q
  rcases q with _ |⟨t',_ |g⟩<;>rfl
 |eref t g i o =>
  show(Zp C (.eref t g i o)).cells=[Zp C (.eref t g i o)]
  simp only[Zp]
  generalize C t g=q
  rcases q with _ |⟨t',g'⟩<;>rfl
 |sl t g i o =>
  show(Zp C (.sl t g i o)).cells=[Zp C (.sl t g i o)]
  simp only[Zp]
  generalize C t g=q
  rcases q with _ |⟨t',g'⟩<;>rfl
 |map t =>
  show(Zp C (.map t)).cells=[Zp C (.map t)]
  simp only[Zp]
  generalize C t 0=q
  rcases q with _ |⟨t',_ |g⟩<;>rfl
 |_=>simp only[Zp,AVal.cells,Xu,XC]
theorem ZSE(x:AVal):x.cells.length=(Zp C x).cells.length/\(∀ c∈(Zp C x).cells,∃ c0∈x.cells,c=Zp C c0):=by
 rw[Zwn]
 exact⟨by simp,fun c hc=>by obtain⟨c0,h0,rfl⟩:=X7.1 hc;exact⟨c0,h0,rfl⟩⟩
theorem ZTv{c:AVal}(h:ZY c=true):ZY (Zp C c)=true:=by
 cases c<;>first
  |(simp[ZY]at h;done)
  |(simp only[Zp];rfl)
  |(simp only[Zp];split<;>rfl)
theorem ZAK:∀ (xs:List AVal),(Zj C xs).flatMap AVal.cells=Zj C (xs.flatMap AVal.cells)
 | []=>rfl
 |x::xs=>by
  rw[Zj,XB,XB,ZAK xs,ZhB,ZhB,List.map_append]
  rw[Zwn]
theorem ZwG(hC:ZhM C V V'){t t':Nat}{x:ZP}{g':Nat}(hg:∀ bi,V t (Zm x)=some bi->V' t' g'=some bi)(hv:Zfj x=true->g'=0)(h:BR I V w t x):BR I V' w t' (Zz C g' x):=by
 cases x with
 |free=>trivial
 |map es =>
  obtain⟨b,k,c,arr,clk,h1,h2,h3,h4,h5,h6⟩:=h
  have e:=hv rfl
  subst e
  refine⟨b,k,c,arr,clk,hg _ h1,h2,?_,?_,?_,h6⟩
  ·rw[XaJ]
   refine VRs.of_cells (V:=V) ?_ h3
   intro x hx
   obtain⟨p,hp,rfl⟩:=X7.1 hx
   have:=h5 p hp
   show ZaK p.1.cells=true
   generalize p.1=q at this ⊢
   cases q<;>simp[ZlN]at this<;>rfl
  ·have:=Zg3 hC _ _ h4
   rw[ZhB,XaJ]at this
   rw[XaJ]
   exact this
  grind
 |opq =>
  obtain⟨bi,h⟩:=h
  have e:=hv rfl
  subst e
  exact⟨bi,hg _ h⟩
 |siter l p =>
  obtain⟨b,k,c,h1,h2⟩:=h
  have e:=hv rfl
  subst e
  exact⟨b,k,c,hg _ h1,h2⟩
 |rrow g k xs =>
  obtain⟨bi,h1,h2,h3,h4,h5,h6,b,us,ty,e,h8,h9,h10⟩:=h
  refine⟨bi,hg _ h1,h2,h3,h4,by rw[ZhB,XS];exact h5,?_,b,us,ty,e,h8,h9,?_⟩
  ·intro x hx
   rw[ZhB]at hx
   obtain⟨y,hy,rfl⟩:=X7.1 hx
   obtain⟨q1,q2⟩:=ZSE (C:=C) y
   refine⟨by grind,fun c hc=>?_⟩
   obtain⟨c0,hc0,rfl⟩:=q2 c hc
   exact ZTv ((h6 y hy).2 c0 hc0)
  ·rw[ZAK,show(Zj C xs).length=xs.length by rw[ZhB,XS]]
   exact Zg3 hC _ _ h10
 |var cs =>
  obtain⟨b,k,c,us,ty,h1,h2,h3⟩:=h
  have e:=hv rfl
  subst e
  exact⟨b,k,c,us,ty,hg _ h1,h2,Zg3 hC _ _ h3⟩
 |row g k xs =>
  obtain⟨bi,h1,h2,h3,h4,h5,h6,h7,h8⟩:=h
  refine⟨bi,hg _ h1,h2,h3,h4,h5,h6,h7,?_⟩
  rcases h8 with h8 |⟨b,us,ty,e,h8,h9,h10⟩
  ·grind
  ·refine Xt ⟨b,us,ty,e,h8,h9,VRs.of_cells (V:=V) ?_ h10⟩
   intro x hx
   have:=Zd0.1 (ZnK h6) x hx
   cases x<;>simp_all[ZaN,AVal.cells,ZaK]
 |frow g k xs =>
  obtain⟨bi,h1,h2,h3,h4,h5,h6,h7⟩:=h
  refine⟨bi,hg _ h1,h2,h3,h4,h5,h6,?_⟩
  rcases h7 with h7 |⟨b,e,h7⟩
  ·grind
  ·exact Xt ⟨b,e,(LR.tree _ _ _ _ h6 h7).mono (Imm.le.refl I) (ZhA V') _ _ _ _⟩
theorem Zvn{t t' g':Nat}{x:ZP}(hg:∀ bi,V t (Zm x)=some bi->V' t' g'=some bi)(hv:Zfj x=true->g'=0)(h:BR I V w t x):ZJ V' t' (Zz C g' x)=ZJ V t x:=by
 cases x with
 |free=>rfl
 |opq=>rfl
 |map es =>
  obtain⟨b,k,c,_,_,h1,_⟩:=h
  have e:=hv rfl
  subst e
  have h2:=hg _ h1
  have h1':V t 0=some ⟨some b,k,c⟩:=h1
  simp[ZJ,Zz,h1',h2]
 |siter l p =>
  obtain⟨b,k,c,h1,_⟩:=h
  have e:=hv rfl
  subst e
  have h2:=hg _ h1
  have h1':V t 0=some ⟨some b,k,c⟩:=h1
  simp[ZJ,Zz,h1',h2]
 |rrow g k xs =>
  obtain⟨bi,h1,_⟩:=h
  have h2:=hg _ h1
  have h1':V t g=some bi:=h1
  simp[ZJ,Zz,h1',h2]
 |frow=>rfl
 |var cs =>
  obtain⟨b,k,c,us,ty,h1,_⟩:=h
  have e:=hv rfl
  subst e
  have h2:=hg _ h1
  have h1':V t 0=some ⟨some b,k,c⟩:=h1
  simp[ZJ,Zz,h1',h2]
 |row g k xs =>
  obtain⟨bi,h1,_⟩:=h
  have h2:=hg _ h1
  have h1':V t g=some bi:=h1
  simp[ZJ,Zz,h1',h2]
theorem ZxC{g':Nat}{x:ZP}(hv:Zfj x=true->g'=0)(hx:okB x=true):Zm (Zz C g' x)=g':=by
 cases x with
 |var cs=>simp[Zz,Zm,hv rfl]
 |row=>rfl
 |frow=>rfl
 |rrow=>rfl
 |map es=>simp[Zz,Zm,hv rfl]
 |siter l p=>simp[Zz,Zm,hv rfl]
 |opq=>simp[Zz,Zm,hv rfl]
 |free=>simp[okB]at hx
theorem Zuc:∀ {ids:List Nat} {t i j:Nat},ZI t ids i=some j->∃ k,j=i+k/\ids[k]?=some t
 | [],t,i,j,h=>by simp[ZI]at h
 |x::xs,t,i,j,h=>by
  simp only[ZI]at h
  split at h
  ·rename_i e;injection h with h;subst h e;grind
  ·obtain⟨k,h1,h2⟩:=Zuc h
   exact⟨k+1,by omega,by grind⟩
theorem ZyP{m:Nat}{ids:List Nat}:∀ {ts:List Nat} {j i:Nat},(Zo G m ids C ts j)[i]?=(ts[i]?).map fun t=>Zz C (ZD m (j+i) (G.getD t .free)) (G.getD t .free)
 | [],j,i=>by simp[Zo]
 |t::ts,j,0=>by simp[Zo]
 |t::ts,j,i+1=>by
  simp only[Zo,XN]
  rw[ZyP (ts:=ts) (j:=j+1) (i:=i)]
  congr 2
  funext t
  rw[show j+1+i=j+(i+1)by omega]
theorem Zpc{m:Nat}{ids:List Nat}:∀ {ts:List Nat} {j:Nat},(Zo G m ids C ts j).length=ts.length
 | [],j=>rfl
 |t::ts,j=>by simp only[Zo,Xz,Zpc]
def ZcD(G:Za)(m:Nat)(ids:List Nat)(V:Bmap):Bmap:=fun j g=>match ids[j]? with
 |some t=>match G[t]? with
  |some b=>if okB b then(if g=ZD m j b then V t (Zm b)else if j<m/\g=0 then V t 0 else none)else none
  |none=>none
 |none=>none
theorem ZsC{m:Nat}{ids:List Nat}:ZhM (Zn G m ids) V (ZcD G m ids V):=by
 intro t g t' g' bi h hb
 unfold Zn at h
 split at h
 ·rename_i j hj
  obtain⟨k,e,hk⟩:=Zuc hj
  have e':j=k:=by omega
  subst e'
  have fin:∀ b,G[t]?=some b->okB b=true->(if g=Zm b then some (j,ZD m j b)else(none:Option (Nat×Nat)))=some (t',g')->ZcD G m ids V t' g'=some bi:=by
   intro b hb' hok h
   by_cases e:g=Zm b
   ·rw[if_pos e]at h
    simp only[Xb,Xe]at h
    obtain⟨rfl,rfl⟩:=h
    unfold ZcD
    grind
   ·grind
  split at h
  ·cases h
  ·rename_i b n1 hb'
   refine fin b hb' ?_ h
   cases b with
   |free=>grind
   |map es=>rfl
   |siter=>rfl
   |opq=>rfl
   |rrow=>rfl
   |var=>rfl
   |row=>rfl
   |frow=>rfl
  ·cases h
 ·cases h
theorem ZRx{m j:Nat}{x:ZP}(h:Zfj x=true):ZD m j x=0:=by cases x<;>simp[Zfj]at h<;>simp[ZD,Zm]
theorem Rel.pick(R:Rel base w0 I0 I V G w){K':Nat->Prop}{w1:World}{I1:Imm}{m:Nat}{ids:List Nat}(hnd:ids.Nodup)(h1:KB K' w1 w)(h2:∀ b o,K' b->I b o=I1 b o)(h3:∀ t x b,t∈ids->G[t]?=some x->ZJ V t x=some b->¬K' b)(h4:GB K' w1/\Zrz K' w1 I.ln) :
  Rel K' w1 I1 I (ZcD G m ids V) (Zo G m ids (Zn G m ids) ids 0) w:=by
 have look:∀ j x',(Zo G m ids (Zn G m ids) ids 0)[j]?=some x'->∃ t,ids[j]?=some t/\(x'=.free/\(∀ g,ZcD G m ids V j g=none)\/∃ x,G[t]?=some x/\okB x=true/\x'=Zz (Zn G m ids) (ZD m j x) x/\ZcD G m ids V j (ZD m j x)=V t (Zm x)):=by
  intro j x' h
  rw[ZyP,Xo]at h
  obtain⟨t,ht,h⟩:=h
  simp only[XF]at h
  refine⟨t,ht,?_⟩
  cases hx:G[t]? with
  |none =>
   left
   have : G.getD t .free=.free:=by simp[Xh,hx]
   rw[this]at h
   exact⟨h.symm,fun g=>by simp[ZcD,ht,hx]⟩
  |some x =>
   have hd:G.getD t .free=x:=by simp[Xh,hx]
   rw[hd]at h
   by_cases hok:okB x=true
   ·exact Xt ⟨x,rfl,hok,h.symm,by simp[ZcD,ht,hx,hok]⟩
   ·left
    refine⟨?_,fun g=>by simp[ZcD,ht,hx,hok]⟩
    rw[<-h]
    cases x<;>simp_all[okB,Zz]
 have hvar:∀ (j:Nat) (x:ZP),Zfj x=true->ZD m j x=0:=fun j x h=>ZRx h
 have hown:∀ j x' b,(Zo G m ids (Zn G m ids) ids 0)[j]?=some x'->ZJ (ZcD G m ids V) j x'=some b->∃ t x,ids[j]?=some t/\G[t]?=some x/\ZJ V t x=some b:=by
  intro j x' b h hb
  obtain⟨t,ht,⟨rfl,_⟩ |⟨x,hx,hok,rfl,hV⟩⟩:=look j x' h
  ·cases hb
  ·rw[Zvn (fun bi h=>by rw[hV];exact h) (hvar j x) (R.blk t x hx)]at hb
   exact⟨t,x,ht,hx,hb⟩
 refine⟨h1,h2,R.imm,?_,?_,?_,?_,?_,?_,⟨R.glob.1,h4⟩⟩
 ·intro j x' h
  obtain⟨t,ht,⟨rfl,_⟩ |⟨x,hx,hok,rfl,hV⟩⟩:=look j x' h
  ·trivial
  ·exact ZwG ZsC (fun bi h=>by grind) (hvar j x) (R.blk t x hx)
 ·intro j x' b h hb
  obtain⟨t,x,ht,hx,hb⟩:=hown j x' b h hb
  exact⟨h3 t x b (XL ht) hx hb,(R.own t x b hx hb).2⟩
 ·intro j x j' x' b h h' hb hb'
  obtain⟨t,y,ht,hy,e⟩:=hown j x b h hb
  obtain⟨t',y',ht',hy',e'⟩:=hown j' x' b h' hb'
  have:=R.apart t y t' y' b hy hy' e e'
  subst this
  exact(List.getElem?_inj (Xn.1 ht).1 hnd).1 (ht.trans ht'.symm)
 ·intro j g h
  rw[Zpc]at h
  unfold ZcD
  grind
 ·intro j g h
  obtain⟨t,ht,⟨_,h⟩ |⟨x,hx,hok,h,hV⟩⟩:=look j _ h
  ·exact h g
  ·cases x<;>first |(simp only[okB]at hok;cases hok;done) |(simp only[Zz]at h;grind)
 ·intro j b g h hg
  obtain⟨t,ht,⟨_,h⟩ |⟨x,hx,hok,rfl,hV⟩⟩:=look j _ h
  ·exact h g
  ·rw[ZxC (hvar j x) hok]at hg
   simp only[ZcD,ht,hx,hok,if_true]
   grind
theorem ZkE:∀ (n:Nat) (todo acc:List Nat),acc.Nodup->(Zt G n todo acc).Nodup/\∃ r,Zt G n todo acc=acc++r
 |0,todo,acc,h=>⟨h,[],by simp[Zt]⟩
 |n+1,[],acc,h=>⟨h,[],by simp[Zt]⟩
 |n+1,t::todo,acc,h=>by
  simp only[Zt]
  split
  ·exact ZkE n todo acc h
  ·rename_i hc
   have hnd:(acc++[t]).Nodup:=by
    rw[List.nodup_append]
    refine⟨h,by simp,?_⟩
    intro a ha b hb
    simp only[List.mem_singleton]at hb
    subst hb
    rintro rfl
    simp[ha]at hc
   obtain⟨h1,r,h2⟩:=ZkE n (ZB (G.getD t .free)++todo) (acc++[t]) hnd
   grind
def KeptE(m:Nat)(V V':Bmap):Prop:=∀ t,t<m->∀ bi,V t 0=some bi->V' t 0=some bi
theorem KeptE.refl(m:Nat)(V:Bmap):KeptE m V V:=fun _ _ _ h=>h
theorem KeptE.trans{m:Nat}{a b c:Bmap}(h:KeptE m a b)(h':KeptE m b c):KeptE m a c:=fun t ht bi e=>h' t ht bi (h t ht bi e)
theorem KeptE.of_le{m:Nat}(h:V.le V'):KeptE m V V':=fun t _ bi e=>h t 0 bi e
theorem ZqK(R:Rel base w0 I0 I V G w)(m:Nat)(roots:List AVal):∃ V',KeptE m V V'/\Rel base w0 I0 I V' (gcA m roots G).2 w/\ZhM (Zn G m (Zw m roots G)) V V':=by
 obtain⟨hnd,r,hr⟩:=ZkE (G:=G) 1000 (Zl roots++(X5 m).flatMap fun t=>ZB (G.getD t .free)) (X5 m) List.nodup_range
 have hids:Zw m roots G=X5 m++r:=hr
 refine⟨ZcD G m (Zw m roots G) V,?_,R.pick hnd R.below R.old (fun t x b _ hx hb=>(R.own t x b hx hb).1) R.glob.2,ZsC⟩
 intro t ht bi hb
 have h1:(Zw m roots G)[t]?=some t:=by rw[hids,List.getElem?_append_left (by simpa using ht)];simp[ht]
 unfold ZcD
 simp only[h1]
 cases hx:G[t]? with
 |none =>
  have : V t 0=none:=R.fresh t 0 (by simpa using hx)
  rw[this]at hb;cases hb
 |some x =>
  simp only
  have hok:okB x=true:=by
   cases x with
   |free=>rw[R.free t 0 hx]at hb;cases hb
   |map es=>rfl
   |siter=>rfl
   |opq=>rfl
   |rrow=>rfl
   |var=>rfl
   |row=>rfl
   |frow=>rfl
  rw[if_pos hok]
  split
  ·rename_i e
   have : Zm x=0:=by
    unfold ZD at e
    by_cases h0:Zm x=0
    ·exact h0
    ·grind
   grind
  grind
theorem Zym:∀ (tm:Tms) (n:Nat),tget ((tm.map (·.1)).zip (Zj C (tm.map (·.2)))) n=Zp C (tget tm n)
 | [],n=>by simp[tget,Zp]
 |(d,v)::tm,n=>by
  simp only[Xu,Zj,List.zip_cons_cons,tget]
  split
  ·rfl
  ·exact Zym tm n
theorem ZKH(R:Rel base w0 I0 I V G w){tm:Tms}{tmps:Array Value}(T:TR I V tm tmps)(m:Nat):∃ V',KeptE m V V'/\Rel base w0 I0 I V' (gcT m tm G).2 w/\TR I V' (gcT m tm G).1 tmps:=by
 obtain⟨V',h1,h2,h3⟩:=ZqK R m (tm.map (·.2))
 refine⟨V',h1,h2,fun n=>?_⟩
 show VR I V' (tget ((tm.map (·.1)).zip (Zj _ (tm.map (·.2)))) n) _
 rw[Zym]
 exact ZjB h3 _ _ (T n)
def Ends(r:AVal)(e:Ending)(u:Value):Prop:=match r with
 | .pan _=>e=.panicked [{ v:=u,recovered:=false }]
 |_=>e=.returned u
def ZaX:AVal->AVal
 | .pan x=>x
 |x=>x
def Zb6(m:Nat)(base:Nat->Prop)(w0:World)(I0 I:Imm)(V:Bmap)(r:AVal)(G':Za)(u:Value)(w':World):Prop :=
 ∃ I' V',I.le I'/\KeptE m V V'/\Rel base w0 I0 I' V' G' w'/\VR I' V' (ZaX r) u
theorem Ends.ren{r:AVal}{e:Ending}{u:Value}(h:Ends r e u):Ends (Zp C r) e u:=by
 cases r<;>first
  |exact h
  |(simp only[Zp];split<;>exact h)
theorem Zgs{r:AVal}(h:∀ x,r≠.pan x):ZaX r=r:=by
 cases r<;>first |rfl |grind
theorem ZGk{r:AVal}(h:∀ x,r≠.pan x):∀ x,Zp C r≠.pan x:=by
 intro x
 cases r<;>first
  |(intro e;simp only[Zp]at e;grind)
  |exact absurd rfl (h _)
  |(simp only[Zp];split<;>simp)
theorem Zsq(r:AVal):ZaX (Zp C r)=Zp C (ZaX r)\/∃ x,r=.pan x:=by
 by_cases h:∃ x,r=.pan x
 ·grind
 ·have h':∀ x,r≠.pan x:=fun x e=>h ⟨x,e⟩
  exact Xq (by rw[Zgs (ZGk h'),Zgs h'])
theorem Zmj{m:Nat}{r r':AVal}{u:Value}(h:Zb6 m base w0 I0 I V r G u w)(he:ZR m G r=some (r',G')):Zb6 m base w0 I0 I V r' G' u w/\∀ e,Ends r e u->Ends r' e u:=by
 obtain⟨I1,V1,h1,h2,h3,h4⟩:=h
 obtain⟨V2,g1,g2,g3⟩:=ZqK h3 m [r]
 unfold ZR gcA at he
 simp only[Zj,Xb,Xe]at he
 obtain⟨rfl,rfl⟩:=he
 refine⟨⟨I1,V2,h1,h2.trans g1,g2,?_⟩,fun e he=>he.ren⟩
 have:=ZjB g3 _ _ h4
 rcases Zsq (C:=Zn G m (Zw m [r] G)) r with e |⟨x,rfl⟩
 ·grind
 ·exact this
theorem ZVa{m:Nat}{r r':AVal}{h h':Za}{u:Value}(hp:Zb6 m base w0 I0 I V r h u w)(he:ZbR m (some (r,h))=some (r',h')):Zb6 m base w0 I0 I V r' h' u w/\∀ e,Ends r e u->Ends r' e u:=by
 by_cases hpan:∃ x,r=.pan x
 ·obtain⟨x,rfl⟩:=hpan
  simp only[ZbR,Xb,Xe]at he
  grind
 ·have hv0:ZaX r=r:=by cases r<;>first |rfl |grind
  have hends:∀ e,Ends r e u->e=.returned u:=by
   intro e h
   cases r<;>first |exact h |grind
  have he':(match viewR h r with
   |some (r',ts)=>match gcA m [r'] (Zv h ts)with
    |([r''],G')=>some (r'',G')
    |_=>none
   |none=>none)=some (r',h'):=by
   cases r<;>first |exact he |grind
  split at he'
  ·rename_i r1 ts hview
   obtain⟨I1,V1,h1,h2,h3,h4⟩:=hp
   rw[hv0]at h4
   obtain⟨I2,k1,k2,k3,_,k5,_,_⟩:=Zh3 ts h3
   have hres:=ZGD k2 (k5 (ZLH hview)) (by rw[k3.viewR];exact hview) (h4.mono k1 (Bmap.le.refl V1) _ _)
   have hnp:∀ x,r1≠.pan x:=by rintro x rfl;simp only[VR]at hres
   have hv1:ZaX r1=r1:=by cases r1<;>first |rfl |grind
   have ho:ZR m (Zv h ts) r1=some (r',h'):=he'
   obtain⟨q1,q2⟩:=Zmj (⟨I2,V1,h1.trans k1,h2,k2,by rw[hv1];exact hres.mono (Imm.le.refl I2) (ZhA V1) _ _⟩:Zb6 m base w0 I0 I V r1 (Zv h ts) u w) ho
   refine⟨q1,fun e he=>q2 e ?_⟩
   rw[hends e he]
   cases r1<;>first |rfl |grind
  grind
end
end
section
open Go.RowKit
def ZaM(P:Program)(O:ZS):Prop:=∀ f args G r G',O f args G=some (r,G') ->
 (∃ fn,P.funcs[f]?=some fn/\fn.body.isSome=true/\(fn.name == "runtime.NumGoroutine")=false) /\
 ∀ base w0 I0 I V w (vs:Array Value),KLt base w0->Rel base w0 I0 I V G w->VRs I V args vs.toList ->
  Calls P f vs w (fun e w'=>∃ u,Ends r e u/\Zb6 G.length base w0 I0 I V r G' u w')
section
variable {P:Program}{base:Nat->Prop}{w0 w w':World}{I0 I I':Imm}{V V':Bmap}{G G':Za}{tm:Tms}
theorem ZlQ{a:Act}(T:TR I V tm a.tmps):∀ {xs:List Operand} {ys:List Opd},Zdm xs=some ys->VRs I V (ys.map fun y=>y.ev tm) (xs.map a.eval)
 | [],ys,h=>by simp only[Zdm,Xb]at h;subst h;simp[VRs]
 |x::xs,ys,h=>by
  simp only[Zdm]at h
  split at h
  ·rename_i y hy
   split at h
   ·rename_i ys' hys
    injection h with h;subst h
    simp only[Xu,VRs]
    exact⟨_,_,rfl,Zay T hy,ZlQ T hys⟩
   ·cases h
  ·cases h
theorem Zku{a:Act}(T:TR I V tm a.tmps){x:Option Operand}{y:Option Opd}(h:ZhW x=some y):OVR I V (y.map fun y=>y.ev tm) (x.map a.eval):=by
 cases x with
 |none=>simp only[ZhW,Xb]at h;subst h;rfl
 |some x =>
  simp only[ZhW,Xo]at h
  obtain⟨y',h1,rfl⟩:=h
  exact⟨_,rfl,Zay T h1⟩
theorem Zml{f:FuncId}{args:Array Value}{fn:Func}(h1:P.funcs[f]?=some fn)(h2:fn.body.isSome=true)(h3:(fn.name == "runtime.NumGoroutine")=false):(callFunc f args).run P w=.ok (.enter f args) w:=by
 have h2':fn.body.isNone=false:=by cases hb:fn.body<;>simp_all
 have h3':¬fn.name = "runtime.NumGoroutine":=by simpa using h3
 have h2'':fn.body≠none:=by cases hb:fn.body<;>simp_all
 simp[callFunc,h1,h2'',h3']
section
variable {ids:List Nat}{sq:Nat}{C:Rho}
theorem ZkP{G0:Za}{t:Nat}:∀ {h:Za} {j:Nat} {G:Za},(∀ i,i<h.length->ZaA ids sq (j+i)≠t)->(ZaQ G0 ids sq h j G)[t]?=G[t]?
 | [],j,G,_=>rfl
 |b::bs,j,G,hn=>by
  simp only[ZaQ]
  rw[ZkP (fun i hi=>by have:=hn (i+1) (by simp;omega);rwa [show j+(i+1)=j+1+i by omega]at this),XO,if_neg (by have:=hn 0 (by simp);simpa using this)]
theorem Zvu{G0:Za}:∀ {h:Za} {j i:Nat} {G:Za} {b:ZP},(∀ i i',i<h.length->i'<h.length->ZaA ids sq (j+i)=ZaA ids sq (j+i')->i=i')->h[i]?=some b->ZaA ids sq (j+i)<G.length ->
  (ZaQ G0 ids sq h j G)[ZaA ids sq (j+i)]?=some (Zz (Zak G0 ids sq) (ZbZ G0 ids (j+i) b) b)
 | [],j,i,G,b,_,h,_=>by simp at h
 |b'::bs,j,0,G,b,hinj,h,hlt=>by
  simp only[XK,Xb]at h
  subst h
  simp only[ZaQ,X6]at hlt ⊢
  rw[ZkP,XO,if_pos rfl,if_pos hlt]
  intro i hi e
  have:=hinj (i+1) 0 (by simp;omega) (by simp) (by rw[show j+(i+1)=j+1+i by omega];simpa using e)
  omega
 |b'::bs,j,i+1,G,b,hinj,h,hlt=>by
  simp only[XN]at h
  simp only[ZaQ]
  rw[show j+(i+1)=j+1+i by omega]at hlt ⊢
  refine Zvu (fun a a' ha ha' e=>?_) h (by grind)
  have:=hinj (a+1) (a'+1) (by simp;omega) (by simp;omega) (by rw[show j+(a+1)=j+1+a by omega,show j+(a'+1)=j+1+a' by omega];exact e)
  omega
theorem Zvp{G0:Za}:∀ {h:Za} {j:Nat} {G:Za},(ZaQ G0 ids sq h j G).length=G.length
 | [],j,G=>rfl
 |b::bs,j,G=>by simp only[ZaQ];rw[Zvp];simp
theorem Zi7{G0:Za}:∀ {h:Za} {j i:Nat} {b:ZP},Za1 G0 ids h j=true->h[i]?=some b->okB b=true/\(match ids[j+i]? with
  |some t=>Zcy (G0.getD t .free) b=true/\Zm b<=1
  |none=>Zm b=0)
 | [],j,i,b,_,h=>by simp at h
 |b'::bs,j,0,b,hok,h=>by
  simp only[XK,Xb]at h
  subst h
  simp only[Za1,Xk]at hok
  grind
 |b'::bs,j,i+1,b,hok,h=>by
  simp only[XN]at h
  simp only[Za1,Xk]at hok
  have:=Zi7 hok.2 h
  rwa [show j+1+i=j+(i+1)by omega]at this
theorem ZIw{x y:ZP}(hy:Zfj y=true)(h:Zcy x y=true):Zm x=0:=by
 cases x<;>cases y<;>first |rfl |(simp[Zcy]at h;done) |(simp[Zfj]at hy;done)
theorem ZRt{y:ZP}(hy:Zfj y=true):Zm y=0:=by
 cases y<;>first |rfl |(simp[Zfj]at hy;done)
theorem Zeh:∀ {n sq i:Nat},Zaj G sq n=true->i<n->G[sq+i]?=some .free
 |0,_,_,_,hi=>by omega
 |n+1,sq,0,h,_=>by
  simp only[Zaj,Xk]at h
  have:=h.1
  unfold freeAt at this
  grind
 |n+1,sq,i+1,h,hi=>by
  simp only[Zaj,Xk]at h
  have:=Zeh (i:=i) h.2 (by omega)
  rwa [show sq+1+i=sq+(i+1)by omega]at this
theorem ZzK{t:Nat}:∀ {ids:List Nat} {i j:Nat},ids.Nodup->ids[j]?=some t->ZI t ids i=some (i+j)
 | [],i,j,_,h=>by simp at h
 |x::xs,i,0,_,h=>by
  simp only[XK,Xb]at h
  simp[ZI,h]
 |x::xs,i,j+1,hn,h=>by
  simp only[XN]at h
  rw[List.nodup_cons]at hn
  have hne:x≠t:=by rintro rfl;exact hn.1 (XL h)
  simp only[ZI,hne,if_false]
  rw[ZzK hn.2 h]
  congr 1;omega
theorem Zt6{t:Nat}:∀ {ids:List Nat} {i:Nat},t∉ids->ZI t ids i=none
 | [],i,_=>rfl
 |x::xs,i,h=>by
  simp only[X0,not_or]at h
  have hne:x≠t:=fun e=>h.1 e.symm
  simp only[ZI,hne,if_false]
  exact Zt6 h.2
def ZfU(G:Za)(ids:List Nat)(sq n:Nat)(V V1:Bmap):Bmap:=fun t g=>match ZI t ids 0 with
 |some j=>if g<=Zm (G.getD t .free)then V t g else if g=Zm (G.getD t .free)+1 then V1 j 1 else none
 |none=>if sq<=t/\t<sq+n then(if g=0 then V1 (ids.length+(t-sq)) 0 else none)else V t g
theorem Rel.back{Ic:Imm}{Vc:Bmap}{h:Za}{n:Nat}(R:Rel base w0 I0 I V G w)(hb:KLt base w0)(hnd:ids.Nodup)(hok:ids.all (fun t=>okB (G.getD t .free))=true)
  (Rc:Rel (fun b=>b<w.heap.size/\∀ t∈ids,∀ x,G[t]?=some x->ZJ V t x≠some b) w I Ic Vc h w') (hI:I.le Ic) (hkept:KeptE ids.length (ZcD G 0 ids V) Vc)
  (h1:h.length<=ids.length+n) (h2:ids.length<=h.length) (h3:Za1 G ids h 0=true) (h4:Zaj G sq n=true) :
  ∃ V2,V.le V2/\Rel base w0 I0 Ic V2 (ZaQ G ids sq h 0 G) w'/\ZhM (Zak G ids sq) Vc V2:=by
 have hbw:=R.base_le hb
 have hblk:∀ t,t∈ids->∃ x,G[t]?=some x/\okB x=true/\G.getD t .free=x/\∃ bi,V t (Zm x)=some bi:=by
  intro t ht
  have h0:=Xy.1 hok t ht
  cases hx:G[t]? with
  |none=>simp[Xh,hx,okB]at h0
  |some x =>
   have hd:G.getD t .free=x:=by simp[Xh,hx]
   rw[hd]at h0
   refine⟨x,rfl,h0,hd,?_⟩
   have hB:=R.blk t x hx
   cases x with
   |free=>simp[okB]at h0
   |map es=>obtain⟨b,k,c,_,_,e,_⟩:=hB;exact⟨_,e⟩
   |siter l p=>obtain⟨b,k,c,e,_⟩:=hB;exact⟨_,e⟩
   |opq=>exact hB
   |rrow g k xs=>obtain⟨bi,e,_⟩:=hB;exact⟨_,e⟩
   |var cs=>obtain⟨b,k,c,us,ty,e,_⟩:=hB;exact⟨_,e⟩
   |row g k xs=>obtain⟨bi,e,_⟩:=hB;exact⟨_,e⟩
   |frow g k xs=>obtain⟨bi,e,_⟩:=hB;exact⟨_,e⟩
 have hnot:∀ i,i<n->sq+i∉ids:=by
  intro i hi hm
  obtain⟨x,hx,hk,_⟩:=hblk _ hm
  rw[Zeh h4 hi]at hx
  injection hx with hx;subst hx;simp[okB]at hk
 have tgt_ids:∀ j t,ids[j]?=some t->ZaA ids sq j=t:=by intro j t ht;simp[ZaA,Xh,ht]
 have tgt_new:∀ j,ids.length<=j->ZaA ids sq j=sq+(j-ids.length):=by intro j hj;simp[ZaA,Xh,Wb hj]
 have split_j:∀ j,j<h.length->(∃ t,ids[j]?=some t/\t∈ids/\ZaA ids sq j=t)\/(ids.length<=j/\ids[j]?=none/\j-ids.length<n/\ZaA ids sq j=sq+(j-ids.length)):=by
  intro j hj
  by_cases hlt:j<ids.length
  ·have e:ids[j]?=some ids[j]:=XA hlt
   exact Xq ⟨ids[j],e,XaN hlt,tgt_ids _ _ e⟩
  ·exact Xt ⟨by omega,Wb (by omega),by omega,tgt_new j (by omega)⟩
 have inj:∀ i i',i<h.length->i'<h.length->ZaA ids sq (0+i)=ZaA ids sq (0+i')->i=i':=by
  intro i i' hi hi' e
  rw[XF,XF]at e
  rcases split_j i hi with⟨t,a1,a2,a3⟩ |⟨a1,_,a3,a4⟩<;>rcases split_j i' hi' with⟨t',b1,b2,b3⟩ |⟨b1,_,b3,b4⟩
  ·rw[a3,b3]at e;subst e
   exact(List.getElem?_inj (Xn.1 a1).1 hnd).1 (a1.trans b1.symm)
  ·grind
  ·grind
  ·grind
 have tlt:∀ j,j<h.length->ZaA ids sq j<G.length:=by
  intro j hj
  rcases split_j j hj with⟨t,a1,a2,a3⟩ |⟨a1,_,a3,a4⟩
  ·grind
  ·rw[a4];exact(Xn.1 (Zeh h4 a3)).1
 have look:∀ t x',(ZaQ G ids sq h 0 G)[t]?=some x'->(∃ j b,h[j]?=some b/\t=ZaA ids sq j/\x'=Zz (Zak G ids sq) (ZbZ G ids j b) b)\/((∀ j,j<h.length->ZaA ids sq j≠t)/\G[t]?=some x'):=by
  intro t x' hx
  by_cases hex:∃ j,j<h.length/\ZaA ids sq j=t
  ·obtain⟨j,hj,rfl⟩:=hex
   have:=Zvu (G0:=G) (G:=G) (j:=0) (i:=j) inj (XA hj) (by rw[XF];exact tlt j hj)
   rw[XF]at this
   rw[this]at hx
   injection hx with hx
   exact Xq ⟨j,h[j],XA hj,rfl,hx.symm⟩
  ·have hn:∀ j,j<h.length->ZaA ids sq j≠t:=fun j hj e=>hex ⟨j,hj,e⟩
   rw[ZkP (fun i hi=>by rw[XF];exact hn i hi)]at hx
   exact Xt ⟨hn,hx⟩
 have out:∀ t,(∀ j,j<h.length->ZaA ids sq j≠t)->t∉ids/\∀ g,ZfU G ids sq (h.length-ids.length) V Vc t g=V t g:=by
  intro t hn
  have h0:t∉ids:=by
   intro hm
   obtain⟨j,hj⟩:=W5.1 hm
   exact hn j (by grind) (tgt_ids j t hj)
  refine⟨h0,fun g=>?_⟩
  unfold ZfU
  rw[Zt6 h0]
  simp only
  rw[if_neg]
  rintro⟨q1,q2⟩
  exact hn (ids.length+(t-sq)) (by omega) (by grind)
 have atIds:∀ j t,ids[j]?=some t->∀ g,ZfU G ids sq (h.length-ids.length) V Vc t g=if g<=Zm (G.getD t .free)then V t g else if g=Zm (G.getD t .free)+1 then Vc j 1 else none:=by
  intro j t hj g
  unfold ZfU
  rw[ZzK hnd hj]
  simp only[XF]
 have atNew:∀ i,i<h.length-ids.length->∀ g,ZfU G ids sq (h.length-ids.length) V Vc (sq+i) g=if g=0 then Vc (ids.length+i) 0 else none:=by
  intro i hi g
  unfold ZfU
  rw[Zt6 (hnot i (by omega))]
  simp only
  grind
 have hle:V.le (ZfU G ids sq (h.length-ids.length) V Vc):=by
  intro t g bi e
  by_cases hex:∃ j,j<h.length/\ZaA ids sq j=t
  ·obtain⟨j,hj,rfl⟩:=hex
   rcases split_j j hj with⟨t,a1,a2,a3⟩ |⟨a1,_,a3,a4⟩
   ·rw[a3]at e ⊢
    rw[atIds j t a1]
    obtain⟨x,hx,_,hd,_⟩:=hblk t a2
    rw[if_pos]
    ·exact e
    ·rcases Wz (Zm (G.getD t .free)) g with hlt |hge
     ·rw[hd]at hlt;rw[R.gen t x g hx hlt]at e;cases e
     grind
   ·rw[a4]at e
    rw[R.free _ g (Zeh h4 a3)]at e;cases e
  ·rw[(out t fun j hj e=>hex ⟨j,hj,e⟩).2];exact e
 have kept:∀ j t,ids[j]?=some t->∀ bi,Vc j 0=some bi->V t (Zm (G.getD t .free))=some bi:=by
  intro j t hj bi e
  obtain⟨x,hx,hk,hd,bi0,hb0⟩:=hblk t (XL hj)
  have hp:ZcD G 0 ids V j 0=some bi0:=by
   unfold ZcD
   simp only[hj,hx,hk,if_true]
   rw[if_pos (by simp[ZD])];exact hb0
  have:=hkept j (Xn.1 hj).1 bi0 hp
  rw[this]at e;injection e with e;subst e
  rw[hd];exact hb0
 have hC:ZhM (Zak G ids sq) Vc (ZfU G ids sq (h.length-ids.length) V Vc):=by
  intro j g t' g' bi hr hbi
  have hjlt:j<h.length:=by
   rcases Wz j h.length with hlt |hge
   ·exact hlt
   ·rw[Rc.fresh j g hge]at hbi;cases hbi
  have hj':=XA hjlt
  obtain⟨k1,k2⟩:=Zi7 h3 hj'
  rw[XF]at k2
  have hgen:¬Zm h[j]<g:=fun hlt=>by rw[Rc.gen j _ g hj' hlt]at hbi;cases hbi
  rcases split_j j hjlt with⟨t,a1,a2,a3⟩ |⟨a1,a2,a3,a4⟩
  ·simp only[Zak,a1,Xb,Xe]at hr
   obtain⟨rfl,rfl⟩:=hr
   rw[a1]at k2
   rw[atIds j _ a1]
   have : g=0\/g=1:=by omega
   rcases this with rfl |rfl
   ·grind
   grind
  ·simp only[Zak,a2,Xb,Xe]at hr
   grind
 have hvar:∀ j b,h[j]?=some b->Zfj b=true->ZbZ G ids j b=0:=by
  intro j b hj e
  have hjlt:=(Xn.1 hj).1
  obtain⟨k1,k2⟩:=Zi7 h3 hj
  rw[XF]at k2
  unfold ZbZ
  rcases split_j j hjlt with⟨t,a1,a2,a3⟩ |⟨a1,a2,a3,a4⟩
  ·rw[a1]at k2 ⊢
   simp only at k2 ⊢
   obtain⟨x,hx,hk,hd,_⟩:=hblk t a2
   rw[hd]at k2 ⊢
   rw[ZIw e k2.1,ZRt e]
  ·grind
 have hVg:∀ j b,h[j]?=some b->∀ bi,Vc j (Zm b)=some bi->ZfU G ids sq (h.length-ids.length) V Vc (ZaA ids sq j) (ZbZ G ids j b)=some bi:=by
  intro j b hj bi e
  have hjlt:=(Xn.1 hj).1
  refine hC j (Zm b) _ _ bi ?_ e
  rcases split_j j hjlt with⟨t,a1,a2,a3⟩ |⟨a1,a2,a3,a4⟩
  ·simp only[Zak,ZbZ,a1,a3]
  ·simp only[Zak,ZbZ,a2,a4]
 have hKK:∀ b,base b->b<w.heap.size/\∀ t∈ids,∀ x,G[t]?=some x->ZJ V t x≠some b:=by
  intro b hB
  exact⟨hbw b hB,fun t _ x hx e=>(R.own t x b hx e).1 hB⟩
 have hown:∀ j b,h[j]?=some b->ZJ (ZfU G ids sq (h.length-ids.length) V Vc) (ZaA ids sq j) (Zz (Zak G ids sq) (ZbZ G ids j b) b)=ZJ Vc j b:=fun j b hj =>
  Zvn (hVg j b hj) (hvar j b hj) (Rc.blk j b hj)
 have oth:∀ t x b,t∉ids->G[t]?=some x->ZJ V t x=some b->b<w.heap.size/\∀ t∈ids,∀ x,G[t]?=some x->ZJ V t x≠some b:=by
  intro t x b hn hx hbb
  refine⟨(R.blk t x hx).owns_lt hbb,fun t' ht' x' hx' e=>hn ?_⟩
  rw[R.apart t x t' x' b hx hx' hbb e];exact ht'
 refine⟨_,hle,⟨R.below.trans (Rc.below.mono hKK),fun b o hB=>(Rc.old b o (hKK b hB)).trans (R.old b o hB),Rc.imm,?_,?_,?_,?_,?_,?_,⟨Rc.glob.1,by rw[hI.2];exact R.glob.2⟩⟩,hC⟩
 ·intro t x' hx
  rcases look t x' hx with⟨j,b,hj,rfl,rfl⟩ |⟨hn,hx⟩
  ·exact ZwG hC (hVg j b hj) (hvar j b hj) (Rc.blk j b hj)
  ·refine(R.blk t x' hx).keep hI hle fun b hbb=>Rc.below.block b (oth t x' b (out t hn).1 hx hbb)
 ·intro t x' b hx hbb
  rcases look t x' hx with⟨j,b',hj,rfl,rfl⟩ |⟨hn,hx⟩
  ·rw[hown j b' hj]at hbb
   have:=Rc.own j b' b hj hbb
   exact⟨fun hB=>this.1 (hKK b hB),this.2⟩
  ·rw[(R.blk t x' hx).owns_eq hle]at hbb
   refine⟨(R.own t x' b hx hbb).1,fun o=>?_⟩
   rw[Rc.old b o (oth t x' b (out t hn).1 hx hbb)]
   exact(R.own t x' b hx hbb).2 o
 ·intro t x t' x' b hx hx' hbb hbb'
  rcases look t x hx with⟨j,c,hj,rfl,rfl⟩ |⟨hn,hx⟩<;>rcases look t' x' hx' with⟨j',c',hj',rfl,rfl⟩ |⟨hn',hx'⟩
  ·rw[hown j c hj]at hbb;rw[hown j' c' hj']at hbb'
   rw[Rc.apart j c j' c' b hj hj' hbb hbb']
  ·rw[hown j c hj]at hbb;rw[(R.blk t' x' hx').owns_eq hle]at hbb'
   exact absurd (oth t' x' b (out t' hn').1 hx' hbb') (Rc.own j c b hj hbb).1
  ·rw[hown j' c' hj']at hbb';rw[(R.blk t x hx).owns_eq hle]at hbb
   exact absurd (oth t x b (out t hn).1 hx hbb) (Rc.own j' c' b hj' hbb').1
  ·rw[(R.blk t x hx).owns_eq hle]at hbb;rw[(R.blk t' x' hx').owns_eq hle]at hbb'
   exact R.apart t x t' x' b hx hx' hbb hbb'
 ·intro t g ht
  rw[Zvp]at ht
  have hn:∀ j,j<h.length->ZaA ids sq j≠t:=fun j hj e=>by grind
  rw[(out t hn).2];exact R.fresh t g ht
 ·intro t g hx
  rcases look t _ hx with⟨j,b,hj,rfl,e⟩ |⟨hn,hx⟩
  ·have:=(Zi7 h3 hj).1
   cases b<;>first |(simp[okB]at this;done) |(simp only[Zz]at e;grind)
  ·rw[(out t hn).2];exact R.free t g hx
 ·intro t x' g hx hg
  rcases look t _ hx with⟨j,b,hj,rfl,rfl⟩ |⟨hn,hx⟩
  ·obtain⟨k1,k2⟩:=Zi7 h3 hj
   rw[XF]at k2
   rw[ZxC (hvar j b hj) k1]at hg
   have hjlt:=(Xn.1 hj).1
   rcases split_j j hjlt with⟨t,a1,a2,a3⟩ |⟨a1,a2,a3,a4⟩
   ·rw[a3,atIds j t a1]
    simp only[ZbZ,a1]at hg
    rw[if_neg (by omega)]
    split
    ·rename_i e
     exact Rc.gen j b 1 hj (by omega)
    ·rfl
   grind
  ·rw[(out t hn).2];exact R.gen t x' g hx hg
end
theorem Rel.after_flat{Ic I1:Imm}{Vc:Bmap}{Gc:Za}{K':Nat->Prop}(R:Rel base w0 I0 I V G w)(hb:KLt base w0)(hK:∀ b,b<w.heap.size->K' b)(Rc:Rel K' w I1 Ic Vc Gc w'):Rel base w0 I0 I V G w':=by
 have hbw:=R.base_le hb
 refine R.stay (Imm.le.refl I) (Rc.below.mono fun b h=>hK b (hbw b h)) (fun _ _ _=>rfl) (fun b o u h=>?_) (fun t x b h hb'=>⟨Rc.below.block b (hK b ((R.blk t x h).owns_lt hb')),(R.own t x b h hb').2⟩)
 have:=R.imm b o u h
 have hlt:=Zez this
 rw[<-this]
 simp only[World.cell?,Rc.below.block b (hK b hlt)]
theorem Zvk{I I':Imm}{V V':Bmap}{r:AVal}{u:Value}(hf:ZbC r=true)(h:VR I V (ZaX r) u):VR I' V' (ZaX r) u:=by
 by_cases hp:∃ x,r=.pan x
 ·obtain⟨x,rfl⟩:=hp
  simp only[ZaX]at h⊢
  cases x<;>simp only[ZbC,Za2,ZaJ]at hf<;>first |(cases hf;done) |skip
  case iface t x =>
   simp only[VR]at h⊢
   obtain⟨u',h1,h2⟩:=h
   exact⟨u',h1,ZjT hf h2⟩
 ·have hn:∀ x,r≠.pan x:=fun x e=>hp ⟨x,e⟩
  rw[Zgs hn]at h⊢
  exact ZPL hf h
theorem ZxN{I I':Imm}{V V':Bmap}(hI:∀ b o n,I b o=some (.int .u8 n)->I' b o=some (.int .u8 n)):∀ {xs:List AVal} {b off:Nat},xs.all Zl0=true->∀ {k:Nat},LR I V k xs b off->LR I' V' k xs b off
 | [],_,_,_,_,_=>by simp only[LR]
 |x::xs,b,off,hx,k,h=>by
  simp only[XW,Xk]at hx
  have ih:=fun(h:LR I V k xs b (off+k))=>ZxN (V':=V') hI hx.2 h
  have hx1:=hx.1
  unfold Zl0 at hx1
  split at hx1
  ·simp only[LR,VR]at h⊢
   grind
  grind
theorem Zvs{I I':Imm}{V V':Bmap}(hI:∀ b o n,I b o=some (.int .u8 n)->I' b o=some (.int .u8 n)){x:AVal}{v:Value}(hf:Zij x=true)(h:VR I V x v):VR I' V' x v:=by
 unfold Zij at hf
 split at hf
 ·simp only[VR]at h⊢
  obtain⟨A,cap,h1,h2,h3,h4,h5,h6⟩:=h
  refine⟨A,cap,h1,h2,h3,h4,?_,h6⟩
  rcases h5 with h5 |⟨b,off,k,e,hk,h5⟩
  ·grind
  ·exact Xt ⟨b,off,k,e,hk,ZxN hI hf h5⟩
 ·exact ZjT hf h
theorem ZvI{I I':Imm}{V V':Bmap}(hI:∀ b o n,I b o=some (.int .u8 n)->I' b o=some (.int .u8 n)){x:AVal}{v:Value}(hf:Zic x=true)(h:VR I V x v):VR I' V' x v:=by
 unfold Zic at hf
 split at hf
 ·rename_i cs
  simp only[VR]at h⊢
  obtain⟨us,rfl,h⟩:=h
  exact⟨us,rfl,Zd7 (ZaO h) (fun i x v hx hv=>by
   obtain⟨v',h1,h2⟩:=Zcm h hx
   rw[hv]at h1;injection h1 with h1;subst h1
   exact Zvs hI (Xy.1 hf x (XL hx)) h2)⟩
 ·exact Zvs hI hf h
theorem ZLW{I I':Imm}{V V':Bmap}(hI:∀ b o n,I b o=some (.int .u8 n)->I' b o=some (.int .u8 n)){x:AVal}{v:Value}(hf:Ziw x=true)(h:VR I V x v):VR I' V' x v:=by
 unfold Ziw at hf
 split at hf
 ·rename_i cs
  simp only[VR]at h⊢
  obtain⟨us,rfl,h⟩:=h
  exact⟨us,rfl,Zd7 (ZaO h) (fun i x v hx hv=>by
   obtain⟨v',h1,h2⟩:=Zcm h hx
   rw[hv]at h1;injection h1 with h1;subst h1
   exact ZvI hI (Xy.1 hf x (XL hx)) h2)⟩
 ·exact ZvI hI hf h
theorem Rel.after_bytes{I1 Ic:Imm}{Vc:Bmap}{Gc:Za}{K':Nat->Prop}{r:AVal}{u:Value}(R:Rel base w0 I0 I V G w)(hb:KLt base w0)(hK:∀ b,b<w.heap.size->K' b)(Rc:Rel K' w I1 Ic Vc Gc w')(h1:I.le I1)(h2:I1.le Ic)
  (hn:∀ b o n,I1 b o=some (.int .u8 n)->I b o=some (.int .u8 n)) (hf:Ziw r=true) (hv:VR Ic Vc (ZaX r) u):Post base w0 I0 I V (ZaX r) G u w':=by
 have hbw:=R.base_le hb
 let J:Imm:={ im:=fun b o=>if b<w.heap.size then I b o else Ic b o,ln:=I.ln }
 have hle:I.le J:=by
  refine⟨fun b o u hu=>?_,rfl⟩
  have hlt:=Zez (R.imm b o u hu)
  simp only[J,hlt,if_true];exact hu
 have hJ:∀ b o n,Ic b o=some (.int .u8 n)->J b o=some (.int .u8 n):=by
  intro b o n hu
  by_cases hlt:b<w.heap.size
  ·simp only[J,hlt,if_true]
   rw[Rc.old b o (hK b hlt)]at hu
   exact hn b o n hu
  ·grind
 have hval:ZaX r=r:=Zgs (fun x e=>by subst e;simp[Ziw,Zic,Zij,ZaJ]at hf)
 rw[hval]at hv ⊢
 refine Post.mk hle (Bmap.le.refl V) (R.stay hle (Rc.below.mono fun b h=>hK b (hbw b h)) ?_ ?_ ?_) (ZLW hJ hf hv)
 ·intro b o hb'
  simp only[J,hbw b hb',if_true]
 ·intro b o u hu
  by_cases hlt:b<w.heap.size
  ·simp only[J,hlt,if_true]at hu
   rw[<-R.imm b o u hu]
   simp only[World.cell?,Rc.below.block b (hK b hlt)]
  ·simp only[J,hlt,if_false]at hu
   exact Rc.imm b o u hu
 ·intro t x b hx hb'
  have hlt:=(R.blk t x hx).owns_lt hb'
  refine⟨Rc.below.block b (hK b hlt),fun o=>?_⟩
  simp only[J,hlt,if_true]
  exact(R.own t x b hx hb').2 o
theorem Zzr{xs:List AVal}(h:xs.all Za2=true):(xs.flatMap AVal.cells).all ZaJ=true:=by
 rw[Xy]at h⊢
 intro x hx
 obtain⟨y,hy,hxy⟩:=Wr.1 hx
 have:=h y hy
 cases y
 case agg cs=>exact Xy.1 this x hxy
 all_goals (simp only[AVal.cells,List.mem_singleton]at hxy;subst hxy;exact this)
theorem Rel.clone{Ic I1:Imm}{Vc:Bmap}{K':Nat->Prop}{sq k lo n:Nat}{xs:List AVal}{u:Value}(R:Rel base w0 I0 I V G w)(hb:KLt base w0)(hK:∀ b,b<w.heap.size->K' b)(Rc:Rel K' w I1 Ic Vc [.row 0 k xs] w')(hs:G[sq]?=some .free)(hf:xs.all Za2=true)
  (hv:VR Ic Vc (.sl 0 0 lo n) u):Post base w0 I0 I V (.sl sq 0 lo n) (G.set sq (.row 0 k xs)) u w':=by
 have R':=R.after_flat hb hK Rc
 obtain⟨bi,h1,h2,h3,h4,h5,h6,h7,h8⟩:=Rc.blk 0 _ rfl
 have hle:V.le (V.put sq 0 bi):=Bmap.put_le (R.free sq 0 hs)
 have hbw:=R.base_le hb
 have hsl:sq<G.length:=(Xn.1 hs).1
 have hnew:∀ b,bi.b=some b->¬b<w.heap.size:=by
  intro b e hlt
  exact(Rc.own 0 (.row 0 k xs) b rfl (by simp[ZJ,h1,e])).1 (hK b hlt)
 have hown:∀ b,ZJ (V.put sq 0 bi) sq (.row 0 k xs)=some b->bi.b=some b:=by
  intro b e
  simpa[ZJ,Bmap.put_same]using e
 refine Post.mk (Imm.le.refl I) hle (R'.upd (Imm.le.refl I) hle (KB.refl base w') (fun _ _ _=>rfl) R'.imm sq _ rfl hsl (fun t g h=>Bmap.put_ne h) ?_ ?_ ?_ ?_ (by simp)) ?_
 ·intro t x b hne h hb'
  refine⟨rfl,(R.own t x b h hb').2,fun e=>?_⟩
  exact hnew b (hown b e) ((R.blk t x h).owns_lt hb')
 ·refine⟨bi,Bmap.put_same V sq 0 _,h2,h3,h4,h5,h6,h7,?_⟩
  rcases h8 with h8 |⟨b,us,ty,g1,g2,g3,g4⟩
  ·grind
  ·exact Xt ⟨b,us,ty,g1,g2,g3,ZrI (Zzr hf) g4⟩
 ·intro b e
  have hnb:=hnew b (hown b e)
  refine⟨fun hB=>hnb (hbw b hB),fun o=>?_⟩
  cases hI:I b o with
  |none=>rfl
  |some v=>exact absurd (Zez (R.imm b o v hI)) hnb
 ·intro g hg
  simp only[Zm]at hg
  rw[Bmap.put_gen (by omega)]
  exact R.free sq g hs
 ·simp only[VR]at hv ⊢
  obtain⟨bi',e,hv⟩:=hv
  rw[h1]at e
  injection e with e;subst e
  exact⟨bi,Bmap.put_same V sq 0 _,hv⟩
theorem ZzM:∀ {xs:List AVal} {l:List UInt8},Zia xs=some l->xs=l.map Zh
 | [],l,h=>by simp only[Zia,Xb]at h;grind
 |x::xs,l,h=>by
  simp only[Zia]at h
  split at h
  ·rename_i b hb
   split at h
   ·rename_i l' hl
    simp only[Xb]at h
    subst h
    rw[ZzM hl,Xu]
    congr 1
    unfold ZuD at hb
    split at hb
    ·rename_i n
     split at hb
     ·rename_i hn
      injection hb with hb;subst hb
      simp only[Zh]
      rw[<-hn]
     ·cases hb
    ·cases hb
   ·cases h
  ·cases h
def Imm.all(w:World):Nat->Nat->Option Value:=fun b o=>w.cell? ⟨b,o,none⟩
theorem ZMB{J:Imm}{v:Value}{l:List UInt8}(hJ:J.ln=Imm.all w)(h:Zg9 I V w v (l.map Zh)):VR J V' (.lnt l) v:=by
 obtain⟨A,cap,h1,h2,h3,_,h4⟩:=h
 simp only[VR]
 refine⟨A,cap,by grind,by grind,h3,?_⟩
 rcases h4 with e |⟨b,off,k,us,e,hk,hl,hv,hc⟩
 ·grind
 ·refine Xt ⟨b,off,e,fun i c hi=>Xt ?_⟩
  rw[ZvO]at hv
  obtain⟨u,hu,hvu⟩:=Zcm hv (i:=i) (x:=Zh c) (by simp[hi])
  simp only[Zh,VR]at hvu
  subst hvu
  rw[hJ]
  exact hc i _ hu
theorem ZNN(R:Rel base w0 I0 I V G w){J:Imm}(hJ:J.ln=Imm.all w){a:AVal}{l:List UInt8}{ls:List Nat}{v:Value}(h:Ze1 G a=some (l,ls))(hv:VR I V a v):VR J V' (.lnt l) v:=by
 unfold Ze1 at h
 split at h
 ·split at h
  ·rename_i he
   split at h
   ·rename_i hb
    simp only[Xb,Xe]at h
    obtain⟨rfl,rfl⟩:=h
    have:=ZlZ R (fun l e=>by cases e) he hv
    rw[ZzM hb]at this
    exact ZMB hJ this
   ·cases h
  ·cases h
 ·cases h
theorem ZQU{a:AVal}{l:List UInt8}{ls:List Nat}(h:Ze1 G a=some (l,ls)):Rowy G ls:=by
 unfold Ze1 at h
 split at h
 ·split at h
  ·rename_i he
   split at h
   ·simp only[Xb,Xe]at h
    rw[<-h.2];exact ZjW he
   ·cases h
  ·cases h
 ·cases h
theorem Zth{a y:AVal}{ts ls:List Nat}(h:ZfP G a=some (y,ts,ls)):Rowy G ts/\Rowy G ls:=by
 unfold ZfP at h
 split at h
 ·rename_i hb
  simp only[Xb,Xe]at h
  obtain⟨rfl,rfl,rfl⟩:=h
  exact⟨fun t ht=>by simp at ht,ZQU hb⟩
 ·split at h
  ·rename_i hs
   simp only[Xb,Xe]at h
   obtain⟨rfl,rfl,rfl⟩:=h
   exact⟨Zq9 hs,fun t ht=>by simp at ht⟩
  ·cases h
theorem Zut:∀ {cs ys:List AVal} {ts ls:List Nat},Ze8 G cs=some (ys,ts,ls)->Rowy G ts/\Rowy G ls
 | [],ys,ts,ls,h=>by simp only[Ze8,Xb,Xe]at h;obtain⟨rfl,rfl,rfl⟩:=h;exact⟨fun t ht=>by simp at ht,fun t ht=>by simp at ht⟩
 |c::cs,ys,ts,ls,h=>by
  simp only[Ze8]at h
  split at h
  ·rename_i h1
   split at h
   ·rename_i h2
    simp only[Xb,Xe]at h
    obtain⟨rfl,rfl,rfl⟩:=h
    exact⟨(Zth h1).1.append (Zut h2).1,(Zth h1).2.append (Zut h2).2⟩
   ·cases h
  ·cases h
theorem ZzW{a y:AVal}{ts ls:List Nat}(h:ZgF G a=some (y,ts,ls)):Rowy G ts/\Rowy G ls:=by
 unfold ZgF at h
 split at h
 ·split at h
  ·rename_i h1
   simp only[Xb,Xe]at h
   obtain⟨rfl,rfl,rfl⟩:=h
   exact Zut h1
  ·cases h
 ·exact Zth h
theorem Zk5:∀ {cs ys:List AVal} {ts ls:List Nat},ZdT G cs=some (ys,ts,ls)->Rowy G ts/\Rowy G ls
 | [],ys,ts,ls,h=>by simp only[ZdT,Xb,Xe]at h;obtain⟨rfl,rfl,rfl⟩:=h;exact⟨fun t ht=>by simp at ht,fun t ht=>by simp at ht⟩
 |c::cs,ys,ts,ls,h=>by
  simp only[ZdT]at h
  split at h
  ·rename_i h1
   split at h
   ·rename_i h2
    simp only[Xb,Xe]at h
    obtain⟨rfl,rfl,rfl⟩:=h
    exact⟨(ZzW h1).1.append (Zk5 h2).1,(ZzW h1).2.append (Zk5 h2).2⟩
   ·cases h
  ·cases h
section
variable {I1 J:Imm}{Gf:Za}(R:Rel base w0 I0 I V G w)(R1:Rel base w0 I0 I1 V Gf w)(hal:Alike G Gf)(hI:I.le I1)(hIJ:I1.sub J)(hJ:J.ln=Imm.all w)
include R R1 hal hI hIJ hJ
theorem ZvK{a y:AVal}{ts ls:List Nat}{v:Value}(hF:Frozen Gf ts)(h:ZfP G a=some (y,ts,ls))(hv:VR I V a v):VR J V y v:=by
 unfold ZfP at h
 split at h
 ·rename_i hb
  simp only[Xb,Xe]at h
  obtain⟨rfl,rfl,rfl⟩:=h
  exact ZNN R hJ hb hv
 ·split at h
  ·rename_i hs
   simp only[Xb,Xe]at h
   obtain⟨rfl,rfl,rfl⟩:=h
   exact VR.monoS hIJ (Bmap.le.refl V) _ _ (ZuA R1 hF (by rw[hal.show1];exact hs) (hv.mono hI (Bmap.le.refl V) _ _))
  ·cases h
theorem Zx3:∀ {cs ys:List AVal} {ts ls:List Nat} {vs:List Value},Frozen Gf ts->Ze8 G cs=some (ys,ts,ls)->VRs I V cs vs->VRs J V ys vs
 | [],ys,ts,ls,vs,_,h,hv=>by
  simp only[Ze8,Xb,Xe]at h
  rw[<-h.1]
  simpa only[VRs]using hv
 |c::cs,ys,ts,ls,vs,hF,h,hv=>by
  simp only[Ze8]at h
  simp only[VRs]at hv
  obtain⟨v,vs',rfl,hv1,hv2⟩:=hv
  split at h
  ·rename_i h1
   split at h
   ·rename_i h2
    simp only[Xb,Xe]at h
    obtain⟨rfl,rfl,rfl⟩:=h
    simp only[VRs]
    exact⟨v,vs',rfl,ZvK R R1 hal hI hIJ hJ hF.left h1 hv1,Zx3 hF.right h2 hv2⟩
   ·cases h
  ·cases h
theorem ZFu{a y:AVal}{ts ls:List Nat}{v:Value}(hF:Frozen Gf ts)(h:ZgF G a=some (y,ts,ls))(hv:VR I V a v):VR J V y v:=by
 unfold ZgF at h
 split at h
 ·split at h
  ·rename_i h1
   simp only[Xb,Xe]at h
   obtain⟨rfl,rfl,rfl⟩:=h
   simp only[VR]at hv ⊢
   obtain⟨us,rfl,hv⟩:=hv
   exact⟨us,rfl,Zx3 R R1 hal hI hIJ hJ hF h1 hv⟩
  ·cases h
 ·exact ZvK R R1 hal hI hIJ hJ hF h hv
theorem ZyQ:∀ {cs ys:List AVal} {ts ls:List Nat} {vs:List Value},Frozen Gf ts->ZdT G cs=some (ys,ts,ls)->VRs I V cs vs->VRs J V ys vs
 | [],ys,ts,ls,vs,_,h,hv=>by
  simp only[ZdT,Xb,Xe]at h
  rw[<-h.1]
  simpa only[VRs]using hv
 |c::cs,ys,ts,ls,vs,hF,h,hv=>by
  simp only[ZdT]at h
  simp only[VRs]at hv
  obtain⟨v,vs',rfl,hv1,hv2⟩:=hv
  split at h
  ·rename_i h1
   split at h
   ·rename_i h2
    simp only[Xb,Xe]at h
    obtain⟨rfl,rfl,rfl⟩:=h
    simp only[VRs]
    exact⟨v,vs',rfl,ZFu R R1 hal hI hIJ hJ hF.left h1 hv1,ZyQ hF.right h2 hv2⟩
   ·cases h
  ·cases h
end
theorem ZUV(R:Rel base w0 I0 I V G w){J:Imm}(hJ:J.im=Imm.all w)(hIJ:I.sub J){x:AVal}{v:Value}(h:VR I V x v):VR J V (ZbE x) v:=by
 have gen:VR J V x v:=VR.monoS hIJ (Bmap.le.refl V) _ _ h
 unfold ZbE
 split
 ·rename_i l
  obtain⟨A,cap,h1,h2,h3,h4,h5⟩:=Zzm R h
  simp only[VR]
  refine⟨A,cap,h1,h2,h3,by simp,?_,h4⟩
  rcases h5 with h5 |⟨b,off,k,us,e,hk,hl,hv,hc⟩
  ·grind
  ·refine Xt ⟨b,off,k,e,hk,ZjK hl (VRs.monoS hIJ (Bmap.le.refl V) _ _ hv) fun j u hu=>?_⟩
   rw[hJ]
   exact hc j u hu
 grind
theorem Zu2(R:Rel base w0 I0 I V G w){J:Imm}(hJ:J.im=Imm.all w)(hIJ:I.sub J):∀ {xs:List AVal} {vs:List Value},VRs I V xs vs->VRs J V (xs.map ZbE) vs
 | [],vs,h=>by simpa only[XC,VRs]using h
 |x::xs,vs,h=>by
  simp only[VRs]at h
  obtain⟨v,vs',rfl,h1,h2⟩:=h
  simp only[Xu,VRs]
  exact⟨v,vs',rfl,ZUV R hJ hIJ h1,Zu2 R hJ hIJ h2⟩
theorem ZUT{x:AVal}:ZH (ZbE x)=ZH x:=by cases x<;>rfl
theorem ZhN:∀ {xs:List AVal},Zl (xs.map ZbE)=Zl xs
 | []=>rfl
 |x::xs=>by simp only[Xu,Zl,ZUT,ZhN (xs:=xs)]
theorem ZTX(R:Rel base w0 I0 I V G w){bf:Nat->Bool}{f md:Nat}{args xs:List AVal}{ts us:List Nat}{vs:List Value}(hargs:VRs I V args vs)(h:Zbb bf f G args=some (xs,ts,us,md)) :
  ∃ I1 J,I.le I1/\Rel base w0 I0 I1 V (Zv G ts) w/\(us.all (Zej G)=true->∀ b o n,I1 b o=some (.int .u8 n)->I b o=some (.int .u8 n))/\VRs J V xs vs /\
   ((md=0/\J=I1)\/(md=1/\Zl xs=[]/\J=⟨Imm.all w,I1.ln⟩)\/(md=2/\Zl xs=[]/\J=⟨I1.im,Imm.all w⟩)):=by
 have sub1:∀ {I1:Imm} {Gf:Za},Rel base w0 I0 I1 V Gf w->I1.sub ⟨Imm.all w,I1.ln⟩:=fun R1=>⟨fun b o u h=>R1.imm b o u h,fun _ _ _ h=>h⟩
 have sub2:∀ {I1:Imm} {Gf:Za},Rel base w0 I0 I1 V Gf w->I1.sub ⟨I1.im,Imm.all w⟩:=fun R1=>⟨fun _ _ _ h=>h,fun b o u h=>(R1.lnow h).2⟩
 have plain:∀ {xs:List AVal} {ts:List Nat},showAs G args=some (xs,ts)->∃ I1,I.le I1/\Rel base w0 I0 I1 V (Zv G ts) w/\(ts.all (Zej G)=true->∀ b o n,I1 b o=some (.int .u8 n)->I b o=some (.int .u8 n))/\VRs I1 V xs vs:=by
  intro xs ts hs
  obtain⟨I1,hI1,R1,hal,_,hfz,_,_,hnby⟩:=Zh3 ts R
  exact⟨I1,hI1,R1,hnby,ZvD R1 (hfz (ZjX hs)) (by rw[hal.showAs];exact hs) (hargs.mono hI1 (Bmap.le.refl V) _ _)⟩
 unfold Zbb at h
 split at h
 ·split at h
  ·split at h
   ·rename_i xs' ts' ls' hl
    split at h
    case isFalse=>cases h
    rename_i hr
    simp only[Xb,Xe]at h
    obtain⟨rfl,rfl,rfl,hmd⟩:=h
    obtain⟨I1,hI1,R1,hal,_,hfz,_,_,hnby⟩:=Zh3 ts' R
    have hx:=ZyQ R R1 hal hI1 (sub2 R1) rfl (hfz (Zk5 hl).1) hl hargs
    refine⟨I1,_,hI1,R1,fun ha=>hnby ?_,hx,Xt (Xt ⟨?_,by simpa using hr,rfl⟩)⟩
    ·rw[List.all_append,Xk]at ha;exact ha.1
    ·exact hmd.symm
   ·cases h
  split at h
  ·grind
  ·simp only[Xb,Xe]at h
   obtain⟨rfl,rfl,rfl,rfl⟩:=h
   exact⟨I,I,Imm.le.refl I,R,fun _ _ _ _ h=>h,hargs,Xq ⟨rfl,rfl⟩⟩
 ·split at h
  ·rename_i hs
   obtain⟨I1,a1,a2,a3,a4⟩:=plain hs
   split at h
   ·split at h
    case isFalse=>cases h
    rename_i hr
    simp only[Xb,Xe]at h
    obtain⟨rfl,rfl,rfl,rfl⟩:=h
    exact⟨I1,_,a1,a2,a3,Zu2 a2 rfl (sub1 a2) a4,Xt (Xq ⟨rfl,by rw[ZhN];simpa using hr,rfl⟩)⟩
   grind
  ·cases h
theorem Zyp{I I':Imm}{V:Bmap}{x:AVal}{v:Value}(hf:Zlt x=true)(h:VR I V x v):VR I' V x v:=by
 unfold Zlt at hf
 split at hf
 ·simpa only[VR]using h
 ·simp only[VR]at h⊢
  grind
 ·exact ZjT hf h
theorem ZyH{I I':Imm}{V:Bmap}{x:AVal}{v:Value}(hf:Zk3 x=true)(h:VR I V x v):VR I' V x v:=by
 unfold Zk3 at hf
 split at hf
 ·simp only[VR]at h⊢
  obtain⟨us,rfl,h⟩:=h
  exact⟨us,rfl,Zd7 (ZaO h) (fun i x v hx hv=>by
   obtain⟨v',h1,h2⟩:=Zcm h hx
   rw[hv]at h1;injection h1 with h1;subst h1
   exact Zyp (Xy.1 hf x (XL hx)) h2)⟩
 ·exact Zyp hf h
theorem ZUK{I I':Imm}{V:Bmap}{x:AVal}{v:Value}(hf:Zhs x=true)(h:VR I V x v):VR I' V x v:=by
 unfold Zhs at hf
 split at hf
 ·simp only[VR]at h⊢
  obtain⟨us,rfl,h⟩:=h
  exact⟨us,rfl,Zd7 (ZaO h) (fun i x v hx hv=>by
   obtain⟨v',h1,h2⟩:=Zcm h hx
   rw[hv]at h1;injection h1 with h1;subst h1
   exact ZyH (Xy.1 hf x (XL hx)) h2)⟩
 ·exact ZyH hf h
theorem ZP4{x:AVal}(h:ZaN x=true):ZcV x=true:=by cases x<;>first |rfl |(simp[ZaN]at h)
theorem ZuU:∀ {xs:List AVal},ZaK xs=true->Zb5 xs=true
 | [],_=>rfl
 |x::xs,h=>by
  simp only[ZaK,Xk]at h
  simp only[Zb5,ZP4 h.1,ZuU h.2,XT]
theorem Zv7:∀ {xs:List AVal},Zaq xs=true->Zb5 (xs.flatMap AVal.cells)=true
 | [],_=>rfl
 |x::xs,h=>by
  rw[Zse,Xk]at h
  have app:∀ {a b:List AVal},Zb5 a=true->Zb5 b=true->Zb5 (a++b)=true:=by
   intro a b ha hb
   induction a with
   |nil=>exact hb
   |cons c a ih =>
    simp only[Zb5,Xk]at ha
    simp only[XJ,Zb5,ha.1,ih ha.2,XT]
  rw[XB]
  exact app (ZuU h.1) (Zv7 h.2)
theorem ZI2{K':Nat->Prop}{I1 J:Imm}{Vp:Bmap}{Gp:Za}{m md:Nat}{r0 r1:AVal}{h0 h1:Za}{u:Value}(Rp:Rel K' w I1 I1 Vp Gp w)
  (hmd:(md=0/\J=I1)\/(md=1/\J=⟨Imm.all w,I1.ln⟩)\/(md=2/\J=⟨I1.im,Imm.all w⟩)) (hp:Zb6 m K' w J J Vp r0 h0 u w') (h:ZbV md (some (r0,h0))=some (r1,h1)):Zb6 m K' w I1 I1 Vp r1 h1 u w'/\r1=r0:=by
 rcases hmd with⟨rfl,rfl⟩ |⟨rfl,rfl⟩ |⟨rfl,rfl⟩
 ·simp only[ZbV,Xb,Xe]at h
  grind
 ·simp only[ZbV,Zgd]at h
  split at h
  case isFalse=>cases h
  rename_i hc
  simp only[Xb,Xe]at h
  obtain⟨rfl,rfl⟩:=h
  obtain⟨I2,V2,hle,hk,Rc,hv⟩:=hp
  have him:∀ b o u,I1 b o=some u->I2 b o=some u:=fun b o u hu=>hle.1 b o u (Rp.imm b o u hu)
  have hrow:∀ (t:Nat) (x:ZP),h0[t]?=some x->Zgc x=true:=by
   intro t x hx
   simp only[WH,Xk]at hc
   rcases hc with⟨_,hc⟩ |⟨_,hc⟩
   ·rw[WR.1 hc]at hx;cases hx
   ·exact Xy.1 hc x (XL hx)
  refine⟨⟨I1,V2,Imm.le.refl I1,hk,⟨Rc.below,fun _ _ _=>rfl,fun b o u hu=>Rc.imm b o u (him b o u hu),?_,?_,Rc.apart,Rc.fresh,Rc.free,Rc.gen,Rp.glob⟩,?_⟩,rfl⟩
  ·intro t x hx
   have hr:=hrow t x hx
   have hb:=Rc.blk t x hx
   cases x<;>simp only[Zgc]at hr<;>first |(cases hr;done) |skip
   obtain⟨bi,a1,a2,a3,a4,a5,a6,a7,a8⟩:=hb
   refine⟨bi,a1,a2,a3,a4,a5,a6,a7,a8.imp id ?_⟩
   rintro⟨b,us,ty,g1,g2,g3,g4⟩
   exact⟨b,us,ty,g1,g2,g3,ZrI (Zzr hr) g4⟩
  ·intro t x b hx hb
   obtain⟨c1,c2⟩:=Rc.own t x b hx hb
   refine⟨c1,fun o=>?_⟩
   cases hI:I1 b o with
   |none=>rfl
   |some u=>grind
  ·simp only[WH,Xk]at hc
   rcases hc with⟨hc,_⟩ |⟨hc,_⟩
   ·exact Zvk hc hv
   ·have hnp:∀ x,r0≠.pan x:=by rintro x rfl;simp[Zhs,Zk3,Zlt,ZaJ]at hc
    rw[Zgs hnp]at hv ⊢
    exact ZUK hc hv
 ·simp only[ZbV,Zi4]at h
  split at h
  case isFalse=>cases h
  rename_i hc
  simp only[Xb,Xe]at h
  obtain⟨rfl,rfl⟩:=h
  simp only[Xk]at hc
  obtain⟨I2,V2,hle,hk,Rc,hv⟩:=hp
  have hII:∀ b o u,I2 b o=some u->(⟨I2.im,I1.ln⟩:Imm) b o=some u:=fun _ _ _ h=>h
  refine⟨⟨⟨I2.im,I1.ln⟩,V2,⟨fun b o u hu=>hle.1 b o u hu,rfl⟩,hk,⟨Rc.below,fun b o hb=>Rc.old b o hb,Rc.imm,?_,Rc.own,Rc.apart,Rc.fresh,Rc.free,Rc.gen,⟨Rc.glob.1,Rp.glob.2⟩⟩,?_⟩,rfl⟩
  ·intro t x hx
   have hr:=Xy.1 hc.2 x (XL hx)
   have hb:=Rc.blk t x hx
   cases x<;>simp only[ZoD]at hr<;>first |grind |skip
   ·obtain⟨bi,a1,a2,a3,a4,a5,a6,a7,a8⟩:=hb
    refine⟨bi,a1,a2,a3,a4,a5,a6,a7,a8.imp id ?_⟩
    rintro⟨b,us,ty,g1,g2,g3,g4⟩
    exact⟨b,us,ty,g1,g2,g3,VRs.noLn hII _ _ (Zv7 a6) g4⟩
   ·obtain⟨bi,a1,a2,a3,a4,a5,a6,a7⟩:=hb
    refine⟨bi,a1,a2,a3,a4,a5,a6,a7.imp id ?_⟩
    rintro⟨b,g1,g2⟩
    exact⟨b,g1,LR.mono (Imm.le.refl _) (ZhA V2) _ _ _ _ (LR.treeI hII _ _ _ _ a6 g2)⟩
  ·refine VR.noLn hII _ _ ?_ hv
   cases r0<;>first |exact hc.1 |skip
theorem Zpw{O:ZS}(hO:ZaM P O){bf:Nat->Bool}(R:Rel base w0 I0 I V G w)(hb:KLt base w0){sq f own:Nat}{view:Bool}{args:List AVal}{vs:Array Value}(hargs:VRs I V args vs.toList){r:AVal}{c:Cls}(hsite:own=1->G[sq]?=some .free)(h:Zq O bf G sq f own view args=some (r,G',c)) :
  (∃ fn,P.funcs[f]?=some fn/\fn.body.isSome=true/\(fn.name == "runtime.NumGoroutine")=false)/\Calls P f vs w (fun e w'=>∃ u,Ends r e u/\Post base w0 I0 I V (ZaX r) G' u w'):=by
 unfold Zq at h
 split at h
 ·cases h
 rename_i xs ts us md hshow
 obtain⟨I1,J,hI1,R1,hnby,hxs,hmd⟩:=ZTX R hargs hshow
 generalize hGf:Zv G ts=Gf at *
 obtain⟨hnd,_⟩:=ZkE (G:=Gf) 1000 (Zl xs) [] List.nodup_nil
 have hids0:Zl xs=[]->Zt Gf 1000 (Zl xs) []=[]:=fun e=>by rw[e];rfl
 generalize Zt Gf 1000 (Zl xs) []=ids at *
 unfold Zbk at h
 split at h
 case isFalse=>cases h
 rename_i hok
 have R2:=R1.pick (K':=fun b=>b<w.heap.size/\∀ t∈ids,∀ x,Gf[t]?=some x->ZJ V t x≠some b) (w1:=w) (I1:=I1) (m:=0) hnd (KB.refl _ w) (fun _ _ _=>rfl) (fun t x b ht hx hb' hk=>hk.2 t ht x hx hb') (R1.gb fun b hB=>⟨R1.base_le hb b hB,fun t _ x hx e=>(R1.own t x b hx e).1 hB⟩)
 have R2J:Rel (fun b=>b<w.heap.size/\∀ t∈ids,∀ x,Gf[t]?=some x->ZJ V t x≠some b) w J J (ZcD Gf 0 ids V) (Zo Gf 0 ids (Zn Gf 0 ids) ids 0) w:=by
  have grow:ids=[]->I1.sub J->(∀ b o u,J b o=some u->w.cell? ⟨b,o,none⟩=some u)->(∀ b o u,J.ln b o=some u->w.cell? ⟨b,o,none⟩=some u)->Rel (fun b=>b<w.heap.size/\∀ t∈ids,∀ x,Gf[t]?=some x->ZJ V t x≠some b) w J J (ZcD Gf 0 ids V) (Zo Gf 0 ids (Zn Gf 0 ids) ids 0) w:=by
   rintro rfl hs h1 h2
   simp only[Zo]at R2 ⊢
   refine⟨R2.below,fun _ _ _=>rfl,h1,fun t x h=>by simp at h,fun t x b h=>by simp at h,R2.apart,R2.fresh,R2.free,R2.gen,⟨fun b o u h=>hs.1 b o u (R2.glob.1 b o u h),R2.glob.2.1,fun b o u h=>⟨⟨Zez (h2 b o u h),by simp⟩,h2 b o u h⟩⟩⟩
  rcases hmd with⟨_,rfl⟩ |⟨_,hr,rfl⟩ |⟨_,hr,rfl⟩
  ·exact R2
  ·exact grow (hids0 hr) ⟨fun b o u h=>R1.imm b o u h,fun _ _ _ h=>h⟩ (fun _ _ _ h=>h) (fun b o u h=>(R1.lnow h).2)
  ·exact grow (hids0 hr) ⟨fun _ _ _ h=>h,fun b o u h=>(R1.lnow h).2⟩ (fun b o u h=>R1.imm b o u h) (fun _ _ _ h=>h)
 generalize hq:ZV view ids.length (ZbV md (O f (Zj (Zn Gf 0 ids) xs) (Zo Gf 0 ids (Zn Gf 0 ids) ids 0)))=q at h
 cases q with
 |none=>simp only[Zaz]at h;cases h
 |some q =>
  obtain⟨r1,h1⟩:=q
  obtain⟨r0,h0,r00,h00,hcall,hmod⟩:∃ r0 h0 r00 h00,O f (Zj (Zn Gf 0 ids) xs) (Zo Gf 0 ids (Zn Gf 0 ids) ids 0)=some (r00,h00)/\ZbV md (some (r00,h00))=some (r0,h0):=by
   cases ho:O f (Zj (Zn Gf 0 ids) xs) (Zo Gf 0 ids (Zn Gf 0 ids) ids 0)with
   |none =>
    have hn:ZbV md none=none:=by unfold ZbV Zgd Zi4;split<;>rfl
    rw[ho,hn]at hq;cases view<;>simp[ZV,ZbR]at hq
   |some q =>
    cases hm:ZbV md (some q)with
    |none=>rw[ho,hm]at hq;cases view<;>simp[ZV,ZbR]at hq
    |some q'=>grind
  rw[hcall,hmod]at hq
  obtain⟨hfn,hrun⟩:=hO f _ _ r00 h00 hcall
  refine⟨hfn,(hrun _ w J J _ w vs (fun b hb=>hb.1) R2J (Zg3 ZsC _ _ hxs)).mono ?_⟩
  rintro e w' ⟨u,he,hp⟩
  rw[Zpc]at hp
  obtain⟨hp,hr0⟩:=ZI2 R2 (hmd.imp id (Or.imp (fun h=>⟨h.1,h.2.2⟩) (fun h=>⟨h.1,h.2.2⟩))) hp hmod
  rw[<-hr0]at he
  have hp1:Zb6 ids.length (fun b=>b<w.heap.size/\∀ t∈ids,∀ x,Gf[t]?=some x->ZJ V t x≠some b) w I1 I1 (ZcD Gf 0 ids V) r1 h1 u w'/\Ends r1 e u:=by
   cases view with
   |false =>
    simp only[ZV,Xi,if_false,Xb,Xe]at hq
    grind
   |true =>
    simp only[ZV,if_true]at hq
    obtain⟨q1,q2⟩:=ZVa hp hq
    grind
  obtain⟨⟨I2,V2,hI2,hkept,Rc,hv⟩,he1⟩:=hp1
  simp only[Zaz]at h
  split at h
  ·rename_i hc
   simp only[Xk,WR]at hc
   obtain⟨rfl,rfl⟩:=hc
   split at h
   ·rename_i hflat
    simp only[Xb,Xe]at h
    obtain⟨rfl,rfl,rfl⟩:=h
    exact⟨u,he1,Post.here (R.after_flat hb (fun b hlt=>⟨hlt,by simp⟩) Rc) (Zvk hflat hv)⟩
   split at h
   ·rename_i hap
    unfold Zda at hap
    simp only[Xk]at hap
    simp only[Xb,Xe]at h
    obtain⟨rfl,rfl,rfl⟩:=h
    exact⟨u,he1,R.after_bytes hb (fun b hlt=>⟨hlt,by simp⟩) Rc hI1 hI2 (hnby hap.2) hap.1.2 hv⟩
   ·simp only[Xb,Xe]at h
    obtain⟨rfl,rfl,rfl⟩:=h
    obtain⟨V3,g1,g2,g3⟩:=R1.back (sq:=sq) (n:=0) hb hnd hok Rc hI2 hkept (by simp) (by simp) rfl rfl
    have hC:Zak Gf [] sq=Zak [] [] sq:=rfl
    refine⟨u,he1.ren,Post.mk (hI1.trans hI2) g1 g2 ?_⟩
    rw[hC]at g3
    have:=ZjB g3 _ _ hv
    rcases Zsq (C:=Zak [] [] sq) r1 with e |⟨x,rfl⟩
    ·grind
    ·exact this
  ·split at h
   ·rename_i lo n k xs' hcl
    split at hcl
    case isFalse=>cases hcl
    rename_i hid
    simp only[WR]at hid
    subst hid
    unfold ZgJ at hcl
    split at hcl
    case h_2=>cases hcl
    split at hcl
    case isFalse=>cases hcl
    rename_i hcc
    simp only[Xk,decide_eq_true_eq]at hcc
    simp only[Xb,Xe]at hcl h
    obtain⟨rfl,rfl,rfl,rfl⟩:=hcl
    obtain⟨rfl,rfl,rfl⟩:=h
    exact⟨u,he1,R.clone hb (fun b hlt=>⟨hlt,by simp⟩) Rc (hsite hcc.1) hcc.2 hv⟩
   split at h
   case isFalse=>cases h
   rename_i hc
   simp only[Xk,decide_eq_true_eq]at hc
   obtain⟨⟨⟨c1,c2⟩,c3⟩,c4⟩:=hc
   simp only[Xb,Xe]at h
   obtain⟨rfl,rfl,rfl⟩:=h
   obtain⟨V3,g1,g2,g3⟩:=R1.back hb hnd hok Rc hI2 hkept c1 c2 c3 c4
   refine⟨u,he1.ren,Post.mk (hI1.trans hI2) g1 g2 ?_⟩
   have:=ZjB g3 _ _ hv
   rcases Zsq (C:=Zak Gf ids sq) r1 with e |⟨x,rfl⟩
   ·grind
   ·exact this
end
end
section
open Go.RowKit
section
variable {P:Program}{w:World}{I:Imm}{V:Bmap}
theorem Zw3{t:TypeId}(hb:Zt4 P t=true){xs:Array Value}{o:Nat}{v:Value}(h:xs[o]?=some v):(part t xs o).run P w=.ok v w:=by
 unfold Zt4 at hb
 have key:∀ d,P.underlying t=some d->d.isRow=false->(part t xs o).run P w=.ok v w:=by
  intro d hu hd
  have hagg:(isAgg t).run P w=.ok false w:=by
   unfold isAgg
   rw[Sem.run_bind,run_underlying hu w]
   cases d<;>simp_all[TypeDesc.isRow]
  simp[part,hagg,h]
 grind
theorem ZTc(w:World){t:TypeId}(d:Nat){x y:AVal}{u v:Value}{b:Bool}(hx:VR I V x u)(hy:VR I V y v)(h:Zgu x y=some b)(hk:Zgn P t x=true):(Op.equalIn (d+1) t u v).run P w=.ok b w:=by
 unfold Zgu at h
 split at h
 ·rename_i k a k' b'
  split at h
  ·rename_i e;subst e
   injection h with h;subst h
   simp only[VR]at hx hy
   subst hx hy
   cases hd:P.underlying t with
   |none=>simp[Zgn,hd]at hk
   |some dd =>
    cases dd<;>simp[Zgn,hd]at hk
    exact run_equalIn_int w d t _ _ a b' hd
  ·cases h
 ·rename_i a b'
  injection h with h;subst h
  simp only[VR]at hx hy
  subst hx hy
  cases hd:P.underlying t with
  |none=>simp[Zgn,hd]at hk
  |some dd =>
   cases dd<;>simp[Zgn,hd]at hk
   exact run_equalIn_bool' w d t a b' hd
 ·rename_i a b'
  injection h with h;subst h
  simp only[VR]at hx hy
  obtain⟨rfl,_⟩:=hx
  obtain⟨rfl,_⟩:=hy
  cases hd:P.underlying t with
  |none=>simp[Zgn,hd]at hk
  |some dd =>
   cases dd<;>simp[Zgn,hd]at hk
   rw[run_equalIn_string w d t _ _ hd,ZoA,ZoA]
 ·cases h
theorem ZwW:∀ {fs:List Field} {xs:List AVal},Zhu (fs.map fun f=>(ZhE P f.type).getD 3) xs=true->Zhd P fs xs=true
 | [],[],_=>rfl
 | [],x::xs,h=>by simp[Zhu]at h
 |f::fs,[],h=>by simp[Zhu]at h
 |f::fs,x::xs,h=>by
  simp only[Xu,Zhu,Xk,beq_iff_eq]at h
  simp only[Zhd,Xk]
  refine⟨?_,ZwW h.2⟩
  have h1:=h.1
  cases hd:P.underlying f.type with
  |none=>simp only[ZhE,hd,XaO]at h1;cases x<;>simp[Zbr]at h1
  |some dd=>cases dd<;>simp only[ZhE,hd,XaO,Option.getD_some]at h1<;>cases x<;>first |(simp[Zgn,hd];done) |(simp[Zbr]at h1;done)
theorem Zu3(w:World)(d:Nat){us vs:Array Value}:∀ {fs:List Field} {xs ys:List AVal} {o:Nat} {b:Bool},ZnX P o fs=true->Zhd P fs xs=true->VRs I V xs (us.toList.drop o)->VRs I V ys (vs.toList.drop o)->ZeO xs ys=some b->(Op.eqFields (d+1) us vs fs).run P w=.ok b w
 | [],xs,ys,o,b,hf,hk,hx,hy,h=>by
  cases xs with
  |nil =>
   cases ys with
   |nil=>simp only[ZeO,Xb]at h;subst h;simp[Op.eqFields]
   |cons=>simp[ZeO]at h
  |cons=>simp[Zhd]at hk
 |f::fs,xs,ys,o,b,hf,hk,hx,hy,h=>by
  cases xs with
  |nil=>simp[Zhd]at hk
  |cons x xs =>
   cases ys with
   |nil=>simp[ZeO]at h
   |cons y ys =>
    simp only[ZnX,Xk,beq_iff_eq,bne_iff_ne,ne_eq]at hf
    obtain⟨⟨⟨h1,h2⟩,h3⟩,h4⟩:=hf
    simp only[Zhd,Xk]at hk
    simp only[VRs]at hx hy
    obtain⟨u,us',eu,hx1,hx2⟩:=hx
    obtain⟨v,vs',ev,hy1,hy2⟩:=hy
    have gu:us[o]?=some u:=by
     have:=congrArg (fun l:List Value=>l[0]?) eu
     simpa using this
    have gv:vs[o]?=some v:=by
     have:=congrArg (fun l:List Value=>l[0]?) ev
     simpa using this
    have eu':us.toList.drop (o+1)=us':=by rw[<-XaX,eu];rfl
    have ev':vs.toList.drop (o+1)=vs':=by rw[<-XaX,ev];rfl
    simp only[ZeO]at h
    split at h
    ·rename_i b1 hb1
     split at h
     ·rename_i b2 hb2
      injection h with h;subst h
      have r1:=ZTc w d hx1 hy1 hb1 hk.1
      have r2:=Zu3 w d (us:=us) (vs:=vs) h4 hk.2 (by grind) (by grind) hb2
      rw[<-h1]at gu gv
      simp only[Op.eqFields,h2,ne_eq,not_false_eq_true,if_true,Sem.run_bind,Zw3 h3 gu,Zw3 h3 gv,r1,Result.andThen_ok]
      cases b1
      ·simp
      grind
     ·cases h
    ·cases h
theorem ZPY{t:TypeId}{fs:Array Field}(hu:P.underlying t=some (.struct fs))(hf:ZrS P t fs=true){x y:List AVal}{us vs:Array Value}(hx:VRs I V x us.toList)(hy:VRs I V y vs.toList)(hk:Zhd P fs.toList x=true){b:Bool}(h:ZeO x y=some b)(neg:Bool){op:BinOp}(hop:op=(if neg then .neq else .eql))(ox oy:Operand) :
  (do eqGuard op t ox oy (.agg us) (.agg vs);binOp op t (.agg us) (.agg vs):Sem Value).run P w=.ok (.bool (b != neg)) w:=by
 simp only[ZrS,Xk,Bool.not_eq_true']at hf
 obtain⟨⟨hf1,hf2⟩,hf3⟩:=hf
 have hfo:P.fieldsOf t=fs:=by simp[Program.fieldsOf,hu]
 have h1:(eqGuard op t ox oy (.agg us) (.agg vs)).run P w=.ok () w:=by
  subst hop
  cases neg<;>simp[eqGuard,hf3]
 have h2:(Op.equal t (.agg us) (.agg vs)).run P w=.ok b w:=by
  show(Op.equalIn (9999+1) t (.agg us) (.agg vs)).run P w=_
  rw[run_equalIn_struct w 9999 t us vs (by grind) hf2,hfo]
  exact Zu3 w 9998 hf1 hk (by simpa using hx) (by grind) h
 subst hop
 cases neg
 ·simp only[Xi,if_false]at h1 ⊢
  simp[h1,h2,binOp]
 ·simp only[if_true]at h1 ⊢
  simp[h1,h2,binOp]
end
end
end Go.Proofs.YtjhabjdfhmbanaaGreatDoor
