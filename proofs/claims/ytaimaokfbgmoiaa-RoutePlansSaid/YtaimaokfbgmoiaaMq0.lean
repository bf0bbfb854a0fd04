/- packed -/
import Derived.WalkKit
import Derived.Below
import Derived.Laws.Sem
import Derived.Deep.MidRow
import Derived.Laws.CopyRow
import Derived.Laws.AppendOwn
import Derived.Laws.BytesString
set_option linter.unusedSimpArgs false
set_option linter.unusedVariables false
open Option.some renaming injEq→Xa
open Prod.mk renaming injEq→Xb
open List renaming getElem?_eq_some_iff→Xf,all_cons→Xi,getD_eq_getElem?_getD→Xn,length_cons→Xq,replicate→Xr,getElem?_set→Xv,map_cons→Xw,mem_of_getElem?→Xx,length_nil→Xy,getElem?_eq_getElem→Xz,getElem?_cons_succ→XC,length_append→XE,mem_append→XG,nil_append→XI,length_map→XL,getElem?_cons_zero→XN,mem_cons→XP,mem_map→XV,all_eq_true→XW,getElem?_map→XY,append_nil→X2,flatMap_cons→X5,getElem?_take→X8,length_take→X9,ext_getElem?→Wa,eq_nil_of_length_eq_zero→Wb,getElem?_eq_none_iff→Wd,mem_or_eq_of_mem_set→We,take_succ_cons→Wh,drop_succ_cons→Wi,take_of_length_le→Wk,append_assoc→Wt,mem_iff_getElem?→WA,mem_flatMap→WB,mem_cons_of_mem→WE,getElem?_drop→WK,take_zero→WL,getElem?_append→WT,mem_of_mem_drop→WU,drop_eq_nil_of_le→WW,range→W1,mem_of_mem_take→W4,length_set→Xaf,foldl_cons→Xag,length_drop→Xam,getElem_mem→Xaw,mem_filterMap→Xax,take_left→XaA,take_take→XaB,getElem?_zip_eq_some→XaC,size_toArray→XaD,drop_take→XaW,take_append→Xbb,drop_append→Xbv
open Bool renaming and_eq_true→Xt,false_eq_true→Xu
open Option renaming map_eq_some_iff→XB,map_some→X4,bind_some→Wq,isSome_none→Xal
open Or renaming inl→XH,inr→XO
open Nat renaming zero_add→XK,le_refl→X0,add_zero→Wm,mul_le_mul_right→Ww,add_mul→Wz,add_assoc→W2,min_eq_left→Xak,sub_self→Xas,lt_irrefl→Xa2,zero_mul→Xbo
open Array renaming getElem?_eq_some_iff→XQ,length_toList→X7,getElem?_setIfInBounds_ne→Wv,ext'→Xbz
open ByteArray renaming size→Xaa
open BitVec renaming ofInt→Xac
open UInt8 renaming ofNat→Xbi
open Iff renaming rfl→XbB
namespace Go.Proofs.Ytaimaokfbgmoiaa
set_option maxHeartbeats 16000000
set_option maxRecDepth 10000
theorem aI {a b : Prop} (x : a) (y : b) : a /\ b := And.intro x y
section
inductive AVal where
 | top
 | any
 | int (k:IntKind) (n:Int)
 | bool (b:Bool)
 | str (l:List UInt8)
 | nilp
 | ref (t o:Nat)
 | eref (t g i o:Nat)
 | iptr (cs:List AVal) (o:Nat)
 | lst (x:Bool) (xs:List AVal)
 | sl (t g lo n:Nat)
 | agg (cs:List AVal)
 | tup (vs:List AVal)
 | fn (f:Nat) (caps:List AVal)
 | nilm
 | map (t:Nat)
 | nili
 | iface (t:Nat) (x:AVal)
 | pan (x:AVal)
 deriving Inhabited
inductive Zq where
 | free
 | var (cs:List AVal)
 | row (g k:Nat) (xs:List AVal)
 | frow (g k:Nat) (xs:List AVal)
 | map (es:List (AVal×AVal))
 | rrow (g k:Nat) (xs:List AVal)
 | siter (l:List UInt8) (p:Nat)
 | opq
 | book (n:Nat) (p:List (AVal×List Int))
 | rmap (es:List (AVal×AVal))
 | gmap (k:Nat) (es:List (AVal×(List AVal ⊕ AVal)))
 deriving Inhabited
abbrev Za:=List Zq
def AVal.cells:AVal->List AVal
 | .agg cs=>cs
 | x=>[x]
inductive Opd where
 | t (n:Nat)
 | c (v:AVal)
 deriving Inhabited
inductive ZGi where | eql | neq | lss | leq | gtr | geq
 deriving DecidableEq,Inhabited
inductive Ins where
 | mov (x:Opd)
 | pick (c a b:Opd)
 | alloc (zs:List AVal)
 | box (x:Opd)
 | build (zs:List AVal) (parts:List (Nat×Nat×Opd))
 | bslice (own:Bool) (k n:Nat) (z:AVal) (parts:List (Nat×Opd))
 | ld (k:Option Nat) (a:Opd)
 | st (k:Nat) (a v:Opd)
 | bin (op:BinOp) (x y:Opd)
 | un (op:UnOp) (x:Opd)
 | i2i (k:IntKind) (x:Opd)
 | same (x:Opd)
 | s2b (x:Opd)
 | b2s (x:Opd)
 | slice (k:Nat) (x:Opd) (lo hi mx:Option Opd)
 | sslice (x:Opd) (lo hi:Option Opd)
 | faddr (off:Nat) (x:Opd)
 | field (k:Option Nat) (off:Nat) (x:Opd)
 | iaddr (k:Nat) (x i:Opd)
 | aaddr (k n:Nat) (x i:Opd)
 | sindex (x i:Opd)
 | aindex (s:Option Nat) (k n:Nat) (x i:Opd)
 | ext (x:Opd) (i:Nat)
 | len (x:Opd)
 | slen (x:Opd)
 | app (k bytes:Nat) (z:AVal) (x y:Opd)
 | mkslice (k bytes:Nat) (z:AVal) (l c:Opd)
 | mm (max:Bool) (xs:List Opd)
 | nilchk (x:Opd)
 | s2s (x:Opd)
 | beq (neg:Bool) (x y:Opd)
 | peq (neg:Bool) (x y:Opd)
 | eqv (neg:Bool) (ks:List Nat) (x y:Opd)
 | ieq (neg:Bool) (x y:Opd)
 | mki (t:Nat) (x:Opd)
 | panic (x:Opd)
 | call (f own:Nat) (view:Bool) (args:List Opd)
 | callv (x:Opd) (args:List Opd)
 | mkfn (f:Nat) (caps:List Opd)
 | rslice (k n:Nat) (z:AVal) (parts:List (Nat×Opd))
 | rng (x:Opd)
 | nxt (x:Opd)
 | i2s (x:Opd)
 | clr (k:Nat) (z:AVal) (x:Opd)
 | mkmap
 | look (kc:Nat) (z:AVal) (ok:Bool) (m k:Opd)
 | mset (kc:Nat) (m k v:Opd)
 | mdel (kc:Nat) (m k:Opd)
 | mlen (m:Opd)
 | mkbook (x:Opd)
 | mkrow (x:Opd)
 | mkgmap (k:Nat)
 | glook (kc:Nat) (z:AVal) (m k:Opd)
 deriving Inhabited
structure AOp where
 dst:Option Nat
 ins:Ins
 guard:Option (Nat×Bool)
 after:List Nat
 deriving Inhabited
inductive Zv where
 | skip
 | region (ops:List AOp) (chk:Option (List (Nat×Nat))) (live:List Nat)
 | seq (a b:Zv)
 | cond (c:Opd) (a b:Zv)
 | block (id:Nat) (c:Zv)
 | loop (live:List Nat) (c:Zv)
 | exit (id:Nat)
 | ret
 | stuck
 deriving Inhabited
inductive Zda where
 | tmp (t:Nat)
 | cell (a:Nat) (k:Option Nat)
 deriving Inhabited
structure Zam where
 res:List Zda
 body:Zv
 deriving Inhabited
structure Cls where
 rd:List Nat:=[]
 wr:List Nat:=[]
 any:Bool:=false
 got:List (Nat×Option Nat×Nat×AVal):=[]
 upd:List (Nat×List AVal):=[]
 deriving Inhabited
abbrev Tms:=List (Nat×AVal)
def tget:Tms->Nat->AVal
 | [],_=>.top
 | (d,v)::r,n=>if d=n then v else tget r n
def tins (d:Nat) (v:AVal):Tms->Tms
 | []=>[(d,v)]
 | (e,w)::r=>if e < d then (d,v)::(e,w)::r else if e=d then (d,v)::r else (e,w)::tins d v r
def Opd.ev (tm:Tms):Opd->AVal
 | .t n=>tget tm n
 | .c v=>v
def tput (tm:Tms) (d:Option Nat) (v:AVal):Tms :=
 match d with
 | some d=>tins d v tm
 | none=>tm
def keepL (live:List Nat) (tm:Tms):Tms:=live.map fun n=>(n,tget tm n)
abbrev Z7:=Nat->List AVal->Za->Option (AVal×Za)
def Zn (b:UInt8):AVal:=.int .u8 b.toNat
def ZpC:AVal->Option UInt8
 | .int .u8 n=>some (Xbi n.toNat)
 | _=>none
def Zfm:List AVal->Option (List UInt8)
 | []=>some []
 | x::xs=>match ZpC x with
  | some b=>match Zfm xs with
   | some l=>some (b::l)
   | none=>none
  | none=>none
def Zo (σ:Za):AVal->Option (List AVal×List Nat)
 | .lst _ xs=>some (xs,[])
 | .str l=>some (l.map Zn,[])
 | .sl t g lo n=>match σ[t]? with
  | some (.row g' _ xs)=>if g'=g/\lo+n<=xs.length then some ((xs.drop lo).take n,[t]) else none
  | some (.frow g' _ xs)=>if g'=g/\lo+n<=xs.length then some ((xs.drop lo).take n,[t]) else none
  | _=>none
 | _=>none
def Zad (σ:Za):AVal->Option (AVal×List Nat)
 | .lst _ xs=>some (.lst false xs,[])
 | .sl t g lo n=>match Zo σ (.sl t g lo n) with
  | some (xs,ts)=>some (.lst false xs,ts)
  | none=>none
 | .int k n=>some (.int k n,[])
 | .bool b=>some (.bool b,[])
 | .str l=>some (.str l,[])
 | .nilp=>some (.nilp,[])
 | .nilm=>some (.nilm,[])
 | .nili=>some (.nili,[])
 | _=>none
def Zag (σ:Za):List AVal->Option (List AVal×List Nat)
 | []=>some ([],[])
 | x::xs=>match Zad σ x with
  | some (y,ts)=>match Zag σ xs with
   | some (ys,us)=>some (y::ys,ts++us)
   | none=>none
  | none=>none
def Zao (σ:Za):AVal->Option (AVal×List Nat)
 | .agg cs=>match Zag σ cs with
  | some (ys,ts)=>some (.agg ys,ts)
  | none=>none
 | x=>Zad σ x
def viewAs (σ:Za):List AVal->Option (List AVal×List Nat)
 | []=>some ([],[])
 | x::xs=>match Zao σ x with
  | some (y,ts)=>match viewAs σ xs with
   | some (ys,us)=>some (y::ys,ts++us)
   | none=>none
  | none=>none
def viewR (σ:Za):AVal->Option (AVal×List Nat)
 | .tup vs=>match viewAs σ vs with
  | some (ys,ts)=>some (.tup ys,ts)
  | none=>none
 | x=>Zao σ x
def ZV (σ:Za):List Nat->Za
 | []=>σ
 | t::ts=>match σ[t]? with
  | some (.row g k xs)=>ZV (σ.set t (.frow g k xs)) ts
  | _=>ZV σ ts
def Za5:AVal->Bool
 | .int _ _ | .bool _ | .str _ | .nilp | .nilm | .nili=>true
 | _=>false
def Zba:AVal->Bool
 | .agg cs=>cs.all Za5
 | x=>Za5 x
def Zbg:AVal->Bool
 | .tup vs=>vs.all Zba
 | .pan (.iface _ x)=>Za5 x
 | x=>Zba x
def partA (k:Option Nat) (cs:List AVal) (o:Nat):Option AVal :=
 match k with
 | none=>cs[o]?
 | some k=>if o+k<=cs.length then some (.agg ((cs.drop o).take k)) else none
def setAt (cs:List AVal) (o:Nat) (vs:List AVal):List AVal:=cs.take o++vs++cs.drop (o+vs.length)
def Z1:AVal->Bool
 | .agg _ | .tup _ | .top | .pan _=>false
 | _=>true
def Zbi:AVal->Bool
 | .top=>false
 | _=>true
def Zae (zs:List AVal):List (Nat×Nat×AVal)->Option (List AVal)
 | []=>some zs
 | (off,k,v)::r=>if v.cells.length=k/\off+k<=zs.length/\Zbi v=true then Zae (setAt zs off v.cells) r else none
def kOk (k:Nat):List AVal->Bool
 | []=>true
 | x::_=>x.cells.length == k
def ldA (σ:Za) (k:Option Nat):AVal->Option (AVal×Za×Cls)
 | .ref t o=>match σ[t]? with
  | some (.var cs)=>match partA k cs o with
   | some v=>some (v,σ,{ rd:=[t],got:=[(t,k,o,v)] })
   | none=>none
  | _=>none
 | .eref t g i o=>match σ[t]? with
  | some (.row g' _ xs)=>if g'=g then match xs[i]? with
   | some x=>match partA k x.cells o with
    | some v=>some (v,σ,{ rd:=[t] })
    | none=>none
   | none=>none else none
  | some (.frow g' _ xs)=>if g'=g then match xs[i]? with
   | some x=>match partA k x.cells o with
    | some v=>some (v,σ,{ rd:=[t] })
    | none=>none
   | none=>none else none
  | some (.rrow g' _ xs)=>if g'=g then match xs[i]? with
   | some x=>match partA k x.cells o with
    | some v=>some (v,σ,{ rd:=[t] })
    | none=>none
   | none=>none else none
  | _=>none
 | .iptr cs o=>match partA k cs o with
  | some v=>some (v,σ,{})
  | none=>none
 | _=>none
def ZdD (x:AVal) (o:Nat) (vs:List AVal):Option AVal :=
 match x with
 | .agg cs=>if o+vs.length<=cs.length then some (.agg (setAt cs o vs)) else none
 | _=>match o,vs with
  | 0,[v]=>some v
  | _,_=>none
def stA (σ:Za) (k:Nat) (a v:AVal):Option (AVal×Za×Cls) :=
 if v.cells.length=k/\v.cells.all Z1 then
  match a with
  | .ref t o=>match σ[t]? with
   | some (.var cs)=>if o+k<=cs.length then some (.tup [],σ.set t (.var (setAt cs o v.cells)),{ wr:=[t] }) else none
   | _=>none
  | .eref t g i o=>match σ[t]? with
   | some (.row g' kk xs)=>if g'=g then match xs[i]? with
    | some x=>match Zag σ v.cells with
     | some (ys,ts)=>if ts.contains t then none else match ZdD x o ys with
      | some x'=>some (.tup [],(ZV σ ts).set t (.row g kk (xs.set i x')),{ wr:=t::ts })
      | none=>none
     | none=>none
    | none=>none else none
   | some (.rrow g' kk xs)=>if g'=g then match xs[i]? with
    | some x=>match ZdD x o v.cells with
     | some x'=>some (.tup [],σ.set t (.rrow g kk (xs.set i x')),{ wr:=[t] })
     | none=>none
    | none=>none else none
   | _=>none
  | _=>none
 else none
def arithA (op:BinOp) (k:IntKind) (a b:Int):Option AVal :=
 match op with
 | .add=>some (.int k (k.wrap (a+b)))
 | .sub=>some (.int k (k.wrap (a - b)))
 | .mul=>some (.int k (k.wrap (a*b)))
 | .quo=>if b=0 then none else some (.int k (k.wrap (a.tdiv b)))
 | .rem=>if b=0 then none else some (.int k (a.tmod b))
 | .and=>some (.int k (k.wrap (Xac k.bits a &&& Xac k.bits b).toNat))
 | .or=>some (.int k (k.wrap (Xac k.bits a ||| Xac k.bits b).toNat))
 | .xor=>some (.int k (k.wrap (Xac k.bits a ^^^ Xac k.bits b).toNat))
 | .andNot=>some (.int k (k.wrap (Xac k.bits a &&& ~~~ Xac k.bits b).toNat))
 | .eql=>some (.bool (a == b))
 | .neq=>some (.bool (a != b))
 | .lss=>some (.bool (a < b))
 | .leq=>some (.bool (a<=b))
 | .gtr=>some (.bool (a > b))
 | .geq=>some (.bool (a>=b))
 | _=>none
def ZH (op:BinOp) (k:IntKind) (a b:Int):Option AVal :=
 if b < 0 then none else
 match op with
 | .shl=>some (.int k (k.wrap (a*2 ^ min b.toNat k.bits)))
 | .shr=>some (.int k (a.fdiv (2 ^ min b.toNat k.bits)))
 | _=>none
def ZK (op:BinOp) (a b:List UInt8):Option AVal :=
 match op with
 | .add=>if a.length+b.length<=9223372036854775807 then some (.str (a++b)) else none
 | .eql=>some (.bool (a == b))
 | .neq=>some (.bool (!(a == b)))
 | .lss=>some (.bool (Op.bytesLess a b))
 | .leq=>some (.bool (Op.bytesLess a b || a == b))
 | .gtr=>some (.bool !(Op.bytesLess a b || a == b))
 | .geq=>some (.bool !(Op.bytesLess a b))
 | _=>none
def binA (op:BinOp) (x y:AVal):Option AVal :=
 match x,y with
 | .int k a,.int k' b=>match op with
  | .shl=>ZH .shl k a b
  | .shr=>ZH .shr k a b
  | op=>if k=k' then arithA op k a b else none
 | .str a,.str b=>ZK op a b
 | _,_=>none
def unA (op:UnOp) (x:AVal):Option AVal :=
 match op,x with
 | .neg,.int k n=>arithA .sub k 0 n
 | .xor,.int k n=>arithA .xor k (if k.signed then -1 else k.max) n
 | .not,.bool b=>some (.bool !b)
 | _,_=>none
def Zem (x:AVal) (y:Nat):Option Nat :=
 match x with
 | .int _ i=>if 0<=i/\i<=y then some i.toNat else none
 | _=>none
def Zbj (x:Option AVal) (d y:Nat):Option Nat :=
 match x with
 | some v=>Zem v y
 | none=>some d
def ZcD (σ : Za) (k : Nat) (x : AVal) (lo hi mx : Option AVal) : Option (AVal × Za × Cls) :=
  match x with
  | .lst b xs => match Zbj mx xs.length xs.length with
    | none => none
    | some m => match Zbj hi xs.length m with
      | none => none
      | some h => match Zbj lo 0 h with
        | none => none
        | some l => if l == 0 || kOk k xs then
            if mx.isSome then some (.lst (h == m) ((xs.take h).drop l), σ, {})
            else some (.lst (b && h == xs.length) ((xs.take h).drop l), σ, {})
          else none
  | .sl t g p n => match Zo σ (.sl t g p n) with
    | none => none
    | some _ => match mx with
      | some m => match Zem m 0 with
        | some _ => match Zbj hi n 0 with
          | some _ => match Zbj lo 0 0 with
            | some _ => some (.lst true [], σ, { rd := [t] })
            | none => none
          | none => none
        | none => match Zem m n with
          | some q1 => match Zbj hi n q1 with
            | some q2 => match Zbj lo 0 q2 with
              | some _ => some (.any, σ, { rd := [t] })
              | none => none
            | none => none
          | none => none
      | none => match σ[t]? with
        | some (.row _ k' xs) => if k' = k then match Zbj hi n (xs.length - p) with
          | none => none
          | some h => match Zbj lo 0 h with
            | none => none
            | some l => some (.sl t g (p + l) (h - l), σ, { rd := [t] }) else none
        | some (.frow _ k' xs) => if k' = k then match Zbj hi n (xs.length - p) with
          | none => none
          | some h => match Zbj lo 0 h with
            | none => none
            | some l => some (.sl t g (p + l) (h - l), σ, { rd := [t] }) else none
        | _ => none
  | _ => none
def faddrA (off:Nat):AVal->Option AVal
 | .ref t o=>some (.ref t (o+off))
 | .eref t g i o=>some (.eref t g i (o+off))
 | .iptr x o=>some (.iptr x (o+off))
 | _=>none
def ZaG (σ : Za) (k : Nat) (x i : AVal) : Option (AVal × Za × Cls) :=
  match i with
  | .int _ i => if 0 <= i then
      match x with
      | .lst _ xs => match xs[i.toNat]? with
        | some x => if x.cells.length = k then some (.iptr x.cells 0, σ, {}) else none
        | none => none
      | .sl t g p n => if i.toNat < n then match σ[t]? with
          | some (.row g' k' _) => if g' = g /\ k' = k then some (.eref t g (p + i.toNat) 0, σ, { rd := [t] }) else none
          | some (.frow g' k' _) => if g' = g /\ k' = k then some (.eref t g (p + i.toNat) 0, σ, { rd := [t] }) else none
          | some (.rrow g' k' _) => if g' = g /\ k' = k then some (.eref t g (p + i.toNat) 0, σ, { rd := [t] }) else none
          | _ => none else none
      | _ => none
    else none
  | _ => none
def Zef (σ : Za) (sq k bytes : Nat) (x y : AVal) : Option (AVal × Za × Cls) :=
  match y with
  | .sl u h q m => match σ[u]? with
    | some (.rrow h' k1 zs) => if h' = h /\ k1 = k /\ q + m <= zs.length /\ 0 < m then
        match x with
        | .lst true [] => if m * bytes <= 140737488355328 then some (.sl sq 0 0 m, σ.set sq (.rrow 0 k ((zs.drop q).take m)), { any := true }) else none
        | .sl t g p n => match σ[t]? with
          | some (.rrow g' k' xs) => if p = 0 /\ g' = g /\ k' = k /\ (n + m) * bytes <= 140737488355328 /\ n = xs.length then
              some (.sl t (g + 1) 0 (n + m), σ.set t (.rrow (g + 1) k (xs ++ (zs.drop q).take m)), { any := true })
            else none
          | _ => none
        | _ => none
      else none
    | _ => none
  | _ => none
def Zaj (σ : Za) (sq k bytes : Nat) (x y : AVal) : Option (AVal × Za × Cls) :=
  match Zo σ y with
  | none => Zef σ sq k bytes x y
  | some (ys, us) => if kOk k ys then
      match x with
      | .lst true [] => if ys.length * bytes <= 140737488355328 then some (.sl sq 0 0 ys.length, σ.set sq (.row 0 k ys), { rd := us }) else none
      | .lst true (x :: xs) => if kOk k (x :: xs) /\ ((x :: xs).length + ys.length) * bytes <= 140737488355328 then
          match ys with
          | [] => some (.lst true (x :: xs), σ, { rd := us })
          | _ :: _ => some (.sl sq 0 0 ((x :: xs).length + ys.length), σ.set sq (.row 0 k ((x :: xs) ++ ys)), { rd := us })
          else none
      | .sl t g p n => match σ[t]? with
        | some (.row g' k' xs) => if p = 0 /\ g' = g /\ k' = k /\ (n + ys.length) * bytes <= 140737488355328 then
            if n = xs.length then some (.sl t (g + 1) 0 (n + ys.length), σ.set t (.row (g + 1) k (xs ++ ys)), { rd := us, wr := [t] })
            else if n + ys.length <= xs.length then some (.sl t g 0 (n + ys.length), σ.set t (.row g k (xs.take n ++ ys ++ xs.drop (n + ys.length))), { rd := us, wr := [t] })
            else none
          else none
        | _ => none
      | _ => none
    else none
def freeAt (σ:Za) (s:Nat):Bool:=match σ[s]? with
 | some .free=>true
 | _=>false
mutual
def Z6:AVal->List Nat
 | .ref t _=>[t]
 | .eref t _ _ _=>[t]
 | .sl t _ _ _=>[t]
 | .map t=>[t]
 | .agg cs=>ZZ cs
 | .tup vs=>ZZ vs
 | .fn _ vs=>ZZ vs
 | .iface _ x=>Z6 x
 | .pan x=>Z6 x
 | _=>[]
def ZZ:List AVal->List Nat
 | []=>[]
 | x::xs=>Z6 x++ZZ xs
end
def Zup:List AVal ⊕ AVal->AVal
 | .inl _=>.nilp
 | .inr x=>x
def Zp:Zq->List Nat
 | .var cs=>ZZ cs
 | .rrow _ _ xs=>ZZ xs
 | .map es=>ZZ (es.map (·.2))
 | .rmap es=>ZZ (es.map (·.2))
 | .gmap _ es=>ZZ (es.map fun p=>Zup p.2)
 | .book _ p=>ZZ (p.map (·.1))
 | _=>[]
abbrev Rho:=Nat->Nat->Option (Nat×Nat)
mutual
def Zs (ρ:Rho):AVal->AVal
 | .ref t o=>match ρ t 0 with
  | some (t',0)=>.ref t' o
  | _=>.any
 | .eref t g i o=>match ρ t g with
  | some (t',g')=>.eref t' g' i o
  | none=>.any
 | .sl t g lo n=>match ρ t g with
  | some (t',g')=>.sl t' g' lo n
  | none=>.any
 | .map t=>match ρ t 0 with
  | some (t',0)=>.map t'
  | _=>.any
 | .agg cs=>.agg (ZW ρ cs)
 | .tup vs=>.tup (ZW ρ vs)
 | .fn f vs=>.fn f (ZW ρ vs)
 | .iface t x=>.iface t (Zs ρ x)
 | .pan x=>.pan (Zs ρ x)
 | x=>x
def ZW (ρ:Rho):List AVal->List AVal
 | []=>[]
 | x::xs=>Zs ρ x::ZW ρ xs
end
def Zg (ρ:Rho) (g:Nat):Zq->Zq
 | .var cs=>.var (ZW ρ cs)
 | .row _ k xs=>.row g k xs
 | .frow _ k xs=>.frow g k xs
 | .map es=>.map (es.map fun p=>(p.1,Zs ρ p.2))
 | .rrow _ k xs=>.rrow g k (ZW ρ xs)
 | .siter l p=>.siter l p
 | .opq=>.opq
 | .rmap es=>.rmap (es.map fun p=>(p.1,Zs ρ p.2))
 | .gmap k es=>.gmap k (es.map fun p=>(p.1,p.2.map id (Zs ρ)))
 | .book n p=>.book n (p.map fun q=>(Zs ρ q.1,q.2))
 | .free=>.free
def Zf (σ:Za):Nat->List Nat->List Nat->List Nat
 | 0,_,acc=>acc
 | _+1,[],acc=>acc
 | n+1,t::todo,acc=>if acc.contains t then Zf σ n todo acc else Zf σ n (Zp (σ.getD t .free)++todo) (acc++[t])
def Zk (t:Nat):List Nat->Nat->Option Nat
 | [],_=>none
 | x::xs,i=>if x=t then some i else Zk t xs (i+1)
def Zc:Zq->Nat
 | .row g _ _=>g
 | .frow g _ _=>g
 | .rrow g _ _=>g
 | _=>0
def Zl (m j:Nat) (b:Zq):Nat:=if j < m/\Zc b≠0 then 1 else 0
def Zd (σ:Za) (m:Nat) (ids:List Nat):Rho:=fun t g=>match Zk t ids 0 with
 | some j=>match σ[t]? with
  | some .free=>none
  | some b=>if g=Zc b then some (j,Zl m j b) else none
  | none=>none
 | none=>none
def Ze (σ:Za) (m:Nat) (ids:List Nat) (ρ:Rho):List Nat->Nat->Za
 | [],_=>[]
 | t::ts,j=>Zg ρ (Zl m j (σ.getD t .free)) (σ.getD t .free)::Ze σ m ids ρ ts (j+1)
def Zm (m:Nat) (roots:List AVal) (σ:Za):List Nat:=Zf σ 1000 (ZZ roots++(W1 m).flatMap fun t=>Zp (σ.getD t .free)) (W1 m)
def gcA (m:Nat) (roots:List AVal) (σ:Za):List AVal×Za :=
 (ZW (Zd σ m (Zm m roots σ)) roots,Ze σ m (Zm m roots σ) (Zd σ m (Zm m roots σ)) (Zm m roots σ) 0)
def gcT (m:Nat) (tm:Tms) (σ:Za):Tms×Za :=
 ((tm.map (·.1)).zip (gcA m (tm.map (·.2)) σ).1,(gcA m (tm.map (·.2)) σ).2)
def Zc4 (σ:Za):AVal->Option (AVal×List Nat)
 | .lst _ xs=>some (.lst false xs,[])
 | .sl t g lo n=>match Zo σ (.sl t g lo n) with
  | some (xs,ts)=>some (.lst false xs,ts)
  | none=>none
 | .pan _=>none
 | x=>some (x,[])
def ZcX (σ:Za):List AVal->Option (List AVal×List Nat)
 | []=>some ([],[])
 | x::xs=>match Zc4 σ x with
  | some (y,ts)=>match ZcX σ xs with
   | some (ys,us)=>some (y::ys,ts++us)
   | none=>none
  | none=>none
def showA (σ:Za):AVal->Option (AVal×List Nat)
 | .agg cs=>match ZcX σ cs with
  | some (ys,ts)=>some (.agg ys,ts)
  | none=>none
 | x=>Zc4 σ x
def showAs (σ:Za):List AVal->Option (List AVal×List Nat)
 | []=>some ([],[])
 | x::xs=>match showA σ x with
  | some (y,ts)=>match showAs σ xs with
   | some (ys,us)=>some (y::ys,ts++us)
   | none=>none
  | none=>none
def ZcO (m:Nat):Option (AVal×Za)->Option (AVal×Za)
 | some (.pan x,σ)=>some (.pan x,σ)
 | some (r,σ)=>match viewR σ r with
  | some (r',ts)=>match gcA m [r'] (ZV σ ts) with
   | ([r''],σ')=>some (r'',σ')
   | _=>none
  | none=>none
 | none=>none
def okB:Zq->Bool
 | .var _=>true
 | .row _ _ _=>true
 | .frow _ _ _=>true
 | .map _=>true
 | .rrow _ _ _=>true
 | .siter _ _=>true
 | .opq=>true
 | .rmap _=>true
 | .gmap _ _=>true
 | .book _ _=>true
 | .free=>false
def ZeG:Zq->Zq->Bool
 | .var _,.var _=>true
 | .row _ _ _,.row _ _ _=>true
 | .row _ _ _,.frow _ _ _=>true
 | .frow _ _ _,.frow _ _ _=>true
 | .map _,.map _=>true
 | .rrow _ _ _,.rrow _ _ _=>true
 | .siter _ _,.siter _ _=>true
 | .opq,.opq=>true
 | .rmap _,.rmap _=>true
 | .gmap _ _,.gmap _ _=>true
 | .book _ _,.book _ _=>true
 | .book _ _,.var _=>true
 | _,_=>false
@[simp] def Zdg:Zq->Bool
 | .rmap _=>true
 | .free=>false
 | .var _=>false
 | .row _ _ _=>false
 | .frow _ _ _=>false
 | .map _=>false
 | .rrow _ _ _=>false
 | .siter _ _=>false
 | .opq=>false
 | .book _ _=>false
 | .gmap _ _=>false
@[simp] def Zql (b:Zq):Bool:=decide (Zc b=0) && !Zdg b
def ZbI (σ:Za) (ids:List Nat):Za->Nat->Bool
 | [],_=>true
 | b::bs,j=>okB b && (match ids[j]? with
  | some t=>ZeG (σ.getD t .free) b && decide (Zc b<=1)
  | none=>Zql b) && ZbI σ ids bs (j+1)
def Za8 (σ:Za) (ids:List Nat) (sq:Nat):Rho:=fun j g=>match ids[j]? with
 | some t=>some (t,Zc (σ.getD t .free)+g)
 | none=>some (sq+(j - ids.length),g)
def ZaY (ids:List Nat) (sq j:Nat):Nat:=ids.getD j (sq+(j - ids.length))
def ZbB (σ:Za) (ids:List Nat) (j:Nat) (b:Zq):Nat:=match ids[j]? with
 | some t=>Zc (σ.getD t .free)+Zc b
 | none=>Zc b
def Za9 (σ0:Za) (ids:List Nat) (sq:Nat):Za->Nat->Za->Za
 | [],_,σ=>σ
 | b::bs,j,σ=>Za9 σ0 ids sq bs (j+1) (σ.set (ZaY ids sq j) (Zg (Za8 σ0 ids sq) (ZbB σ0 ids j b) b))
def ZcJ (σ:Za) (sq:Nat):Nat->Bool
 | 0=>true
 | n+1=>freeAt σ sq && ZcJ σ (sq+1) n
def ZcZ (bf:Bool) (σ:Za) (args:List AVal):Option (List AVal×List Nat):=if bf then some (args,[]) else showAs σ args
def ZaC (view:Bool) (m:Nat) (r:Option (AVal×Za)):Option (AVal×Za):=if view then ZcO m r else r
def ZlV:AVal->Bool
 | .int .u8 _=>true
 | _=>false
def Zil:AVal->Bool
 | .lst _ xs=>xs.all ZlV
 | x=>Za5 x
def Zh9:AVal->Bool
 | .agg cs=>cs.all Zil
 | x=>Zil x
def ZhS:AVal->Bool
 | .tup vs=>vs.all Zh9
 | x=>Zh9 x
def nb1:AVal->Bool
 | .int .u8 _=>false
 | .int _ _ | .bool _ | .str _ | .lst _ _ | .nilp | .nilm | .nili=>true
 | _=>false
def Zyh (xs:List AVal):Bool:=xs.all fun x=>x.cells.all nb1
def Zgv (σ:Za) (t:Nat):Bool:=match σ[t]? with
 | some (.row _ _ xs)=>Zyh xs
 | some (.frow _ _ _)=>true
 | _=>false
def Zdi (σ:Za) (ts:List Nat) (r:AVal):Bool:=!ts.isEmpty && ZhS r && ts.all (Zgv σ)
def Ze5 (own:Nat):AVal->Za->Option (Nat×Nat×Nat×List AVal)
 | .sl 0 0 lo n,[.row 0 k xs]=>if decide (own=1) && xs.all Zba then some (lo,n,k,xs) else none
 | _,_=>none
def Zct (σ:Za):List Nat->List (Nat×List AVal)
 | []=>[]
 | t::ts=>match σ[t]? with
  | some (.var cs)=>(t,cs)::Zct σ ts
  | _=>Zct σ ts
def ZaP (σ σf:Za) (ids ts:List Nat) (sq own:Nat):Option (AVal×Za)->Option (AVal×Za×Cls)
 | none=>none
 | some (r,h) =>
  if ids.isEmpty && h.isEmpty then
   if Zbg r then some (r,σ,{ rd:=ts }) else if Zdi σ ts r then some (r,σ,{ rd:=ts }) else some (Zs (Za8 [] [] sq) r,σf,{ rd:=ts,wr:=ts })
  else match if ids.isEmpty then Ze5 own r h else none with
  | some (lo,n,k,xs)=>some (.sl sq 0 lo n,σ.set sq (.row 0 k xs),{ rd:=ts })
  | none=>if decide (h.length<=ids.length+own) && decide (ids.length<=h.length) && ZbI σf ids h 0 && ZcJ σf sq own then
   some (Zs (Za8 σf ids sq) r,Za9 σf ids sq h 0 σf,{ any:=true,upd:=Zct (Za9 σf ids sq h 0 σf) ids })
  else none
def Zck (O:Z7) (σ σf:Za) (ids:List Nat) (sq f own:Nat) (view:Bool) (vs:List AVal) (ts:List Nat):Option (AVal×Za×Cls) :=
 if ids.all fun t=>okB (σf.getD t .free) then
  ZaP σ σf ids ts sq own (ZaC view ids.length (O f (ZW (Zd σf 0 ids) vs) (Ze σf 0 ids (Zd σf 0 ids) ids 0)))
 else none
def Z4 (O:Z7) (bf:Nat->Bool) (σ:Za) (sq f own:Nat) (view:Bool) (args:List AVal):Option (AVal×Za×Cls) :=
 match ZcZ (bf f) σ args with
 | none=>none
 | some (vs,ts)=>Zck O σ (ZV σ ts) (Zf (ZV σ ts) 1000 (ZZ vs) []) sq f own view vs ts
def Zdx:AVal->AVal->Option Bool
 | .int k a,.int k' b=>if k=k' then some (a == b) else none
 | .bool a,.bool b=>some (a == b)
 | .str a,.str b=>some (a == b)
 | _,_=>none
def ZaW:AVal->Nat
 | .int _ _=>0
 | .bool _=>1
 | .str _=>2
 | _=>4
def ZbC:List Nat->List AVal->Bool
 | [],[]=>true
 | k::ks,x::xs=>ZaW x == k && ZbC ks xs
 | _,_=>false
def Zbh:List AVal->List AVal->Option Bool
 | [],[]=>some true
 | x::xs,y::ys=>match Zdx x y with
  | some b=>match Zbh xs ys with
   | some c=>some (b && c)
   | none=>none
  | none=>none
 | _,_=>none
def ZI (σ:Za) (k:Nat) (z:AVal):AVal->Option (AVal×Za×Cls)
 | .sl t g lo n=>match σ[t]? with
  | some (.row g' k' xs)=>if g'=g/\k'=k/\lo+n<=xs.length/\z.cells.length=k then some (.tup [],σ.set t (.row g k (xs.take lo++Xr n z++xs.drop (lo+n))),{ wr:=[t] }) else none
  | _=>none
 | _=>none
def Zgi (l:List UInt8) (p:Nat):Nat×Nat:=Utf8.decode ⟨l.toArray⟩ p
def ZfI (σ:Za) (a b:AVal):AVal->Option (AVal×Za×Cls)
 | .bool true=>some (a,σ,{})
 | .bool false=>some (b,σ,{})
 | _=>none
def Zcw:AVal->Bool
 | .int _ _ | .bool _ | .str _=>true
 | _=>false
def Zfy (k:AVal):List (AVal×AVal)->Nat->Option (Option (Nat×AVal))
 | [],_=>some none
 | (x,v)::r,i=>match Zdx k x with
  | some true=>some (some (i,v))
  | some false=>Zfy k r (i+1)
  | none=>none
def ZhW (ok:Bool) (v:AVal) (b:Bool):AVal:=if ok then .tup [v,.bool b] else v
def Zer (σ:Za) (kc:Nat) (z:AVal) (ok:Bool) (m k:AVal):Option (AVal×Za×Cls) :=
 if ZaW k=kc then match m with
  | .nilm=>some (ZhW ok z false,σ,{})
  | .map t=>match σ[t]? with
   | some (.map es)=>match Zfy k es 0 with
    | some (some (_,v))=>some (ZhW ok v true,σ,{ rd:=[t] })
    | some none=>some (ZhW ok z false,σ,{ rd:=[t] })
    | none=>none
   | some (.rmap es)=>match Zfy k es 0 with
    | some (some (_,v))=>some (ZhW ok v true,σ,{ rd:=[t] })
    | some none=>some (ZhW ok z false,σ,{ rd:=[t] })
    | none=>none
   | _=>none
  | _=>none
 else none
def Zdj (k:AVal):List (AVal×(List AVal ⊕ AVal))->Nat->Option (Option (Nat×(List AVal ⊕ AVal)))
 | [],_=>some none
 | (x,v)::r,i=>match Zdx k x with
  | some true=>some (some (i,v))
  | some false=>Zdj k r (i+1)
  | none=>none
def Zdd (σ:Za) (s kc:Nat) (z m k:AVal):Option (AVal×Za×Cls) :=
 if ZaW k=kc then match m with
  | .map t=>match σ[t]? with
   | some (.gmap w es)=>match Zdj k es 0 with
    | some (some (j,.inl xs))=>some (.sl s 0 0 xs.length,(σ.set s (.row 0 w xs)).set t (.gmap w (es.set j ((es.getD j (k,.inl xs)).1,.inr (.sl s 0 0 xs.length)))),{ wr:=[t],any:=true })
    | some (some (_,.inr v))=>some (v,σ,{ wr:=[t],any:=true })
    | some none=>some (z,σ,{ wr:=[t],any:=true })
    | none=>none
   | _=>none
  | _=>none
 else none
def Zds (σ:Za) (w:Nat) (v:AVal):(List AVal ⊕ AVal)×Za:=match v with
 | .sl s g lo n=>match σ[s]? with
  | some (.row g' k xs)=>if lo=0/\g'=g/\k=w/\n<=xs.length then (.inl (xs.take n),σ.set s (.frow g k [])) else (.inr v,σ)
  | _=>(.inr v,σ)
 | _=>(.inr v,σ)
def ZdI (k:AVal) (e:List AVal ⊕ AVal) (es:List (AVal×(List AVal ⊕ AVal))):Option (List (AVal×(List AVal ⊕ AVal))):=match Zdj k es 0 with
 | some (some (j,_))=>some (es.set j (k,e))
 | some none=>some (es++[(k,e)])
 | none=>none
def Ze8:List (AVal×(List AVal ⊕ AVal))->Option (List (AVal×AVal))
 | []=>some []
 | (k,.inl xs)::r=>match Ze8 r with
  | some l=>some ((k,.lst false xs)::l)
  | none=>none
 | (_,.inr _)::_=>none
def ZdN (σ:Za) (kc:Nat) (m k v:AVal):Option (AVal×Za×Cls) :=
 if ZaW k=kc/\Zcw k=true/\v.cells.all Z1=true then match m with
  | .map t=>match σ[t]? with
   | some (.map es)=>match Zfy k es 0 with
    | some (some (j,_))=>some (.tup [],σ.set t (.map (es.set j (k,v))),{ wr:=[t] })
    | some none=>some (.tup [],σ.set t (.map (es++[(k,v)])),{ wr:=[t] })
    | none=>none
   | some (.gmap w es)=>match ZdI k (Zds σ w v).1 es with
    | some es'=>some (.tup [],(Zds σ w v).2.set t (.gmap w es'),{ wr:=[t],any:=true })
    | none=>none
   | _=>none
  | _=>none
 else none
def Zf6 (σ:Za) (kc:Nat) (m k:AVal):Option (AVal×Za×Cls) :=
 if ZaW k=kc then match m with
  | .nilm=>some (.tup [],σ,{})
  | .map t=>match σ[t]? with
   | some (.map es)=>match Zfy k es 0 with
    | some (some (j,_))=>some (.tup [],σ.set t (.map (es.eraseIdx j)),{ wr:=[t] })
    | some none=>some (.tup [],σ.set t (.map es),{ wr:=[t] })
    | none=>none
   | some (.gmap w es)=>match Zdj k es 0 with
    | some (some (j,_))=>some (.tup [],σ.set t (.gmap w (es.eraseIdx j)),{ wr:=[t] })
    | some none=>some (.tup [],σ.set t (.gmap w es),{ wr:=[t] })
    | none=>none
   | _=>none
  | _=>none
 else none
def Zfo (σ:Za):AVal->Option (AVal×Za×Cls)
 | .nilm=>some (.int .i64 0,σ,{})
 | .map t=>match σ[t]? with
  | some (.map es)=>some (.int .i64 es.length,σ,{ rd:=[t] })
  | some (.rmap es)=>some (.int .i64 es.length,σ,{ rd:=[t] })
  | _=>none
 | _=>none
def execI (O : Z7) (bf : Nat -> Bool) (tm : Tms) (σ : Za) (sq : Nat) : Ins -> Option (AVal × Za × Cls)
  | .mov x => some (x.ev tm, σ, {})
  | .pick c a b => ZfI σ (a.ev tm) (b.ev tm) (c.ev tm)
  | .alloc zs => some (.ref sq 0, σ.set sq (.var zs), {})
  | .box x => match x.ev tm with
    | .tup _ => none
    | .top => none
    | .pan _ => none
    | v => some (.ref sq 0, σ.set sq (.var v.cells), {})
  | .build zs parts => match Zae zs (parts.map fun p => (p.1, p.2.1, p.2.2.ev tm)) with
    | some cs => some (.agg cs, σ, {})
    | none => none
  | .bslice own k n z parts => match viewAs σ (parts.map fun p => p.2.ev tm) with
    | none => none
    | some (ys, ts) => if ys.all (fun y => y.cells.length == k) && (parts.all fun p => p.1 < n) && z.cells.length == k then
        let xs := ((parts.map (·.1)).zip ys).foldl (fun l p => l.set p.1 p.2) (Xr n z)
        if own then some (.sl sq 0 0 n, (ZV σ ts).set sq (.row 0 k xs), { rd := ts, wr := ts })
        else some (.lst true xs, ZV σ ts, { rd := ts, wr := ts })
      else none
  | .ld k a => ldA σ k (a.ev tm)
  | .st k a v => stA σ k (a.ev tm) (v.ev tm)
  | .bin op x y => (binA op (x.ev tm) (y.ev tm)).map (·, σ, {})
  | .un op x => (unA op (x.ev tm)).map (·, σ, {})
  | .i2i k x => match x.ev tm with
    | .int _ n => some (.int k (k.wrap n), σ, {})
    | _ => none
  | .same x => match x.ev tm with
    | .str l => some (.str l, σ, {})
    | _ => none
  | .s2b x => match x.ev tm with
    | .str l => some (.lst false (l.map Zn), σ, {})
    | _ => none
  | .b2s x => match Zo σ (x.ev tm) with
    | some (xs, ts) => match Zfm xs with
      | some l => some (.str l, σ, { rd := ts })
      | none => none
    | none => none
  | .slice k x lo hi mx => ZcD σ k (x.ev tm) (lo.map (·.ev tm)) (hi.map (·.ev tm)) (mx.map (·.ev tm))
  | .sslice x lo hi => match x.ev tm with
    | .str s => match Zbj (hi.map (·.ev tm)) s.length s.length with
      | none => none
      | some h => match Zbj (lo.map (·.ev tm)) 0 h with
        | none => none
        | some l => some (.str ((s.take h).drop l), σ, {})
    | _ => none
  | .faddr off x => (faddrA off (x.ev tm)).map (·, σ, {})
  | .field k off x => match x.ev tm with
    | .agg cs => (partA k cs off).map (·, σ, {})
    | _ => none
  | .iaddr k x i => ZaG σ k (x.ev tm) (i.ev tm)
  | .aaddr k n x i => match i.ev tm with
    | .int _ i => if 0 <= i /\ i < n then (faddrA (i.toNat * k) (x.ev tm)).map (·, σ, {}) else none
    | _ => none
  | .sindex x i => match x.ev tm, i.ev tm with
    | .str s, .int _ i => if 0 <= i then (s[i.toNat]?).map fun b => (Zn b, σ, {}) else none
    | _, _ => none
  | .aindex s k n x i => match x.ev tm, i.ev tm with
    | .agg cs, .int _ i => if 0 <= i /\ i < n then (partA s cs (i.toNat * k)).map (·, σ, {}) else none
    | _, _ => none
  | .ext x i => match x.ev tm with
    | .tup vs => (vs[i]?).map (·, σ, {})
    | _ => none
  | .len x => match x.ev tm with
    | .lst _ xs => some (.int .i64 xs.length, σ, {})
    | .sl _ _ _ n => some (.int .i64 n, σ, {})
    | _ => none
  | .slen x => match x.ev tm with
    | .str l => some (.int .i64 l.length, σ, {})
    | _ => none
  | .app k bytes _ x y => Zaj σ sq k bytes (x.ev tm) (y.ev tm)
  | .mkslice k bytes z l c => match l.ev tm, c.ev tm with
    | .int .i64 l, .int .i64 c => if 0 <= l /\ l <= c /\ c <= 9223372036854775807 /\ bytes * c <= 140737488355328 /\ z.cells.length = k then
        some (.sl sq 0 0 l.toNat, σ.set sq (.row 0 k (Xr c.toNat z)), {}) else none
    | _, _ => none
  | .mm max xs => match (xs.map fun x => x.ev tm : List AVal) with
    | [.int k a, .int _ b] => some (.int k (if max then (if b > a then b else a) else (if b < a then b else a)), σ, {})
    | _ => none
  | .nilchk x => match x.ev tm with
    | .ref t o => some (.ref t o, σ, {})
    | .eref t g i o => some (.eref t g i o, σ, {})
    | .iptr x o => some (.iptr x o, σ, {})
    | _ => none
  | .s2s x => match x.ev tm with
    | .sl t g lo n => match σ[t]? with
      | some (.row g' k xs) => if g' = g /\ lo + n <= xs.length /\ 0 < n then some (.lst false ((xs.drop lo).take n), σ.set t (.frow g k xs), { wr := [t] }) else none
      | _ => none
    | _ => none
  | .beq neg x y => match x.ev tm, y.ev tm with
    | .bool a, .bool b => some (.bool ((a == b) != neg), σ, {})
    | _, _ => none
  | .peq neg x y => match x.ev tm, y.ev tm with
    | .nilp, .nilp => some (.bool (true != neg), σ, {})
    | .nilp, .ref _ _ => some (.bool (false != neg), σ, {})
    | .ref _ _, .nilp => some (.bool (false != neg), σ, {})
    | _, _ => none
  | .eqv neg ks x y => match x.ev tm, y.ev tm with
    | .agg xs, .agg ys => if ZbC ks xs then match Zbh xs ys with
      | some b => some (.bool (b != neg), σ, {})
      | none => none else none
    | _, _ => none
  | .ieq neg x y => match x.ev tm, y.ev tm with
    | .nili, .nili => some (.bool (true != neg), σ, {})
    | .nili, .iface _ _ => some (.bool (false != neg), σ, {})
    | .iface _ _, .nili => some (.bool (false != neg), σ, {})
    | _, _ => none
  | .mki t x => match x.ev tm with
    | .tup _ => none
    | .top => none
    | .pan _ => none
    | v => some (.iface t v, σ, {})
  | .panic x => match x.ev tm with
    | .iface t v => some (.pan (.iface t v), σ, {})
    | _ => none
  | .call f own view args => Z4 O bf σ sq f own view (args.map (·.ev tm))
  | .callv x args => match x.ev tm with
    | .fn f caps => Z4 O bf σ sq (if f < 1000000 then f else f - 1000000) 4 false (if f < 1000000 then args.map (·.ev tm) ++ caps else caps ++ args.map (·.ev tm))
    | _ => none
  | .mkfn f caps => some (.fn f (caps.map (·.ev tm)), σ, {})
  | .i2s x => match x.ev tm with
    | .int _ n => some (.str (Utf8.encode n).data.toList, σ, {})
    | _ => none
  | .clr k z x => ZI σ k z (x.ev tm)
  | .mkmap => some (.map sq, σ.set sq (.map []), {})
  | .mkbook x => match x.ev tm with
    | .agg [.lst true [], .lst true [], .lst true [], .lst true [], .lst true [], .lst true []] => some (.ref sq 0, σ.set sq (.book 0 []), {})
    | _ => none
  | .mkrow x => match x.ev tm with
    | .agg [.lst true []] => if freeAt σ (sq + 1) then some (.ref sq 0, (σ.set sq (.var [.sl (sq + 1) 0 0 0])).set (sq + 1) (.row 0 1 []), { any := true }) else none
    | _ => none
  | .look kc z ok m k => Zer σ kc z ok (m.ev tm) (k.ev tm)
  | .mkgmap k => if 0 < k then some (.map sq, σ.set sq (.gmap k []), {}) else none
  | .glook kc z m k => Zdd σ sq kc z (m.ev tm) (k.ev tm)
  | .mset kc m k v => ZdN σ kc (m.ev tm) (k.ev tm) (v.ev tm)
  | .mdel kc m k => Zf6 σ kc (m.ev tm) (k.ev tm)
  | .mlen m => Zfo σ (m.ev tm)
  | .rslice k n z parts => if (parts.all fun p => (p.2.ev tm).cells.length == k && (p.2.ev tm).cells.all Z1) && (parts.all fun p => p.1 < n) && z.cells.length == k && z.cells.all Z1 then
      some (.sl sq 0 0 n, σ.set sq (.rrow 0 k ((parts.map fun p => (p.1, p.2.ev tm)).foldl (fun l p => l.set p.1 p.2) (Xr n z))), {})
    else none
  | .rng x => match x.ev tm with
    | .str l => some (.ref sq 0, σ.set sq (.siter l 0), {})
    | _ => none
  | .nxt x => match x.ev tm with
    | .ref t 0 => match σ[t]? with
      | some (.siter l p) => if p < l.length then some (.tup [.bool true, .int .i64 p, .int .i32 (Zgi l p).1], σ.set t (.siter l (p + (Zgi l p).2)), { any := true })
        else some (.tup [.bool false], σ, { any := true })
      | _ => none
    | _ => none
def nsite:Ins->Nat
 | .alloc _ | .box _ | .app .. | .mkslice .. | .rslice .. | .rng _ | .mkmap | .mkbook _ | .mkgmap _ | .glook ..=>1
 | .mkrow _=>2
 | .bslice own ..=>if own then 1 else 0
 | .call _ own _ _=>own
 | .callv _ _=>4
 | _=>0
def Zbq (g:Option (Nat×Bool)) (tm:Tms):Option Bool :=
 match g with
 | none=>some true
 | some (j,want)=>match tget tm j with
  | .bool b=>some (b == want)
  | .tup []=>some false
  | _=>none
def Z0 (O : Z7) (bf : Nat -> Bool) (o : AOp) (sq : Nat) (tm : Tms) (σ : Za) : Option (AVal × Tms × Za × Cls) :=
  match Zbq o.guard tm with
  | none => none
  | some false => some (.tup [], tput tm o.dst (.tup []), σ, {})
  | some true => if nsite o.ins == 0 || freeAt σ sq then
      match execI O bf tm σ sq o.ins with
      | some (v, σ', c) => some (v, tput tm o.dst v, σ', c)
      | none => none
    else none
def Z8 (O:Z7) (bf:Nat->Bool):List AOp->Nat->Tms->Za->Option (Tms×Za×List Cls×Option AVal)
 | [],_,tm,σ=>some (tm,σ,[],none)
 | o::os,s,tm,σ=>match Z0 O bf o s tm σ with
  | none=>none
  | some (.pan x,tm',σ',c)=>some (tm',σ',[c],some x)
  | some (_,tm',σ',c)=>match Z8 O bf os (s+nsite o.ins) tm' σ' with
   | none=>none
   | some (tm'',σ'',cs,p)=>some (tm'',σ'',c::cs,p)
def sitesOf (ops:List AOp):Nat:=(ops.map fun o=>nsite o.ins).sum
def ZcM (o:AOp) (c:Cls):Bool:=nsite o.ins == 0 && c.rd.isEmpty && c.wr.isEmpty && !c.any
def ZdB (c:Cls):Bool:=c.wr.isEmpty && !c.any
def Zaf:Ins->Bool
 | .call ..=>true
 | .callv ..=>true
 | _=>false
def Zai:Ins->Bool
 | .ld ..=>true
 | _=>false
def Zak:Ins->Bool
 | .app ..=>true
 | _=>false
def ZaA:Ins->Bool
 | .ld ..=>true
 | .iaddr ..=>true
 | _=>false
def Zaz:Ins->Bool
 | .bslice own ..=>!own
 | _=>false
def Zau:Ins->Bool
 | .st ..=>true
 | .glook ..=>true
 | _=>false
def ZaK:AVal->AVal->Bool
 | .int k a,.int k' b=>decide (k=k') && decide (a=b)
 | .bool a,.bool b=>a == b
 | .str a,.str b=>a == b
 | .nilp,.nilp=>true
 | .nilm,.nilm=>true
 | .nili,.nili=>true
 | .ref t o,.ref t' o'=>decide (t=t') && decide (o=o')
 | .sl t g l n,.sl t' g' l' n'=>decide (t=t') && decide (g=g') && decide (l=l') && decide (n=n')
 | .lst a [],.lst b []=>a == b
 | _,_=>false
def Zaq (cj ci:Cls):Bool:=match cj.got with
 | [(t,k,o,v)]=>match ci.upd.lookup t with
  | none=>true
  | some cs=>match partA k cs o with
   | some u=>ZaK u v
   | none=>false
 | _=>false
def ZaH (cj ci:Cls):Bool:=match cj.got with
 | [(t,_,_,_)]=>!ci.wr.contains t
 | _=>false
def ZaM (cj ci:Cls) (sj:Nat):Bool:=match ci.got with
 | [(t,_,_,_)]=>decide (t < sj) && (cj.upd.lookup t).isNone
 | _=>false
def Zc8 (oj oi:AOp) (cj ci:Cls) (sj:Nat):Bool:=ZcM oj cj || ZcM oi ci || (ZdB cj && ZdB ci && (nsite oj.ins == 0 || !ci.rd.contains sj)) || ((Zaf oj.ins || (Zak oj.ins && !cj.any)) && (ZdB ci && ci.rd.isEmpty)) || (Zai oj.ins && Zaf oi.ins && ci.any && Zaq cj ci) || (Zai oj.ins && (Zak oi.ins || (Zau oi.ins && ZaH cj ci)) && Zaq cj ci) || (ZaA oj.ins && Zaz oi.ins) || (Zaf oj.ins && Zai oi.ins && cj.any && ZaM cj ci sj) || (((Zak oj.ins && !cj.any) || Zau oj.ins) && ZdB ci && nsite oi.ins == 0 && ci.rd.all fun t=>!cj.wr.contains t && t != sj)
def ZdT (ops:List AOp) (base:Nat) (chk:List (Nat×Nat)) (cs:List Cls):Bool :=
 chk.all fun p=>p.1 == p.2 || Zc8 (ops.getD p.1 default) (ops.getD p.2 default) (cs.getD p.1 {}) (cs.getD p.2 {}) (base+sitesOf (ops.take p.1))
def Zav (ops:List AOp) (base:Nat) (chk:List (Nat×Nat)) (cs:List Cls):Bool :=
 (chk.any fun p=>p.1 == cs.length - 1 && p.2 == cs.length - 1) && chk.all fun p=>p.1 == p.2 || decide (cs.length<=p.2) || (Zc8 (ops.getD p.1 default) (ops.getD p.2 default) (cs.getD p.1 {}) (cs.getD p.2 {}) (base+sitesOf (ops.take p.1)) && (decide (p.2+1 < cs.length) || Zai (ops.getD p.1 default).ins))
inductive Za2 where
 | normal
 | exit (id:Nat)
 | ret
 | panic (x:AVal)
 deriving Inhabited
def Zdu (ops:List AOp) (L:Nat) (chk:Option (List (Nat×Nat))) (live:List Nat):Option (Tms×Za×List Cls×Option AVal)->Option (Za2×Tms×Za)
 | none=>none
 | some (_,σ,cs,some x)=>match chk with
  | none=>some (.panic x,[],σ)
  | some l=>if Zav ops L l cs then some (.panic x,[],σ) else none
 | some (tm,σ,cs,none)=>match chk with
  | none=>some (.normal,keepL live tm,σ)
  | some l=>if ZdT ops L l cs then some (.normal,keepL live tm,σ) else none
def Zcr (O:Z7) (bf:Nat->Bool) (ops:List AOp) (chk:Option (List (Nat×Nat))) (live:List Nat) (tm:Tms) (σ:Za):Option (Za2×Tms×Za) :=
 Zdu ops σ.length chk live (Z8 O bf ops σ.length tm (σ++Xr (sitesOf ops) .free))
def ZdP (m:Nat) (live:List Nat) (f:Tms->Za->Option (Za2×Tms×Za)):Nat->Tms->Za->Option (Za2×Tms×Za)
 | 0,_,_=>none
 | n+1,tm,σ=>match f (gcT m (keepL live tm) σ).1 (gcT m (keepL live tm) σ).2 with
  | some (.normal,tm',σ')=>ZdP m live f n tm' σ'
  | r=>r
def Zab (O:Z7) (bf:Nat->Bool) (m n:Nat):Zv->Tms->Za->Option (Za2×Tms×Za)
 | .skip,tm,σ=>some (.normal,tm,σ)
 | .region ops chk live,tm,σ=>Zcr O bf ops chk live tm σ
 | .seq a b,tm,σ=>match Zab O bf m n a tm σ with
  | some (.normal,tm',σ')=>Zab O bf m n b tm' σ'
  | r=>r
 | .cond c a b,tm,σ=>match c.ev tm with
  | .bool true=>Zab O bf m n a tm σ
  | .bool false=>Zab O bf m n b tm σ
  | _=>none
 | .block id c,tm,σ=>match Zab O bf m n c tm σ with
  | some (.exit i,tm',σ')=>if i=id then some (.normal,tm',σ') else some (.exit i,tm',σ')
  | r=>r
 | .loop live c,tm,σ=>ZdP m live (Zab O bf m n c) n tm σ
 | .exit id,tm,σ=>some (.exit id,tm,σ)
 | .ret,tm,σ=>some (.ret,tm,σ)
 | .stuck,_,_=>none
def resOne (tm:Tms) (σ:Za):Zda->Option AVal
 | .tmp t=>some (tget tm t)
 | .cell a k=>match ldA σ k (tget tm a) with
  | some (v,_,_)=>some v
  | none=>none
def resAll (tm:Tms) (σ:Za):List Zda->Option (List AVal)
 | []=>some []
 | r::rs=>match resOne tm σ r with
  | some v=>match resAll tm σ rs with
   | some vs=>some (v::vs)
   | none=>none
  | none=>none
def resA (tm:Tms) (σ:Za) (rs:List Zda):Option AVal :=
 match resAll tm σ rs with
 | some [v]=>some v
 | some vs=>some (.tup vs)
 | none=>none
def Zay (m:Nat) (σ:Za) (r:AVal):Option (AVal×Za):=match gcA m [r] σ with
 | ([r'],σ')=>some (r',σ')
 | _=>none
def Za4 (m:Nat) (fn:Zam):Option (Za2×Tms×Za)->Option (AVal×Za)
 | some (.normal,tm,σ)=>match resA tm σ fn.res with
  | some r=>Zay m σ r
  | none=>none
 | some (.ret,tm,σ)=>match resA tm σ fn.res with
  | some r=>Zay m σ r
  | none=>none
 | some (.panic x,_,σ)=>Zay m σ (.pan x)
 | _=>none
def enterA:Nat->List AVal->Tms->Tms
 | _,[],acc=>acc
 | i,x::xs,acc=>enterA (i+1) xs ((i,x)::acc)
abbrev Zbz:=Nat->Option (List AVal->Za->Option (AVal×Za))
def ZaB (fs:Nat->Option Zam) (prim:Zbz) (bf:Nat->Bool):Nat->Z7
 | 0,_,_,_=>none
 | n+1,f,args,σ=>match prim f with
  | some g=>g args σ
  | none=>match fs f with
   | none=>none
   | some fn=>Za4 σ.length fn (Zab (ZaB fs prim bf n) bf σ.length n fn.body (enterA 0 args []) σ)
def oI (d:Nat) (i:Ins):AOp:=⟨some d,i,none,[]⟩
def oN (i:Ins):AOp:=⟨none,i,none,[]⟩
def oM (d n:Nat):AOp:=⟨some d,.mov (.t n),none,[]⟩
def oF (d o n:Nat):AOp:=⟨some d,.faddr o (.t n),none,[]⟩
def oL (d n:Nat):AOp:=⟨some d,.ld none (.t n),none,[]⟩
end
section
open Go.RowKit
abbrev Imm:=Nat->Nat->Option Value
structure BI where
 b:Option Nat
 k:Nat
 cap:Nat
abbrev Bmap:=Nat->Nat->Option BI
mutual
def ZaT:AVal->Bool
 | .int _ _=>true
 | .bool _=>true
 | .str _=>true
 | .nilp=>true
 | .nilm=>true
 | .nili=>true
 | .lst _ xs=>Zac xs
 | _=>false
def ZaQ:List AVal->Bool
 | []=>true
 | c::cs=>ZaT c && ZaQ cs
def Zac:List AVal->Bool
 | []=>true
 | .agg cs::xs=>ZaQ cs && Zac xs
 | x::xs=>ZaT x && Zac xs
end
mutual
def VR (I:Imm) (β:Bmap):AVal->Value->Prop
 | .top,_=>True
 | .any,v=>v.cells=#[v]/\v.oneCell'=true
 | .int k n,v=>v=.int k n
 | .bool b,v=>v=.bool b
 | .str l,v=>v=.string ⟨l.toArray⟩/\l.length<=9223372036854775807
 | .nilp,v=>v=.pointer none
 | .ref t o,v=>∃ b k c,β t 0=some ⟨some b,k,c⟩/\v=.pointer (some ⟨b,o,none⟩)
 | .eref t g i o,v=>∃ b k c,β t g=some ⟨some b,k,c⟩/\v=.pointer (some ⟨b,i*k+o,none⟩)
 | .iptr cs o,v=>∃ b off,v=.pointer (some ⟨b,off+o,none⟩)/\CR I β cs b off/\ZaQ cs=true
 | .lst x xs,v=>∃ A cap,v=.slice A xs.length cap/\xs.length<=cap/\cap<=9223372036854775807/\(x=true->cap=xs.length)/\(xs=[]\/∃ b off k,A=some ⟨b,off,none⟩/\0 < k/\LR I β k xs b off)/\Zac xs=true
 | .sl t g lo n,v=>∃ bi,β t g=some bi/\lo+n<=bi.cap/\bi.cap<=9223372036854775807/\((∃ b,bi.b=some b/\v=.slice (some ⟨b,lo*bi.k,none⟩) n (bi.cap - lo))\/(bi.b=none/\bi.cap=0/\∃ A,v=.slice A 0 0)\/(0 < lo/\lo=bi.cap/\n=0/\∃ A,v=.slice A 0 0))
 | .agg cs,v=>∃ us,v=.agg us/\VRs I β cs us.toList
 | .tup vs,v=>∃ us,v=.tuple us/\VRs I β vs us.toList
 | .fn f caps,v=>∃ fs us,v=.func (.func (if f < 1000000 then f else f - 1000000)) fs us/\(if f < 1000000 then fs=#[] else us=#[])/\VRs I β caps (fs.toList++us.toList)
 | .nilm,v=>v=.map none
 | .map t,v=>∃ b k c,β t 0=some ⟨some b,k,c⟩/\v=.map (some b)
 | .nili,v=>v=.nilIface
 | .iface t x,v=>∃ u,v=.iface t u/\VR I β x u
 | .pan _,_=>False
def VRs (I:Imm) (β:Bmap):List AVal->List Value->Prop
 | [],vs=>vs=[]
 | x::xs,vs=>∃ v vs',vs=v::vs'/\VR I β x v/\VRs I β xs vs'
def CR (I:Imm) (β:Bmap):List AVal->Nat->Nat->Prop
 | [],_,_=>True
 | c::cs,b,off=>(∃ u,I b off=some u/\VR I β c u)/\CR I β cs b (off+1)
def LR (I:Imm) (β:Bmap) (k:Nat):List AVal->Nat->Nat->Prop
 | [],_,_=>True
 | .agg cs::xs,b,off=>(cs.length=k/\CR I β cs b off)/\LR I β k xs b (off+k)
 | x::xs,b,off=>(1=k/\∃ u,I b off=some u/\VR I β x u)/\LR I β k xs b (off+k)
end
def Imm.le (I I':Imm):Prop:=∀ b o u,I b o=some u->I' b o=some u
def Bmap.le (β β':Bmap):Prop:=∀ t g bi,β t g=some bi->β' t g=some bi
theorem Imm.le.refl (I:Imm):I.le I:=fun _ _ _ h=>h
theorem Bmap.le.refl (β:Bmap):β.le β:=fun _ _ _ h=>h
theorem Imm.le.trans {I J K:Imm} (h:I.le J) (h':J.le K):I.le K:=fun b o u e=>h' b o u (h b o u e)
theorem Bmap.le.trans {I J K:Bmap} (h:I.le J) (h':J.le K):I.le K:=fun b o u e=>h' b o u (h b o u e)
mutual
theorem VR.mono {I I':Imm} {β β':Bmap} (hI:I.le I') (hβ:β.le β'):∀ (x:AVal) (v:Value),VR I β x v->VR I' β' x v
 | .top,_,_=>by simp only [VR]
 | .pan _,_,h=>by simp only [VR] at h
 | .nili,_,h=>by simpa only [VR] using h
 | .iface t x,_,h=>by
  simp only [VR] at h ⊢
  obtain ⟨u,h1,h2⟩:=h
  exact ⟨u,h1,VR.mono hI hβ x u h2⟩
 | .any,_,h=>by simpa only [VR] using h
 | .int _ _,_,h=>by simpa only [VR] using h
 | .bool _,_,h=>by simpa only [VR] using h
 | .str _,_,h=>by simpa only [VR] using h
 | .nilp,_,h=>by simpa only [VR] using h
 | .nilm,_,h=>by simpa only [VR] using h
 | .ref t o,_,h=>by
  simp only [VR] at h ⊢
  obtain ⟨b,k,c,h1,h2⟩:=h
  exact ⟨b,k,c,hβ _ _ _ h1,h2⟩
 | .eref t g i o,_,h=>by
  simp only [VR] at h ⊢
  obtain ⟨b,k,c,h1,h2⟩:=h
  exact ⟨b,k,c,hβ _ _ _ h1,h2⟩
 | .map t,_,h=>by
  simp only [VR] at h ⊢
  obtain ⟨b,k,c,h1,h2⟩:=h
  exact ⟨b,k,c,hβ _ _ _ h1,h2⟩
 | .iptr cs o,_,h=>by
  simp only [VR] at h ⊢
  obtain ⟨b,off,h1,h2,h3⟩:=h
  exact ⟨b,off,h1,CR.mono hI hβ cs b off h2,h3⟩
 | .lst x xs,_,h=>by
  simp only [VR] at h ⊢
  obtain ⟨A,cap,h1,h2,h3,h4,h5,h6⟩:=h
  refine ⟨A,cap,h1,h2,h3,h4,?_,h6⟩
  rcases h5 with h5 | ⟨b,off,k,e,hk,h5⟩
  ·exact XH h5
  ·exact XO ⟨b,off,k,e,hk,LR.mono hI hβ k xs b off h5⟩
 | .sl t g lo n,_,h=>by
  simp only [VR] at h ⊢
  obtain ⟨bi,h1,h2⟩:=h
  exact ⟨bi,hβ _ _ _ h1,h2⟩
 | .agg cs,_,h=>by
  simp only [VR] at h ⊢
  obtain ⟨us,h1,h2⟩:=h
  exact ⟨us,h1,VRs.mono hI hβ cs us.toList h2⟩
 | .tup cs,_,h=>by
  simp only [VR] at h ⊢
  obtain ⟨us,h1,h2⟩:=h
  exact ⟨us,h1,VRs.mono hI hβ cs us.toList h2⟩
 | .fn f cs,_,h=>by
  simp only [VR] at h ⊢
  obtain ⟨fs,us,h1,h0,h2⟩:=h
  exact ⟨fs,us,h1,h0,VRs.mono hI hβ cs (fs.toList++us.toList) h2⟩
theorem VRs.mono {I I':Imm} {β β':Bmap} (hI:I.le I') (hβ:β.le β'):∀ (xs:List AVal) (vs:List Value),VRs I β xs vs->VRs I' β' xs vs
 | [],_,h=>by simpa only [VRs] using h
 | x::xs,_,h=>by
  simp only [VRs] at h ⊢
  obtain ⟨v,vs',h1,h2,h3⟩:=h
  exact ⟨v,vs',h1,VR.mono hI hβ x v h2,VRs.mono hI hβ xs vs' h3⟩
theorem CR.mono {I I':Imm} {β β':Bmap} (hI:I.le I') (hβ:β.le β'):∀ (xs:List AVal) (b off:Nat),CR I β xs b off->CR I' β' xs b off
 | [],_,_,_=>by simp only [CR]
 | x::xs,b,off,h=>by
  simp only [CR] at h ⊢
  obtain ⟨⟨u,h1,h2⟩,h3⟩:=h
  exact ⟨⟨u,hI _ _ _ h1,VR.mono hI hβ x u h2⟩,CR.mono hI hβ xs b (off+1) h3⟩
theorem LR.mono {I I':Imm} {β β':Bmap} (hI:I.le I') (hβ:β.le β') (k:Nat):∀ (xs:List AVal) (b off:Nat),LR I β k xs b off->LR I' β' k xs b off
 | [],_,_,_=>by simp only [LR]
 | .agg cs::xs,b,off,h=>by
  simp only [LR] at h ⊢
  obtain ⟨⟨h1,h2⟩,h3⟩:=h
  exact ⟨⟨h1,CR.mono hI hβ cs b off h2⟩,LR.mono hI hβ k xs b (off+k) h3⟩
 | .int a b'::xs,b,off,h=>by
  simp only [LR] at h ⊢
  obtain ⟨⟨h0,u,h1,h2⟩,h3⟩:=h
  exact ⟨⟨h0,u,hI _ _ _ h1,VR.mono hI hβ _ u h2⟩,LR.mono hI hβ k xs b (off+k) h3⟩
 | .any::xs,b,off,h=>by
  simp only [LR] at h ⊢
  obtain ⟨⟨h0,u,h1,h2⟩,h3⟩:=h
  exact ⟨⟨h0,u,hI _ _ _ h1,VR.mono hI hβ _ u h2⟩,LR.mono hI hβ k xs b (off+k) h3⟩
 | .bool _::xs,b,off,h=>by
  simp only [LR] at h ⊢
  obtain ⟨⟨h0,u,h1,h2⟩,h3⟩:=h
  exact ⟨⟨h0,u,hI _ _ _ h1,VR.mono hI hβ _ u h2⟩,LR.mono hI hβ k xs b (off+k) h3⟩
 | .str _::xs,b,off,h=>by
  simp only [LR] at h ⊢
  obtain ⟨⟨h0,u,h1,h2⟩,h3⟩:=h
  exact ⟨⟨h0,u,hI _ _ _ h1,VR.mono hI hβ _ u h2⟩,LR.mono hI hβ k xs b (off+k) h3⟩
 | .nilp::xs,b,off,h=>by
  simp only [LR] at h ⊢
  obtain ⟨⟨h0,u,h1,h2⟩,h3⟩:=h
  exact ⟨⟨h0,u,hI _ _ _ h1,VR.mono hI hβ _ u h2⟩,LR.mono hI hβ k xs b (off+k) h3⟩
 | .nilm::xs,b,off,h=>by
  simp only [LR] at h ⊢
  obtain ⟨⟨h0,u,h1,h2⟩,h3⟩:=h
  exact ⟨⟨h0,u,hI _ _ _ h1,VR.mono hI hβ _ u h2⟩,LR.mono hI hβ k xs b (off+k) h3⟩
 | .ref _ _::xs,b,off,h=>by
  simp only [LR] at h ⊢
  obtain ⟨⟨h0,u,h1,h2⟩,h3⟩:=h
  exact ⟨⟨h0,u,hI _ _ _ h1,VR.mono hI hβ _ u h2⟩,LR.mono hI hβ k xs b (off+k) h3⟩
 | .eref _ _ _ _::xs,b,off,h=>by
  simp only [LR] at h ⊢
  obtain ⟨⟨h0,u,h1,h2⟩,h3⟩:=h
  exact ⟨⟨h0,u,hI _ _ _ h1,VR.mono hI hβ _ u h2⟩,LR.mono hI hβ k xs b (off+k) h3⟩
 | .iptr _ _::xs,b,off,h=>by
  simp only [LR] at h ⊢
  obtain ⟨⟨h0,u,h1,h2⟩,h3⟩:=h
  exact ⟨⟨h0,u,hI _ _ _ h1,VR.mono hI hβ _ u h2⟩,LR.mono hI hβ k xs b (off+k) h3⟩
 | .lst _ _::xs,b,off,h=>by
  simp only [LR] at h ⊢
  obtain ⟨⟨h0,u,h1,h2⟩,h3⟩:=h
  exact ⟨⟨h0,u,hI _ _ _ h1,VR.mono hI hβ _ u h2⟩,LR.mono hI hβ k xs b (off+k) h3⟩
 | .sl _ _ _ _::xs,b,off,h=>by
  simp only [LR] at h ⊢
  obtain ⟨⟨h0,u,h1,h2⟩,h3⟩:=h
  exact ⟨⟨h0,u,hI _ _ _ h1,VR.mono hI hβ _ u h2⟩,LR.mono hI hβ k xs b (off+k) h3⟩
 | .top::xs,b,off,h=>by
  simp only [LR] at h ⊢
  obtain ⟨⟨h0,u,h1,h2⟩,h3⟩:=h
  exact ⟨⟨h0,u,hI _ _ _ h1,VR.mono hI hβ _ u h2⟩,LR.mono hI hβ k xs b (off+k) h3⟩
 | .pan _::xs,b,off,h=>by
  simp only [LR] at h ⊢
  obtain ⟨⟨h0,u,h1,h2⟩,h3⟩:=h
  exact ⟨⟨h0,u,hI _ _ _ h1,VR.mono hI hβ _ u h2⟩,LR.mono hI hβ k xs b (off+k) h3⟩
 | .nili::xs,b,off,h=>by
  simp only [LR] at h ⊢
  obtain ⟨⟨h0,u,h1,h2⟩,h3⟩:=h
  exact ⟨⟨h0,u,hI _ _ _ h1,VR.mono hI hβ _ u h2⟩,LR.mono hI hβ k xs b (off+k) h3⟩
 | .iface _ _::xs,b,off,h=>by
  simp only [LR] at h ⊢
  obtain ⟨⟨h0,u,h1,h2⟩,h3⟩:=h
  exact ⟨⟨h0,u,hI _ _ _ h1,VR.mono hI hβ _ u h2⟩,LR.mono hI hβ k xs b (off+k) h3⟩
 | .tup _::xs,b,off,h=>by
  simp only [LR] at h ⊢
  obtain ⟨⟨h0,u,h1,h2⟩,h3⟩:=h
  exact ⟨⟨h0,u,hI _ _ _ h1,VR.mono hI hβ _ u h2⟩,LR.mono hI hβ k xs b (off+k) h3⟩
 | .fn _ _::xs,b,off,h=>by
  simp only [LR] at h ⊢
  obtain ⟨⟨h0,u,h1,h2⟩,h3⟩:=h
  exact ⟨⟨h0,u,hI _ _ _ h1,VR.mono hI hβ _ u h2⟩,LR.mono hI hβ k xs b (off+k) h3⟩
 | .map _::xs,b,off,h=>by
  simp only [LR] at h ⊢
  obtain ⟨⟨h0,u,h1,h2⟩,h3⟩:=h
  exact ⟨⟨h0,u,hI _ _ _ h1,VR.mono hI hβ _ u h2⟩,LR.mono hI hβ k xs b (off+k) h3⟩
end
theorem Zgf (I:Imm) (β:Bmap) (k:Nat) (x:AVal) (xs:List AVal) (b off:Nat):LR I β k (x::xs) b off↔(x.cells.length=k/\CR I β x.cells b off)/\LR I β k xs b (off+k):=by
 cases x <;> simp [LR,CR,AVal.cells]
theorem Zwf (x:AVal) (xs:List AVal):Zac (x::xs)=(ZaQ x.cells && Zac xs):=by
 cases x <;> simp [Zac,ZaQ,AVal.cells]
def B0:Bmap:=fun _ _=>none
theorem ZfU (β:Bmap):B0.le β:=fun _ _ _ h=>by cases h
mutual
theorem VR.tree {I:Imm} {β:Bmap}:∀ (x:AVal) (v:Value),ZaT x=true->VR I β x v->VR I B0 x v
 | .int _ _,_,_,h=>by simpa only [VR] using h
 | .bool _,_,_,h=>by simpa only [VR] using h
 | .str _,_,_,h=>by simpa only [VR] using h
 | .nilp,_,_,h=>by simpa only [VR] using h
 | .nilm,_,_,h=>by simpa only [VR] using h
 | .nili,_,_,h=>by simpa only [VR] using h
 | .top,_,ht,_=>by simp [ZaT] at ht
 | .pan _,_,ht,_=>by simp [ZaT] at ht
 | .iface _ _,_,ht,_=>by simp [ZaT] at ht
 | .lst x xs,_,ht,h=>by
  simp only [VR] at h ⊢
  obtain ⟨A,cap,h1,h2,h3,h4,h5,h6⟩:=h
  refine ⟨A,cap,h1,h2,h3,h4,?_,h6⟩
  rcases h5 with h5 | ⟨b,off,k,e,hk,h5⟩
  ·exact XH h5
  ·exact XO ⟨b,off,k,e,hk,LR.tree k xs b off h6 h5⟩
 | .any,_,ht,_=>by simp [ZaT] at ht
 | .ref _ _,_,ht,_=>by simp [ZaT] at ht
 | .eref _ _ _ _,_,ht,_=>by simp [ZaT] at ht
 | .iptr _ _,_,ht,_=>by simp [ZaT] at ht
 | .sl _ _ _ _,_,ht,_=>by simp [ZaT] at ht
 | .agg _,_,ht,_=>by simp [ZaT] at ht
 | .tup _,_,ht,_=>by simp [ZaT] at ht
 | .fn _ _,_,ht,_=>by simp [ZaT] at ht
 | .map _,_,ht,_=>by simp [ZaT] at ht
theorem CR.tree {I:Imm} {β:Bmap}:∀ (xs:List AVal) (b off:Nat),ZaQ xs=true->CR I β xs b off->CR I B0 xs b off
 | [],_,_,_,_=>by simp only [CR]
 | x::xs,b,off,ht,h=>by
  simp only [CR] at h ⊢
  simp only [ZaQ,Xt] at ht
  obtain ⟨⟨u,h1,h2⟩,h3⟩:=h
  exact ⟨⟨u,h1,VR.tree x u ht.1 h2⟩,CR.tree xs b (off+1) ht.2 h3⟩
theorem LR.tree {I:Imm} {β:Bmap} (k:Nat):∀ (xs:List AVal) (b off:Nat),Zac xs=true->LR I β k xs b off->LR I B0 k xs b off
 | [],_,_,_,_=>by simp only [LR]
 | .agg cs::xs,b,off,ht,h=>by
  simp only [LR] at h ⊢
  simp only [Zac,Xt] at ht
  exact ⟨⟨h.1.1,CR.tree cs b off ht.1 h.1.2⟩,LR.tree k xs b (off+k) ht.2 h.2⟩
 | .int p q::xs,b,off,ht,h=>by
  simp only [LR] at h ⊢
  simp only [Zac,Xt] at ht
  obtain ⟨⟨h0,u,h1,h2⟩,h3⟩:=h
  exact ⟨⟨h0,u,h1,VR.tree _ u ht.1 h2⟩,LR.tree k xs b (off+k) ht.2 h3⟩
 | .bool p::xs,b,off,ht,h=>by
  simp only [LR] at h ⊢
  simp only [Zac,Xt] at ht
  obtain ⟨⟨h0,u,h1,h2⟩,h3⟩:=h
  exact ⟨⟨h0,u,h1,VR.tree _ u ht.1 h2⟩,LR.tree k xs b (off+k) ht.2 h3⟩
 | .str p::xs,b,off,ht,h=>by
  simp only [LR] at h ⊢
  simp only [Zac,Xt] at ht
  obtain ⟨⟨h0,u,h1,h2⟩,h3⟩:=h
  exact ⟨⟨h0,u,h1,VR.tree _ u ht.1 h2⟩,LR.tree k xs b (off+k) ht.2 h3⟩
 | .nilp::xs,b,off,ht,h=>by
  simp only [LR] at h ⊢
  simp only [Zac,Xt] at ht
  obtain ⟨⟨h0,u,h1,h2⟩,h3⟩:=h
  exact ⟨⟨h0,u,h1,VR.tree _ u ht.1 h2⟩,LR.tree k xs b (off+k) ht.2 h3⟩
 | .nilm::xs,b,off,ht,h=>by
  simp only [LR] at h ⊢
  simp only [Zac,Xt] at ht
  obtain ⟨⟨h0,u,h1,h2⟩,h3⟩:=h
  exact ⟨⟨h0,u,h1,VR.tree _ u ht.1 h2⟩,LR.tree k xs b (off+k) ht.2 h3⟩
 | .nili::xs,b,off,ht,h=>by
  simp only [LR] at h ⊢
  simp only [Zac,Xt] at ht
  obtain ⟨⟨h0,u,h1,h2⟩,h3⟩:=h
  exact ⟨⟨h0,u,h1,VR.tree _ u ht.1 h2⟩,LR.tree k xs b (off+k) ht.2 h3⟩
 | .top::_,_,_,ht,_=>by simp [Zac,ZaT] at ht
 | .pan _::_,_,_,ht,_=>by simp [Zac,ZaT] at ht
 | .iface _ _::_,_,_,ht,_=>by simp [Zac,ZaT] at ht
 | .lst p q::xs,b,off,ht,h=>by
  simp only [LR] at h ⊢
  simp only [Zac,Xt] at ht
  obtain ⟨⟨h0,u,h1,h2⟩,h3⟩:=h
  exact ⟨⟨h0,u,h1,VR.tree _ u ht.1 h2⟩,LR.tree k xs b (off+k) ht.2 h3⟩
 | .any::_,_,_,ht,_=>by simp [Zac,ZaT] at ht
 | .ref _ _::_,_,_,ht,_=>by simp [Zac,ZaT] at ht
 | .eref _ _ _ _::_,_,_,ht,_=>by simp [Zac,ZaT] at ht
 | .iptr _ _::_,_,_,ht,_=>by simp [Zac,ZaT] at ht
 | .sl _ _ _ _::_,_,_,ht,_=>by simp [Zac,ZaT] at ht
 | .tup _::_,_,_,ht,_=>by simp [Zac,ZaT] at ht
 | .fn _ _::_,_,_,ht,_=>by simp [Zac,ZaT] at ht
 | .map _::_,_,_,ht,_=>by simp [Zac,ZaT] at ht
end
theorem VR.of_tree {I:Imm} {β β':Bmap} {x:AVal} {v:Value} (ht:ZaT x=true) (h:VR I β x v):VR I β' x v:=(VR.tree x v ht h).mono (Imm.le.refl I) (ZfU β') x v
theorem CR.of_tree {I:Imm} {β β':Bmap} {x:List AVal} {b off:Nat} (ht:ZaQ x=true) (h:CR I β x b off):CR I β' x b off:=(CR.tree x b off ht h).mono (Imm.le.refl I) (ZfU β') x b off
theorem Zan {I:Imm} {β:Bmap}:∀ {xs:List AVal} {vs:List Value},VRs I β xs vs->xs.length=vs.length
 | [],vs,h=>by simp only [VRs] at h;subst h;rfl
 | x::xs,vs,h=>by
  simp only [VRs] at h
  obtain ⟨v,vs',rfl,_,h3⟩:=h
  simp [Zan h3]
theorem ZcF {I:Imm} {β:Bmap}:∀ {xs:List AVal} {vs:List Value} (_:VRs I β xs vs) {i:Nat} {x:AVal},xs[i]?=some x->∃ v,vs[i]?=some v/\VR I β x v
 | [],_,_,i,x,hx=>by simp at hx
 | y::xs,vs,h,i,x,hx=>by
  simp only [VRs] at h
  obtain ⟨v,vs',rfl,h2,h3⟩:=h
  cases i with
  | zero=>simp only [XN,Xa] at hx;subst hx;exact ⟨v,rfl,h2⟩
  | succ i=>simp only [XC] at hx ⊢;exact ZcF h3 hx
theorem ZdF {I:Imm} {β:Bmap}:∀ {xs:List AVal} {vs:List Value},xs.length=vs.length->(∀ (i:Nat) (x:AVal) (v:Value),xs[i]?=some x->vs[i]?=some v->VR I β x v)->VRs I β xs vs
 | [],vs,hl,_=>by simp only [VRs];exact Wb hl.symm
 | x::xs,[],hl,_=>by simp at hl
 | x::xs,v::vs,hl,h=>by
  simp only [VRs]
  exact ⟨v,vs,rfl,h 0 x v rfl rfl,ZdF (by simpa using hl) (fun i a b h1 h2=>h (i+1) a b (by simpa using h1) (by simpa using h2))⟩
theorem ZDs {I:Imm} {β:Bmap} {xs:List AVal} {vs:List Value} (h:VRs I β xs vs) (i:Nat):VR I β (xs.getD i (.tup [])) (vs.getD i (.tuple #[])):=by
 cases hx:xs[i]? with
 | some x =>
  obtain ⟨v,hv,h⟩:=ZcF h hx
  simpa [Xn,hx,hv] using h
 | none =>
  have hv:vs[i]?=none:=by rw [Wd] at hx ⊢;rw [<-Zan h];exact hx
  simp only [Xn,hx,hv,Option.getD_none,VR,VRs]
  exact ⟨#[],rfl,rfl⟩
theorem ZiA {I:Imm} {β:Bmap} {xs:List AVal} {vs:List Value} (h:VRs I β xs vs) {x:AVal} {v:Value} (hx:VR I β x v) (i:Nat):VRs I β (xs.set i x) (vs.set i v):=by
 have hl:=Zan h
 refine ZdF (by simp [hl]) (fun j a b ha hb=>?_)
 rw [Xv] at ha hb
 by_cases hij:i=j
 ·subst hij
  simp only [if_true] at ha hb
  split at ha
  ·rw [if_pos (by omega)] at hb
   simp only [Xa] at ha hb
   subst ha hb
   exact hx
  ·cases ha
 ·rw [if_neg hij] at ha hb
  obtain ⟨v',h1,h2⟩:=ZcF h ha
  rw [h1] at hb
  injection hb with hb
  exact hb ▸ h2
theorem Zcu {I:Imm} {β:Bmap}:∀ {xs ys:List AVal} {us vs:List Value},VRs I β xs us->VRs I β ys vs->VRs I β (xs++ys) (us++vs)
 | [],_,us,_,h,h'=>by simp only [VRs] at h;subst h;simpa using h'
 | x::xs,ys,us,vs,h,h'=>by
  simp only [VRs] at h
  obtain ⟨v,us',rfl,h2,h3⟩:=h
  simp only [List.cons_append,VRs]
  exact ⟨v,us'++vs,rfl,h2,Zcu h3 h'⟩
theorem Zeu {I:Imm} {β:Bmap} {xs:List AVal} {us:List Value} (h:VRs I β xs us) (n:Nat):VRs I β (xs.take n) (us.take n):=by
 refine ZdF (by simp [Zan h]) (fun i x v hx hv=>?_)
 rw [X8] at hx hv
 split at hx
 ·rw [if_pos ‹_›] at hv
  obtain ⟨v',h1,h2⟩:=ZcF h hx
  rw [h1] at hv;injection hv with hv;exact hv ▸ h2
 ·cases hx
theorem ZdY {I:Imm} {β:Bmap} {xs:List AVal} {us:List Value} (h:VRs I β xs us) (n:Nat):VRs I β (xs.drop n) (us.drop n):=by
 refine ZdF (by simp [Zan h]) (fun i x v hx hv=>?_)
 rw [WK] at hx hv
 obtain ⟨v',h1,h2⟩:=ZcF h hx
 rw [h1] at hv;injection hv with hv;exact hv ▸ h2
theorem ZhH {I:Imm} {β:Bmap} {xs ys:List AVal} {us vs:List Value} (h:VRs I β xs us) (h':VRs I β ys vs) (o:Nat):VRs I β (setAt xs o ys) (us.take o++vs++us.drop (o+vs.length)):=by
 unfold setAt
 rw [<-Zan h']
 exact Zcu (Zcu (Zeu h o) h') (ZdY h _)
theorem ZdR {I:Imm} {β:Bmap} {x:AVal} {v:Value} (ht:x≠.top) (h:VR I β x v):VRs I β x.cells v.cells.toList:=by
 cases x
 case top=>exact absurd rfl ht
 case pan x=>simp only [VR] at h
 case agg cs =>
  simp only [VR] at h
  obtain ⟨us,rfl,h⟩:=h
  exact h
 all_goals
  have hv:v.cells=#[v]:=by
   simp only [VR] at h
   try exact h.1
   try (obtain ⟨_,_,_,_,rfl⟩:=h;rfl)
   try (obtain ⟨_,_,rfl,_⟩:=h;rfl)
   try (obtain ⟨_,rfl,_⟩:=h;rfl)
   try (obtain ⟨rfl,_⟩:=h;rfl)
   try (subst h;rfl)
   try (obtain ⟨_,_,_,_,(⟨_,_,rfl⟩ | ⟨_,_,_,rfl⟩ | ⟨_,_,_,_,rfl⟩)⟩:=h <;> rfl)
  rw [hv]
  simp only [AVal.cells,VRs]
  exact ⟨v,[],rfl,h,rfl⟩
def ZfP (arr:Array MapEntry) (clk:Nat):Prop:=(∀ e ∈ arr.toList,e.born < clk)/\(arr.toList.map (·.born)).Nodup
def ZaS:Value->Option Nat
 | .slice A _ c=>if c=0 then none else A.map (·.block)
 | _=>none
def ZdH (w:World) (b:Nat):List Value:=match w.heap[b]? with
 | some (.cells us _ _)=>us.toList
 | _=>[]
def ZcL (w:World) (q:Nat):Value->List Nat
 | .slice A n c=>if c=0 then [] else match A with
  | some a=>a.block::((ZdH w a.block).take (n - q)).filterMap ZaS
  | none=>[]
 | _=>[]
def Zdk (w:World) (kb q:Nat):List Nat:=kb::(ZcL w q ((ZdH w kb).getD 4 .nilIface)++ZcL w 0 ((ZdH w kb).getD 5 .nilIface))
def OwnV (w:World) (v:Value) (xs:List Value):Prop:=∃ A n c,v=.slice A n c/\xs.length=n/\n<=c/\c<=9223372036854775807/\(c=0\/∃ g cur e,A=some ⟨g,0,none⟩/\w.heap[g]?=some (.cells cur e (0,0))/\cur.size=c/\cur.toList.take n=xs)
def Zo9 (l:List Int):List Value:=l.map (Value.int .i64 ·)
def BookW (w:World) (kb n:Nat) (pend:List (Value×List Int)):Prop:=(Zdk w kb pend.length).Nodup/\∃ us ty B0 B1 B2 B3 v4 v5 bs hs,w.heap[kb]?=some (.cells us ty (0,0))/\us.toList=[.slice B0 0 0,.slice B1 0 0,.slice B2 0 0,.slice B3 0 0,v4,v5] /\
 OwnV w v4 (bs++pend.map (·.1))/\OwnV w v5 hs/\bs.length=n/\hs.length=n+pend.length/\(∀ (i:Nat) (b h:Value),bs[i]?=some b->hs[i]?=some h->∃ l:List Int,l.length<=65536/\OwnV w b (Zo9 l)/\OwnV w h (Zo9 l)) /\
 ∀ (i:Nat) (v h:Value) (l:List Int),pend[i]?=some (v,l)->hs[n+i]?=some h->l.length<=65536/\OwnV w h (Zo9 l)
theorem OwnV.keep {w w':World} {v:Value} {xs:List Value} (h:OwnV w v xs) (hk:∀ g,ZaS v=some g->w'.heap[g]?=w.heap[g]?):OwnV w' v xs:=by
 obtain ⟨A,n,c,rfl,h1,h2,h3,h4⟩:=h
 refine ⟨A,n,c,rfl,h1,h2,h3,?_⟩
 rcases h4 with h4 | ⟨g,cur,e,rfl,hg,hs,ht⟩
 ·exact XH h4
 ·by_cases hc:c=0
  ·exact XH hc
  ·exact XO ⟨g,cur,e,rfl,by rw [hk g (by simp [ZaS,hc])];exact hg,hs,ht⟩
theorem ZyT {w:World} {q:Nat} {v:Value} {g:Nat} (h:ZaS v=some g):g ∈ ZcL w q v:=by
 cases v <;> simp only [ZaS] at h <;> try cases h
 rename_i A n c
 split at h
 ·cases h
 ·rcases A with _ | a
  ·cases h
  ·simp only [X4,Xa] at h
   simp [ZcL,‹¬c=0›,h]
theorem ZyS {w:World} {v b:Value} {bs ps:List Value} {g:Nat} (h:OwnV w v (bs++ps)) (hb:b ∈ bs) (hg:ZaS b=some g):g ∈ ZcL w ps.length v:=by
 obtain ⟨A,n,c,rfl,h1,h2,h3,h4⟩:=h
 have hl:0 < bs.length:=List.length_pos_of_mem hb
 rw [XE] at h1
 rcases h4 with h4 | ⟨g',cur,e,rfl,hg',hs,ht⟩
 ·omega
 ·have hc:c≠0:=by omega
  have e1:(cur.toList.take (n - ps.length))=bs:=by
   have : (cur.toList.take n).take (n - ps.length)=bs:=by rw [ht,show n - ps.length=bs.length by omega,XaA]
   rwa [XaB,Xak (by omega)] at this
  simp only [ZcL,hc,if_false,ZdH,hg',e1]
  exact WE _ (Xax.2 ⟨b,hb,hg⟩)
theorem ZxN {w w':World} {b:Nat} (h:w'.heap[b]?=w.heap[b]?):ZdH w' b=ZdH w b:=by unfold ZdH;rw [h]
theorem Zw8 {w w':World} {q:Nat} {v:Value} (h:∀ b ∈ ZcL w q v,w'.heap[b]?=w.heap[b]?):ZcL w' q v=ZcL w q v:=by
 cases v <;> try rfl
 rename_i A n c
 by_cases hc:c=0
 ·simp [ZcL,hc]
 ·rcases A with _ | a
  ·simp [ZcL,hc]
  ·simp only [ZcL,hc,if_false] at h ⊢
   rw [ZxN (h a.block (by simp))]
theorem ZyV {w w':World} {kb q:Nat} (h:∀ b ∈ Zdk w kb q,w'.heap[b]?=w.heap[b]?):Zdk w' kb q=Zdk w kb q:=by
 unfold Zdk at h ⊢
 rw [ZxN (h kb (by simp)),Zw8 (fun b hb=>h b (WE _ (List.mem_append_left _ hb))),Zw8 (fun b hb=>h b (WE _ (List.mem_append_right _ hb)))]
theorem BookW.keep {w w':World} {kb n:Nat} {pend:List (Value×List Int)} (h:BookW w kb n pend) (hk:∀ b ∈ Zdk w kb pend.length,w'.heap[b]?=w.heap[b]?):BookW w' kb n pend:=by
 obtain ⟨h0,us,ty,B0,B1,B2,B3,v4,v5,bs,hs,h1,h2,h3,h4,h5,h6,h7,h8⟩:=h
 have hc:ZdH w kb=us.toList:=by simp [ZdH,h1]
 have m4:∀ g ∈ ZcL w pend.length v4,w'.heap[g]?=w.heap[g]?:=fun g hg=>hk g (by unfold Zdk;rw [hc,h2];simp [hg])
 have m5:∀ g ∈ ZcL w 0 v5,w'.heap[g]?=w.heap[g]?:=fun g hg=>hk g (by unfold Zdk;rw [hc,h2];simp [hg])
 have h3':OwnV w v4 (bs++pend.map (·.1)):=h3
 have h4':OwnV w v5 (hs++[]):=by rw [X2];exact h4
 have k4:∀ b ∈ bs,∀ g,ZaS b=some g->w'.heap[g]?=w.heap[g]?:=fun b hb g hg=>m4 g (by have:=ZyS h3' hb hg;rwa [XL] at this)
 have k5:∀ b ∈ hs,∀ g,ZaS b=some g->w'.heap[g]?=w.heap[g]?:=fun b hb g hg=>m5 g (ZyS h4' hb hg)
 refine ⟨by rw [ZyV hk];exact h0,us,ty,B0,B1,B2,B3,v4,v5,bs,hs,by rw [hk kb (by simp [Zdk])];exact h1,h2,h3.keep (fun g hg=>m4 g (ZyT hg)),h4.keep (fun g hg=>m5 g (ZyT hg)),h5,h6,fun i b h' hb hh=>?_,fun i v h' l hv hh=>?_⟩
 ·obtain ⟨l,hl,l1,l2⟩:=h7 i b h' hb hh
  exact ⟨l,hl,l1.keep (k4 b (Xx hb)),l2.keep (k5 h' (Xx hh))⟩
 ·obtain ⟨hl,l2⟩:=h8 i v h' l hv hh
  exact ⟨hl,l2.keep (k5 h' (Xx hh))⟩
theorem ZCb {w:World} {kb n:Nat} {pend:List (Value×List Int)} (h:BookW w kb n pend):∀ b ∈ Zdk w kb pend.length,b < w.heap.size:=by
 obtain ⟨h0,us,ty,B0,B1,B2,B3,v4,v5,bs,hs,h1,h2,h3,h4,h5,h6,h7,h8⟩:=h
 have hc:ZdH w kb=us.toList:=by simp [ZdH,h1]
 have own_lt:∀ {v:Value} {xs:List Value} {g:Nat},OwnV w v xs->ZaS v=some g->g < w.heap.size:=by
  rintro v xs g ⟨A,n,c,rfl,_,_,_,h4⟩ hg
  rcases h4 with h4 | ⟨g',cur,e,rfl,hg',hs,ht⟩
  ·simp [ZaS,h4] at hg
  ·simp only [ZaS] at hg
   split at hg
   ·cases hg
   ·simp only [X4,Xa] at hg
    subst hg
    exact (XQ.1 hg').1
 have row_lt:∀ {v:Value} {xs ps:List Value} {g:Nat},OwnV w v (xs++ps)->(∀ x ∈ xs,∃ zs,OwnV w x zs)->g ∈ ZcL w ps.length v->g < w.heap.size:=by
  intro v xs ps g h hx hg
  obtain ⟨A,n,c,rfl,hn,_,_,h4⟩:=h
  rcases h4 with h4 | ⟨g',cur,e,rfl,hg',hs,ht⟩
  ·simp [ZcL,h4] at hg
  ·by_cases hc:c=0
   ·simp [ZcL,hc] at hg
   ·have e1:(cur.toList.take (n - ps.length))=xs:=by
     rw [XE] at hn
     have : (cur.toList.take n).take (n - ps.length)=xs:=by rw [ht,show n - ps.length=xs.length by omega,XaA]
     rwa [XaB,Xak (by omega)] at this
    simp only [ZcL,hc,if_false,ZdH,hg',e1,XP,Xax] at hg
    rcases hg with rfl | ⟨x,hx',hg⟩
    ·exact (XQ.1 hg').1
    ·obtain ⟨zs,hz⟩:=hx x hx'
     exact own_lt hz hg
 intro b hb
 unfold Zdk at hb
 rw [hc,h2] at hb
 simp only [XP,XG,List.getD_cons_succ,List.getD_cons_zero] at hb
 rcases hb with rfl | hb | hb
 ·exact (XQ.1 h1).1
 ·refine row_lt (xs:=bs) (ps:=pend.map (·.1)) h3 (fun x hx=>?_) (by rw [XL];exact hb)
  obtain ⟨i,hi⟩:=WA.1 hx
  have hil:=(Xf.1 hi).1
  obtain ⟨l,_,l1,_⟩:=h7 i x hs[i] hi (Xz (by omega))
  exact ⟨_,l1⟩
 ·refine row_lt (xs:=hs) (ps:=[]) (by rw [X2];exact h4) (fun x hx=>?_) hb
  obtain ⟨i,hi⟩:=WA.1 hx
  have hil:=(Xf.1 hi).1
  by_cases hin:i < n
  ·obtain ⟨l,_,_,l2⟩:=h7 i bs[i] x (Xz (by omega)) hi
   exact ⟨_,l2⟩
  ·obtain ⟨_,l2⟩:=h8 (i - n) (pend[i - n]'(by omega)).1 x (pend[i - n]'(by omega)).2 (Xz (by omega)) (by rw [show n+(i - n)=i by omega];exact hi)
   exact ⟨_,l2⟩
def OwnK (w:World) (k:Nat) (v:Value) (vs:List Value):Prop:=∃ A n c,v=.slice A n c/\vs.length=n*k/\n<=c/\c<=9223372036854775807/\(c=0\/∃ g cur e,A=some ⟨g,0,none⟩/\w.heap[g]?=some (.cells cur e (0,0))/\cur.size=c*k/\cur.toList.take (n*k)=vs)
theorem OwnK.keep {w w':World} {k:Nat} {v:Value} {vs:List Value} (h:OwnK w k v vs) (hk:∀ g,ZaS v=some g->w'.heap[g]?=w.heap[g]?):OwnK w' k v vs:=by
 obtain ⟨A,n,c,rfl,h1,h2,h3,h4⟩:=h
 refine ⟨A,n,c,rfl,h1,h2,h3,?_⟩
 rcases h4 with h4 | ⟨g,cur,e,rfl,hg,hs,ht⟩
 ·exact XH h4
 ·by_cases hc:c=0
  ·exact XH hc
  ·exact XO ⟨g,cur,e,rfl,by rw [hk g (by simp [ZaS,hc])];exact hg,hs,ht⟩
theorem OwnK.lt {w:World} {k:Nat} {v:Value} {vs:List Value} {g:Nat} (h:OwnK w k v vs) (hg:ZaS v=some g):g < w.heap.size:=by
 obtain ⟨A,n,c,rfl,_,_,_,h4⟩:=h
 rcases h4 with h4 | ⟨g',cur,e,rfl,hg',_,_⟩
 ·simp [ZaS,h4] at hg
 ·simp only [ZaS] at hg
  split at hg
  ·cases hg
  ·simp only [X4,Xa] at hg
   subst hg
   exact (XQ.1 hg').1
def Zdz (w:World) (b:Nat):List MapEntry:=match w.heap[b]? with
 | some (.map arr _)=>arr.toList
 | _=>[]
def Za0 (w:World) (kb:Nat) (es:List (AVal×(List AVal ⊕ AVal))):List Nat:=kb::(es.zip (Zdz w kb)).filterMap fun p=>match p.1.2 with
 | .inl _=>ZaS p.2.val
 | .inr _=>none
theorem Zvw {w w':World} {kb:Nat} {es:List (AVal×(List AVal ⊕ AVal))} (h:∀ b ∈ Za0 w kb es,w'.heap[b]?=w.heap[b]?):Za0 w' kb es=Za0 w kb es:=by
 have e:Zdz w' kb=Zdz w kb:=by unfold Zdz;rw [h kb (by simp [Za0])]
 unfold Za0
 rw [e]
theorem Zy0 {w:World} {kb i g:Nat} {es:List (AVal×(List AVal ⊕ AVal))} {x:AVal} {xs:List AVal} {e:MapEntry} (h1:es[i]?=some (x,.inl xs)) (h2:(Zdz w kb)[i]?=some e) (hg:ZaS e.val=some g):g ∈ Za0 w kb es:=by
 refine WE _ (Xax.2 ⟨((x,.inl xs),e),?_,hg⟩)
 exact Xx (i:=i) (by rw [XaC];exact ⟨h1,h2⟩)
def GEnt (I:Imm) (β:Bmap) (w:World) (k:Nat) (v:Value):List AVal ⊕ AVal->Prop
 | .inl xs=>Zac xs=true/\(∀ x ∈ xs,x.cells.length=k)/\∃ vs,OwnK w k v vs/\VRs I β (xs.flatMap AVal.cells) vs
 | .inr x=>VR I β x v
def GmapW (I:Imm) (β:Bmap) (w:World) (k kb:Nat) (es:List (AVal×(List AVal ⊕ AVal))):Prop :=
 (Za0 w kb es).Nodup/\0 < k/\∃ arr clk,w.heap[kb]?=some (.map arr clk)/\VRs I β (es.map (·.1)) (arr.toList.map (·.key))/\(∀ p ∈ es,Zcw p.1=true)/\ZfP arr clk /\
  ∀ (i:Nat) (p:AVal×(List AVal ⊕ AVal)) (e:MapEntry),es[i]?=some p->arr.toList[i]?=some e->GEnt I β w k e.val p.2
theorem Zge {w:World} {kb clk:Nat} {arr:Array MapEntry} (h:w.heap[kb]?=some (.map arr clk)):Zdz w kb=arr.toList:=by simp [Zdz,h]
theorem GmapW.keep {I I':Imm} {β β':Bmap} {w w':World} {k kb:Nat} {es:List (AVal×(List AVal ⊕ AVal))} (h:GmapW I β w k kb es) (hI:I.le I') (hβ:β.le β') (hk:∀ b ∈ Za0 w kb es,w'.heap[b]?=w.heap[b]?):GmapW I' β' w' k kb es:=by
 obtain ⟨h0,h1,arr,clk,h2,h3,h4,h5,h6⟩:=h
 refine ⟨by rw [Zvw hk];exact h0,h1,arr,clk,by rw [hk kb (by simp [Za0])];exact h2,VRs.mono hI hβ _ _ h3,h4,h5,fun i p e hp he=>?_⟩
 have:=h6 i p e hp he
 obtain ⟨x,q⟩:=p
 cases q with
 | inr y=>exact VR.mono hI hβ _ _ this
 | inl xs =>
  obtain ⟨t1,t2,vs,t3,t4⟩:=this
  exact ⟨t1,t2,vs,t3.keep (fun g hg=>hk g (Zy0 hp (by rw [Zge h2];exact he) hg)),VRs.mono hI hβ _ _ t4⟩
theorem ZBb {I:Imm} {β:Bmap} {w:World} {k kb:Nat} {es:List (AVal×(List AVal ⊕ AVal))} (h:GmapW I β w k kb es):∀ b ∈ Za0 w kb es,b < w.heap.size:=by
 obtain ⟨h0,h1,arr,clk,h2,h3,h4,h5,h6⟩:=h
 intro b hb
 unfold Za0 at hb
 rcases XP.1 hb with rfl | hb
 ·exact (XQ.1 h2).1
 ·obtain ⟨⟨⟨x,q⟩,e⟩,hm,hg⟩:=Xax.1 hb
  obtain ⟨i,hi⟩:=WA.1 hm
  rw [XaC,Zge h2] at hi
  cases q with
  | inr y=>simp at hg
  | inl xs =>
   obtain ⟨_,_,vs,t3,_⟩:=h6 i _ e hi.1 hi.2
   exact t3.lt hg
def BR (I : Imm) (β : Bmap) (w : World) (t : Nat) : Zq -> Prop
  | .free => True
  | .var cs => ∃ b k c us ty, β t 0 = some ⟨some b, k, c⟩ /\ w.heap[b]? = some (.cells us ty (0, 0)) /\ VRs I β cs us.toList
  | .row g k xs => ∃ bi, β t g = some bi /\ bi.k = k /\ 0 < k /\ bi.cap <= 9223372036854775807 /\ xs.length <= bi.cap /\ Zac xs = true /\ (∀ x ∈ xs, x.cells.length = k) /\
      ((bi.b = none /\ bi.cap = 0) \/ ∃ b us ty, bi.b = some b /\ w.heap[b]? = some (.cells us ty (0, 0)) /\ us.size = bi.cap * k /\ VRs I β (xs.flatMap AVal.cells) (us.toList.take (xs.length * k)))
  | .frow g k xs => ∃ bi, β t g = some bi /\ bi.k = k /\ 0 < k /\ bi.cap <= 9223372036854775807 /\ xs.length <= bi.cap /\ Zac xs = true /\ (xs = [] \/ ∃ b, bi.b = some b /\ LR I β k xs b 0)
  | .map es => ∃ b k c arr clk, β t 0 = some ⟨some b, k, c⟩ /\ w.heap[b]? = some (.map arr clk) /\ VRs I β (es.map (·.1)) (arr.toList.map (·.key)) /\ VRs I β (es.map (·.2)) (arr.toList.map (·.val)) /\ (∀ p ∈ es, Zcw p.1 = true) /\ ZfP arr clk
  | .rmap es => ∃ b k c arr clk, β t 0 = some ⟨some b, k, c⟩ /\ w.heap[b]? = some (.map arr clk) /\ VRs I β (es.map (·.1)) (arr.toList.map (·.key)) /\ VRs I β (es.map (·.2)) (arr.toList.map (·.val)) /\ (∀ p ∈ es, Zcw p.1 = true) /\ ZfP arr clk
  | .rrow g k xs => ∃ bi, β t g = some bi /\ bi.k = k /\ 0 < k /\ bi.cap <= 9223372036854775807 /\ xs.length <= bi.cap /\ (∀ x ∈ xs, x.cells.length = k /\ ∀ c ∈ x.cells, Z1 c = true) /\
      ∃ b us ty, bi.b = some b /\ w.heap[b]? = some (.cells us ty (0, 0)) /\ us.size = bi.cap * k /\ VRs I β (xs.flatMap AVal.cells) (us.toList.take (xs.length * k))
  | .siter l p => ∃ b k c, β t 0 = some ⟨some b, k, c⟩ /\ w.heap[b]? = some (.stringIter ⟨l.toArray⟩ p)
  | .opq => ∃ bi, β t 0 = some bi
  | .gmap k es => ∃ b k' c, β t 0 = some ⟨some b, k', c⟩ /\ GmapW I β w k b es
  | .book n p => ∃ b k c vs, β t 0 = some ⟨some b, k, c⟩ /\ VRs I β (p.map (·.1)) vs /\ BookW w b n (vs.zip (p.map (·.2)))
def Zw (w:World) (β:Bmap) (t:Nat):Zq->Nat->Prop
 | .var _,b=>(β t 0).bind (·.b)=some b
 | .row g _ _,b=>(β t g).bind (·.b)=some b
 | .rrow g _ _,b=>(β t g).bind (·.b)=some b
 | .map _,b=>(β t 0).bind (·.b)=some b
 | .siter _ _,b=>(β t 0).bind (·.b)=some b
 | .book _ p,b=>∃ kb,(β t 0).bind (·.b)=some kb/\b ∈ Zdk w kb p.length
 | .gmap _ es,b=>∃ kb,(β t 0).bind (·.b)=some kb/\b ∈ Za0 w kb es
 | _,_=>False
def Zco (β:Bmap) (t:Nat):Zq->Nat->Prop
 | .rmap _,b=>(β t 0).bind (·.b)=some b
 | _,_=>False
structure KB (K:Nat->Prop) (w w':World):Prop where
 os:w'.os=w.os
 tape:w'.tape=w.tape
 output:w'.output=w.output
 size:w.heap.size<=w'.heap.size
 block:∀ k,K k->w'.heap[k]?=w.heap[k]?
theorem KB.refl (K:Nat->Prop) (w:World):KB K w w:=⟨rfl,rfl,rfl,X0 _,fun _ _=>rfl⟩
theorem KB.trans {K:Nat->Prop} {a b c:World} (h:KB K a b) (k:KB K b c):KB K a c :=
 ⟨k.os.trans h.os,k.tape.trans h.tape,k.output.trans h.output,Nat.le_trans h.size k.size,fun i hi=>(k.block i hi).trans (h.block i hi)⟩
theorem KB.mono {K K':Nat->Prop} {w w':World} (h:KB K w w') (hK:∀ b,K' b->K b):KB K' w w':=⟨h.os,h.tape,h.output,h.size,fun k hk=>h.block k (hK k hk)⟩
def KLt (K:Nat->Prop) (w:World):Prop:=∀ b,K b->b < w.heap.size
def Gl:Imm:=fun b o =>
 (none:Option Value)
structure Rel (base:Nat->Prop) (w0:World) (I0 I:Imm) (β:Bmap) (σ:Za) (w:World):Prop where
 below:KB base w0 w
 old:∀ b o,base b->I b o=I0 b o
 imm:∀ b o u,I b o=some u->w.cell? ⟨b,o,none⟩=some u
 blk:∀ t x,σ[t]?=some x->BR I β w t x
 own:∀ t x b,σ[t]?=some x->Zw w β t x b->¬base b/\∀ o,I b o=none
 apart:∀ t x t' x' b,σ[t]?=some x->σ[t']?=some x'->Zw w β t x b->Zw w β t' x' b->t=t'
 fresh:∀ t g,σ.length<=t->β t g=none
 free:∀ t g,σ[t]?=some .free->β t g=none
 gen:∀ t b g,σ[t]?=some b->Zc b < g->β t g=none
 glob:∀ b o u,Gl b o=some u->I b o=some u
 ro:∀ t x b,σ[t]?=some x->Zco β t x b->base b
end
section
open Go.RowKit
def Zkz:Value->Option AVal
 | .int k n=>some (.int k n)
 | .bool b=>some (.bool b)
 | .string s=>if s.data.toList.length<=9223372036854775807 then some (.str s.data.toList) else none
 | .pointer none=>some .nilp
 | .slice none 0 0=>some (.lst true [])
 | .map none=>some .nilm
 | .nilIface=>some .nili
 | _=>none
def ZhK:List Value->Option (List AVal)
 | []=>some []
 | v::vs=>match Zkz v with
  | some x=>match ZhK vs with
   | some xs=>some (x::xs)
   | none=>none
  | none=>none
def Zgh:Value->Option AVal
 | .agg cs=>(ZhK cs.toList).map .agg
 | v=>Zkz v
def Zar:Operand->Option Opd
 | .tmp t=>some (.t t)
 | .const v=>(Zgh v).map .c
 | .func f=>if f < 1000000 then some (.c (.fn f [])) else none
 | .global _=>none
def Zc7:List Operand->Option (List Opd)
 | []=>some []
 | x::xs=>match Zar x with
  | some y=>match Zc7 xs with
   | some ys=>some (y::ys)
   | none=>none
  | none=>none
def Zgc:Option Operand->Option (Option Opd)
 | none=>some none
 | some x=>(Zar x).map some
def Zeh (P:Program) (t:TypeId):Option (Option Nat) :=
 match P.underlying t,P.info? t with
 | some (.struct _),some i=>some (some i.size)
 | some (.array _ _),some i=>some (some i.size)
 | some _,some i=>if i.size=1 then some none else none
 | _,_=>none
def ZbZ (P:Program) (t:TypeId):Option Nat:=(P.info? t).map (·.size)
def ZdK (P:Program) (t:TypeId):Option AVal:=match P.info? t with
 | some i=>match i.zero with
  | some v=>Zgh v
  | none=>none
 | none=>none
def Zei (P:Program) (t:TypeId):Option (Nat×Nat×AVal):=match P.underlying t with
 | some (.slice e)=>match P.info? e,ZdK P e with
  | some i,some z=>if 0 < i.size/\0 < i.bytes/\z.cells.length=i.size then some (i.size,i.bytes,z) else none
  | _,_=>none
 | _=>none
def ZiE (P:Program) (fields:Array Field):List (Nat×Operand)->Option (List (Nat×Nat×Opd))
 | []=>some []
 | (i,x)::r=>match fields[i]? with
  | some f=>match ZbZ P f.type,Zar x,ZiE P fields r with
   | some k,some y,some ps=>some ((f.offset,k,y)::ps)
   | _,_,_=>none
  | none=>none
def ZiD (k : Nat) : List (Nat × Operand) -> Option (List (Nat × Nat × Opd))
  | [] => some []
  | (i, x) :: r => match Zar x, ZiD k r with
      | some y, some ps => some ((i * k, k, y) :: ps)
      | _, _ => none
def Zf2 : List (Nat × Operand) -> Option (List (Nat × Opd))
  | [] => some []
  | (i, x) :: r => match Zar x, Zf2 r with
      | some y, some ps => some ((i, y) :: ps)
      | _, _ => none
structure Ann where
 nt:Nat:=0
 keep:List Nat:=[]
 own:Nat->Nat:=fun _=>0
 cfg:Nat->Nat×Bool:=fun _=>(0,true)
 cfg2:Nat->Nat×Bool:=fun _=>(0,true)
 lr:Nat->List Nat:=fun _=>[]
 ll:Nat->List Nat:=fun _=>[]
def Zkb (P:Program) (t:TypeId):Bool:=match P.underlying t with
 | some (.int _)=>true
 | some .bool=>true
 | some .string=>true
 | _=>false
def ZeO (P:Program) (t:TypeId) (x:AVal):Bool:=match P.underlying t,x with
 | some (.int _),.int _ _=>true
 | some .bool,.bool _=>true
 | some .string,.str _=>true
 | _,_=>false
def Ziq (P:Program):Nat->List Field->Bool
 | _,[]=>true
 | o,f::fs=>f.offset == o && f.name != "_" && Zkb P f.type && Ziq P (o+1) fs
def Zfd (P:Program):List Field->List AVal->Bool
 | [],[]=>true
 | f::fs,x::xs=>ZeO P f.type x && Zfd P fs xs
 | _,_=>false
def ZoT (P:Program) (t:TypeId) (fs:Array Field):Bool:=Ziq P 0 fs.toList && !P.stoodInHeld t && !P.eqGuardType P.depth t
def Zev (P:Program) (t:TypeId):Option Nat:=match P.underlying t with
 | some (.int _)=>some 0
 | some .bool=>some 1
 | some .string=>some 2
 | _=>none
def Zij (P:Program):Nat->List Field->Bool
 | _,[]=>true
 | o,f::fs=>f.offset == o && f.name != "_" && (match P.underlying f.type with
  | some (.struct gs)=>Ziq P 0 gs.toList && !P.stoodInHeld f.type && (Zeh P f.type == some (some gs.size)) && Zij P (o+gs.size) fs
  | _=>Zkb P f.type && Zij P (o+1) fs)
def Ze1 (P:Program):List Field->List Nat
 | []=>[]
 | f::fs=>(match P.underlying f.type with
  | some (.struct gs)=>gs.toList.map fun g=>(Zev P g.type).getD 3
  | _=>[(Zev P f.type).getD 3])++Ze1 P fs
def ZmK (P:Program) (t:TypeId) (fs:Array Field):Bool:=Zij P 0 fs.toList && !P.stoodInHeld t && !P.eqGuardType P.depth t
def Zwk (P:Program) (op:BinOp) (t:TypeId) (x y:Opd):Option Ins :=
 match P.underlying t with
 | some (.int _)=>some (.bin op x y)
 | some .string=>some (.bin op x y)
 | some .bool=>match op with
  | .eql=>some (.beq false x y)
  | .neq=>some (.beq true x y)
  | _=>none
 | some (.pointer _)=>match op with
  | .eql=>some (.peq false x y)
  | .neq=>some (.peq true x y)
  | _=>none
 | some (.struct fs)=>if ZoT P t fs then match op with
  | .eql=>some (.eqv false (fs.toList.map fun f=>(Zev P f.type).getD 3) x y)
  | .neq=>some (.eqv true (fs.toList.map fun f=>(Zev P f.type).getD 3) x y)
  | _=>none else if ZmK P t fs then match op with
  | .eql=>some (.eqv false (Ze1 P fs.toList) x y)
  | .neq=>some (.eqv true (Ze1 P fs.toList) x y)
  | _=>none else none
 | some (.interface _)=>match op,y with
  | .eql,.c .nili=>some (.ieq false x y)
  | .neq,.c .nili=>some (.ieq true x y)
  | _,_=>none
 | _=>none
def Zvs (P:Program) (src dst:TypeId) (x:Opd):Option Ins :=
 match P.underlying src,P.underlying dst with
 | some (.int _),some (.int k)=>some (.i2i k x)
 | some (.int _),some .string=>some (.i2s x)
 | some .string,some .string=>some (.same x)
 | some .string,some (.slice e)=>match P.underlying e with
  | some (.int .u8)=>some (.s2b x)
  | _=>none
 | some (.slice _),some (.slice e)=>if src=dst then (match P.underlying e with
  | some (.int .u8)=>some (.s2s x)
  | _=>none) else none
 | some (.slice e),some .string=>match P.underlying e with
  | some (.int .u8)=>some (.b2s x)
  | _=>none
 | _,_=>none
def ZgW (P:Program) (t:TypeId):Option (Nat×AVal):=match P.underlying t with
 | some (.map k e)=>match Zev P k,ZdK P e with
  | some kc,some z=>some (kc,z)
  | _,_=>none
 | _=>none
def Zyp (P:Program) (an:Ann) (own:Nat) (c:Call):Option Ins :=
 match Zc7 c.args.toList with
 | none=>none
 | some args=>match c.callee with
  | .value (.func f)=>some (.call f (if own=1 then an.cfg2 f else an.cfg f).1 (if own=1 then an.cfg2 f else an.cfg f).2 args)
  | .value (.tmp t)=>some (.callv (.t t) args)
  | .builtin .append=>match c.argTypes.toList,args with
   | [t,u],[x,y]=>match Zei P t with
    | some (k,bytes,z)=>match P.underlying u with
     | some (.slice _)=>some (.app k bytes z x y)
     | some .string=>if k=1 then some (.app k bytes z x y) else none
     | _=>none
    | none=>none
   | _,_=>none
  | .builtin .len=>match c.argTypes.toList,args with
   | [t],[x]=>match P.underlying t with
    | some (.slice _)=>some (.len x)
    | some .string=>some (.slen x)
    | some (.map _ _)=>some (.mlen x)
    | _=>none
   | _,_=>none
  | .builtin .delete=>match c.argTypes.toList,args with
   | t::_,[x,y]=>match ZgW P t with
    | some (kc,_)=>some (.mdel kc x y)
    | none=>none
   | _,_=>none
  | .builtin .clear=>match c.argTypes.toList,args with
   | [t],[x]=>match Zei P t with
    | some (k,_,z)=>some (.clr k z x)
    | none=>none
   | _,_=>none
  | .builtin .max=>if args.length=2 then some (.mm true args) else none
  | .builtin .min=>if args.length=2 then some (.mm false args) else none
  | _=>none
def Z9 (P:Program) (an:Ann) (own:Nat):Op->Option Ins
 | .move x=>(Zar x).map .mov
 | .assign x=>(Zar x).map .mov
 | .pick c a b=>match Zar c,Zar a,Zar b with
  | some c,some a,some b=>some (.pick c a b)
  | _,_,_=>none
 | .alloc e=>(ZdK P e).map fun z=>.alloc z.cells
 | .box _ x=>(Zar x).map fun x=>if own=3 then .mkbook x else if own=4 then .mkrow x else .box x
 | .build t parts=>match P.underlying t,ZdK P t with
  | some (.struct fields),some z=>if fields.toList.all fun f=>(P.info? f.type).isSome then (ZiE P fields parts.toList).map (.build z.cells) else none
  | some (.array _ e),some z=>match ZbZ P e with
   | some k=>(ZiD k parts.toList).map (.build z.cells)
   | none=>none
  | _,_=>none
 | .buildSlice t n parts=>match Zei P t with
  | some (k,_,z)=>if n*k<=16777216 then (Zf2 parts.toList).map (fun ps=>if own=2 then .rslice k n z ps else .bslice (own == 1) k n z ps) else none
  | none=>none
 | .load t a=>match Zeh P t,Zar a with
  | some k,some a=>some (.ld k a)
  | _,_=>none
 | .store t a v=>match ZbZ P t,Zar a,Zar v with
  | some k,some a,some v=>some (.st k a v)
  | _,_,_=>none
 | .nilCheck x=>(Zar x).map .nilchk
 | .binOp op t x y _=>match Zar x,Zar y with
  | some x,some y=>Zwk P op t x y
  | _,_=>none
 | .unOp op _ x=>(Zar x).map (.un op)
 | .convert src dst x=>match Zar x with
  | some x=>Zvs P src dst x
  | none=>none
 | .slice t x lo hi mx=>match Zar x,Zgc lo,Zgc hi,Zgc mx with
  | some x,some lo,some hi,some mx=>match P.underlying t with
   | some .string=>match mx with
    | none=>some (.sslice x lo hi)
    | some _=>none
   | some (.slice e)=>match ZbZ P e with
    | some k=>if 0 < k then (match hi,mx with | none,some _=>none | _,_=>some (.slice k x lo hi mx)) else none
    | none=>none
   | _=>none
  | _,_,_,_=>none
 | .fieldAddr s x i=>match P.underlying s,Zar x with
  | some (.struct fields),some x=>match fields[i]? with
   | some f=>match ZbZ P f.type with
    | some k=>if k=0 then none else some (.faddr f.offset x)
    | none=>none
   | none=>none
  | _,_=>none
 | .field s x i=>match P.underlying s,Zar x with
  | some (.struct fields),some x=>match fields[i]? with
   | some f=>(Zeh P f.type).map fun k=>.field k f.offset x
   | none=>none
  | _,_=>none
 | .indexAddr t x i=>match P.underlying t,Zar x,Zar i with
  | some (.slice e),some x,some i=>(ZbZ P e).map fun k=>.iaddr k x i
  | some (.array n e),some x,some i=>(ZbZ P e).map fun k=>.aaddr k n x i
  | _,_,_=>none
 | .index t x i=>match P.underlying t,Zar x,Zar i with
  | some .string,some x,some i=>some (.sindex x i)
  | some (.array n e),some x,some i=>match Zeh P e,ZbZ P e with
   | some s,some k=>some (.aindex s k n x i)
   | _,_=>none
  | _,_,_=>none
 | .extract x i=>(Zar x).map fun x=>.ext x i
 | .makeSlice t l c=>match Zei P t,Zar l,Zar c with
  | some (k,bytes,z),some l,some c=>some (.mkslice k bytes z l c)
  | _,_,_=>none
 | .makeFunc (.func f) first captured=>if f < 1000000 then (if first.isEmpty then (Zc7 captured.toList).map (.mkfn f) else if captured.isEmpty then (Zc7 first.toList).map (.mkfn (f+1000000)) else none) else none
 | .makeInterface t x=>match P.underlying t with
  | some (.interface _)=>none
  | some _=>(Zar x).map (.mki t)
  | none=>none
 | .panic x=>(Zar x).map .panic
 | .range t x=>match P.underlying t with
  | some .string=>(Zar x).map .rng
  | _=>none
 | .next x true=>(Zar x).map .nxt
 | .makeMap t r=>match r with
  | none=>if own=5 then (match P.underlying t with
   | some (.map _ e)=>match Zei P e with
    | some (k,_,_)=>some (.mkgmap k)
    | none=>none
   | _=>none) else some .mkmap
  | some _=>none
 | .lookup t m k ok=>match ZgW P t,Zar m,Zar k with
  | some (kc,z),some m,some k=>if own=5 then (if ok then none else some (.glook kc z m k)) else some (.look kc z ok m k)
  | _,_,_=>none
 | .mapUpdate t m k v=>match ZgW P t,Zar m,Zar k,Zar v with
  | some (kc,_),some m,some k,some v=>some (.mset kc m k v)
  | _,_,_,_=>none
 | .insert t m k v=>match ZgW P t,Zar m,Zar k,Zar v with
  | some (kc,_),some m,some k,some v=>some (.mset kc m k v)
  | _,_,_,_=>none
 | .call c=>Zyp P an own c
 | _=>none
def Opd.reads:Opd->List Nat
 | .t n=>[n]
 | .c _=>[]
def Zg8:Option Opd->List Nat
 | some x=>x.reads
 | none=>[]
def Ins.reads:Ins->List Nat
 | .mov x | .box x | .un _ x | .i2i _ x | .i2s x | .same x | .s2b x | .s2s x | .b2s x | .faddr _ x | .field _ _ x | .ext x _ | .len x | .slen x | .nilchk x | .rng x | .nxt x | .clr _ _ x | .ld _ x | .mki _ x | .panic x | .mlen x | .mkbook x | .mkrow x=>x.reads
 | .pick c a b=>c.reads++a.reads++b.reads
 | .alloc _ | .mkmap | .mkgmap _=>[]
 | .build _ ps=>ps.flatMap fun p=>p.2.2.reads
 | .bslice _ _ _ _ ps | .rslice _ _ _ ps=>ps.flatMap fun p=>p.2.reads
 | .st _ x y | .bin _ x y | .iaddr _ x y | .aaddr _ _ x y | .sindex x y | .aindex _ _ _ x y | .app _ _ _ x y | .mkslice _ _ _ x y | .beq _ x y | .peq _ x y | .eqv _ _ x y | .ieq _ x y | .look _ _ _ x y | .glook _ _ x y | .mdel _ x y=>x.reads++y.reads
 | .mset _ x y z=>x.reads++y.reads++z.reads
 | .slice _ x a b c=>x.reads++Zg8 a++Zg8 b++Zg8 c
 | .sslice x a b=>x.reads++Zg8 a++Zg8 b
 | .mm _ xs | .call _ _ _ xs | .mkfn _ xs=>xs.flatMap Opd.reads
 | .callv x xs=>x.reads++xs.flatMap Opd.reads
def AOp.reads (o:AOp):List Nat:=o.ins.reads++(match o.guard with | some (j,_)=>[j] | none=>[])
def Ins.touches:Ins->Bool
 | .ld .. | .st .. | .slice .. | .iaddr .. | .app .. | .call .. | .callv .. | .bslice .. | .b2s _ | .s2s _ | .alloc _ | .box _ | .mkslice .. | .rslice .. | .rng _ | .nxt _ | .clr .. | .mkmap | .mkbook _ | .mkrow _ | .mkgmap _ | .glook .. | .look .. | .mset .. | .mdel .. | .mlen _=>true
 | _=>false
def AOp.apartT (x y : AOp) : Bool :=
  (match x.dst with
   | some d => !y.reads.contains d && y.dst != some d
   | none => true) &&
  (match y.dst with
   | some d => !x.reads.contains d
   | none => true)
def ZcG:List (List Nat)->List (List Nat)->List (List Nat)
 | [],acc=>acc
 | l::ls,acc=>ZcG ls (acc++[l++l.flatMap fun i=>acc.getD i []])
def Zhx:List (List Nat)->List Nat->List Nat
 | [],acc=>acc
 | l::ls,acc=>Zhx ls (acc++[l.foldl (fun m i=>m ||| 2 ^ i ||| acc.getD i 0) 0])
def Ze7 (ops:List AOp):Option (List (Nat×Nat)) :=
 let an:=Zhx (ops.map (·.after)) []
 let n:=ops.length
 let ps:=(W1 n).flatMap fun j=>((W1 j).filter fun i=>!(an.getD j 0).testBit i).map fun i=>(i,j)
 if (ps.all fun p=>(ops.getD p.1 default).apartT (ops.getD p.2 default)) && ((W1 n).all fun j=>(ops.getD j default).after.all fun i=>decide (i < j)) then
  some ((ps.filter fun p=>(ops.getD p.1 default).ins.touches && (ops.getD p.2 default).ins.touches) ++
   (((W1 n).filter fun j=>Zaf (ops.getD j default).ins && (W1 n).all fun k=>decide (k<=j) || (an.getD k 0).testBit j).map fun j=>(j,j)))
 else none
def ZiY (ops:Array Oper):Option (Nat×Bool)->Option (Option (Nat×Bool))
 | none=>some none
 | some (j,want)=>match ops[j]? with
  | some o=>match o.dst with
   | some d=>some (some (d,want))
   | none=>none
  | none=>none
def Zx3 (nt:Nat) (keep:List Nat):Option Nat->Bool
 | some d=>decide (d < nt) && !keep.contains d
 | none=>true
def Zf9 (P:Program) (an:Ann) (ops:Array Oper) (o:Oper):Option AOp :=
 match ZiY ops o.guard,Z9 P an (match o.dst with | some d=>an.own d | none=>0) o.op with
 | some g,some i=>if Zx3 an.nt an.keep o.dst=true then some ⟨o.dst,i,g,(o.after.toList.filter (Region.binds .any)).map (·.on)⟩ else none
 | _,_=>none
def ZcY (P:Program) (an:Ann) (ops:Array Oper):List Oper->Option (List AOp)
 | []=>some []
 | o::os=>match Zf9 P an ops o with
  | some a=>match ZcY P an ops os with
   | some asl=>some (a::asl)
   | none=>none
  | none=>none
def Ze4:Code->Nat
 | .region id _ _=>id
 | .seq a _=>Ze4 a
 | .block _ c=>Ze4 c
 | .loop c=>Ze4 c
 | .scope c=>Ze4 c
 | _=>0
def ZaR (P:Program) (an:Ann):Code->Zv
 | .skip=>.skip
 | .region id ops draw=>match ZcY P an ops ops.toList with
  | some l=>if draw then (match Ze7 l with | some ps=>.region l (some ps) (an.lr id) | none=>.stuck) else .region l none (an.lr id)
  | none=>.stuck
 | .seq a b=>.seq (ZaR P an a) (ZaR P an b)
 | .cond c a b=>match Zar c with
  | some c=>.cond c (ZaR P an a) (ZaR P an b)
  | none=>.stuck
 | .block id c=>.block id (ZaR P an c)
 | .loop c=>.loop (an.ll (Ze4 c)) (ZaR P an c)
 | .exit id=>.exit id
 | .ret=>.ret
 | .scope c=>ZaR P an c
 | .label _=>.skip
 | _=>.stuck
def ZeB (P:Program):List ResultVar->Option (List Zda)
 | []=>some []
 | .tmp t::r=>(ZeB P r).map (.tmp t::·)
 | .cell a t::r=>match Zeh P t,ZeB P r with
  | some k,some rs=>some (.cell a k::rs)
  | _,_=>none
def Zic (P:Program) (ann:Nat->Ann) (f:Nat):Option Zam :=
 match P.funcs[f]? with
 | some fn=>match fn.body with
  | some c=>if fn.name == "runtime.NumGoroutine" then none else
   match ZeB P fn.results.toList with
   | some rs=>some ⟨rs,ZaR P { ann f with nt:=fn.ntmps } c⟩
   | none=>none
  | none=>none
 | none=>none
end
section
open Go.RowKit
section
variable {base:Nat->Prop} {w0 w w':World} {I0 I I':Imm} {β β':Bmap} {σ σ':Za}
theorem BR.keep {t:Nat} {x:Zq} (h:BR I β w t x) (hI:I.le I') (hβ:β.le β') (hb:∀ b,Zw w β t x b->w'.heap[b]?=w.heap[b]?) (hs:∀ b,Zco β t x b->w'.heap[b]?=w.heap[b]?):BR I' β' w' t x:=by
 cases x with
 | free=>trivial
 | map es =>
  obtain ⟨b,k,c,arr,clk,h1,h2,h3,h4,h5⟩:=h
  exact ⟨b,k,c,arr,clk,hβ _ _ _ h1,by rw [hb b (by simp [Zw,h1])];exact h2,VRs.mono hI hβ _ _ h3,VRs.mono hI hβ _ _ h4,h5⟩
 | opq=>obtain ⟨bi,h⟩:=h;exact ⟨bi,hβ _ _ _ h⟩
 | gmap k es =>
  obtain ⟨b,k',c,h1,h2⟩:=h
  exact ⟨b,k',c,hβ _ _ _ h1,h2.keep hI hβ (fun b' hb'=>hb b' ⟨b,by simp [h1],hb'⟩)⟩
 | rmap es =>
  obtain ⟨b,k,c,arr,clk,h1,h2,h3,h4,h5⟩:=h
  exact ⟨b,k,c,arr,clk,hβ _ _ _ h1,by rw [hs b (by simp [Zco,h1])];exact h2,VRs.mono hI hβ _ _ h3,VRs.mono hI hβ _ _ h4,h5⟩
 | book n p =>
  obtain ⟨b,k,c,vs,h1,h3,h2⟩:=h
  have hl:(vs.zip (p.map (·.2))).length=p.length:=by have:=Zan h3;simp at this ⊢;omega
  exact ⟨b,k,c,vs,hβ _ _ _ h1,VRs.mono hI hβ _ _ h3,h2.keep (fun b' hb'=>hb b' ⟨b,by simp [h1],hl ▸ hb'⟩)⟩
 | siter l p =>
  obtain ⟨b,k,c,h1,h2⟩:=h
  exact ⟨b,k,c,hβ _ _ _ h1,by rw [hb b (by simp [Zw,h1])];exact h2⟩
 | rrow g k xs =>
  obtain ⟨bi,h1,h2,h3,h4,h5,h6,b,us,ty,e,h8,h9,h10⟩:=h
  exact ⟨bi,hβ _ _ _ h1,h2,h3,h4,h5,h6,b,us,ty,e,by rw [hb b (by simp [Zw,h1,e])];exact h8,h9,VRs.mono hI hβ _ _ h10⟩
 | var cs =>
  obtain ⟨b,k,c,us,ty,h1,h2,h3⟩:=h
  exact ⟨b,k,c,us,ty,hβ _ _ _ h1,by rw [hb b (by simp [Zw,h1])];exact h2,VRs.mono hI hβ _ _ h3⟩
 | row g k xs =>
  obtain ⟨bi,h1,h2,h3,h4,h5,h6,h7,h8⟩:=h
  refine ⟨bi,hβ _ _ _ h1,h2,h3,h4,h5,h6,h7,?_⟩
  rcases h8 with h8 | ⟨b,us,ty,e,h8,h9,h10⟩
  ·exact XH h8
  ·exact XO ⟨b,us,ty,e,by rw [hb b (by simp [Zw,h1,e])];exact h8,h9,VRs.mono hI hβ _ _ h10⟩
 | frow g k xs =>
  obtain ⟨bi,h1,h2,h3,h4,h5,h6,h7⟩:=h
  refine ⟨bi,hβ _ _ _ h1,h2,h3,h4,h5,h6,?_⟩
  rcases h7 with h7 | ⟨b,e,h7⟩
  ·exact XH h7
  ·exact XO ⟨b,e,LR.mono hI hβ _ _ _ _ h7⟩
theorem BR.owns_at {t:Nat} {x:Zq} (h:BR I β w t x) (hβ:β.le β') (hb:∀ b,Zw w β t x b->w'.heap[b]?=w.heap[b]?) (b:Nat):Zw w' β' t x b↔Zw w β t x b:=by
 cases x with
 | free=>exact XbB
 | opq=>exact XbB
 | gmap k es =>
  obtain ⟨kb,k',c,h1,_⟩:=h
  have h1':=hβ _ _ _ h1
  have e:Za0 w' kb es=Za0 w kb es:=Zvw (fun b hb'=>hb b ⟨kb,by simp [h1],hb'⟩)
  simp [Zw,h1,h1',e]
 | rmap=>exact XbB
 | book n p =>
  obtain ⟨kb,k,c,vs,h1,_⟩:=h
  have h1':=hβ _ _ _ h1
  have e:Zdk w' kb p.length=Zdk w kb p.length:=ZyV (fun b hb'=>hb b ⟨kb,by simp [h1],hb'⟩)
  simp [Zw,h1,h1',e]
 | map es =>
  obtain ⟨b,k,c,_,_,h1,_⟩:=h
  simp [Zw,h1,hβ _ _ _ h1]
 | siter l p =>
  obtain ⟨b,k,c,h1,_⟩:=h
  simp [Zw,h1,hβ _ _ _ h1]
 | rrow g k xs =>
  obtain ⟨bi,h1,_⟩:=h
  simp [Zw,h1,hβ _ _ _ h1]
 | frow=>exact XbB
 | var cs =>
  obtain ⟨b,k,c,us,ty,h1,_⟩:=h
  simp [Zw,h1,hβ _ _ _ h1]
 | row g k xs =>
  obtain ⟨bi,h1,_⟩:=h
  simp [Zw,h1,hβ _ _ _ h1]
theorem BR.sees_at {t:Nat} {x:Zq} (h:BR I β w t x) (hβ:β.le β') (b:Nat):Zco β' t x b↔Zco β t x b:=by
 cases x with
 | rmap es =>
  obtain ⟨b,k,c,_,_,h1,_⟩:=h
  simp [Zco,h1,hβ _ _ _ h1]
 | _=>exact XbB
theorem BR.owns_eq {t:Nat} {x:Zq} (h:BR I β w t x) (hβ:β.le β'):Zw w β' t x=Zw w β t x:=funext fun b=>propext (h.owns_at hβ (fun _ _=>rfl) b)
theorem BR.owns_lt {t b:Nat} {x:Zq} (h:BR I β w t x) (hb:Zw w β t x b):b < w.heap.size:=by
 cases x with
 | free=>cases hb
 | opq=>cases hb
 | gmap k es =>
  obtain ⟨b',k',c,h1,h2⟩:=h
  obtain ⟨kb,e,hm⟩:=hb
  rw [h1] at e
  simp only [Wq,Xa] at e
  subst e
  exact ZBb h2 b hm
 | rmap=>cases hb
 | book n p =>
  obtain ⟨b',k,c,vs,h1,h3,h2⟩:=h
  have hl:(vs.zip (p.map (·.2))).length=p.length:=by have:=Zan h3;simp at this ⊢;omega
  obtain ⟨kb,e,hm⟩:=hb
  rw [h1] at e
  simp only [Wq,Xa] at e
  subst e
  exact ZCb h2 b (by rw [hl];exact hm)
 | map es =>
  obtain ⟨b',k,c,_,_,h1,h2,_⟩:=h
  simp only [Zw,h1,Wq,Xa] at hb
  subst hb
  exact (XQ.1 h2).1
 | siter l p =>
  obtain ⟨b',k,c,h1,h2⟩:=h
  simp only [Zw,h1,Wq,Xa] at hb
  subst hb
  exact (XQ.1 h2).1
 | rrow g k xs =>
  obtain ⟨bi,h1,_,_,_,_,_,b',us,ty,e,h8,_⟩:=h
  simp only [Zw,h1,Wq,e,Xa] at hb
  subst hb
  exact (XQ.1 h8).1
 | frow=>cases hb
 | var cs =>
  obtain ⟨b',k,c,us,ty,h1,h2,_⟩:=h
  simp only [Zw,h1,Wq,Xa] at hb
  subst hb
  exact (XQ.1 h2).1
 | row g k xs =>
  obtain ⟨bi,h1,_,_,_,_,_,_,h8⟩:=h
  simp only [Zw,h1,Wq] at hb
  rcases h8 with ⟨h8,_⟩ | ⟨b',us,ty,e,h8,_⟩
  ·rw [h8] at hb;cases hb
  ·rw [e] at hb;injection hb with hb;subst hb
   exact (XQ.1 h8).1
theorem Rel.stay (R:Rel base w0 I0 I β σ w) (hI:I.le I') (hB:KB base w w') (hold:∀ b o,base b->I' b o=I b o)
  (himm:∀ b o u,I' b o=some u->w'.cell? ⟨b,o,none⟩=some u)
  (keep:∀ t x b,σ[t]?=some x->Zw w β t x b->w'.heap[b]?=w.heap[b]?/\∀ o,I' b o=none):Rel base w0 I0 I' β σ w':=by
 have cv:∀ t x b,σ[t]?=some x->(Zw w' β t x b↔Zw w β t x b):=fun t x b h=>(R.blk t x h).owns_at (Bmap.le.refl β) (fun b hb=>(keep t x b h hb).1) b
 exact ⟨R.below.trans hB,fun b o h=>(hold b o h).trans (R.old b o h),himm,fun t x h=>(R.blk t x h).keep hI (Bmap.le.refl β) (fun b hb=>(keep t x b h hb).1) (fun b hs=>hB.block b (R.ro t x b h hs)),
  fun t x b h hb=>⟨(R.own t x b h ((cv t x b h).1 hb)).1,(keep t x b h ((cv t x b h).1 hb)).2⟩,
  fun t x t' x' b h h' hb hb'=>R.apart t x t' x' b h h' ((cv t x b h).1 hb) ((cv t' x' b h').1 hb'),R.fresh,R.free,R.gen,fun b o u h=>hI b o u (R.glob b o u h),R.ro⟩
theorem Rel.same (R:Rel base w0 I0 I β σ w) (hh:w'.heap=w.heap) (h1:w'.os=w.os) (h2:w'.tape=w.tape) (h3:w'.output=w.output):Rel base w0 I0 I β σ w' :=
 R.stay (Imm.le.refl I) ⟨h1,h2,h3,by rw [hh];exact X0 _,fun k _=>by rw [hh]⟩ (fun _ _ _=>rfl) (fun b o u h=>by
  have:=R.imm b o u h
  rw [<-this]
  simp [World.cell?,hh]) (fun t x b h hb=>⟨by rw [hh],(R.own t x b h hb).2⟩)
theorem Rel.upd (R:Rel base w0 I0 I β σ w) (hI:I.le I') (hβ:β.le β') (hB:KB base w w') (hold:∀ b o,base b->I' b o=I b o)
  (himm:∀ b o u,I' b o=some u->w'.cell? ⟨b,o,none⟩=some u)
  (s:Nat) (x':Zq) (hσ:σ'=σ.set s x') (hs:s < σ.length) (hβs:∀ t g,t≠s->β' t g=β t g)
  (keep:∀ t x b,t≠s->σ[t]?=some x->Zw w β t x b->w'.heap[b]?=w.heap[b]?/\(∀ o,I' b o=none)/\¬Zw w' β' s x' b)
  (hblk:BR I' β' w' s x') (hown':∀ b,Zw w' β' s x' b->¬base b/\∀ o,I' b o=none)
  (hgen':∀ g,Zc x' < g->β' s g=none) (hx':x'≠.free) (hsee:∀ b,Zco β' s x' b->base b:=by intro b h;cases h):Rel base w0 I0 I' β' σ' w':=by
 subst hσ
 have look:∀ t x,(σ.set s x')[t]?=some x->(t=s/\x=x')\/(t≠s/\σ[t]?=some x):=by
  intro t x h
  rw [Xv] at h
  by_cases e:s=t
  ·subst e
   rw [if_pos rfl,if_pos hs] at h
   injection h with h
   exact XH ⟨rfl,h.symm⟩
  ·rw [if_neg e] at h
   exact XO ⟨fun h=>e h.symm,h⟩
 have cv:∀ t x b,t≠s->σ[t]?=some x->Zw w' β' t x b->Zw w β t x b:=fun t x b hne h=>((R.blk t x h).owns_at hβ (fun b hb=>(keep t x b hne h hb).1) b).1
 refine ⟨R.below.trans hB,fun b o h=>(hold b o h).trans (R.old b o h),himm,?_,?_,?_,?_,?_,?_,fun b o u h=>hI b o u (R.glob b o u h),?_⟩
 ·intro t x h
  rcases look t x h with ⟨rfl,rfl⟩ | ⟨hne,h⟩
  ·exact hblk
  ·exact (R.blk t x h).keep hI hβ (fun b hb=>(keep t x b hne h hb).1) (fun b hs=>hB.block b (R.ro t x b h hs))
 ·intro t x b h hb
  rcases look t x h with ⟨rfl,rfl⟩ | ⟨hne,h⟩
  ·exact hown' b hb
  ·replace hb:=cv t x b hne h hb
   exact ⟨(R.own t x b h hb).1,(keep t x b hne h hb).2.1⟩
 ·intro t x t' x'' b h h' hb hb'
  rcases look t x h with ⟨e1,e2⟩ | ⟨hne,h1⟩
  ·rcases look t' x'' h' with ⟨e3,e4⟩ | ⟨hne',h1'⟩
   ·rw [e1,e3]
   ·replace hb':=cv _ _ b hne' h1' hb'
    rw [e1,e2] at hb
    exact absurd hb (keep _ _ b hne' h1' hb').2.2
  ·replace hb:=cv t x b hne h1 hb
   rcases look t' x'' h' with ⟨e3,e4⟩ | ⟨hne',h1'⟩
   ·rw [e3,e4] at hb'
    exact absurd hb' (keep _ _ b hne h1 hb).2.2
   ·replace hb':=cv _ _ b hne' h1' hb'
    exact R.apart t x t' x'' b h1 h1' hb hb'
 ·intro t g h
  simp only [Xaf] at h
  rw [hβs t g (by omega)]
  exact R.fresh t g h
 ·intro t g h
  rcases look t _ h with ⟨rfl,e⟩ | ⟨hne,h⟩
  ·exact absurd e.symm hx'
  ·rw [hβs t g hne];exact R.free t g h
 ·intro t b g h hg
  rcases look t _ h with ⟨rfl,e⟩ | ⟨hne,h⟩
  ·exact hgen' g (e ▸ hg)
  ·rw [hβs t g hne];exact R.gen t b g h hg
 ·intro t x b h hb
  rcases look t x h with ⟨rfl,rfl⟩ | ⟨hne,h⟩
  ·exact hsee b hb
  ·exact R.ro t x b h (((R.blk t x h).sees_at hβ b).1 hb)
theorem Zh5 {s t:Nat} {x' x:Zq} (hs:s < σ.length) (h:(σ.set s x')[t]?=some x):(t=s/\x=x')\/(t≠s/\σ[t]?=some x):=by
 rw [Xv] at h
 by_cases e:s=t
 ·subst e
  rw [if_pos rfl,if_pos hs] at h
  injection h with h
  exact XH ⟨rfl,h.symm⟩
 ·rw [if_neg e] at h
  exact XO ⟨fun h=>e h.symm,h⟩
def Bmap.put (β:Bmap) (s g:Nat) (bi:BI):Bmap:=fun t g'=>if t=s/\g'=g then some bi else β t g'
theorem Bmap.put_same (β:Bmap) (s g:Nat) (bi:BI):β.put s g bi s g=some bi:=by simp [Bmap.put]
theorem Bmap.put_le {s g:Nat} {bi:BI} (h:β s g=none):β.le (β.put s g bi):=by
 intro t g' x hx
 unfold Bmap.put
 split
 ·rename_i e;rw [e.1,e.2,h] at hx;cases hx
 ·exact hx
theorem Bmap.put_ne {s g t g':Nat} {bi:BI} (h:t≠s):β.put s g bi t g'=β t g':=by simp [Bmap.put,h]
theorem Bmap.put_gen {s g g':Nat} {bi:BI} (h:g'≠g):β.put s g bi s g'=β s g':=by simp [Bmap.put,h]
theorem ZfH (w:World) (o:Obj) {b:Nat} (h:b < w.heap.size):(w.heap.push o)[b]?=w.heap[b]?:=by rw [Array.getElem?_push];simp;omega
theorem ZgT (w:World) (o:Obj):(w.heap.push o)[w.heap.size]?=some o:=by simp
theorem Zd1 {b o:Nat} {u:Value} (h:w.cell? ⟨b,o,none⟩=some u):b < w.heap.size:=by
 unfold World.cell? at h
 split at h
 ·rename_i e;exact (XQ.1 e).1
 ·cases h
theorem ZgU (w:World) (o:Obj) {b off:Nat} {u:Value} (h:w.cell? ⟨b,off,none⟩=some u):World.cell? { w with heap:=w.heap.push o } ⟨b,off,none⟩=some u:=by
 have hb:=Zd1 h
 rw [<-h]
 simp only [World.cell?,ZfH w o hb]
theorem Zhs (base:Nat->Prop) (w:World) (o:Obj) (hb:KLt base w):KB base w { w with heap:=w.heap.push o } :=
 ⟨rfl,rfl,rfl,by simp,fun k hk=>ZfH w o (hb k hk)⟩
theorem Rel.base_le (R:Rel base w0 I0 I β σ w) (hb:KLt base w0):KLt base w:=fun b h=>Nat.lt_of_lt_of_le (hb b h) R.below.size
theorem Rel.newObj (R:Rel base w0 I0 I β σ w) (hb:KLt base w0) {s:Nat} (hs:σ[s]?=some .free) (o:Obj) (x':Zq) (k c:Nat)
  (hown:∀ b,Zw { w with heap:=w.heap.push o } (β.put s 0 ⟨some w.heap.size,k,c⟩) s x' b->b=w.heap.size) (hg0:Zc x'=0) (hnf:x'≠.free)
  (hblk:BR I (β.put s 0 ⟨some w.heap.size,k,c⟩) { w with heap:=w.heap.push o } s x') (hns:∀ b,¬Zco (β.put s 0 ⟨some w.heap.size,k,c⟩) s x' b:=by intro b h;cases h) :
  Rel base w0 I0 I (β.put s 0 ⟨some w.heap.size,k,c⟩) (σ.set s x') { w with heap:=w.heap.push o }/\β.le (β.put s 0 ⟨some w.heap.size,k,c⟩):=by
 have hle:β.le (β.put s 0 ⟨some w.heap.size,k,c⟩):=Bmap.put_le (R.free s 0 hs)
 have hbw:=R.base_le hb
 have hsl:s < σ.length:=(Xf.1 hs).1
 have hI0:∀ o,I w.heap.size o=none:=by
  intro o
  cases h:I w.heap.size o with
  | none=>rfl
  | some u=>have:=Zd1 (R.imm _ _ _ h);omega
 refine ⟨R.upd (Imm.le.refl I) hle (Zhs base w _ hbw) (fun _ _ _=>rfl) (fun b o u h=>ZgU w _ (R.imm b o u h)) s x' rfl hsl (fun t g h=>Bmap.put_ne h) ?_ hblk ?_ ?_ hnf (fun b h=>absurd h (hns b)),hle⟩
 ·intro t x b hne h hb'
  have hlt:=(R.blk t x h).owns_lt hb'
  refine ⟨ZfH w _ hlt,(R.own t x b h hb').2,?_⟩
  intro e;have:=hown _ e;omega
 ·intro b e
  obtain rfl:=hown _ e
  exact ⟨fun h=>Xa2 _ (hbw _ h),hI0⟩
 ·intro g hg
  rw [Bmap.put_gen (by omega)]
  exact R.free s g hs
theorem Rel.newOwn (R:Rel base w0 I0 I β σ w) (hb:KLt base w0) {s:Nat} (hs:σ[s]?=some .free) (us:Array Value) (ty:TypeId) (x':Zq) (k c:Nat)
  (hx:(∃ cs,x'=.var cs/\VRs I β cs us.toList)\/(∃ xs,x'=.row 0 k xs/\0 < k/\c<=9223372036854775807/\xs.length<=c/\Zac xs=true/\(∀ x ∈ xs,x.cells.length=k)/\us.size=c*k/\VRs I β (xs.flatMap AVal.cells) (us.toList.take (xs.length*k)))) :
  Rel base w0 I0 I (β.put s 0 ⟨some w.heap.size,k,c⟩) (σ.set s x') { w with heap:=w.heap.push (.cells us ty) }/\β.le (β.put s 0 ⟨some w.heap.size,k,c⟩):=by
 have hle:β.le (β.put s 0 ⟨some w.heap.size,k,c⟩):=Bmap.put_le (R.free s 0 hs)
 have hbw:=R.base_le hb
 have hsl:s < σ.length:=(Xf.1 hs).1
 have hI0:∀ o,I w.heap.size o=none:=by
  intro o
  cases h:I w.heap.size o with
  | none=>rfl
  | some u=>have:=Zd1 (R.imm _ _ _ h);omega
 have hown:∀ b,Zw { w with heap:=w.heap.push (.cells us ty) } (β.put s 0 ⟨some w.heap.size,k,c⟩) s x' b->b=w.heap.size:=by
  intro b e
  rcases hx with ⟨cs,rfl,_⟩ | ⟨xs,rfl,_⟩ <;> simp only [Zw,Bmap.put_same,Wq,Xa] at e <;> exact e.symm
 refine ⟨R.upd (Imm.le.refl I) hle (Zhs base w _ hbw) (fun _ _ _=>rfl) (fun b o u h=>ZgU w _ (R.imm b o u h)) s x' rfl hsl (fun t g h=>Bmap.put_ne h) ?_ ?_ ?_ ?_ ?_ (by intro b h;rcases hx with ⟨cs,rfl,_⟩ | ⟨xs,rfl,_⟩ <;> cases h),hle⟩
 ·intro t x b hne h hb'
  have hlt:=(R.blk t x h).owns_lt hb'
  refine ⟨ZfH w _ hlt,(R.own t x b h hb').2,?_⟩
  intro e;have:=hown _ e;omega
 ·rcases hx with ⟨cs,rfl,h⟩ | ⟨xs,rfl,h1,h2,h3,h4,h5,h6,h7⟩
  ·exact ⟨w.heap.size,k,c,us,ty,Bmap.put_same β s 0 _,ZgT w _,VRs.mono (Imm.le.refl I) hle _ _ h⟩
  ·exact ⟨_,Bmap.put_same β s 0 _,rfl,h1,h2,h3,h4,h5,XO ⟨w.heap.size,us,ty,rfl,ZgT w _,h6,VRs.mono (Imm.le.refl I) hle _ _ h7⟩⟩
 ·intro b e
  obtain rfl:=hown _ e
  exact ⟨fun h=>Xa2 _ (hbw _ h),hI0⟩
 ·intro g hg
  have h0:Zc x'=0:=by rcases hx with ⟨cs,rfl,_⟩ | ⟨xs,rfl,_⟩ <;> rfl
  rw [Bmap.put_gen (by omega)]
  exact R.free s g hs
 ·rcases hx with ⟨cs,rfl,_⟩ | ⟨xs,rfl,_⟩ <;> simp
theorem Rel.newNone (R:Rel base w0 I0 I β σ w) {s:Nat} (hs:σ[s]?=some .free) (k:Nat) (hk:0 < k) :
  Rel base w0 I0 I (β.put s 0 ⟨none,k,0⟩) (σ.set s (.row 0 k [])) w/\β.le (β.put s 0 ⟨none,k,0⟩):=by
 have hle:β.le (β.put s 0 ⟨none,k,0⟩):=Bmap.put_le (R.free s 0 hs)
 have hsl:s < σ.length:=(Xf.1 hs).1
 have hown:∀ b,¬Zw w (β.put s 0 ⟨none,k,0⟩) s (.row 0 k []) b:=by simp [Zw,Bmap.put_same]
 refine ⟨R.upd (Imm.le.refl I) hle (KB.refl base w) (fun _ _ _=>rfl) R.imm s _ rfl hsl (fun t g h=>Bmap.put_ne h) ?_ ?_ ?_ ?_ (by simp),hle⟩
 ·intro t x b hne h hb'
  exact ⟨rfl,(R.own t x b h hb').2,hown b⟩
 ·exact ⟨_,Bmap.put_same β s 0 _,rfl,hk,by simp,by simp,by simp [Zac],by simp,XH ⟨rfl,rfl⟩⟩
 ·intro b e;exact absurd e (hown b)
 ·intro g hg
  simp only [Zc] at hg
  rw [Bmap.put_gen (by omega)]
  exact R.free s g hs
def Imm.add (I:Imm) (b:Nat) (us:Array Value):Imm:=fun b' o=>if b'=b then us[o]? else I b' o
theorem Rel.newImm (R:Rel base w0 I0 I β σ w) (hb:KLt base w0) (us:Array Value) (ty:TypeId) (fz:Nat×Nat) :
  Rel base w0 I0 (I.add w.heap.size us) β σ { w with heap:=w.heap.push (.cells us ty fz) }/\I.le (I.add w.heap.size us):=by
 have hbw:=R.base_le hb
 have hle:I.le (I.add w.heap.size us):=by
  intro b o u h
  have:=Zd1 (R.imm _ _ _ h)
  unfold Imm.add
  rw [if_neg (by omega)]
  exact h
 refine ⟨R.stay hle (Zhs base w _ hbw) (fun b o h=>by unfold Imm.add;rw [if_neg (by have:=hbw b h;omega)]) ?_ ?_,hle⟩
 ·intro b o u h
  unfold Imm.add at h
  split at h
  ·rename_i e
   subst e
   simp only [World.cell?,ZgT]
   simpa using h
  ·exact ZgU w _ (R.imm b o u h)
 ·intro t x b h hb'
  have hlt:=(R.blk t x h).owns_lt hb'
  refine ⟨ZfH w _ hlt,fun o=>?_⟩
  unfold Imm.add
  rw [if_neg (by omega)]
  exact (R.own t x b h hb').2 o
theorem Rel.putObj (R:Rel base w0 I0 I β σ w) {t b:Nat} {x x':Zq} (ht:σ[t]?=some x) (hx:Zw w β t x b) (o:Obj) (hx':∀ b',Zw { w with heap:=w.heap.setIfInBounds b o } β t x' b'->b'=b)
  (hblk:BR I β { w with heap:=w.heap.setIfInBounds b o } t x') (hg:Zc x'=Zc x) (hnf:x'≠.free:=by simp) (hns:∀ b',¬Zco β t x' b':=by intro b h;cases h) :
  Rel base w0 I0 I β (σ.set t x') { w with heap:=w.heap.setIfInBounds b o }:=by
 have hsl:t < σ.length:=(Xf.1 ht).1
 have ho:=R.own t x b ht hx
 have hh:∀ b',b'≠b->(w.heap.setIfInBounds b o)[b']?=w.heap[b']?:=by
  intro b' hne
  rw [Wv (fun e=>hne e.symm)]
 refine R.upd (Imm.le.refl I) (Bmap.le.refl β) ⟨rfl,rfl,rfl,by simp,fun k hk=>hh k (by rintro rfl;exact ho.1 hk)⟩ (fun _ _ _=>rfl) ?_ t x' rfl hsl (fun _ _ _=>rfl) ?_ hblk ?_ ?_ ?_ (fun b h=>absurd h (hns b))
 ·intro b' o u h
  have hne:b'≠b:=by rintro rfl;rw [ho.2 o] at h;cases h
  rw [<-R.imm b' o u h]
  simp only [World.cell?,hh b' hne]
 ·intro t' y b' hne hy hb'
  have hbb:b'≠b:=by rintro rfl;exact hne (R.apart t' y t x b' hy ht hb' hx)
  exact ⟨hh b' hbb,(R.own t' y b' hy hb').2,fun e=>hbb (hx' _ e)⟩
 ·intro b' e
  obtain rfl:=hx' _ e
  exact ho
 ·intro g hlt
  exact R.gen t x g ht (by rw [<-hg];exact hlt)
 ·rintro rfl
  exact hnf rfl
theorem Rel.write (R:Rel base w0 I0 I β σ w) {t b:Nat} {x x':Zq} (ht:σ[t]?=some x) (hx:Zw w β t x b) (us:Array Value) (hx':∀ b',Zw (w.setRow b us) β t x' b'->b'=b)
  (hblk:BR I β (w.setRow b us) t x') (hg:Zc x'=Zc x) (hnf:x'≠.free:=by simp) (hns:∀ b',¬Zco β t x' b':=by intro b h;cases h) :
  Rel base w0 I0 I β (σ.set t x') (w.setRow b us):=by
 have hsl:t < σ.length:=(Xf.1 ht).1
 have ho:=R.own t x b ht hx
 have hh:∀ b',b'≠b->(w.setRow b us).heap[b']?=w.heap[b']?:=by
  intro b' hne
  simp only [World.setRow,Array.getElem?_modify]
  rw [if_neg (fun e=>hne e.symm)]
 refine R.upd (Imm.le.refl I) (Bmap.le.refl β) ⟨rfl,rfl,rfl,by simp [World.setRow],fun k hk=>hh k (by rintro rfl;exact ho.1 hk)⟩ (fun _ _ _=>rfl) ?_ t x' rfl hsl (fun _ _ _=>rfl) ?_ hblk ?_ ?_ ?_ (fun b h=>absurd h (hns b))
 ·intro b' o u h
  have hne:b'≠b:=by rintro rfl;rw [ho.2 o] at h;cases h
  rw [<-R.imm b' o u h]
  simp only [World.cell?,hh b' hne]
 ·intro t' y b' hne hy hb'
  have hbb:b'≠b:=by rintro rfl;exact hne (R.apart t' y t x b' hy ht hb' hx)
  exact ⟨hh b' hbb,(R.own t' y b' hy hb').2,fun e=>hbb (hx' _ e)⟩
 ·intro b' e
  obtain rfl:=hx' _ e
  exact ho
 ·intro g hlt
  exact R.gen t x g ht (by rw [<-hg];exact hlt)
 ·rintro rfl
  exact hnf rfl
end
end
section
open Go.RowKit
theorem ZeU {k:Nat}:∀ {xs:List AVal},(∀ x ∈ xs,x.cells.length=k)->(xs.flatMap AVal.cells).length=xs.length*k
 | [],_=>by simp
 | x::xs,h=>by
  have:=ZeU (xs:=xs) (fun y hy=>h y (by simp [hy]))
  simp [h x (by simp),this,Wz,Nat.add_comm]
theorem Zhq {k:Nat}:∀ {xs:List AVal} {i:Nat},(∀ x ∈ xs,x.cells.length=k)->(xs.flatMap AVal.cells).drop (i*k)=(xs.drop i).flatMap AVal.cells
 | xs,0,_=>by simp
 | [],i+1,_=>by simp
 | x::xs,i+1,h=>by
  have:=Zhq (xs:=xs) (i:=i) (fun y hy=>h y (by simp [hy]))
  have hx:=h x (by simp)
  rw [X5,Wi,<-this,Xbv,hx,WW (by rw [hx,Wz];omega),XI]
  congr 1
  rw [Wz];omega
theorem Zg4 {k:Nat}:∀ {xs:List AVal} {i:Nat},(∀ x ∈ xs,x.cells.length=k)->(xs.flatMap AVal.cells).take (i*k)=(xs.take i).flatMap AVal.cells
 | xs,0,_=>by simp
 | [],i+1,_=>by simp
 | x::xs,i+1,h=>by
  have:=Zg4 (xs:=xs) (i:=i) (fun y hy=>h y (by simp [hy]))
  have hx:=h x (by simp)
  rw [X5,Wh,X5,<-this,Xbb,hx,Wk (by rw [hx,Wz];omega)]
  congr 2
  rw [Wz];omega
theorem ZFY {k i:Nat} {xs:List AVal} {x:AVal} (h:∀ x ∈ xs,x.cells.length=k) (hx:xs[i]?=some x):((xs.flatMap AVal.cells).drop (i*k)).take k=x.cells:=by
 rw [Zhq h]
 have hl:=Xf.1 hx
 obtain ⟨hi,hxe⟩:=hl
 rw [List.drop_eq_getElem_cons hi,hxe,X5,Xbb,h x (hxe ▸ Xaw hi)]
 simp [<-h x (hxe ▸ Xaw hi)]
theorem Zm3 {i n k:Nat} (h:i < n):i*k+k<=n*k:=by
 have:=Ww k (show i+1<=n by omega)
 rw [Wz] at this;omega
section
variable {P:Program} {base:Nat->Prop} {w0 w w':World} {I0 I I':Imm} {β β':Bmap} {σ σ':Za}
theorem ZcC {t g n:Nat} {v:Value}:VR I β (.sl t g 0 n) v↔∃ bi,β t g=some bi/\n<=bi.cap/\bi.cap<=9223372036854775807/\((∃ b,bi.b=some b/\v=.slice (some ⟨b,0,none⟩) n bi.cap)\/(bi.b=none/\bi.cap=0/\∃ A,v=.slice A 0 0)):=by
 simp only [VR,Xbo,XK,Nat.sub_zero,Xa2,false_and,or_false]
theorem Zjk:∀ {cs:List AVal} {b off:Nat},CR I β cs b off->∃ us:List Value,VRs I β cs us/\∀ j u,us[j]?=some u->I b (off+j)=some u
 | [],b,off,_=>⟨[],by simp only [VRs],fun j u h=>by simp at h⟩
 | c::cs,b,off,h=>by
  simp only [CR] at h
  obtain ⟨⟨u,h1,h2⟩,h3⟩:=h
  obtain ⟨us,h4,h5⟩:=Zjk h3
  refine ⟨u::us,by simp only [VRs];exact ⟨u,us,rfl,h2,h4⟩,fun j v hv=>?_⟩
  cases j with
  | zero=>simp only [XN,Xa] at hv;subst hv;exact h1
  | succ j =>
   simp only [XC] at hv
   have:=h5 j v hv
   rwa [show off+(j+1)=off+1+j by omega]
theorem ZyH:∀ {cs:List AVal} {us:List Value} {b off:Nat},VRs I β cs us->(∀ j u,us[j]?=some u->I b (off+j)=some u)->CR I β cs b off
 | [],us,b,off,_,_=>by simp only [CR]
 | c::cs,us,b,off,h,hi=>by
  simp only [VRs] at h
  obtain ⟨v,us',rfl,h2,h3⟩:=h
  simp only [CR]
  exact ⟨⟨v,hi 0 v rfl,h2⟩,ZyH h3 (fun j u hu=>by rw [show off+1+j=off+(j+1) by omega];exact hi (j+1) u (by simpa using hu))⟩
theorem ZiT {k:Nat}:∀ {xs:List AVal} {b off i:Nat} {x:AVal},LR I β k xs b off->xs[i]?=some x->x.cells.length=k/\CR I β x.cells b (off+i*k)
 | [],_,_,i,x,_,hx=>by simp at hx
 | y::xs,b,off,i,x,h,hx=>by
  rw [Zgf] at h
  cases i with
  | zero =>
   simp only [XN,Xa] at hx;subst hx
   simpa using h.1
  | succ i =>
   simp only [XC] at hx
   have:=ZiT h.2 hx
   rwa [show off+(i+1)*k=off+k+i*k by rw [Wz];omega]
theorem Zy2 {k:Nat} {xs:List AVal} {b off:Nat} (h:LR I β k xs b off):∀ x ∈ xs,x.cells.length=k:=by
 intro x hx
 obtain ⟨i,hi⟩:=WA.1 hx
 exact (ZiT h hi).1
theorem Zht {k:Nat}:∀ {xs:List AVal} {us:List Value} {b off:Nat},(∀ x ∈ xs,x.cells.length=k)->VRs I β (xs.flatMap AVal.cells) us->(∀ j u,us[j]?=some u->I b (off+j)=some u)->LR I β k xs b off
 | [],_,_,_,_,_,_=>by simp only [LR]
 | x::xs,us,b,off,hk,h,hi=>by
  rw [Zgf]
  have hx:=hk x (by simp)
  have h1:=Zeu h k
  have h2:=ZdY h k
  rw [X5,Xbb,hx,Wk (by omega),Xas,WL,X2] at h1
  rw [X5,Xbv,hx,WW (by omega),Xas,List.drop_zero,XI] at h2
  refine ⟨⟨hx,ZyH h1 (fun j u hu=>hi j u ?_)⟩,Zht (fun y hy=>hk y (by simp [hy])) h2 (fun j u hu=>?_)⟩
  ·rw [X8] at hu;split at hu
   ·exact hu
   ·cases hu
  ·rw [WK] at hu
   rw [show off+k+j=off+(k+j) by omega]
   exact hi _ u hu
theorem ZvV {k:Nat}:∀ {xs:List AVal} {b off:Nat},LR I β k xs b off->∃ us:List Value,VRs I β (xs.flatMap AVal.cells) us/\∀ j u,us[j]?=some u->I b (off+j)=some u
 | [],b,off,_=>⟨[],by simp only [List.flatMap_nil,VRs],fun j u h=>by simp at h⟩
 | x::xs,b,off,h=>by
  rw [Zgf] at h
  obtain ⟨us,h1,h2⟩:=Zjk h.1.2
  obtain ⟨vs,h3,h4⟩:=ZvV h.2
  have hl:=Zan h1
  refine ⟨us++vs,by rw [X5];exact Zcu h1 h3,fun j u hu=>?_⟩
  rw [WT] at hu
  split at hu
  ·exact h2 j u hu
  ·have:=h4 _ u hu
   rw [show off+j=off+k+(j - us.length) by omega]
   exact this
theorem ZrA {k:Nat}:∀ {xs:List AVal} {b off n:Nat},LR I β k xs b off->LR I β k (xs.drop n) b (off+n*k)
 | xs,b,off,0,h=>by simpa using h
 | [],b,off,n+1,h=>by simp [LR]
 | x::xs,b,off,n+1,h=>by
  rw [Zgf] at h
  have:=ZrA (n:=n) h.2
  rw [Wi,show off+(n+1)*k=off+k+n*k by rw [Wz];omega]
  exact this
theorem ZtM {k:Nat}:∀ {xs:List AVal} {b off n:Nat},LR I β k xs b off->LR I β k (xs.take n) b off
 | xs,b,off,0,h=>by simp [LR]
 | [],b,off,n+1,h=>by simp [LR]
 | x::xs,b,off,n+1,h=>by
  rw [Zgf] at h
  rw [Wh,Zgf]
  exact ⟨h.1,ZtM h.2⟩
theorem ZcS:∀ {xs:List AVal},Zac xs=true↔∀ x ∈ xs,ZaQ x.cells=true
 | []=>by simp [Zac]
 | x::xs=>by
  rw [Zwf,Xt,ZcS (xs:=xs)]
  simp
theorem Zdq:∀ {xs:List AVal},ZaQ xs=true↔∀ x ∈ xs,ZaT x=true
 | []=>by simp [ZaQ]
 | x::xs=>by
  rw [ZaQ,Xt,Zdq (xs:=xs)]
  simp
theorem ZrL {xs:List AVal} (h:Zac xs=true):ZaQ (xs.flatMap AVal.cells)=true:=by
 rw [Zdq]
 intro x hx
 obtain ⟨y,hy,hx⟩:=WB.1 hx
 exact Zdq.1 (ZcS.1 h y hy) x hx
theorem VR.one {x:AVal} {v:Value} (hx:Z1 x=true) (h:VR I β x v):v.oneCell'=true:=by
 cases x
 case agg=>simp [Z1] at hx
 case tup=>simp [Z1] at hx
 case top=>simp [Z1] at hx
 case pan=>simp [Z1] at hx
 all_goals
  simp only [VR] at h
  try exact h.2
  try (obtain ⟨_,_,_,_,rfl⟩:=h;rfl)
  try (obtain ⟨_,_,rfl,_⟩:=h;rfl)
  try (obtain ⟨_,rfl,_⟩:=h;rfl)
  try (obtain ⟨rfl,_⟩:=h;rfl)
  try (subst h;rfl)
  try (obtain ⟨_,_,_,_,(⟨_,_,rfl⟩ | ⟨_,_,_,rfl⟩ | ⟨_,_,_,_,rfl⟩)⟩:=h <;> rfl)
theorem Zjh {x:AVal} (h:ZaT x=true):Z1 x=true:=by cases x <;> simp_all [ZaT,Z1]
theorem ZgB:∀ {xs:List AVal} {vs:List Value},(∀ x ∈ xs,Z1 x=true)->VRs I β xs vs->∀ v ∈ vs,v.oneCell'=true
 | [],vs,_,h,v,hv=>by simp only [VRs] at h;subst h;simp at hv
 | x::xs,vs,hx,h,v,hv=>by
  simp only [VRs] at h
  obtain ⟨u,us,rfl,h2,h3⟩:=h
  rcases XP.1 hv with rfl | hv
  ·exact VR.one (hx x (by simp)) h2
  ·exact ZgB (fun y hy=>hx y (by simp [hy])) h3 v hv
theorem ZCO {t:TypeId} {k:Option Nat} (hk:Zeh P t=some k) {b off:Nat} {us:List Value} (hc:∀ j u,us[j]?=some u->w.cell? ⟨b,off+j,none⟩=some u)
  {cs:List AVal} (hv:VRs I β cs us) {o:Nat} {x:AVal} (hp:partA k cs o=some x):∃ u,(loadVar t ⟨b,off+o,none⟩).run P w=.ok u w/\VR I β x u:=by
 unfold Zeh at hk
 have hl:=Zan hv
 have many:∀ (d:TypeDesc) (i:TypeInfo),P.underlying t=some d->d.isRow=true->P.info? t=some i->k=some i.size->∃ u,(loadVar t ⟨b,off+o,none⟩).run P w=.ok u w/\VR I β x u:=by
  intro d i hu hd hi e
  subst e
  simp only [partA] at hp
  split at hp
  ·rename_i hle
   injection hp with hp
   subst hp
   refine ⟨_,run_loadVar_mid w b (off+o) t ((us.drop o).take i.size) d ?_ hu hd (by simp [hi];omega),?_⟩
   ·intro j v hj
    rw [X8] at hj
    split at hj
    ·rw [WK] at hj
     rw [W2]
     exact hc _ v hj
    ·cases hj
   ·simp only [VR]
    exact ⟨_,rfl,by simpa using Zeu (ZdY hv o) i.size⟩
  ·cases hp
 have one:∀ (d:TypeDesc),P.underlying t=some d->d.isRow=false->k=none->∃ u,(loadVar t ⟨b,off+o,none⟩).run P w=.ok u w/\VR I β x u:=by
  intro d hu hd e
  subst e
  simp only [partA] at hp
  obtain ⟨u,h1,h2⟩:=ZcF hv hp
  refine ⟨u,?_,h2⟩
  have hagg:(isAgg t).run P w=.ok false w:=by
   unfold isAgg
   rw [Sem.run_bind,run_underlying hu w]
   cases d <;> simp_all [TypeDesc.isRow]
  simp [loadVar,Sem.run_bind,hagg,hc o u h1]
 split at hk
 ·rename_i hu hi;injection hk with hk;exact many _ _ hu rfl hi hk.symm
 ·rename_i hu hi;injection hk with hk;exact many _ _ hu rfl hi hk.symm
 ·rename_i d i hu hi hn1 hn2
  split at hk
  ·injection hk with hk
   refine one d hn1 ?_ hk.symm
   cases d <;> simp_all [TypeDesc.isRow]
  ·cases hk
 ·cases hk
theorem Ze2 {b o:Nat} {us:Array Value} {ty:TypeId} {fz:Nat×Nat} (h:w.heap[b]?=some (.cells us ty fz)):w.cell? ⟨b,o,none⟩=us[o]?:=by simp [World.cell?,h]
theorem Zxe {t : TypeId} {k : Option Nat} (hk : Zeh P t = some k) (R : Rel base w0 I0 I β σ w) {a x : AVal} {v : Value} (ha : VR I β a v) {c : Cls} (h : ldA σ k a = some (x, σ', c)) :
    ∃ u, (Instr.loadAt t v).run P w = .ok u w /\ VR I β x u /\ σ' = σ := by
  have fin : ∀ {b off o : Nat} {us : List Value} {cs : List AVal}, (∀ j u, us[j]? = some u -> w.cell? ⟨b, off + j, none⟩ = some u) -> VRs I β cs us -> partA k cs o = some x -> v = .pointer (some ⟨b, off + o, none⟩) ->
      ∃ u, (Instr.loadAt t v).run P w = .ok u w /\ VR I β x u := by
    intro b off o us cs hc hv hp e
    subst e
    obtain ⟨u, h1, h2⟩ := ZCO hk hc hv hp
    exact ⟨u, by simp only [Instr.loadAt, Instr.sureAddr, Sem.run_bind, Sem.run_pure, Result.andThen_ok, h1], h2⟩
  have rowcase : ∀ {b kk i o cap : Nat} {us : Array Value} {ty : TypeId} {xs : List AVal} {y : AVal}, w.heap[b]? = some (.cells us ty (0, 0)) -> (∀ x ∈ xs, x.cells.length = kk) -> VRs I β (xs.flatMap AVal.cells) (us.toList.take (xs.length * kk)) ->
      xs[i]? = some y -> partA k y.cells o = some x -> v = .pointer (some ⟨b, i * kk + o, none⟩) -> ∃ u, (Instr.loadAt t v).run P w = .ok u w /\ VR I β x u := by
    intro b kk i o cap us ty xs y hh hlen hv hy hp e
    have h1 := Zeu (ZdY hv (i * kk)) kk
    rw [ZFY hlen hy] at h1
    refine fin (off := i * kk) ?_ h1 hp e
    intro j u hu
    rw [X8] at hu
    split at hu
    . rw [WK, X8] at hu
      split at hu
      . rw [Ze2 hh]; simpa using hu
      . cases hu
    . cases hu
  have frowcase : ∀ {kk i o b : Nat} {xs : List AVal} {y : AVal}, LR I β kk xs b 0 -> xs[i]? = some y -> partA k y.cells o = some x -> v = .pointer (some ⟨b, i * kk + o, none⟩) -> ∃ u, (Instr.loadAt t v).run P w = .ok u w /\ VR I β x u := by
    intro kk i o b xs y hL hy hp e
    obtain ⟨us, h1, h2⟩ := Zjk (ZiT hL hy).2
    exact fin (off := i * kk) (fun j u hu => R.imm _ _ _ (by have := h2 j u hu; rwa [XK] at this)) h1 hp e
  unfold ldA at h
  split at h
  . rename_i t' o
    simp only [VR] at ha
    obtain ⟨b, k', c', hβ, rfl⟩ := ha
    split at h
    . rename_i cs hs
      split at h
      . rename_i v' hp
        simp only [Xa, Xb] at h
        obtain ⟨rfl, rfl, rfl⟩ := h
        obtain ⟨b', k'', c'', us, ty, h1, h2, h3⟩ := R.blk _ _ hs
        rw [hβ] at h1
        simp only [Xa, BI.mk.injEq] at h1
        obtain ⟨rfl, rfl, rfl⟩ := h1
        obtain ⟨u, hu1, hu2⟩ := fin (off := 0) (fun j u hu => by rw [Ze2 h2]; simpa using hu) h3 hp (by simp)
        exact ⟨u, hu1, hu2, rfl⟩
      . cases h
    . cases h
  . rename_i t' g i o
    simp only [VR] at ha
    obtain ⟨b, k', c', hβ, rfl⟩ := ha
    split at h
    . rename_i g' kk xs hs
      split at h
      . rename_i e; subst e
        split at h
        . rename_i y hy
          split at h
          . rename_i v' hp
            simp only [Xa, Xb] at h
            obtain ⟨rfl, rfl, rfl⟩ := h
            obtain ⟨bi, h1, h2, h3, h4, h5, h6, h7, h8⟩ := R.blk _ _ hs
            rw [hβ] at h1
            injection h1 with h1
            subst h1
            simp only at h2 h8
            subst h2
            rcases h8 with ⟨h8, _⟩ | ⟨b', us, ty, e, h8, h9, h10⟩
            . cases h8
            . injection e with e
              subst e
              obtain ⟨u, hu1, hu2⟩ := rowcase (cap := 0) h8 h7 h10 hy hp rfl
              exact ⟨u, hu1, hu2, rfl⟩
          . cases h
        . cases h
      . cases h
    . rename_i g' kk xs hs
      split at h
      . rename_i e; subst e
        split at h
        . rename_i y hy
          split at h
          . rename_i v' hp
            simp only [Xa, Xb] at h
            obtain ⟨rfl, rfl, rfl⟩ := h
            obtain ⟨bi, h1, h2, h3, h4, h5, h6, h7⟩ := R.blk _ _ hs
            rw [hβ] at h1
            injection h1 with h1
            subst h1
            simp only at h2 h7
            subst h2
            rcases h7 with h7 | ⟨b', e, h7⟩
            . subst h7; simp at hy
            . injection e with e
              subst e
              obtain ⟨u, hu1, hu2⟩ := frowcase h7 hy hp rfl
              exact ⟨u, hu1, hu2, rfl⟩
          . cases h
        . cases h
      . cases h
    . rename_i g' kk xs hs
      split at h
      . rename_i e; subst e
        split at h
        . rename_i y hy
          split at h
          . rename_i v' hp
            simp only [Xa, Xb] at h
            obtain ⟨rfl, rfl, rfl⟩ := h
            obtain ⟨bi, h1, h2, h3, h4, h5, h6, b', us, ty, e, h8, h9, h10⟩ := R.blk _ _ hs
            rw [hβ] at h1
            injection h1 with h1
            subst h1
            simp only at h2 e
            subst h2
            injection e with e
            subst e
            obtain ⟨u, hu1, hu2⟩ := rowcase (cap := 0) h8 (fun x hx => (h6 x hx).1) h10 hy hp rfl
            exact ⟨u, hu1, hu2, rfl⟩
          . cases h
        . cases h
      . cases h
    . cases h
  . rename_i cs o
    simp only [VR] at ha
    obtain ⟨b, off, rfl, h1, h2⟩ := ha
    split at h
    . rename_i v' hp
      simp only [Xa, Xb] at h
      obtain ⟨rfl, rfl, rfl⟩ := h
      obtain ⟨us, h3, h4⟩ := Zjk h1
      obtain ⟨u, hu1, hu2⟩ := fin (off := off) (fun j u hu => R.imm _ _ _ (h4 j u hu)) h3 hp rfl
      exact ⟨u, hu1, hu2, rfl⟩
    . cases h
  . cases h
end
end
section
open Go.RowKit
section
variable {P:Program} {base:Nat->Prop} {w0 w w':World} {I0 I I':Imm} {β β':Bmap} {σ σ':Za}
def Zhh (I:Imm) (β:Bmap) (w:World) (v:Value) (xs:List AVal):Prop :=
 ∃ A cap,v=.slice A xs.length cap/\xs.length<=cap/\cap<=9223372036854775807/\Zac xs=true /\
  (xs=[]\/∃ b off k us,A=some ⟨b,off,none⟩/\0 < k/\(∀ x ∈ xs,x.cells.length=k)/\VRs I β (xs.flatMap AVal.cells) us/\∀ j u,us[j]?=some u->w.cell? ⟨b,off+j,none⟩=some u)
theorem Zn1 (R:Rel base w0 I0 I β σ w) {x:Bool} {xs:List AVal} {v:Value} (h:VR I β (.lst x xs) v):Zhh I β w v xs:=by
 simp only [VR] at h
 obtain ⟨A,cap,h1,h2,h3,h4,h5,h6⟩:=h
 refine ⟨A,cap,h1,h2,h3,h6,?_⟩
 rcases h5 with h5 | ⟨b,off,k,e,hk,h5⟩
 ·exact XH h5
 ·obtain ⟨us,h7,h8⟩:=ZvV h5
  exact XO ⟨b,off,k,us,e,hk,Zy2 h5,h7,fun j u hu=>R.imm _ _ _ (h8 j u hu)⟩
theorem Zhu {xs:List AVal} (h:Zac xs=true) (n:Nat):Zac (xs.take n)=true:=by
 rw [ZcS] at h ⊢
 exact fun x hx=>h x (W4 hx)
theorem Zh7 {xs:List AVal} (h:Zac xs=true) (n:Nat):Zac (xs.drop n)=true:=by
 rw [ZcS] at h ⊢
 exact fun x hx=>h x (WU hx)
theorem ZgH {xs ys:List AVal} (h:Zac xs=true) (h':Zac ys=true):Zac (xs++ys)=true:=by
 rw [ZcS] at h h' ⊢
 intro x hx
 rcases XG.1 hx with hx | hx
 ·exact h x hx
 ·exact h' x hx
theorem ZE6 (R:Rel base w0 I0 I β σ w) {t g k lo n:Nat} {xs:List AVal} {v:Value} (hs:σ[t]?=some (.row g k xs)) (hn:lo+n<=xs.length) (h:VR I β (.sl t g lo n) v):Zhh I β w v ((xs.drop lo).take n):=by
 simp only [VR] at h
 obtain ⟨bi,h1,h2,h3,h4⟩:=h
 obtain ⟨bi',e1,e2,e3,e4,e5,e6,e7,e8⟩:=R.blk _ _ hs
 rw [h1] at e1
 injection e1 with e1
 subst e1
 have hl:((xs.drop lo).take n).length=n:=by simp;omega
 have ht:=Zhu (Zh7 e6 lo) n
 have zero:∀ A,n=0->v=.slice A 0 0->Zhh I β w v ((xs.drop lo).take n):=by
  intro A hz e
  subst hz
  exact ⟨A,0,by simpa using e,by simp,by simp,by simp [Zac],XH (by simp)⟩
 rcases h4 with ⟨b,hb,rfl⟩ | ⟨hb,hc,A,rfl⟩ | ⟨_,_,hz,A,hv⟩
 ·rcases e8 with ⟨e8,_⟩ | ⟨b',us,ty,e,e8,e9,e10⟩
  ·rw [hb] at e8;cases e8
  ·rw [hb] at e
   injection e with e
   subst e
   refine ⟨_,_,by rw [hl],by rw [hl];omega,by omega,ht,XO ⟨b,lo*bi.k,k,((us.toList.take (xs.length*k)).drop (lo*k)).take (n*k),rfl,e3,fun x hx=>e7 x (WU (W4 hx)),?_,?_⟩⟩
   ·have h5:=Zeu (ZdY e10 (lo*k)) (n*k)
    rwa [Zhq e7,Zg4 (fun x hx=>e7 x (WU hx))] at h5
   ·intro j u hu
    rw [X8] at hu
    split at hu
    ·rw [WK,X8] at hu
     split at hu
     ·rw [Ze2 e8,e2];simpa using hu
     ·cases hu
    ·cases hu
 ·exact zero A (by omega) rfl
 ·exact zero A hz hv
theorem Zq0 (R:Rel base w0 I0 I β σ w) {t g k lo n:Nat} {xs:List AVal} {v:Value} (hs:σ[t]?=some (.frow g k xs)) (hn:lo+n<=xs.length) (h:VR I β (.sl t g lo n) v):VR I β (.lst false ((xs.drop lo).take n)) v:=by
 simp only [VR] at h ⊢
 obtain ⟨bi,h1,h2,h3,h4⟩:=h
 obtain ⟨bi',e1,e2,e3,e4,e5,e6,e7⟩:=R.blk _ _ hs
 rw [h1] at e1
 injection e1 with e1
 subst e1
 have hl:((xs.drop lo).take n).length=n:=by simp;omega
 have ht:=Zhu (Zh7 e6 lo) n
 have zero:∀ A,n=0->v=.slice A 0 0->∃ A cap,v=.slice A ((xs.drop lo).take n).length cap/\((xs.drop lo).take n).length<=cap/\cap<=9223372036854775807/\(false=true->cap=((xs.drop lo).take n).length)/\((xs.drop lo).take n=[]\/∃ b off k,A=some ⟨b,off,none⟩/\0 < k/\LR I β k ((xs.drop lo).take n) b off)/\Zac ((xs.drop lo).take n)=true:=by
  intro A hz e
  subst hz
  exact ⟨A,0,by simpa using e,by simp,by simp,by simp,XH (by simp),by simp [Zac]⟩
 rcases h4 with ⟨b,hb,rfl⟩ | ⟨hb,hc,A,rfl⟩ | ⟨_,_,hz,A,hv⟩
 ·refine ⟨_,_,by rw [hl],by rw [hl];omega,by omega,by simp,?_,ht⟩
  rcases e7 with e7 | ⟨b',e,e7⟩
  ·subst e7;exact XH (by simp)
  ·rw [hb] at e
   injection e with e
   subst e
   have h5:=ZtM (n:=n) (ZrA (n:=lo) e7)
   rw [XK] at h5
   exact XO ⟨b,lo*bi.k,k,rfl,e3,by rw [e2];exact h5⟩
 ·exact zero A (by omega) rfl
 ·exact zero A hz hv
theorem ZnH (R:Rel base w0 I0 I β σ w) {a:AVal} {xs:List AVal} {ts:List Nat} {v:Value} (hn:∀ l,a≠.str l) (h:Zo σ a=some (xs,ts)) (hv:VR I β a v):Zhh I β w v xs:=by
 unfold Zo at h
 split at h
 ·simp only [Xa,Xb] at h
  obtain ⟨rfl,rfl⟩:=h
  exact Zn1 R hv
 ·rename_i l;exact absurd rfl (hn l)
 ·split at h
  ·rename_i hs
   split at h
   ·rename_i he
    obtain ⟨rfl,he⟩:=he
    simp only [Xa,Xb] at h
    obtain ⟨rfl,rfl⟩:=h
    exact ZE6 R hs he hv
   ·cases h
  ·rename_i hs
   split at h
   ·rename_i he
    obtain ⟨rfl,he⟩:=he
    simp only [Xa,Xb] at h
    obtain ⟨rfl,rfl⟩:=h
    exact Zn1 R (Zq0 R hs he hv)
   ·cases h
  ·cases h
 ·cases h
def Rowy (σ:Za) (ts:List Nat):Prop:=∀ t ∈ ts,∃ g k xs,σ[t]?=some (.row g k xs)\/σ[t]?=some (.frow g k xs)
def Frozen (σ:Za) (ts:List Nat):Prop:=∀ t ∈ ts,∃ g k xs,σ[t]?=some (.frow g k xs)
theorem Rowy.append {ts us:List Nat} (h:Rowy σ ts) (h':Rowy σ us):Rowy σ (ts++us):=by
 intro t ht
 rcases XG.1 ht with ht | ht
 ·exact h t ht
 ·exact h' t ht
theorem ZjE {a:AVal} {xs:List AVal} {ts:List Nat} (h:Zo σ a=some (xs,ts)):Rowy σ ts:=by
 unfold Zo at h
 split at h
 ·simp only [Xa,Xb] at h;rw [<-h.2];intro t ht;simp at ht
 ·simp only [Xa,Xb] at h;rw [<-h.2];intro t ht;simp at ht
 ·split at h
  ·rename_i hs
   split at h
   ·simp only [Xa,Xb] at h;rw [<-h.2];intro t ht;simp at ht;subst ht;exact ⟨_,_,_,XH hs⟩
   ·cases h
  ·rename_i hs
   split at h
   ·simp only [Xa,Xb] at h;rw [<-h.2];intro t ht;simp at ht;subst ht;exact ⟨_,_,_,XO hs⟩
   ·cases h
  ·cases h
 ·cases h
theorem ZiQ {a y:AVal} {ts:List Nat} (h:Zad σ a=some (y,ts)):Rowy σ ts:=by
 unfold Zad at h
 split at h
 case h_2 =>
  split at h
  ·rename_i he
   simp only [Xa,Xb] at h
   rw [<-h.2]
   exact ZjE he
  ·cases h
 case h_9=>cases h
 all_goals
  simp only [Xa,Xb] at h
  rw [<-h.2]
  intro t ht
  simp at ht
theorem ZuP:∀ {cs ys:List AVal} {ts:List Nat},Zag σ cs=some (ys,ts)->Rowy σ ts
 | [],ys,ts,h=>by simp only [Zag,Xa,Xb] at h;rw [<-h.2];intro t ht;simp at ht
 | c::cs,ys,ts,h=>by
  simp only [Zag] at h
  split at h
  ·rename_i h1
   split at h
   ·rename_i h2
    simp only [Xa,Xb] at h
    rw [<-h.2]
    exact (ZiQ h1).append (ZuP h2)
   ·cases h
  ·cases h
theorem ZxO {a y:AVal} {ts:List Nat} (h:Zao σ a=some (y,ts)):Rowy σ ts:=by
 unfold Zao at h
 split at h
 ·split at h
  ·rename_i h1
   simp only [Xa,Xb] at h
   rw [<-h.2]
   exact ZuP h1
  ·cases h
 ·exact ZiQ h
theorem Zi9:∀ {cs ys:List AVal} {ts:List Nat},viewAs σ cs=some (ys,ts)->Rowy σ ts
 | [],ys,ts,h=>by simp only [viewAs,Xa,Xb] at h;rw [<-h.2];intro t ht;simp at ht
 | c::cs,ys,ts,h=>by
  simp only [viewAs] at h
  split at h
  ·rename_i h1
   split at h
   ·rename_i h2
    simp only [Xa,Xb] at h
    rw [<-h.2]
    exact (ZxO h1).append (Zi9 h2)
   ·cases h
  ·cases h
theorem Zvy {a y:AVal} {ts:List Nat} (h:viewR σ a=some (y,ts)):Rowy σ ts:=by
 unfold viewR at h
 split at h
 ·split at h
  ·rename_i h1
   simp only [Xa,Xb] at h
   rw [<-h.2]
   exact Zi9 h1
  ·cases h
 ·exact ZxO h
def Alike (σ σ':Za):Prop:=∀ a,Zo σ' a=Zo σ a
theorem Alike.view1 (h:Alike σ σ') (a:AVal):Zad σ' a=Zad σ a:=by
 cases a <;> simp only [Zad]
 rw [h]
theorem Alike.views (h:Alike σ σ'):∀ cs,Zag σ' cs=Zag σ cs
 | []=>rfl
 | c::cs=>by simp only [Zag,h.view1,h.views cs]
theorem Alike.view (h:Alike σ σ') (a:AVal):Zao σ' a=Zao σ a:=by
 cases a <;> simp only [Zao,h.view1,h.views]
theorem Alike.viewAs (h:Alike σ σ'):∀ cs,viewAs σ' cs=viewAs σ cs
 | []=>rfl
 | c::cs=>by
  have ih:=h.viewAs cs
  simp only [Ytaimaokfbgmoiaa.viewAs,h.view,ih]
theorem Alike.viewR (h:Alike σ σ') (a:AVal):viewR σ' a=viewR σ a:=by
 cases a <;> simp only [Ytaimaokfbgmoiaa.viewR,h.view,h.viewAs]
theorem ZAK {I:Imm} {β:Bmap} {xs:List AVal} {vs:List Value} (h:VRs I β xs vs) {i:Nat} {v:Value} (hv:vs[i]?=some v):∃ x,xs[i]?=some x/\VR I β x v:=by
 cases hx:xs[i]? with
 | none =>
  rw [Wd,Zan h,<-Wd] at hx
  rw [hx] at hv;cases hv
 | some x =>
  obtain ⟨v',h1,h2⟩:=ZcF h hx
  rw [hv] at h1;injection h1 with h1;subst h1
  exact ⟨x,rfl,h2⟩
theorem ZAM {I:Imm} {β:Bmap} {c:AVal} {n:Int} (h:nb1 c=true) (hv:VR I β c (.int .u8 n)):False:=by
 unfold nb1 at h
 split at h
 ·cases h
 ·rename_i k m hk
  simp only [VR] at hv
  injection hv with h1 h2
  subst h1;exact hk rfl
 all_goals first
  | (cases h;done)
  | (simp only [VR] at hv;first | (cases hv;done) | (cases hv.1;done) | (obtain ⟨_,_,hv,_⟩:=hv;cases hv))
theorem ZAJ (R:Rel base w0 I0 I β σ w) {t g k:Nat} {xs:List AVal} (hs:σ[t]?=some (.row g k xs)) :
  ∃ I',I.le I'/\Rel base w0 I0 I' β (σ.set t (.frow g k xs)) w/\(Zyh xs=true->∀ b o n,I' b o=some (.int .u8 n)->I b o=some (.int .u8 n)):=by
 have hsl:t < σ.length:=(Xf.1 hs).1
 obtain ⟨bi,h1,h2,h3,h4,h5,h6,h7,h8⟩:=R.blk _ _ hs
 rcases h8 with ⟨h8,h9⟩ | ⟨b,us,ty,e,h8,h9,h10⟩
 ·have hx:xs=[]:=Wb (by omega)
  refine ⟨I,Imm.le.refl I,R.upd (Imm.le.refl I) (Bmap.le.refl β) (KB.refl base w) (fun _ _ _=>rfl) R.imm t _ rfl hsl (fun _ _ _=>rfl) (fun t' x b _ hx hb=>⟨rfl,(R.own t' x b hx hb).2,by simp [Zw]⟩) ⟨bi,h1,h2,h3,h4,h5,h6,XH hx⟩ (fun b e=>by cases e) (fun g' hg=>R.gen t _ g' hs (by simpa [Zc] using hg)) (by simp),fun _ _ _ _ h=>h⟩
 ·have hown:Zw w β t (.row g k xs) b:=by simp [Zw,h1,e]
  have ho:=R.own t _ b hs hown
  let I':Imm:=fun b' o=>if b'=b/\o < xs.length*k then us[o]? else I b' o
  have hle:I.le I':=by
   intro b' o u hu
   have : b'≠b:=by rintro rfl;rw [ho.2 o] at hu;cases hu
   simp only [I',this,false_and,if_false]
   exact hu
  have hlen:xs.length*k<=us.size:=by rw [h9];exact Ww k h5
  refine ⟨I',hle,R.upd hle (Bmap.le.refl β) (KB.refl base w) ?_ ?_ t _ rfl hsl (fun _ _ _=>rfl) ?_ ?_ (fun b e=>by cases e) (fun g' hg=>R.gen t _ g' hs (by simpa [Zc] using hg)) (by simp),?_⟩
  ·intro b' o hb'
   have : b'≠b:=by rintro rfl;exact ho.1 hb'
   simp only [I',this,false_and,if_false]
  ·intro b' o u hu
   simp only [I'] at hu
   split at hu
   ·rename_i hc
    rw [hc.1,Ze2 h8];exact hu
   ·exact R.imm _ _ _ hu
  ·intro t' x b' hne hx hb'
   have : b'≠b:=by rintro rfl;exact hne (R.apart t' x t _ b' hx hs hb' hown)
   refine ⟨rfl,fun o=>?_,by simp [Zw]⟩
   simp only [I',this,false_and,if_false]
   exact (R.own t' x b' hx hb').2 o
  ·refine ⟨bi,h1,h2,h3,h4,h5,h6,XO ⟨b,e,?_⟩⟩
   refine Zht h7 (VRs.mono hle (Bmap.le.refl β) _ _ h10) (fun j u hu=>?_)
   rw [X8] at hu
   split at hu
   ·rename_i hj
    simp only [I',XK,true_and,hj,if_true]
    simpa using hu
   ·cases hu
  ·intro hnb b' o n hu
   simp only [I'] at hu
   split at hu
   ·rename_i hc
    exfalso
    have hj:(us.toList.take (xs.length*k))[o]?=some (.int .u8 n):=by
     rw [X8,if_pos hc.2];simpa using hu
    obtain ⟨c,hc1,hc2⟩:=ZAK h10 hj
    obtain ⟨x,hx,hcx⟩:=WB.1 (Xx hc1)
    exact ZAM (XW.1 (XW.1 hnb x hx) c hcx) hc2
   ·exact hu
theorem ZzX {t g k:Nat} {xs:List AVal} (hs:σ[t]?=some (.row g k xs)):Alike σ (σ.set t (.frow g k xs)):=by
 have hsl:t < σ.length:=(Xf.1 hs).1
 intro a
 cases a <;> simp only [Zo]
 rename_i t' g' lo n
 rw [Xv]
 by_cases e:t=t'
 ·subst e
  rw [if_pos rfl,if_pos hsl,hs]
 ·rw [if_neg e]
theorem Zgd:∀ (ts:List Nat) {I:Imm} {σ:Za},Rel base w0 I0 I β σ w->∃ I',I.le I'/\Rel base w0 I0 I' β (ZV σ ts) w/\Alike σ (ZV σ ts)/\(∀ (t g k:Nat) (xs:List AVal),σ[t]?=some (Zq.frow g k xs)->(ZV σ ts)[t]?=some (Zq.frow g k xs))/\(Rowy σ ts->Frozen (ZV σ ts) ts)/\(ZV σ ts).length=σ.length/\(∀ (t:Nat) (x:Zq),t ∉ ts->σ[t]?=some x->(ZV σ ts)[t]?=some x)/\(ts.all (Zgv σ)=true->∀ b o n,I' b o=some (.int .u8 n)->I b o=some (.int .u8 n))
 | [],I,σ,R=>⟨I,Imm.le.refl I,R,fun _=>rfl,fun _ _ _ _ h=>h,fun _ t ht=>by simp at ht,rfl,fun _ _ _ h=>h,fun _ _ _ _ h=>h⟩
 | t::ts,I,σ,R=>by
  unfold ZV
  split
  ·rename_i g k xs hs
   obtain ⟨I1,h1,R1,h1n⟩:=ZAJ R hs
   have hsl:t < σ.length:=(Xf.1 hs).1
   obtain ⟨I2,h2,R2,h3,h4,h5,h6,h7,h8⟩:=Zgd ts R1
   have hk:∀ (t' g' k':Nat) (xs':List AVal),σ[t']?=some (Zq.frow g' k' xs')->(σ.set t (Zq.frow g k xs))[t']?=some (Zq.frow g' k' xs'):=by
    intro t' g' k' xs' h
    rw [Xv,if_neg (by rintro rfl;rw [hs] at h;cases h)]
    exact h
   refine ⟨I2,h1.trans h2,R2,fun a=>(h3 a).trans (ZzX hs a),fun t' g' k' xs' h=>h4 _ _ _ _ (hk _ _ _ _ h),?_,by rw [h6];simp,?_,?_⟩
   ·intro hr t' ht'
    rcases XP.1 ht' with rfl | ht'
    ·exact ⟨g,k,xs,h4 _ _ _ _ (by rw [Xv,if_pos rfl,if_pos hsl])⟩
    ·refine h5 (fun t'' ht''=>?_) t' ht'
     obtain ⟨g',k',xs',hx⟩:=hr t'' (by simp [ht''])
     by_cases e:t=t''
     ·subst e;exact ⟨g,k,xs,XO (by rw [Xv,if_pos rfl,if_pos hsl])⟩
     ·exact ⟨g',k',xs',by rw [Xv,if_neg e];exact hx⟩
   ·intro t' x hn h
    simp only [XP,not_or] at hn
    exact h7 t' x hn.2 (by rw [Xv,if_neg (fun e=>hn.1 e.symm)];exact h)
   ·intro hnb b o n hu
    simp only [Xi,Xt] at hnb
    refine h1n (by simpa [Zgv,hs] using hnb.1) b o n (h8 ?_ b o n hu)
    refine XW.2 fun t' ht'=>?_
    have:=XW.1 hnb.2 t' ht'
    unfold Zgv at this ⊢
    rw [Xv]
    by_cases e:t=t'
    ·rw [if_pos e,if_pos hsl]
    ·rw [if_neg e];exact this
  ·rename_i hno
   obtain ⟨I2,h2,R2,h3,h4,h5,h6,h7,h8⟩:=Zgd ts R
   refine ⟨I2,h2,R2,h3,h4,?_,h6,fun t' x hn h=>h7 t' x (fun hc=>hn (by simp [hc])) h,fun hnb=>h8 (by simp only [Xi,Xt] at hnb;exact hnb.2)⟩
   intro hr t' ht'
   rcases XP.1 ht' with rfl | ht'
   ·obtain ⟨g,k,xs,hx | hx⟩:=hr t' (by simp)
    ·exact absurd hx (hno g k xs)
    ·exact ⟨g,k,xs,h4 _ _ _ _ hx⟩
   ·exact h5 (fun t'' ht''=>hr t'' (by simp [ht''])) t' ht'
theorem Zks (R:Rel base w0 I0 I β σ w) {a y:AVal} {ts:List Nat} {v:Value} (hF:Frozen σ ts) (h:Zad σ a=some (y,ts)) (hv:VR I β a v):VR I β y v/\ZaT y=true:=by
 unfold Zad at h
 split at h
 case h_1 x xs =>
  simp only [Xa,Xb] at h
  obtain ⟨rfl,rfl⟩:=h
  simp only [VR] at hv ⊢
  obtain ⟨A,cap,h1,h2,h3,h4,h5,h6⟩:=hv
  exact ⟨⟨A,cap,h1,h2,h3,by simp,h5,h6⟩,by simpa [ZaT] using h6⟩
 case h_2 t g lo n =>
  split at h
  ·rename_i xs us he
   simp only [Xa,Xb] at h
   obtain ⟨rfl,rfl⟩:=h
   simp only [Zo] at he
   split at he
   ·rename_i hs
    split at he
    ·simp only [Xa,Xb] at he
     obtain ⟨g',k',xs',hx⟩:=hF t (by rw [<-he.2];simp)
     rw [hs] at hx;cases hx
    ·cases he
   ·rename_i hs
    split at he
    ·rename_i hc
     obtain ⟨rfl,hc⟩:=hc
     simp only [Xa,Xb] at he
     obtain ⟨rfl,rfl⟩:=he
     have:=Zq0 R hs hc hv
     refine ⟨this,?_⟩
     simp only [VR] at this
     obtain ⟨_,_,_,_,_,_,_,h6⟩:=this
     simpa [ZaT] using h6
    ·cases he
   ·cases he
  ·cases h
 case h_9=>cases h
 all_goals
  simp only [Xa,Xb] at h
  obtain ⟨rfl,rfl⟩:=h
  exact ⟨hv,rfl⟩
theorem Frozen.left {ts us:List Nat} (h:Frozen σ (ts++us)):Frozen σ ts:=fun t ht=>h t (by simp [ht])
theorem Frozen.right {ts us:List Nat} (h:Frozen σ (ts++us)):Frozen σ us:=fun t ht=>h t (by simp [ht])
theorem Zma (R:Rel base w0 I0 I β σ w):∀ {cs ys:List AVal} {ts:List Nat} {vs:List Value},Frozen σ ts->Zag σ cs=some (ys,ts)->VRs I β cs vs->VRs I β ys vs/\ZaQ ys=true
 | [],ys,ts,vs,_,h,hv=>by
  simp only [Zag,Xa,Xb] at h
  rw [<-h.1]
  exact ⟨hv,rfl⟩
 | c::cs,ys,ts,vs,hF,h,hv=>by
  simp only [Zag] at h
  simp only [VRs] at hv
  obtain ⟨v,vs',rfl,hv1,hv2⟩:=hv
  split at h
  ·rename_i y ts1 h1
   split at h
   ·rename_i ys1 us1 h2
    simp only [Xa,Xb] at h
    obtain ⟨rfl,rfl⟩:=h
    obtain ⟨a1,a2⟩:=Zks R hF.left h1 hv1
    obtain ⟨b1,b2⟩:=Zma R hF.right h2 hv2
    exact ⟨by simp only [VRs];exact ⟨v,vs',rfl,a1,b1⟩,by simp [ZaQ,a2,b2]⟩
   ·cases h
  ·cases h
theorem ZzA (R:Rel base w0 I0 I β σ w) {a y:AVal} {ts:List Nat} {v:Value} (hF:Frozen σ ts) (h:Zao σ a=some (y,ts)) (hv:VR I β a v):VR I β y v/\ZaQ y.cells=true:=by
 unfold Zao at h
 split at h
 ·rename_i cs
  split at h
  ·rename_i ys us h1
   simp only [Xa,Xb] at h
   obtain ⟨rfl,rfl⟩:=h
   simp only [VR] at hv ⊢
   obtain ⟨us',rfl,hv⟩:=hv
   obtain ⟨a1,a2⟩:=Zma R hF h1 hv
   exact ⟨⟨us',rfl,a1⟩,a2⟩
  ·cases h
 ·rename_i hne
  obtain ⟨a1,a2⟩:=Zks R hF h hv
  refine ⟨a1,?_⟩
  cases y <;> simp_all [ZaT,AVal.cells,ZaQ]
theorem Zlv (R:Rel base w0 I0 I β σ w):∀ {cs ys:List AVal} {ts:List Nat} {vs:List Value},Frozen σ ts->viewAs σ cs=some (ys,ts)->VRs I β cs vs->VRs I β ys vs/\∀ y ∈ ys,ZaQ y.cells=true
 | [],ys,ts,vs,_,h,hv=>by
  simp only [viewAs,Xa,Xb] at h
  rw [<-h.1]
  exact ⟨hv,by simp⟩
 | c::cs,ys,ts,vs,hF,h,hv=>by
  simp only [viewAs] at h
  simp only [VRs] at hv
  obtain ⟨v,vs',rfl,hv1,hv2⟩:=hv
  split at h
  ·rename_i y ts1 h1
   split at h
   ·rename_i ys1 us1 h2
    simp only [Xa,Xb] at h
    obtain ⟨rfl,rfl⟩:=h
    obtain ⟨a1,a2⟩:=ZzA R hF.left h1 hv1
    obtain ⟨b1,b2⟩:=Zlv R hF.right h2 hv2
    refine ⟨by simp only [VRs];exact ⟨v,vs',rfl,a1,b1⟩,?_⟩
    intro z hz
    rcases XP.1 hz with rfl | hz
    ·exact a2
    ·exact b2 z hz
   ·cases h
  ·cases h
theorem VR.of_cells {I:Imm} {β β':Bmap} {x:AVal} {v:Value} (ht:ZaQ x.cells=true) (h:VR I β x v):VR I β' x v:=by
 cases x
 case agg cs =>
  simp only [VR] at h ⊢
  obtain ⟨us,rfl,h⟩:=h
  refine ⟨us,rfl,ZdF (Zan h) (fun i x v hx hv=>?_)⟩
  obtain ⟨v',h1,h2⟩:=ZcF h hx
  rw [hv] at h1;injection h1 with h1;subst h1
  exact VR.of_tree (Zdq.1 ht x (Xx hx)) h2
 all_goals exact VR.of_tree (by simpa [AVal.cells,ZaQ] using ht) h
theorem VRs.of_cells {I:Imm} {β β':Bmap} {xs:List AVal} {vs:List Value} (ht:∀ x ∈ xs,ZaQ x.cells=true) (h:VRs I β xs vs):VRs I β' xs vs :=
 ZdF (Zan h) (fun i x v hx hv=>by
  obtain ⟨v',h1,h2⟩:=ZcF h hx
  rw [hv] at h1;injection h1 with h1;subst h1
  exact VR.of_cells (ht x (Xx hx)) h2)
theorem ZwY (R:Rel base w0 I0 I β σ w) {a y:AVal} {ts:List Nat} {v:Value} (hF:Frozen σ ts) (h:viewR σ a=some (y,ts)) (hv:VR I β a v):VR I B0 y v:=by
 unfold viewR at h
 split at h
 ·rename_i vs
  split at h
  ·rename_i ys us h1
   simp only [Xa,Xb] at h
   obtain ⟨rfl,rfl⟩:=h
   simp only [VR] at hv ⊢
   obtain ⟨us',rfl,hv⟩:=hv
   obtain ⟨a1,a2⟩:=Zlv R hF h1 hv
   exact ⟨us',rfl,VRs.of_cells a2 a1⟩
  ·cases h
 ·obtain ⟨a1,a2⟩:=ZzA R hF h hv
  exact VR.of_cells a2 a1
theorem ZiI {I I':Imm} {β β':Bmap} {x:AVal} {v:Value} (hf:Za5 x=true) (h:VR I β x v):VR I' β' x v:=by
 cases x <;> simp [Za5] at hf <;> simpa only [VR] using h
theorem Zxf {I I':Imm} {β β':Bmap} {xs:List AVal} {vs:List Value} (hf:xs.all Za5=true) (h:VRs I β xs vs):VRs I' β' xs vs :=
 ZdF (Zan h) (fun i x v hx hv=>by
  obtain ⟨v',h1,h2⟩:=ZcF h hx
  rw [hv] at h1;injection h1 with h1;subst h1
  exact ZiI (XW.1 hf x (Xx hx)) h2)
theorem ZwZ {I I':Imm} {β β':Bmap} {x:AVal} {v:Value} (hf:Zba x=true) (h:VR I β x v):VR I' β' x v:=by
 cases x
 case agg cs =>
  simp only [VR] at h ⊢
  obtain ⟨us,rfl,h⟩:=h
  exact ⟨us,rfl,Zxf hf h⟩
 all_goals exact ZiI hf h
theorem ZEp {I I':Imm} {β β':Bmap} {x:AVal} {v:Value} (hf:Zbg x=true) (h:VR I β x v):VR I' β' x v:=by
 cases x
 case tup cs =>
  simp only [VR] at h ⊢
  obtain ⟨us,rfl,h⟩:=h
  exact ⟨us,rfl,ZdF (Zan h) (fun i x v hx hv=>by
   obtain ⟨v',h1,h2⟩:=ZcF h hx
   rw [hv] at h1;injection h1 with h1;subst h1
   exact ZwZ (XW.1 hf x (Xx hx)) h2)⟩
 case pan=>simp only [VR] at h
 all_goals exact ZwZ hf h
theorem ZvT (R:Rel base w0 I0 I β σ w) {a y:AVal} {ts:List Nat} {v:Value} (hF:Frozen σ ts) (h:Zc4 σ a=some (y,ts)) (hv:VR I β a v):VR I β y v:=by
 unfold Zc4 at h
 split at h
 case h_3=>cases h
 case h_1 x xs =>
  exact (Zks R hF (a:=.lst x xs) (by simpa only [Zad] using h) hv).1
 case h_2 t g lo n =>
  exact (Zks R hF (a:=.sl t g lo n) (by simpa only [Zad] using h) hv).1
 case h_4 =>
  simp only [Xa,Xb] at h
  obtain ⟨rfl,rfl⟩:=h
  exact hv
theorem ZwL {a y:AVal} {ts:List Nat} (h:Zc4 σ a=some (y,ts)):Rowy σ ts:=by
 unfold Zc4 at h
 split at h
 case h_3=>cases h
 case h_1 x xs=>exact ZiQ (a:=.lst x xs) (by simpa only [Zad] using h)
 case h_2 t g lo n=>exact ZiQ (a:=.sl t g lo n) (by simpa only [Zad] using h)
 case h_4 =>
  simp only [Xa,Xb] at h
  rw [<-h.2];intro t ht;simp at ht
theorem Zw7:∀ {cs ys:List AVal} {ts:List Nat},ZcX σ cs=some (ys,ts)->Rowy σ ts
 | [],ys,ts,h=>by simp only [ZcX,Xa,Xb] at h;rw [<-h.2];intro t ht;simp at ht
 | c::cs,ys,ts,h=>by
  simp only [ZcX] at h
  split at h
  ·rename_i h1
   split at h
   ·rename_i h2
    simp only [Xa,Xb] at h
    rw [<-h.2]
    exact (ZwL h1).append (Zw7 h2)
   ·cases h
  ·cases h
theorem ZFU {a y:AVal} {ts:List Nat} (h:showA σ a=some (y,ts)):Rowy σ ts:=by
 unfold showA at h
 split at h
 ·split at h
  ·rename_i h1
   simp only [Xa,Xb] at h
   rw [<-h.2]
   exact Zw7 h1
  ·cases h
 ·exact ZwL h
theorem Zjg:∀ {cs ys:List AVal} {ts:List Nat},showAs σ cs=some (ys,ts)->Rowy σ ts
 | [],ys,ts,h=>by simp only [showAs,Xa,Xb] at h;rw [<-h.2];intro t ht;simp at ht
 | c::cs,ys,ts,h=>by
  simp only [showAs] at h
  split at h
  ·rename_i h1
   split at h
   ·rename_i h2
    simp only [Xa,Xb] at h
    rw [<-h.2]
    exact (ZFU h1).append (Zjg h2)
   ·cases h
  ·cases h
theorem ZyZ (R:Rel base w0 I0 I β σ w):∀ {cs ys:List AVal} {ts:List Nat} {vs:List Value},Frozen σ ts->ZcX σ cs=some (ys,ts)->VRs I β cs vs->VRs I β ys vs
 | [],ys,ts,vs,_,h,hv=>by
  simp only [ZcX,Xa,Xb] at h
  rw [<-h.1];exact hv
 | c::cs,ys,ts,vs,hF,h,hv=>by
  simp only [ZcX] at h
  simp only [VRs] at hv
  obtain ⟨v,vs',rfl,hv1,hv2⟩:=hv
  split at h
  ·rename_i y ts1 h1
   split at h
   ·rename_i ys1 us1 h2
    simp only [Xa,Xb] at h
    obtain ⟨rfl,rfl⟩:=h
    simp only [VRs]
    exact ⟨v,vs',rfl,ZvT R hF.left h1 hv1,ZyZ R hF.right h2 hv2⟩
   ·cases h
  ·cases h
theorem ZF3 (R:Rel base w0 I0 I β σ w) {a y:AVal} {ts:List Nat} {v:Value} (hF:Frozen σ ts) (h:showA σ a=some (y,ts)) (hv:VR I β a v):VR I β y v:=by
 unfold showA at h
 split at h
 ·rename_i cs
  split at h
  ·rename_i ys us h1
   simp only [Xa,Xb] at h
   obtain ⟨rfl,rfl⟩:=h
   simp only [VR] at hv ⊢
   obtain ⟨us',rfl,hv⟩:=hv
   exact ⟨us',rfl,ZyZ R hF h1 hv⟩
  ·cases h
 ·exact ZvT R hF h hv
theorem Zyr (R:Rel base w0 I0 I β σ w):∀ {cs ys:List AVal} {ts:List Nat} {vs:List Value},Frozen σ ts->showAs σ cs=some (ys,ts)->VRs I β cs vs->VRs I β ys vs
 | [],ys,ts,vs,_,h,hv=>by
  simp only [showAs,Xa,Xb] at h
  rw [<-h.1];exact hv
 | c::cs,ys,ts,vs,hF,h,hv=>by
  simp only [showAs] at h
  simp only [VRs] at hv
  obtain ⟨v,vs',rfl,hv1,hv2⟩:=hv
  split at h
  ·rename_i y ts1 h1
   split at h
   ·rename_i ys1 us1 h2
    simp only [Xa,Xb] at h
    obtain ⟨rfl,rfl⟩:=h
    simp only [VRs]
    exact ⟨v,vs',rfl,ZF3 R hF.left h1 hv1,Zyr R hF.right h2 hv2⟩
   ·cases h
  ·cases h
theorem Alike.show1 (h:Alike σ σ') (a:AVal):Zc4 σ' a=Zc4 σ a:=by
 cases a <;> simp only [Zc4]
 rw [h]
theorem Alike.shows (h:Alike σ σ'):∀ cs,ZcX σ' cs=ZcX σ cs
 | []=>rfl
 | c::cs=>by simp only [ZcX,h.show1,h.shows cs]
theorem Alike.showA (h:Alike σ σ') (a:AVal):showA σ' a=showA σ a:=by
 cases a <;> simp only [Ytaimaokfbgmoiaa.showA,h.show1,h.shows]
theorem Alike.showAs (h:Alike σ σ'):∀ cs,showAs σ' cs=showAs σ cs
 | []=>rfl
 | c::cs=>by
  have ih:=h.showAs cs
  simp only [Ytaimaokfbgmoiaa.showAs,h.showA,ih]
end
end
section
open Go.RowKit
theorem ZwN {cs vs:List AVal} {o:Nat} (h:o+vs.length<=cs.length):(setAt cs o vs).length=cs.length:=by
 unfold setAt;simp;omega
theorem ZD3 {A B ys:List AVal} {o:Nat} (h:o+ys.length<=A.length):setAt (A++B) o ys=setAt A o ys++B:=by
 unfold setAt
 rw [List.take_append_of_le_length (by omega),List.drop_append_of_le_length h,Wt,Wt,Wt]
theorem ZBM {A B ys:List AVal} {p:Nat}:setAt (A++B) (A.length+p) ys=A++setAt B p ys:=by
 unfold setAt
 rw [Xbb,Wk (by omega),Xbv,WW (by omega)]
 simp only [XI,Wt]
 congr 3
 ·congr 1;omega
 ·congr 2;omega
theorem ZjJ {k o:Nat} {ys:List AVal}:∀ {xs:List AVal} {i:Nat} {x x':AVal},(∀ x ∈ xs,x.cells.length=k)->xs[i]?=some x->x'.cells=setAt x.cells o ys->o+ys.length<=k ->
  (xs.set i x').flatMap AVal.cells=setAt (xs.flatMap AVal.cells) (i*k+o) ys
 | [],i,x,x',_,hx,_,_=>by simp at hx
 | y::r,0,x,x',hk,hx,he,ho=>by
  simp only [XN,Xa] at hx
  subst hx
  rw [List.set_cons_zero,X5,X5,he,Xbo,XK,ZD3 (by rw [hk y (by simp)];exact ho)]
 | y::r,i+1,x,x',hk,hx,he,ho=>by
  simp only [XC] at hx
  have ih:=ZjJ (fun z hz=>hk z (by simp [hz])) hx he ho
  have hy:=hk y (by simp)
  rw [List.set_cons_succ,X5,X5,ih,show (i+1)*k+o=y.cells.length+(i*k+o) by rw [hy,Wz];omega,ZBM]
theorem ZxX {x x':AVal} {o:Nat} {ys:List AVal} (hy:ys.all Z1=true) (h:ZdD x o ys=some x'):x'.cells=setAt x.cells o ys/\o+ys.length<=x.cells.length:=by
 unfold ZdD at h
 split at h
 ·rename_i cs
  split at h
  ·injection h with h;subst h;exact ⟨rfl,by assumption⟩
  ·cases h
 ·rename_i hne
  split at h
  ·rename_i v
   injection h with h;subst h
   have h1:v.cells=[v]:=by cases v <;> simp_all [AVal.cells,Z1]
   have h2:x.cells=[x]:=by cases x <;> simp_all [AVal.cells]
   rw [h1,h2];simp [setAt]
  ·cases h
section
variable {P:Program} {base:Nat->Prop} {w0 w w':World} {I0 I I':Imm} {β β':Bmap} {σ σ':Za}
theorem ZnC {t:TypeId} {k:Nat} (hk:ZbZ P t=some k) {b o:Nat} {us:Array Value} {ty:TypeId} (hh:w.heap[b]?=some (.cells us ty (0,0))) {v:Value} (hl:v.cells.size=k) (hle:o+k<=us.size) (h1:∀ u ∈ v.cells.toList,u.oneCell'=true) :
  (Instr.storeAt t (.pointer (some ⟨b,o,none⟩)) v).run P w=.ok () (w.setRow b (us.toList.take o++v.cells.toList++us.toList.drop (o+v.cells.toList.length)).toArray):=by
 have:=run_storeCells_at (P:=P) b o ty v.cells.toList 0 us w hh (by simp;omega) h1
 unfold ZbZ at hk
 cases hi:P.info? t with
 | none=>simp [hi] at hk
 | some i =>
  have hs:i.size=k:=by simpa [hi] using hk
  simp only [Wm] at this
  simp [Instr.storeAt,Instr.sureAddr,storeVar,sizeOf,typeInfo,hi,hs,hl,this]
def Post (base:Nat->Prop) (w0:World) (I0 I:Imm) (β:Bmap) (x:AVal) (σ':Za) (u:Value) (w':World):Prop :=
 ∃ I' β',I.le I'/\β.le β'/\Rel base w0 I0 I' β' σ' w'/\VR I' β' x u
theorem Post.mk {x:AVal} {u:Value} (hI:I.le I') (hβ:β.le β') (R:Rel base w0 I0 I' β' σ' w') (h:VR I' β' x u):Post base w0 I0 I β x σ' u w':=⟨I',β',hI,hβ,R,h⟩
theorem Post.here {x:AVal} {u:Value} (R:Rel base w0 I0 I β σ w) (h:VR I β x u):Post base w0 I0 I β x σ u w:=⟨I,β,Imm.le.refl I,Bmap.le.refl β,R,h⟩
theorem Zji (I:Imm) (β:Bmap):VR I β (.tup []) undef:=by simp only [VR,VRs];exact ⟨#[],rfl,rfl⟩
theorem Zgl {x:AVal} {v:Value} (ht:x≠.top) (h:VR I β x v):v.cells.size=x.cells.length:=by
 have:=Zan (ZdR ht h);simpa using this.symm
theorem ZFN {x:AVal} (h:Zbi x=true):x≠.top:=by rintro rfl;simp [Zbi] at h
theorem ZEO {x:AVal} (h:ZaQ x.cells=true):x≠.top:=by rintro rfl;simp [AVal.cells,ZaQ,ZaT] at h
theorem ZFw {x:AVal} (h:x.cells.all Z1=true):x≠.top:=by
 rintro rfl
 simp [AVal.cells,Z1] at h
theorem ZBh {t:TypeId} {k:Nat} (hk:ZbZ P t=some k) (R:Rel base w0 I0 I β σ w) {a x:AVal} {va vx:Value} (ha:VR I β a va) (hx:VR I β x vx) {y:AVal} {c:Cls} (h:stA σ k a x=some (y,σ',c)) :
  ∃ w',(Instr.storeAt t va vx).run P w=.ok () w'/\Post base w0 I0 I β y σ' undef w':=by
 unfold stA at h
 split at h
 case isFalse=>cases h
 rename_i hc
 obtain ⟨hlen,hok⟩:=hc
 have htop:=ZFw hok
 have hone:=ZgB (fun z hz=>XW.1 hok z hz) (ZdR htop hx)
 have hsz:=Zgl htop hx
 split at h
 ·rename_i t' o
  split at h
  ·rename_i cs hs
   split at h
   ·rename_i hle
    simp only [Xa,Xb] at h
    obtain ⟨rfl,rfl,rfl⟩:=h
    simp only [VR] at ha
    obtain ⟨b,k',c',hβ,rfl⟩:=ha
    obtain ⟨b',k'',c'',us,ty,h1,h2,h3⟩:=R.blk _ _ hs
    rw [hβ] at h1
    simp only [Xa,BI.mk.injEq] at h1
    obtain ⟨rfl,rfl,rfl⟩:=h1
    have hul:=Zan h3
    refine ⟨_,ZnC hk h2 (by omega) (by simp at hul;omega) hone,Post.here (R.write hs (by simp [Zw,hβ]) _ (by simp [Zw,hβ]) ?_ rfl) (Zji I β)⟩
    refine ⟨b,k',c',_,ty,hβ,setRow_heap w b us _ ty (0,0) h2,?_⟩
    have:=ZhH h3 (ZdR htop hx) o
    simpa using this
   ·cases h
  ·cases h
 ·rename_i t' g i o
  split at h
  ·rename_i g' kk xs hs
   split at h
   ·rename_i e;subst e
    split at h
    ·rename_i z hz
     split at h
     ·rename_i ys ts hv
      split at h
      ·cases h
      ·rename_i hnt
       split at h
       ·rename_i z' hp
        simp only [Xa,Xb] at h
        obtain ⟨rfl,rfl,rfl⟩:=h
        obtain ⟨I1,hI1,R1,hal,_,hfz,_,hoth,_⟩:=Zgd ts R
        have hs1:=hoth t' _ (by simpa using hnt) hs
        obtain ⟨v1,v2⟩:=Zma R1 (hfz (ZuP hv)) (by rw [hal.views];exact hv) ((ZdR htop hx).mono hI1 (Bmap.le.refl β) _ _)
        simp only [VR] at ha
        obtain ⟨b,k',c',hβ,rfl⟩:=ha
        obtain ⟨bi,h1,h2,h3,h4,h5,h6,h7,h8⟩:=R1.blk _ _ hs1
        rw [hβ] at h1
        injection h1 with h1
        subst h1
        simp only at h2 h8
        subst h2
        rcases h8 with ⟨h8,_⟩ | ⟨b',us,ty,e,h8,h9,h10⟩
        ·cases h8
        injection e with e
        subst e
        have hyok:ys.all Z1=true:=XW.2 (fun q hq=>Zjh (Zdq.1 v2 q hq))
        obtain ⟨p1,p2⟩:=ZxX hyok hp
        have hyl:=Zan v1
        have hzk:z.cells.length=k':=h7 z (Xx hz)
        have hil:i < xs.length:=(Xf.1 hz).1
        have hmul:=Zm3 (k:=k') hil
        have hsize:xs.length*k'<=us.size:=by rw [h9];exact Ww k' h5
        simp only [X7] at hyl
        refine ⟨_,ZnC hk h8 (by omega) (by omega) hone,Post.mk hI1 (Bmap.le.refl β) (R1.write hs1 (b:=b) (by simp [Zw,hβ]) _ (by simp [Zw,hβ]) ?_ rfl) (Zji I1 β)⟩
        refine ⟨_,hβ,rfl,h3,h4,by simpa using h5,?_,?_,XO ⟨b,_,ty,rfl,setRow_heap w b us _ ty (0,0) h8,?_,?_⟩⟩
        ·rw [ZcS]
         intro q hq
         rcases We hq with hq | rfl
         ·exact ZcS.1 h6 q hq
         ·rw [p1,Zdq]
          intro r hr
          unfold setAt at hr
          simp only [XG] at hr
          rcases hr with (hr | hr) | hr
          ·exact Zdq.1 (ZcS.1 h6 z (Xx hz)) r (W4 hr)
          ·exact Zdq.1 v2 r hr
          ·exact Zdq.1 (ZcS.1 h6 z (Xx hz)) r (WU hr)
        ·intro q hq
         rcases We hq with hq | rfl
         ·exact h7 q hq
         ·rw [p1,ZwN p2];exact hzk
        ·simp;omega
        ·rw [ZjJ h7 hz p1 (by omega)]
         have:=ZhH h10 v1 (i*k'+o)
         refine cast ?_ this
         congr 1
         simp only [Xaf]
         rw [XaB,Xak (by omega),XaW]
         apply Wa
         intro j
         simp only [WT,X8,WK,XE,X9,X7]
         repeat' split
         all_goals first | rfl | omega | (congr 1;omega) | (exfalso;omega) | skip
         all_goals (first | (symm;rw [Wd];simp;omega) | (rw [Wd];simp;omega))
       ·cases h
     ·cases h
    ·cases h
   ·cases h
  ·rename_i g' kk xs hs
   split at h
   ·rename_i e;subst e
    split at h
    ·rename_i z hz
     split at h
     ·rename_i z' hp
      simp only [Xa,Xb] at h
      obtain ⟨rfl,rfl,rfl⟩:=h
      simp only [VR] at ha
      obtain ⟨b,k',c',hβ,rfl⟩:=ha
      obtain ⟨bi,h1,h2,h3,h4,h5,h6,b',us,ty,e,h8,h9,h10⟩:=R.blk _ _ hs
      rw [hβ] at h1
      injection h1 with h1
      subst h1
      simp only at h2 e
      subst h2
      injection e with e
      subst e
      have v1:=ZdR htop hx
      obtain ⟨p1,p2⟩:=ZxX hok hp
      have hyl:=Zan v1
      have hzk:z.cells.length=k':=(h6 z (Xx hz)).1
      have hil:i < xs.length:=(Xf.1 hz).1
      have hmul:=Zm3 (k:=k') hil
      have hsize:xs.length*k'<=us.size:=by rw [h9];exact Ww k' h5
      simp only [X7] at hyl
      refine ⟨_,ZnC hk h8 (by omega) (by omega) hone,Post.here (R.write hs (b:=b) (by simp [Zw,hβ]) _ (by simp [Zw,hβ]) ?_ rfl) (Zji I β)⟩
      refine ⟨_,hβ,rfl,h3,h4,by simpa using h5,?_,b,_,ty,rfl,setRow_heap w b us _ ty (0,0) h8,?_,?_⟩
      ·intro q hq
       rcases We hq with hq | rfl
       ·exact h6 q hq
       ·rw [p1]
        refine ⟨by rw [ZwN p2];exact hzk,fun r hr=>?_⟩
        unfold setAt at hr
        simp only [XG] at hr
        rcases hr with (hr | hr) | hr
        ·exact (h6 z (Xx hz)).2 r (W4 hr)
        ·exact XW.1 hok r hr
        ·exact (h6 z (Xx hz)).2 r (WU hr)
      ·have h9b:us.size=c'*k':=h9
       simp only [XaD,XE,X9,Xam,X7]
       rw [h9b];rw [h9b] at hsize;omega
      ·rw [ZjJ (fun x hx=>(h6 x hx).1) hz p1 (by omega)]
       have:=ZhH h10 v1 (i*k'+o)
       refine cast ?_ this
       congr 1
       simp only [Xaf]
       rw [XaB,Xak (by omega),XaW]
       apply Wa
       intro j
       simp only [WT,X8,WK,XE,X9,X7]
       repeat' split
       all_goals first | rfl | omega | (congr 1;omega) | (exfalso;omega) | skip
       all_goals (first | (symm;rw [Wd];simp;omega) | (rw [Wd];simp;omega))
     ·cases h
    ·cases h
   ·cases h
  ·cases h
 ·cases h
def TR (I:Imm) (β:Bmap) (tm:Tms) (tmps:Array Value):Prop:=∀ n,VR I β (tget tm n) (tmps.getD n undef)
theorem TR.mono {tm:Tms} {tmps:Array Value} (hI:I.le I') (hβ:β.le β') (h:TR I β tm tmps):TR I' β' tm tmps:=fun n=>(h n).mono hI hβ _ _
theorem Zg3 {d n:Nat} {v:AVal}:∀ {tm:Tms},tget (tins d v tm) n=if d=n then v else tget tm n
 | []=>by simp [tins,tget]
 | (e,w)::r=>by
  simp only [tins]
  split
  ·simp only [tget]
  ·split
   ·rename_i h;subst h
    simp only [tget]
    split <;> rfl
   ·rename_i h
    simp only [tget,Zg3 (tm:=r)]
    by_cases h1:e=n
    ·subst h1;rw [if_pos rfl,if_neg (fun h'=>h h'.symm),if_pos rfl]
    ·simp [h1]
theorem TR.put {tm:Tms} {tmps:Array Value} (h:TR I β tm tmps) {x:AVal} {v:Value} (hx:VR I β x v) {d:Nat} (hd:d < tmps.size):TR I β (tins d x tm) (tmps.setIfInBounds d v):=by
 intro n
 rw [Zg3]
 by_cases e:d=n
 ·subst e
  rw [if_pos rfl]
  rw [show (tmps.setIfInBounds d v).getD d undef=v by simp [Array.getD,hd]];exact hx
 ·rw [if_neg e]
  rw [show (tmps.setIfInBounds d v).getD n undef=tmps.getD n undef by simp only [Array.getD_eq_getD_getElem?];rw [Wv e]]
  exact h n
theorem ZgO {tm:Tms} {n:Nat}:∀ {live:List Nat},tget (keepL live tm) n=if n ∈ live then tget tm n else .top
 | []=>by simp [keepL,tget]
 | l::live=>by
  have ih:=ZgO (tm:=tm) (n:=n) (live:=live)
  simp only [keepL,Xw,tget,XP] at ih ⊢
  by_cases h:l=n
  ·subst h;simp
  ·simp only [h,if_false,ih]
   simp [Ne.symm h]
theorem TR.keep {tm:Tms} {tmps:Array Value} (h:TR I β tm tmps) (live:List Nat):TR I β (keepL live tm) tmps:=by
 intro n
 rw [ZgO]
 split
 ·exact h n
 ·simp only [VR]
end
end
section
open Go.RowKit
section
variable {P:Program} {base:Nat->Prop} {w0 w w':World} {I0 I I':Imm} {β β':Bmap} {σ σ':Za}
theorem Zoe {k k':Nat} {ys:List AVal} (h:kOk k ys=true) (h':∀ y ∈ ys,y.cells.length=k') (hne:ys≠[]):k'=k:=by
 cases ys with
 | nil=>exact absurd rfl hne
 | cons y ys=>simp only [kOk,beq_iff_eq] at h;rw [<-h' y (by simp)];exact h
theorem ZxA (l:List UInt8):VRs I β (l.map Zn) (l.map fun b=>Value.int .u8 b.toNat) :=
 ZdF (by simp) (fun i x v hx hv=>by
  simp only [XY,XB] at hx hv
  obtain ⟨b,h1,rfl⟩:=hx
  obtain ⟨b',h2,rfl⟩:=hv
  rw [h1] at h2;injection h2 with h2;subst h2
  simp only [Zn,VR])
theorem Zx0 (l:List UInt8):(l.map Zn).flatMap AVal.cells=l.map Zn:=by
 induction l with
 | nil=>rfl
 | cons b l ih=>simp only [Xw,X5,ih];rfl
theorem ZvH (l:List UInt8):Zac (l.map Zn)=true:=by
 rw [ZcS];intro x hx
 simp only [XV] at hx
 obtain ⟨b,_,rfl⟩:=hx
 rfl
theorem Zsf (l:List UInt8):∀ x ∈ l.map Zn,x.cells.length=1:=by
 intro x hx
 simp only [XV] at hx
 obtain ⟨b,_,rfl⟩:=hx
 rfl
structure Src (P:Program) (I:Imm) (β:Bmap) (w:World) (k:Nat) (v:Value) (ys:List AVal) (us:List Value):Prop where
 vr:VRs I β (ys.flatMap AVal.cells) us
 len:us.length=ys.length*k
 lens:∀ y ∈ ys,y.cells.length=k
 tree:Zac ys=true
 lenOf:(Builtin.lenOf v)=pure ys.length
 run:∀ w':World,w'.heap=w.heap->(Builtin.firstCells k ys.length v).run P w'=.ok us.toArray w'
 le:ys.length<=9223372036854775807
structure ZjO (P:Program) (I:Imm) (β:Bmap) (w:World) (k:Nat) (v:Value) (ys:List AVal) (us:List Value):Prop where
 vr:VRs I β (ys.flatMap AVal.cells) us
 len:us.length=ys.length*k
 lens:∀ y ∈ ys,y.cells.length=k
 lenOf:(Builtin.lenOf v)=pure ys.length
 run:∀ w':World,w'.heap=w.heap->(Builtin.firstCells k ys.length v).run P w'=.ok us.toArray w'
theorem Src.to0 {k:Nat} {v:Value} {ys:List AVal} {us:List Value} (S:Src P I β w k v ys us):ZjO P I β w k v ys us:=⟨S.vr,S.len,S.lens,S.lenOf,S.run⟩
theorem Zkx {w w':World} (h:w'.heap=w.heap) (a:Addr):w'.cell? a=w.cell? a:=by simp [World.cell?,h]
theorem ZvU {k:Nat} {v:Value} {ys:List AVal} (h:Zhh I β w v ys) (hk:kOk k ys=true):∃ us,Src P I β w k v ys us:=by
 obtain ⟨A,cap,rfl,h1,h2,h3,h4⟩:=h
 by_cases hne:ys=[]
 ·subst hne
  refine ⟨[],by simp [VRs],by simp,by simp,h3,rfl,fun w' _=>?_,by simp⟩
  cases A <;> simp [Builtin.firstCells,loadCells,loadCellsFrom]
 ·rcases h4 with h4 | ⟨b,off,k',us,rfl,hk',hl,hv,hc⟩
  ·exact absurd h4 hne
  ·have e:=Zoe hk hl hne
   subst e
   have hlen:us.length=ys.length*k':=by rw [<-Zan hv,ZeU hl]
   refine ⟨us,hv,hlen,hl,h3,rfl,fun w' hw=>?_,by omega⟩
   simp only [Builtin.firstCells]
   rw [<-hlen]
   exact run_loadCells_list w' _ us (fun j u hu=>by rw [Addr.add_mid,Zkx hw];exact hc j u hu)
theorem ZBO {k:Nat} {l:List UInt8} (hl:l.length<=9223372036854775807) (hk:kOk k (l.map Zn)=true):∃ us,Src P I β w k (.string ⟨l.toArray⟩) (l.map Zn) us:=by
 by_cases hne:l=[]
 ·subst hne
  exact ⟨[],by simp [VRs],by simp,by simp,rfl,rfl,fun w' _=>by simp [Builtin.firstCells],by simp⟩
 ·have e:=Zoe hk (Zsf l) (by simpa using hne)
  subst e
  refine ⟨l.map fun b=>Value.int .u8 b.toNat,by rw [Zx0];exact ZxA l,by simp,Zsf l,ZvH l,by simp [Builtin.lenOf,Xaa],fun w' _=>?_,by simpa using hl⟩
  simp only [Builtin.firstCells,XL,Sem.run_pure]
  congr 1
  apply Xbz
  simp [ByteArray.data_extract]
theorem ZB6 {k:Nat} {y:AVal} {v:Value} {ys:List AVal} {ts:List Nat} (R:Rel base w0 I0 I β σ w) (h:Zo σ y=some (ys,ts)) (hv:VR I β y v) (hk:kOk k ys=true):∃ us,Src P I β w k v ys us:=by
 by_cases hs:∃ l,y=.str l
 ·obtain ⟨l,rfl⟩:=hs
  simp only [Zo,Xa,Xb] at h
  obtain ⟨rfl,rfl⟩:=h
  simp only [VR] at hv
  obtain ⟨rfl,hl⟩:=hv
  exact ZBO hl hk
 ·exact ZvU (ZnH R (fun l e=>hs ⟨l,e⟩) h hv) hk
structure ZhQ (P:Program) (t u e:TypeId) (i:TypeInfo) (z:Value):Prop where
 ht:P.underlying t=some (.slice e)
 hu:(∃ e',P.underlying u=some (.slice e'))\/P.underlying u=some .string
 hi:P.info? e=some i
 hz:i.zero=some z
 hzs:z.cells.size=i.size
 hs:0 < i.size
 hb:0 < i.bytes
theorem ZgL {t u e ty:TypeId} {i:TypeInfo} {z:Value} (T:ZhQ P t u e i z) {A:Option Addr} {n cap:Nat} {v:Value} {ys:List AVal} {us:List Value} (S:ZjO P I β w i.size v ys us) (hfit:n+ys.length<=cap) :
  (Builtin.append_ #[t,u] ty #[.slice A n cap,v]).run P w=match A with
   | some a=>((storeCells (a.add (n*i.size)) us).run P w).andThen fun _ w'=>.ok (.slice A (n+ys.length) cap) w'
   | none=>.ok (.slice A (n+ys.length) cap) w:=by
 have hr:=S.run w rfl
 have hl:=S.lenOf
 rcases T.hu with ⟨e',hd⟩ | hd <;> cases A <;> simp [Builtin.append_,run_underlying T.ht,run_underlying hd,sizeOf,typeInfo,T.hi,hl,hfit,hr]
theorem ZwS {t u e ty : TypeId} {i : TypeInfo} {z : Value} (T : ZhQ P t u e i z) {A : Option Addr} {n cap : Nat} {v : Value} {ys : List AVal} {us olds : List Value} (S : ZjO P I β w i.size v ys us)
    (hold : ∀ w' : World, w'.heap = w.heap -> (Builtin.firstCells i.size n (.slice A n cap)).run P w' = .ok olds.toArray w') (hg : cap < n + ys.length) (hb : (n + ys.length) * i.bytes <= 140737488355328) :
    ∃ newCap, n + ys.length <= newCap /\ newCap <= 9223372036854775807 /\ (Builtin.append_ #[t, u] ty #[.slice A n cap, v]).run P w =
      .ok (.slice (some ⟨w.heap.size, 0, none⟩) (n + ys.length) newCap) (w.drew.alloc (.cells (olds ++ us ++ (Builtin.zeroCells z.cells (newCap - (n + ys.length))).toList).toArray e)) := by
  have hl := S.lenOf
  have hn : ¬ (n + ys.length <= cap) := by omega
  have hneed : n + ys.length <= 140737488355328 := by
    have : (n + ys.length) * 1 <= (n + ys.length) * i.bytes := Nat.mul_le_mul_left _ T.hb
    omega
  have h63' : ¬ (9223372036854775807 < ((n : Int) + (ys.length : Int))) := by omega
  have h48' : ¬ (281474976710656 < Builtin.nextslicecap (n + ys.length) cap * i.bytes) := by
    have := growslice_fits hg hb; omega
  refine ⟨grownCap w (n + ys.length) cap e, grownCap_ge w _ _ _, ?_, ?_⟩
  . have := grownCap_le_maxLen w (n + ys.length) cap e (by simp only [maxLen]; omega)
    simpa only [maxLen] using this
  . have hf := S.run w.drew rfl
    have hfo := hold w.drew rfl
    rcases T.hu with ⟨e', hd⟩ | hd <;>
      (simp [Builtin.append_, run_underlying T.ht, run_underlying hd, sizeOf, typeInfo, zeroValue, T.hi, T.hz, hl, hn, h63', h48', Question.forced, hf, hfo, newRow, grownCap]
       congr 2
       apply Xbz
       simp [Wt])
theorem Rel.growX (R:Rel base w0 I0 I β σ w) {t g:Nat} {x x':Zq} (hs:σ[t]?=some x) (hg:Zc x=g) (hg':Zc x'=g+1) (bi':BI) (hB:KB base w w')
  (himm:∀ b o u,I b o=some u->w'.cell? ⟨b,o,none⟩=some u)
  (keep:∀ b,¬Zw w β t x b->b < w.heap.size->w'.heap[b]?=w.heap[b]?)
  (hbi:bi'.b=none\/∃ b,bi'.b=some b/\(Zw w β t x b\/b=w.heap.size))
  (hbw:KLt base w) (hown:∀ b,Zw w' (β.put t (g+1) bi') t x' b->bi'.b=some b) (hnf:x'≠.free)
  (hblk:BR I (β.put t (g+1) bi') w' t x') :
  Rel base w0 I0 I (β.put t (g+1) bi') (σ.set t x') w'/\β.le (β.put t (g+1) bi'):=by
 have hsl:t < σ.length:=(Xf.1 hs).1
 have hnone:β t (g+1)=none:=R.gen t _ (g+1) hs (by omega)
 have hle:β.le (β.put t (g+1) bi'):=Bmap.put_le hnone
 have hI0:∀ o,I w.heap.size o=none:=by
  intro o
  cases h:I w.heap.size o with
  | none=>rfl
  | some u=>have:=Zd1 (R.imm _ _ _ h);omega
 refine ⟨R.upd (Imm.le.refl I) hle hB (fun _ _ _=>rfl) himm t _ rfl hsl (fun _ _ h=>Bmap.put_ne h) ?_ hblk ?_ ?_ hnf (fun b h=>by cases x' <;> first | (cases h;done) | simp [Zc] at hg'),hle⟩
 ·intro t' y b hne hy hb
  have hlt:=(R.blk t' y hy).owns_lt hb
  have hno:¬Zw w β t x b:=fun e=>hne (R.apart t' y t _ b hy hs hb e)
  refine ⟨keep b hno hlt,(R.own t' y b hy hb).2,?_⟩
  intro ho
  have ho:=hown _ ho
  rcases hbi with e | ⟨b',e,e' | e'⟩
  ·rw [e] at ho;cases ho
  ·rw [e] at ho;injection ho with h;subst h;exact hno e'
  ·rw [e] at ho;injection ho with h;omega
 ·intro b e
  replace e:=hown _ e
  rcases hbi with e1 | ⟨b',e1,e' | e'⟩
  ·rw [e1] at e;cases e
  ·rw [e1] at e;injection e with e;subst e;exact R.own t _ _ hs e'
  ·rw [e1] at e;injection e with e;subst e;subst e';exact ⟨fun h=>Xa2 _ (hbw _ h),hI0⟩
 ·intro g' hlt
  rw [Bmap.put_gen (by omega)]
  exact R.gen t _ g' hs (by omega)
theorem Rel.grow (R:Rel base w0 I0 I β σ w) {t g k:Nat} {xs xs':List AVal} (hs:σ[t]?=some (.row g k xs)) (bi':BI) (hB:KB base w w')
  (himm:∀ b o u,I b o=some u->w'.cell? ⟨b,o,none⟩=some u)
  (keep:∀ b,¬Zw w β t (.row g k xs) b->b < w.heap.size->w'.heap[b]?=w.heap[b]?)
  (hbi:bi'.b=none\/∃ b,bi'.b=some b/\(Zw w β t (.row g k xs) b\/b=w.heap.size))
  (hbw:KLt base w)
  (hblk:BR I (β.put t (g+1) bi') w' t (.row (g+1) k xs')) :
  Rel base w0 I0 I (β.put t (g+1) bi') (σ.set t (.row (g+1) k xs')) w'/\β.le (β.put t (g+1) bi'):=by
 have hsl:t < σ.length:=(Xf.1 hs).1
 have hnone:β t (g+1)=none:=R.gen t _ (g+1) hs (by simp [Zc])
 have hle:β.le (β.put t (g+1) bi'):=Bmap.put_le hnone
 have hown:∀ b,Zw w' (β.put t (g+1) bi') t (.row (g+1) k xs') b->bi'.b=some b:=by simp [Zw,Bmap.put_same]
 have hI0:∀ o,I w.heap.size o=none:=by
  intro o
  cases h:I w.heap.size o with
  | none=>rfl
  | some u=>have:=Zd1 (R.imm _ _ _ h);omega
 refine ⟨R.upd (Imm.le.refl I) hle hB (fun _ _ _=>rfl) himm t _ rfl hsl (fun _ _ h=>Bmap.put_ne h) ?_ hblk ?_ ?_ (by simp),hle⟩
 ·intro t' x b hne hx hb
  have hlt:=(R.blk t' x hx).owns_lt hb
  have hno:¬Zw w β t (.row g k xs) b:=fun e=>hne (R.apart t' x t _ b hx hs hb e)
  refine ⟨keep b hno hlt,(R.own t' x b hx hb).2,?_⟩
  intro ho
  have ho:=hown _ ho
  rcases hbi with e | ⟨b',e,e' | e'⟩
  ·rw [e] at ho;cases ho
  ·rw [e] at ho;injection ho with h;subst h;exact hno e'
  ·rw [e] at ho;injection ho with h;omega
 ·intro b e
  replace e:=hown _ e
  rcases hbi with e1 | ⟨b',e1,e' | e'⟩
  ·rw [e1] at e;cases e
  ·rw [e1] at e;injection e with e;subst e;exact R.own t _ _ hs e'
  ·rw [e1] at e;injection e with e;subst e;subst e';exact ⟨fun h=>Xa2 _ (hbw _ h),hI0⟩
 ·intro g' hlt
  simp only [Zc] at hlt
  rw [Bmap.put_gen (by omega)]
  exact R.gen t _ g' hs (by simp only [Zc];omega)
theorem ZfJ (xs ys:List AVal):(xs++ys).flatMap AVal.cells=xs.flatMap AVal.cells++ys.flatMap AVal.cells:=by simp
theorem ZxF (z:Array Value) (n:Nat):(Builtin.zeroCells z n).size=n*z.size:=by simp [Builtin.zeroCells]
theorem ZFn (R:Rel base w0 I0 I β σ w) {u h k q m:Nat} {zs:List AVal} {v:Value} (hs:σ[u]?=some (.rrow h k zs)) (hn:q+m<=zs.length) (hm:0 < m) (hv:VR I β (.sl u h q m) v) :
  ∃ us,ZjO P I β w k v ((zs.drop q).take m) us/\(∀ y ∈ (zs.drop q).take m,∀ c ∈ y.cells,Z1 c=true):=by
 obtain ⟨bi,e1,e2,e3,e4,e5,e6,b,us,ty,eb,e8,e9,e10⟩:=R.blk _ _ hs
 subst e2
 simp only [VR] at hv
 obtain ⟨bi',f1,f2,f3,f4⟩:=hv
 rw [e1] at f1
 injection f1 with f1
 subst f1
 have hlens:∀ x ∈ zs,x.cells.length=bi.k:=fun x hx=>(e6 x hx).1
 have hmem:∀ y ∈ (zs.drop q).take m,y ∈ zs:=fun y hy=>WU (W4 hy)
 have hl:((zs.drop q).take m).length=m:=by simp;omega
 have hvr:VRs I β (((zs.drop q).take m).flatMap AVal.cells) (((us.toList.take (zs.length*bi.k)).drop (q*bi.k)).take (m*bi.k)):=by
  rw [<-Zg4 (fun x hx=>hlens x (WU hx)),<-Zhq hlens]
  exact Zeu (ZdY e10 _) _
 have hlen2:(((us.toList.take (zs.length*bi.k)).drop (q*bi.k)).take (m*bi.k)).length=m*bi.k:=by
  rw [<-Zan hvr,ZeU (fun y hy=>hlens y (hmem y hy)),hl]
 have hval:v=.slice (some ⟨b,q*bi.k,none⟩) m (bi.cap - q):=by
  rcases f4 with ⟨b',hb',rfl⟩ | ⟨hbn,_⟩ | ⟨_,hbn,_⟩
  ·rw [eb] at hb';injection hb' with hb';subst hb';rfl
  ·rw [eb] at hbn;cases hbn
  ·omega
 subst hval
 refine ⟨_,⟨hvr,by rw [hlen2,hl],fun y hy=>hlens y (hmem y hy),by rw [hl];rfl,fun w' hw=>?_⟩,fun y hy=>(e6 y (hmem y hy)).2⟩
 simp only [Builtin.firstCells]
 have key:=run_loadCells_list (P:=P) w' ⟨b,q*bi.k,none⟩ (((us.toList.take (zs.length*bi.k)).drop (q*bi.k)).take (m*bi.k)) ?_
 ·rw [hlen2] at key;rw [hl];exact key
 intro j u hu
 rw [Addr.add_mid,Zkx hw,Ze2 e8]
 rw [X8] at hu
 split at hu
 ·rw [WK,X8] at hu
  split at hu
  ·simpa using hu
  ·cases hu
 ·cases hu
theorem ZD2 {t u e ty : TypeId} {i : TypeInfo} {z : Value} (T : ZhQ P t u e i z) (R : Rel base w0 I0 I β σ w) (hb : KLt base w0) {x y r : AVal} {vx vy : Value} (hx : VR I β x vx) (hy : VR I β y vy) {sq : Nat} (hsite : σ[sq]? = some .free) {c : Cls}
    (h : Zef σ sq i.size i.bytes x y = some (r, σ', c)) : ∃ v w', (Builtin.append_ #[t, u] ty #[vx, vy]).run P w = .ok v w' /\ Post base w0 I0 I β r σ' v w' := by
  have hbw := R.base_le hb
  have hz := T.hzs
  unfold Zef at h
  split at h
  case h_2 => cases h
  rename_i u' h' q m
  split at h
  case h_2 => cases h
  rename_i hh k1 zs hu
  split at h
  case isFalse => cases h
  rename_i hc
  obtain ⟨rfl, rfl, hqm, hm0⟩ := hc
  obtain ⟨us, S, hok⟩ := ZFn (P := P) R hu hqm hm0 hy
  have hyl : ((zs.drop q).take m).length = m := by simp; omega
  have hone : ∀ v ∈ us, v.oneCell' = true := ZgB (fun z hz => by
    obtain ⟨y, hy, hz⟩ := WB.1 hz
    exact hok y hy z hz) S.vr
  have hlu := S.len
  rw [hyl] at hlu
  generalize hys : (zs.drop q).take m = ys at *
  have fresh : ∀ {A : Option Addr} {n cap : Nat} {olds : List Value} {xs : List AVal}, (∀ w' : World, w'.heap = w.heap -> (Builtin.firstCells i.size n (.slice A n cap)).run P w' = .ok olds.toArray w') -> cap < n + m -> (n + m) * i.bytes <= 140737488355328 ->
      VRs I β (xs.flatMap AVal.cells) olds -> xs.length = n -> (∀ x ∈ xs, x.cells.length = i.size /\ ∀ c ∈ x.cells, Z1 c = true) ->
      ∃ newCap us', n + m <= newCap /\ newCap <= 9223372036854775807 /\ us'.size = newCap * i.size /\ VRs I β ((xs ++ ys).flatMap AVal.cells) (us'.toList.take ((xs ++ ys).length * i.size)) /\ (∀ x ∈ xs ++ ys, x.cells.length = i.size /\ ∀ c ∈ x.cells, Z1 c = true) /\
        (Builtin.append_ #[t, u] ty #[.slice A n cap, vy]).run P w = .ok (.slice (some ⟨w.heap.size, 0, none⟩) (n + m) newCap) { w with heap := w.heap.push (.cells us' e), drawn := w.drawn + 1 } := by
    intro A n cap olds xs hold hg hbytes hvo hn hlx
    obtain ⟨newCap, h1, h2, h3⟩ := ZwS (ty := ty) T S hold (by rw [hyl]; exact hg) (by rw [hyl]; exact hbytes)
    rw [hyl] at h1 h3
    have hol : olds.length = n * i.size := by rw [<- Zan hvo, ZeU (fun x hx => (hlx x hx).1), hn]
    refine ⟨newCap, _, h1, h2, ?_, ?_, ?_, h3⟩
    . simp only [XaD, XE, X7, ZxF, hz, hol, hlu, <- Wz]
      congr 1; omega
    . rw [ZfJ, XE, hn, hyl]
      have hlen : (olds ++ us).length = (n + m) * i.size := by rw [XE, hol, hlu, Wz]
      simp only [<- hlen, XaA]
      exact Zcu hvo S.vr
    . intro q hq
      rcases XG.1 hq with hq | hq
      . exact hlx q hq
      . exact ⟨S.lens q hq, hok q hq⟩
  split at h
  ·
    split at h
    case isFalse => cases h
    rename_i hbytes
    simp only [Xa, Xb] at h
    obtain ⟨rfl, rfl, rfl⟩ := h
    simp only [VR] at hx
    obtain ⟨A, cap, rfl, h2, h3, h4, _, _⟩ := hx
    have hc : cap = 0 := by simpa using h4
    subst hc
    obtain ⟨newCap, us', h5, h6, h7, h8, h10, h11⟩ := fresh (A := A) (n := 0) (cap := 0) (olds := []) (xs := []) (fun w' _ => by cases A <;> simp [Builtin.firstCells, loadCells, loadCellsFrom]) (by omega) (by simpa using hbytes) (by simp [VRs]) rfl (by simp)
    simp only [XI] at h8 h10
    rw [hyl] at h8
    obtain ⟨R', hle⟩ := (R.same (w' := { w with drawn := w.drawn + 1 }) rfl rfl rfl rfl).newObj hb hsite (.cells us' e) (.rrow 0 i.size ys) i.size newCap (by simp [Zw, Bmap.put_same]) rfl (by simp)
      ⟨_, Bmap.put_same β sq 0 _, rfl, T.hs, h6, by simp only [hyl]; omega, h10, w.heap.size, us', e, rfl, by simp, h7, by rw [hyl]; exact VRs.mono (Imm.le.refl I) (Bmap.put_le (R.free sq 0 hsite)) _ _ h8⟩
    refine ⟨_, _, h11, Post.mk (Imm.le.refl I) hle R' ?_⟩
    rw [ZcC]
    exact ⟨_, Bmap.put_same β sq 0 _, by simpa using h5, h6, XH ⟨_, rfl, by simp⟩⟩
  . rename_i t' g p n
    split at h
    case h_2 => cases h
    rename_i g' k' xs hs
    split at h
    case isFalse => cases h
    rename_i hc
    obtain ⟨rfl, rfl, rfl, hbytes, rfl⟩ := hc
    simp only [Xa, Xb] at h
    obtain ⟨rfl, rfl, rfl⟩ := h
    obtain ⟨bi, e1, e2, e3, e4, e5, e7, b, us0, ty0, hbb, e8, e9, e10⟩ := R.blk _ _ hs
    rw [ZcC] at hx
    obtain ⟨bi', f1, f2, f3, f4⟩ := hx
    rw [e1] at f1
    injection f1 with f1
    subst f1
    have hown : ∀ b, Zw w β t' (.rrow g' i.size xs) b ↔ bi.b = some b := by simp [Zw, e1]
    have hxl : ∀ x ∈ xs, x.cells.length = i.size := fun x hx => (e7 x hx).1
    rcases f4 with ⟨b', eb, rfl⟩ | ⟨hbn, _⟩
    case inr => rw [hbb] at hbn; cases hbn
    rw [hbb] at eb
    injection eb with eb
    subst eb
    have hlx : (us0.toList.take (xs.length * i.size)).length = xs.length * i.size := by rw [<- Zan e10, ZeU hxl]
    by_cases hfit : xs.length + m <= bi.cap
    . have hcells : xs.length * i.size + us.length <= us0.size := by rw [hlu, e9, <- Wz]; exact Ww _ hfit
      have hst := run_storeCells_at (P := P) b (xs.length * i.size) ty0 us 0 us0 w e8 (by omega) hone
      simp only [Wm] at hst
      have hle0 := Bmap.put_le (bi := bi) (R.gen t' _ (g' + 1) hs (by simp [Zc]))
      obtain ⟨R', hle⟩ := R.growX (w' := w.setRow b (us0.toList.take (xs.length * i.size) ++ us ++ us0.toList.drop (xs.length * i.size + us.length)).toArray) (x' := .rrow (g' + 1) i.size (xs ++ ys)) hs rfl rfl bi
        ⟨rfl, rfl, rfl, by simp [World.setRow], fun k hk => setRow_other w b k _ (by rintro rfl; exact (R.own t' _ k hs (by rw [hown, hbb])).1 hk)⟩
        (fun b' o u hu => by
          have : b' ≠ b := by rintro rfl; rw [(R.own t' _ b' hs (by rw [hown, hbb])).2 o] at hu; cases hu
          rw [<- R.imm b' o u hu]
          simp only [World.cell?, setRow_other w b b' _ this])
        (fun b' hne _ => setRow_other w b b' _ (by rintro rfl; exact hne (by rw [hown, hbb])))
        (XO ⟨b, hbb, XH (by rw [hown, hbb])⟩) hbw (by simp [Zw, Zc, Bmap.put_same]) (by simp)
        ⟨bi, Bmap.put_same β t' _ bi, e2, e3, e4, by simp only [XE, hyl]; exact hfit, fun q hq => by
          rcases XG.1 hq with hq | hq
          . exact e7 q hq
          . exact ⟨S.lens q hq, hok q hq⟩, b, _, ty0, hbb, setRow_heap w b us0 _ ty0 (0, 0) e8, by simp only [XaD, XE, X9, Xam, X7]; omega, by
            have hl2 : (us0.toList.take (xs.length * i.size) ++ us).length = (xs ++ ys).length * i.size := by rw [XE, hlx, hlu, XE, Wz, hyl]
            have := Zcu (VRs.mono (Imm.le.refl I) hle0 _ _ e10) (VRs.mono (Imm.le.refl I) hle0 _ _ S.vr)
            rw [ZfJ, <- hl2]
            simp only [XaA]
            exact this⟩
      refine ⟨.slice (some ⟨b, 0, none⟩) (xs.length + m) bi.cap, _, ?_, Post.mk (Imm.le.refl I) hle R' ?_⟩
      . rw [ZgL T S (by rw [hyl]; exact hfit), hyl]
        simp only [Addr.add_mid, XK, hst, Result.andThen_ok]
      . rw [ZcC]
        exact ⟨bi, Bmap.put_same β t' _ bi, hfit, e4, XH ⟨b, hbb, rfl⟩⟩
    . obtain ⟨newCap, us', g5, g6, g7, g8, g10, g11⟩ := fresh (A := some ⟨b, 0, none⟩) (n := xs.length) (cap := bi.cap) (olds := us0.toList.take (xs.length * i.size)) (xs := xs)
        (fun w' hw => by
          simp only [Builtin.firstCells]
          have key := run_loadCells_list (P := P) w' ⟨b, 0, none⟩ (us0.toList.take (xs.length * i.size)) ?_
          . rw [hlx] at key; exact key
          intro j u hu
          rw [Addr.add_mid, Zkx hw, Ze2 e8]
          rw [X8] at hu
          split at hu
          . simpa using hu
          . cases hu) (by omega) hbytes e10 rfl e7
      have hle0 := Bmap.put_le (bi := (⟨some w.heap.size, i.size, newCap⟩ : BI)) (R.gen t' _ (g' + 1) hs (by simp [Zc]))
      obtain ⟨R', hle⟩ := (R.same (w' := { w with drawn := w.drawn + 1 }) rfl rfl rfl rfl).growX (w' := { w with heap := w.heap.push (.cells us' e), drawn := w.drawn + 1 }) (x' := .rrow (g' + 1) i.size (xs ++ ys)) hs rfl rfl ⟨some w.heap.size, i.size, newCap⟩
        (Zhs base { w with drawn := w.drawn + 1 } _ hbw) (fun b' o u hu => ZgU { w with drawn := w.drawn + 1 } _ (R.imm b' o u hu)) (fun b' _ hlt => ZfH w _ hlt) (XO ⟨_, rfl, XO rfl⟩) hbw (by simp [Zw, Zc, Bmap.put_same]) (by simp)
        ⟨_, Bmap.put_same β t' _ _, rfl, e3, g6, by simp only [XE, hyl]; exact g5, g10, _, us', e, rfl, ZgT w _, g7, VRs.mono (Imm.le.refl I) hle0 _ _ g8⟩
      refine ⟨_, _, g11, Post.mk (Imm.le.refl I) hle R' ?_⟩
      rw [ZcC]
      exact ⟨_, Bmap.put_same β t' _ _, g5, g6, XH ⟨_, rfl, rfl⟩⟩
  . cases h
theorem ZBF {t u e ty : TypeId} {i : TypeInfo} {z : Value} (T : ZhQ P t u e i z) (R : Rel base w0 I0 I β σ w) (hb : KLt base w0) {x y r : AVal} {vx vy : Value} (hx : VR I β x vx) (hy : VR I β y vy) {sq : Nat} (hsite : σ[sq]? = some .free) {c : Cls}
    (h : Zaj σ sq i.size i.bytes x y = some (r, σ', c)) : ∃ v w', (Builtin.append_ #[t, u] ty #[vx, vy]).run P w = .ok v w' /\ Post base w0 I0 I β r σ' v w' := by
  unfold Zaj at h
  split at h
  case h_1 => exact ZD2 T R hb hx hy hsite h
  rename_i ys ts he
  split at h
  case isFalse => cases h
  rename_i hk
  obtain ⟨us, S⟩ := ZB6 (P := P) R he hy hk
  have hbw := R.base_le hb
  have hz := T.hzs
  have hone : ∀ v ∈ us, v.oneCell' = true := ZgB (fun z hz => Zjh (Zdq.1 (ZrL S.tree) z hz)) S.vr
  have fresh : ∀ {A : Option Addr} {n cap : Nat} {olds : List Value} {xs : List AVal}, (∀ w' : World, w'.heap = w.heap -> (Builtin.firstCells i.size n (.slice A n cap)).run P w' = .ok olds.toArray w') -> cap < n + ys.length -> (n + ys.length) * i.bytes <= 140737488355328 ->
      VRs I β (xs.flatMap AVal.cells) olds -> xs.length = n -> Zac xs = true -> (∀ x ∈ xs, x.cells.length = i.size) ->
      ∃ newCap us', n + ys.length <= newCap /\ newCap <= 9223372036854775807 /\ us'.size = newCap * i.size /\ VRs I β ((xs ++ ys).flatMap AVal.cells) (us'.toList.take ((xs ++ ys).length * i.size)) /\ Zac (xs ++ ys) = true /\ (∀ x ∈ xs ++ ys, x.cells.length = i.size) /\
        (Builtin.append_ #[t, u] ty #[.slice A n cap, vy]).run P w = .ok (.slice (some ⟨w.heap.size, 0, none⟩) (n + ys.length) newCap) { w with heap := w.heap.push (.cells us' e), drawn := w.drawn + 1 } := by
    intro A n cap olds xs hold hg hbytes hvo hn htx hlx
    obtain ⟨newCap, h1, h2, h3⟩ := ZwS (ty := ty) T S.to0 hold hg hbytes
    have hol : olds.length = n * i.size := by rw [<- Zan hvo, ZeU hlx, hn]
    refine ⟨newCap, _, h1, h2, ?_, ?_, ZgH htx S.tree, ?_, h3⟩
    . simp only [XaD, XE, X7, ZxF, hz, hol, S.len, <- Wz]
      congr 1; omega
    . rw [ZfJ, XE, hn]
      have hlen : (olds ++ us).length = (n + ys.length) * i.size := by rw [XE, hol, S.len, Wz]
      simp only [<- hlen, XaA]
      exact Zcu hvo S.vr
    . intro q hq
      rcases XG.1 hq with hq | hq
      . exact hlx q hq
      . exact S.lens q hq
  split at h
  ·
    split at h
    case isFalse => cases h
    rename_i hbytes
    simp only [Xa, Xb] at h
    obtain ⟨rfl, rfl, rfl⟩ := h
    simp only [VR] at hx
    obtain ⟨A, cap, rfl, h2, h3, h4, _, _⟩ := hx
    have hc : cap = 0 := by simpa using h4
    subst hc
    by_cases hne : ys = []
    . subst hne
      have hus : us = [] := Wb (by simpa using S.len)
      subst hus
      obtain ⟨R', hle⟩ := R.newNone hsite i.size T.hs
      refine ⟨.slice A 0 0, w, ?_, Post.mk (Imm.le.refl I) hle R' ?_⟩
      . rw [ZgL T S.to0 (by simp)]
        cases A <;> simp [storeCells]
      . rw [ZcC]
        exact ⟨_, Bmap.put_same β sq 0 _, by simp, by simp, XO ⟨rfl, rfl, A, rfl⟩⟩
    . have hpos : 0 < ys.length := List.length_pos_iff.2 hne
      obtain ⟨newCap, us', h5, h6, h7, h8, h9, h10, h11⟩ := fresh (A := A) (n := 0) (cap := 0) (olds := []) (xs := []) (fun w' _ => by cases A <;> simp [Builtin.firstCells, loadCells, loadCellsFrom]) (by omega) (by simpa using hbytes) (by simp [VRs]) rfl (by simp [Zac]) (by simp)
      obtain ⟨R', hle⟩ := (R.same (w' := { w with drawn := w.drawn + 1 }) rfl rfl rfl rfl).newOwn hb hsite us' e (.row 0 i.size ys) i.size newCap (XO ⟨ys, rfl, T.hs, h6, by omega, S.tree, S.lens, h7, by simpa using h8⟩)
      refine ⟨_, _, h11, Post.mk (Imm.le.refl I) hle R' ?_⟩
      rw [ZcC]
      exact ⟨_, Bmap.put_same β sq 0 _, by simpa using h5, h6, XH ⟨_, rfl, by simp⟩⟩
  ·
    rename_i x0 xs0
    split at h
    case isFalse => cases h
    rename_i hc
    obtain ⟨hk0, hbytes⟩ := hc
    have hrd := Zn1 R hx
    have hx' := hx
    simp only [VR] at hx
    obtain ⟨A, cap, rfl, h2, h3, h4, h5, h6⟩ := hx
    have hc : cap = (x0 :: xs0).length := by simpa using h4
    subst hc
    split at h
    . simp only [Xa, Xb] at h
      obtain ⟨rfl, rfl, rfl⟩ := h
      have hus : us = [] := Wb (by simpa using S.len)
      subst hus
      refine ⟨_, w, ?_, Post.here R hx'⟩
      rw [ZgL T S.to0 (by simp)]
      cases A <;> simp [storeCells]
    . rename_i y0 ys0
      simp only [Xa, Xb] at h
      obtain ⟨rfl, rfl, rfl⟩ := h
      obtain ⟨olds, So⟩ := ZvU (P := P) hrd hk0
      obtain ⟨newCap, us', g5, g6, g7, g8, g9, g10, g11⟩ := fresh (A := A) (n := (x0 :: xs0).length) (cap := (x0 :: xs0).length) (olds := olds) (xs := x0 :: xs0) So.run (by simp) hbytes So.vr rfl So.tree So.lens
      obtain ⟨R', hle⟩ := (R.same (w' := { w with drawn := w.drawn + 1 }) rfl rfl rfl rfl).newOwn hb hsite us' e (.row 0 i.size ((x0 :: xs0) ++ (y0 :: ys0))) i.size newCap (XO ⟨_, rfl, T.hs, g6, by rw [XE]; exact g5, g9, g10, g7, g8⟩)
      refine ⟨_, _, g11, Post.mk (Imm.le.refl I) hle R' ?_⟩
      rw [ZcC]
      exact ⟨_, Bmap.put_same β sq 0 _, by simpa using g5, g6, XH ⟨_, rfl, rfl⟩⟩
  ·
    rename_i t' g p n
    split at h
    case h_2 => cases h
    rename_i g' k' xs hs
    split at h
    case isFalse => cases h
    rename_i hc
    obtain ⟨rfl, rfl, rfl, hbytes⟩ := hc
    obtain ⟨bi, e1, e2, e3, e4, e5, e6, e7, e8⟩ := R.blk _ _ hs
    rw [ZcC] at hx
    obtain ⟨bi', f1, f2, f3, f4⟩ := hx
    rw [e1] at f1
    injection f1 with f1
    subst f1
    have hown : ∀ b, Zw w β t' (.row g' i.size xs) b ↔ bi.b = some b := by simp [Zw, e1]
    split at h
    . rename_i hn
      subst hn
      simp only [Xa, Xb] at h
      obtain ⟨rfl, rfl, rfl⟩ := h
      rcases f4 with ⟨b, hbb, rfl⟩ | ⟨hbn, hcz, A, rfl⟩
      . rcases e8 with ⟨e8, _⟩ | ⟨b', us0, ty0, eb, e8, e9, e10⟩
        . rw [hbb] at e8; cases e8
        rw [hbb] at eb
        injection eb with eb
        subst eb
        have hlx : (us0.toList.take (xs.length * i.size)).length = xs.length * i.size := by rw [<- Zan e10, ZeU e7]
        by_cases hfit : xs.length + ys.length <= bi.cap
        . have hcells : xs.length * i.size + us.length <= us0.size := by rw [S.len, e9, <- Wz]; exact Ww _ hfit
          have hst := run_storeCells_at (P := P) b (xs.length * i.size) ty0 us 0 us0 w e8 (by omega) hone
          simp only [Wm] at hst
          obtain ⟨R', hle⟩ := R.grow (w' := w.setRow b (us0.toList.take (xs.length * i.size) ++ us ++ us0.toList.drop (xs.length * i.size + us.length)).toArray) (xs' := xs ++ ys) hs bi
            ⟨rfl, rfl, rfl, by simp [World.setRow], fun k hk => setRow_other w b k _ (by rintro rfl; exact (R.own t' _ k hs (by rw [hown, hbb])).1 hk)⟩
            (fun b' o u hu => by
              have : b' ≠ b := by rintro rfl; rw [(R.own t' _ b' hs (by rw [hown, hbb])).2 o] at hu; cases hu
              rw [<- R.imm b' o u hu]
              simp only [World.cell?, setRow_other w b b' _ this])
            (fun b' hne _ => setRow_other w b b' _ (by rintro rfl; exact hne (by rw [hown, hbb])))
            (XO ⟨b, hbb, XH (by rw [hown, hbb])⟩) hbw
            ⟨bi, Bmap.put_same β t' _ bi, e2, e3, e4, by simpa using hfit, ZgH e6 S.tree, fun q hq => by
              rcases XG.1 hq with hq | hq
              . exact e7 q hq
              . exact S.lens q hq, XO ⟨b, _, ty0, hbb, setRow_heap w b us0 _ ty0 (0, 0) e8, by simp; omega, by
                have hl2 : (us0.toList.take (xs.length * i.size) ++ us).length = (xs ++ ys).length * i.size := by rw [XE, hlx, S.len, XE, Wz]
                have := Zcu (VRs.mono (Imm.le.refl I) (Bmap.put_le (R.gen t' _ (g' + 1) hs (by simp [Zc]))) _ _ e10) (VRs.mono (Imm.le.refl I) (Bmap.put_le (bi := bi) (R.gen t' _ (g' + 1) hs (by simp [Zc]))) _ _ S.vr)
                rw [ZfJ, <- hl2]
                simp only [XaA]
                exact this⟩⟩
          refine ⟨.slice (some ⟨b, 0, none⟩) (xs.length + ys.length) bi.cap, _, ?_, Post.mk (Imm.le.refl I) hle R' ?_⟩
          . rw [ZgL T S.to0 hfit]
            simp only [Addr.add_mid, XK, hst, Result.andThen_ok]
          . rw [ZcC]
            exact ⟨bi, Bmap.put_same β t' _ bi, hfit, e4, XH ⟨b, hbb, rfl⟩⟩
        . obtain ⟨newCap, us', g5, g6, g7, g8, g9, g10, g11⟩ := fresh (A := some ⟨b, 0, none⟩) (n := xs.length) (cap := bi.cap) (olds := us0.toList.take (xs.length * i.size)) (xs := xs)
            (fun w' hw => by
              simp only [Builtin.firstCells]
              have key := run_loadCells_list (P := P) w' ⟨b, 0, none⟩ (us0.toList.take (xs.length * i.size)) ?_
              . rw [hlx] at key; exact key
              intro j u hu
              rw [Addr.add_mid, Zkx hw, Ze2 e8]
              rw [X8] at hu
              split at hu
              . simpa using hu
              . cases hu) (by omega) hbytes e10 rfl e6 e7
          obtain ⟨R', hle⟩ := (R.same (w' := { w with drawn := w.drawn + 1 }) rfl rfl rfl rfl).grow (w' := { w with heap := w.heap.push (.cells us' e), drawn := w.drawn + 1 }) (xs' := xs ++ ys) hs ⟨some w.heap.size, i.size, newCap⟩
            (Zhs base { w with drawn := w.drawn + 1 } _ hbw) (fun b' o u hu => ZgU { w with drawn := w.drawn + 1 } _ (R.imm b' o u hu)) (fun b' _ hlt => ZfH w _ hlt) (XO ⟨_, rfl, XO rfl⟩) hbw
            ⟨_, Bmap.put_same β t' _ _, rfl, e3, g6, by simpa using g5, g9, g10, XO ⟨_, us', e, rfl, ZgT w _, g7, VRs.mono (Imm.le.refl I) (Bmap.put_le (R.gen t' _ (g' + 1) hs (by simp [Zc]))) _ _ g8⟩⟩
          refine ⟨_, _, g11, Post.mk (Imm.le.refl I) hle R' ?_⟩
          rw [ZcC]
          exact ⟨_, Bmap.put_same β t' _ _, g5, g6, XH ⟨_, rfl, rfl⟩⟩
      . have hxs : xs = [] := Wb (by omega)
        subst hxs
        by_cases hne : ys = []
        . subst hne
          have hus : us = [] := Wb (by simpa using S.len)
          subst hus
          obtain ⟨R', hle⟩ := R.grow (w' := w) (xs' := []) hs ⟨none, i.size, 0⟩ (KB.refl base w) R.imm (fun _ _ _ => rfl) (XH rfl) hbw
            ⟨_, Bmap.put_same β t' _ _, rfl, e3, by simp, by simp, by simp [Zac], by simp, XH ⟨rfl, rfl⟩⟩
          refine ⟨.slice A 0 0, w, ?_, Post.mk (Imm.le.refl I) hle (by simpa using R') ?_⟩
          . rw [ZgL T S.to0 (by simp)]
            cases A <;> simp [storeCells]
          . rw [ZcC]
            exact ⟨_, Bmap.put_same β t' _ _, by simp, by simp, XO ⟨rfl, rfl, A, rfl⟩⟩
        . have hpos : 0 < ys.length := List.length_pos_iff.2 hne
          obtain ⟨newCap, us', g5, g6, g7, g8, g9, g10, g11⟩ := fresh (A := A) (n := 0) (cap := 0) (olds := []) (xs := []) (fun w' _ => by cases A <;> simp [Builtin.firstCells, loadCells, loadCellsFrom]) (by omega) (by simpa using hbytes) (by simp [VRs]) rfl (by simp [Zac]) (by simp)
          obtain ⟨R', hle⟩ := (R.same (w' := { w with drawn := w.drawn + 1 }) rfl rfl rfl rfl).grow (w' := { w with heap := w.heap.push (.cells us' e), drawn := w.drawn + 1 }) (xs' := [] ++ ys) hs ⟨some w.heap.size, i.size, newCap⟩
            (Zhs base { w with drawn := w.drawn + 1 } _ hbw) (fun b' o u hu => ZgU { w with drawn := w.drawn + 1 } _ (R.imm b' o u hu)) (fun b' _ hlt => ZfH w _ hlt) (XO ⟨_, rfl, XO rfl⟩) hbw
            ⟨_, Bmap.put_same β t' _ _, rfl, e3, g6, by simpa using g5, g9, g10, XO ⟨_, us', e, rfl, ZgT w _, g7, VRs.mono (Imm.le.refl I) (Bmap.put_le (R.gen t' _ (g' + 1) hs (by simp [Zc]))) _ _ g8⟩⟩
          refine ⟨_, _, g11, Post.mk (Imm.le.refl I) hle R' ?_⟩
          rw [ZcC]
          exact ⟨_, Bmap.put_same β t' _ _, by simpa using g5, g6, XH ⟨_, rfl, by simp⟩⟩
    . rename_i hnn
      split at h
      case isFalse => cases h
      rename_i hle'
      simp only [Xa, Xb] at h
      obtain ⟨rfl, rfl, rfl⟩ := h
      have hnlt : n < xs.length := by omega
      rcases f4 with ⟨b, hbb, rfl⟩ | ⟨hbn, hcz, A, rfl⟩
      . rcases e8 with ⟨e8, _⟩ | ⟨b', us0, ty0, eb, e8, e9, e10⟩
        . rw [hbb] at e8; cases e8
        rw [hbb] at eb
        injection eb with eb
        subst eb
        have hfit : n + ys.length <= bi.cap := by omega
        have hmul : (n + ys.length) * i.size <= xs.length * i.size := Ww _ hle'
        have hmul2 : xs.length * i.size <= us0.size := by rw [e9]; exact Ww _ e5
        have hcells : n * i.size + us.length <= us0.size := by rw [S.len, <- Wz]; omega
        have hst := run_storeCells_at (P := P) b (n * i.size) ty0 us 0 us0 w e8 (by omega) hone
        simp only [Wm] at hst
        refine ⟨.slice (some ⟨b, 0, none⟩) (n + ys.length) bi.cap, w.setRow b (us0.toList.take (n * i.size) ++ us ++ us0.toList.drop (n * i.size + us.length)).toArray, ?_, Post.here (R.write hs (b := b) (by rw [hown, hbb]) _ (by simp [Zw, e1, hbb]) ?_ rfl) ?_⟩
        . rw [ZgL T S.to0 hfit]
          simp only [Addr.add_mid, XK, hst, Result.andThen_ok]
        . have hxl : (xs.take n ++ ys ++ xs.drop (n + ys.length)).length = xs.length := by simp; omega
          refine ⟨bi, e1, e2, e3, e4, by rw [hxl]; exact e5, ?_, ?_, XO ⟨b, _, ty0, hbb, setRow_heap w b us0 _ ty0 (0, 0) e8, by simp; omega, ?_⟩⟩
          . exact ZgH (ZgH (Zhu e6 n) S.tree) (Zh7 e6 _)
          . intro q hq
            simp only [XG] at hq
            rcases hq with (hq | hq) | hq
            . exact e7 q (W4 hq)
            . exact S.lens q hq
            . exact e7 q (WU hq)
          . rw [hxl, ZfJ, ZfJ, <- Zg4 e7, <- Zhq e7]
            have h1 := Zeu e10 (n * i.size)
            have h2 := ZdY e10 ((n + ys.length) * i.size)
            have := Zcu (Zcu h1 S.vr) h2
            refine cast ?_ this
            congr 1
            rw [XaB, Xak (by rw [Wz] at hmul; omega), XaW]
            have hsl := S.len
            rw [Wz] at hmul ⊢
            apply Wa
            intro j
            simp only [WT, X8, WK, XE, X9, X7]
            repeat' split
            all_goals first | rfl | omega | (congr 1; omega) | (exfalso; omega) | skip
            all_goals (first | (symm; rw [Wd]; simp; omega) | (rw [Wd]; simp; omega))
        . rw [ZcC]
          exact ⟨bi, e1, hfit, e4, XH ⟨b, hbb, rfl⟩⟩
      . omega
  . cases h
end
end
section
open Go.RowKit
theorem Zob {I:Imm} {β:Bmap} {v:Value} {x:AVal} (h:Zkz v=some x):VR I β x v/\v.cells=#[v]/\x.cells=[x]/\ZaT x=true:=by
 unfold Zkz at h
 split at h
 ·injection h with h;subst h;exact ⟨by simp only [VR],rfl,rfl,rfl⟩
 ·injection h with h;subst h;exact ⟨by simp only [VR],rfl,rfl,rfl⟩
 ·split at h
  ·injection h with h;subst h
   refine ⟨?_,rfl,rfl,rfl⟩
   simp only [VR]
   exact ⟨by simp,by assumption⟩
  ·cases h
 ·injection h with h;subst h;exact ⟨by simp only [VR],rfl,rfl,rfl⟩
 ·injection h with h;subst h
  refine ⟨?_,rfl,rfl,rfl⟩
  simp only [VR]
  exact ⟨none,0,rfl,by simp,by simp,by simp,XH trivial,rfl⟩
 ·injection h with h;subst h;exact ⟨by simp only [VR],rfl,rfl,rfl⟩
 ·injection h with h;subst h;exact ⟨by simp only [VR],rfl,rfl,rfl⟩
 ·cases h
theorem Zwm {I:Imm} {β:Bmap}:∀ {vs:List Value} {xs:List AVal},ZhK vs=some xs->VRs I β xs vs/\ZaQ xs=true
 | [],xs,h=>by simp only [ZhK,Xa] at h;subst h;exact ⟨by simp only [VRs],rfl⟩
 | v::vs,xs,h=>by
  simp only [ZhK] at h
  split at h
  ·rename_i x h1
   split at h
   ·rename_i ys h2
    injection h with h;subst h
    obtain ⟨a1,_,_,a2⟩:=Zob (I:=I) (β:=β) h1
    obtain ⟨b1,b2⟩:=Zwm (I:=I) (β:=β) h2
    exact ⟨by simp only [VRs];exact ⟨v,vs,rfl,a1,b1⟩,by simp [ZaQ,a2,b2]⟩
   ·cases h
  ·cases h
theorem Ze6 {v:Value} {x:AVal} (h:Zgh v=some x):x≠.top:=by
 unfold Zgh at h
 split at h
 ·simp only [XB] at h
  obtain ⟨xs,h1,rfl⟩:=h
  simp
 ·obtain ⟨_,_,_,a3⟩:=Zob (I:=fun _ _=>none) (β:=B0) h
  rintro rfl;simp [ZaT] at a3
theorem Ze0 {I:Imm} {β:Bmap} {v:Value} {x:AVal} (h:Zgh v=some x):VR I β x v/\ZaQ x.cells=true:=by
 unfold Zgh at h
 split at h
 ·simp only [XB] at h
  obtain ⟨xs,h1,rfl⟩:=h
  obtain ⟨b1,b2⟩:=Zwm (I:=I) (β:=β) h1
  exact ⟨by simp only [VR];exact ⟨_,rfl,b1⟩,b2⟩
 ·obtain ⟨a1,_,a2,a3⟩:=Zob (I:=I) (β:=β) h
  exact ⟨a1,by rw [a2];simp [ZaQ,a3]⟩
section
variable {P:Program} {base:Nat->Prop} {w0 w w':World} {I0 I I':Imm} {β β':Bmap} {σ σ':Za} {tm:Tms} {ρ:Operand->Value}
theorem Zah {a:Act} (T:TR I β tm a.tmps) {x:Operand} {y:Opd} (h:Zar x=some y):VR I β (y.ev tm) (a.eval x):=by
 cases x with
 | tmp t =>
  simp only [Zar,Xa] at h;subst h
  exact T t
 | const v =>
  simp only [Zar,XB] at h
  obtain ⟨c,h1,rfl⟩:=h
  exact (Ze0 h1).1
 | func f =>
  simp only [Zar] at h
  split at h
  case isFalse=>cases h
  rename_i hf
  simp only [Xa] at h;subst h
  simp only [Opd.ev,Act.eval,VR,if_pos hf]
  exact ⟨#[],#[],rfl,rfl,by simp [VRs]⟩
 | global g=>cases h
def OpOk (P:Program) (s:Sem Next) (w:World) (Φ:Value->World->Prop):Prop :=
 (∃ u w',s.run P w=.ok (.value u) w'/\Φ u w')\/(∃ w',s.run P w=.ok .skip w'/\Φ undef w')\/(∃ f args w',s.run P w=.ok (.enter f args) w'/\Calls P f args w' (fun e w''=>∃ u,e=.returned u/\Φ u w''))
def OpPan (P:Program) (s:Sem Next) (w:World) (Φ:Value->World->Prop):Prop :=
 (∃ u w',s.run P w=.halt (.panic u) w'/\Φ u w')\/(∃ f args w',s.run P w=.ok (.enter f args) w'/\Calls P f args w' (fun e w''=>∃ u,e=.panicked [{ v:=u,recovered:=false }]/\Φ u w''))
theorem OpPan.wp {o:Oper} {a:Act} {Φ:Value->World->Prop} {K:Act->World->Prop} {Q:Exit->Act->World->Prop} (h:OpPan P (execOp a.eval o) w Φ) (hQ:∀ u w',Φ u w'->Q (.panic [{ v:=u,recovered:=false }]) a w'):o.wp P a w K Q:=by
 unfold Oper.wp
 rcases h with ⟨u,w',h1,h2⟩ | ⟨f,args,w',h1,h2⟩
 ·rw [h1];exact hQ u w' h2
 ·rw [h1]
  exact h2.mono fun e w'' ⟨u,he,hu⟩=>by subst he;exact hQ u w'' hu
theorem OpOk.wp {o:Oper} {a:Act} {Φ:Value->World->Prop} {K:Act->World->Prop} {Q:Exit->Act->World->Prop} (h:OpOk P (execOp a.eval o) w Φ) (hK:∀ u w',Φ u w'->K (a.put o.dst u) w'):o.wp P a w K Q:=by
 unfold Oper.wp
 rcases h with ⟨u,w',h1,h2⟩ | ⟨w',h1,h2⟩ | ⟨f,args,w',h1,h2⟩
 ·rw [h1];exact hK u w' h2
 ·rw [h1];exact hK _ w' h2
 ·rw [h1]
  exact h2.mono fun e w'' ⟨u,he,hu⟩=>by subst he;exact hK u w'' hu
theorem OpOk.val {s:Sem Value} {Φ:Value->World->Prop} (h:∃ u w',s.run P w=.ok u w'/\Φ u w'):OpOk P (do let x <-s;pure (.value x)) w Φ:=by
 obtain ⟨u,w',h1,h2⟩:=h
 exact XH ⟨u,w',by simp [h1],h2⟩
theorem OpOk.unit {s:Sem Unit} {Φ:Value->World->Prop} (h:∃ w',s.run P w=.ok () w'/\Φ undef w'):OpOk P (do s;pure .skip) w Φ:=by
 obtain ⟨w',h1,h2⟩:=h
 exact XO (XH ⟨w',by simp [h1],h2⟩)
theorem ZDk (R:Rel base w0 I0 I β σ w) (hb:KLt base w0) {e:TypeId} {z:AVal} (hz:ZdK P e=some z) {sq:Nat} (hs:σ[sq]?=some .free) :
  ∃ u w',(Instr.alloc e true (.tuple #[])).run P w=.ok u w'/\Post base w0 I0 I β (.ref sq 0) (σ.set sq (.var z.cells)) u w':=by
 unfold ZdK at hz
 split at hz
 ·rename_i i hi
  split at hz
  ·rename_i v hv
   obtain ⟨h1,h2⟩:=Ze0 (I:=I) (β:=β) hz
   obtain ⟨R',hle⟩:=R.newOwn hb hs v.cells e (.var z.cells) 1 v.cells.size (XH ⟨_,rfl,ZdR (Ze6 hz) h1⟩)
   refine ⟨.pointer (some ⟨w.heap.size,0,none⟩),_,?_,Post.mk (Imm.le.refl I) hle R' ?_⟩
   ·simp [Instr.alloc,zeroValue,typeInfo,hi,hv,newVar,newRow]
   ·simp only [VR]
    exact ⟨_,_,_,Bmap.put_same β sq 0 _,rfl⟩
  ·cases hz
 ·cases hz
theorem ZDG (R:Rel base w0 I0 I β σ w) (hb:KLt base w0) {e:TypeId} {v:Value} (h1:VR I β (.agg [.lst true [],.lst true [],.lst true [],.lst true [],.lst true [],.lst true []]) v) {sq:Nat} (hs:σ[sq]?=some .free) :
  ∃ u w',(Instr.box e v).run P w=.ok u w'/\Post base w0 I0 I β (.ref sq 0) (σ.set sq (.book 0 [])) u w':=by
 have hv6:=ZdR (by simp) h1
 have nilv:∀ {x:Value},VR I β (.lst true []) x->∃ A,x=.slice A 0 0:=by
  intro x hx
  simp only [VR,Xy] at hx
  obtain ⟨A,cap,rfl,_,_,h,_⟩:=hx
  rw [h trivial];exact ⟨A,rfl⟩
 simp only [AVal.cells,VRs] at hv6
 obtain ⟨x0,_,e0,q0,x1,_,rfl,q1,x2,_,rfl,q2,x3,_,rfl,q3,x4,_,rfl,q4,x5,_,rfl,q5,rfl⟩:=hv6
 obtain ⟨A0,rfl⟩:=nilv q0
 obtain ⟨A1,rfl⟩:=nilv q1
 obtain ⟨A2,rfl⟩:=nilv q2
 obtain ⟨A3,rfl⟩:=nilv q3
 obtain ⟨A4,rfl⟩:=nilv q4
 obtain ⟨A5,rfl⟩:=nilv q5
 have hbk:Zdk { w with heap:=w.heap.push (.cells v.cells e) } w.heap.size 0=[w.heap.size]:=by
  have hc:ZdH { w with heap:=w.heap.push (.cells v.cells e) } w.heap.size=v.cells.toList:=by simp [ZdH]
  unfold Zdk
  rw [hc,e0]
  simp [ZcL]
 obtain ⟨R',hle⟩:=R.newObj hb hs (.cells v.cells e) (.book 0 []) 1 v.cells.size (fun b ho=>by
  obtain ⟨kb,hk,hm⟩:=ho
  simp only [Bmap.put_same,Wq,Xa] at hk
  subst hk
  rw [show ([]:List (AVal×List Int)).length=0 from rfl,hbk] at hm
  simpa using hm) rfl (by simp) (by
  refine ⟨_,_,_,[],Bmap.put_same β sq 0 _,rfl,by rw [show (List.zip ([]:List Value) (([]:List (AVal×List Int)).map (·.2))).length=0 from rfl,hbk];simp,v.cells,e,A0,A1,A2,A3,.slice A4 0 0,.slice A5 0 0,[],[],by simp,e0,⟨A4,0,0,rfl,rfl,X0 _,by omega,XH rfl⟩,⟨A5,0,0,rfl,rfl,X0 _,by omega,XH rfl⟩,rfl,rfl,fun i b h hi=>by simp at hi,fun i v h l hi=>by simp at hi⟩)
 refine ⟨.pointer (some ⟨w.heap.size,0,none⟩),_,?_,Post.mk (Imm.le.refl I) hle R' ?_⟩
 ·simp [Instr.box,newVar,newRow]
 ·simp only [VR]
  exact ⟨_,_,_,Bmap.put_same β sq 0 _,rfl⟩
theorem ZA3 (R:Rel base w0 I0 I β σ w) (hb:KLt base w0) {e:TypeId} {v:Value} (h1:VR I β (.agg [.lst true []]) v) {sq:Nat} (hs:σ[sq]?=some .free) (hs1:σ[sq+1]?=some .free) :
  ∃ u w',(Instr.box e v).run P w=.ok u w'/\Post base w0 I0 I β (.ref sq 0) ((σ.set sq (.var [.sl (sq+1) 0 0 0])).set (sq+1) (.row 0 1 [])) u w':=by
 have hv1:=ZdR (by simp) h1
 simp only [AVal.cells,VRs,VR,Xy] at hv1
 obtain ⟨x0,_,e0,⟨A,cap,rfl,_,_,hc0,_⟩,rfl⟩:=hv1
 have : cap=0:=hc0 trivial
 subst this
 obtain ⟨R1,le1⟩:=R.newNone hs1 1 (by omega)
 have hs':(σ.set (sq+1) (.row 0 1 []))[sq]?=some .free:=by rw [List.getElem?_set_ne (by omega)];exact hs
 obtain ⟨R2,le2⟩:=R1.newOwn hb hs' v.cells e (.var [.sl (sq+1) 0 0 0]) 1 v.cells.size (XH ⟨_,rfl,by
  rw [e0]
  simp only [VRs,VR]
  exact ⟨_,[],rfl,⟨⟨none,1,0⟩,Bmap.put_same β (sq+1) 0 _,X0 _,by omega,XO (XH ⟨rfl,rfl,A,rfl⟩)⟩,rfl⟩⟩)
 rw [List.set_comm _ _ (show sq≠sq+1 by omega)]
 refine ⟨.pointer (some ⟨w.heap.size,0,none⟩),_,?_,Post.mk (Imm.le.refl I) (le1.trans le2) R2 ?_⟩
 ·simp [Instr.box,newVar,newRow]
 ·simp only [VR]
  exact ⟨_,_,_,Bmap.put_same _ sq 0 _,rfl⟩
theorem ZDu (R:Rel base w0 I0 I β σ w) (hb:KLt base w0) {e:TypeId} {x:AVal} {v:Value} (ht:x≠.top) (hx:VR I β x v) {sq:Nat} (hs:σ[sq]?=some .free) :
  ∃ u w',(Instr.box e v).run P w=.ok u w'/\Post base w0 I0 I β (.ref sq 0) (σ.set sq (.var x.cells)) u w':=by
 obtain ⟨R',hle⟩:=R.newOwn hb hs v.cells e (.var x.cells) 1 v.cells.size (XH ⟨_,rfl,ZdR ht hx⟩)
 refine ⟨.pointer (some ⟨w.heap.size,0,none⟩),_,?_,Post.mk (Imm.le.refl I) hle R' ?_⟩
 ·simp [Instr.box,newVar,newRow]
 ·simp only [VR]
  exact ⟨_,_,_,Bmap.put_same β sq 0 _,rfl⟩
theorem Zkf (op:BinOp) (t:TypeId) (x y:Operand) (k k':IntKind) (a b:Int):(eqGuard op t x y (.int k a) (.int k' b)).run P w=.ok () w:=by
 cases op <;> simp [eqGuard]
theorem ZzB (op:BinOp) (t:TypeId) (x y:Operand) (a b:ByteArray):(eqGuard op t x y (.string a) (.string b)).run P w=.ok () w:=by
 cases op <;> simp [eqGuard]
theorem Ziy (l:List UInt8):ByteArray.toList ⟨l.toArray⟩=l:=by
 rw [ByteArray.toList_eq]
theorem Zwy {op : BinOp} {t : TypeId} {x y r : AVal} {vx vy : Value} (ox oy : Operand) (hx : VR I β x vx) (hy : VR I β y vy) (h : binA op x y = some r) :
    ∃ u, (do eqGuard op t ox oy vx vy; binOp op t vx vy : Sem Value).run P w = .ok u w /\ VR I β r u := by
  unfold binA at h
  split at h
  . rename_i k a k' b
    simp only [VR] at hx hy
    subst hx hy
    split at h
    . unfold ZH at h
      split at h
      . cases h
      . rename_i hb
        simp only at h
        injection h with h; subst h
        simp only [VR, exists_eq_right]; simp [Zkf, binOp, Op.shift, hb]
    . unfold ZH at h
      split at h
      . cases h
      . rename_i hb
        simp only at h
        injection h with h; subst h
        simp only [VR, exists_eq_right]; simp [Zkf, binOp, Op.shift, hb]
    . rename_i n1 n2
      split at h
      . rename_i e; subst e
        unfold arithA at h
        cases op <;> simp only at h <;> first
          | (cases h; done)
          | (exact absurd rfl n1)
          | (exact absurd rfl n2)
          | (injection h with h; subst h; simp only [VR, exists_eq_right]; simp [Zkf, binOp, Op.intArith, Op.intBits, Op.intCmp]; done)
          | (split at h
             . cases h
             . rename_i hb
               injection h with h; subst h
               simp only [VR, exists_eq_right]
               simp [Zkf, binOp, Op.intDiv, hb])
      . cases h
  . rename_i a b
    simp only [VR] at hx hy
    obtain ⟨rfl, ha⟩ := hx
    obtain ⟨rfl, hb⟩ := hy
    unfold ZK at h
    cases op <;> simp only at h <;> first
      | (cases h; done)
      | (injection h with h; subst h; simp only [VR, exists_eq_right]; simp [ZzB, binOp, Op.stringOp, Ziy]; done)
      | (split at h
         . rename_i hlen
           injection h with h; subst h
           refine ⟨.string ⟨(a ++ b).toArray⟩, ?_, by simp only [VR]; exact ⟨trivial, by simpa using hlen⟩⟩
           have hn : ¬ ((9223372036854775807 : Int) < ((a.length : Int) + (b.length : Int))) := by omega
           have hmx : IntKind.i64.max = 9223372036854775807 := by decide
           have hs : ∀ l : List UInt8, Xaa ⟨l.toArray⟩ = l.length := fun l => by simp [Xaa]
           have he : (⟨a.toArray⟩ : ByteArray) ++ ⟨b.toArray⟩ = ⟨(a ++ b).toArray⟩ := by
             apply ByteArray.ext
             simp [ByteArray.data_append]
           simp [ZzB, binOp, Op.stringOp, hs, hmx, hn, he]
           try omega
         . cases h)
  . cases h
end
end
section
open Go.RowKit
section
variable {P:Program} {base:Nat->Prop} {w0 w w':World} {I0 I I':Imm} {β β':Bmap} {σ σ':Za} {tm:Tms}
theorem ZAV {op:UnOp} {x r:AVal} {v:Value} (hx:VR I β x v) (h:unA op x=some r):∃ u,(Op.unary op v).run P w=.ok u w/\VR I β r u:=by
 unfold unA at h
 split at h
 ·simp only [VR] at hx;subst hx
  simp only [arithA] at h
  injection h with h;subst h
  simp only [VR,exists_eq_right];simp [Op.unary,Op.intArith]
 ·simp only [VR] at hx;subst hx
  simp only [arithA] at h
  injection h with h;subst h
  simp only [VR,exists_eq_right];simp [Op.unary,Op.intBits]
 ·simp only [VR] at hx;subst hx
  injection h with h;subst h
  simp only [VR,exists_eq_right];simp [Op.unary]
 ·cases h
theorem Zlj:∀ {xs:List AVal} {l:List UInt8},Zfm xs=some l->∃ ns:List Int,xs=ns.map (AVal.int .u8)/\l=ns.map fun n=>Xbi n.toNat
 | [],l,h=>by simp only [Zfm,Xa] at h;subst h;exact ⟨[],rfl,rfl⟩
 | x::xs,l,h=>by
  simp only [Zfm] at h
  split at h
  ·rename_i b hb
   split at h
   ·rename_i l' hl
    injection h with h;subst h
    obtain ⟨ns,rfl,rfl⟩:=Zlj hl
    unfold ZpC at hb
    split at hb
    ·rename_i n
     injection hb with hb;subst hb
     exact ⟨n::ns,rfl,rfl⟩
    ·cases hb
   ·cases h
  ·cases h
theorem ZAC (ns:List Int):∀ s:ByteArray,ns.foldl (fun r n=>r.push (Xbi n.toNat)) s=⟨s.data++(ns.map fun n=>Xbi n.toNat).toArray⟩:=by
 induction ns with
 | nil=>intro s;simp
 | cons n ns ih =>
  intro s
  rw [Xag,ih]
  simp [ByteArray.push]
theorem ZBd {ns:List Int} {us:List Value} (h:VRs I β (ns.map (AVal.int .u8)) us):us=ns.map (Value.int .u8):=by
 have hl:=Zan h
 apply Wa
 intro j
 cases hj:(ns.map (AVal.int .u8))[j]? with
 | none =>
  have h1:us[j]?=none:=by rw [Wd] at hj ⊢;omega
  have h2:(ns.map (Value.int .u8))[j]?=none:=by rw [Wd] at hj ⊢;simpa using hj
  rw [h1,h2]
 | some x =>
  obtain ⟨v,hv,hr⟩:=ZcF h hj
  simp only [XY,XB] at hj
  obtain ⟨n,hn,rfl⟩:=hj
  simp only [VR] at hr
  subst hr
  rw [hv]
  simp [hn]
theorem ZAu (ns:List Int):(ns.map (AVal.int .u8)).flatMap AVal.cells=ns.map (AVal.int .u8):=by
 induction ns with
 | nil=>rfl
 | cons n ns ih=>simp only [Xw,X5,ih];rfl
theorem ZzO {src dst e:TypeId} (hs:P.underlying src=some (.slice e)) (he:P.underlying e=some (.int .u8)) (hd:P.underlying dst=some .string) {xs:List AVal} {v:Value} (hr:Zhh I β w v xs) {l:List UInt8} (hl:Zfm xs=some l) :
  (convert src dst v).run P w=.ok (.string ⟨l.toArray⟩) w/\l.length<=9223372036854775807:=by
 obtain ⟨A,cap,rfl,h1,h2,h3,h4⟩:=hr
 obtain ⟨ns,rfl,rfl⟩:=Zlj hl
 refine ⟨?_,by simp at h1 ⊢;omega⟩
 rw [run_convert_bytes_string w src dst e A _ cap hs he hd]
 rcases A with _ | a
 ·have : ns=[]:=by
   rcases h4 with h4 | ⟨b,off,k,us,e',_⟩
   ·simpa using h4
   ·cases e'
  subst this
  simp [Conv.bytesToString];rfl
 ·have hload:(loadCells a (ns.map (AVal.int .u8)).length).run P w=.ok (ns.map (Value.int .u8)).toArray w:=by
   rcases h4 with h4 | ⟨b,off,k,us,e',hk,hlen,hv,hc⟩
   ·have : ns=[]:=by simpa using h4
    subst this
    simp [loadCells,loadCellsFrom]
   ·injection e' with e';subst e'
    rw [ZAu] at hv
    have:=ZBd hv
    subst this
    have key:=run_loadCells_list (P:=P) w ⟨b,off,none⟩ (ns.map (Value.int .u8)) (fun j u hu=>by rw [Addr.add_mid];exact hc j u hu)
    simpa using key
  rw [run_bytesToString w a _ cap ns hload,ZAC]
  simp [ByteArray.empty,ByteArray.emptyWithCapacity]
  rfl
theorem ZEG {src dst e:TypeId} (hs:P.underlying src=some .string) (hd:P.underlying dst=some (.slice e)) (he:P.underlying e=some (.int .u8)) (R:Rel base w0 I0 I β σ w) (hb:KLt base w0) {l:List UInt8} (hl:l.length<=9223372036854775807) :
  ∃ u w',(convert src dst (.string ⟨l.toArray⟩)).run P w=.ok u w'/\Post base w0 I0 I β (.lst false (l.map Zn)) σ u w':=by
 have hsz:Xaa ⟨l.toArray⟩=l.length:=by simp [Xaa]
 obtain ⟨cap,hcap⟩:∃ cap,cap=(Question.appendCap l.length 0 e).cut (w.tape w.drawn (.appendCap l.length 0 e)):=⟨_,rfl⟩
 have hge:l.length<=cap:=by rw [hcap];simp [Question.cut]
 have hle:cap<=9223372036854775807:=by
  rw [hcap];simp only [Question.cut]
  have:=Nat.mod_lt (w.tape w.drawn (.appendCap l.length 0 e)) (show 0 < 2 ^ 63 - l.length by omega)
  omega
 obtain ⟨us,hus⟩:∃ us:Array Value,us=(l.map fun b=>Value.int .u8 b.toNat).toArray++Array.replicate (cap - l.length) (.int .u8 0):=⟨_,rfl⟩
 have husz:us.size=cap:=by rw [hus];simp;omega
 obtain ⟨R',hI⟩:=(R.same (w':={ w with drawn:=w.drawn+1 }) rfl rfl rfl rfl).newImm hb us e (us.size,us.size+1)
 refine ⟨.slice (some ⟨w.heap.size,0,none⟩) l.length cap,{ w with drawn:=w.drawn+1,heap:=w.heap.push (.cells us e (us.size,us.size+1)) },?_,Post.mk hI (Bmap.le.refl β) R' ?_⟩
 ·have hmap:(l.toArray.map fun b=>Value.int .u8 (b.toNat:Int))=(l.map fun b=>Value.int .u8 (b.toNat:Int)).toArray:=by simp
  simp only [convert,Sem.run_bind,run_underlying hs,run_underlying hd,run_underlying he,Result.andThen_ok,Conv.stringToBytes,hsz,run_choose,Question.forced,Xu,if_false,ite_false,<-hcap,newRow,run_newObj,Sem.run_pure,markStringish,run_shape]
  rw [hmap,<-hus]
  simp [World.shape?,World.freeze]
  congr 1
  apply Array.ext
  ·simp
  ·intro i h1 h2
   simp only [Array.size_modify,Array.size_push] at h1
   by_cases hi:i=w.heap.size
   ·subst hi;simp [Array.getElem_modify]
   ·simp only [Array.getElem_modify,Ne.symm hi,if_false]
    rw [Array.getElem_push_lt (by omega),Array.getElem_push_lt (by omega)]
 ·simp only [VR]
  refine ⟨some ⟨w.heap.size,0,none⟩,cap,by simp,by simpa using hge,hle,by simp,?_,ZvH l⟩
  by_cases hne:l=[]
  ·exact XH (by simp [hne])
  ·refine XO ⟨w.heap.size,0,1,rfl,by omega,Zht (Zsf l) (by rw [Zx0];exact ZxA l) (fun j u hu=>?_)⟩
   simp only [Imm.add,XK,if_true]
   rw [hus]
   have hj:j < l.length:=by simpa using (Xf.1 hu).1
   rw [Array.getElem?_append_left (by simpa using hj)]
   simpa using hu
theorem Zkp {x:AVal} {v:Value} (hx:VR I β x v) {y n:Nat} (h:Zem x y=some n) (y':Nat) (hy:y<=y') (code:BoundsCode):(Instr.sliceBound v y' code).run P w=.ok n w/\n<=y:=by
 unfold Zem at h
 split at h
 ·rename_i i
  split at h
  ·rename_i hc
   injection h with h;subst h
   simp only [VR] at hx;subst hx
   refine ⟨?_,by omega⟩
   simp [Instr.sliceBound,asIntOf,hc.1,show i<=(y':Int) by omega]
  ·cases h
 ·cases h
theorem ZhI (isSlice:Bool) {len cap d:Nat} {lo hi mx:Option AVal} {vlo vhi vmx:Option Value} (hlo:∀ x,lo=some x->∃ v,vlo=some v/\VR I β x v) (hlo':lo=none->vlo=none)
  (hhi:∀ x,hi=some x->∃ v,vhi=some v/\VR I β x v) (hhi':hi=none->vhi=none) (hmx:∀ x,mx=some x->∃ v,vmx=some v/\VR I β x v) (hmx':mx=none->vmx=none) (hd:d<=cap) (hhm:hi=none->mx=none) {m h l:Nat}
  (h1:Zbj mx d d=some m) (h2:Zbj hi len m=some h) (h3:Zbj lo 0 h=some l) :
  (Instr.sliceBounds isSlice len cap vlo vhi vmx).run P w=.ok (l,h,if mx.isSome then m else cap) w/\l<=h/\(hi.isSome->h<=m)/\m<=d:=by
 have b3:∀ y',h<=y'->∀ code,(match vlo with | some v=>Instr.sliceBound v y' code | none=>pure 0:Sem Nat).run P w=.ok l w/\l<=h:=by
  intro y' hy code
  cases lo with
  | none=>rw [hlo' rfl];simp only [Zbj,Xa] at h3;subst h3;simp
  | some x =>
   obtain ⟨v,rfl,hv⟩:=hlo x rfl
   simpa using Zkp hv h3 y' hy code
 cases mx with
 | none =>
  rw [hmx' rfl]
  simp only [Zbj,Xa] at h1
  subst h1
  cases hi with
  | none =>
   rw [hhi' rfl]
   simp only [Zbj,Xa] at h2
   subst h2
   have:=b3 len (X0 _) .sliceB
   refine ⟨?_,this.2,by simp,X0 _⟩
   cases vlo <;> simp_all [Instr.sliceBounds]
  | some x =>
   obtain ⟨v,rfl,hv⟩:=hhi x rfl
   have hb:=fun code=>Zkp (P:=P) (w:=w) hv h2 cap hd code
   have hb2:=(hb .sliceAcap).2
   have:=b3 h (X0 _) .sliceB
   refine ⟨?_,this.2,fun _=>hb2,X0 _⟩
   have e1:=fun c=>(hb c).1
   cases vlo <;> simp_all [Instr.sliceBounds]
 | some y =>
  obtain ⟨vm,rfl,hvm⟩:=hmx y rfl
  have hm:=fun code=>Zkp (P:=P) (w:=w) hvm h1 cap hd code
  have hm2:=(hm .slice3B).2
  cases hi with
  | none=>cases hhm rfl
  | some x =>
   obtain ⟨v,rfl,hv⟩:=hhi x rfl
   have hb:=fun code=>Zkp (P:=P) (w:=w) hv h2 m (X0 _) code
   have hb2:=(hb .sliceAcap).2
   have:=b3 h (X0 _) .slice3C
   refine ⟨?_,this.2,fun _=>hb2,hm2⟩
   have e1:=fun c=>(hb c).1
   have e2:=fun c=>(hm c).1
   cases vlo <;> simp_all [Instr.sliceBounds]
end
end
section
open Go.RowKit
section
variable {P:Program} {base:Nat->Prop} {w0 w w':World} {I0 I I':Imm} {β β':Bmap} {σ σ':Za} {tm:Tms}
def OVR (I:Imm) (β:Bmap):Option AVal->Option Value->Prop
 | none,v=>v=none
 | some x,v=>∃ u,v=some u/\VR I β x u
theorem OVR.some' {x:Option AVal} {v:Option Value} (h:OVR I β x v):∀ y,x=some y->∃ u,v=some u/\VR I β y u:=by
 rintro y rfl;exact h
theorem OVR.none' {x:Option AVal} {v:Option Value} (h:OVR I β x v):x=none->v=none:=by
 rintro rfl;exact h
theorem ZyX {b:Bool} {xs:List AVal} {A:Option Addr} {cap:Nat} (hcap:xs.length<=cap) (hmax:cap<=9223372036854775807) (hA:xs=[]\/∃ b off k,A=some ⟨b,off,none⟩/\0 < k/\LR I β k xs b off) (ht:Zac xs=true) {k l h m:Nat} (hk:l=0\/kOk k xs=true) (hl:l<=h) (hh:h<=xs.length) (hm:h<=m) (hmc:m<=cap) (x:Bool) (hx:x=true->m=h) :
  VR I β (.lst x ((xs.take h).drop l)) (.slice (if m=l then A else A.map (·.add (l*k))) (h - l) (m - l)):=by
 simp only [VR]
 have hlen:((xs.take h).drop l).length=h - l:=by simp;omega
 refine ⟨_,_,by rw [hlen],by rw [hlen];omega,by omega,fun hx'=>by rw [hlen,hx hx'],?_,Zh7 (Zhu ht h) l⟩
 by_cases he:(xs.take h).drop l=[]
 ·exact XH he
 ·have hlt:l < h:=by
   rcases Nat.lt_or_ge l h with h1 | h1
   ·exact h1
   ·exact absurd (Wb (by rw [hlen];omega)) he
  rcases hA with rfl | ⟨b',off,k',rfl,hk',hL⟩
  ·simp at he
  ·have hml:¬m=l:=by omega
   refine XO ⟨b',off+l*k,k',?_,hk',?_⟩
   ·rw [if_neg hml];simp [Addr.add_mid]
   ·have hkk:l*k=l*k':=by
     rcases hk with rfl | hk
     ·simp
     ·have hne:xs≠[]:=by rintro rfl;simp at he
      rw [Zoe hk (Zy2 hL) hne]
    rw [hkk]
    exact ZrA (ZtM hL)
theorem ZFV {t e : TypeId} {k : Nat} (ht : P.underlying t = some (.slice e)) (hk : ZbZ P e = some k) (R : Rel base w0 I0 I β σ w) {x r : AVal} {v : Value} (hx : VR I β x v) {lo hi mx : Option AVal} {vlo vhi vmx : Option Value} (hlo : OVR I β lo vlo) (hhi : OVR I β hi vhi) (hmx : OVR I β mx vmx) (hhm : hi = none -> mx = none) {c : Cls}
    (h : ZcD σ k x lo hi mx = some (r, σ', c)) : ∃ u, (Instr.sliceAt t v vlo vhi vmx).run P w = .ok u w /\ Post base w0 I0 I β r σ' u w := by
  obtain ⟨ie, hie, hke⟩ : ∃ ie, P.info? e = some ie /\ ie.size = k := by
    unfold ZbZ at hk
    cases hi : P.info? e with
    | none => simp [hi] at hk
    | some i => exact ⟨i, rfl, by simpa [hi] using hk⟩
  have run : ∀ {A : Option Addr} {len cap l h m : Nat}, (Instr.sliceBounds true len cap vlo vhi vmx).run P w = .ok (l, h, m) w ->
      (Instr.sliceAt t (.slice A len cap) vlo vhi vmx).run P w = .ok (.slice (if m = l then A else A.map (·.add (l * k))) (h - l) (m - l)) w := by
    intro A len cap l h m hr
    simp [Instr.sliceAt, Instr.slice, run_underlying ht, hr, sizeOf, typeInfo, hie, hke]
  unfold ZcD at h
  split at h
  . rename_i b xs
    simp only [VR] at hx
    obtain ⟨A, cap, rfl, h2, h3, h4, h5, h6⟩ := hx
    split at h
    . cases h
    rename_i m hm
    split at h
    . cases h
    rename_i h' hh
    split at h
    . cases h
    rename_i l hl
    split at h
    case isFalse => cases h
    rename_i hk0
    have hk0' : l = 0 \/ kOk k xs = true := by simpa using hk0
    obtain ⟨hr, hlh, hhm', hmd⟩ := ZhI (P := P) (w := w) true hlo.some' hlo.none' hhi.some' hhi.none' hmx.some' hmx.none' h2 hhm hm hh hl
    have hhle : h' <= xs.length := by
      cases hi with
      | none => simp only [Zbj, Xa] at hh; omega
      | some y => have := hhm' rfl; omega
    have hhm2 : h' <= m := by
      cases hi with
      | none => rw [hhm rfl] at hm; simp only [Zbj, Xa] at hm hh; omega
      | some y => exact hhm' rfl
    split at h
    . rename_i hmx'
      simp only [Xa, Xb] at h
      obtain ⟨rfl, rfl, rfl⟩ := h
      rw [if_pos hmx'] at hr
      exact ⟨_, run hr, Post.here R (ZyX (b := b) h2 h3 h5 h6 hk0' hlh hhle hhm2 (by omega) _ (fun e => by simpa using (by simpa using e : h' = m).symm))⟩
    . rename_i hmx'
      simp only [Xa, Xb] at h
      obtain ⟨rfl, rfl, rfl⟩ := h
      rw [if_neg hmx'] at hr
      refine ⟨_, run hr, Post.here R (ZyX (b := b) h2 h3 h5 h6 hk0' hlh hhle (by omega) (X0 _) _ (fun e => ?_))⟩
      simp only [Xt, beq_iff_eq] at e
      rw [h4 e.1, e.2]
  . rename_i t' g p n
    split at h
    . cases h
    rename_i els hels
    have hx0 := hx
    simp only [VR] at hx
    obtain ⟨bi, f1, f2, f3, f4⟩ := hx
    obtain ⟨A, hv⟩ : ∃ A, v = .slice A n (bi.cap - p) := by
      rcases f4 with ⟨b, _, rfl⟩ | ⟨_, hc, A, rfl⟩ | ⟨_, hc, hn, A, rfl⟩
      . exact ⟨_, rfl⟩
      . exact ⟨A, by rw [hc, show n = 0 by omega, Nat.zero_sub]⟩
      . exact ⟨A, by rw [hn, <- hc, Xas]⟩
    have row : ∀ {k' : Nat} {xs : List AVal} {h' l : Nat}, bi.k = k -> xs.length <= bi.cap -> p + n <= xs.length -> vmx = none -> mx = none -> Zbj hi n (xs.length - p) = some h' -> Zbj lo 0 h' = some l ->
        ∃ u, (Instr.sliceAt t v vlo vhi vmx).run P w = .ok u w /\ VR I β (.sl t' g (p + l) (h' - l)) u := by
      intro k' xs h' l hbk hxc hpn hv1 hv2 hh hl
      subst hv1 hv2
      obtain ⟨hr, hlh, hhm', hmd⟩ := ZhI (P := P) (w := w) true (len := n) (cap := bi.cap - p) (d := xs.length - p) (mx := none) (vmx := none) hlo.some' hlo.none' hhi.some' hhi.none' (by simp) (by simp) (by omega) (fun _ => rfl) (m := xs.length - p) rfl hh hl
      have hhn : h' <= bi.cap - p := by
        cases hi with
        | none => simp only [Zbj, Xa] at hh; omega
        | some y => have := hhm' rfl; omega
      rw [hv]
      simp only [Xal, Xu, if_false] at hr
      refine ⟨_, run hr, ?_⟩
      simp only [VR]
      refine ⟨bi, f1, by omega, f3, ?_⟩
      rcases f4 with ⟨b, hb, hv'⟩ | ⟨hb, hc, A', hv'⟩ | ⟨hp, hc, hn, A', hv'⟩
      . rw [hv] at hv'; injection hv' with hv'; subst hv'
        by_cases hcl : bi.cap - p = l
        . rw [if_pos hcl]
          by_cases hz : p + l = 0
          . have hp0 : p = 0 := by omega
            have hl0 : l = 0 := by omega
            subst hp0 hl0
            exact XH ⟨b, hb, by simp⟩
          . exact XO (XO ⟨by omega, by omega, by omega, _, by rw [show h' - l = 0 by omega, show bi.cap - p - l = 0 by omega]⟩)
        . rw [if_neg hcl]
          refine XH ⟨b, hb, ?_⟩
          simp only [X4, Addr.add_mid, <- hbk, <- Wz]
          rw [Nat.sub_sub]
      . refine XO (XH ⟨hb, hc, ?_⟩)
        rw [hc]
        exact ⟨A, by simp [show h' = 0 by omega, show l = 0 by omega]⟩
      . refine XO (XO ⟨by omega, by omega, by omega, ?_⟩)
        exact ⟨_, by rw [show h' - l = 0 by omega, show bi.cap - p - l = 0 by omega]⟩
    split at h
    . rename_i m0
      split at h
      . rename_i q1 hq1
        split at h
        . rename_i q2 hq2
          split at h
          . rename_i q3 hq3
            simp only [Xa, Xb] at h
            obtain ⟨rfl, rfl, rfl⟩ := h
            have hq1' : q1 = 0 := by
              unfold Zem at hq1; split at hq1
              . split at hq1
                . injection hq1 with hq1; omega
                . cases hq1
              . cases hq1
            subst hq1'
            cases hi with
            | none => cases hhm rfl
            | some y =>
              obtain ⟨hr, hlh, hhm', hmd⟩ := ZhI (P := P) (w := w) true (len := n) (cap := bi.cap - p) (d := 0) hlo.some' hlo.none' hhi.some' hhi.none' hmx.some' hmx.none' (Nat.zero_le _) hhm (m := 0) (h := q2) (l := q3) hq1 hq2 (by
                have : q2 = 0 := by
                  unfold Zbj Zem at hq2; simp only at hq2; split at hq2
                  . split at hq2
                    . injection hq2 with hq2; omega
                    . cases hq2
                  . cases hq2
                rw [this]; exact hq3)
              have hq2' : q2 <= 0 := hhm' rfl
              have e2 : q2 = 0 := by omega
              have e3 : q3 = 0 := by omega
              subst e2 e3
              rw [hv]
              refine ⟨_, run hr, Post.here R ?_⟩
              simp only [VR]
              exact ⟨A, 0, by simp, by simp, by simp, by simp, XH trivial, by simp [Zac]⟩
          . cases h
        . cases h
      . split at h
        . rename_i q1 hq1
          split at h
          . rename_i q2 hq2
            split at h
            . rename_i q3 hq3
              simp only [Xa, Xb] at h
              obtain ⟨rfl, rfl, rfl⟩ := h
              cases hi with
              | none => cases hhm rfl
              | some y =>
                obtain ⟨hr, hlh, hhm', hmd⟩ := ZhI (P := P) (w := w) true (len := n) (cap := bi.cap - p) (d := n) hlo.some' hlo.none' hhi.some' hhi.none' hmx.some' hmx.none' (by omega) hhm (m := q1) (h := q2) (l := q3) hq1 hq2 hq3
                rw [hv]
                refine ⟨_, run hr, Post.here R ?_⟩
                simp only [VR]
                exact ⟨rfl, rfl⟩
            . cases h
          . cases h
        . cases h
    . have hmx0 : vmx = none := hmx
      split at h
      . rename_i g' k' xs hs
        split at h
        case isFalse => cases h
        rename_i hkk
        split at h
        . cases h
        rename_i h' hh
        split at h
        . cases h
        rename_i l hl
        simp only [Xa, Xb] at h
        obtain ⟨rfl, rfl, rfl⟩ := h
        simp only [Zo, hs] at hels
        split at hels
        case isFalse => cases hels
        rename_i hc
        obtain ⟨bi', e1, e2, _, _, e5, _⟩ := R.blk _ _ hs
        rw [hc.1, f1] at e1
        injection e1 with e1; subst e1
        obtain ⟨u, h1, h2⟩ := row (k' := k') (by rw [e2]; exact hkk) e5 hc.2 hmx0 rfl hh hl
        exact ⟨u, h1, Post.here R h2⟩
      . rename_i g' k' xs hs
        split at h
        case isFalse => cases h
        rename_i hkk
        split at h
        . cases h
        rename_i h' hh
        split at h
        . cases h
        rename_i l hl
        simp only [Xa, Xb] at h
        obtain ⟨rfl, rfl, rfl⟩ := h
        simp only [Zo, hs] at hels
        split at hels
        case isFalse => cases hels
        rename_i hc
        obtain ⟨bi', e1, e2, _, _, e5, _⟩ := R.blk _ _ hs
        rw [hc.1, f1] at e1
        injection e1 with e1; subst e1
        obtain ⟨u, h1, h2⟩ := row (k' := k') (by rw [e2]; exact hkk) e5 hc.2 hmx0 rfl hh hl
        exact ⟨u, h1, Post.here R h2⟩
      . cases h
  . cases h
theorem ZEI {t:TypeId} (ht:P.underlying t=some .string) {s:List UInt8} (hs:s.length<=9223372036854775807) {lo hi:Option AVal} {vlo vhi:Option Value} (hlo:OVR I β lo vlo) (hhi:OVR I β hi vhi) {h l:Nat} (h1:Zbj hi s.length s.length=some h) (h2:Zbj lo 0 h=some l) :
  (Instr.sliceAt t (.string ⟨s.toArray⟩) vlo vhi none).run P w=.ok (.string ⟨((s.take h).drop l).toArray⟩) w:=by
 have hsz:Xaa ⟨s.toArray⟩=s.length:=by simp [Xaa]
 obtain ⟨hr,hlh,_,_⟩:=ZhI (P:=P) (w:=w) false (len:=s.length) (cap:=s.length) (d:=s.length) (mx:=none) (vmx:=none) hlo.some' hlo.none' hhi.some' hhi.none' (by simp) (by simp) (X0 _) (fun _=>rfl) (m:=s.length) rfl h1 h2
 simp only [Xal,Xu,if_false] at hr
 simp [Instr.sliceAt,Instr.slice,run_underlying ht,hsz,hr]
 apply ByteArray.ext
 apply Xbz
 simp [ByteArray.data_extract,XaW]
theorem ZDM {s:TypeId} {fields:Array Field} {i:Nat} {f:Field} {k:Nat} (hs:P.underlying s=some (.struct fields)) (hf:fields[i]?=some f) (hk:ZbZ P f.type=some k) (hk0:k≠0) {x r:AVal} {v:Value} (hx:VR I β x v) (h:faddrA f.offset x=some r) :
  ∃ u,(Instr.fieldAt s v i).run P w=.ok u w/\VR I β r u:=by
 obtain ⟨ie,hie,hke⟩:∃ ie,P.info? f.type=some ie/\ie.size=k:=by
  unfold ZbZ at hk
  cases hi:P.info? f.type with
  | none=>simp [hi] at hk
  | some i=>exact ⟨i,rfl,by simpa [hi] using hk⟩
 have run:∀ b o,(Instr.fieldAt s (.pointer (some ⟨b,o,none⟩)) i).run P w=.ok (.pointer (some ⟨b,o+f.offset,none⟩)) w:=by
  intro b o
  simp [Instr.fieldAt,run_underlying hs,hf,Instr.sureAddr,fieldPlace,sizeOf,typeInfo,hie,hke,hk0,Addr.add_mid]
 unfold faddrA at h
 split at h
 ·injection h with h;subst h
  simp only [VR] at hx ⊢
  obtain ⟨b,k',c,h1,rfl⟩:=hx
  exact ⟨_,run b _,b,k',c,h1,rfl⟩
 ·injection h with h;subst h
  simp only [VR] at hx ⊢
  obtain ⟨b,k',c,h1,rfl⟩:=hx
  exact ⟨_,run b _,b,k',c,h1,by rw [W2]⟩
 ·injection h with h;subst h
  simp only [VR] at hx ⊢
  obtain ⟨b,off,rfl,h1,h2⟩:=hx
  exact ⟨_,run b _,b,off,by rw [W2],h1,h2⟩
 ·cases h
theorem Zlr {t:TypeId} {k:Option Nat} (hk:Zeh P t=some k) {cs:List AVal} {us:Array Value} (hv:VRs I β cs us.toList) {o:Nat} {x:AVal} (hp:partA k cs o=some x):∃ u,(part t us o).run P w=.ok u w/\VR I β x u:=by
 unfold Zeh at hk
 have hl:=Zan hv
 have many:∀ (d:TypeDesc) (i:TypeInfo),P.underlying t=some d->d.isRow=true->P.info? t=some i->k=some i.size->∃ u,(part t us o).run P w=.ok u w/\VR I β x u:=by
  intro d i hu hd hi e
  subst e
  simp only [partA] at hp
  split at hp
  ·rename_i hle
   injection hp with hp
   subst hp
   have hagg:(isAgg t).run P w=.ok true w:=by
    unfold isAgg
    rw [Sem.run_bind,run_underlying hu w]
    cases d <;> simp_all
   refine ⟨.agg (us.extract o (o+i.size)),by simp [part,hagg,sizeOf,typeInfo,hi],?_⟩
   simp only [VR]
   refine ⟨_,rfl,?_⟩
   have:=Zeu (ZdY hv o) i.size
   have e:(us.extract o (o+i.size)).toList=(us.toList.drop o).take i.size:=by
    rw [Array.toList_extract,List.extract_eq_take_drop,Nat.add_sub_cancel_left]
   rw [e];exact this
  ·cases hp
 have one:∀ (d:TypeDesc),P.underlying t=some d->d.isRow=false->k=none->∃ u,(part t us o).run P w=.ok u w/\VR I β x u:=by
  intro d hu hd e
  subst e
  simp only [partA] at hp
  obtain ⟨u,h1,h2⟩:=ZcF hv hp
  refine ⟨u,?_,h2⟩
  have hagg:(isAgg t).run P w=.ok false w:=by
   unfold isAgg
   rw [Sem.run_bind,run_underlying hu w]
   cases d <;> simp_all [TypeDesc.isRow]
  have h1':us[o]?=some u:=by simpa using h1
  simp [part,hagg,h1']
 split at hk
 ·rename_i hu hi;injection hk with hk;exact many _ _ hu rfl hi hk.symm
 ·rename_i hu hi;injection hk with hk;exact many _ _ hu rfl hi hk.symm
 ·rename_i d i hu hi hn1 hn2
  split at hk
  ·injection hk with hk
   refine one d hn1 ?_ hk.symm
   cases d <;> simp_all [TypeDesc.isRow]
  ·cases hk
 ·cases hk
theorem ZBs {t e:TypeId} {k:Nat} (ht:P.underlying t=some (.slice e)) (hk:ZbZ P e=some k) (R:Rel base w0 I0 I β σ w) {x i r:AVal} {v vi:Value} (hx:VR I β x v) (hi:VR I β i vi) {c:Cls} (h:ZaG σ k x i=some (r,σ',c)) :
  ∃ u,(Instr.indexAt t v vi).run P w=.ok u w/\VR I β r u/\σ'=σ:=by
 obtain ⟨ie,hie,hke⟩:∃ ie,P.info? e=some ie/\ie.size=k:=by
  unfold ZbZ at hk
  cases hi:P.info? e with
  | none=>simp [hi] at hk
  | some i=>exact ⟨i,rfl,by simpa [hi] using hk⟩
 have run:∀ {b o len cap:Nat} {kk:IntKind} {i:Int},0<=i->i.toNat < len->(Instr.indexAt t (.slice (some ⟨b,o,none⟩) len cap) (.int kk i)).run P w=.ok (.pointer (some ⟨b,o+i.toNat*k,none⟩)) w:=by
  intro b o len cap kk i h0 h1
  simp [Instr.indexAt,asIntOf,run_underlying ht,h0,show i < (len:Int) by omega,sizeOf,typeInfo,hie,hke,Addr.add_mid]
 unfold ZaG at h
 split at h
 case h_2=>cases h
 rename_i kk i
 simp only [VR] at hi
 subst hi
 split at h
 case isFalse=>cases h
 rename_i h0
 split at h
 ·rename_i b xs
  split at h
  ·rename_i y hy
   split at h
   ·rename_i hyk
    simp only [Xa,Xb] at h
    obtain ⟨rfl,rfl,rfl⟩:=h
    have hlt:=(Xf.1 hy).1
    simp only [VR] at hx
    obtain ⟨A,cap,rfl,h2,h3,h4,h5,h6⟩:=hx
    rcases h5 with rfl | ⟨b',off,k',rfl,hk',hL⟩
    ·simp at hy
    obtain ⟨q1,q2⟩:=ZiT hL hy
    have : k'=k:=by omega
    subst this
    refine ⟨_,run h0 hlt,?_,rfl⟩
    simp only [VR]
    exact ⟨b',_,rfl,q2,ZcS.1 h6 y (Xx hy)⟩
   ·cases h
  ·cases h
 ·rename_i t' g p n
  split at h
  case isFalse=>cases h
  rename_i hlt
  have fin:∀ bi,β t' g=some bi->bi.k=k->r=.eref t' g (p+i.toNat) 0->∃ u,(Instr.indexAt t v (.int kk i)).run P w=.ok u w/\VR I β r u:=by
   intro bi hb hbk hr
   subst hr
   simp only [VR] at hx
   obtain ⟨bi',f1,f2,f3,f4⟩:=hx
   rw [hb] at f1;injection f1 with f1;subst f1
   rcases f4 with ⟨b,hbb,rfl⟩ | ⟨_,hc,_⟩ | ⟨_,_,hn,_⟩
   ·refine ⟨_,run h0 hlt,?_⟩
    simp only [VR]
    refine ⟨b,bi.k,bi.cap,?_,by rw [hbk,Wm,Wz]⟩
    rw [hb]
    cases bi
    simp_all
   ·omega
   ·omega
  split at h
  ·rename_i g' k' xs hs
   split at h
   ·rename_i hc
    simp only [Xa,Xb] at h
    obtain ⟨hr,rfl,rfl⟩:=h
    obtain ⟨bi,e1,e2,_⟩:=R.blk _ _ hs
    rw [hc.1] at e1
    obtain ⟨u,hu1,hu2⟩:=fin bi e1 (by rw [e2];exact hc.2) hr.symm
    exact ⟨u,hu1,hu2,rfl⟩
   ·cases h
  ·rename_i g' k' xs hs
   split at h
   ·rename_i hc
    simp only [Xa,Xb] at h
    obtain ⟨hr,rfl,rfl⟩:=h
    obtain ⟨bi,e1,e2,_⟩:=R.blk _ _ hs
    rw [hc.1] at e1
    obtain ⟨u,hu1,hu2⟩:=fin bi e1 (by rw [e2];exact hc.2) hr.symm
    exact ⟨u,hu1,hu2,rfl⟩
   ·cases h
  ·rename_i g' k' xs hs
   split at h
   ·rename_i hc
    simp only [Xa,Xb] at h
    obtain ⟨hr,rfl,rfl⟩:=h
    obtain ⟨bi,e1,e2,_⟩:=R.blk _ _ hs
    rw [hc.1] at e1
    obtain ⟨u,hu1,hu2⟩:=fin bi e1 (by rw [e2];exact hc.2) hr.symm
    exact ⟨u,hu1,hu2,rfl⟩
   ·cases h
  ·cases h
 ·cases h
theorem ZAF {t e:TypeId} {n k:Nat} (ht:P.underlying t=some (.array n e)) (hk:ZbZ P e=some k) {x r:AVal} {v:Value} (hx:VR I β x v) {kk:IntKind} {i:Int} (h0:0<=i) (h1:i < n) (h:faddrA (i.toNat*k) x=some r) :
  ∃ u,(Instr.indexAt t v (.int kk i)).run P w=.ok u w/\VR I β r u:=by
 obtain ⟨ie,hie,hke⟩:∃ ie,P.info? e=some ie/\ie.size=k:=by
  unfold ZbZ at hk
  cases hi:P.info? e with
  | none=>simp [hi] at hk
  | some i=>exact ⟨i,rfl,by simpa [hi] using hk⟩
 have run:∀ b o,(Instr.indexAt t (.pointer (some ⟨b,o,none⟩)) (.int kk i)).run P w=.ok (.pointer (some ⟨b,o+i.toNat*k,none⟩)) w:=by
  intro b o
  simp [Instr.indexAt,asIntOf,run_underlying ht,Instr.sureAddr,h0,h1,sizeOf,typeInfo,hie,hke,Addr.add_mid]
 unfold faddrA at h
 split at h
 ·injection h with h;subst h
  simp only [VR] at hx ⊢
  obtain ⟨b,k',c,h1,rfl⟩:=hx
  exact ⟨_,run b _,b,k',c,h1,rfl⟩
 ·injection h with h;subst h
  simp only [VR] at hx ⊢
  obtain ⟨b,k',c,h1,rfl⟩:=hx
  exact ⟨_,run b _,b,k',c,h1,by rw [W2]⟩
 ·injection h with h;subst h
  simp only [VR] at hx ⊢
  obtain ⟨b,off,rfl,h1,h2⟩:=hx
  exact ⟨_,run b _,b,off,by rw [W2],h1,h2⟩
 ·cases h
end
end
section
open Go.RowKit
section
variable {P:Program} {base:Nat->Prop} {w0 w w':World} {I0 I I':Imm} {β β':Bmap} {σ σ':Za} {tm:Tms}
theorem ZzJ (off:Nat):∀ (l:List Value) (j0:Nat) (cells:Array Value),off+j0+l.length<=cells.size ->
  ((l.zipIdx j0).foldl (fun cs p=>cs.setIfInBounds (off+p.2) p.1) cells).toList=cells.toList.take (off+j0)++l++cells.toList.drop (off+j0+l.length)
 | [],j0,cells,_=>by simp
 | v::l,j0,cells,h=>by
  simp only [Xq] at h
  rw [List.zipIdx_cons,Xag,ZzJ off l (j0+1) _ (by simp;omega)]
  apply Wa
  intro j
  simp only [Array.toList_setIfInBounds,WT,X8,WK,XE,X9,Xq,Xaf,X7,Xv,List.getElem?_cons]
  have e1:min (off+(j0+1)) cells.size=off+j0+1:=by omega
  have e2:min (off+j0) cells.size=off+j0:=by omega
  rw [e1,e2]
  by_cases c1:j < off+j0
  ·simp only [show j < off+(j0+1) by omega,show j < off+j0+1 by omega,show j < off+j0+1+l.length by omega,show j < off+j0+(l.length+1) by omega,c1,if_true,show off+j0≠j by omega,if_false]
  ·by_cases c2:j=off+j0
   ·subst c2
    simp only [show off+j0 < off+(j0+1) by omega,show off+j0 < off+j0+1 by omega,show off+j0 < off+j0+1+l.length by omega,show off+j0 < off+j0+(l.length+1) by omega,if_true,Xa2,if_false,Xas,show off+j0 < cells.size by omega]
   ·by_cases c3:j < off+j0+1+l.length
    ·simp only [c3,show j < off+j0+(l.length+1) by omega,show ¬j < off+j0+1 by omega,c1,if_true,if_false,show ¬j - (off+j0)=0 by omega]
     first | done | (congr 1;omega) | rfl
    ·simp only [c3,show ¬j < off+j0+(l.length+1) by omega,if_false]
     rw [show off+(j0+1)+l.length+(j - (off+j0+1+l.length))=j by omega,show off+j0+(l.length+1)+(j - (off+j0+(l.length+1)))=j by omega,if_neg (by omega)]
theorem Zwd (off:Nat) (v:Value) (cells:Array Value) (h:off+v.cells.size<=cells.size) :
  (v.cells.zipIdx.foldl (fun cs (c,j)=>cs.setIfInBounds (off+j) c) cells).toList=cells.toList.take off++v.cells.toList++cells.toList.drop (off+v.cells.toList.length):=by
 have:=ZzJ off v.cells.toList 0 cells (by simpa using h)
 rw [<-Array.foldl_toList]
 simpa using this
def ZeM (I:Imm) (β:Bmap) (place:Nat->Option (Nat×Nat)):List (Nat×Nat×AVal)->List (Nat×Value)->Prop
 | [],vs=>vs=[]
 | (off,k,x)::r,vs=>∃ i v vs',vs=(i,v)::vs'/\place i=some (off,k)/\VR I β x v/\ZeM I β place r vs'
theorem ZuT (place:Nat->Option (Nat×Nat)):∀ {ps:List (Nat×Nat×AVal)} {vs:List (Nat×Value)} {zs cs:List AVal} {zc:Array Value},ZeM I β place ps vs->VRs I β zs zc.toList->Zae zs ps=some cs ->
  ∃ cells,Instr.fill place zc vs=some cells/\VRs I β cs cells.toList
 | [],vs,zs,cs,zc,hp,hz,h=>by
  simp only [ZeM] at hp;subst hp
  simp only [Zae,Xa] at h;subst h
  exact ⟨zc,rfl,hz⟩
 | (off,k,x)::ps,vs,zs,cs,zc,hp,hz,h=>by
  simp only [ZeM] at hp
  obtain ⟨i,v,vs',rfl,h1,h2,h3⟩:=hp
  simp only [Zae] at h
  split at h
  ·rename_i hc
   have hnt:=ZFN hc.2.2
   have hl:=Zgl hnt h2
   have hzl:=Zan hz
   simp only [X7] at hzl
   have hle:off+v.cells.size<=zc.size:=by omega
   have hset:VRs I β (setAt zs off x.cells) (v.cells.zipIdx.foldl (fun cs (c,j)=>cs.setIfInBounds (off+j) c) zc).toList:=by
    rw [Zwd off v zc hle]
    exact ZhH hz (ZdR hnt h2) off
   obtain ⟨cells,g1,g2⟩:=ZuT place h3 hset h
   refine ⟨cells,?_,g2⟩
   simp only [Instr.fill,h1]
   rw [if_neg (by simp;omega)]
   exact g1
  ·cases h
theorem Zvz:∀ (fs:List Field),fs.all (fun f=>(P.info? f.type).isSome)=true->∃ places,fs.mapM (fun f=>(P.info? f.type).map fun i=>(f.offset,i.size))=some places/\∀ (j:Nat) (f:Field) (k:Nat),fs[j]?=some f->ZbZ P f.type=some k->places[j]?=some (f.offset,k)
 | [],_=>⟨[],by simp,by simp⟩
 | f::fs,h=>by
  simp only [Xi,Xt] at h
  obtain ⟨places,h1,h2⟩:=Zvz fs h.2
  obtain ⟨i,hi⟩:=Option.isSome_iff_exists.1 h.1
  refine ⟨(f.offset,i.size)::places,by simp [List.mapM_cons,hi,h1],?_⟩
  intro j g k hj hk
  cases j with
  | zero =>
   simp only [XN,Xa] at hj;subst hj
   simp only [ZbZ,hi,X4,Xa] at hk;subst hk
   rfl
  | succ j=>simp only [XC] at hj ⊢;exact h2 j g k hj hk
theorem Zwt {a:Act} (T:TR I β tm a.tmps) {fields:Array Field} {place:Nat->Option (Nat×Nat)} (hpl:∀ j f k,fields[j]?=some f->ZbZ P f.type=some k->place j=some (f.offset,k)) :
  ∀ {parts:List (Nat×Operand)} {ps:List (Nat×Nat×Opd)},ZiE P fields parts=some ps->ZeM I β place (ps.map fun p=>(p.1,p.2.1,p.2.2.ev tm)) (parts.map fun (i,x)=>(i,a.eval x))
 | [],ps,h=>by simp only [ZiE,Xa] at h;subst h;simp [ZeM]
 | (i,x)::r,ps,h=>by
  simp only [ZiE] at h
  split at h
  ·rename_i f hf
   split at h
   ·rename_i k y ps' hk hy hps
    injection h with h;subst h
    simp only [Xw,ZeM]
    exact ⟨i,a.eval x,_,rfl,hpl i f k hf hk,Zah T hy,Zwt T hpl hps⟩
   ·cases h
  ·cases h
theorem Zzt {a:Act} (T:TR I β tm a.tmps) {k:Nat} :
  ∀ {parts:List (Nat×Operand)} {ps:List (Nat×Nat×Opd)},ZiD k parts=some ps->ZeM I β (fun i=>some (i*k,k)) (ps.map fun p=>(p.1,p.2.1,p.2.2.ev tm)) (parts.map fun (i,x)=>(i,a.eval x))
 | [],ps,h=>by simp only [ZiD,Xa] at h;subst h;simp [ZeM]
 | (i,x)::r,ps,h=>by
  simp only [ZiD] at h
  split at h
  ·rename_i y ps' hy hps
   injection h with h;subst h
   simp only [Xw,ZeM]
   exact ⟨i,a.eval x,_,rfl,rfl,Zah T hy,Zzt T hps⟩
  ·cases h
theorem ZEE {a:Act} (T:TR I β tm a.tmps) {t:TypeId} {parts:Array (Nat×Operand)} {an:Ann} {own:Nat} {zs:List AVal} {ps:List (Nat×Nat×Opd)} (hc:Z9 P an own (.build t parts)=some (.build zs ps)) {cs:List AVal} (h:Zae zs (ps.map fun p=>(p.1,p.2.1,p.2.2.ev tm))=some cs) :
  ∃ u,(Instr.build t (parts.map fun (i,x)=>(i,a.eval x))).run P w=.ok u w/\VR I β (.agg cs) u:=by
 simp only [Z9] at hc
 have zero:∀ z,ZdK P t=some z->∃ i v,P.info? t=some i/\i.zero=some v/\VRs I β z.cells v.cells.toList:=by
  intro z hz
  unfold ZdK at hz
  split at hz
  ·rename_i i hi
   split at hz
   ·rename_i v hv
    exact ⟨i,v,hi,hv,ZdR (Ze6 hz) (Ze0 hz).1⟩
   ·cases hz
  ·cases hz
 split at hc
 ·rename_i fields z hu hz
  split at hc
  ·rename_i hall
   simp only [XB] at hc
   obtain ⟨ps',hps,he⟩:=hc
   injection he with e1 e2;subst e1 e2
   obtain ⟨i,v,hi,hv,hzv⟩:=zero z hz
   obtain ⟨places,hp1,hp2⟩:=Zvz (P:=P) fields.toList hall
   obtain ⟨cells,g1,g2⟩:=ZuT (places.toArray[·]?) (Zwt (a:=a) T (place:=(places.toArray[·]?)) (fun j f k hj hk=>by simpa using hp2 j f k (by simpa using hj) hk) hps) hzv h
   refine ⟨.agg cells,run_build w t _ cells ?_,by simp only [VR];exact ⟨cells,rfl,g2⟩⟩
   simp only [Program.built,hi,hu,hv,hp1]
   simpa using g1
  ·cases hc
 ·rename_i n e z hu hz
  split at hc
  ·rename_i k hk
   simp only [XB] at hc
   obtain ⟨ps',hps,he⟩:=hc
   injection he with e1 e2;subst e1 e2
   obtain ⟨i,v,hi,hv,hzv⟩:=zero z hz
   obtain ⟨ie,hie,hke⟩:∃ ie,P.info? e=some ie/\ie.size=k:=by
    unfold ZbZ at hk
    cases hi:P.info? e with
    | none=>simp [hi] at hk
    | some i=>exact ⟨i,rfl,by simpa [hi] using hk⟩
   obtain ⟨cells,g1,g2⟩:=ZuT (fun i=>some (i*k,k)) (Zzt (a:=a) T hps) hzv h
   refine ⟨.agg cells,run_build w t _ cells ?_,by simp only [VR];exact ⟨cells,rfl,g2⟩⟩
   simp only [Program.built,hi,hu,hv,hie,hke]
   simpa using g1
  ·cases hc
 ·cases hc
theorem ZyR {z:AVal} {k:Nat} (hz:z.cells.length=k) (hk:0 < k):∀ (n j:Nat),j < n*k->((Xr n z).flatMap AVal.cells)[j]?=z.cells[j % k]?
 | 0,j,h=>by simp at h
 | n+1,j,h=>by
  rw [List.replicate_succ,X5,WT]
  split
  ·rename_i hj;rw [Nat.mod_eq_of_lt (by omega)]
  ·rename_i hj
   rw [Wz] at h
   rw [ZyR hz hk n (j - z.cells.length) (by omega),hz]
   congr 1
   rw [<-Nat.mod_eq_sub_mod (by omega)]
theorem Zjl {z:AVal} {v:Value} {k:Nat} (hnt:z≠.top) (hz:VR I β z v) (hl:z.cells.length=k) (hk:0 < k) (n:Nat):VRs I β ((Xr n z).flatMap AVal.cells) ((Array.range (n*k)).map (v.cells[· % v.cells.size]!)).toList:=by
 have hv:=ZdR hnt hz
 have hvl:=Zgl hnt hz
 have hfl:((Xr n z).flatMap AVal.cells).length=n*k:=by rw [ZeU (k:=k) (by intro x hx;rw [List.eq_of_mem_replicate hx];exact hl)];simp
 refine ZdF (by rw [hfl];simp) (fun j x u hx hu=>?_)
 have hj:j < n*k:=by have:=(Xf.1 hx).1;omega
 rw [ZyR hl hk n j hj] at hx
 obtain ⟨u',h1,h2⟩:=ZcF hv hx
 have hjk:j % k < v.cells.size:=by rw [hvl,hl];exact Nat.mod_lt _ hk
 simp only [Array.toList_map,Array.toList_range,XY,List.getElem?_range hj,X4,Xa] at hu
 rw [hvl,hl] at hu
 have : v.cells[j % k]! = u':=by
  rw [getElem!_pos v.cells (j % k) hjk]
  have h1':v.cells[j % k]?=some u':=by simpa using h1
  rw [Array.getElem?_eq_getElem hjk] at h1'
  injection h1'
 rw [this] at hu
 subst hu
 exact h2
theorem ZnM {k:Nat}:∀ {is:List Nat} {ys:List AVal} {vs:List Value} {xs:List AVal} {cells:Array Value},is.length=ys.length->(∀ y ∈ ys,y≠.top)->VRs I β ys vs->(∀ y ∈ ys,y.cells.length=k)->(∀ i ∈ is,i < xs.length)->(∀ x ∈ xs,x.cells.length=k)->VRs I β (xs.flatMap AVal.cells) cells.toList ->
  ∃ cells',Instr.fill (fun i=>some (i*k,k)) cells (is.zip vs)=some cells'/\VRs I β (((is.zip ys).foldl (fun l p=>l.set p.1 p.2) xs).flatMap AVal.cells) cells'.toList/\(∀ x ∈ (is.zip ys).foldl (fun l p=>l.set p.1 p.2) xs,x.cells.length=k)/\((is.zip ys).foldl (fun l p=>l.set p.1 p.2) xs).length=xs.length/\cells'.size=cells.size
 | [],ys,vs,xs,cells,hl,_,hv,hk,hi,hx,hc=>by
  have : ys=[]:=Wb (by simpa using hl.symm)
  subst this
  exact ⟨cells,by simp [Instr.fill],by simpa using hc,by simpa using hx,rfl,rfl⟩
 | i::is,[],vs,xs,cells,hl,_,hv,hk,hi,hx,hc=>by simp at hl
 | i::is,y::ys,vs,xs,cells,hl,hnt,hv,hk,hi,hx,hc=>by
  simp only [VRs] at hv
  obtain ⟨v,vs',rfl,hv1,hv2⟩:=hv
  have hil:i < xs.length:=hi i (by simp)
  have hyk:=hk y (by simp)
  have hcl:=Zgl (hnt y (by simp)) hv1
  have hfl:=ZeU hx
  have hcs:=Zan hc
  simp only [X7] at hcs
  have hmul:=Zm3 (k:=k) hil
  have hset:VRs I β ((xs.set i y).flatMap AVal.cells) (v.cells.zipIdx.foldl (fun cs (c,j)=>cs.setIfInBounds (i*k+j) c) cells).toList:=by
   rw [Zwd (i*k) v cells (by omega)]
   have hself:y.cells=setAt (xs[i]).cells 0 y.cells:=by
    unfold setAt
    rw [WL,XI,XK,WW (by rw [hyk,hx _ (Xaw hil)];exact X0 _),X2]
   rw [ZjJ hx (Xz hil) hself (by omega),Wm]
   exact ZhH hc (ZdR (hnt y (by simp)) hv1) (i*k)
  have hx':∀ x ∈ xs.set i y,x.cells.length=k:=by
   intro x hm
   rcases We hm with hm | rfl
   ·exact hx x hm
   ·exact hyk
  obtain ⟨cells',g1,g2,g3,g4,g5⟩:=ZnM (k:=k) (is:=is) (ys:=ys) (vs:=vs') (xs:=xs.set i y) (cells:=v.cells.zipIdx.foldl (fun cs (c,j)=>cs.setIfInBounds (i*k+j) c) cells) (by simpa using hl) (fun z hz=>hnt z (by simp [hz])) hv2 (fun z hz=>hk z (by simp [hz])) (fun j hj=>by simpa using hi j (by simp [hj])) hx' hset
  refine ⟨cells',?_,by simpa using g2,by simpa using g3,by simpa using g4,?_⟩
  ·simp only [List.zip_cons_cons,Instr.fill]
   rw [if_neg (by simp;omega)]
   exact g1
  ·rw [g5]
   have h1:=Zan hset
   have h2:=ZeU hx'
   rw [Xaf] at h2
   rw [X7] at h1
   exact h1.symm.trans (h2.trans (hfl.symm.trans hcs))
end
end
end Go.Proofs.Ytaimaokfbgmoiaa
