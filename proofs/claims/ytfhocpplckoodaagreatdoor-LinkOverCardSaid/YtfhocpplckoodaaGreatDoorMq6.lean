/- The card of LinkOver: for every input the law returns true, and each argument reads afterwards as it read before. No other condition; the tables of unicode/utf8 are tied to the program. -/
import Derived.Test.YtfhocpplckoodaaGreatDoorMq5
import Derived.Shelf.LaysM
import Derived.Shelf.Bytes.TryGrowAt
import Derived.Shelf.Bytes.GrowSliceCatch
import Derived.Lib.ByteType
import Derived.Lib.BufferAt
import Derived.Lib.BufferOwn
import Derived.Lib.AppendZeros
import Derived.Lib.Walk
import Derived.Lib.Hide
import Derived.Laws.CopyRow
import Derived.Laws.IdiomCopy
import Derived.Laws.MakeOwn
import Derived.WalkKit
import Derived.OwnWalk
import Derived.Defers
import Derived.Recover
import Derived.RegionTactic
import Derived.Shelf.RegionOpenPlain
import Derived.Deep.RegionWith
import Derived.Deep.Draws
import Derived.BigCall
import Derived.BigGuard
import Derived.Lib.BufferSrc
import Derived.Test.YtfhocpplckoodaaGreatDoorMq4
import Derived.Test.YtfhocpplckoodaaGreatDoorMq2
import Derived.Test.YtfhocpplckoodaaGreatDoorProg
import Derived.Lib.LaidU8T
import Derived.Test.YtfhocpplckoodaaGreatDoorRows
import Derived.Deep.Slices
import Derived.Test.YtfhocpplckoodaaGreatDoorCards
import Derived.Test.YtfhocpplckoodaaGreatDoorTie
import Derived.ProofKit
import Derived.OpenShut
import Derived.ShutString
import Derived.ChangeOld
import Derived.Below
import Derived.SevenTiedAt
import Derived.LaidByTextLater
import Derived.Lib.LaidIn
import Derived.Deep.DeepHandedRow
import Derived.MakeChecks
set_option linter.defProp false
set_option linter.unusedSectionVars false
set_option linter.unusedSimpArgs false
set_option linter.unusedVariables false
open Nat renaming reduceEqDiff→Xa,reduceLT→Xc,reduceAdd→Xe,reduceLeDiff→Xf,reduceBEq→Xg,zero_add→XB,le_refl→XF,le_trans→W9,pow_succ→Xap,eq_zero_or_pos→Xa0,mul_one→Xa8,zero_le→Xbh
open Option.some renaming injEq→Xb,inj→WE
open Prod.mk renaming injEq→Xd
open List renaming length_append→Xi,map_cons→Xm,append_nil→Xo,length_cons→Xp,map_nil→Xt,mem_append→Xv,length_nil→Xw,lookup_nil→Xy,nil_append→XA,length_map→XD,eq_nil_of_length_eq_zero→XG,take_of_length_le→XI,mem_cons→XR,length_take→X0,map_append→X4,take_append_of_le_length→X6,length_drop→X9,mem_singleton→Wf,length→Xab,take_zero→Xax
open Bool renaming false_eq_true→Xj,and_eq_true→Xk,true_and→Xa7
open Or renaming inl→Xr,inr→XE
open Array renaming length_toList→XM,toList_inj→XaU
open UInt8 renaming ofNat→X1
open Option renaming bind_some→Wj
open Int renaming tmod→Xa4
namespace Go.Proofs.YtfhocpplckoodaaGreatDoor
set_option maxHeartbeats 16000000
set_option maxRecDepth 10000
section
theorem ZAe:∀ (l:List UInt8) (acc n:Nat) (b:UInt8) (d:Nat),Lib.decFrom acc l=some n->Lib.digitVal b=some d->Lib.decFrom acc (l++[b])=some (n*10+d)
 | [],acc,n,b,d,h,hb=>by
  simp only[Lib.decFrom,Xb]at h
  subst h
  simp[Lib.decFrom,hb]
 |x::l,acc,n,b,d,h,hb=>by
  simp only[Lib.decFrom,List.cons_append]at h⊢
  split at h
  ·exact ZAe l _ n b d h hb
  ·cases h
theorem ZwJ(d:Nat)(h:d<10):Lib.digitVal (X1 (48+d))=some d:=by
 have : d=0\/d=1\/d=2\/d=3\/d=4\/d=5\/d=6\/d=7\/d=8\/d=9:=by omega
 rcases this with rfl |rfl |rfl |rfl |rfl |rfl |rfl |rfl |rfl |rfl<;>decide
theorem ZBb:∀ (k u:Nat),1<=k->u<10^k->Lib.decFrom 0 (Za6 k u)=some u/\∃ b r d,Za6 k u=b::r/\Lib.digitVal b=some d
 |0,_,h,_=>by omega
 |k+1,u,_,h=>by
  rw[Za6]
  split
  ·rename_i hu
   have hv:=ZwJ u hu
   exact⟨by rw[Lib.decFrom,hv];simp[Lib.decFrom],_,_,_,rfl,hv⟩
  ·rename_i hu
   rw[Xap]at h
   have hk:1<=k:=by
    rcases Xa0 k with rfl |hk
    ·simp at h;omega
    ·exact hk
   obtain⟨h1,b,r,d,h2,h3⟩:=ZBb k (u/10) hk (by omega)
   refine⟨?_,b,r++[X1 (48+u%10)],d,by rw[h2];rfl,h3⟩
   rw[ZAe _ _ _ _ _ h1 (ZwJ (u%10) (by omega))]
   congr 1;omega
theorem ZVF(u:Nat)(h:u<1000000000000):Lib.atoi (Za6 20 u)=some (u:Int):=by
 obtain⟨h1,b,r,d,h2,h3⟩:=ZBb 20 u (by decide) (by omega)
 rw[h2]at h1 ⊢
 have hb:(b==45)=false/\(b==43)=false:=by
  unfold Lib.digitVal at h3
  split at h3
  ·rename_i hh
   constructor
   ·simp only[beq_eq_false_iff_ne,ne_eq];rintro rfl;revert hh;decide
   ·simp only[beq_eq_false_iff_ne,ne_eq];rintro rfl;revert hh;decide
  ·cases h3
 unfold Lib.atoi
 simp only[hb.1,hb.2,Xj,if_false,Lib.decNat,List.isEmpty_cons,h1,Option.map_some]
theorem ZPQ(u:Nat)(h:u<1000000000000):(Za6 20 u).length<=18:=by
 have : ∀ (k j u:Nat),1<=k->k<=j->u<10^k->(Za6 j u).length<=k:=by
  intro k
  induction k with
  |zero=>intro j u h;omega
  |succ k ih =>
   intro j u _ hj hu
   obtain⟨j,rfl⟩:∃ i,j=i+1:=⟨j-1,by omega⟩
   rw[Za6]
   split
   ·simp
   ·rename_i h10
    rw[Xap]at hu
    have hk:1<=k:=by
     rcases Xa0 k with rfl |hk
     ·simp at hu;omega
     ·exact hk
    have:=ih j (u/10) hk (by omega) (by omega)
    simp;omega
 exact this 18 20 u (by decide) (by decide) (by omega)
theorem ZJB(s:Zc)(n bound:Int)(h1:1<=n)(h2:n<=bound)(hb:bound<=1099511627776)(h3:n<1000000000000):E 30 [.agg [.int .i64 38,.int .i64 0,.str s,.str (Za6 20 n.toNat),.lst false []],.str s,.int .i64 bound] []=some (.int .i64 n,[]):=by
 have hA:=ZCG (Za6 20 n.toNat) n (ZPQ _ (by omega)) (by rw[ZVF _ (by omega)];congr 1;omega)
 have hI:=Zwf n (by omega) (by omega)
 have c0:¬n<1:=by omega
 have c1:¬n>bound:=by omega
 have c2:(38 != (38:Int))=false:=rfl
 generalize Za6 20 n.toNat=d at *
 rw[Zi (by rfl) ZFV]
 simp -implicitDefEqProofs only[EQA,Xe,Xc,Xa,Xg,Zbi,Zw,unG,reduceCtorEq,↓reduceIte,ZD7,Zs1,ZIl,Zd,hA,hI,c0,c1,c2,bne_self_eq_false,AVal.cells]
theorem ZrD(s:Zc)(n bound:Int)(h1:1<=n)(h2:n<=bound)(hb:bound<=1099511627776)(h3:n<1000000000000)(σ:Za)(sq own:Nat)(view:Bool):Zj E BY σ sq 30 own view [.agg [.int .i64 38,.int .i64 0,.str s,.str (Za6 20 n.toNat),.lst false []],.str s,.int .i64 bound]=some (.int .i64 n,σ,{}) :=
 Za2 (ZJB s n bound h1 h2 hb h3) (by kernel_rfl) rfl rfl rfl (fun _=>rfl) _ _ _ _
def Zgv(props:List Zp)(now:Int):Int:=match Zcm 2 props with
 |none=>0
 |some x=>IntKind.i64.wrap (now+x.num)
theorem ZVs(p:ZE)(hpl:p.payload.length<=140737488355328)(hl:p.props.length*72<=140737488355328)(hd:∀ q∈p.props,q.data.length<=140737488355328)(topic sender:Zc)(now:Int) :
  E 32 [.agg (ZB p),.str topic,.str sender,.int .i64 now] []=some (.agg [.str topic,.sl 0 0 0 p.payload.length,.int .i64 p.qos,.bool p.retain,.str sender,.int .i64 (Zgv p.props now),.lst false ((Zdx p.props).map Zg),.int .i64 0,.int .i64 0,.int .i64 0],[.row 0 1 (p.payload.map Zb)]):=by
 have hR:(p.payload.map Zb).all Zbr=true:=List.all_eq_true.2 fun x hx=>by obtain⟨b,_,rfl⟩:=List.mem_map.1 hx;rfl
 have hC:∀ (σ:Za) (sq:Nat),freeAt σ sq=true->Zj E BY σ sq 44 1 false [.lst false (p.payload.map Zb)]=some (.sl sq 0 0 p.payload.length,σ.set sq (.row 0 1 (p.payload.map Zb)),{}):=fun σ sq hs=>by
  have h:=ZrZ (bf:=BY) (Zzh p.payload hpl) rfl rfl σ sq hs
  rw[hR,if_pos rfl,XD]at h
  exact h
 clear hR
 have hK:=fun σ sq own b=>ZWT σ sq own b p.props hl hd
 have hF:=fun σ sq own=>ZAO σ sq own p.props (by omega) hd 2
 unfold ZB
 generalize p.payload.map Zb=R at *
 generalize (Zdx p.props).map Zg=K at *
 rw[Zi (by rfl) ZKe]
 unfold Zgv
 cases h:Zcm 2 p.props with
 |none =>
  rw[h]at hF
  generalize p.props.map Zg=Q at *
  simp -implicitDefEqProofs only[EQA,ZaG,Xe,Xc,Xf,Xa,Xg,reduceCtorEq,↓reduceIte,ZxQ,Zog,ZyJ,Zd,hC,hK,hF,ZkL,Znx,Zab,AVal.cells,Z6,Zaf,Zah,Zau,Zas,Zar,Zav,Zaw,Zag,Xy]
  simp[Z4,gcA,Zu,Zs,Zt,ZT,Zk,Zn,ZI,Zl,ZF,Zh,Zo,Zy,Zx]
 |some x =>
  rw[h]at hF
  generalize p.props.map Zg=Q at *
  simp -implicitDefEqProofs only[EQA,ZaG,Xe,Xc,Xf,Xa,Xg,reduceCtorEq,↓reduceIte,ZxQ,Zog,ZyJ,Zd,ZJ,Zg,Za0,hC,hK,hF,ZkL,Zab,AVal.cells,Z6,Zaf,Zah,Zau,Zas,Zar,Zav,Zaw,Zag,Xy]
  simp[Z4,gcA,Zu,Zs,Zt,ZT,Zk,Zn,ZI,Zl,ZF,Zh,Zo,Zy,Zx]
theorem ZIo(p:ZE)(hpl:p.payload.length<=140737488355328)(hl:p.props.length*72<=140737488355328)(hd:∀ q∈p.props,q.data.length<=140737488355328)(topic sender:Zc)(now:Int)(σ:Za)(sq own:Nat)(X:List AVal)(hX:[AVal.agg X,.str topic,.str sender,.int .i64 now].all Zan=true)(hn:[AVal.agg X,.str topic,.str sender,.int .i64 now].map ZN=[.agg (ZB p),.str topic,.str sender,.int .i64 now]) :
  Zj E BY σ sq 32 own true [.agg X,.str topic,.str sender,.int .i64 now]=some (.agg [.str topic,.lst false (p.payload.map Zb),.int .i64 p.qos,.bool p.retain,.str sender,.int .i64 (Zgv p.props now),.lst false ((Zdx p.props).map Zg),.int .i64 0,.int .i64 0,.int .i64 0],σ,{}):=by
 rw[ZcT (by kernel_rfl) hX,hn,ZVs p hpl hl hd]
 have hP:p.payload.length=(p.payload.map Zb).length:=by rw[XD]
 unfold Z3
 rw[if_pos rfl,hP]
 generalize p.payload.map Zb=P
 generalize (Zdx p.props).map Zg=R
 simp[ZbB,viewR,ZP,Zat,ZK,ZY,Zr,gcA,Zu,Zs,Zt,ZT,Zh,Zo,Zn,Zx,ZaA,ZbJ,Zbr,Za5,ZcY]
def lkO(n:Zax)(now:Int):List AVal:=[.str n.topic,.lst false (n.payload.map Zb),.int .i64 1,.bool n.retain,.str [],.int .i64 (Zgv (Z1 (Z2 n) now) 100),.lst false ((Zdx (Z1 (Z2 n) now)).map Zg),.int .i64 n.origin,.int .i64 n.number,.int .i64 n.hops]
theorem ZMr(n:Zax)(now:Int)(hn:Zef n)(h1:1<=n.origin/\n.origin<=255)(h2:1<=n.number/\n.number<=1000000000)(h3:1<=n.hops/\n.hops<=6)(ht:ZdD n.topic=true)(hk:Zcv [1,3,8,9,38,2] (Z1 (Z2 n) now)=Z1 (Z2 n) now)(hd:∀ p∈Z1 (Z2 n) now,p.data.length<=140737488355328) :
  E 12 [.agg (ZB (lkD n now 1)),.int .i64 100] []=some (.tup [.agg (lkO n now),.int .i64 0],[]):=by
 have hlen:=ZwL n now
 have hpr:=hn.props
 have hN:=fun σ sq own view=>Zhf σ sq own view n.topic
 rw[ht]at hN
 have d1:=ZrD [111] n.origin 255 h1.1 h1.2 (by decide) (by omega)
 have d2:=ZrD [109] n.number 1099511627776 h2.1 (by omega) (by decide) (by omega)
 have d3:=ZrD [104] n.hops 6 h3.1 h3.2 (by decide) (by omega)
 have hO:=fun σ sq own b b'=>Zva σ sq own b [1,3,8,9,38,2] (by decide) (Z1 (Z2 n) now) (by omega) hd b'
 rw[hk]at hO
 have hof:=ZIo { lkD n now 1 with props:=Z1 (Z2 n) now } (by have:=hn.payload;exact W9 this (by decide)) (by show(Z1 (Z2 n) now).length*72<=_;omega) hd n.topic [] 100
 have hL:(lkL n now).length=(Z1 (Z2 n) now).length+3:=by simp[lkL,ZfY]
 have g0:(lkL n now)[(Z1 (Z2 n) now).length]?=some (lkP [111] n.origin):=by simp[lkL,ZfY]
 have g1:(lkL n now)[(Z1 (Z2 n) now).length+1]?=some (lkP [109] n.number):=by simp[lkL,ZfY]
 have g2:(lkL n now)[(Z1 (Z2 n) now).length+2]?=some (lkP [104] n.hops):=by simp[lkL,ZfY]
 have i0:=fun(σ:Za) (b:Bool)=>iad g0 Zg (k:=5) rfl σ b .i64
 have i1:=fun(σ:Za) (b:Bool)=>iad g1 Zg (k:=5) rfl σ b .i64
 have i2:=fun(σ:Za) (b:Bool)=>iad g2 Zg (k:=5) rfl σ b .i64
 have hT:((lkL n now).map Zg).take (Z1 (Z2 n) now).length=(Z1 (Z2 n) now).map Zg:=by
  unfold lkL
  rw[X4,X6 (by simp),XI (by simp)]
 have hM:((lkL n now).map Zg).length=(Z1 (Z2 n) now).length+3:=by rw[XD,hL]
 have z1:(((Z1 (Z2 n) now).length:Int)+1)=(((Z1 (Z2 n) now).length+1:Nat):Int):=by omega
 have z2:(((Z1 (Z2 n) now).length:Int)+2)=(((Z1 (Z2 n) now).length+2:Nat):Int):=by omega
 have w1:IntKind.i64.wrap (((Z1 (Z2 n) now).length:Int)+1)=(((Z1 (Z2 n) now).length+1:Nat):Int):=by rw[z1];exact ZaC (by omega) (by omega)
 have w2:IntKind.i64.wrap (((Z1 (Z2 n) now).length:Int)+2)=(((Z1 (Z2 n) now).length+2:Nat):Int):=by rw[z2];exact ZaC (by omega) (by omega)
 have w3:IntKind.i64.wrap ((((Z1 (Z2 n) now).length+3:Nat):Int)-3)=((Z1 (Z2 n) now).length:Int):=by rw[show(((Z1 (Z2 n) now).length+3:Nat):Int)-3=((Z1 (Z2 n) now).length:Int)by omega];exact ZaC (by omega) (by omega)
 have hs:∀ σ,ZbI σ 5 (.lst false ((lkL n now).map Zg)) none (some (.int .i64 ((Z1 (Z2 n) now).length:Int))) (some (.int .i64 ((Z1 (Z2 n) now).length:Int)))=some (.lst true ((Z1 (Z2 n) now).map Zg),σ,{}):=fun σ=>by
  have b1:ZcP (.int .i64 ((Z1 (Z2 n) now).length:Int)) ((lkL n now).map Zg).length=some (Z1 (Z2 n) now).length:=by
   rw[hM]
   show(if 0<=((Z1 (Z2 n) now).length:Int)/\((Z1 (Z2 n) now).length:Int)<=(((Z1 (Z2 n) now).length+3:Nat):Int)then some (((Z1 (Z2 n) now).length:Int)).toNat else none)=_
   rw[if_pos (by omega)];simp
  have b2:ZcP (.int .i64 ((Z1 (Z2 n) now).length:Int)) (Z1 (Z2 n) now).length=some (Z1 (Z2 n) now).length:=by
   show(if 0<=((Z1 (Z2 n) now).length:Int)/\((Z1 (Z2 n) now).length:Int)<=((Z1 (Z2 n) now).length:Int)then some (((Z1 (Z2 n) now).length:Int)).toNat else none)=_
   rw[if_pos (by omega)];simp
  simp only[ZbI,Zbp,b1,b2,hT]
  simp
 have n0:¬((Z1 (Z2 n) now).length:Int)<0:=by omega
 have o0:(n.origin==0)=false/\(n.number==0)=false/\(n.hops==0)=false:=by simp;omega
 have e:ZB (lkD n now 1)=[.int .i64 3,.bool false,.int .i64 1,.bool n.retain,.int .i64 1,.str n.topic,.lst false (n.payload.map Zb),.int .i64 0,.lst false [],.lst false ((lkL n now).map Zg),.lst false [],.lst false [],.bool false,.int .i64 0,.str [],.bool false,.str [],.lst false [],.int .i64 0,.bool false,.lst false [],.bool false,.str [],.bool false,.lst false [],.bool false]:=rfl
 have hof2:=fun σ sq own=>hof σ sq own [.int .i64 3,.bool false,.int .i64 1,.bool n.retain,.int .i64 1,.str n.topic,.lst false (n.payload.map Zb),.int .i64 0,.lst false [],.lst true ((Z1 (Z2 n) now).map Zg),.lst false [],.lst false [],.bool false,.int .i64 0,.str [],.bool false,.str [],.lst false [],.int .i64 0,.bool false,.lst false [],.bool false,.str [],.bool false,.lst false [],.bool false] rfl rfl
 have f1:(lkD n now 1).payload=n.payload:=rfl
 have f2:(lkD n now 1).qos=1:=rfl
 have f3:(lkD n now 1).retain=n.retain:=rfl
 simp only[f1,f2,f3]at hof2
 have p0:Zg (lkP [111] n.origin)=.agg [.int .i64 38,.int .i64 0,.str [111],.str (Za6 20 n.origin.toNat),.lst false []]:=rfl
 have p1:Zg (lkP [109] n.number)=.agg [.int .i64 38,.int .i64 0,.str [109],.str (Za6 20 n.number.toNat),.lst false []]:=rfl
 have p2:Zg (lkP [104] n.hops)=.agg [.int .i64 38,.int .i64 0,.str [104],.str (Za6 20 n.hops.toNat),.lst false []]:=rfl
 simp only[p0,AVal.cells]at i0
 simp only[p1,AVal.cells]at i1
 simp only[p2,AVal.cells]at i2
 simp only[Xm,Xt]at hO
 have hR:((Z1 (Z2 n) now).map Zg).length=(Z1 (Z2 n) now).length:=XD ..
 rw[e]
 unfold lkO
 clear e hT g0 g1 g2 hof p0 p1 p2 hL hk hd hpr
 generalize Za6 20 n.origin.toNat=s1 at *
 generalize Za6 20 n.number.toNat=s2 at *
 generalize Za6 20 n.hops.toNat=s3 at *
 generalize Zgv (Z1 (Z2 n) now) 100=ex at *
 generalize (Zdx (Z1 (Z2 n) now)).map Zg=K at *
 generalize (Z1 (Z2 n) now).map Zg=R at *
 generalize (Z1 (Z2 n) now).length=N at *
 generalize (lkL n now).map Zg=M at *
 generalize n.payload.map Zb=P at *
 rw[Zi (by rfl) ZXt]
 simp -implicitDefEqProofs only[EQA,Zv,Xe,Xc,Xf,Xa,Xg,unA,Zw,unG,reduceCtorEq,↓reduceIte,Zf,ZOF,ZtW,ZLs,Zd,hN,d1,d2,d3,hO,hof2,i0,i1,i2,w1,w2,w3,hs,n0,o0,hM,hR,AVal.cells,viewAs,ZP,ZK,Zr,ZX,bne_self_eq_false]
end
section
theorem ZAI(d:Nat)(h:d<10):0<(X1 (48+d)).toNat/\(X1 (48+d)).toNat<128:=by
 have : d=0\/d=1\/d=2\/d=3\/d=4\/d=5\/d=6\/d=7\/d=8\/d=9:=by omega
 rcases this with rfl |rfl |rfl |rfl |rfl |rfl |rfl |rfl |rfl |rfl<;>decide
theorem Zwg:∀ k u:Nat,asc (Za6 k u)
 |0,_=>by intro b hb;simp[Za6]at hb
 |k+1,u=>by
  rw[Za6]
  split
  ·rename_i h
   intro b hb
   rw[Wf]at hb
   subst hb
   exact ZAI u h
  ·intro b hb
   rcases Xv.1 hb with hb |hb
   ·exact Zwg k (u/10) b hb
   ·rw[Wf]at hb
    subst hb
    exact ZAI (u%10) (by omega)
def lkM(m:ZcN)(h:Int):Zax:={ ZbG m with origin:=1+Xa4 (ZaS m.origin 255) 255,number:=1+ZaS m.number 16777215,hops:=h }
theorem ZqP(m:ZcN)(h:Int):1<=(lkM m h).origin/\(lkM m h).origin<=255:=by
 have a2:0<=ZaS m.origin 255/\ZaS m.origin 255<=255:=ZhQ m.origin 255 (by decide)
 have h1:=Int.tmod_lt_of_pos (ZaS m.origin 255) (b:=255) (by decide)
 have h2:0<=Xa4 (ZaS m.origin 255) 255:=Int.tmod_nonneg 255 a2.1
 show 1<=1+Xa4 (ZaS m.origin 255) 255/\1+Xa4 (ZaS m.origin 255) 255<=255
 omega
theorem ZsN(m:ZcN)(h:Int):1<=(lkM m h).number/\(lkM m h).number<=16777216:=by
 have a3:0<=ZaS m.number 16777215/\ZaS m.number 16777215<=16777215:=ZhQ m.number 16777215 (by decide)
 show 1<=1+ZaS m.number 16777215/\1+ZaS m.number 16777215<=16777216
 omega
theorem Zku(m:ZcN)(h:Int):0<=(lkM m h).expires/\(lkM m h).expires<=65535:=by
 have a1:0<=ZaS m.life 65535/\ZaS m.life 65535<=65535:=ZhQ m.life 65535 (by decide)
 show 0<=(if m.life>0 then ZaS m.life 65535 else 0)/\(if m.life>0 then ZaS m.life 65535 else 0)<=65535
 split<;>omega
theorem Zu9{e now:Int}{q:Zp}(hq:q∈Zc4 e now):q.text.length<=30/\q.pair.length<=30/\q.data.length<=30/\q.id=2:=by
 unfold Zc4 at hq
 split at hq
 ·rw[Wf]at hq;subst hq;simp[Zcp]
 ·simp at hq
theorem ZhS(n:Zax)(now:Int):Z1 (Z2 n) now=n.props++Zc4 n.expires now:=by
 show n.props++Zc4 n.expires now++[]=_
 rw[Xo]
theorem ZRD(x:Int):(ZaF (Zcp x)).length=5:=by
 unfold ZaF Zcp
 simp only[ZjR.1]
 simp[Zce,Za3]
 decide
section
variable (m:ZcN)(h:Int)(hh:1<=h/\h<=6)
include hh
theorem ZAK:Zef (lkM m h):=by
 have h1:=ZqP m h
 have h2:=ZsN m h
 have hN:=Zl8 m
 refine⟨W9 hN.payload (by decide),W9 (Zse m.p) (by decide),fun p hp=>W9 (ZfE m.p p hp).2.2.1 (by decide),by omega,by omega,?_⟩
 show 0<=h/\h<=1000000
 omega
theorem Zzy:Zef (lkT (lkM m h)):=by
 obtain⟨a,b,c,d,e,f⟩:=ZAK m h hh
 exact⟨a,b,c,d,e,f⟩
theorem Zqn(n:Zax)(now:Int)(hn:n.props=Zb4 m.p):∀ q∈lkL n now,q.text.length<=30/\q.pair.length<=30/\q.data.length<=30:=by
 intro q hq
 unfold lkL ZfY at hq
 rw[ZhS,hn]at hq
 simp only[Xv,XR,List.not_mem_nil,or_false]at hq
 have dl:=fun u=>ZlR 20 u
 rcases hq with(hq |hq) |rfl |rfl |rfl
 ·exact⟨(ZfE m.p q hq).1,(ZfE m.p q hq).2.1,(ZfE m.p q hq).2.2.1⟩
 ·have:=Zu9 hq;exact⟨this.1,this.2.1,this.2.2.1⟩
 ·have:=dl n.origin.toNat;simp[lkP];omega
 ·have:=dl n.number.toNat;simp[lkP];omega
 ·have:=dl n.hops.toNat;simp[lkP];omega
theorem Zzd(n:Zax)(now:Int)(hn:n.props=Zb4 m.p):(lkL n now).length<=12:=by
 have a:=Zse m.p
 have b:(Zc4 n.expires now).length<=1:=by unfold Zc4;split<;>simp
 unfold lkL ZfY
 rw[ZhS,hn]
 simp only[Xi,Xp,Xw]
 omega
theorem ZxN(n:Zax)(now:Int)(hn:n.props=Zb4 m.p)(he:0<=n.expires/\n.expires<=65535)(h0:0<=now+1)(h1:now<=1000000):ZeC 3 [] (lkL n now):=by
 have dl:=fun u=>ZlR 20 u
 unfold lkL
 rw[ZhS,hn]
 refine Zja (Zja (Zxp m.p) ?_) ?_
 ·unfold Zc4
  split
  ·rw[show IntKind.i64.wrap (n.expires-now)=n.expires-now from ZaC (by omega) (by omega)]
   refine⟨ZW3 _ ?_ ?_ (ZyI m.p),trivial⟩
   ·split<;>omega
   ·split<;>omega
  ·trivial
 ·have g:∀ (acc:List Zp) (s:UInt8) (x:Int),(s=111\/s=109\/s=104)->Zg3 3 acc (lkP [s] x):=fun acc s x hs=>by
   refine ZwY [s] (Za6 20 x.toNat) ?_ (by simp) (Zwg _ _) (by have:=dl x.toNat;omega)
   intro b hb
   rw[Wf]at hb
   subst hb
   rcases hs with rfl |rfl |rfl<;>decide
  exact⟨g _ _ _ (Xr rfl),g _ _ _ (XE (Xr rfl)),g _ _ _ (XE (XE rfl)),trivial⟩
theorem Zyx(n:Zax)(now:Int)(hn:n.props=Zb4 m.p):((lkL n now).map ZaF).flatten.length<=1200:=by
 have h1:=Zro (lkL n now) (Zqn m h hh n now hn)
 have h2:=Zzd m h hh n now hn
 omega
theorem ZpY:Zct (lkT (lkM m h)).topic=true/\(lkT (lkM m h)).topic.length<=65535:=by
 have ha:asc (112::47::116::Zb5 m.topic):=by
  intro b hb
  simp only[XR]at hb
  rcases hb with rfl |rfl |hb
  ·decide
  ·decide
  ·exact Zxk m.topic b (by simpa using hb)
 have h1:=Zev m.topic
 refine⟨Zlj ha,?_⟩
 show(112::47::116::Zb5 m.topic:Zc).length<=65535
 simp only[Xp];omega
theorem ZsP(now:Int)(h0:0<=now+1)(h1:now<=1000000):(ZeV (lkD (lkT (lkM m h)) now 1)).length=2+(lkT (lkM m h)).topic.length+2+((Zac (((lkL (lkT (lkM m h)) now).map ZaF).flatten.length:Nat)).1.length+((lkL (lkT (lkM m h)) now).map ZaF).flatten.length)+(lkT (lkM m h)).payload.length:=by
 have hs:=ZxN m h hh (lkT (lkM m h)) now rfl (Zku m h) h0 h1
 have hf:=Zyx m h hh (lkT (lkM m h)) now rfl
 have hl:=Zyr 3 _ hs (by omega)
 have hT:=ZpY m h hh
 have l1:=Zkl hT.1 hT.2
 unfold lkD
 rw[ZEG,hl,if_pos (by decide)]
 simp only[Xi,Za3,l1]
theorem ZxB(now:Int)(h0:0<=now+1)(h1:now<=1000000):ZfJ (lkD (lkT (lkM m h)) now 1):=by
 have hs:=ZxN m h hh (lkT (lkM m h)) now rfl (Zku m h) h0 h1
 have hf:=Zyx m h hh (lkT (lkM m h)) now rfl
 have hl:=Zyr 3 _ hs (by omega)
 have hT:=ZpY m h hh
 have hP:(lkT (lkM m h)).payload.length<=65535:=(Zl8 m).payload
 have hb:=ZsP m h hh now h0 h1
 have hv:=Zfx (((lkL (lkT (lkM m h)) now).map ZaF).flatten.length:Nat)
 unfold lkD at hb ⊢
 exact ZHt 1 _ 1 _ _ _ (XE (Xr rfl)) hT (fun e=>by omega) (fun _=>by omega) (by rw[hl]) (by rw[hb];omega)
theorem Zwd(now:Int):OkW (lkD (lkT (lkM m h)) now 1):=by
 have hT:=(ZpY m h hh).2
 have hP:(lkT (lkM m h)).payload.length<=65535:=(Zl8 m).payload
 have hc:=Zzd m h hh (lkT (lkM m h)) now rfl
 have hm:=Zqn m h hh (lkT (lkM m h)) now rfl
 have hp:(lkL (lkT (lkM m h)) now).length<=700000000/\∀ q∈lkL (lkT (lkM m h)) now,Zex q:=⟨by omega,fun q hq=>by
  have:=hm q hq
  exact⟨by omega,by omega,by omega⟩⟩
 unfold lkD Zdq
 constructor
 all_goals simp only[ZaT,Xw]
 all_goals first
  |omega
  |exact hp
  |simp
theorem ZF7:Ziz (lkT (lkM m h)):=⟨Zzy m h hh,by have:=Zku m h;exact⟨this.1,Int.le_trans this.2 (by decide)⟩,fun now=>Zwd m h hh now,fun now a b=>ZxB m h hh now a b⟩
theorem ZHZ(a b:Int)(ha:0<=a+1/\a<=1000000)(hb:0<=b+1/\b<=1000000):(Zd0 (lkD (lkT (lkM m h)) a 1)).length=(Zd0 (lkD (lkT (lkM m h)) b 1)).length:=by
 have h1:=ZsP m h hh a ha.1 ha.2
 have h2:=ZsP m h hh b hb.1 hb.2
 have hf:((lkL (lkT (lkM m h)) a).map ZaF).flatten.length=((lkL (lkT (lkM m h)) b).map ZaF).flatten.length:=by
  unfold lkL
  rw[ZhS,ZhS]
  simp only[X4,List.flatten_append,Xi]
  unfold Zc4
  split
  ·simp only[Xm,Xt,List.flatten_cons,List.flatten_nil,Xo,ZRD]
  ·rfl
 rw[hf]at h1
 have e:∀ now,ZcD (lkD (lkT (lkM m h)) now 1)=ZeV (lkD (lkT (lkM m h)) now 1):=fun now=>by
  unfold ZcD Zhq lkD Zdq
  simp
 unfold Zd0 ZlD
 rw[e,e]
 simp only[Xp,Xi]
 rw[h1,h2]
theorem ZNa(now:Int):Zcv [1,3,8,9,38,2] (Z1 (Z2 (lkT (lkM m h))) now)=Z1 (Z2 (lkT (lkM m h))) now:=by
 unfold Zcv
 rw[List.filter_eq_self]
 intro q hq
 rw[ZhS]at hq
 rcases Xv.1 hq with hq |hq
 ·have:=(ZfE m.p q hq).2.2.2
  simp only[List.contains_cons,Bool.or_eq_true]at this ⊢
  rcases this with h |h |h |h |h |h<;>simp_all
 ·rw[(Zu9 hq).2.2.2];rfl
theorem ZFm(now:Int):∀ p∈Z1 (Z2 (lkT (lkM m h))) now,p.data.length<=140737488355328:=by
 intro q hq
 have:=(Zqn m h hh (lkT (lkM m h)) now rfl q (by unfold lkL;exact List.mem_append_left _ hq)).2.2
 omega
theorem ZK5(now:Int)(hn:1<=now/\now<=1000000)(hd:Zci (lkT (lkM m h)) now=false):Zgv (Z1 (Z2 (lkT (lkM m h))) now) 100=if(lkM m h).expires≠0 then 100+(lkM m h).expires-now else 0:=by
 have he:=Zku m h
 have hfind:Zcm 2 (Z1 (Z2 (lkT (lkM m h))) now)=Zcm 2 (Zc4 (lkM m h).expires now):=by
  rw[ZhS]
  unfold Zcm
  rw[List.find?_append]
  have:=ZyI m.p
  unfold Zcm at this
  rw[show(lkT (lkM m h)).props=Zb4 m.p from rfl,this]
  rfl
 unfold Zgv
 rw[hfind]
 by_cases h0:(lkM m h).expires≠0
 ·have hlt:¬now>=(lkM m h).expires:=by
   intro hge
   have : Zci (lkT (lkM m h)) now=true:=by
    have h0':((lkT (lkM m h)).expires != 0)=true:=by
     have : (lkT (lkM m h)).expires=(lkM m h).expires:=rfl
     rw[this];simpa using h0
    unfold Zci
    rw[h0',Xa7]
    exact decide_eq_true hge
   rw[this]at hd;cases hd
  have hl:Zc4 (lkM m h).expires now=[Zcp ((lkM m h).expires-now)]:=by
   unfold Zc4
   rw[if_pos h0,show IntKind.i64.wrap ((lkM m h).expires-now)=(lkM m h).expires-now from ZaC (by omega) (by omega),if_neg (by omega)]
  rw[hl,if_pos h0]
  show IntKind.i64.wrap (100+((lkM m h).expires-now))=_
  rw[show 100+((lkM m h).expires-now)=100+(lkM m h).expires-now by omega]
  exact ZaC (by omega) (by omega)
 ·have hl:Zc4 (lkM m h).expires now=[]:=by
   unfold Zc4
   rw[if_neg h0]
  rw[hl,if_neg h0]
  rfl
end
end
section
open Go.Shelf Go.RowKit
section
variable {P:Program}{ρ:Ren}
theorem ZlP(W:World)(dT sT ty elem:TypeId)(g o dLen dCap:Nat)(A:Option Addr)(sLen sCap:Nat)(cur:Array Value)(t:TypeId)(cs:List Value)
  (hu:P.underlying dT=some (.slice elem)) (hs:(P.info? elem).map (·.size)=some 1) (hg:W.heap[g]?=some (.cells cur t (0,0))) (hn:cs.length=sLen) (hd:sLen<=dLen)
  (hsrc:sLen=0\/∃ a,A=some a/\∀ j v,cs[j]?=some v->W.cell? (a.add j)=some v) (hfit:o+cs.length<=cur.size) (h1:∀ v∈cs,v.oneCell'=true) :
  ∃ W2 Y,(Builtin.copy_ #[dT,sT] ty #[.slice (some ⟨g,o,none⟩) dLen dCap,.slice A sLen sCap]).run P W=.ok (goInt sLen) W2/\W2.heap[g]?=some (.cells Y t (0,0)) /\
   Y.toList=cur.toList.take o++cs++cur.toList.drop (o+sLen)/\W.grownBy W2 (some g)/\W2.heap.size=W.heap.size:=by
 rcases hsrc with h0 |⟨a,rfl,hsrc⟩
 ·have hc:cs=[]:=XG (by omega)
  subst hc
  subst h0
  exact⟨W,cur,run_copy_none W dT sT ty elem _ _ _ _ _ _ hu hs (by simp),hg,by simp,⟨rfl,rfl,rfl,XF _,fun _ _ _=>rfl⟩,rfl⟩
 ·have h:=run_copy_row (P:=P) W dT sT ty elem g o dLen dCap a sLen sCap cur t cs hu hs hg (by rw[hn];exact(Nat.min_eq_left hd).symm) hsrc hfit h1
  rw[hn]at h
  refine⟨_,_,h,setRow_heap _ _ _ _ _ _ hg,by simp,⟨rfl,rfl,rfl,by simp,fun k _ hk=>setRow_other _ _ _ _ (fun e=>hk (by rw[e]))⟩,by simp⟩
set_option maxRecDepth 100000 in
theorem ZrL(L:LaysM.n290 P ρ)(A:Option Addr)(l c n:Nat)(olds:List Value)(w:World)(ho:olds.length=l)(hlc:l<=c)(hn:1<=n)
  (hlim:l+n<=140737488355328) (hc2:c<=140737488355328) (hsrc:l=0\/∃ a,A=some a/\∀ j v,olds[j]?=some v->w.cell? (a.add j)=some v) (h1:∀ v∈olds,v.oneCell'=true) :
  Calls P (ρ.f 290) #[.slice A l c,.int .i64 n] w fun e w'=>∃ cap2 cells,e=.returned (.slice (some ⟨w.heap.size,0,none⟩) l cap2)/\w'.heap[w.heap.size]?=some (.cells cells (ρ.t 5) (0,0)) /\
   cells.size=cap2/\cells.toList.take l=olds/\l+n<=cap2/\cap2<=maxLen/\Below w.heap.size w w':=by
 have mixed:=L.mixed
 have t5:=L.t5;have a5:=L.a5;have z5:=L.z5;have v5:=L.v5
 have t37:=L.t37;have a37:=L.a37;have z37:=L.z37;have v37:=L.v37
 have t3:=L.t3;have a3:=L.a3;have z3:=L.z3;have v3:=L.v3
 have t0:=L.t0;have a0:=L.a0;have z0:=L.z0;have v0:=L.v0
 have t4:=L.t4;have a4:=L.a4;have z4:=L.z4;have v4:=L.v4
 obtain⟨i0,hi,hz0,hz1,hz2⟩:=info_parts L.i5
 have hsz1:(P.info? (ρ.t 5)).map (·.size)=some 1:=by rw[hi];simp[hz1]
 by_cases hC:l+n<2*c
 ·have happ:=Lib.run_append_nil_zeros (P:=P) w (ρ.t 37) (ρ.t 3) (ρ.t 37) (ρ.t 5) i0 (.int .u8 0) .i64 .i64 L.t37 L.t3 hi hz0 (2*c) (by omega) (by omega) (by omega) (by rw[hz2];omega)
  rw[show(((2*c:Nat)):Int)=2*(c:Int)by omega]at happ
  generalize hcap:grownCap w (2*c) 0 (ρ.t 5)=cap2 at happ
  have hcapge:2*c<=cap2:=by rw[<-hcap];exact grownCap_ge w _ 0 (ρ.t 5)
  have hcaple:cap2<=maxLen:=by rw[<-hcap];exact grownCap_le_maxLen w _ 0 (ρ.t 5) (by unfold maxLen;omega)
  generalize hZ:(Builtin.zeroCells (Value.int .u8 0).cells (2*c)++Builtin.zeroCells (Value.int .u8 0).cells (cap2-(2*c)))=Z at happ
  have hZs:Z.size=cap2:=by rw[<-hZ];simp[size_zeroCells,Value.cells];omega
  clear hcap hZ
  have hsrc1:l=0\/∃ a,A=some a/\∀ j v,olds[j]?=some v->(w.alloc (.cells Z (ρ.t 5))).drew.cell? (a.add j)=some v:=hsrc.imp id fun⟨a,e,h⟩=>⟨a,e,fun j v hj=>(World.cell?_of_block (a:=a.add j) (Below.heap_alloc w _ _ (World.block_lt_of_cell? w _ (h j v hj)))).trans (h j v hj)⟩
  obtain⟨W2,Y,hcopy,hY,hYl,hgb,hsz⟩:=ZlP (P:=P) (w.alloc (.cells Z (ρ.t 5))).drew (ρ.t 37) (ρ.t 37) (ρ.t 3) (ρ.t 5) w.heap.size 0 (2*c) cap2 A l c Z (ρ.t 5) olds L.t37 hsz1 (heap_alloc_new w _) ho (by omega) hsrc1 (by omega) h1
  go_enter_defers L.f290,Body.n290_ntmps ρ
  go_wp2_with (at_builtin;refine Lib.wpList_append_run _ rfl _ _ _ _ rfl _ _ rfl rfl _ _ happ ?_)
  refine leaves_cons (f:=(ρ.f 324)) (args:=#[]) (by simp) (enters_of L.f324 (by kernel_rfl) rfl _ _) ?_
  refine(Any.growSlice_catch_idle { L with } _).mono ?_
  rintro e u' w'' ⟨rfl,rfl,rfl⟩
  refine⟨_,results_tmp rfl _ _ _,?_⟩
  refine⟨cap2,Y,rfl,hY,?_,?_,by omega,hcaple,?_⟩
  ·have h3:=congrArg Xab hYl
   simp only[Xi,X9,Xax,Xw,XM]at h3
   omega
  ·rw[hYl,Xax,XA,X6 (by omega),XI (by omega)]
  ·have hs1:(w.alloc (.cells Z (ρ.t 5))).drew.heap.size=w.heap.size+1:=by show(w.alloc (.cells Z (ρ.t 5))).heap.size=_;simp
   exact⟨hgb.os,hgb.tape,hgb.output,by omega,fun k hk=>(hgb.block k (by omega) (fun e=>by injection e with e;omega)).trans (Below.heap_alloc w _ k hk)⟩
 ·have happ:=Lib.run_append_nil_zeros (P:=P) w (ρ.t 37) (ρ.t 3) (ρ.t 37) (ρ.t 5) i0 (.int .u8 0) .i64 .i64 L.t37 L.t3 hi hz0 (l+n) (by omega) (by omega) (by omega) (by rw[hz2];omega)
  rw[show(((l+n:Nat)):Int)=(l:Int)+(n:Int)by omega]at happ
  generalize hcap:grownCap w (l+n) 0 (ρ.t 5)=cap2 at happ
  have hcapge:l+n<=cap2:=by rw[<-hcap];exact grownCap_ge w _ 0 (ρ.t 5)
  have hcaple:cap2<=maxLen:=by rw[<-hcap];exact grownCap_le_maxLen w _ 0 (ρ.t 5) (by unfold maxLen;omega)
  generalize hZ:(Builtin.zeroCells (Value.int .u8 0).cells (l+n)++Builtin.zeroCells (Value.int .u8 0).cells (cap2-(l+n)))=Z at happ
  have hZs:Z.size=cap2:=by rw[<-hZ];simp[size_zeroCells,Value.cells];omega
  clear hcap hZ
  have hsrc1:l=0\/∃ a,A=some a/\∀ j v,olds[j]?=some v->(w.alloc (.cells Z (ρ.t 5))).drew.cell? (a.add j)=some v:=hsrc.imp id fun⟨a,e,h⟩=>⟨a,e,fun j v hj=>(World.cell?_of_block (a:=a.add j) (Below.heap_alloc w _ _ (World.block_lt_of_cell? w _ (h j v hj)))).trans (h j v hj)⟩
  obtain⟨W2,Y,hcopy,hY,hYl,hgb,hsz⟩:=ZlP (P:=P) (w.alloc (.cells Z (ρ.t 5))).drew (ρ.t 37) (ρ.t 37) (ρ.t 3) (ρ.t 5) w.heap.size 0 (l+n) cap2 A l c Z (ρ.t 5) olds L.t37 hsz1 (heap_alloc_new w _) ho (by omega) hsrc1 (by omega) h1
  go_enter_defers L.f290,Body.n290_ntmps ρ
  go_wp2_with (at_builtin;refine Lib.wpList_append_run _ rfl _ _ _ _ rfl _ _ rfl rfl _ _ happ ?_)
  refine leaves_cons (f:=(ρ.f 324)) (args:=#[]) (by simp) (enters_of L.f324 (by kernel_rfl) rfl _ _) ?_
  refine(Any.growSlice_catch_idle { L with } _).mono ?_
  rintro e u' w'' ⟨rfl,rfl,rfl⟩
  refine⟨_,results_tmp rfl _ _ _,?_⟩
  refine⟨cap2,Y,rfl,hY,?_,?_,by omega,hcaple,?_⟩
  ·have h3:=congrArg Xab hYl
   simp only[Xi,X9,Xax,Xw,XM]at h3
   omega
  ·rw[hYl,Xax,XA,X6 (by omega),XI (by omega)]
  ·have hs1:(w.alloc (.cells Z (ρ.t 5))).drew.heap.size=w.heap.size+1:=by show(w.alloc (.cells Z (ρ.t 5))).heap.size=_;simp
   exact⟨hgb.os,hgb.tape,hgb.output,by omega,fun k hk=>(hgb.block k (by omega) (fun e=>by injection e with e;omega)).trans (Below.heap_alloc w _ k hk)⟩
set_option maxRecDepth 100000 in
theorem ZnH(L:LaysM.n181 P ρ)(b:Nat)(ao:Option Addr)(l cap:Nat)(w:World)(c0:w.cell? ⟨b,0,none⟩=some (.slice ao l cap))(c1:w.cell? ⟨b,1,none⟩=some (.int .i64 0))(hmax:l<=maxLen) :
  Calls P (ρ.f 181) #[.pointer (some ⟨b,0,none⟩)] w fun e w'=>e=.returned (.int .i64 l)/\∃ n,w'=w.drewN n:=by
 have mixed:=L.mixed
 have t5:=L.t5;have a5:=L.a5;have z5:=L.z5;have v5:=L.v5
 have t130:=L.t130;have a130:=L.a130;have z130:=L.z130;have v130:=L.v130
 have t3:=L.t3;have a3:=L.a3;have z3:=L.z3;have v3:=L.v3
 have t0:=L.t0;have a0:=L.a0;have z0:=L.z0;have v0:=L.v0
 have t93:=L.t93;have u93:=run_underlying L.t93;have a93:=L.a93;have z93:=L.z93;have v93:=L.v93
 have t37:=L.t37;have a37:=L.a37;have z37:=L.z37;have v37:=L.v37
 unfold maxLen at hmax
 go_enter L.f181,Body.n181_ntmps ρ
 go_wp2
 go_region_o
 all_goals (go_wp2;go_ret;exact⟨by simp,1,rfl⟩)
def ZjA(w:World)(T:TypeId)(R:Nat->Option Value)(b l n:Nat)(olds:List Value)(lr:Int)(e:TypeId)(w':World):Prop :=
 ∃ cap2 cells,LibA.Three w' b 0 T R (.slice (some ⟨w.heap.size,0,none⟩) (l+n) cap2) (.int .i64 0) (.int .i8 lr)/\w'.heap[w.heap.size]?=some (.cells cells e (0,0)) /\
  cells.size=cap2/\cells.toList.take l=olds/\l+n<=cap2/\cap2<=maxLen/\w.grownBy w' (some b)
theorem Zpy{w:World}{b:Nat}{T:TypeId}{R:Nat->Option Value}{x y z:Value}(h:LibA.Three w b 0 T R x y z)(v1 s:Value) :
  LibA.Three (((w.setCell ⟨b,0,none⟩ v1).setCell ⟨b,1,none⟩ (.int .i64 0)).setCell ⟨b,0,none⟩ s) b 0 T R s (.int .i64 0) z:=((h.set0 v1).set1 (.int .i64 0)).set0 s
end
end
section
open Go.Shelf Go.RowKit
section
variable {P:Program}{ρ:Ren}
set_option maxRecDepth 100000 in
theorem ZRy(L:LaysM.n252 P ρ)(T:TypeId)(R:Nat->Option Value)(b:Nat)(n:Nat)(lr:Int)(w:World)
  (hbk:LibA.Three w b 0 T R (.slice none 0 0) (.int .i64 0) (.int .i8 lr)) (hn:1<=n) (h64:n<=64) :
  Calls P (ρ.f 252) #[.pointer (some ⟨b,0,none⟩),.int .i64 n] w fun e w'=>e=.returned (.int .i64 0)/\ZjA w T R b 0 n [] lr (ρ.t 5) w':=by
 have mixed:=L.mixed
 have t5:=L.t5;have a5:=L.a5;have z5:=L.z5;have v5:=L.v5
 have t130:=L.t130;have a130:=L.a130;have z130:=L.z130;have v130:=L.v130
 have t3:=L.t3;have a3:=L.a3;have z3:=L.z3;have v3:=L.v3
 have t4:=L.t4;have a4:=L.a4;have z4:=L.z4;have v4:=L.v4
 have t0:=L.t0;have a0:=L.a0;have z0:=L.z0;have v0:=L.v0
 have t93:=L.t93;have u93:=run_underlying L.t93;have a93:=L.a93;have z93:=L.z93;have v93:=L.v93
 have t131:=L.t131;have a131:=L.a131;have z131:=L.z131;have v131:=L.v131
 have t37:=L.t37;have a37:=L.a37;have z37:=L.z37;have v37:=L.v37
 have t75:=L.t75;have a75:=L.a75;have z75:=L.z75;have v75:=L.v75
 have e181:∀ args w,(callFunc (ρ.f 181) args).run P w=.ok (.enter (ρ.f 181) args) w:=enters_of L.f181 (by kernel_rfl) rfl
 have e251:∀ args w,(callFunc (ρ.f 251) args).run P w=.ok (.enter (ρ.f 251) args) w:=enters_of L.f251 (by kernel_rfl) rfl
 have e290:∀ args w,(callFunc (ρ.f 290) args).run P w=.ok (.enter (ρ.f 290) args) w:=enters_of L.f290 (by kernel_rfl) rfl
 have hnil:∀ W,(binOp .eql (ρ.t 37) (.slice none 0 0) (.slice none 0 0)).run P W=.ok (.bool true) W:=fun W=>Lib.run_eql_slice_nil_nil W _ _ L.t37
 obtain⟨i0,hi,hz0,hz1,hz2⟩:=info_parts L.i5
 obtain⟨M,hM⟩:∃ M,M=madeCells (Value.int .u8 0).cells ((64:Int).toNat*i0.size):=⟨_,rfl⟩
 have hMs:M.size=64:=by rw[hM,size_madeCells,hz1];rfl
 have hmk:∀ W:World,(Instr.makeSlice (ρ.t 37) (.int .i64 (n:Int)) (.int .i64 64)).run P W=.ok (.slice (some ⟨W.heap.size,0,none⟩) n 64) (W.alloc (.cells M (ρ.t 5))):=fun W=>by
  have h:=run_makeSlice (P:=P) W (ρ.t 37) (ρ.t 5) i0 (.int .u8 0) L.t37 hi hz0 .i64 .i64 (n:Int) 64 (by omega) (by omega) (by rw[hz1];decide) (by rw[hz2];decide) (by decide)
  rw[<-hM]at h
  simpa using h
 clear hM
 go_enter L.f252,Body.n252_ntmps ρ
 go_wp2_with (go_at_fn (ρ.f 181);refine(ZnH { L with } b none 0 0 _ hbk.c0 hbk.c1 (by unfold maxLen;omega)).mono ?_)
 rintro e W0 ⟨rfl,k,hW0⟩
 have hbk0:LibA.Three W0 b 0 T R (.slice none 0 0) (.int .i64 0) (.int .i8 lr):=by rw[hW0];exact hbk
 have c0:W0.cell? ⟨b,0,none⟩=some (.slice none 0 0):=hbk0.c0
 have c1:W0.cell? ⟨b,1,none⟩=some (.int .i64 0):=hbk0.c1
 have f0:W0.frozen? ⟨b,0,none⟩=false:=hbk0.f 0
 have f1:W0.frozen? ⟨b,1,none⟩=false:=hbk0.f 1
 have hbW0:=hbk0.lt
 have c0a:∀ o,(W0.alloc o).cell? ⟨b,0,none⟩=some (.slice none 0 0):=fun o=>(World.cell?_of_block (a:=⟨b,0,none⟩) (Below.heap_alloc W0 o b hbW0)).trans c0
 have f0a:∀ o,(W0.alloc o).frozen? ⟨b,0,none⟩=false:=fun o=>(World.frozen?_of_block (a:=⟨b,0,none⟩) (Below.heap_alloc W0 o b hbW0)).trans f0
 have HW0:=Lib.hid hW0
 clear hW0
 go_wp2_with (go_at_fn (ρ.f 251);refine(Any.Buffer_tryGrow_none_at { L with } b 0 _ 0 0 n _ c0 (XF _) (Xbh _) (by omega)).mono ?_;rintro e w' ⟨rfl,rfl⟩)
 go_ret
 have hsz0:w'.heap.size=w.heap.size:=by rw[HW0.out];rfl
 have hg0:w.grownBy w' (some b):=by rw[HW0.out];exact⟨rfl,rfl,rfl,XF _,fun _ _ _=>rfl⟩
 have hszc:(w'.setCell ⟨b,0,none⟩ (.slice (some ⟨w'.heap.size,0,none⟩) n 64)).heap.size=w'.heap.size:=by simp[World.setCell]
 refine⟨rfl,64,M,?_,?_,hMs,by simp,by omega,by unfold maxLen;omega,Lib.grownBy_allocR (Lib.grownBy_setB hg0 0 _) _⟩
 ·rw[XB,<-hsz0]
  exact(hbk0.set0 (.slice (some ⟨w'.heap.size,0,none⟩) n 64)).of_heap (Below.heap_alloc _ _ b (by rw[hszc];exact hbW0))
 ·have h:=heap_alloc_new (w'.setCell ⟨b,0,none⟩ (.slice (some ⟨w'.heap.size,0,none⟩) n 64)) (.cells M (ρ.t 5))
  rw[hszc]at h
  rw[<-hsz0]
  exact h
set_option maxRecDepth 100000 in
theorem ZOo (L : LaysM.n252 P ρ) (T : TypeId) (R : Nat -> Option Value) (b : Nat)  (n : Nat) (lr : Int) (w : World)
    (hbk : LibA.Three w b 0 T R (.slice none 0 0) (.int .i64 0) (.int .i8 lr)) (h64 : 64 < n) (hlim : n <= 70368744177664) :
    Calls P (ρ.f 252) #[.pointer (some ⟨b, 0, none⟩), .int .i64 n] w fun e w' => e = .returned (.int .i64 0) /\ ZjA w T R b 0 n [] lr (ρ.t 5) w' := by
  have mixed := L.mixed
  have t5 := L.t5; have a5 := L.a5; have z5 := L.z5; have v5 := L.v5
  have t130 := L.t130; have a130 := L.a130; have z130 := L.z130; have v130 := L.v130
  have t3 := L.t3; have a3 := L.a3; have z3 := L.z3; have v3 := L.v3
  have t4 := L.t4; have a4 := L.a4; have z4 := L.z4; have v4 := L.v4
  have t0 := L.t0; have a0 := L.a0; have z0 := L.z0; have v0 := L.v0
  have t93 := L.t93; have u93 := run_underlying L.t93; have a93 := L.a93; have z93 := L.z93; have v93 := L.v93
  have t131 := L.t131; have a131 := L.a131; have z131 := L.z131; have v131 := L.v131
  have t37 := L.t37; have a37 := L.a37; have z37 := L.z37; have v37 := L.v37
  have t75 := L.t75; have a75 := L.a75; have z75 := L.z75; have v75 := L.v75
  have e181 : ∀ args w, (callFunc (ρ.f 181) args).run P w = .ok (.enter (ρ.f 181) args) w := enters_of L.f181 (by kernel_rfl) rfl
  have e251 : ∀ args w, (callFunc (ρ.f 251) args).run P w = .ok (.enter (ρ.f 251) args) w := enters_of L.f251 (by kernel_rfl) rfl
  have e290 : ∀ args w, (callFunc (ρ.f 290) args).run P w = .ok (.enter (ρ.f 290) args) w := enters_of L.f290 (by kernel_rfl) rfl
  have hnil : ∀ W, (binOp .eql (ρ.t 37) (.slice none 0 0) (.slice none 0 0)).run P W = .ok (.bool true) W := fun W => Lib.run_eql_slice_nil_nil W _ _ L.t37
  have hc2 : 0 <= 140737488355328 := by omega
  have hcm' : 0 <= maxLen := by unfold maxLen; omega
  go_enter L.f252, Body.n252_ntmps ρ
  go_wp2_with (go_at_fn (ρ.f 181); refine (ZnH { L with } b none 0 0 _ hbk.c0 hbk.c1 (by unfold maxLen; omega)).mono ?_)
  rintro e W0 ⟨rfl, k, hW0⟩
  have hbk0 : LibA.Three W0 b 0 T R (.slice none 0 0) (.int .i64 0) (.int .i8 lr) := by rw [hW0]; exact hbk
  have c0 : W0.cell? ⟨b, 0, none⟩ = some (.slice none 0 0) := hbk0.c0
  have c1 : W0.cell? ⟨b, 1, none⟩ = some (.int .i64 0) := hbk0.c1
  have f0 : W0.frozen? ⟨b, 0, none⟩ = false := hbk0.f 0
  have f1 : W0.frozen? ⟨b, 1, none⟩ = false := hbk0.f 1
  have HW0 := Lib.hid hW0
  clear hW0
  go_wp2_with (go_at_fn (ρ.f 251); refine (Any.Buffer_tryGrow_none_at { L with } b 0 _ 0 0 n _ c0 (by omega) hcm' (by omega)).mono ?_; rintro e w' ⟨rfl, rfl⟩)
  have hbW := hbk0.lt
  have hwn : IntKind.i64.wrap (n : Int) = n := by rw [IntKind.wrap_i64]; omega
  go_region_with_o (
      go_at_fn (ρ.f 290)
      refine (ZrL { L with } none 0 0 n [] _ ?_ (by omega) (by omega) (by omega) hc2 ?_ ?_).mono ?_
      . first | exact ho | rfl
      . exact Xr rfl
      . first | exact h1 | exact fun v h => by cases h
      rintro e w2 ⟨cap2, cells, rfl, hN, hcsz, htk, hcap2, hcm2, hbel⟩
      have hbk2 : LibA.Three w2 b 0 T R (.slice none 0 0) (.int .i64 0) (.int .i8 lr) := hbk0.of_heap (hbel.block b hbW)
      have d0 : w2.cell? ⟨b, 0, none⟩ = some (.slice none 0 0) := hbk2.c0
      have d1 : w2.cell? ⟨b, 1, none⟩ = some (.int .i64 0) := hbk2.c1
      have e0 : w2.frozen? ⟨b, 0, none⟩ = false := hbk2.f 0
      have e1 : w2.frozen? ⟨b, 1, none⟩ = false := hbk2.f 1)
  all_goals (
    go_wp2
    go_ret
    have hsz0 : w'.heap.size = w.heap.size := by rw [HW0.out]; rfl
    have hg2 : w.grownBy w2 (some b) := Lib.grownBy_below (w := w'.drew) (by rw [HW0.out]; exact ⟨rfl, rfl, rfl, XF _, fun _ _ _ => rfl⟩) hbel
    refine ⟨rfl, cap2, cells, ?_, ?_, hcsz, htk, hcap2, hcm2, Lib.grownBy_setB (Lib.grownBy_setB (Lib.grownBy_setB hg2 0 _) 1 _) 0 _⟩
    . rw [XB, <- hsz0]; exact Zpy hbk2 _ _
    . have hNb : w.heap.size ≠ b := by omega
      rw [Below.heap_setCell _ _ _ _ hNb, Below.heap_setCell _ _ _ _ hNb, Below.heap_setCell _ _ _ _ hNb]
      rw [<- hsz0]; exact hN)
end
end
section
open Go.Shelf Go.RowKit
section
variable {P:Program}{ρ:Ren}
set_option maxRecDepth 100000 in
theorem ZOv (L : LaysM.n252 P ρ) (T : TypeId) (R : Nat -> Option Value) (b : Nat) (x : Addr) (cap : Nat) (n : Nat) (lr : Int) (w : World)
    (hbk : LibA.Three w b 0 T R (.slice (some x) 0 cap) (.int .i64 0) (.int .i8 lr)) (hroom : cap < n) (hlim : n <= 70368744177664) :
    Calls P (ρ.f 252) #[.pointer (some ⟨b, 0, none⟩), .int .i64 n] w fun e w' => e = .returned (.int .i64 0) /\ ZjA w T R b 0 n [] lr (ρ.t 5) w' := by
  have mixed := L.mixed
  have t5 := L.t5; have a5 := L.a5; have z5 := L.z5; have v5 := L.v5
  have t130 := L.t130; have a130 := L.a130; have z130 := L.z130; have v130 := L.v130
  have t3 := L.t3; have a3 := L.a3; have z3 := L.z3; have v3 := L.v3
  have t4 := L.t4; have a4 := L.a4; have z4 := L.z4; have v4 := L.v4
  have t0 := L.t0; have a0 := L.a0; have z0 := L.z0; have v0 := L.v0
  have t93 := L.t93; have u93 := run_underlying L.t93; have a93 := L.a93; have z93 := L.z93; have v93 := L.v93
  have t131 := L.t131; have a131 := L.a131; have z131 := L.z131; have v131 := L.v131
  have t37 := L.t37; have a37 := L.a37; have z37 := L.z37; have v37 := L.v37
  have t75 := L.t75; have a75 := L.a75; have z75 := L.z75; have v75 := L.v75
  have e181 : ∀ args w, (callFunc (ρ.f 181) args).run P w = .ok (.enter (ρ.f 181) args) w := enters_of L.f181 (by kernel_rfl) rfl
  have e251 : ∀ args w, (callFunc (ρ.f 251) args).run P w = .ok (.enter (ρ.f 251) args) w := enters_of L.f251 (by kernel_rfl) rfl
  have e290 : ∀ args w, (callFunc (ρ.f 290) args).run P w = .ok (.enter (ρ.f 290) args) w := enters_of L.f290 (by kernel_rfl) rfl
  have hnil : ∀ W, (binOp .eql (ρ.t 37) (.slice (some x) 0 cap) (.slice none 0 0)).run P W = .ok (.bool false) W := fun W => Lib.run_eql_slice_some_nil W _ _ _ L.t37
  have hc2 : cap <= 140737488355328 := by omega
  have hcm' : cap <= maxLen := by unfold maxLen; omega
  go_enter L.f252, Body.n252_ntmps ρ
  go_wp2_with (go_at_fn (ρ.f 181); refine (ZnH { L with } b (some x) 0 cap _ hbk.c0 hbk.c1 (by unfold maxLen; omega)).mono ?_)
  rintro e W0 ⟨rfl, k, hW0⟩
  have hbk0 : LibA.Three W0 b 0 T R (.slice (some x) 0 cap) (.int .i64 0) (.int .i8 lr) := by rw [hW0]; exact hbk
  have c0 : W0.cell? ⟨b, 0, none⟩ = some (.slice (some x) 0 cap) := hbk0.c0
  have c1 : W0.cell? ⟨b, 1, none⟩ = some (.int .i64 0) := hbk0.c1
  have f0 : W0.frozen? ⟨b, 0, none⟩ = false := hbk0.f 0
  have f1 : W0.frozen? ⟨b, 1, none⟩ = false := hbk0.f 1
  have HW0 := Lib.hid hW0
  clear hW0
  go_wp2_with (go_at_fn (ρ.f 251); refine (Any.Buffer_tryGrow_none_at { L with } b 0 _ 0 cap n _ c0 (by omega) hcm' (by omega)).mono ?_; rintro e w' ⟨rfl, rfl⟩)
  have hbW := hbk0.lt
  have hwn : IntKind.i64.wrap (n : Int) = n := by rw [IntKind.wrap_i64]; omega
  go_region_with_o (
      go_at_fn (ρ.f 290)
      refine (ZrL { L with } (some x) 0 cap n [] _ ?_ (by omega) (by omega) (by omega) hc2 ?_ ?_).mono ?_
      . first | exact ho | rfl
      . exact Xr rfl
      . first | exact h1 | exact fun v h => by cases h
      rintro e w2 ⟨cap2, cells, rfl, hN, hcsz, htk, hcap2, hcm2, hbel⟩
      have hbk2 : LibA.Three w2 b 0 T R (.slice (some x) 0 cap) (.int .i64 0) (.int .i8 lr) := hbk0.of_heap (hbel.block b hbW)
      have d0 : w2.cell? ⟨b, 0, none⟩ = some (.slice (some x) 0 cap) := hbk2.c0
      have d1 : w2.cell? ⟨b, 1, none⟩ = some (.int .i64 0) := hbk2.c1
      have e0 : w2.frozen? ⟨b, 0, none⟩ = false := hbk2.f 0
      have e1 : w2.frozen? ⟨b, 1, none⟩ = false := hbk2.f 1)
  all_goals (
    go_wp2
    go_ret
    have hsz0 : w'.heap.size = w.heap.size := by rw [HW0.out]; rfl
    have hg2 : w.grownBy w2 (some b) := Lib.grownBy_below (w := w'.drew) (by rw [HW0.out]; exact ⟨rfl, rfl, rfl, XF _, fun _ _ _ => rfl⟩) hbel
    refine ⟨rfl, cap2, cells, ?_, ?_, hcsz, htk, hcap2, hcm2, Lib.grownBy_setB (Lib.grownBy_setB (Lib.grownBy_setB hg2 0 _) 1 _) 0 _⟩
    . rw [XB, <- hsz0]; exact Zpy hbk2 _ _
    . have hNb : w.heap.size ≠ b := by omega
      rw [Below.heap_setCell _ _ _ _ hNb, Below.heap_setCell _ _ _ _ hNb, Below.heap_setCell _ _ _ _ hNb]
      rw [<- hsz0]; exact hN)
end
end
section
open Go.Shelf Go.RowKit
section
variable {P:Program}{ρ:Ren}
set_option maxRecDepth 100000 in
theorem ZBy (L : LaysM.n252 P ρ) (T : TypeId) (R : Nat -> Option Value) (b : Nat) (x : Addr) (l cap : Nat) (olds : List Value) (n : Nat) (lr : Int) (w : World)
    (hbk : LibA.Three w b 0 T R (.slice (some x) l cap) (.int .i64 0) (.int .i8 lr)) (hl0 : l ≠ 0) (ho : olds.length = l) (h1 : ∀ v ∈ olds, v.oneCell' = true) (hlc : l <= cap) (hroom : cap - l < n) (hlim : l + n <= 70368744177664)
    (hold : l = 0 \/ ∃ a, some x = some a /\ ∀ j v, (olds)[j]? = some v -> w.cell? (a.add j) = some v)  :
    Calls P (ρ.f 252) #[.pointer (some ⟨b, 0, none⟩), .int .i64 n] w fun e w' => e = .returned (.int .i64 l) /\ ZjA w T R b l n olds lr (ρ.t 5) w' := by
  have mixed := L.mixed
  have t5 := L.t5; have a5 := L.a5; have z5 := L.z5; have v5 := L.v5
  have t130 := L.t130; have a130 := L.a130; have z130 := L.z130; have v130 := L.v130
  have t3 := L.t3; have a3 := L.a3; have z3 := L.z3; have v3 := L.v3
  have t4 := L.t4; have a4 := L.a4; have z4 := L.z4; have v4 := L.v4
  have t0 := L.t0; have a0 := L.a0; have z0 := L.z0; have v0 := L.v0
  have t93 := L.t93; have u93 := run_underlying L.t93; have a93 := L.a93; have z93 := L.z93; have v93 := L.v93
  have t131 := L.t131; have a131 := L.a131; have z131 := L.z131; have v131 := L.v131
  have t37 := L.t37; have a37 := L.a37; have z37 := L.z37; have v37 := L.v37
  have t75 := L.t75; have a75 := L.a75; have z75 := L.z75; have v75 := L.v75
  have e181 : ∀ args w, (callFunc (ρ.f 181) args).run P w = .ok (.enter (ρ.f 181) args) w := enters_of L.f181 (by kernel_rfl) rfl
  have e251 : ∀ args w, (callFunc (ρ.f 251) args).run P w = .ok (.enter (ρ.f 251) args) w := enters_of L.f251 (by kernel_rfl) rfl
  have e290 : ∀ args w, (callFunc (ρ.f 290) args).run P w = .ok (.enter (ρ.f 290) args) w := enters_of L.f290 (by kernel_rfl) rfl
  have hnil : ∀ W, (binOp .eql (ρ.t 37) (.slice (some x) l cap) (.slice none 0 0)).run P W = .ok (.bool false) W := fun W => Lib.run_eql_slice_some_nil W _ _ _ L.t37
  have hc2 : cap <= 140737488355328 := by omega
  have hcm' : cap <= maxLen := by unfold maxLen; omega
  go_enter L.f252, Body.n252_ntmps ρ
  go_wp2_with (go_at_fn (ρ.f 181); refine (ZnH { L with } b (some x) l cap _ hbk.c0 hbk.c1 (by unfold maxLen; omega)).mono ?_)
  rintro e W0 ⟨rfl, k, hW0⟩
  have hbk0 : LibA.Three W0 b 0 T R (.slice (some x) l cap) (.int .i64 0) (.int .i8 lr) := by rw [hW0]; exact hbk
  have c0 : W0.cell? ⟨b, 0, none⟩ = some (.slice (some x) l cap) := hbk0.c0
  have c1 : W0.cell? ⟨b, 1, none⟩ = some (.int .i64 0) := hbk0.c1
  have f0 : W0.frozen? ⟨b, 0, none⟩ = false := hbk0.f 0
  have f1 : W0.frozen? ⟨b, 1, none⟩ = false := hbk0.f 1
  have hold0 : l = 0 \/ ∃ a, some x = some a /\ ∀ j v, (olds)[j]? = some v -> W0.cell? (a.add j) = some v := by rw [hW0]; exact hold
  have HW0 := Lib.hid hW0
  clear hW0 hold
  go_wp2_with (go_at_fn (ρ.f 251); refine (Any.Buffer_tryGrow_none_at { L with } b 0 _ l cap n _ c0 (by omega) hcm' (by omega)).mono ?_; rintro e w' ⟨rfl, rfl⟩)
  have hbW := hbk0.lt
  have hwn : IntKind.i64.wrap (n : Int) = n := by rw [IntKind.wrap_i64]; omega
  go_region_with_o (
      go_at_fn (ρ.f 290)
      refine (ZrL { L with } (some x) l cap n olds _ ?_ (by omega) (by omega) (by omega) hc2 ?_ ?_).mono ?_
      . first | exact ho | rfl
      . exact hold0
      . first | exact h1 | exact fun v h => by cases h
      rintro e w2 ⟨cap2, cells, rfl, hN, hcsz, htk, hcap2, hcm2, hbel⟩
      have hbk2 : LibA.Three w2 b 0 T R (.slice (some x) l cap) (.int .i64 0) (.int .i8 lr) := hbk0.of_heap (hbel.block b hbW)
      have d0 : w2.cell? ⟨b, 0, none⟩ = some (.slice (some x) l cap) := hbk2.c0
      have d1 : w2.cell? ⟨b, 1, none⟩ = some (.int .i64 0) := hbk2.c1
      have e0 : w2.frozen? ⟨b, 0, none⟩ = false := hbk2.f 0
      have e1 : w2.frozen? ⟨b, 1, none⟩ = false := hbk2.f 1)
  all_goals (
    go_wp2
    go_ret
    have hsz0 : w'.heap.size = w.heap.size := by rw [HW0.out]; rfl
    have hg2 : w.grownBy w2 (some b) := Lib.grownBy_below (w := w'.drew) (by rw [HW0.out]; exact ⟨rfl, rfl, rfl, XF _, fun _ _ _ => rfl⟩) hbel
    refine ⟨rfl, cap2, cells, ?_, ?_, hcsz, htk, hcap2, hcm2, Lib.grownBy_setB (Lib.grownBy_setB (Lib.grownBy_setB hg2 0 _) 1 _) 0 _⟩
    . rw [<- hsz0]; exact Zpy hbk2 _ _
    . have hNb : w.heap.size ≠ b := by omega
      rw [Below.heap_setCell _ _ _ _ hNb, Below.heap_setCell _ _ _ _ hNb, Below.heap_setCell _ _ _ _ hNb]
      rw [<- hsz0]; exact hN)
end
end
section
open Go.Shelf Go.RowKit
section
variable {P:Program}{ρ:Ren}
def BufRow(w:World)(b:Nat)(A:Option Addr)(l cap:Nat)(olds:List Value):Prop :=
 olds.length=l/\l<=cap/\cap<=maxLen/\(∀ v∈olds,v.oneCell'=true)/\(cap=0\/∃ g cur t,A=some ⟨g,0,none⟩/\g≠b/\w.heap[g]?=some (.cells cur t (0,0))/\cur.size=cap/\cur.toList.take l=olds)
theorem BufRow.hold{w:World}{b:Nat}{A:Option Addr}{l cap:Nat}{olds:List Value}(h:BufRow w b A l cap olds):l=0\/∃ a,A=some a/\∀ j v,olds[j]?=some v->w.cell? (a.add j)=some v:=by
 obtain⟨h1,h2,h3,h4,h5 |⟨g,cur,t,h5,h6,h7,h8,h9⟩⟩:=h
 ·exact Xr (by omega)
 ·exact XE ⟨_,h5,by rw[<-h9];exact Lib.cells_of_row h7 l⟩
theorem ZUv(L:LaysM.n252 P ρ)(T:TypeId)(R:Nat->Option Value)(b:Nat)(A:Option Addr)(l cap:Nat)(olds:List Value)(n:Nat)(lr:Int)(w:World)
  (hbk:LibA.Three w b 0 T R (.slice A l cap) (.int .i64 0) (.int .i8 lr)) (hr:BufRow w b A l cap olds) (hA:A=none->cap=0) (hroom:cap-l<n) (hlim:l+n<=70368744177664) :
  Calls P (ρ.f 252) #[.pointer (some ⟨b,0,none⟩),.int .i64 n] w fun e w'=>e=.returned (.int .i64 l)/\ZjA w T R b l n olds lr (ρ.t 5) w':=by
 have hold:=hr.hold
 obtain⟨h1,h2,h3,h4,h5⟩:=hr
 cases A with
 |none =>
  have hc:=hA rfl
  subst hc
  have hl0:l=0:=by omega
  subst hl0
  have ho:olds=[]:=XG h1
  subst ho
  by_cases h64:n<=64
  ·exact ZRy L T R b n lr w hbk (by omega) h64
  ·exact ZOo L T R b n lr w hbk (by omega) (by omega)
 |some x =>
  by_cases hl0:l=0
  ·subst hl0
   have ho:olds=[]:=XG h1
   subst ho
   exact ZOv L T R b x cap n lr w hbk (by omega) (by omega)
  ·exact ZBy L T R b x l cap olds n lr w hbk hl0 h1 h4 h2 hroom hlim hold
def ZxP(w:World)(T:TypeId)(R:Nat->Option Value)(b:Nat)(A:Option Addr)(l n cap:Nat)(all:List Value)(w':World):Prop :=
 ∃ A' cap',LibA.Three w' b 0 T R (.slice A' (l+n) cap') (.int .i64 0) (.int .i8 0)/\l+n<=cap'/\cap'<=maxLen /\
  ((n=0/\A'=A/\cap'=cap/\w.grownBy w' (some b)) \/
   ∃ G W1 Y t,A'=some ⟨G,0,none⟩/\(G=w.heap.size\/(A=some ⟨G,0,none⟩/\cap≠0))/\G≠b/\w.grownBy W1 (some b)/\W1.grownBy w' (some G)/\w'.heap[G]?=some (.cells Y t (0,0))/\Y.size=cap'/\Y.toList.take (l+n)=all)
set_option maxRecDepth 100000 in
theorem ZSx(L:LaysM.n180 P ρ)(T:TypeId)(R:Nat->Option Value)(b:Nat)(A:Option Addr)(l cap:Nat)(lr:Int)(olds news:List Value)(pa:Option Addr)(n pc:Nat)(w:World)
  (hbk:LibA.Three w b 0 T R (.slice A l cap) (.int .i64 0) (.int .i8 lr)) (hr:BufRow w b A l cap olds) (hA:A=none->cap=0) (hnews:news.length=n) (h1c:∀ v∈news,v.oneCell'=true)
  (hsrc:n=0\/∃ a,pa=some a/\a.block≠b/\∀ j v,news[j]?=some v->w.cell? (a.add j)=some v) (hlim:l+n<=70368744177664) :
  Calls P (ρ.f 180) #[.pointer (some ⟨b,0,none⟩),.slice pa n pc] w fun e w'=>e=.returned (.tuple #[.int .i64 n,.nilIface])/\ZxP w T R b A l n cap (olds++news) w':=by
 have mixed:=L.mixed
 have t5:=L.t5;have a5:=L.a5;have z5:=L.z5;have v5:=L.v5
 have t130:=L.t130;have a130:=L.a130;have z130:=L.z130;have v130:=L.v130
 have t37:=L.t37;have a37:=L.a37;have z37:=L.z37;have v37:=L.v37
 have t3:=L.t3;have a3:=L.a3;have z3:=L.z3;have v3:=L.v3
 have t75:=L.t75;have a75:=L.a75;have z75:=L.z75;have v75:=L.v75
 have t0:=L.t0;have a0:=L.a0;have z0:=L.z0;have v0:=L.v0
 have t93:=L.t93;have u93:=run_underlying L.t93;have a93:=L.a93;have z93:=L.z93;have v93:=L.v93
 have t91:=L.t91;have a91:=L.a91;have z91:=L.z91;have v91:=L.v91
 have t131:=L.t131;have a131:=L.a131;have z131:=L.z131;have v131:=L.v131
 have t4:=L.t4;have a4:=L.a4;have z4:=L.z4;have v4:=L.v4
 have e251:∀ args w,(callFunc (ρ.f 251) args).run P w=.ok (.enter (ρ.f 251) args) w:=enters_of L.f251 (by kernel_rfl) rfl
 have e252:∀ args w,(callFunc (ρ.f 252) args).run P w=.ok (.enter (ρ.f 252) args) w:=enters_of L.f252 (by kernel_rfl) rfl
 have c2:w.cell? ⟨b,2,none⟩=some (.int .i8 lr):=hbk.c2
 have f2:w.frozen? ⟨b,2,none⟩=false:=hbk.f 2
 have hinfo:(P.info? (ρ.t 5)).map (·.size)=some 1:=by
  obtain⟨i0,hi,-,hz1,-⟩:=info_parts L.i5
  rw[hi];simp[hz1]
 obtain⟨ho,hlc,hcm,h1,hrow⟩:=id hr
 have hbkA:LibA.Three (w.setCell ⟨b,2,none⟩ (.int .i8 0)) b 0 T R (.slice A l cap) (.int .i64 0) (.int .i8 0):=hbk.set2 _
 have hgA:w.grownBy (w.setCell ⟨b,2,none⟩ (.int .i8 0)) (some b):=Lib.grownBy_setCell w b 2 _
 have hszA:(w.setCell ⟨b,2,none⟩ (.int .i8 0)).heap.size=w.heap.size:=by simp[World.setCell]
 have hrA:BufRow (w.setCell ⟨b,2,none⟩ (.int .i8 0)) b A l cap olds:=⟨ho,hlc,hcm,h1,hrow.imp id fun⟨g,cur,t,e,hgb,hg,r⟩=>⟨g,cur,t,e,hgb,(Below.heap_setCell _ _ _ _ hgb).trans hg,r⟩⟩
 by_cases hroom:n<=cap-l
 ·by_cases hs0:n=0
  ·
   subst hs0
   have hc0:news=[]:=XG hnews
   subst hc0
   have hce:∀ d dLen dCap W,(Builtin.copy_ #[(ρ.t 37),(ρ.t 37)] (ρ.t 3) #[.slice d dLen dCap,.slice pa 0 pc]).run P W=.ok (goInt 0) W:=fun d dLen dCap W=>run_copy_none W (ρ.t 37) (ρ.t 37) (ρ.t 3) (ρ.t 5) d pa dLen dCap 0 pc L.t37 hinfo (by simp)
   have hT:∀ W,W.cell? ⟨b,0,none⟩=some (.slice A l cap)->W.frozen? ⟨b,0,none⟩=false->Calls P (ρ.f 251) #[.pointer (some ⟨b,0,none⟩),.int .i64 0] W (fun e w'=>e=.returned (.tuple #[.int .i64 l,.bool true])/\w'=W.setCell ⟨b,0,none⟩ (.slice A l cap)):=fun W q1 q2=>Any.Buffer_tryGrow_room_at { L with } b 0 A l cap 0 W q1 q2 hlc hcm (Xbh _)
   clear hsrc hroom hlim
   go_enter L.f180,Body.n180_ntmps ρ
   go_wp2_with (go_at_fn (ρ.f 251);refine(hT _ ?_ ?_).mono ?_)
   ·exact hbkA.c0
   ·exact hbkA.f 0
   rintro e W1 ⟨rfl,hW1⟩
   have hbk1:LibA.Three W1 b 0 T R (.slice A l cap) (.int .i64 0) (.int .i8 0):=by rw[hW1];exact hbkA.set0 _
   have hgW:w.grownBy W1 (some b):=by rw[hW1];exact Lib.grownBy_setB hgA 0 _
   clear hW1 hbkA hgA hszA hrA c2 f2 hT
   have d0:W1.cell? ⟨b,0,none⟩=some (.slice A l cap):=hbk1.c0
   have hcm':=hcm
   unfold maxLen at hcm'
   have hfin:ZxP w T R b A l 0 cap (olds++[]) W1:=⟨A,cap,hbk1,hlc,hcm,Xr ⟨rfl,rfl,rfl,hgW⟩⟩
   clear hrow hr
   cases A
   all_goals (go_wp2;all_goals (go_ret2;first |exact⟨rfl,hfin⟩ |exact⟨by simp,by simpa using hfin⟩ |(refine⟨by simp,?_⟩;have hcl:l=cap:=(by omega);simpa[hcl]using hfin)))
  ·
   go_enter L.f180,Body.n180_ntmps ρ
   go_wp2_with (go_at_fn (ρ.f 251);refine(Any.Buffer_tryGrow_room_at { L with } b 0 A l cap n _ ?_ ?_ hlc hcm hroom).mono ?_)
   ·exact hbkA.c0
   ·exact hbkA.f 0
   rintro e W1 ⟨rfl,hW1⟩
   obtain⟨G,cap',cur,t,hbk1,hG,hcs,htk,hlc',hcm',hGb,hGw,hgW⟩:∃ G cap' cur t,LibA.Three W1 b 0 T R (.slice (some ⟨G,0,none⟩) (l+n) cap') (.int .i64 0) (.int .i8 0)/\W1.heap[G]?=some (.cells cur t (0,0))/\cur.size=cap'/\cur.toList.take l=olds/\l+n<=cap'/\cap'<=maxLen/\G≠b/\(G=w.heap.size\/(A=some ⟨G,0,none⟩/\cap≠0))/\w.grownBy W1 (some b):=by
    obtain hc |⟨g,cur,t,e,hgb,hg,hcs,htk⟩:=hrow
    ·omega
    ·refine⟨g,cap,cur,t,?_,?_,hcs,htk,by omega,hcm,hgb,XE ⟨e,by omega⟩,?_⟩
     ·rw[hW1,e];rw[e]at hbkA;exact hbkA.set0 _
     ·rw[hW1,Below.heap_setCell _ _ _ _ hgb,Below.heap_setCell _ _ _ _ hgb];exact hg
     ·rw[hW1];exact Lib.grownBy_setB hgA 0 _
   clear hW1 hbkA hgA hszA hrA c2 f2 hrow
   have d0:W1.cell? ⟨b,0,none⟩=some (.slice (some ⟨G,0,none⟩) (l+n) cap'):=hbk1.c0
   have hne:¬cap'=l:=by omega
   have hsrc1:n=0\/∃ a,pa=some a/\∀ j v,news[j]?=some v->W1.cell? (a.add j)=some v:=hsrc.imp id fun⟨a,e,hab,h⟩=>⟨a,e,fun j v hj=>hgW.cell (h j v hj) (by rw[Lib.block_add];exact fun e=>hab (WE e))⟩
   obtain⟨W2,Y,hcp,hY,hYl,hgb,hsz⟩:=ZlP (P:=P) W1 (ρ.t 37) (ρ.t 37) (ρ.t 3) (ρ.t 5) G l n (cap'-l) pa n pc cur t news L.t37 hinfo hG hnews (XF _) hsrc1 (by omega) h1c
   have hYs:Y.size=cap':=by
    have h3:=congrArg Xab hYl
    simp only[Xi,X9,X0,XM]at h3
    omega
   have hYt:Y.toList.take (l+n)=olds++news:=by
    rw[hYl,htk,X6 (by simp;omega),XI (by simp;omega)]
   have hW2:LibA.Three W2 b 0 T R (.slice (some ⟨G,0,none⟩) (l+n) cap') (.int .i64 0) (.int .i8 0):=hbk1.of_heap (hgb.block b hbk1.lt (fun e=>hGb (WE e).symm))
   have hcm2:=hcm'
   unfold maxLen at hcm2
   have hgb0:=hgb
   have hYr:=hY
   clear hsrc hsrc1 hr hA
   go_wp2
   go_ret2
   exact⟨rfl,_,_,hW2,hlc',hcm',XE ⟨G,W1,Y,t,rfl,hGw,hGb,hgW,hgb0,hYr,hYs,hYt⟩⟩
 ·
  go_enter L.f180,Body.n180_ntmps ρ
  go_wp2_with (go_at_fn (ρ.f 251);refine(Any.Buffer_tryGrow_none_at { L with } b 0 A l cap n _ ?_ hlc hcm (by omega)).mono ?_)
  ·exact hbkA.c0
  rintro e W0 ⟨rfl,hW0⟩
  rw[<-hW0]at hbkA hgA hszA hrA
  clear hW0 c2 f2
  have hroom':cap-l<n:=by omega
  go_wp2_with (go_at_fn (ρ.f 252);refine(ZUv { L with } T R b A l cap olds n 0 _ ?_ ?_ hA hroom' hlim).mono ?_)
  ·exact hbkA
  ·exact hrA
  rintro e W1 ⟨rfl,cap',cur,hbk1,hG,hcs,htk,hlc',hcm',hgB⟩
  obtain⟨G,hGe⟩:∃ G,G=w.heap.size:=⟨_,rfl⟩
  rw[hszA,<-hGe]at hbk1 hG
  have hGw:G=w.heap.size\/(A=some ⟨G,0,none⟩/\cap≠0):=Xr hGe
  have hGb:G≠b:=by have:=hbk.lt;omega
  have hgW:w.grownBy W1 (some b):=Lib.grownBy_trans hgA hgB
  obtain⟨t,ht⟩:∃ t,t=ρ.t 5:=⟨_,rfl⟩
  rw[<-ht]at hG
  clear hbkA hgA hszA hrA hgB hGe hrow hroom
  have d0:W1.cell? ⟨b,0,none⟩=some (.slice (some ⟨G,0,none⟩) (l+n) cap'):=hbk1.c0
  have hne:¬cap'=l:=by omega
  have hsrc1:n=0\/∃ a,pa=some a/\∀ j v,news[j]?=some v->W1.cell? (a.add j)=some v:=hsrc.imp id fun⟨a,e,hab,h⟩=>⟨a,e,fun j v hj=>hgW.cell (h j v hj) (by rw[Lib.block_add];exact fun e=>hab (WE e))⟩
  obtain⟨W2,Y,hcp,hY,hYl,hgb,hsz⟩:=ZlP (P:=P) W1 (ρ.t 37) (ρ.t 37) (ρ.t 3) (ρ.t 5) G l n (cap'-l) pa n pc cur t news L.t37 hinfo hG hnews (XF _) hsrc1 (by omega) h1c
  have hYs:Y.size=cap':=by
   have h3:=congrArg Xab hYl
   simp only[Xi,X9,X0,XM]at h3
   omega
  have hYt:Y.toList.take (l+n)=olds++news:=by
   rw[hYl,htk,X6 (by simp;omega),XI (by simp;omega)]
  have hW2:LibA.Three W2 b 0 T R (.slice (some ⟨G,0,none⟩) (l+n) cap') (.int .i64 0) (.int .i8 0):=hbk1.of_heap (hgb.block b hbk1.lt (fun e=>hGb (WE e).symm))
  have hcm2:=hcm'
  unfold maxLen at hcm2
  have hgb0:=hgb
  have hYr:=hY
  clear hsrc hsrc1 hr hA
  go_wp2
  go_ret2
  exact⟨rfl,_,_,hW2,hlc',hcm',XE ⟨G,W1,Y,t,rfl,hGw,hGb,hgW,hgb0,hYr,hYs,hYt⟩⟩
end
end
section
open Go.Shelf Go.RowKit
section
variable {P:Program}{ρ:Ren}{base:Nat->Prop}{w0 w w':World}{I0 I:Imm}{β:Bmap}{σ:Za}
theorem ZHz{b:Nat}{ty:TypeId}{x y z:Value}(h:LibA.Three w b 0 ty (fun _=>none) x y z):w.heap[b]?=some (.cells #[x,y,z] ty (0,0)):=by
 obtain⟨cs,hb,h0,h1,h2,hr⟩:=h
 rw[hb]
 have : cs=#[x,y,z]:=by
  apply Array.ext_getElem?
  intro i
  match i with
  |0=>exact h0
  |1=>exact h1
  |2=>exact h2
  |i+3=>rw[hr (i+3) (XE (by omega))];exact(Array.getElem?_eq_none (by simp)).symm
 rw[this]
theorem ZSc{k:Nat}{y:AVal}{ys:List AVal}{b off:Nat}(h:LR I β k (y::ys) b off)(hk:0<k):∃ u,I b off=some u:=by
 rw[Zgz]at h
 obtain⟨⟨h1,h2⟩,_⟩:=h
 cases hc:y.cells with
 |nil=>rw[hc]at h1;simp at h1;omega
 |cons c cs =>
  rw[hc]at h2
  simp only[CR]at h2
  obtain⟨⟨u,hu,_⟩,_⟩:=h2
  exact⟨u,hu⟩
theorem ZLt(R:Rel base w0 I0 I β σ w){b:Nat}(hb:∀ o,I b o=none){y:Bool}{ys:List AVal}{v:Value}(hv:VR I β (.lst y ys) v)(hk:kOk 1 ys=true) :
  ∃ A cap news,v=.slice A ys.length cap/\news.length=ys.length/\VRs I β (ys.flatMap AVal.cells) news/\Zao ys=true/\(∀ x∈ys,x.cells.length=1)/\(∀ v∈news,v.oneCell'=true) /\
   (ys.length=0\/∃ a,A=some a/\a.block≠b/\∀ j v,news[j]?=some v->w.cell? (a.add j)=some v):=by
 have hv0:=hv
 obtain⟨A,cap,e,_,_,htree,hc⟩:=Zoy R hv
 by_cases hne:ys=[]
 ·subst hne
  exact⟨A,cap,[],e,rfl,by simp[VRs],rfl,by simp,by simp,Xr rfl⟩
 ·rcases hc with hc |⟨b',off,k,us,hA,hk0,hl,hvs,hcell⟩
  ·exact absurd hc hne
  have e1:=ZlE hk hl hne
  subst e1
  refine⟨A,cap,us,e,by rw[<-Za1 hvs,Ze0 hl,Xa8],hvs,htree,hl,Zhi (fun z hz=>Zjt (Zdy.1 (Zm9 htree) z hz)) hvs,XE ⟨⟨b',off,none⟩,hA,?_,fun j v hj=>by rw[Addr.add_mid];exact hcell j v hj⟩⟩
  rintro rfl
  simp only[VR]at hv0
  obtain⟨A',cap',e',_,_,_,h5,_⟩:=hv0
  rcases h5 with h5 |⟨b2,off2,k2,e2,hk2,h5⟩
  ·exact hne h5
  ·rw[e]at e'
   injection e' with e' _ _
   rw[e']at hA
   rw[hA]at e2
   injection e2 with e2
   injection e2 with e2 e3
   cases ys with
   |nil=>exact hne rfl
   |cons z zs =>
    obtain⟨u,hu⟩:=ZSc h5 hk2
    rw[<-e2,hb]at hu;cases hu
theorem ZyX (L : LaysM.n180 P ρ) (hb : KLt base w0) {c0 : AVal} {lr : Int} {g : Nat} {xs : List AVal} (R : Rel base w0 I0 I β [.var [c0, .int .i64 0, .int .i8 lr], .row g 1 xs] w)
    {bi : BI} (hbi : β 1 g = some bi) {b kk cc : Nat} (hβ0 : β 0 0 = some ⟨some b, kk, cc⟩) {A : Option Addr} {cap : Nat} {ty : TypeId}
    (hheap : w.heap[b]? = some (.cells #[.slice A xs.length cap, .int .i64 0, .int .i8 lr] ty (0, 0)))
    (hA : (∃ gb, bi.b = some gb /\ A = some ⟨gb, 0, none⟩ /\ cap = bi.cap) \/ (bi.b = none /\ cap = 0 /\ bi.cap = 0))
    {y : Bool} {ys : List AVal} {v1 : Value} (hv1 : VR I β (.lst y ys) v1) (hlim : xs.length + ys.length <= Zb7) (hk : kOk 1 ys = true) :
    Calls P (ρ.f 180) #[.pointer (some ⟨b, 0, none⟩), v1] w (fun e w' => ∃ u, Ends (.tup [.int .i64 ys.length, .nili]) e u /\ ∃ β', β.le β' /\
      Rel base w0 I0 I β' [.var [.sl 1 (g + 1) 0 (xs ++ ys).length, .int .i64 0, .int .i8 0], .row (g + 1) 1 (xs ++ ys)] w' /\ VR I β' (.tup [.int .i64 ys.length, .nili]) u) := by
  have hbw := R.base_le hb
  have how : ZL β 0 (.var [c0, .int .i64 0, .int .i8 lr]) = some b := by simp only [ZL, hβ0, Wj]
  have hob := R.own 0 _ b rfl how
  obtain ⟨bi', hbi', hk1, _, hcap63, hxl, htree, hlens, hrow⟩ := R.blk 1 (.row g 1 xs) rfl
  rw [hbi] at hbi'; injection hbi' with hbi'; subst hbi'
  have hor : ZL β 1 (.row g 1 xs) = bi.b := by simp only [ZL, hbi, Wj]
  obtain ⟨olds, hBR, hvo, hA0⟩ : ∃ olds, BufRow w b A xs.length cap olds /\ VRs I β (xs.flatMap AVal.cells) olds /\ (A = none -> cap = 0) := by
    rcases hA with ⟨gb, e1, e2, e3⟩ | ⟨e1, e2, e3⟩
    . rcases hrow with ⟨h1, h2⟩ | ⟨gb', us, ty', h1, h2, h3, h4⟩
      . rw [e1] at h1; cases h1
      . rw [e1] at h1; injection h1 with h1; subst h1
        rw [Xa8] at h3 h4
        have hgb : gb ≠ b := by
          rintro rfl
          have := R.apart 0 _ 1 _ gb rfl rfl how (by rw [hor, e1])
          omega
        refine ⟨us.toList.take xs.length, ⟨by have h9 : us.toList.length = us.size := us.length_toList; rw [X0]; omega, by omega, by unfold maxLen; omega, Zhi (fun z hz => Zjt (Zdy.1 (Zm9 htree) z hz)) h4, XE ⟨gb, us, ty', e2, hgb, h2, by omega, rfl⟩⟩, h4, by rw [e2]; intro h; cases h⟩
    . have hx : xs = [] := XG (by omega)
      subst hx
      exact ⟨[], ⟨rfl, by simp, by unfold maxLen; omega, by simp, Xr e2⟩, by simp [VRs], fun _ => e2⟩
  obtain ⟨A1, cap1, news, rfl, hnl, hvn, htn, hln, hn1, hsrc⟩ := ZLt R hob.2 hv1 hk
  refine (ZSx L ty (fun _ => none) b A xs.length cap lr olds news A1 ys.length cap1 w (LibA.three_whole hheap) hBR hA0 hnl hn1 hsrc (by unfold Zb7 at hlim; omega)).mono ?_
  rintro e w' ⟨rfl, A', cap', hT, hle, hcm, hcase⟩
  refine ⟨_, rfl, ?_⟩
  have hT' := ZHz hT
  unfold maxLen at hcm
  obtain ⟨w1, hw1⟩ : ∃ w1 : World, w1 = { w with heap := w.heap.setIfInBounds b (.cells #[.slice A' (xs.length + ys.length) cap', .int .i64 0, .int .i8 0] ty (0, 0)) } := ⟨_, rfl⟩
  have hbl : b < w.heap.size := Lib.lt_of_heap hheap
  have h1b : w1.heap[b]? = w'.heap[b]? := by rw [hw1, hT']; simp [hbl]
  have h1o : ∀ k, k ≠ b -> w1.heap[k]? = w.heap[k]? := fun k hk => by rw [hw1]; exact Array.getElem?_setIfInBounds_ne (fun e => hk e.symm)
  have h1s : w1.heap.size = w.heap.size := by rw [hw1]; simp
  have R1 : Rel base w0 I0 I β [.var [.top, .int .i64 0, .int .i8 0], .row g 1 xs] w1 := by
    have := R.putObj (t := 0) (x' := .var [.top, .int .i64 0, .int .i8 0]) rfl how (by simp only [ZL, hβ0, Wj]) (.cells #[.slice A' (xs.length + ys.length) cap', .int .i64 0, .int .i8 0] ty (0, 0))
      ⟨b, kk, cc, _, ty, hβ0, by simp [hbl]; rfl, by simp [VRs, VR]⟩ rfl
    rw [hw1]; exact this
  obtain ⟨bi2, hB, keep, hbi2, hblk, hv2⟩ : ∃ bi2 : BI, KB base w1 w' /\ (∀ b', ZL β 1 (.row g 1 xs) ≠ some b' -> b' < w1.heap.size -> w'.heap[b']? = w1.heap[b']?) /\ (bi2.b = none \/ ∃ b', bi2.b = some b' /\ (ZL β 1 (.row g 1 xs) = some b' \/ b' = w1.heap.size)) /\
      BR I (β.put 1 (g + 1) bi2) w' 1 (.row (g + 1) 1 (xs ++ ys)) /\ VR I (β.put 1 (g + 1) bi2) (.sl 1 (g + 1) 0 (xs ++ ys).length) (.slice A' (xs.length + ys.length) cap') := by
    have hle2 : β.le (β.put 1 (g + 1) bi) -> True := fun _ => trivial
    have hnone : β 1 (g + 1) = none := R.gen 1 _ (g + 1) rfl (by simp [Zl])
    rcases hcase with ⟨hn0, rfl, rfl, hgB⟩ | ⟨G, W1, Y, t, rfl, hGw, hGb, hg1, hg2, hY, hYs, hYt⟩
    . have hy : ys = [] := XG hn0
      subst hy
      simp only [Xo, Xw, Nat.add_zero]
      have hbl' : β.le (β.put 1 (g + 1) bi) := Bmap.put_le hnone
      have same : ∀ k, k < w.heap.size -> w'.heap[k]? = w1.heap[k]? := by
        intro k hk
        by_cases e : k = b
        . rw [e, h1b]
        . rw [h1o k e]; exact hgB.block k hk (fun h => e (WE h))
      refine ⟨bi, ⟨by rw [hw1]; exact hgB.os, by rw [hw1]; exact hgB.tape, by rw [hw1]; exact hgB.output, by rw [h1s]; exact hgB.size, fun k hk => same k (hbw k hk)⟩, fun b' _ hb' => same b' (by omega), ?_, ?_, ?_⟩
      . rw [hor]
        cases bi.b with
        | none => exact Xr rfl
        | some x => exact XE ⟨x, rfl, Xr rfl⟩
      . refine ⟨bi, Bmap.put_same β 1 (g + 1) bi, hk1, by omega, hcap63, hxl, htree, hlens, hrow.imp id ?_⟩
        rintro ⟨gb, us, ty', q1, q2, q3, q4⟩
        have hgb : gb ≠ b := by
          rintro rfl
          have := R.apart 0 _ 1 _ gb rfl rfl how (by rw [hor, q1])
          omega
        exact ⟨gb, us, ty', q1, by rw [same gb (Lib.lt_of_heap q2), h1o gb hgb]; exact q2, q3, VRs.mono (Imm.le.refl I) hbl' _ _ q4⟩
      . rw [Zcl]
        refine ⟨bi, Bmap.put_same β 1 (g + 1) bi, hxl, hcap63, ?_⟩
        rcases hA with ⟨gb, e1, e2, e3⟩ | ⟨e1, e2, e3⟩
        . exact Xr ⟨gb, e1, by rw [e2, e3]⟩
        . have hx : xs.length = 0 := by omega
          exact XE ⟨e1, e3, _, by rw [hx, e2]⟩
    . have hbl' : β.le (β.put 1 (g + 1) ⟨some G, 1, cap'⟩) := Bmap.put_le hnone
      have hGo : ZL β 1 (.row g 1 xs) = some G \/ G = w1.heap.size := by
        rcases hGw with e | ⟨e, hc0⟩
        . exact XE (by rw [h1s]; exact e)
        . refine Xr ?_
          rw [hor]
          rcases hA with ⟨gb, e1, e2, e3⟩ | ⟨e1, e2, e3⟩
          . rw [e2] at e; injection e with e; injection e with e; rw [e1, e]
          . exact absurd e2 hc0
      have hsz1 : w.heap.size <= W1.heap.size := hg1.size
      have same : ∀ k, k < w.heap.size -> k ≠ G -> w'.heap[k]? = w1.heap[k]? := by
        intro k hk hkG
        by_cases e : k = b
        . rw [e, h1b]
        . rw [h1o k e]; exact (hg2.block k (by omega) (fun h => hkG (WE h))).trans (hg1.block k hk (fun h => e (WE h)))
      refine ⟨⟨some G, 1, cap'⟩, ⟨by rw [hw1]; exact hg2.os.trans hg1.os, by rw [hw1]; exact hg2.tape.trans hg1.tape, by rw [hw1]; exact hg2.output.trans hg1.output, by rw [h1s]; exact W9 hg1.size hg2.size, fun k hk => same k (hbw k hk) ?_⟩, fun b' hb1 hb' => same b' (by omega) ?_, XE ⟨G, rfl, hGo⟩, ?_, ?_⟩
      . rintro rfl
        rcases hGo with e | e
        . exact (R.own 1 _ _ rfl e).1 hk
        . have := hbw _ hk; omega
      . rintro rfl
        rcases hGo with e | e
        . exact hb1 e
        . omega
      . refine ⟨_, Bmap.put_same β 1 (g + 1) _, rfl, by omega, hcm, by rw [Xi]; exact hle, by rw [ZhH htree htn], ?_, XE ⟨G, Y, t, rfl, hY, by rw [hYs, Xa8], ?_⟩⟩
        . intro x hx
          rcases Xv.1 hx with h | h
          . exact hlens x h
          . exact hln x h
        . rw [Xi, Xa8, hYt, ZfW]
          exact ZcE (VRs.mono (Imm.le.refl I) hbl' _ _ hvo) (VRs.mono (Imm.le.refl I) hbl' _ _ hvn)
      . rw [Zcl]
        exact ⟨_, Bmap.put_same β 1 (g + 1) _, by rw [Xi]; exact hle, hcm, Xr ⟨G, rfl, by rw [Xi]⟩⟩
  have hbw1 : KLt base w1 := fun k hk => by rw [h1s]; exact hbw k hk
  obtain ⟨R2, hle2⟩ := R1.grow (t := 1) (g := g) (k := 1) (xs := xs) (xs' := xs ++ ys) rfl bi2 hB (by
    intro b' o u hI
    have hne : b' ≠ b := by rintro rfl; rw [hob.2 o] at hI; cases hI
    have hlt : b' < w1.heap.size := by rw [h1s]; exact Zez (R.imm _ _ _ hI)
    have hno : ZL β 1 (.row g 1 xs) ≠ some b' := fun e => by have := (R.own 1 _ b' rfl e).2 o; rw [this] at hI; cases hI
    rw [<- R1.imm b' o u hI]
    simp only [World.cell?, keep b' hno hlt]) keep hbi2 hbw1 hblk
  have hβ2 : (β.put 1 (g + 1) bi2) 0 0 = some ⟨some b, kk, cc⟩ := hle2 _ _ _ hβ0
  refine ⟨β.put 1 (g + 1) bi2, hle2, ?_, by simp [VR, VRs]⟩
  refine R2.upd (Imm.le.refl I) (Bmap.le.refl _) (KB.refl _ _) (fun _ _ _ => rfl) R2.imm 0 (.var [.sl 1 (g + 1) 0 (xs ++ ys).length, .int .i64 0, .int .i8 0]) rfl (by simp) (fun _ _ _ => rfl) ?_ ?_ ?_ ?_ (by simp)
  . intro t' x b' hne hx hb'
    refine ⟨rfl, (R2.own t' x b' hx hb').2, ?_⟩
    simp only [ZL, hβ2, Wj]
    intro e; injection e with e; subst e
    exact hne (R2.apart t' x 0 _ b hx rfl hb' (by simp only [ZL, hβ2, Wj]))
  . exact ⟨b, kk, cc, _, ty, hβ2, hT', by simp only [VRs]; exact ⟨_, _, rfl, hv2, _, _, rfl, by simp [VR], _, _, rfl, by simp [VR], rfl⟩⟩
  . intro b' e
    simp only [ZL, hβ2, Wj] at e; injection e with e; subst e
    exact R2.own 0 _ b rfl (by simp only [ZL, hβ2, Wj])
  . intro g' hg'
    exact R2.gen 0 _ g' rfl (by simpa [Zl] using hg')
theorem ZDO(L:LaysM.n180 P ρ){f:FuncId}(hf:ρ.f 180=f)(hx:∃ fn,P.funcs[f]?=some fn/\fn.body.isSome=true/\(fn.name == "runtime.NumGoroutine")=false){args:List AVal}{σ σ':Za}{r:AVal}(hg:Zih args σ=some (r,σ')) :
  (∃ fn,P.funcs[f]?=some fn/\fn.body.isSome=true/\(fn.name == "runtime.NumGoroutine")=false) /\
  ∀ base w0 I0 I β w (vs:Array Value),KLt base w0->Rel base w0 I0 I β σ w->VRs I β args vs.toList ->
   Calls P f vs w (fun e w'=>∃ u,Ends r e u/\ZbW σ.length base w0 I0 I β r σ' u w'):=by
 refine⟨hx,?_⟩
 intro base w0 I0 I β w vs hb R hargs
 subst hf
 unfold Zih at hg
 split at hg
 ·
  rename_i y ys lr
  split at hg
  case isFalse=>cases hg
  rename_i hc
  simp only[Xb,Xd]at hg
  obtain⟨rfl,rfl⟩:=hg
  simp only[VRs]at hargs
  obtain⟨v0,_,hvs,h0,v1,_,rfl,h1,rfl⟩:=hargs
  have hvs':vs=#[v0,v1]:=by rw[<-XaU];exact hvs
  subst hvs'
  simp only[VR]at h0
  obtain⟨b,k,c,hβ0,rfl⟩:=h0
  obtain⟨b',k',c',us,ty,hβ,hheap,hcs⟩:=R.blk 0 _ rfl
  rw[hβ0]at hβ;injection hβ with hβ;injection hβ with hβ1 hβ2 hβ3;injection hβ1 with hβ1;subst hβ1 hβ2 hβ3
  simp only[VRs]at hcs
  obtain⟨u0,_,hus,hu0,u1,_,rfl,hu1,u2,_,rfl,hu2,rfl⟩:=hcs
  simp only[VR]at hu0 hu1 hu2
  obtain⟨A,cap,rfl,_,_,hcap,_,_⟩:=hu0
  have hcap0:cap=0:=by simpa using hcap
  subst hu1 hu2 hcap0
  have hus':us=#[.slice A 0 0,.int .i64 0,.int .i8 lr]:=by rw[<-XaU];simpa using hus
  subst hus'
  have R1:=R.reserve 1
  have hfree:([.var [.lst true [],.int .i64 0,.int .i8 lr]]++List.replicate 1 ZO.free)[1]?=some .free:=rfl
  obtain⟨R2,hle⟩:=R1.newNone hfree 1 (by omega)
  have R3:Rel base w0 I0 I (β.put 1 0 ⟨none,1,0⟩) [.var [.lst true [],.int .i64 0,.int .i8 lr],.row 0 1 []] w:=R2
  refine(ZyX L hb R3 (bi:=⟨none,1,0⟩) (Bmap.put_same β 1 0 _) (hle _ _ _ hβ0) (A:=A) (cap:=0) hheap (XE ⟨rfl,rfl,rfl⟩) (h1.mono (Imm.le.refl I) hle _ _) (by simpa using hc.1) hc.2).mono ?_
  rintro e w' ⟨u,he,β',hb',hR,hv⟩
  obtain⟨β2,hk2,hR2,_⟩:=ZrU hR 1 []
  refine⟨u,he,I,β2,Imm.le.refl I,(KeptE.of_le (hle.trans hb')).trans hk2,?_,by simpa[Zbg,VR,VRs]using hv⟩
  have hgc:(gcA 1 [] [.var [.sl 1 (0+1) 0 ([]++ys).length,.int .i64 0,.int .i8 0],.row (0+1) 1 ([]++ys)]).2=[.var [.sl 1 0 0 ys.length,.int .i64 0,.int .i8 0],.row 0 1 ys]:=rfl
  rw[hgc]at hR2
  exact hR2
 ·rename_i y ys g m lr g' xs
  split at hg
  case isFalse=>cases hg
  rename_i hc
  obtain⟨rfl,rfl,hc1,hc2⟩:=hc
  simp only[Xb,Xd]at hg
  obtain⟨rfl,rfl⟩:=hg
  simp only[VRs]at hargs
  obtain⟨v0,_,hvs,h0,v1,_,rfl,h1,rfl⟩:=hargs
  have hvs':vs=#[v0,v1]:=by rw[<-XaU];exact hvs
  subst hvs'
  simp only[VR]at h0
  obtain⟨b,k,c,hβ0,rfl⟩:=h0
  obtain⟨b',k',c',us,ty,hβ,hheap,hcs⟩:=R.blk 0 _ rfl
  rw[hβ0]at hβ;injection hβ with hβ;injection hβ with hβ1 hβ2 hβ3;injection hβ1 with hβ1;subst hβ1 hβ2 hβ3
  obtain⟨bi,hbi,hk1,_⟩:=R.blk 1 (.row g 1 xs) rfl
  simp only[VRs]at hcs
  obtain⟨u0,_,hus,hu0,u1,_,rfl,hu1,u2,_,rfl,hu2,rfl⟩:=hcs
  rw[Zcl]at hu0
  simp only[VR]at hu1 hu2
  subst hu1 hu2
  obtain⟨bi',hbi',_,_,hcase⟩:=hu0
  rw[hbi]at hbi';injection hbi' with hbi';subst hbi'
  obtain⟨A,cap,rfl,hA⟩:∃ A cap,u0=.slice A xs.length cap/\((∃ gb,bi.b=some gb/\A=some ⟨gb,0,none⟩/\cap=bi.cap)\/(bi.b=none/\cap=0/\bi.cap=0)):=by
   rcases hcase with⟨gb,e1,e2⟩ |⟨e1,e2,A,e3⟩
   ·exact⟨_,_,e2,Xr ⟨gb,e1,rfl,rfl⟩⟩
   ·obtain⟨bi2,hbi2,_,_,_,hxl,_⟩:=R.blk 1 (.row g 1 xs) rfl
    rw[hbi]at hbi2;injection hbi2 with hbi2;subst hbi2
    exact⟨A,0,by rw[e3,show xs.length=0 by omega],XE ⟨e1,rfl,e2⟩⟩
  have hus':us=#[.slice A xs.length cap,.int .i64 0,.int .i8 lr]:=by rw[<-XaU];simpa using hus
  subst hus'
  refine(ZyX L hb R hbi hβ0 hheap hA h1 hc1 hc2).mono ?_
  rintro e w' ⟨u,he,β',hb',hR,hv⟩
  exact⟨u,he,I,β',Imm.le.refl I,KeptE.of_le hb',hR,hv⟩
 ·cases hg
end
end
section
open Go.Shelf
def ZKt:Ren:=⟨fun |180=>73 |251=>97 |252=>98 |181=>131 |184=>132 |290=>133 |324=>153 |n=>n,fun |130=>141 |37=>22 |3=>3 |75=>124 |0=>0 |93=>111 |91=>109 |131=>76 |4=>4 |20=>20 |5=>5 |80=>171 |9=>9 |n=>n,fun |14=>2 |n=>n⟩
theorem ZBn:Go.Proofs.LaysM.n180 Tryz.prog ZKt:={ mixed:=by kernel_rfl,f180:=Tryz.func73.trans (congrArg some (by kernel_rfl)),f181:=Tryz.func131.trans (congrArg some (by kernel_rfl)),f184:=Tryz.func132.trans (congrArg some (by kernel_rfl)),f251:=Tryz.func97.trans (congrArg some (by kernel_rfl)),f252:=Tryz.func98.trans (congrArg some (by kernel_rfl)),f290:=Tryz.func133.trans (congrArg some (by kernel_rfl)),f324:=Tryz.func153.trans (congrArg some (by kernel_rfl)),t0:=Tryz.underlying0,a0:=Tryz.isAgg0,z0:=Tryz.sizeOf0,v0:=Tryz.zeroValue0,t3:=Tryz.underlying3,a3:=Tryz.isAgg3,z3:=Tryz.sizeOf3,v3:=Tryz.zeroValue3,t4:=Tryz.underlying4,a4:=Tryz.isAgg4,z4:=Tryz.sizeOf4,v4:=Tryz.zeroValue4,t20:=Tryz.underlying20,a20:=Tryz.isAgg20,z20:=Tryz.sizeOf20,v20:=Tryz.zeroValue20,t37:=Tryz.underlying22,a37:=Tryz.isAgg22,z37:=Tryz.sizeOf22,v37:=Tryz.zeroValue22,t75:=Tryz.underlying124,a75:=Tryz.isAgg124,z75:=Tryz.sizeOf124,v75:=Tryz.zeroValue124,t91:=Tryz.underlying109,a91:=Tryz.isAgg109,z91:=Tryz.sizeOf109,v91:=Tryz.zeroValue109,t93:=Tryz.underlying111,a93:=Tryz.isAgg111,z93:=Tryz.sizeOf111,v93:=Tryz.zeroValue111,t130:=Tryz.underlying141,a130:=Tryz.isAgg141,z130:=Tryz.sizeOf141,v130:=Tryz.zeroValue141,t131:=Tryz.underlying76,a131:=Tryz.isAgg76,z131:=Tryz.sizeOf76,v131:=Tryz.zeroValue76,g14:=by kernel_rfl,t5:=Tryz.underlying5,a5:=Tryz.isAgg5,z5:=Tryz.sizeOf5,v5:=Tryz.zeroValue5,t9:=Tryz.underlying9,a9:=Tryz.isAgg9,z9:=Tryz.sizeOf9,v9:=Tryz.zeroValue9,t80:=Tryz.underlying171,a80:=Tryz.isAgg171,z80:=Tryz.sizeOf171,v80:=Tryz.zeroValue171,i0:=by kernel_rfl,i3:=by kernel_rfl,i4:=by kernel_rfl,i5:=by kernel_rfl,i9:=by kernel_rfl,i20:=by kernel_rfl,i37:=by kernel_rfl,i75:=by kernel_rfl,i80:=by kernel_rfl,i91:=by kernel_rfl,i93:=by kernel_rfl,i130:=by kernel_rfl,i131:=by kernel_rfl,m14:=by kernel_rfl }
end
section
theorem ZNG:∃ fn,Tryz.prog.funcs[73]?=some fn/\fn.body.isSome=true/\(fn.name == "runtime.NumGoroutine")=false:=⟨Tryz.f73,Tryz.func73,by kernel_rfl,by kernel_rfl⟩
theorem ZJh:ZlO Tryz.prog PR1:=by
 intro f g h args σ r σ' hg
 unfold PR1 at h
 split at h
 ·rename_i e;subst e
  injection h with h;subst h
  exact ZNo hg
 ·split at h
  ·rename_i e;subst e
   injection h with h;subst h
   exact ZDO ZBn rfl ZNG hg
  ·exact ZxZ f g h args σ r σ' hg
theorem ZO9:ZaO Tryz.prog E1:=by
 have h:E1=EV CF PR1 BY:=ZRt CF PR1 BY
 rw[h]
 exact ZUH Zi6 ZJh ann BY
end
section
mutual
def eqV:AVal->AVal->Bool
 | .int k n,.int k' n'=>decide (k=k')&&n==n'
 | .bool a,.bool b=>a==b
 | .str a,.str b=>a==b
 | .lst a xs,.lst b ys=>a==b&&ZiA xs ys
 | .agg xs,.agg ys=>ZiA xs ys
 |_,_=>false
def ZiA:List AVal->List AVal->Bool
 | [],[]=>true
 |x::xs,y::ys=>eqV x y&&ZiA xs ys
 |_,_=>false
end
mutual
theorem ZWh:∀ {a b:AVal},eqV a b=true->a=b
 | .int k n,.int k' n',h=>by
  simp only[eqV,Xk,decide_eq_true_eq,beq_iff_eq]at h
  rw[h.1,h.2]
 | .bool a,.bool b,h=>by
  simp only[eqV,beq_iff_eq]at h
  rw[h]
 | .str a,.str b,h=>by
  simp only[eqV,beq_iff_eq]at h
  rw[h]
 | .lst a xs,.lst b ys,h=>by
  simp only[eqV,Xk,beq_iff_eq]at h
  rw[h.1,ZnM h.2]
 | .agg xs,.agg ys,h=>by
  simp only[eqV]at h
  rw[ZnM h]
theorem ZnM:∀ {a b:List AVal},ZiA a b=true->a=b
 | [],[],_=>rfl
 |x::xs,y::ys,h=>by
  simp only[ZiA,Xk]at h
  rw[ZWh h.1,ZnM h.2]
end
section
variable {fs:Nat->Option ZA}{p p':Zcu}{bf:Nat->Bool}
theorem ZAv(K:Nat)(h0:∀ f,p f=none->p' f=none)(h1:∀ f g,p f=some g->∀ a σ r,g a σ=some r->Zay fs p' bf K f a σ=some r):∀ n,OLe (Zay fs p bf n) (Zay fs p' bf (n+K))
 |0=>by intro f a σ r h;simp only[Zay]at h;cases h
 |n+1=>by
  intro f a σ r h
  rw[Zay]at h
  split at h
  ·rename_i g hg
   exact ZhG fs p' (by omega) f a σ r (h1 f g hg a σ r h)
  ·rename_i hg
   rw[show n+1+K=(n+K)+1 by omega,Zay,h0 f hg]
   split at h
   ·cases h
   ·rename_i fn hfn
    exact ZkW (fun q hq=>ZdS (ZAv K h0 h1 n) (by omega) hq) h
end
def ZnX(f0:Nat)(a0:List AVal)(r0:AVal×Za):Zcu:=fun f=>if f=f0 then some (fun a σ=>if ZiA a a0&&σ.isEmpty then some r0 else none)else PR f
theorem ZSq{f0:Nat}{a0:List AVal}{r0:AVal×Za}(hf:PR1 f0=none)(h:E1 f0 a0 []=some r0){n f:Nat}{a:List AVal}{σ:Za}{r:AVal×Za}(hr:Zay FC (ZnX f0 a0 r0) BY n f a σ=some r):E1 f a σ=some r:=by
 obtain⟨K,hK⟩:=ZbQ.1 h
 have hO:=ZAv (fs:=FC) (bf:=BY) (p:=ZnX f0 a0 r0) (p':=PR1) (K+1) (fun f hf'=>?_) (fun f g hg a σ r hr=>?_) n f a σ r hr
 ·exact ZbQ.2 ⟨_,hO⟩
 ·unfold ZnX at hf'
  split at hf'
  ·cases hf'
  ·rename_i hne
   unfold PR1
   split
   ·rename_i e;subst e;revert hf';decide
   ·split
    ·rename_i e;subst e;revert hf';decide
    ·exact hf'
 ·unfold ZnX at hg
  split at hg
  ·rename_i e
   subst e
   injection hg with hg;subst hg
   dsimp only at hr
   split at hr
   ·rename_i hc
    simp only[Xk,List.isEmpty_iff]at hc
    injection hr with hr;subst hr
    rw[ZnM hc.1,hc.2]
    exact ZhG FC PR1 (by omega) _ _ _ _ hK
   ·cases hr
  ·by_cases e1:f=57
   ·subst e1
    have : PR 57=some Zhk:=by rfl
    rw[this]at hg;injection hg with hg;subst hg;cases hr
   ·by_cases e2:f=73
    ·subst e2
     have : PR 73=some Zhk:=by rfl
     rw[this]at hg;injection hg with hg;subst hg;cases hr
    ·rw[Zay]
     have : PR1 f=some g:=by unfold PR1;rw[if_neg e1,if_neg e2];exact hg
     rw[this]
     exact hr
end
section
def ZiC:Ze:=by apply Zd 3 [] [];conv=>lhs;reduce;simp only[zi,zb]
def ZuI:ZA:=⟨[(.tmp 6)],ZiC⟩
theorem ZnO:FC 3=some ZuI:=by kernel_rfl
theorem ZmQ:ZuI.body=ZiC:=rfl
theorem ZnY:ZuI.res=[(.tmp 6)]:=rfl
def ZpB:Ze:=by apply Zd 4 [] [];conv=>lhs;reduce;dsimp only[zi]
def ZrW:ZA:=⟨[(.cell 4 (some 10))],ZpB⟩
theorem ZMg:FC 4=some ZrW:=by kernel_rfl
theorem ZHT:ZrW.body=ZpB:=rfl
theorem ZPB:ZrW.res=[(.cell 4 (some 10))]:=rfl
def ZsD:Ze:=(.seq (.region [oI 2 (.mov (.c (.int .i64 0)))] none [0]) (.seq (.region [oM 3 0,oM 2 3] none [2]) .ret))
def Zs3:ZA:=⟨[(.tmp 2)],ZsD⟩
theorem ZHv:FC 13=some Zs3:=by kernel_rfl
theorem ZNp:Zs3.body=ZsD:=rfl
theorem ZR0:Zs3.res=[(.tmp 2)]:=rfl
end
section
end
section
end
section
set_option maxRecDepth 100000
def u25(a b:UInt8):Zp:={ id:=38,num:=0,text:=[a],pair:=[b],data:=[] }
def p25:ZE:={ ZaT with type:=3,qos:=1,id:=1,topic:=[120,47,97,47,98],props:=[u25 111 51,u25 109 57,u25 104 49] }
theorem ZGO:OkW p25:=by
 refine⟨?_,?_,?_,?_,?_,?_,?_,?_,?_,?_,?_,?_⟩<;>simp[p25,ZaT,u25,Zex]
theorem Zu3:ZfJ p25:=of_decide_eq_true (by kernel_rfl)
def b25:Zc:=Zd0 p25
theorem ZS8:E1 11 [ZaH p25] []=some (.tup [.lst false (b25.map Zb),.int .i64 0],[]) :=
 ZzY p25 (Zim p25) (ZcD p25) Zu3.1 fun σ sq own=>Zyf p25 ZGO (by decide) Zu3 _ (by rw[List.all_cons,Zet];rfl) (by rw[Xm,ZeS];rfl) σ sq own
theorem ZGJ:E1 7 [] []=some (.bool true,[]) :=
 ZSq (n:=60) (f0:=11) (by rfl) ZS8 (by kernel_rfl)
theorem ZL8(σ:Za)(sq own:Nat):Zj E1 BY σ sq 7 own true []=some (.bool true,σ,{}) :=
 ZbD ZGJ (by kernel_rfl) rfl rfl rfl (fun _=>rfl) _ _ _
end
section
theorem ZTQ(m:ZcN)(hm:Zhx m)(hops:Int):∃ h:Int,(1<=h/\h<=6)/\E 4 [.agg (mC m),.int .i64 hops] []=some (.agg (lkC (lkM m h)),[]):=by
 obtain⟨h,hh,hw⟩:=ZyM hops 1 6 (by decide) (by decide) (by decide)
 refine⟨h,hh,?_⟩
 have hM:=fun σ sq own=>ZWc σ sq own m hm
 have h1:=ZqP m h
 have h2:=ZsN m h
 have h1':1<=1+Xa4 (ZaS m.origin 255) 255/\1+Xa4 (ZaS m.origin 255) 255<=255:=h1
 have h2':1<=1+ZaS m.number 16777215/\1+ZaS m.number 16777215<=16777216:=h2
 have w1:IntKind.i64.wrap (1+Xa4 (ZaS m.origin 255) 255)=1+Xa4 (ZaS m.origin 255) 255:=ZaC (by omega) (by omega)
 have w2:IntKind.i64.wrap (1+ZaS m.number 16777215)=1+ZaS m.number 16777215:=ZaC (by omega) (by omega)
 have z:((255:Int)=0)=False:=by simp
 have e:(.agg [.str (Zbn m).note.topic,.lst false ((Zbn m).note.payload.map Zb),.int .i64 (Zbn m).note.qos,.bool (Zbn m).note.retain,.str (Zbn m).note.sender,.int .i64 (Zbn m).note.expires,.lst false ((Zbn m).note.props.map Zg),.int .i64 (Zbn m).note.origin,.int .i64 (Zbn m).note.number,.int .i64 (Zbn m).note.hops,.int .i64 (Zbn m).qos,.bool (Zbn m).retain,.lst false ((Zbn m).ids.map (.int .i64 ·)),.str (Zbn m).share]:AVal)=.agg [.str (ZbG m).topic,.lst false ((ZbG m).payload.map Zb),.int .i64 (ZbG m).qos,.bool (ZbG m).retain,.str (ZbG m).sender,.int .i64 (ZbG m).expires,.lst false ((ZbG m).props.map Zg),.int .i64 (ZaS m.origin 255),.int .i64 (ZaS m.number 16777215),.int .i64 0,.int .i64 (Zbn m).qos,.bool (Zbn m).retain,.lst false ((Zbn m).ids.map (.int .i64 ·)),.str (Zbn m).share]:=rfl
 rw[e]at hM
 have eC:lkC (lkM m h)=[.str (ZbG m).topic,.lst false ((ZbG m).payload.map Zb),.int .i64 (ZbG m).qos,.bool (ZbG m).retain,.str (ZbG m).sender,.int .i64 (ZbG m).expires,.lst false ((ZbG m).props.map Zg),.int .i64 (1+Xa4 (ZaS m.origin 255) 255),.int .i64 (1+ZaS m.number 16777215),.int .i64 h]:=rfl
 rw[eC]
 clear e eC h1 h2 h1' h2'
 unfold mC at hM ⊢
 generalize ZaS m.origin 255=o at *
 generalize ZaS m.number 16777215=nu at *
 generalize (ZbG m).payload.map Zb=P at *
 generalize (ZbG m).props.map Zg=Q at *
 generalize (Zbn m).ids.map (AVal.int .i64 ·)=I at *
 rw[Zi (by rfl) ZMg]
 simp -implicitDefEqProofs only[EQA,Zv,Xe,Xc,Xf,Xa,Xg,reduceCtorEq,↓reduceIte,Zf,ZHT,ZpB,ZPB,Zd,hM,hw,w1,w2,z,AVal.cells,Z6,Zaf,Zah,Zau,Zas,Zar,Zav,Zaw,Zag,Xy,ZX]
def ZbZ(up:Bool)(W F:AVal):List AVal:=[.ref 3 0,.str [35],.str [112,47],.bool up,W,F]
theorem ZRc:E 6 [.agg [.str [35],.str [112,47]]] []=some (.ref 0 0,lk0):=ZbQ.2 ⟨30,by kernel_rfl⟩
theorem ZVW(B0 B1:ZO):Zj E1 BY [B0,B1,.free,.free,.free] 2 6 3 false [.agg [.str [35],.str [112,47]]]=some (.ref 2 0,[B0,B1,.var (ZbZ false (.lst true []) (.lst true [])),.var [.map 4],.map []],{ any:=true }):=by
 rw[ZcT (by kernel_rfl) rfl]
 have h:=ZkM _ _ _ _ ZRc
 simp only[Xm,Xt,ZN,Za4]
 rw[h]
 rfl
section
variable (n:Zax)(B0 B1:ZO)
theorem ZCA(h:Ziz (lkT n))(hn:Zef n)(ht:n.topic.length<=1000000)(ho:ZhU n=true):Zj E1 BY [B0,B1,.var (ZbZ false (.lst true []) (.lst true [])),.var [.map 4],.map [],.free] 5 8 1 true [.ref 2 0,.agg (lkC n)]=some (.bool true,[B0,B1,.var (ZbZ false (.sl 5 0 0 1) (.lst true [])),.var [.map 4],.map [],lkR (lkT n)],{ any:=true,upd:=[(2,ZbZ false (.sl 5 0 0 1) (.lst true [])),(3,[.map 4])] }):=by
 have hO:=Zwr n h hn ht
 rw[ho,if_pos rfl]at hO
 exact ZeK (O:=E1) (bf:=BY) (σ:=[B0,B1,.var (ZbZ false (.lst true []) (.lst true [])),.var [.map 4],.map [],.free]) (sq:=5) (own:=1) (view:=true) (r0:=.bool true) (r:=.bool true) (vs:=[.ref 2 0,.agg (lkC n)]) (vs':=[.ref 0 0,.agg (lkC n)]) (ids:=[2,3,4]) (h0:=lk0) (hh0:=lkH false (lkR (lkT n))) (h:=lkH false (lkR (lkT n))) (by kernel_rfl) rfl rfl rfl rfl rfl rfl hO rfl (by simp[lkH]) (by simp[lkH]) rfl rfl rfl rfl rfl
theorem ZRR(h:Ziz (lkT n))(hn:Zef n)(ht:n.topic.length<=1000000)(ho:ZhU n=false):Zj E1 BY [B0,B1,.var (ZbZ false (.lst true []) (.lst true [])),.var [.map 4],.map [],.free] 5 8 1 true [.ref 2 0,.agg (lkC n)]=some (.bool false,[B0,B1,.var (ZbZ false (.lst true []) (.lst true [])),.var [.map 4],.map [],.free],{ any:=true,upd:=[(2,ZbZ false (.lst true []) (.lst true [])),(3,[.map 4])] }):=by
 have hO:=Zwr n h hn ht
 rw[ho,if_neg (by decide)]at hO
 exact ZeK (O:=E1) (bf:=BY) (σ:=[B0,B1,.var (ZbZ false (.lst true []) (.lst true [])),.var [.map 4],.map [],.free]) (sq:=5) (own:=1) (view:=true) (r0:=.bool false) (r:=.bool false) (vs:=[.ref 2 0,.agg (lkC n)]) (vs':=[.ref 0 0,.agg (lkC n)]) (ids:=[2,3,4]) (h0:=lk0) (hh0:=lk0) (h:=lk0) (by kernel_rfl) rfl rfl rfl rfl rfl rfl hO rfl (by simp[lk0]) (by simp[lk0]) rfl rfl rfl rfl rfl
theorem ZNH(now:Int)(sq:Nat):Zj E1 BY [B0,B1,.var (ZbZ false (.sl 5 0 0 1) (.lst true [])),.var [.map 4],.map [],lkR n] sq 9 0 true [.ref 2 0,.int .i64 now]=some (.lst false [],[B0,B1,.var (ZbZ true (.sl 5 0 0 1) (.lst true [])),.var [.map 4],.map [],lkR n],{ any:=true,upd:=[(2,ZbZ true (.sl 5 0 0 1) (.lst true [])),(3,[.map 4])] }) :=
 ZeK (O:=E1) (bf:=BY) (σ:=[B0,B1,.var (ZbZ false (.sl 5 0 0 1) (.lst true [])),.var [.map 4],.map [],lkR n]) (sq:=sq) (own:=0) (view:=true) (r0:=.lst true []) (r:=.lst false []) (vs:=[.ref 2 0,.int .i64 now]) (vs':=[.ref 0 0,.int .i64 now]) (ids:=[2,3,4,5]) (h0:=lkH false (lkR n)) (hh0:=lkH true (lkR n)) (h:=lkH true (lkR n)) (by kernel_rfl) rfl rfl rfl rfl rfl rfl (ZkM _ _ _ _ (ZI5 n now)) rfl (by simp[lkH]) (by simp[lkH]) rfl rfl rfl rfl rfl
theorem ZDQ(now:Int)(hd:Zci n now=true):Zj E1 BY [B0,B1,.var (ZbZ true (.sl 5 0 0 1) (.lst true [])),.var [.map 4],.map [],lkR n,.free,.free] 6 10 1 true [.ref 2 0,.int .i64 now]=some (.tup [.agg (ZcC.map Za4),.bool false],[B0,B1,.var (ZbZ true (.sl 5 0 0 1) (.lst true [])),.var [.map 4],.map [],lkF n,.free,.free],{ any:=true,upd:=[(2,ZbZ true (.sl 5 0 0 1) (.lst true [])),(3,[.map 4])] }) :=
 ZeK (O:=E1) (bf:=BY) (σ:=[B0,B1,.var (ZbZ true (.sl 5 0 0 1) (.lst true [])),.var [.map 4],.map [],lkR n,.free,.free]) (sq:=6) (own:=1) (view:=true) (r0:=.tup [.agg ZcC,.bool false]) (r:=.tup [.agg (ZcC.map Za4),.bool false]) (vs:=[.ref 2 0,.int .i64 now]) (vs':=[.ref 0 0,.int .i64 now]) (ids:=[2,3,4,5]) (h0:=lkH true (lkR n)) (hh0:=lkH true (lkF n)) (h:=lkH true (lkF n)) (by kernel_rfl) rfl rfl rfl rfl rfl rfl (ZkM _ _ _ _ (ZB8 n now hd)) rfl (by simp[lkH]) (by simp[lkH]) rfl rfl rfl rfl rfl
theorem ZM0(now:Int)(hd:Zci n now=false)(hn:Zef n):Zj E1 BY [B0,B1,.var (ZbZ true (.sl 5 0 0 1) (.lst true [])),.var [.map 4],.map [],lkR n,.free,.free] 6 10 1 true [.ref 2 0,.int .i64 now]=some (.tup [.agg (ZB (lkD n now 1)),.bool true],[B0,B1,.var (ZbZ true (.sl 5 0 1 0) (.sl 6 0 0 1)),.var [.map 4],.map [(.int .i64 1,.agg [])],lkF n,.row 0 11 [.agg (.int .i64 1::lkC n)],.free],{ any:=true,upd:=[(2,ZbZ true (.sl 5 0 1 0) (.sl 6 0 0 1)),(3,[.map 4])] }) :=
 ZeK (O:=E1) (bf:=BY) (σ:=[B0,B1,.var (ZbZ true (.sl 5 0 0 1) (.lst true [])),.var [.map 4],.map [],lkR n,.free,.free]) (sq:=6) (own:=1) (view:=true) (r0:=.tup [.agg (ZB (lkD n now 1)),.bool true]) (r:=.tup [.agg (ZB (lkD n now 1)),.bool true]) (vs:=[.ref 2 0,.int .i64 now]) (vs':=[.ref 0 0,.int .i64 now]) (ids:=[2,3,4,5]) (h0:=lkH true (lkR n)) (hh0:=lkN n) (h:=lkN n) (by kernel_rfl) rfl rfl rfl rfl rfl rfl (ZkM _ _ _ _ (ZDd n now hd hn)) rfl (by simp[lkN]) (by simp[lkN]) rfl rfl rfl rfl rfl
end
theorem ZEn(e:Int):E 13 [.int .i64 e] []=some (.int .i64 e,[]):=by
 rw[Zi (by rfl) ZHv]
 simp -implicitDefEqProofs only[EQA,Xc,Xa,reduceCtorEq,↓reduceIte,ZNp,ZsD,ZR0]
theorem ZDI(σ:Za)(sq own:Nat)(view:Bool)(e:Int):Zj E BY σ sq 13 own view [.int .i64 e]=some (.int .i64 e,σ,{}) :=
 Za2 (ZEn e) (by kernel_rfl) (by simp -implicitDefEqProofs only[Zbu,Zai,eq_self]) (by simp -implicitDefEqProofs only[Zz,Zai,eq_self]) rfl (fun _=>rfl) _ _ _ _
end
section
theorem ZPe(m:ZcN)(hm:Zhx m)(hops now0:Int):E1 3 [.agg (mC m),.int .i64 hops,.int .i64 now0] []=some (.bool true,[]):=by
 obtain⟨h,hh,qn⟩:=ZTQ m hm hops
 obtain⟨now,hnow,qw⟩:=ZyM now0 1 32768 (by decide) (by decide) (by decide)
 have hNo:∀ (σ:Za) (sq own:Nat),Zj E1 BY σ sq 4 own true [.agg (mC m),.int .i64 hops]=some (.agg (lkC (lkM m h)),σ,{}):=fun σ sq own=>ZbL (ZbD qn (by kernel_rfl) rfl rfl rfl (fun _=>rfl) σ sq own)
 have hW:=fun σ sq own view=>ZbL (qw σ sq own view)
 have hK:=ZL8
 have hNew:=ZVW
 have fit:=ZF7 m h hh
 have ok:=ZAK m h hh
 have okT:=Zzy m h hh
 have hex:=Zku m h
 have htl:(lkM m h).topic.length<=1000000:=W9 (Zl8 m).topic.2 (by decide)
 have c0:((0:Nat):Int)=0:=rfl
 cases ho:ZhU (lkM m h)with
 |false =>
  have hO:=fun B0 B1=>ZRR (lkM m h) B0 B1 fit ok htl ho
  unfold mC lkC ZbZ at *
  generalize (lkM m h).payload.map Zb=P at *
  generalize (lkM m h).props.map Zg=Q at *
  rw[ZbE (by rfl) ZnO]
  simp -implicitDefEqProofs only[EQA,ZaG,Xe,Xc,Xf,Xa,Xg,unA,Zw,unG,reduceCtorEq,↓reduceIte,ZmQ,ZiC,ZnY,Zd,hNo,hW,hK,hNew,hO,Zab,AVal.cells,ZX]
 |true =>
  have hO:=fun B0 B1=>ZCA (lkM m h) B0 B1 fit ok htl ho
  have hU:=fun B0 B1 sq=>ZNH (lkT (lkM m h)) B0 B1 now sq
  have eq0:(lkT (lkM m h)).expires=(lkM m h).expires:=rfl
  cases hd:Zci (lkT (lkM m h)) now with
  |true =>
   have hN:=fun B0 B1=>ZDQ (lkT (lkM m h)) B0 B1 now hd
   have hd1:((lkM m h).expires==0)=false/\¬now<(lkM m h).expires:=by
    unfold Zci at hd
    rw[eq0,Xk]at hd
    obtain⟨a,b⟩:=hd
    refine⟨by simpa using a,?_⟩
    have:=of_decide_eq_true b
    omega
   obtain⟨hd1,hd2⟩:=hd1
   unfold mC lkC ZbZ ZcC at *
   simp only[Xm,Xt,Za4]at hN
   generalize lkR (lkT (lkM m h))=R1 at *
   generalize lkF (lkT (lkM m h))=R2 at *
   generalize (lkM m h).payload.map Zb=P at *
   generalize (lkM m h).props.map Zg=Q at *
   rw[ZbE (by rfl) ZnO]
   simp -implicitDefEqProofs only[EQA,ZaG,Xe,Xc,Xf,Xa,Xg,unA,Zw,unG,reduceCtorEq,↓reduceIte,ZmQ,ZiC,ZnY,Zd,hNo,hW,hK,hNew,hO,hU,hN,hd1,hd2,Zab,AVal.cells,ZX,bne_self_eq_false]
  |false =>
   have hN:=fun B0 B1=>ZM0 (lkT (lkM m h)) B0 B1 now hd okT
   have hwW:=Zwd m h hh now
   have hgd:=ZxB m h hh now (by omega) (by omega)
   have hpay:(lkD (lkT (lkM m h)) now 1).payload.length<=1000000:=okT.payload
   have hL:=ZzK (lkD (lkT (lkM m h)) now 1) hwW hpay hgd [.agg (ZB (lkD (lkT (lkM m h)) now 1))] (ZiQ _ hwW hpay _).1 (ZiQ _ hwW hpay _).2
   have hof:Zhs (lkT (lkM m h))=true/\ZdD (lkT (lkM m h)).topic=true:=by
    unfold ZhU at ho
    simp only[Xk]at ho
    exact⟨ho.2,ho.1.2⟩
   have hlen:¬((Zd0 (lkD (lkT (lkM m h)) now 1)).length:Int)>512:=by
    have h1:=of_decide_eq_true hof.1
    rw[eq0]at h1
    have h2:=ZHZ m h hh now ((lkM m h).expires-1) (by omega) (by omega)
    omega
   have hor:=ZqP m h
   have hnu:=ZsN m h
   have hP:∀ (σ:Za) (sq own:Nat),Zj E1 BY σ sq 12 own true [.agg (ZB (lkD (lkT (lkM m h)) now 1)),.int .i64 100]=some (.tup [.agg (lkO (lkT (lkM m h)) now),.int .i64 0],σ,{}):=fun σ sq own =>
    ZbL (ZbD (ZMr (lkT (lkM m h)) now okT hor ⟨hnu.1,Int.le_trans hnu.2 (by decide)⟩ hh hof.2 (ZNa m h hh now) (ZFm m h hh now)) (by kernel_rfl) rfl rfl rfl (fun _=>rfl) σ sq own)
   have hS:=fun σ sq own=>ZbL (ZUl σ sq own false false (lkM m h).payload (lkM m h).payload)
   rw[show((lkM m h).payload==(lkM m h).payload)=true by simp]at hS
   have hq:=fun σ sq own view=>ZbL (ZDI σ sq own view 0)
   have hE:=ZK5 m h hh now (by omega) hd
   have tl:2+(lkM m h).topic.length<=9223372036854775807:=by omega
   have eO:lkO (lkT (lkM m h)) now=[.str (112::47::(lkM m h).topic),.lst false ((lkM m h).payload.map Zb),.int .i64 1,.bool (lkM m h).retain,.str [],.int .i64 (Zgv (Z1 (Z2 (lkT (lkM m h))) now) 100),.lst false ((Zdx (Z1 (Z2 (lkT (lkM m h))) now)).map Zg),.int .i64 (lkM m h).origin,.int .i64 (lkM m h).number,.int .i64 (lkM m h).hops]:=rfl
   rw[eO,hE]at hP
   have hd1:((lkM m h).expires==0)=true\/(((lkM m h).expires==0)=false/\now<(lkM m h).expires):=by
    unfold Zci at hd
    rw[eq0]at hd
    by_cases e0:(lkM m h).expires=0
    ·left;simpa using e0
    ·right
     refine⟨by simpa using e0,?_⟩
     have hb:((lkM m h).expires != 0)=true:=by simpa using e0
     rw[hb,Xa7]at hd
     have:=of_decide_eq_false hd
     omega
   have e0:=Zck (lkD (lkT (lkM m h)) now 1)
   have e1:=Zdh (lkD (lkT (lkM m h)) now 1)
   have e2:(ZB (lkD (lkT (lkM m h)) now 1)).drop 26=[]:=rfl
   have e3:(ZB (lkD (lkT (lkM m h)) now 1)).all ZX=true:=rfl
   have hi:∀ z:Bool,(z==z)=true:=by decide
   have hB:((Zd0 (lkD (lkT (lkM m h)) now 1)).map Zb).length=(Zd0 (lkD (lkT (lkM m h)) now 1)).length:=XD ..
   clear eO hE hof hwW hgd hpay fit ok okT htl hor hnu eq0 hd
   unfold mC lkC ZbZ at *
   generalize lkR (lkT (lkM m h))=R1 at *
   generalize lkF (lkT (lkM m h))=R2 at *
   generalize (Zdx (Z1 (Z2 (lkT (lkM m h))) now)).map Zg=K at *
   generalize (Zd0 (lkD (lkT (lkM m h)) now 1)).map Zb=LB at *
   generalize (Zd0 (lkD (lkT (lkM m h)) now 1)).length=LN at *
   generalize ZB (lkD (lkT (lkM m h)) now 1)=X at *
   generalize hT:(lkT (lkM m h))=T at *
   clear hT
   generalize (lkM m h).payload.map Zb=P at *
   generalize (lkM m h).props.map Zg=Q at *
   generalize (lkM m h).expires=ex at *
   have w1:IntKind.i64.wrap (100+ex)=100+ex:=ZaC (by omega) (by omega)
   have w2:IntKind.i64.wrap (100+ex-now)=100+ex-now:=ZaC (by omega) (by omega)
   rcases hd1 with hd1 |⟨hd1,hd2⟩
   ·have ex0:ex=0:=by simpa using hd1
    have hd3:(ex != 0)=false:=by simp[ex0]
    rw[if_neg (by simp[ex0])]at hP
    rw[ZbE (by rfl) ZnO]
    simp -implicitDefEqProofs only[EQA,ZaG,Xe,Xc,Xf,Xa,Xg,Zbi,unA,Zw,Zad,unG,reduceCtorEq,↓reduceIte,ZmQ,ZiC,ZnY,Zd,hNo,hW,hK,hNew,hO,hU,hN,hL,hP,hS,hq,hB,hlen,hd1,hd3,tl,e0,e1,e3,Zab,AVal.cells,ZX,bne_self_eq_false]
   ·have ex0:ex≠0:=by simpa using hd1
    have hd3:(ex != 0)=true:=by simp[ex0]
    rw[if_pos ex0]at hP
    rw[ZbE (by rfl) ZnO]
    simp -implicitDefEqProofs only[EQA,ZaG,Xe,Xc,Xf,Xa,Xg,Zbi,unA,Zw,unG,reduceCtorEq,↓reduceIte,ZmQ,ZiC,ZnY,Zd,hNo,hW,hK,hNew,hO,hU,hN,hL,hP,hS,hq,hB,hlen,hd1,hd2,hd3,w1,w2,tl,e0,e1,e3,Zab,AVal.cells,ZX,bne_self_eq_false]
end
section
open Go.RowKit
theorem Zvv{α:Type}{T:Ty}{s:Bool}{f:α->AVal}(h:∀ y,TyC T y->∃ a,ZcM s y=f a){xs:List AVal}(hx:TyC (.slice s T) xs):∃ l:List α,xs=[.lst false (l.map f)]/\l.length<=9223372036854775807:=by
 simp only[TyC]at hx
 obtain⟨ys,rfl,h1,h2⟩:=hx
 have : ∀ ys:List (List AVal),(∀ y∈ys,TyC T y)->∃ l:List α,ys.map (ZcM s)=l.map f:=by
  intro ys
  induction ys with
  |nil=>intro _;exact⟨[],rfl⟩
  |cons y ys ih =>
   intro hy
   obtain⟨a,ha⟩:=h y (hy y (by simp))
   obtain⟨l,hl⟩:=ih fun y' h'=>hy y' (by simp[h'])
   exact⟨a::l,by simp[ha,hl]⟩
 obtain⟨l,hl⟩:=this ys h2
 refine⟨l,by rw[hl],?_⟩
 have:=congrArg Xab hl
 simp only[XD]at this
 omega
theorem ZW6{y:List AVal}(h:TyC (.int .u8) y):∃ b,ZcM false y=Zb b:=by
 simp only[TyC]at h
 obtain⟨n,hw,rfl⟩:=h
 have h1:0<=n/\n<=255:=by
  simp only[Lit.wf,Xk,decide_eq_true_eq]at hw
  exact hw
 refine⟨X1 n.toNat,?_⟩
 simp only[ZcM,Xj,if_false,List.headD_cons,Zb,AVal.int.injEq,true_and]
 rw[UInt8.toNat_ofNat']
 omega
theorem ZhI{xs:List AVal}(h:TyC (.slice false (.int .u8)) xs):∃ b:Zc,xs=[ZJ b]/\b.length<=9223372036854775807:=Zvv (fun _=>ZW6) h
theorem ZNi{xs:List AVal}(h:TyC (.slice false (.int .i64)) xs):∃ b:List Int,xs=[ZdJ b]/\b.length<=9223372036854775807:=Zvv (fun y hy=>by
 simp only[TyC]at hy
 obtain⟨n,_,rfl⟩:=hy
 exact⟨n,rfl⟩) h
def ZU7:Ty:=.struct [.int .i64,.int .i64,.str,.str,.slice false (.int .u8)]
def ZSX:Ty:=.struct [.str,.slice false (.int .u8),.int .i64,.bool,.str,.int .i64,.slice true ZU7,.int .i64,.int .i64,.int .i64]
def ZHS:Ty:=.struct [ZSX,.int .i64,.bool,.slice false (.int .i64),.str]
example:Zdw Tryz.prog 8 60=some ZHS:=by kernel_rfl
example:ZdZ (Tryz.prog.underlying 60)=true:=by kernel_rfl
end
section
open Go.RowKit
def Zum:Ty:=.struct [.slice false (.int .u8),.slice false (.int .u8),.slice false (.int .u8),.slice false (.int .u8),.int .i64,.int .i64,.bool,.bool,.int .i64,.struct [.int .i64,.slice false (.int .u8),.slice false (.int .u8),.slice false (.int .u8)],.slice false (.int .i64),.int .i64,.int .i64]
theorem ZUr{x:AVal}(h:Zrj true Zum x):∃ m,Zhx m/\x=.agg (mC m):=by
 obtain⟨y,h,rfl⟩:=h
 unfold Zum at h
 rw[TyC]at h
 simp only[ZhE]at h
 obtain⟨_,_,rfl,h1,_,_,rfl,h2,_,_,rfl,h3,_,_,rfl,h4,_,_,rfl,h5,_,_,rfl,h6,_,_,rfl,h7,_,_,rfl,h8,_,_,rfl,h9,_,_,rfl,h10,_,_,rfl,h11,_,_,rfl,h12,_,_,rfl,h13,rfl⟩:=h
 rw[TyC]at h10
 simp only[ZhE]at h10
 obtain⟨_,_,rfl,g1,_,_,rfl,g2,_,_,rfl,g3,_,_,rfl,g4,rfl⟩:=h10
 obtain⟨b1,rfl,l1⟩:=ZhI h1
 obtain⟨b2,rfl,l2⟩:=ZhI h2
 obtain⟨b3,rfl,l3⟩:=ZhI h3
 obtain⟨b4,rfl,l4⟩:=ZhI h4
 obtain⟨c2,rfl,m2⟩:=ZhI g2
 obtain⟨c3,rfl,m3⟩:=ZhI g3
 obtain⟨c4,rfl,m4⟩:=ZhI g4
 obtain⟨is,rfl,li⟩:=ZNi h11
 simp only[TyC]at h5 h6 h7 h8 h9 h12 h13 g1
 obtain⟨a5,_,rfl⟩:=h5
 obtain⟨a6,_,rfl⟩:=h6
 obtain⟨a7,rfl⟩:=h7
 obtain⟨a8,rfl⟩:=h8
 obtain⟨a9,_,rfl⟩:=h9
 obtain⟨a12,_,rfl⟩:=h12
 obtain⟨a13,_,rfl⟩:=h13
 obtain⟨f1,_,rfl⟩:=g1
 exact⟨⟨b1,b2,b3,b4,a5,a6,a7,a8,a9,⟨f1,c2,c3,c4⟩,is,a12,a13⟩,⟨l1,l2,l3,m2,m4,li⟩,rfl⟩
end
section
open Go.RowKit Go.Shelf Go.Lib
theorem ZHW{W:World}(h:Lib.Utf8Tabs 0 1 W):Gl.le (Imm.of W):=by
 intro b o u hu
 unfold Gl at hu
 unfold Imm.of
 split at hu
 ·rename_i e;subst e
  split at hu
  ·rename_i ho
   rw[h.1 o ho,<-hu]
  ·cases hu
 ·split at hu
  ·rename_i e;subst e
   split at hu
   ·rename_i ho
    rw[<-hu]
    obtain⟨h1,h2⟩:=h.2 (o/2) (by omega)
    by_cases hp:o%2=0
    ·rw[if_pos hp,<-h1];congr 2;omega
    ·rw[if_neg hp,<-h2];congr 2;omega
   ·cases hu
  ·cases hu
theorem Zyl{x:AVal}(h:Zrj false (.int .i64) x):∃ n:Int,(-9223372036854775808<=n/\n<=9223372036854775807)/\x=.int .i64 n:=by
 obtain⟨y,h,rfl⟩:=h
 simp only[TyC]at h
 obtain⟨n,hw,rfl⟩:=h
 refine⟨n,?_,rfl⟩
 simp only[Lit.wf,Xk,decide_eq_true_eq]at hw
 exact hw
section
open Go.RowKit
variable {H:Type}{enc:TypeId×Value->H}{P:Program}{w:World}{spare:Nat->Bool}{held:Bool}
end
end
section
open Go.ChangeShapes Go.WideShapes Go.ChangeAt Go.RowKit Go.Deep
theorem ZXd:ownKnob Tryz.prog.godebug=none:=by kernel_rfl
theorem Zr4:laidOutB Tryz.prog=true:=by kernel_rfl
theorem ZLT{W:World}(hLH:laidMetH Tryz.prog Rows.linkOverRow.laid W):GlW W:=by
 have hL:laidMet Tryz.prog Rows.linkOverRow.laid W:=by rw[<-MakeChecks.laidMetH_plain _ _ _ (by kernel_rfl)];exact hLH
 have e1:Rows.laid_unicode_utf8_first=Lib.firstData:=by kernel_rfl
 have e2:(Rows.laid_unicode_utf8_acceptRanges:DataW Unit)=Lib.acceptData:=by kernel_rfl
 have h1:Lib.VarReads Tryz.prog W "unicode/utf8.first" Lib.firstData:=by rw[<-e1];exact Lib.laidMet.reads hL (.tail _ (.tail _ (.tail _ (.tail _ (.tail _ (.tail _ (.tail _ (.head _))))))))
 have h2:Lib.VarReads Tryz.prog W "unicode/utf8.acceptRanges" Lib.acceptData:=by rw[<-e2];exact Lib.laidMet.reads hL (.tail _ (.tail _ (.tail _ (.head _))))
 have e3:(Rows.laid_internal_strconv_uint64pow10:DataW Unit)=Lib.tabData .u64 Lib.pow10Tab:=by kernel_rfl
 have h3:Lib.VarReads Tryz.prog W "internal/strconv.uint64pow10" (Lib.tabData .u64 Lib.pow10Tab):=by rw[<-e3];exact Lib.laidMet.reads hL (.tail _ (.tail _ (.head _)))
 exact⟨ZHW (utf8Tabs_of_readsT (U8Types.of196 Zwc) ⟨by kernel_rfl,by kernel_rfl,by kernel_rfl,by kernel_rfl,by kernel_rfl,by kernel_rfl,by kernel_rfl⟩ h1 h2),ZJk (ZMN h3)⟩
set_option maxRecDepth 100000 in
theorem ZQG(H:Type)(enc:TypeId×Value->H)(W:World)(base:Nat)(args:Array Value)(ds gs:List (DataW H))(before:List MemPlace)
  (hval0:∀ (j:Nat) t v,Tryz.f3.params[j]?=some t->args[j]?=some v->Value.okWide Tryz.prog W .any base t v)
  (hW:DataW.Whole enc Tryz.prog Tryz.f3.params.toList Rows.linkOverSpec.vars false W args.toList ds gs before) (hL:laidMetH Tryz.prog Rows.linkOverRow.laid W) :
  Calls Tryz.prog 3 args W fun e W'=>∃ v,e=.returned v/\Rows.linkOverSpec.post enc Tryz.prog Tryz.f3 false true false false W args v W':=by
 have hW':=hW
 obtain⟨p,q,hA0,hV,rfl,hfz,hnd⟩:=hW
 have hval:∀ (j:Nat) t v,Tryz.f3.params[j]?=some t->args[j]?=some v->Value.okWide Tryz.prog W .any base t v:=hval0
 have hA:DataW.TrodAll enc Tryz.prog W 0 (fun _=>true) true Tryz.f3.params.toList args.toList ds p:=hA0
 rw[Tryz.params3]at hA hval
 obtain⟨v0,vs0,d0,ds0,p0,q0,hargs,rfl,rfl,h0,r0⟩:=trodAll_cons hA
 obtain⟨v1,vs1,d1,ds1,p1,q1,rfl,rfl,rfl,h1,r1⟩:=trodAll_cons r0
 obtain⟨v2,vs2,d2,ds2,p2,q2,rfl,rfl,rfl,h2,r2⟩:=trodAll_cons r1
 obtain⟨rfl,rfl,rfl⟩:=trodAll_nil r2
 obtain rfl:args=#[v0,v1,v2]:=by cases args;simp_all
 obtain⟨rfl,rfl⟩:=trodVars_none hV
 have k0:=h0
 have lt0:∀ x∈p0,x.block<W.heap.size:=by obtain⟨m,hm⟩:=k0;exact DataW.trod_lt m _ _ _ hm
 obtain⟨x0,y0,z0,_⟩:=ZtF (n:=12) (T:=Zum) (by kernel_rfl) (hval 0 27 v0 rfl rfl) h0
 rw[Tryz.underlying27]at y0
 obtain⟨a0,b0,rfl⟩:=ZUr y0
 have k1:=h1
 have lt1:∀ x∈p1,x.block<W.heap.size:=by obtain⟨m,hm⟩:=k1;exact DataW.trod_lt m _ _ _ hm
 obtain⟨x1,y1,z1,_⟩:=ZtF (n:=12) (T:=(.int .i64)) (by kernel_rfl) (hval 1 3 v1 rfl rfl) h1
 rw[Tryz.underlying3]at y1
 obtain⟨a1,b1,rfl⟩:=Zyl y1
 have k2:=h2
 have lt2:∀ x∈p2,x.block<W.heap.size:=by obtain⟨m,hm⟩:=k2;exact DataW.trod_lt m _ _ _ hm
 obtain⟨x2,y2,z2,_⟩:=ZtF (n:=12) (T:=(.int .i64)) (by kernel_rfl) (hval 2 3 v2 rfl rfl) h2
 rw[Tryz.underlying3]at y2
 obtain⟨a2,b2,rfl⟩:=Zyl y2
 clear hA0 hval0
 refine(ZPX ZO9 (ZLT hL) (args:=[.agg (mC a0),.int .i64 a1,.int .i64 a2]) (by simp only[VRs];exact⟨_,_,rfl,z0,_,_,rfl,z1,_,_,rfl,z2,rfl⟩) (ZPe a0 b0 a1 a2)).mono fun e W' ⟨he,bel⟩=>?_
 subst he
 exact⟨_,rfl,_,_,_,[],_,[],hW',trodAll_mk1 (shut_bool Tryz.underlying4 _),(trodAll_cons_mk (Below.trod Zr4 (by kernel_rfl) (of_decide_eq_true (by kernel_rfl)) k0 bel lt0) (trodAll_cons_mk (Below.trod Zr4 (by kernel_rfl) (of_decide_eq_true (by kernel_rfl)) k1 bel lt1) (trodAll_cons_mk (Below.trod Zr4 (by kernel_rfl) (of_decide_eq_true (by kernel_rfl)) k2 bel lt2) trodAll_mk0))),rfl,bel.frame _,fun h=>by cases h⟩
noncomputable def Zrz(os:Os):World :=
 let w0:=World.holding Tryz.prog os ⟨#[],#[],[]⟩
 let put (h:Array Obj) (g:Nat) (us:Array Value):Array Obj:=h.modify g fun
  | .cells _ t frozen=>.cells us t frozen
  |o=>o
 let h1:=put w0.heap 0 (Lib.firstTab.map fun z=>Value.int .u8 z).toArray
 let h2:=put h1 1 ((List.range 16).flatMap fun i=>[Value.int .u8 (Lib.accLo i),Value.int .u8 (Lib.accHi i)]).toArray
 let h3:=(put h2 2 #[Value.iface 227 (.pointer (some ⟨h2.size,0,none⟩))]).push (.cells #[Value.string ⟨#[98,121,116,101,115,46,66,117,102,102,101,114,58,32,116,111,111,32,108,97,114,103,101]⟩] 229)
 let vals (d:DataW Unit):Array Value:=match d with
  | .agg l=>(l.filterMap fun x=>match x with
   | .lit (.int k n)=>some (Value.int k n)
   |_=>none).toArray
  |_=>#[]
 let h4:=put h3 7 (vals Rows.laid_math_bits_deBruijn32tab)
 let h5:=put h4 8 (vals Rows.laid_math_bits_deBruijn64tab)
 let h6:=put h5 6 (vals Rows.laid_internal_strconv_uint64pow10)
 let h7:=(put h6 4 #[Value.iface 227 (.pointer (some ⟨h6.size,0,none⟩))]).push (.cells #[Value.string ⟨#[118,97,108,117,101,32,111,117,116,32,111,102,32,114,97,110,103,101]⟩] 229)
 let h8:=(put h7 3 #[Value.iface 227 (.pointer (some ⟨h7.size,0,none⟩))]).push (.cells #[Value.string ⟨#[105,110,118,97,108,105,100,32,115,121,110,116,97,120]⟩] 229)
 { w0 with heap:=h8 }
theorem ZFP(os:Os):laidMet Tryz.prog Rows.linkOverRow.laid ((Zrz os).forCall (fun _ _=>0) ⟨#[],#[.agg #[.slice none 0 0,.slice none 0 0,.slice none 0 0,.slice none 0 0,.int .i64 0,.int .i64 0,.bool false,.bool false,.int .i64 0,.int .i64 0,.slice none 0 0,.slice none 0 0,.slice none 0 0,.slice none 0 0,.int .i64 0,.int .i64 0],.int .i64 0,.int .i64 0],[]⟩).memory :=
 laidMet_of_run' 8 (by kernel_rfl) (by kernel_rfl)
theorem ZTw(os:Os){H:Type}(enc:TypeId×Value->H):∃ ds places,DataW.whole enc Tryz.prog ((Zrz os).forCall (fun _ _=>0) ⟨#[],#[.agg #[.slice none 0 0,.slice none 0 0,.slice none 0 0,.slice none 0 0,.int .i64 0,.int .i64 0,.bool false,.bool false,.int .i64 0,.int .i64 0,.slice none 0 0,.slice none 0 0,.slice none 0 0,.slice none 0 0,.int .i64 0,.int .i64 0],.int .i64 0,.int .i64 0],[]⟩).memory Tryz.f3.params.toList Rows.linkOverSpec.vars false #[.agg #[.slice none 0 0,.slice none 0 0,.slice none 0 0,.slice none 0 0,.int .i64 0,.int .i64 0,.bool false,.bool false,.int .i64 0,.int .i64 0,.slice none 0 0,.slice none 0 0,.slice none 0 0,.slice none 0 0,.int .i64 0,.int .i64 0],.int .i64 0,.int .i64 0].toList 8=some (ds,[],places) :=
 ⟨[.agg [.nil,.nil,.nil,.nil,.lit (.int .i64 0),.lit (.int .i64 0),.lit (.bool false),.lit (.bool false),.lit (.int .i64 0),.agg [.lit (.int .i64 0),.nil,.nil,.nil],.nil,.lit (.int .i64 0),.lit (.int .i64 0)],.lit (.int .i64 0),.lit (.int .i64 0)],[],by kernel_rfl⟩
set_option maxRecDepth 100000 in
theorem ZDJ(os:Os)(started:os.Started)(H:Type)(enc:TypeId×Value->H)(F:Stop.Interp) :
  ReturnsInHanded {} Tryz.checked os 3 .any ((OpenSpec.ofChange Rows.linkOverSpec).preRow enc Tryz.prog Tryz.f3 Rows.linkOverRow.domain false Rows.linkOverRow.laid) (((OpenSpec.ofChange Rows.linkOverSpec).at F).post enc Tryz.prog Tryz.f3 false true false false):=by
 obtain⟨ds,places,hx⟩:=ZTw os enc
 refine returnsInHanded_of_row (C:=Tryz.checked) (s:=(OpenSpec.ofChange Rows.linkOverSpec)) ZXd started (by kernel_rfl) Tryz.func3
  (witness_row_at (enc:=enc) (C:=Tryz.checked) false (Zrz os) #[.agg #[.slice none 0 0,.slice none 0 0,.slice none 0 0,.slice none 0 0,.int .i64 0,.int .i64 0,.bool false,.bool false,.int .i64 0,.int .i64 0,.slice none 0 0,.slice none 0 0,.slice none 0 0,.slice none 0 0,.int .i64 0,.int .i64 0],.int .i64 0,.int .i64 0] rfl (by kernel_rfl) (by kernel_rfl) (by kernel_rfl)
   (OpenSpec.preRow_of_cond 8 hx (by kernel_rfl) (fun k hk=>by cases hk) (by kernel_rfl) (ZFP os))) ?_
 intro W base args ds gs before hval hW _ hcond _ hL _ _
 exact ZQG H enc W base args ds gs before hval hW hL
theorem ZHG:Rows.LinkOverSaid :=
 OpenClaim.holds_of_cond 3 Tryz.f3 rfl rfl rfl rfl rfl rfl rfl ⟨rfl,rfl,rfl,rfl,rfl⟩ rfl rfl rfl rfl rfl (by kernel_rfl) Tryz.func3 (by kernel_rfl)
  (of_decide_eq_true (by kernel_rfl)) (by unfold Func.isWrapper;first |(rw[if_pos (by decide +kernel)];kernel_rfl) |(rw[if_neg (by decide +kernel)];exact⟨rfl,rfl⟩))
  (fun os started H enc _ F=>by rw[OpenClaim.pre_eq_preRow];exact ZDJ os started H enc F)
theorem ZCl(f:FuncId)(fn:Func)(hf:Tryz.pinned.checked.prog.funcNamed "tidings/tidingslaw25.LinkOver"=some f)(hfn:Tryz.pinned.checked.prog.funcs[f]?=some fn) :
  true=Tryz.pinned.checked.prog.looks []/\∀ (j:Nat) t,fn.params[j]?=some t->Tryz.pinned.checked.prog.wantsStandIn t=false:=by
 obtain rfl:f=3:=WE ((show Tryz.prog.funcNamed "tidings/tidingslaw25.LinkOver"=some 3 by kernel_rfl).symm.trans hf) |>.symm
 obtain rfl:fn=Tryz.f3:=(WE (Tryz.func3.symm.trans hfn)).symm
 refine⟨by kernel_rfl,fun j t ht=>?_⟩
 rw[Tryz.params3]at ht
 have hm:t=3\/t=27:=by
  have:=Array.mem_of_getElem? ht
  simp at this
  first |exact this |exact this.symm |omega |(rcases this with h |h |h<;>simp[h]) |(rcases this with h |h |h |h<;>simp[h]) |(rcases this with h |h |h |h |h<;>simp[h]) |(rcases this with h |h |h |h |h |h<;>simp[h]) |(rcases this with h |h |h |h |h |h |h<;>simp[h])
 rcases hm with rfl |rfl
 ·exact(show Tryz.prog.wantsStandIn 3=false by kernel_rfl)
 ·exact(show Tryz.prog.wantsStandIn 27=false by kernel_rfl)
theorem linkOver_card:Rows.LinkOverCardSaid :=
 Claim7.holds_tied_plain_at .later [] _ _ _ _ ZHG (fun _ h=>by cases h) (by kernel_rfl) (fun _ h=>by cases h) linkOver_row_tie rfl ⟨rfl,rfl⟩ (by kernel_rfl) rfl ZCl (by kernel_rfl)
#print axioms linkOver_card
end
end Go.Proofs.YtfhocpplckoodaaGreatDoor
