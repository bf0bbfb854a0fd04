/- The card of NoteBytes: for every input the law returns true, and each argument reads afterwards as it read before. No other condition; the tables of unicode/utf8 are tied to the program. -/
import Derived.Test.YtbcbhgbffjkheaaDoorMq5
import Derived.Lib.TrimAscii
import Derived.Test.YtbcbhgbffjkheaaDoorMq4
import Derived.Test.YtbcbhgbffjkheaaDoorMq3
import Derived.Test.YtbcbhgbffjkheaaDoorProg
import Derived.Shelf.Unicode.ValidAny
import Derived.Lib.LaidU8T
import Derived.Test.YtbcbhgbffjkheaaDoorRows
import Derived.Deep.Slices
import Derived.Test.YtbcbhgbffjkheaaDoorCards
import Derived.Test.YtbcbhgbffjkheaaDoorTie
import Derived.WalkKit
import Derived.ProofKit
import Derived.OpenShut
import Derived.ShutString
import Derived.ChangeOld
import Derived.Below
import Derived.SevenTiedAt
import Derived.LaidByTextLater
import Derived.Lib.LaidIn
import Derived.Deep.DeepHandedRow
import Derived.MakeChecks
set_option linter.unusedSimpArgs false
set_option linter.unusedVariables false
open Option.some renaming injEq→Xa,inj→Xbp
open Nat renaming reduceEqDiff→Xb,reduceLT→Xd,reduceLeDiff→Xe,reduceAdd→Xf,reduceBEq→Xg,zero_add→Xv,le_refl→XD
open Bool renaming and_eq_true→Xj,false_eq_true→Xl,or_eq_false_iff→Xaa,not_eq_true→Xar,not_eq_false→XaC,false_or→Xa5,or_self→Xbw
open List renaming length_append→Xk,length_cons→Xm,map_cons→Xn,map_nil→Xo,length_nil→Xu,append_nil→XC,mem_cons→XI,length_map→XL,mem_singleton→XM,nil_append→XU,length_drop→XV,length_take→X0,append_assoc→Wa,lookup_nil→W4,length→Xa6,not_mem_nil→Xbl
open Or renaming inl→Xp,inr→Xt
open BitVec renaming ofInt→XJ
open Int renaming toNat_natCast→X3
open UInt8 renaming toNat_ofNat'→Wk
open Decidable renaming not_not→Xbh
open Prod renaming ext→Xby
namespace Go.Proofs.YtbcbhgbffjkheaaDoor
set_option maxHeartbeats 16000000
set_option maxRecDepth 10000
section
def ZiR(x k:Int):Int:=IntKind.i64.wrap (((XJ IntKind.i64.bits x&&&XJ IntKind.i64.bits k).toNat:Nat):Int)
structure Zd4 where
 topic:Zd
 sender:Zd
 share:Zd
 payload:Zd
 qos:Int
 sub:Int
 retain:Bool
 keep:Bool
 life:Int
 p:ZfH
 ids:List Int
 origin:Int
 number:Int
def mC(m:Zd4):List AVal:=[.lst false (m.topic.map Zc),.lst false (m.sender.map Zc),.lst false (m.share.map Zc),.lst false (m.payload.map Zc),.int .i64 m.qos,.int .i64 m.sub,.bool m.retain,.bool m.keep,.int .i64 m.life,.int .i64 m.p.fmt,.lst false (m.p.content.map Zc),.lst false (m.p.corr.map Zc),.lst false (m.p.users.map Zc),.lst false (m.ids.map (AVal.int .i64)),.int .i64 m.origin,.int .i64 m.number]
structure Zhp(m:Zd4):Prop where
 topic:m.topic.length<=9223372036854775807
 sender:m.sender.length<=9223372036854775807
 share:m.share.length<=9223372036854775807
 content:m.p.content.length<=9223372036854775807
 users:m.p.users.length<=9223372036854775807
 ids:m.ids.length<=9223372036854775807
def ZgM(x:Int):Int:=IntKind.i64.wrap (1+ZiR x 16777215)
def Zfy(m:Zd4):Zab:=⟨116::ZcT m.topic,m.payload.take 300,Zdt m.qos 0 2,m.retain,ZcT m.sender,if m.life>0 then ZiR m.life 65535 else 0,ZeQ m.p,ZiR m.origin 255,ZiR m.number 16777215,0⟩
def Zfn(m:Zd4):Zd:=if(m.share.length:Int)>0 then [36,115,104,97,114,101,47,103,47]++ZcT m.share else []
def Zaa(m:Zd4):ZaH:=⟨Zfy m,Zdt m.sub 0 2,m.keep,(m.ids.take 4).map ZgM,Zfn m⟩
def itO(it:ZaH):AVal×Za:=(.agg (itC it.note it.qos it.retain (ZaX (it.ids.map (AVal.int .i64))) it.share),ZaS 1 (it.ids.map (AVal.int .i64)))
def miT(i:Int):List AVal->Tms
 | []=>[(5,.int .i64 i),(4,.ref 0 0),(2,.ref 1 0),(1,.ref 2 0)]
 |_::_=>[(5,.int .i64 i),(4,.ref 0 0),(2,.ref 2 0),(1,.ref 3 0)]
def miH(n:Zab)(q:Int)(rt:Bool)(z b:Zx):List AVal->Za
 | []=>[.var (itC n q rt (.lst true []) []),z,b]
 |x::xs=>[.var (itC n q rt (.sl 1 0 0 (x::xs).length) []),.row 0 1 (x::xs),z,b]
theorem Zoi(i:Int){X:List AVal}(h:0<X.length):miT i X=[(5,.int .i64 i),(4,.ref 0 0),(2,.ref 2 0),(1,.ref 3 0)]:=by
 cases X with
 |nil=>simp at h
 |cons x xs=>rfl
theorem ZnG(n:Zab)(q:Int)(rt:Bool)(z b:Zx){X:List AVal}(h:0<X.length):miH n q rt z b X=[.var (itC n q rt (.sl 1 0 0 X.length) []),.row 0 1 X,z,b]:=by
 cases X with
 |nil=>simp at h
 |cons x xs=>rfl
theorem Zgd(b:Zd):(ZcT b).length<=30:=by simp[ZcT];omega
theorem ZMa(m:Zd4)(hm:Zhp m)(n:Zab)(q:Int)(rt:Bool)(ids:List Int)(i:Int)(h:¬i<(m.ids.length:Int)\/¬i<4) :
  Zi8 0 (miT i (ids.map (AVal.int .i64))) (miH n q rt (.var itZ) (.var (mC m)) (ids.map (AVal.int .i64)))=some (itO ⟨n,q,rt,ids,Zfn m⟩):=by
 have hP:=fun σ sq own f=>ZiH σ sq own f m.share hm.share
 have hl:=Zgd m.share
 have k1:9+(ZcT m.share).length<=9223372036854775807:=by omega
 unfold itO Zfn
 simp only
 have hh:(if i<(m.ids.length:Int)then decide (i<4)else false)=false:=by
  split
  ·rename_i h1
   have : ¬i<4:=h.resolve_left (by simpa using h1)
   simp[this]
  ·rfl
 unfold Zi8
 rw[Zr]
 cases hids:ids.map (AVal.int .i64)with
 |nil =>
  rw[ZaZ,ZaF]
  unfold miT miH itC itZ mC
  by_cases c0:i<(m.ids.length:Int)
  ·have c1:¬i<4:=h.resolve_left (by simpa using c0)
   by_cases c2:(m.share.length:Int)>0
   ·rw[if_pos c2]
    simp only[EQA,Zk,Xf,Xd,Xe,Xb,Zbw,Zh,unG,↓reduceIte,Zm,ZgI,Zgq,ZeO,Zfd,Zer,Zb,c0,c1,c2,hP,k1,AVal.cells]
    try (simp[EQO])
   ·rw[if_neg c2]
    simp only[EQA,Zk,Xf,Xd,Xe,Xb,Zh,unG,↓reduceIte,Zm,ZgI,Zgq,ZeO,Zfd,Zer,Zb,c0,c1,c2,AVal.cells]
    try (simp[EQO])
  ·by_cases c2:(m.share.length:Int)>0
   ·rw[if_pos c2]
    simp only[EQA,Zk,Xf,Xd,Xe,Xb,Zbw,Zh,Zw,↓reduceIte,Zm,ZgI,Zgq,ZeO,Zfd,Zer,Zb,c0,c2,hP,k1,AVal.cells]
    try (simp[EQO])
   ·rw[if_neg c2]
    simp only[EQA,Zk,Xf,Xd,Xe,Xb,Zh,Zw,↓reduceIte,Zm,ZgI,Zgq,ZeO,Zfd,Zer,Zb,c0,c2,AVal.cells]
    try (simp[EQO])
 |cons x xs =>
  have hXp:0<(x::xs).length:=by simp
  rw[ZbY hXp,Zbk hXp,Zoi _ hXp,ZnG _ _ _ _ _ hXp]
  generalize x::xs=X at *
  unfold itC itZ mC
  by_cases c0:i<(m.ids.length:Int)
  ·have c1:¬i<4:=h.resolve_left (by simpa using c0)
   by_cases c2:(m.share.length:Int)>0
   ·rw[if_pos c2]
    simp only[EQA,Xf,Xd,Xe,Xb,Zbw,Zh,unG,↓reduceIte,ZgI,Zgq,ZeO,Zfd,Zer,Zb,c0,c1,c2,hP,k1,AVal.cells]
    try (simp[EQO])
   ·rw[if_neg c2]
    simp only[EQA,Xf,Xd,Xe,Xb,Zh,unG,↓reduceIte,ZgI,Zgq,ZeO,Zfd,Zer,Zb,c0,c1,c2,AVal.cells]
    try (simp[EQO])
  ·by_cases c2:(m.share.length:Int)>0
   ·rw[if_pos c2]
    simp only[EQA,Xf,Xd,Xe,Xb,Zbw,Zh,Zw,↓reduceIte,ZgI,Zgq,ZeO,Zfd,Zer,Zb,c0,c2,hP,k1,AVal.cells]
    try (simp[EQO])
   ·rw[if_neg c2]
    simp only[EQA,Xf,Xd,Xe,Xb,Zh,Zw,↓reduceIte,ZgI,Zgq,ZeO,Zfd,Zer,Zb,c0,c2,AVal.cells]
    try (simp[EQO])
theorem ZzG(m:Zd4)(hm:Zhp m)(n:Zab)(q:Int)(rt:Bool):∀ (r:List Int) (i:Nat) (ids:List Int),(m.ids.take 4).drop i=r->ids.length<=i->i<=4 ->
  Zi8 0 (miT i (ids.map (AVal.int .i64))) (miH n q rt (.var itZ) (.var (mC m)) (ids.map (AVal.int .i64)))=some (itO ⟨n,q,rt,ids++r.map ZgM,Zfn m⟩)
 | [],i,ids,h,ha,hi=>by
  rw[List.drop_eq_nil_iff,X0]at h
  rw[Xo,XC]
  exact ZMa m hm n q rt ids i (by omega)
 |x::r,i,ids,h,ha,hi=>by
  have hd:=ZP h
  have hlt:i<min 4 m.ids.length:=by have:=hd.2.2;rwa [X0]at this
  have ih:=ZzG m hm n q rt r (i+1) (ids++[ZgM x]) hd.2.1 (by simp;omega) (by omega)
  have hat:m.ids[i]?=some x:=by
   have:=hd.1
   rw[List.getElem?_take]at this
   rw[if_pos (by omega)]at this
   exact this
  have h1:(i:Int)<(m.ids.length:Int):=by omega
  have h2:(i:Int)<4:=by omega
  have e1:=iad hat (AVal.int .i64) (k:=1) rfl
  have hw:IntKind.i64.wrap ((i:Int)+1)=((i+1:Nat):Int):=by rw[ZQ (by omega) (by omega)];rfl
  have hk:kOk 1 [AVal.int .i64 (ZgM x)]=true:=rfl
  rw[Wa,List.singleton_append,<-Xn]at ih
  generalize hR:itO ⟨n,q,rt,ids++(x::r).map ZgM,Zfn m⟩=R at *
  have hXl:(ids.map (AVal.int .i64)).length=ids.length:=by simp
  rw[List.map_append,Xn,Xo]at ih
  unfold ZgM ZiR at ih hk
  unfold Zi8 at ih ⊢
  rw[Zr]
  cases hids:ids.map (AVal.int .i64)with
  |nil =>
   rw[hids]at ih
   rw[XU]at ih
   unfold miT miH itC itZ mC at ih ⊢
   simp only[Xm,Xu,Xv]at ih
   simp only[EQA,ZB,ZX,Xf,Xd,Xe,Xb,Xg,Zh,unG,reduceCtorEq,Zq,↓reduceIte,gcT,gcA,gcIds,reach,rhoOf,heapOf,idxA,genB,newGen,renB,refsB,Zfd,Zer,Zb,h1,h2,e1,hw,hk,AVal.cells,Za3,Zbd,Zby,Zce,ZcZ,ZcQ,Zc8,Zc6,ZbC,W4,ZI,viewAs,Zv,Zs,Zj,Nat.one_mul,Xe]
   exact ih
  |cons y ys =>
   rw[hids]at ih hXl
   have hXp:0<(y::ys).length:=by simp
   rw[Zoi _ hXp,ZnG _ _ _ _ _ hXp]
   have hXq:∀ z:AVal,0<(y::ys++[z]).length:=fun z=>by simp
   rw[Zoi _ (hXq _),ZnG _ _ _ _ _ (hXq _)]at ih
   generalize y::ys=X at *
   have k2:(X.length+1)*8<=140737488355328:=by omega
   unfold itC itZ mC at ih ⊢
   simp only[Xk,Xm,Xu,Xv]at ih
   simp only[EQA,ZB,ZX,Xf,Xd,Xe,Xb,Xg,Zh,unG,reduceCtorEq,Zq,↓reduceIte,gcT,gcA,gcIds,reach,rhoOf,heapOf,idxA,genB,newGen,renB,refsB,Zfd,Zer,Zb,h1,h2,e1,hw,hk,k2,AVal.cells,Za3,Zbd,Zby,Zce,ZcZ,ZcQ,Zc8,Zc6,ZbC,W4,ZI,viewAs,Zv,Zs,Zj]
   exact ih
theorem ZMX(m:Zd4)(hm:Zhp m):E 4 [.agg (mC m)] []=some (itO (Zaa m)):=by
 have key:=ZzG m hm (Zfy m) (Zdt m.sub 0 2) m.keep (m.ids.take 4) 0 [] rfl (XD _) (by omega)
 rw[XU]at key
 rw[show Zaa m=⟨Zfy m,Zdt m.sub 0 2,m.keep,(m.ids.take 4).map ZgM,Zfn m⟩from rfl]
 generalize hR:itO ⟨Zfy m,Zdt m.sub 0 2,m.keep,(m.ids.take 4).map ZgM,Zfn m⟩=R at *
 have h1:=fun σ sq own f=>ZiH σ sq own f m.topic hm.topic
 have h2:=fun σ sq own=>Zq7 σ sq own true m.payload 300 (by omega)
 have h3:=fun σ sq own=>Zvw σ sq own true m.qos
 have h4:=fun σ sq own f=>ZiH σ sq own f m.sender hm.sender
 have h5:=fun σ sq own=>ZRq σ sq own m.p hm.content hm.users
 have h6:=fun σ sq own=>Zvw σ sq own true m.sub
 have z0:((0:Nat):Int)=0:=rfl
 have z300:(300:Int).toNat=300:=rfl
 rw[z300]at h2
 have hl:=Zgd m.topic
 have k1:1+(ZcT m.topic).length<=9223372036854775807:=by omega
 rw[z0]at key
 simp only[Xo]at key
 unfold miT miH Zfy ZiR at key
 unfold itC itZ mC at key
 unfold mC
 unfold Zi8 at key
 generalize ZcT m.topic=U1 at *
 generalize ZcT m.sender=U2 at *
 generalize m.payload.take 300=U3 at *
 generalize ZeQ m.p=U4 at *
 generalize Zdt m.qos 0 2=U5 at *
 generalize Zdt m.sub 0 2=U6 at *
 rw[Zg (by rfl) ZGK]
 by_cases c:m.life>0
 ·simp only[c,if_true]at key
  simp only[EQA,ZaT,ZB,ZX,Xf,Xd,Xe,Xb,Xg,Zbw,reduceCtorEq,↓reduceIte,gcT,gcA,gcIds,reach,rhoOf,heapOf,idxA,genB,newGen,renB,refsB,Zwm,ZkP,Zb,h1,h2,h3,h4,h5,h6,k1,c,Z3,AVal.cells,Za3,Zbd,Zby,Zce,ZcZ,ZcQ,Zc8,Zc6,ZbC,W4,XD]
  exact key
 ·simp only[c,if_false]at key
  simp only[EQA,ZaT,ZB,ZX,Xf,Xd,Xe,Xb,Xg,Zbw,reduceCtorEq,↓reduceIte,gcT,gcA,gcIds,reach,rhoOf,heapOf,idxA,genB,newGen,renB,refsB,Zwm,ZkP,Zb,h1,h2,h3,h4,h5,h6,k1,c,Z3,AVal.cells,Za3,Zbd,Zby,Zce,ZcZ,ZcQ,Zc8,Zc6,ZbC,W4,XD]
  exact key
theorem ZLL(it:ZaH):ZaI 0 (some (itO it))=some (.agg (itC it.note it.qos it.retain (.lst false (it.ids.map (AVal.int .i64))) it.share),[]):=by
 unfold itO
 cases it.ids with
 |nil =>
  simp[EQO,ZaX,ZaS,itC,ZaI,viewR,Zv,Zao,Zs,Zj]
 |cons a l =>
  simp only[Xn,Zbi,Za0]
  generalize AVal.int .i64 a::l.map (AVal.int .i64)=X
  simp[EQO,itC,ZaI,viewR,Zv,Zao,Zs,Zq,Zj]
theorem ZFC(σ:Za)(sq own:Nat)(m:Zd4)(hm:Zhp m):Zl E BY σ sq 4 own true [.agg (mC m)]=some (.agg [.str (Zaa m).note.topic,.lst false ((Zaa m).note.payload.map Zc),.int .i64 (Zaa m).note.qos,.bool (Zaa m).note.retain,.str (Zaa m).note.sender,.int .i64 (Zaa m).note.expires,.lst false ((Zaa m).note.props.map Zi),.int .i64 (Zaa m).note.origin,.int .i64 (Zaa m).note.number,.int .i64 (Zaa m).note.hops,.int .i64 (Zaa m).qos,.bool (Zaa m).retain,.lst false ((Zaa m).ids.map (.int .i64 ·)),.str (Zaa m).share],σ,{}):=by
 rw[ZbK (by kernel_rfl) rfl]
 have hn:[AVal.agg (mC m)].map ZM=[.agg (mC m)]:=rfl
 rw[hn,ZMX m hm]
 have : ZO true 0 (some (itO (Zaa m)))=_:=(if_pos rfl).trans (ZLL _)
 rw[this]
 rw[ZdP _ _ _ _ rfl]
 rfl
end
section
theorem ZBh(x:Nat)(a b:Zd):ZeL x (a++b)=ZeL (ZeL x a) b:=by
 unfold ZeL;rw[List.foldl_append]
theorem ZtP:∀ (w n:Nat),w<=8->n<256^w->ZeL 0 (beB n w)=n
 |0,n,_,h=>by simp at h;subst h;rfl
 |w+1,n,hw,h=>by
  have h1:n/256<256^w:=by rw[Nat.pow_succ]at h;omega
  have ih:=ZtP w (n/256) (by omega) h1
  have h2:256^w<=256^7:=Nat.pow_le_pow_right (by decide) (by omega)
  rw[beB,ZBh,ih,ZcH,Zds,Wk]
  have h3:(256:Nat)^7=72057594037927936:=rfl
  omega
theorem Zuq{w n:Nat}(hw:w<=8)(h:n<256^w):Zbf (beB n w)=n:=ZtP w n hw h
theorem ZsT{w n:Nat}(hw:w<=8)(h:n<256^w)(h2:n<=9223372036854775807):ZE (beB n w)=(n:Int):=by
 unfold ZE
 rw[Zuq hw h,ZQ (by omega) (by omega)]
theorem Zt4(b rest:Zd)(h:b.length<=65535):Zt ((Z0 b).1++rest)=(b,2+b.length,0):=by
 have hd:(Z0 b).1=beB b.length 2++b:=by unfold Z0;rw[if_neg (by omega)]
 have hl:=ZbJ 2 b.length
 have ht:(beB b.length 2++b++rest).take 2=beB b.length 2:=by
  rw[Wa];exact List.take_left' hl
 have hdr:(beB b.length 2++b++rest).drop 2=b++rest:=by
  rw[Wa];exact List.drop_left' hl
 have hu:Zbf (beB b.length 2)=b.length:=Zuq (by decide) (by omega)
 unfold Zt
 rw[hd,ht,hu,hdr,if_neg,List.take_left]
 simp only[Xk,hl]
 omega
theorem ZDV(s rest:Zd)(ht:ZcM s=true)(h:s.length<=65535):ZG ((Zy s).1++rest)=(s,2+s.length,0):=by
 have e:(Zy s).1=(Z0 s).1:=by unfold Zy;rw[if_pos ht]
 have hg:=Zt4 s rest h
 unfold ZG
 rw[e,hg]
 simp only[ne_eq,not_true_eq_false,if_false,ht,if_true]
theorem Zs4{b:Zd}(h:b.length<=65535):(Z0 b).1.length=2+b.length:=by
 unfold Z0;rw[if_neg (by omega)];simp[ZbJ]
theorem Ztm{s:Zd}(ht:ZcM s=true)(h:s.length<=65535):(Zy s).1.length=2+s.length:=by
 unfold Zy;rw[if_pos ht];exact Zs4 h
theorem ZeR(a rest:Zd):Zn a.length ⟨a++rest,false⟩=(a,⟨rest,false⟩):=by
 unfold Zn
 rw[if_neg (by simp)]
 simp
theorem Zth(s rest:Zd)(ht:ZcM s=true)(h:s.length<=65535):Zag ⟨(Zy s).1++rest,false⟩=(s,⟨rest,false⟩):=by
 have hg:=ZDV s rest ht h
 unfold Zag
 simp only
 rw[hg]
 have:=ZeR (Zy s).1 rest
 rw[Ztm ht h]at this
 simp only[Xa5,bne_self_eq_false,this]
theorem ZzP(s rest:Zd)(h:s.length<=65535):Zat ⟨(Z0 s).1++rest,false⟩=(s,⟨rest,false⟩):=by
 have hg:=Zt4 s rest h
 unfold Zat
 simp only
 rw[hg]
 have:=ZeR (Z0 s).1 rest
 rw[Zs4 h]at this
 simp only[Xa5,bne_self_eq_false,this]
theorem Zxh{x:Int}(h0:0<=x)(h:x<18446744073709551616):ZH x=x.toNat:=by unfold ZH;omega
theorem Zim{s:Zd}(h:(Zy s).2=0):ZcM s=true/\s.length<=65535:=by
 unfold Zy at h
 split at h
 ·rename_i ht
  unfold Z0 at h
  split at h
  ·simp at h
  ·exact⟨ht,by omega⟩
 ·simp at h
theorem Zns{s:Zd}(h:(Z0 s).2=0):s.length<=65535:=by
 unfold Z0 at h
 split at h
 ·simp at h
 ·omega
def ZBL(k:Int)(p:Zp):Prop :=
 if k=1\/k=2\/k=3\/k=4 then p.text=[]/\p.pair=[]/\p.data=[]else if k=5 then p.num=0/\p.pair=[]/\p.data=[]
 else if k=6 then p.num=0/\p.text=[]/\p.pair=[]else p.num=0/\p.data=[]
structure ZOz(w:Int)(acc:List Zp)(p:Zp):Prop where
 good:ZbR p=true
 may:ZF p.id w=true
 canon:ZBL (ZaG p.id) p
 fits:Zda p.id p.num=true
 dup:((Zcf p.id acc).isSome && !ZcI p.id w)=false
def Zy8(w:Int):List Zp->List Zp->Prop
 |_,[]=>True
 |acc,p::r=>ZOz w acc p/\Zy8 w (acc++[p]) r
end
section
theorem ZMt(m:Zd4):(Zfn m).length<=39:=by
 have:=Zgd m.share
 unfold Zfn
 split<;>simp;omega
theorem ZCB(p:ZfH):(ZeQ p).length<=7:=by
 unfold ZeQ ZfA
 simp only[Xk,XL,X0]
 repeat' split
 all_goals simp
 all_goals omega
theorem Zw6(p:ZfH):∀ q∈ZeQ p,q.text.length<=30/\q.pair.length<=30/\q.data.length<=30/\[(1:Int),3,8,9,38].contains q.id=true:=by
 have hc:=Zgd p.content
 intro q hq
 unfold ZeQ ZfA at hq
 simp only[List.mem_append,List.mem_map]at hq
 rcases hq with(h |h |h) |⟨c,_,rfl⟩
 ·split at h
  ·simp only[XM]at h;subst h;simp
  ·simp at h
 ·split at h
  ·simp only[XM]at h;subst h;simp;omega
  ·simp at h
 ·split at h
  ·simp only[XM]at h;subst h;simp;omega
  ·simp at h
 ·have h1:=Zgd [c]
  have h2:=Zgd p.users
  simp[Zfx,h1,h2]
theorem ZmA(q:Int)(r:Bool)(h:q=0\/q=1\/q=2):Zcv (ZE (ZaV q r))=q/\(ZdR (ZE (ZaV q r)) != 0)=r:=by
 rcases h with rfl |rfl |rfl<;>cases r<;>decide +kernel
theorem ZiP(x:Int)(h0:0<=x)(h:x<=255):ZE [u8B x]=x:=by
 have e:(u8B x).toNat=x.toNat:=by
  unfold u8B
  rw[Wk];omega
 unfold ZE Zbf
 rw[ZcH,Zds,e,ZQ (by omega) (by omega)]
 omega
theorem Znk(x:Int)(h0:0<=x)(h:x<=4611686018427387904):ZE (beB (ZH x) 8)=x:=by
 have hu:ZH x=x.toNat:=Zxh h0 (by omega)
 have e8:(256:Nat)^8=18446744073709551616:=rfl
 rw[hu,ZsT (by omega) (by omega) (by omega)]
 omega
theorem Zxz(x:Int)(h0:0<=x)(h:x<=4294967295):ZE (beB (ZH x) 4)=x:=by
 have hu:ZH x=x.toNat:=Zxh h0 (by omega)
 have e4:(256:Nat)^4=4294967296:=rfl
 rw[hu,ZsT (by omega) (by omega) (by omega)]
 omega
structure ZS4(n:Zab):Prop where
 topic:ZcM n.topic=true/\n.topic.length<=65535
 payload:n.payload.length<=65535
 qos:n.qos=0\/n.qos=1\/n.qos=2
 sender:ZcM n.sender=true/\n.sender.length<=65535
 expires:0<=n.expires/\n.expires<=4611686018427387904
 number:0<=n.number/\n.number<=4611686018427387904
 origin:0<=n.origin/\n.origin<=255
 hops:0<=n.hops/\n.hops<=255
 seq:Zy8 3 [] n.props
 flat:(n.props.map ZaP).flatten.length<268435456
 kept:Zdp n.props=n.props
theorem Zfe(x:UInt8)(r:Zd):Zn 1 ⟨x::r,false⟩=([x],⟨r,false⟩):=ZeR [x] r
theorem ZAT(m:Zd4):ZdO (Zaa m):=by
 have h1:=Zgd m.topic
 have h2:=Zgd m.sender
 have h3:=ZMt m
 have h4:=ZCB m.p
 refine⟨⟨?_,?_,?_,?_,?_,?_⟩,?_,?_⟩
 ·simp only[Zaa,Zfy,Xm];omega
 ·simp only[Zaa,Zfy,X0];omega
 ·simp only[Zaa,Zfy];omega
 ·simp only[Zaa,Zfy];omega
 ·intro p hp
  have:=Zw6 m.p p hp
  exact⟨by omega,by omega,by omega⟩
 ·intro p hp
  have:=Zw6 m.p p hp
  omega
 ·simp only[Zaa,XL,X0];omega
 ·simp only[Zaa];omega
theorem ZwP:∀ (l:List Int) (rest:Zd),(∀ x∈l,1<=x/\x<=268435455)->ZbU l.length ⟨Zbb l++rest,false⟩ true=(l,⟨rest,false⟩,true)
 | [],rest,_=>rfl
 |x::l,rest,h=>by
  have hx:=h x (by simp)
  have ih:=ZwP l rest fun y hy=>h y (by simp[hy])
  have hl:=ZbJ 4 (ZH x)
  have e:Zbb (x::l)++rest=beB (ZH x) 4++(Zbb l++rest):=by simp[Zbb]
  have ht:=ZeR (beB (ZH x) 4) (Zbb l++rest)
  rw[hl,<-e]at ht
  have hn:=Zxz x (by omega) (by omega)
  have c:(true&&decide (x>=1)&&decide (x<=268435455))=true:=by simp;omega
  rw[Xm,ZbU,ht]
  simp only[hn,c,ih]
end
section
structure ZeY(n:Zab):Prop where
 topic:(Zy n.topic).2=0
 payload:(Z0 n.payload).2=0
 sender:(Zy n.sender).2=0
 props:(Zav 3 n.props).2=0
 kept:((Zdp n.props).length==n.props.length)=true
 qos:0<=n.qos/\n.qos<=2
 expires:0<=n.expires/\n.expires<=4611686018427387904
 number:0<=n.number/\n.number<=4611686018427387904
 origin:0<=n.origin/\n.origin<256
 hops:0<=n.hops/\n.hops<256
theorem Zne(n:Zab):Zde n=true↔ZeY n:=by
 unfold Zde
 simp only[Xj,beq_iff_eq,decide_eq_true_eq]
 constructor
 ·rintro⟨⟨⟨⟨⟨⟨⟨⟨⟨⟨⟨⟨⟨⟨a1,a2⟩,a3⟩,a4⟩,a5⟩,a6⟩,a7⟩,a8⟩,a9⟩,b1⟩,b2⟩,b3⟩,b4⟩,b5⟩,b6⟩
  exact⟨a1,a2,a3,a4,by simpa using a5,⟨a6,a7⟩,⟨a8,a9⟩,⟨b1,b2⟩,⟨b3,b4⟩,⟨b5,b6⟩⟩
 ·rintro⟨a1,a2,a3,a4,a5,⟨a6,a7⟩,⟨a8,a9⟩,⟨b1,b2⟩,⟨b3,b4⟩,⟨b5,b6⟩⟩
  exact⟨⟨⟨⟨⟨⟨⟨⟨⟨⟨⟨⟨⟨⟨a1,a2⟩,a3⟩,a4⟩,by simpa using a5⟩,a6⟩,a7⟩,a8⟩,a9⟩,b1⟩,b2⟩,b3⟩,b4⟩,b5⟩,b6⟩
theorem Zw2{q:Int}(r:Bool)(h:0<=q/\q<=2):[ZfI q r]=ZaV q r:=by
 have : q=0\/q=1\/q=2:=by omega
 rcases this with rfl |rfl |rfl<;>cases r<;>decide +kernel
theorem Zit{n:Zab}(h:0<=n.qos/\n.qos<=2):ZbE n=ZaE n:=by
 unfold ZbE ZaE
 rw[Zw2 _ h]
theorem Zul{l:List Zp}(h:(Zav 3 l).2=0):Z1 3 (Zav 3 l).1=(l,(Zav 3 l).1.length,0):=by
 unfold Zav Zez at h⊢
 generalize (l.map ZaP).flatten=b at *
 split at h
 ·simp at h
 rename_i h1
 rw[if_neg h1]
 split at h
 ·simp at h
 rename_i h2
 rw[if_neg h2]
 simp only[not_or,Xbh,XaC,beq_iff_eq]at h2
 obtain⟨a1,a2,a3⟩:=h2
 exact Xby a3 (Xby a2 a1)
theorem ZE6(n:Zab)(h:ZeY n):ZaL ⟨ZaE n,false⟩=(n,⟨(Zav 3 n.props).1,false⟩):=by
 obtain⟨topic,payload,qos,retain,sender,expires,props,origin,number,hops⟩:=n
 have t1:=Zim h.topic
 have t2:=Zns h.payload
 have t3:=Zim h.sender
 have e1:=Zth topic ((Z0 payload).1++(ZaV qos retain++((Zy sender).1++(beB (ZH expires) 8++(beB (ZH number) 8++([u8B origin,u8B hops]++(Zav 3 props).1)))))) t1.1 t1.2
 have e2:=ZzP payload (ZaV qos retain++((Zy sender).1++(beB (ZH expires) 8++(beB (ZH number) 8++([u8B origin,u8B hops]++(Zav 3 props).1))))) t2
 have e3:Zn 1 ⟨ZaV qos retain++((Zy sender).1++(beB (ZH expires) 8++(beB (ZH number) 8++([u8B origin,u8B hops]++(Zav 3 props).1)))),false⟩=(ZaV qos retain,⟨(Zy sender).1++(beB (ZH expires) 8++(beB (ZH number) 8++([u8B origin,u8B hops]++(Zav 3 props).1))),false⟩):=Zfe _ _
 have e4:=Zth sender (beB (ZH expires) 8++(beB (ZH number) 8++([u8B origin,u8B hops]++(Zav 3 props).1))) t3.1 t3.2
 have e5:=ZeR (beB (ZH expires) 8) (beB (ZH number) 8++([u8B origin,u8B hops]++(Zav 3 props).1))
 have e6:=ZeR (beB (ZH number) 8) ([u8B origin,u8B hops]++(Zav 3 props).1)
 rw[ZbJ]at e5 e6
 have e7:Zn 1 ⟨[u8B origin,u8B hops]++(Zav 3 props).1,false⟩=([u8B origin],⟨u8B hops::(Zav 3 props).1,false⟩):=Zfe _ _
 have e8:=Zfe (u8B hops) (Zav 3 props).1
 have e9:=Zul h.props
 have hq:=h.qos
 simp only at hq e9
 obtain⟨m1,m2⟩:=ZmA qos retain (by omega)
 have n1:=Znk expires h.expires.1 h.expires.2
 have n2:=Znk number h.number.1 h.number.2
 have n3:=ZiP origin h.origin.1 (by have:=h.origin.2;simp only at this;omega)
 have n4:=ZiP hops h.hops.1 (by have:=h.hops.2;simp only at this;omega)
 unfold ZaL Zu ZaE
 simp only[e1,e2,e3,e4,e5,e6,e7,e8,e9,m1,m2,n1,n2,n3,n4,bne_self_eq_false,Xbw]
theorem Zxp(n:Zab)(h:ZeY n):Zbo (ZaE n)=(n,0):=by
 have hm:ZfW n=true:=by
  unfold ZfW
  rw[h.kept]
  have:=h.qos
  have:=h.expires
  have:=h.number
  simp only[Xj,decide_eq_true_eq,and_true]
  omega
 unfold Zbo
 rw[ZE6 n h,if_neg (by simp[hm])]
theorem ZoT(s rest:Zd)(h:s.length<=65535):ZV ⟨(Z0 s).1++rest,false⟩=(s,⟨rest,false⟩):=by
 have hd:(Z0 s).1=beB s.length 2++s:=by unfold Z0;rw[if_neg (by omega)]
 have ht:=ZeR (beB s.length 2) (s++rest)
 rw[ZbJ,<-Wa,<-hd]at ht
 have hn:ZE (beB s.length 2)=(s.length:Int):=ZsT (by decide) (by omega) (by omega)
 unfold ZV
 rw[ht]
 simp only[hn,X3,Xk]
 rw[if_neg (by simp;omega)]
 simp
theorem Zo5(s rest:Zd)(h:(Zy s).2=0):ZV ⟨(Zy s).1++rest,false⟩=(s,⟨rest,false⟩):=by
 have t:=Zim h
 have e:(Zy s).1=(Z0 s).1:=by unfold Zy;rw[if_pos t.1]
 rw[e]
 exact ZoT s rest t.2
theorem ZQ9(n:Zab)(h:ZeY n):(Zap ⟨ZaE n,false⟩).r8.2=⟨(Zav 3 n.props).1,false⟩/\∀ ps,ZeF (Zap ⟨ZaE n,false⟩) ps={ n with props:=ps }:=by
 obtain⟨topic,payload,qos,retain,sender,expires,props,origin,number,hops⟩:=n
 have t2:=Zns h.payload
 have e1:=Zo5 topic ((Z0 payload).1++(ZaV qos retain++((Zy sender).1++(beB (ZH expires) 8++(beB (ZH number) 8++([u8B origin,u8B hops]++(Zav 3 props).1)))))) h.topic
 have e2:=ZoT payload (ZaV qos retain++((Zy sender).1++(beB (ZH expires) 8++(beB (ZH number) 8++([u8B origin,u8B hops]++(Zav 3 props).1))))) t2
 have e3:Zn 1 ⟨ZaV qos retain++((Zy sender).1++(beB (ZH expires) 8++(beB (ZH number) 8++([u8B origin,u8B hops]++(Zav 3 props).1)))),false⟩=(ZaV qos retain,⟨(Zy sender).1++(beB (ZH expires) 8++(beB (ZH number) 8++([u8B origin,u8B hops]++(Zav 3 props).1))),false⟩):=Zfe _ _
 have e4:=Zo5 sender (beB (ZH expires) 8++(beB (ZH number) 8++([u8B origin,u8B hops]++(Zav 3 props).1))) h.sender
 have e5:=ZeR (beB (ZH expires) 8) (beB (ZH number) 8++([u8B origin,u8B hops]++(Zav 3 props).1))
 have e6:=ZeR (beB (ZH number) 8) ([u8B origin,u8B hops]++(Zav 3 props).1)
 rw[ZbJ]at e5 e6
 have e7:Zn 1 ⟨[u8B origin,u8B hops]++(Zav 3 props).1,false⟩=([u8B origin],⟨u8B hops::(Zav 3 props).1,false⟩):=Zfe _ _
 have e8:=Zfe (u8B hops) (Zav 3 props).1
 have hq:=h.qos
 simp only at hq
 obtain⟨m1,m2⟩:=ZmA qos retain (by omega)
 have n1:=Znk expires h.expires.1 h.expires.2
 have n2:=Znk number h.number.1 h.number.2
 have n3:=ZiP origin h.origin.1 (by have:=h.origin.2;simp only at this;omega)
 have n4:=ZiP hops h.hops.1 (by have:=h.hops.2;simp only at this;omega)
 unfold ZeF Zap ZaE
 simp only[e1,e2,e3,e4,e5,e6,e7,e8,m1,m2,n1,n2,n3,n4,true_and]
 exact fun _=>trivial
theorem Zx7(n:Zab)(h:ZeY n):Zci (ZaE n)=(n,0):=by
 obtain⟨h1,h2⟩:=ZQ9 n h
 have h3:=Zul h.props
 have h4:ZbE n=ZaE n:=Zit h.qos
 unfold Zci
 simp only[h1,h2,Xl,if_false,h3,bne_self_eq_false,Xbw]
 show ZdI (ZaE n) false n=_
 unfold ZdI
 rw[if_neg]
 rw[h4,(Zne n).2 h]
 simp
theorem Zhi{n:Nat}{c:ZK}(h:(Zn n c).2.short=false):c.short=false/\c.b.length=n+(Zn n c).2.b.length:=by
 unfold Zn at h⊢
 split
 ·rename_i hc
  rw[if_pos hc]at h
  simp at h
 ·rename_i hc
  rw[if_neg hc]at h
  simp only at h⊢
  refine⟨h,?_⟩
  rw[XV]
  simp only[not_or]at hc
  omega
theorem Zxe{b:Zd}(h:(Zt b).2.2=0):(Zt b).2.1=2+(Zt b).1.length:=by
 unfold Zt at h⊢
 split
 ·rename_i hc
  rw[if_pos hc]at h
  simp at h
 ·rename_i hc
  simp only[X0,XV]
  omega
theorem ZB7{b:Zd}(h:(ZG b).2.2=0):ZG b=Zt b/\(Zt b).2.2=0:=by
 unfold ZG at h⊢
 split
 ·rename_i hc
  rw[if_pos hc]at h
  exact absurd h hc
 ·rename_i hc
  rw[if_neg hc]at h
  split
  ·rename_i ht
   rw[if_pos ht]at h
   exact⟨rfl,h⟩
  ·rename_i ht
   rw[if_neg ht]at h
   simp at h
theorem ZrR{c:ZK}(h:(Zag c).2.short=false):c.short=false/\(Zy (Zag c).1).2=0/\c.b.length=2+(Zag c).1.length+(Zag c).2.b.length:=by
 unfold Zag at h⊢
 simp only at h⊢
 obtain⟨h1,h2⟩:=Zhi h
 simp only[Xaa,bne_eq_false_iff_eq]at h1
 obtain⟨h3,h4⟩:=ZB7 h1.2
 refine⟨h1.1,Zna h1.2,?_⟩
 simp only at h2
 have h5:=Zxe h4
 rw[<-h3]at h5
 omega
theorem ZMk{c:ZK}(h:(Zat c).2.short=false):c.short=false/\c.b.length=2+(Zat c).1.length+(Zat c).2.b.length:=by
 unfold Zat at h⊢
 simp only at h⊢
 obtain⟨h1,h2⟩:=Zhi h
 simp only[Xaa,bne_eq_false_iff_eq]at h1
 refine⟨h1.1,?_⟩
 simp only at h2
 have h5:=Zxe h1.2
 omega
theorem ZwE{s:Zd}(h:s.length<=65535):(Z0 s).2=0:=by
 unfold Z0
 rw[if_neg (by omega)]
theorem ZH6{w:Int}{b:Zd}(h:(Z1 w b).2.2=0):0<(Z1 w b).2.1:=by
 unfold Z1 at h⊢
 split
 ·rename_i hc
  rw[if_pos hc]at h
  simp at h
 ·rename_i hc
  rw[if_neg hc]at h
  simp only[not_or,Xbh]at hc
  have:=Zhn b hc.1
  split
  ·simp only;omega
  ·rename_i h2
   rw[if_neg h2]at h
   exact absurd h h2
theorem Zxu(x:Int):0<=Zcv x/\Zcv x<=3:=by
 have h:(XJ IntKind.i64.bits x&&&XJ IntKind.i64.bits 3).toNat<=3:=by
  rw[BitVec.toNat_and]
  exact Nat.and_le_right
 unfold Zcv
 rw[ZQ (by omega) (by omega)]
 omega
theorem ZxK{b:Zd}(h:(Zbo b).2=0):ZeY (Zbo b).1/\ZaE (Zbo b).1=b:=by
 unfold Zbo at h⊢
 split
 ·rename_i hc
  rw[if_pos hc]at h
  simp at h
 rename_i hc
 simp only[not_or,Xar,XaC,beq_iff_eq]at hc
 obtain⟨hs,hm,hy⟩:=hc
 refine⟨?_,hy⟩
 clear h
 have hL:=congrArg Xa6 hy
 unfold ZfW at hm
 simp only[Xj,decide_eq_true_eq]at hm
 obtain⟨⟨⟨⟨⟨a1,a2⟩,a3⟩,a4⟩,a5⟩,a6⟩:=hm
 have hsh:(Zu ⟨b,false⟩).r8.2.short=false/\(Z1 3 (Zu ⟨b,false⟩).r8.2.b).2.2=0/\(Z1 3 (Zu ⟨b,false⟩).r8.2.b).2.1=(Zu ⟨b,false⟩).r8.2.b.length:=by
  have : ((Zu ⟨b,false⟩).r8.2.short ||(Z1 3 (Zu ⟨b,false⟩).r8.2.b).2.2 != 0 ||(((Z1 3 (Zu ⟨b,false⟩).r8.2.b).2.1:Int) != ((Zu ⟨b,false⟩).r8.2.b.length:Int)))=false:=hs
  simp only[Xaa,bne_eq_false_iff_eq]at this
  exact⟨this.1.1,this.1.2,by have:=this.2;omega⟩
 obtain⟨s8,se,su⟩:=hsh
 obtain⟨s7,z8⟩:=Zhi (n:=1) (c:=(Zu ⟨b,false⟩).r7.2) s8
 obtain⟨s6,z7⟩:=Zhi (n:=1) (c:=(Zu ⟨b,false⟩).r6.2) s7
 obtain⟨s5,z6⟩:=Zhi (n:=8) (c:=(Zu ⟨b,false⟩).r5.2) s6
 obtain⟨s4,z5⟩:=Zhi (n:=8) (c:=(Zu ⟨b,false⟩).r4.2) s5
 obtain⟨s3,x4,z4⟩:=ZrR (c:=(Zu ⟨b,false⟩).r3.2) s4
 obtain⟨s2,z3⟩:=Zhi (n:=1) (c:=(Zu ⟨b,false⟩).r2.2) s3
 obtain⟨s1,z2⟩:=ZMk (c:=(Zu ⟨b,false⟩).r1.2) s2
 obtain⟨_,x1,z1⟩:=ZrR (c:=⟨b,false⟩) s1
 have o1:=ZhK (ZfY 1 (Zu ⟨b,false⟩).r6.2)
 have o2:=ZhK (ZfY 1 (Zu ⟨b,false⟩).r7.2)
 have hp:(Z0 (ZaL ⟨b,false⟩).1.payload).2=0:=ZwE (ZgP (Zu ⟨b,false⟩).r1.2.b)
 have hx1:(Zy (ZaL ⟨b,false⟩).1.topic).2=0:=x1
 have hx4:(Zy (ZaL ⟨b,false⟩).1.sender).2=0:=x4
 have hq:0<=(ZaL ⟨b,false⟩).1.qos:=(Zxu (ZE (Zu ⟨b,false⟩).r3.1)).1
 show ZeY (ZaL ⟨b,false⟩).1
 refine⟨hx1,hp,hx4,?_,a6,⟨hq,by omega⟩,⟨a2,a3⟩,⟨a4,a5⟩,?_,?_⟩
 ·apply Decidable.byContradiction
  intro hne
  have h0:(Zav 3 (ZaL ⟨b,false⟩).1.props).1=[]:=by
   unfold Zav Zez at hne ⊢
   split
   ·rfl
   ·rename_i g1
    rw[if_neg g1]at hne
    split
    ·rfl
    ·rename_i g2
     rw[if_neg g2]at hne
     exact absurd rfl hne
  have hpos:=ZH6 se
  obtain⟨t1,t2⟩:=Zim hx1
  obtain⟨t3,t4⟩:=Zim hx4
  have q1:=Ztm t1 t2
  have q2:=Zs4 (Zns hp)
  have q3:=Ztm t3 t4
  unfold ZaE at hL
  rw[h0]at hL
  have w1:(ZaL ⟨b,false⟩).1.topic=(Zag ⟨b,false⟩).1:=rfl
  have w2:(ZaL ⟨b,false⟩).1.payload=(Zat (Zu ⟨b,false⟩).r1.2).1:=rfl
  have w3:(ZaL ⟨b,false⟩).1.sender=(Zag (Zu ⟨b,false⟩).r3.2).1:=rfl
  have v1:(Zag ⟨b,false⟩).2=(Zu ⟨b,false⟩).r1.2:=rfl
  have v2:(Zat (Zu ⟨b,false⟩).r1.2).2=(Zu ⟨b,false⟩).r2.2:=rfl
  have v3:(Zn 1 (Zu ⟨b,false⟩).r2.2).2=(Zu ⟨b,false⟩).r3.2:=rfl
  have v4:(Zag (Zu ⟨b,false⟩).r3.2).2=(Zu ⟨b,false⟩).r4.2:=rfl
  have v5:(Zn 8 (Zu ⟨b,false⟩).r4.2).2=(Zu ⟨b,false⟩).r5.2:=rfl
  have v6:(Zn 8 (Zu ⟨b,false⟩).r5.2).2=(Zu ⟨b,false⟩).r6.2:=rfl
  have v7:(Zn 1 (Zu ⟨b,false⟩).r6.2).2=(Zu ⟨b,false⟩).r7.2:=rfl
  have v8:(Zn 1 (Zu ⟨b,false⟩).r7.2).2=(Zu ⟨b,false⟩).r8.2:=rfl
  rw[w1]at q1
  rw[w2]at q2
  rw[w3]at q3
  rw[v1]at z1
  rw[v2]at z2
  rw[v3]at z3
  rw[v4]at z4
  rw[v5]at z5
  rw[v6]at z6
  rw[v7]at z7
  rw[v8]at z8
  simp only[Xk,Xm,Xu,ZbJ,ZaV,w1,w2,w3]at hL
  rw[q1,q2,q3]at hL
  simp only at z1
  omega
 ·show 0<=ZE (Zn 1 (Zu ⟨b,false⟩).r6.2).1/\ZE (Zn 1 (Zu ⟨b,false⟩).r6.2).1<256
  omega
 ·show 0<=ZE (Zn 1 (Zu ⟨b,false⟩).r7.2).1/\ZE (Zn 1 (Zu ⟨b,false⟩).r7.2).1<256
  omega
theorem ZLd{b:Zd}(h:(Zci b).2=0):ZeY (Zci b).1/\ZaE (Zci b).1=b:=by
 have key:∀ bad n,(ZdI b bad n).2=0->ZeY (ZdI b bad n).1/\ZaE (ZdI b bad n).1=b:=by
  intro bad n h
  unfold ZdI at h⊢
  split
  ·rename_i hc
   rw[if_pos hc]at h
   simp at h
  ·rename_i hc
   simp only[not_or,Xar,XaC,beq_iff_eq]at hc
   have hf:=(Zne n).1 hc.2.1
   exact⟨hf,by rw[<-Zit hf.qos];exact hc.2.2⟩
 unfold Zci at h⊢
 simp only at h⊢
 split
 ·rename_i hc
  rw[if_pos hc]at h
  exact key _ _ h
 ·rename_i hc
  rw[if_neg hc]at h
  exact key _ _ h
theorem ZIf(b:Zd):Zbo b=(Zco,190)\/(Zbo b).2=0:=by
 unfold Zbo
 split
 ·exact Xp rfl
 ·exact Xt rfl
theorem ZO2(b:Zd):Zci b=(Zco,190)\/(Zci b).2=0:=by
 unfold Zci ZdI
 simp only
 repeat' split
 all_goals first |exact Xp rfl |exact Xt rfl
theorem ZC2(b:Zd):Zci b=Zbo b:=by
 rcases ZIf b with h |h
 ·rcases ZO2 b with g |g
  ·rw[h,g]
  ·obtain⟨f,e⟩:=ZLd g
   have:=Zxp _ f
   rw[e,h]at this
   simp at this
 ·obtain⟨f,e⟩:=ZxK h
  have:=Zx7 _ f
  rw[e]at this
  rw[this]
  exact Xby rfl h.symm
end
section
structure ZjO(it:ZaH):Prop where
 note:ZeY it.note
 dat:(ZaE it.note).length<=65535
 share:(Zy it.share).2=0
 qos:0<=it.qos/\it.qos<=2
 cnt:it.ids.length<256
 ids:∀ x∈it.ids,1<=x/\x<=268435455
theorem Zv7:∀ (l:List Int) (f:Bool),Zgb l f=true↔f=true/\∀ x∈l,1<=x/\x<=268435455
 | [],f=>by simp[Zgb]
 |x::l,f=>by
  rw[Zgb,Zv7 l]
  simp only[Xj,decide_eq_true_eq,XI,forall_eq_or_imp]
  constructor
  ·rintro⟨⟨⟨a,b⟩,c⟩,d⟩
   exact⟨a,⟨b,c⟩,d⟩
  ·rintro⟨a,⟨b,c⟩,d⟩
   exact⟨⟨⟨a,b⟩,c⟩,d⟩
theorem Zvj(it:ZaH):Zdm it=true↔ZjO it:=by
 unfold Zdm ZoW
 rw[Zv7]
 simp only[Xj,beq_iff_eq,decide_eq_true_eq]
 constructor
 ·rintro⟨⟨⟨⟨⟨⟨a1,a2⟩,a3⟩,a4⟩,a5⟩,a6⟩,a7⟩
  have h:=(Zne _).1 a1
  rw[Zit h.qos]at a2
  exact⟨h,Zns a2,a3,⟨a4,a5⟩,by omega,a7⟩
 ·intro h
  refine⟨⟨⟨⟨⟨⟨(Zne _).2 h.note,?_⟩,h.share⟩,h.qos.1⟩,h.qos.2⟩,by have:=h.cnt;omega⟩,h.ids⟩
  rw[Zit h.note.qos]
  exact ZwE h.dat
theorem ZoS{it:ZaH}(hn:0<=it.note.qos/\it.note.qos<=2)(hq:0<=it.qos/\it.qos<=2):Zb7 it=ZaW it:=by
 unfold Zb7 ZaW
 rw[Zit hn,<-Zw2 it.retain hq]
 rfl
theorem ZxW(it:ZaH):ZaW it=(Z0 (ZaE it.note)).1++(ZaV it.qos it.retain++(u8B it.ids.length::(Zbb it.ids++(Zy it.share).1))):=by
 unfold ZaW
 simp
theorem ZKb(it:ZaH)(h:ZjO it):ZaO (ZaW it)=(it,0):=by
 have e0:=ZxW it
 have e1:=ZzP (ZaE it.note) (ZaV it.qos it.retain++(u8B it.ids.length::(Zbb it.ids++(Zy it.share).1))) h.dat
 rw[<-e0]at e1
 have e2:Zn 1 ⟨ZaV it.qos it.retain++(u8B it.ids.length::(Zbb it.ids++(Zy it.share).1)),false⟩=(ZaV it.qos it.retain,⟨u8B it.ids.length::(Zbb it.ids++(Zy it.share).1),false⟩):=Zfe _ _
 have e3:=Zfe (u8B it.ids.length) (Zbb it.ids++(Zy it.share).1)
 have e4:ZE [u8B it.ids.length]=(it.ids.length:Int):=ZiP _ (by omega) (by have:=h.cnt;omega)
 have e5:=ZwP it.ids (Zy it.share).1 h.ids
 have hs:=Zim h.share
 have e6:=Zth it.share [] hs.1 hs.2
 rw[XC]at e6
 have hr:=Zxp _ h.note
 have hq:=h.qos
 obtain⟨m1,m2⟩:=ZmA it.qos it.retain (by omega)
 have hf:decide (it.qos<3)=true:=by simp;omega
 unfold ZaO Zh1 Zaj
 simp only[e1,e2,e3,hr,m1,m2,e4,X3,hf,beq_self_eq_true,Bool.and_self,e5]
 unfold Zc0
 simp only[e6]
 rw[if_neg (by simp)]
theorem ZyC:∀ (l:List Int) (rest:Zd),(∀ x∈l,1<=x/\x<=268435455)->Zdw l.length ⟨Zbb l++rest,false⟩=(l,⟨rest,false⟩)
 | [],rest,_=>rfl
 |x::l,rest,h=>by
  have hx:=h x (by simp)
  have ih:=ZyC l rest fun y hy=>h y (by simp[hy])
  have hl:=ZbJ 4 (ZH x)
  have e:Zbb (x::l)++rest=beB (ZH x) 4++(Zbb l++rest):=by simp[Zbb]
  have ht:=ZeR (beB (ZH x) 4) (Zbb l++rest)
  rw[hl,<-e]at ht
  have hn:=Zxz x (by omega) (by omega)
  rw[Xm,Zdw,if_neg (by simp),ht]
  simp only[hn,ih]
theorem ZEi(it:ZaH)(h:ZjO it):ZaY (ZaW it)=(it,0):=by
 have e0:=ZxW it
 have e1:=ZoT (ZaE it.note) (ZaV it.qos it.retain++(u8B it.ids.length::(Zbb it.ids++(Zy it.share).1))) h.dat
 rw[<-e0]at e1
 have e2:Zn 1 ⟨ZaV it.qos it.retain++(u8B it.ids.length::(Zbb it.ids++(Zy it.share).1)),false⟩=(ZaV it.qos it.retain,⟨u8B it.ids.length::(Zbb it.ids++(Zy it.share).1),false⟩):=Zfe _ _
 have e3:=Zfe (u8B it.ids.length) (Zbb it.ids++(Zy it.share).1)
 have e4:ZE [u8B it.ids.length]=(it.ids.length:Int):=ZiP _ (by omega) (by have:=h.cnt;omega)
 have e5:=ZyC it.ids (Zy it.share).1 h.ids
 have e6:=Zo5 it.share [] h.share
 rw[XC]at e6
 have hr:=Zx7 _ h.note
 have hq:=h.qos
 obtain⟨m1,m2⟩:=ZmA it.qos it.retain (by omega)
 have hy:=ZoS h.note.qos h.qos
 have hfi:=(Zvj it).2 h
 unfold ZaY Za8
 simp only[e1,e2,e3,hr,m1,m2,e4,X3,e5]
 unfold Zc9
 simp only[e6]
 rw[hy,hfi]
 simp
theorem Zwa:∀ (n:Nat) (c:ZK) (f:Bool),(ZbU n c f).2.2=true->f=true/\∀ x∈(ZbU n c f).1,1<=x/\x<=268435455
 |0,c,f,h=>⟨h,by simp[ZbU]⟩
 |n+1,c,f,h=>by
  rw[ZbU]at h⊢
  obtain⟨h1,h2⟩:=Zwa n _ _ h
  simp only[Xj,decide_eq_true_eq]at h1
  refine⟨h1.1.1,?_⟩
  intro x hx
  rcases XI.1 hx with rfl |hx
  ·exact⟨h1.1.2,h1.2⟩
  ·exact h2 x hx
theorem ZFE{b:Zd}(h:(ZaO b).2=0):ZjO (ZaO b).1/\ZaW (ZaO b).1=b:=by
 unfold ZaO Zc0 at h⊢
 simp only at h⊢
 split
 ·rename_i hc
  rw[if_pos hc]at h
  simp at h
 rename_i hc
 simp only[not_or,Xar,XaC,beq_iff_eq]at hc
 obtain⟨hs,hf,hy⟩:=hc
 refine⟨?_,hy⟩
 clear h
 obtain⟨g1,g2⟩:=Zwa _ _ _ hf
 unfold Zh1 at g1
 simp only[Xj,decide_eq_true_eq,beq_iff_eq]at g1
 obtain⟨r1,r2⟩:=ZxK g1.2
 have hd:(Zaj b).d.1.length<=65535:=ZgP b
 have hk:=ZhK (ZfY 1 (Zaj b).m.2)
 have hk':ZE (Zaj b).k.1<=255:=hk.2
 have hl:=(Zrv (ZE (Zaj b).k.1).toNat (Zaj b).k.2 (Zh1 (Zaj b))).1
 have hq:=Zxu (ZE (Zaj b).m.1)
 exact⟨r1,by rw[r2];exact hd,(ZrR hs).2.1,⟨hq.1,by have:=g1.1;show Zcv (ZE (Zaj b).m.1)<=2;omega⟩,by show(ZbU _ _ _).1.length<256;omega,g2⟩
theorem ZPG{b:Zd}(h:(ZaY b).2=0):ZjO (ZaY b).1/\ZaW (ZaY b).1=b:=by
 unfold ZaY Zc9 at h⊢
 simp only at h⊢
 split
 ·rename_i hc
  rw[if_pos hc]at h
  simp at h
 rename_i hc
 simp only[not_or,Xar,XaC,beq_iff_eq]at hc
 obtain⟨_,hs,hf,hy⟩:=hc
 have hF:=(Zvj _).1 hf
 exact⟨hF,by rw[<-ZoS hF.note.qos hF.qos];exact hy⟩
theorem ZOQ(b:Zd):ZaO b=(ZdH,190)\/(ZaO b).2=0:=by
 unfold ZaO Zc0
 simp only
 split
 ·exact Xp rfl
 ·exact Xt rfl
theorem ZQR(b:Zd):ZaY b=(ZdH,190)\/(ZaY b).2=0:=by
 unfold ZaY Zc9
 simp only
 split
 ·exact Xp rfl
 ·exact Xt rfl
theorem ZEj(b:Zd):ZaY b=ZaO b:=by
 rcases ZOQ b with h |h
 ·rcases ZQR b with g |g
  ·rw[h,g]
  ·obtain⟨f,e⟩:=ZPG g
   have:=ZKb _ f
   rw[e,h]at this
   simp at this
 ·obtain⟨f,e⟩:=ZFE h
  have:=ZEi _ f
  rw[e]at this
  rw[this]
  exact Xby rfl h.symm
end
section
set_option maxRecDepth 100000
theorem ZOl:E 21 [] []=some (.bool true,[]):=Zei.2 ⟨30,by kernel_rfl⟩
end
section
theorem ZGq(e:Int):E 17 [.int .i64 e] []=some (.int .i64 e,[]):=by
 rw[Zg (by rfl) ZLu]
 simp only[EQA,Xd,Xb,reduceCtorEq,↓reduceIte,ZJ6,Zro,ZAY]
theorem ZGr(σ:Za)(sq own:Nat)(view:Bool)(e:Int):Zl E BY σ sq 17 own view [.int .i64 e]=some (.int .i64 e,σ,{}) :=
 ZcC (ZGq e) (by kernel_rfl) rfl rfl rfl (fun _=>rfl) _ _ _ _
theorem ZMZ(σ:Za)(sq own:Nat)(view:Bool):Zl E BY σ sq 21 own view []=some (.bool true,σ,{}) :=
 ZcC ZOl (by kernel_rfl) rfl rfl rfl (fun _=>rfl) _ _ _ _
theorem ZEP(σ:Za)(sq own:Nat)(view:Bool)(a b:Zd):Zl E BY σ sq 7 own view [.lst false (a.map Zc),.lst false (b.map Zc)]=some (.bool (a==b),σ,{}) :=
 ZcC (Zvp a b) (by kernel_rfl) rfl rfl rfl (fun _=>rfl) _ _ _ _
theorem Zua(b:Zd):(ZaO b).1.note.props.length<=9223372036854775807/\(ZaO b).1.ids.length<=1000000:=by
 have h1:=(ZnZ (Zaj b).d.1).props
 have h2:=(Zrv (ZE (Zaj b).k.1).toNat (Zaj b).k.2 (Zh1 (Zaj b))).1
 have h3:=ZhK (ZfY 1 (Zaj b).m.2)
 have h4:ZE (Zaj b).k.1<=255:=h3.2
 unfold ZaO Zc0
 simp only
 split
 ·exact⟨by simp[ZdH,Zco],by simp[ZdH]⟩
 ·simp only
  exact⟨by omega,by omega⟩
theorem Zyj(all:List Zd)(hn:all.length<=1000)(ha:∀ b∈all,b.length<=1000000000):∀ (r:List Zd) (i:Nat),all.drop i=r ->
  Zmq 0 [(15,.int .i64 i),(14,.lst true (all.map Zf))] []=some (.bool true,[])
 | [],i,h=>by
  have h1:=ZcG h
  unfold Zmq
  rw[Zr]
  simp only[EQA,Xd,Xb,↓reduceIte,ZOx,ZMh,ZrO,ZxP,ZkS,Zb,h1,ZMZ]
  try (simp[EQO])
 |b::r,i,h=>by
  have ih:=Zyj all hn ha r (i+1) (ZP h).2.1
  have h1:(i:Int)<all.length:=by have:=(ZP h).2.2;omega
  have hb:b.length<=1000000000:=ha b (List.mem_of_getElem? (ZP h).1)
  have e1:=iad (ZP h).1 Zf (k:=1) rfl
  have e3:=Zcp h1 (by omega)
  have hlen:(all.map Zf).length=all.length:=by simp
  have hLe:=fun{σ:Za} {sq:Nat} hs=>ZQi σ sq b (by omega) hs
  have hL:Lent (b.map Zc++[AVal.int .u8 165,.int .u8 90]) 0 b:=⟨by rw[List.drop_zero,List.take_append_of_le_length (by simp)];exact List.take_of_length_le (by simp),by simp⟩
  have hR:=fun{σ:Za} {t sq:Nat} (hs:σ[t]?=some (.row 0 1 (b.map Zc++[AVal.int .u8 165,.int .u8 90])))=>ZyF hL (by omega) hs sq
  have hI:=fun{σ:Za} {t sq:Nat} (hs:σ[t]?=some (.row 0 1 (b.map Zc++[AVal.int .u8 165,.int .u8 90])))=>ZKV hL (by omega) hs sq
  have gR:=fun{σ:Za} {sq own:Nat} f=>ZyQ σ sq own f b (by omega)
  have gI:=fun{σ:Za} {sq own:Nat} f=>ZPK σ sq own f b (by omega)
  obtain⟨X',hBk⟩:=ZF9 b (by omega)
  have hBk:=fun{σ:Za} {t sq:Nat} hs=>hBk σ sq 0 t hs rfl
  have hS:=fun{σ:Za} {sq own:Nat}=>Zuh σ sq own (Zbo b).1 (by have:=(ZnZ b).props;omega)
  have hT:=fun{σ:Za} {sq own:Nat}=>ZFs σ sq own (ZaO b).1 (Zua b).1 (Zua b).2
  simp only[ZC2]at gR
  simp only[ZEj]at gI
  unfold ZcD at hR gR
  try simp only at hR gR
  clear hL
  have ei:∀ i:Int,(i != i)=false:=fun i=>by simp
  generalize Zbo b=rn at *
  obtain⟨nt,e⟩:=rn
  generalize ZaO b=ri at *
  obtain⟨it,e2⟩:=ri
  try simp only at hR hI gR gI hS hT
  generalize all.map Zf=A at *
  unfold Zf at e1
  generalize b.map Zc=B at *
  unfold Zmq at ih ⊢
  rw[Zr]
  simp only[EQA,ZB,Xf,Xd,Xe,Xb,Xg,unA,Zh,unG,↓reduceIte,gcT,gcA,gcIds,reach,heapOf,refsB,ZxP,ZkS,Zb,h1,hlen,e1,e3,hLe,hR,hI,gR,gI,hBk,hS,hT,ei,ZGr,AVal.cells]
  exact ih
theorem ZQt(it:ZaH)(h:it.ids.length<=1000000):(ZaW it).length<=10000000:=by
 have l1:=ZeG (ZaE it.note)
 have l2:=ZhF it.ids
 have l3:=Zcz it.share
 unfold ZaW
 simp only[Xk,ZaV,Xm,Xu];omega
theorem ZC8(m:Zd4)(hm:Zhp m)(b:Zd)(at0:Int)(x:UInt8):E 3 [.agg (mC m),Zf b,.int .i64 at0,.int .u8 (x.toNat:Int)] []=some (.bool true,[]):=by
 have hM:=fun σ sq own=>ZFC σ sq own m hm
 have ok:=ZAT m
 have hq1:0<=(Zaa m).note.qos/\(Zaa m).note.qos<=2:=by have : (Zaa m).note.qos=0\/(Zaa m).note.qos=1\/(Zaa m).note.qos=2:=Zvv _;omega
 have hq2:0<=(Zaa m).qos/\(Zaa m).qos<=2:=by have : (Zaa m).qos=0\/(Zaa m).qos=1\/(Zaa m).qos=2:=Zvv _;omega
 have hA:=fun{σ:Za} {sq own:Nat}=>ZlN σ sq own (Zaa m).note ok.note
 have hB:=fun{σ:Za} {sq own:Nat}=>ZyO σ sq own (Zaa m) ok
 have hC:=fun{σ:Za} {sq own:Nat}=>Ztt σ sq own (Zaa m).note ok.note
 have hD:=fun{σ:Za} {sq own:Nat}=>Zu4 σ sq own (Zaa m) ok
 simp only[Zit hq1]at hA
 simp only[ZoS hq1 hq2]at hB
 have l1:=ZxV (Zaa m).note
 have l2:=ZQt (Zaa m) ok.ids
 obtain⟨k1,hT1⟩:=Zxd (ZaE (Zaa m).note) (by omega) at0 x
 obtain⟨k2,hT2⟩:=Zxd (ZaW (Zaa m)) (by omega) at0 x
 have t1:=ZxL (ZaE (Zaa m).note) k1 x
 have t2:=ZxL (ZaW (Zaa m)) k2 x
 have hK:=fun σ sq own view=>Zq7 σ sq own view b 500 (by omega)
 have key:=Zyj [b.take 500,ZaE (Zaa m).note,ZaW (Zaa m),ZcJ (ZaE (Zaa m).note) k1 x,ZcJ (ZaW (Zaa m)) k2 x] (by simp) (by
  intro c hc
  simp only[XI,Xbl,or_false]at hc
  rcases hc with rfl |rfl |rfl |rfl |rfl
  ·simp;omega
  ·omega
  ·omega
  ·omega
  ·omega) _ 0 rfl
 have z0:((0:Nat):Int)=0:=rfl
 have e5:(500:Int).toNat=500:=rfl
 rw[z0]at key
 rw[e5]at hK
 have es:∀ s:Zd,(s==s)=true:=fun s=>by simp
 simp only[Xn,Xo]at key
 unfold Zf at key
 unfold mC at hM ⊢
 clear ok l1 l2 t1 t2 hq1 hq2
 generalize ZcJ (ZaE (Zaa m).note) k1 x=y1 at *
 generalize ZcJ (ZaW (Zaa m)) k2 x=y2 at *
 generalize Zdm (Zaa m)=f2 at *
 generalize Zde (Zaa m).note=f1 at *
 generalize ZaE (Zaa m).note=y at *
 generalize ZaW (Zaa m)=z at *
 generalize Zaa m=it at *
 unfold Zmq at key
 rw[Zg (by rfl) ZN5]
 simp only[EQA,ZB,Xf,Xd,Xe,Xb,Xg,unA,Zh,unG,reduceCtorEq,↓reduceIte,gcT,gcA,gcIds,reach,heapOf,refsB,ZIp,Zo6,Zb,Zf,hM,hA,hB,hC,hD,hT1,hT2,hK,ZEP,AVal.cells,viewAs,Zv,Zs,Zj,XD]
 exact key
end
section
open Go.RowKit
theorem Zy2{α:Type}{T:Ty}{s:Bool}{f:α->AVal}(h:∀ y,TyC T y->∃ a,ZcB s y=f a){xs:List AVal}(hx:TyC (.slice s T) xs):∃ l:List α,xs=[.lst false (l.map f)]/\l.length<=9223372036854775807:=by
 simp only[TyC]at hx
 obtain⟨ys,rfl,h1,h2⟩:=hx
 have : ∀ ys:List (List AVal),(∀ y∈ys,TyC T y)->∃ l:List α,ys.map (ZcB s)=l.map f:=by
  intro ys
  induction ys with
  |nil=>intro _;exact⟨[],rfl⟩
  |cons y ys ih =>
   intro hy
   obtain⟨a,ha⟩:=h y (hy y (by simp))
   obtain⟨l,hl⟩:=ih fun y' h'=>hy y' (by simp[h'])
   exact⟨a::l,by simp[ha,hl]⟩
 obtain⟨l,hl⟩:=this ys h2
 refine⟨l,by rw[hl],?_⟩
 have:=congrArg Xa6 hl
 simp only[XL]at this
 omega
theorem Zzp{y:List AVal}(h:TyC (.int .u8) y):∃ b,ZcB false y=Zc b:=by
 simp only[TyC]at h
 obtain⟨n,hw,rfl⟩:=h
 have h1:0<=n/\n<=255:=by
  simp only[Lit.wf,Xj,decide_eq_true_eq]at hw
  exact hw
 refine⟨UInt8.ofNat n.toNat,?_⟩
 simp only[ZcB,Xl,if_false,List.headD_cons,Zc,AVal.int.injEq,true_and]
 rw[Wk]
 omega
theorem Zf4{xs:List AVal}(h:TyC (.slice false (.int .u8)) xs):∃ b:Zd,xs=[Zf b]/\b.length<=9223372036854775807:=Zy2 (fun _=>Zzp) h
theorem ZRU{xs:List AVal}(h:TyC (.slice false (.int .i64)) xs):∃ b:List Int,xs=[Zbm b]/\b.length<=9223372036854775807:=Zy2 (fun y hy=>by
 simp only[TyC]at hy
 obtain⟨n,_,rfl⟩:=hy
 exact⟨n,rfl⟩) h
def ZPt:Ty:=.struct [.int .i64,.int .i64,.str,.str,.slice false (.int .u8)]
def ZJf:Ty:=.struct [.str,.slice false (.int .u8),.int .i64,.bool,.str,.int .i64,.slice true ZPt,.int .i64,.int .i64,.int .i64]
def ZRG:Ty:=.struct [ZJf,.int .i64,.bool,.slice false (.int .i64),.str]
example:ZdA Tryd.prog 8 32=some ZRG:=by kernel_rfl
example:ZdT (Tryd.prog.underlying 32)=true:=by kernel_rfl
end
section
open Go.RowKit
def Zqd:Ty:=.struct [.slice false (.int .u8),.slice false (.int .u8),.slice false (.int .u8),.slice false (.int .u8),.int .i64,.int .i64,.bool,.bool,.int .i64,.struct [.int .i64,.slice false (.int .u8),.slice false (.int .u8),.slice false (.int .u8)],.slice false (.int .i64),.int .i64,.int .i64]
theorem ZLc{x:AVal}(h:Zi4 true Zqd x):∃ m,Zhp m/\x=.agg (mC m):=by
 obtain⟨y,h,rfl⟩:=h
 unfold Zqd at h
 rw[TyC]at h
 simp only[Zho]at h
 obtain⟨_,_,rfl,h1,_,_,rfl,h2,_,_,rfl,h3,_,_,rfl,h4,_,_,rfl,h5,_,_,rfl,h6,_,_,rfl,h7,_,_,rfl,h8,_,_,rfl,h9,_,_,rfl,h10,_,_,rfl,h11,_,_,rfl,h12,_,_,rfl,h13,rfl⟩:=h
 rw[TyC]at h10
 simp only[Zho]at h10
 obtain⟨_,_,rfl,g1,_,_,rfl,g2,_,_,rfl,g3,_,_,rfl,g4,rfl⟩:=h10
 obtain⟨b1,rfl,l1⟩:=Zf4 h1
 obtain⟨b2,rfl,l2⟩:=Zf4 h2
 obtain⟨b3,rfl,l3⟩:=Zf4 h3
 obtain⟨b4,rfl,l4⟩:=Zf4 h4
 obtain⟨c2,rfl,m2⟩:=Zf4 g2
 obtain⟨c3,rfl,m3⟩:=Zf4 g3
 obtain⟨c4,rfl,m4⟩:=Zf4 g4
 obtain⟨is,rfl,li⟩:=ZRU h11
 simp only[TyC]at h5 h6 h7 h8 h9 h12 h13 g1
 obtain⟨a5,_,rfl⟩:=h5
 obtain⟨a6,_,rfl⟩:=h6
 obtain⟨a7,rfl⟩:=h7
 obtain⟨a8,rfl⟩:=h8
 obtain⟨a9,_,rfl⟩:=h9
 obtain⟨a12,_,rfl⟩:=h12
 obtain⟨a13,_,rfl⟩:=h13
 obtain⟨f1,_,rfl⟩:=g1
 exact⟨⟨b1,b2,b3,b4,a5,a6,a7,a8,a9,⟨f1,c2,c3,c4⟩,is,a12,a13⟩,⟨l1,l2,l3,m2,m4,li⟩,rfl⟩
end
section
open Go.RowKit
theorem ZCd{x:AVal}(h:Zi4 false (.slice false (.int .u8)) x):∃ b:Zd,x=Zf b:=by
 obtain⟨y,h,rfl⟩:=h
 obtain⟨b,rfl,_⟩:=Zf4 h
 exact⟨b,rfl⟩
theorem ZRs{x:AVal}(h:Zi4 false (.int .u8) x):∃ b:UInt8,x=.int .u8 (b.toNat:Int):=by
 obtain⟨y,h,rfl⟩:=h
 obtain⟨b,h1⟩:=Zzp h
 exact⟨b,h1⟩
end
section
open Go.Shelf
def ZAd:Ren:=⟨fun |196=>82 |259=>94 |n=>n,fun |9=>9 |4=>4 |3=>3 |5=>5 |12=>12 |119=>149 |0=>0 |46=>115 |139=>152 |138=>151 |53=>68 |n=>n,fun |3=>0 |4=>1 |n=>n⟩
theorem Zxy:Go.Proofs.Lays.n196 Tryd.prog ZAd:={ mixed:=by kernel_rfl,f196:=Tryd.func82.trans (congrArg some (by kernel_rfl)),f259:=Tryd.func94.trans (congrArg some (by kernel_rfl)),t0:=Tryd.underlying0,a0:=Tryd.isAgg0,z0:=Tryd.sizeOf0,v0:=Tryd.zeroValue0,t3:=Tryd.underlying3,a3:=Tryd.isAgg3,z3:=Tryd.sizeOf3,v3:=Tryd.zeroValue3,t4:=Tryd.underlying4,a4:=Tryd.isAgg4,z4:=Tryd.sizeOf4,v4:=Tryd.zeroValue4,t5:=Tryd.underlying5,a5:=Tryd.isAgg5,z5:=Tryd.sizeOf5,v5:=Tryd.zeroValue5,t9:=Tryd.underlying9,a9:=Tryd.isAgg9,z9:=Tryd.sizeOf9,v9:=Tryd.zeroValue9,t12:=Tryd.underlying12,a12:=Tryd.isAgg12,z12:=Tryd.sizeOf12,v12:=Tryd.zeroValue12,t46:=Tryd.underlying115,a46:=Tryd.isAgg115,z46:=Tryd.sizeOf115,v46:=Tryd.zeroValue115,t53:=Tryd.underlying68,a53:=Tryd.isAgg68,z53:=Tryd.sizeOf68,v53:=Tryd.zeroValue68,t119:=Tryd.underlying149,a119:=Tryd.isAgg149,z119:=Tryd.sizeOf149,t138:=Tryd.underlying151,a138:=Tryd.isAgg151,z138:=Tryd.sizeOf151,v138:=Tryd.zeroValue151,t139:=Tryd.underlying152,a139:=Tryd.isAgg152,z139:=Tryd.sizeOf152,v139:=Tryd.zeroValue152,g3:=by kernel_rfl,g4:=by kernel_rfl }
end
section
open Go.RowKit Go.Shelf Go.Lib
theorem ZQa{W:World}(h:Lib.Utf8Tabs 0 1 W):Gl.le (Imm.of W):=by
 intro b o u hu
 unfold Gl at hu
 unfold Imm.of
 split at hu
 ·rename_i e;subst e
  split at hu
  ·rename_i ho
   rw[h.1 o ho,<-hu]
  ·cases hu
 ·split at hu
  ·rename_i e;subst e
   split at hu
   ·rename_i ho
    rw[<-hu]
    obtain⟨h1,h2⟩:=h.2 (o/2) (by omega)
    by_cases hp:o%2=0
    ·rw[if_pos hp,<-h1];congr 2;omega
    ·rw[if_neg hp,<-h2];congr 2;omega
   ·cases hu
  ·cases hu
theorem ZNZ{x:AVal}(h:Zi4 false (.int .i64) x):∃ n:Int,(-9223372036854775808<=n/\n<=9223372036854775807)/\x=.int .i64 n:=by
 obtain⟨y,h,rfl⟩:=h
 simp only[TyC]at h
 obtain⟨n,hw,rfl⟩:=h
 refine⟨n,?_,rfl⟩
 simp only[Lit.wf,Xj,decide_eq_true_eq]at hw
 exact hw
section
open Go.RowKit
variable {H:Type}{enc:TypeId×Value->H}{P:Program}{w:World}{spare:Nat->Bool}{held:Bool}
end
end
section
set_option maxRecDepth 100000
theorem Zq8:Tryd.prog.follows .mixedOrders=true:=by kernel_rfl
theorem ZI1:ZrJ Tryd.prog 22 1 1 (.int .u8 0) 75:=⟨_,_,_,_,_,_,_,_,_,_,_,rfl,rfl,rfl,by kernel_rfl,rfl,rfl,rfl,rfl,rfl,rfl,rfl,rfl,by kernel_rfl,by kernel_rfl,⟨_,_,_,_,rfl⟩,rfl,by decide⟩
theorem ZJN:ZrJ Tryd.prog 28 5 72 (.agg [.int .i64 0,.int .i64 0,.str [],.str [],.lst true []]) 93:=⟨_,_,_,_,_,_,_,_,_,_,_,rfl,rfl,rfl,by kernel_rfl,rfl,rfl,rfl,rfl,rfl,rfl,rfl,rfl,by kernel_rfl,by kernel_rfl,⟨_,_,_,_,rfl⟩,rfl,by decide⟩
theorem Zv8{α:Type}{d v:α}:∀ {l:List (Nat×α)} {n:Nat},Ze0 d l n=v->v=d\/(n,v)∈l
 | [],n,h=>Xp h.symm
 |(k,w)::r,n,h=>by
  simp only[Ze0]at h
  split at h
  ·rename_i e;subst e h;exact Xt (by simp)
  ·rcases Zv8 h with h |h
   ·exact Xp h
   ·exact Xt (by simp[h])
theorem ZJr:ZsH Tryd.prog PR:=by
 intro f g h args σ r σ' hg
 rcases Zv8 h with h |h
 ·cases h
 unfold Zx0 at h
 simp only[XI,Prod.mk.injEq,Xa,Xbl,or_false]at h
 rcases h with⟨rfl,rfl⟩ |h
 ·exact ZvS Zq8 ZI1 hg
 rcases h with⟨rfl,rfl⟩ |h
 ·exact ZvS Zq8 ZJN hg
 rcases h with⟨rfl,rfl⟩ |h
 ·exact ZRv ⟨Tryd.f82,Tryd.func82,by kernel_rfl,by kernel_rfl⟩ (fun s w hs hT=>Any.utf8_ValidString Zxy s w hs hT) hg
 exact absurd h.2 (by simp)
theorem ZRQ:Zar Tryd.prog E:=by
 have h:E=EV CF PR BY:=ZKa CF PR BY
 rw[h]
 exact ZKc Zq8 ZJr ann BY
end
section
open Go.ChangeShapes Go.WideShapes Go.ChangeAt Go.RowKit Go.Deep
theorem ZMr:ownKnob Tryd.prog.godebug=none:=by kernel_rfl
theorem Zlj:laidOutB Tryd.prog=true:=by kernel_rfl
theorem ZBa{W:World}(hLH:laidMetH Tryd.prog Rows.noteBytesRow.laid W):Gl.le (Imm.of W):=by
 have hL:laidMet Tryd.prog Rows.noteBytesRow.laid W:=by rw[<-MakeChecks.laidMetH_plain _ _ _ (by kernel_rfl)];exact hLH
 have e1:Rows.laid_unicode_utf8_first=Lib.firstData:=by kernel_rfl
 have e2:(Rows.laid_unicode_utf8_acceptRanges:DataW Unit)=Lib.acceptData:=by kernel_rfl
 have h1:Lib.VarReads Tryd.prog W "unicode/utf8.first" Lib.firstData:=by rw[<-e1];exact Lib.laidMet.reads hL (.tail _ (.head _))
 have h2:Lib.VarReads Tryd.prog W "unicode/utf8.acceptRanges" Lib.acceptData:=by rw[<-e2];exact Lib.laidMet.reads hL (.head _)
 exact ZQa (utf8Tabs_of_readsT (U8Types.of196 Zxy) ⟨by kernel_rfl,by kernel_rfl,by kernel_rfl,by kernel_rfl,by kernel_rfl,by kernel_rfl,by kernel_rfl⟩ h1 h2)
set_option maxRecDepth 100000 in
theorem ZFU(H:Type)(enc:TypeId×Value->H)(W:World)(base:Nat)(args:Array Value)(ds gs:List (DataW H))(before:List MemPlace)
  (hval0:∀ (j:Nat) t v,Tryd.f3.params[j]?=some t->args[j]?=some v->Value.okWide Tryd.prog W .any base t v)
  (hW:DataW.Whole enc Tryd.prog Tryd.f3.params.toList Rows.noteBytesSpec.vars false W args.toList ds gs before) (hL:laidMetH Tryd.prog Rows.noteBytesRow.laid W) :
  Calls Tryd.prog 3 args W fun e W'=>∃ v,e=.returned v/\Rows.noteBytesSpec.post enc Tryd.prog Tryd.f3 false true false false W args v W':=by
 have hW':=hW
 obtain⟨p,q,hA0,hV,rfl,hfz,hnd⟩:=hW
 have hval:∀ (j:Nat) t v,Tryd.f3.params[j]?=some t->args[j]?=some v->Value.okWide Tryd.prog W .any base t v:=hval0
 have hA:DataW.TrodAll enc Tryd.prog W 0 (fun _=>true) true Tryd.f3.params.toList args.toList ds p:=hA0
 rw[Tryd.params3]at hA hval
 obtain⟨v0,vs0,d0,ds0,p0,q0,hargs,rfl,rfl,h0,r0⟩:=trodAll_cons hA
 obtain⟨v1,vs1,d1,ds1,p1,q1,rfl,rfl,rfl,h1,r1⟩:=trodAll_cons r0
 obtain⟨v2,vs2,d2,ds2,p2,q2,rfl,rfl,rfl,h2,r2⟩:=trodAll_cons r1
 obtain⟨v3,vs3,d3,ds3,p3,q3,rfl,rfl,rfl,h3,r3⟩:=trodAll_cons r2
 obtain⟨rfl,rfl,rfl⟩:=trodAll_nil r3
 obtain rfl:args=#[v0,v1,v2,v3]:=by cases args;simp_all
 obtain⟨rfl,rfl⟩:=trodVars_none hV
 have k0:=h0
 have lt0:∀ x∈p0,x.block<W.heap.size:=by obtain⟨m,hm⟩:=k0;exact DataW.trod_lt m _ _ _ hm
 obtain⟨x0,y0,z0,_⟩:=ZkZ (n:=12) (T:=Zqd) (by kernel_rfl) (hval 0 27 v0 rfl rfl) h0
 rw[Tryd.underlying27]at y0
 obtain⟨a0,b0,rfl⟩:=ZLc y0
 have k1:=h1
 have lt1:∀ x∈p1,x.block<W.heap.size:=by obtain⟨m,hm⟩:=k1;exact DataW.trod_lt m _ _ _ hm
 obtain⟨x1,y1,z1,_⟩:=ZkZ (n:=12) (T:=(.slice false (.int .u8))) (by kernel_rfl) (hval 1 22 v1 rfl rfl) h1
 rw[Tryd.underlying22]at y1
 obtain⟨a1,rfl⟩:=ZCd y1
 have k2:=h2
 have lt2:∀ x∈p2,x.block<W.heap.size:=by obtain⟨m,hm⟩:=k2;exact DataW.trod_lt m _ _ _ hm
 obtain⟨x2,y2,z2,_⟩:=ZkZ (n:=12) (T:=(.int .i64)) (by kernel_rfl) (hval 2 3 v2 rfl rfl) h2
 rw[Tryd.underlying3]at y2
 obtain⟨a2,b2,rfl⟩:=ZNZ y2
 have k3:=h3
 have lt3:∀ x∈p3,x.block<W.heap.size:=by obtain⟨m,hm⟩:=k3;exact DataW.trod_lt m _ _ _ hm
 obtain⟨x3,y3,z3,_⟩:=ZkZ (n:=12) (T:=(.int .u8)) (by kernel_rfl) (hval 3 5 v3 rfl rfl) h3
 rw[Tryd.underlying5]at y3
 obtain⟨a3,rfl⟩:=ZRs y3
 clear hA0 hval0
 refine(ZRe ZRQ (ZBa hL) (args:=[.agg (mC a0),Zf a1,.int .i64 a2,.int .u8 (a3.toNat:Int)]) (by simp only[VRs];exact⟨_,_,rfl,z0,_,_,rfl,z1,_,_,rfl,z2,_,_,rfl,z3,rfl⟩) (ZC8 a0 b0 a1 a2 a3)).mono fun e W' ⟨he,bel⟩=>?_
 subst he
 exact⟨_,rfl,_,_,_,[],_,[],hW',trodAll_mk1 (shut_bool Tryd.underlying4 _),(trodAll_cons_mk (Below.trod Zlj (by kernel_rfl) (of_decide_eq_true (by kernel_rfl)) k0 bel lt0) (trodAll_cons_mk (Below.trod Zlj (by kernel_rfl) (of_decide_eq_true (by kernel_rfl)) k1 bel lt1) (trodAll_cons_mk (Below.trod Zlj (by kernel_rfl) (of_decide_eq_true (by kernel_rfl)) k2 bel lt2) (trodAll_cons_mk (Below.trod Zlj (by kernel_rfl) (of_decide_eq_true (by kernel_rfl)) k3 bel lt3) trodAll_mk0)))),rfl,bel.frame _,fun h=>by cases h⟩
noncomputable def Zor(os:Os):World :=
 let w0:=World.holding Tryd.prog os ⟨#[],#[],[]⟩
 let put (h:Array Obj) (g:Nat) (us:Array Value):Array Obj:=h.modify g fun
  | .cells _ t frozen=>.cells us t frozen
  |o=>o
 let h1:=put w0.heap 0 (Lib.firstTab.map fun z=>Value.int .u8 z).toArray
 let h2:=put h1 1 ((List.range 16).flatMap fun i=>[Value.int .u8 (Lib.accLo i),Value.int .u8 (Lib.accHi i)]).toArray
 { w0 with heap:=h2 }
theorem ZDw(os:Os):laidMet Tryd.prog Rows.noteBytesRow.laid ((Zor os).forCall (fun _ _=>0) ⟨#[],#[.agg #[.slice none 0 0,.slice none 0 0,.slice none 0 0,.slice none 0 0,.int .i64 0,.int .i64 0,.bool false,.bool false,.int .i64 0,.int .i64 0,.slice none 0 0,.slice none 0 0,.slice none 0 0,.slice none 0 0,.int .i64 0,.int .i64 0],.slice none 0 0,.int .i64 0,.int .u8 0],[]⟩).memory :=
 laidMet_of_run' 8 (by kernel_rfl) (by kernel_rfl)
theorem ZJY(os:Os){H:Type}(enc:TypeId×Value->H):∃ ds places,DataW.whole enc Tryd.prog ((Zor os).forCall (fun _ _=>0) ⟨#[],#[.agg #[.slice none 0 0,.slice none 0 0,.slice none 0 0,.slice none 0 0,.int .i64 0,.int .i64 0,.bool false,.bool false,.int .i64 0,.int .i64 0,.slice none 0 0,.slice none 0 0,.slice none 0 0,.slice none 0 0,.int .i64 0,.int .i64 0],.slice none 0 0,.int .i64 0,.int .u8 0],[]⟩).memory Tryd.f3.params.toList Rows.noteBytesSpec.vars false #[.agg #[.slice none 0 0,.slice none 0 0,.slice none 0 0,.slice none 0 0,.int .i64 0,.int .i64 0,.bool false,.bool false,.int .i64 0,.int .i64 0,.slice none 0 0,.slice none 0 0,.slice none 0 0,.slice none 0 0,.int .i64 0,.int .i64 0],.slice none 0 0,.int .i64 0,.int .u8 0].toList 8=some (ds,[],places) :=
 ⟨[.agg [.nil,.nil,.nil,.nil,.lit (.int .i64 0),.lit (.int .i64 0),.lit (.bool false),.lit (.bool false),.lit (.int .i64 0),.agg [.lit (.int .i64 0),.nil,.nil,.nil],.nil,.lit (.int .i64 0),.lit (.int .i64 0)],.nil,.lit (.int .i64 0),.lit (.int .u8 0)],[],by kernel_rfl⟩
set_option maxRecDepth 100000 in
theorem ZDS(os:Os)(started:os.Started)(H:Type)(enc:TypeId×Value->H)(F:Stop.Interp) :
  ReturnsInHanded {} Tryd.checked os 3 .any ((OpenSpec.ofChange Rows.noteBytesSpec).preRow enc Tryd.prog Tryd.f3 Rows.noteBytesRow.domain false Rows.noteBytesRow.laid) (((OpenSpec.ofChange Rows.noteBytesSpec).at F).post enc Tryd.prog Tryd.f3 false true false false):=by
 obtain⟨ds,places,hx⟩:=ZJY os enc
 refine returnsInHanded_of_row (C:=Tryd.checked) (s:=(OpenSpec.ofChange Rows.noteBytesSpec)) ZMr started (by kernel_rfl) Tryd.func3
  (witness_row_at (enc:=enc) (C:=Tryd.checked) false (Zor os) #[.agg #[.slice none 0 0,.slice none 0 0,.slice none 0 0,.slice none 0 0,.int .i64 0,.int .i64 0,.bool false,.bool false,.int .i64 0,.int .i64 0,.slice none 0 0,.slice none 0 0,.slice none 0 0,.slice none 0 0,.int .i64 0,.int .i64 0],.slice none 0 0,.int .i64 0,.int .u8 0] rfl (by kernel_rfl) (by kernel_rfl) (by kernel_rfl)
   (OpenSpec.preRow_of_cond 8 hx (by kernel_rfl) (fun k hk=>by cases hk) (by kernel_rfl) (ZDw os))) ?_
 intro W base args ds gs before hval hW _ hcond _ hL _ _
 exact ZFU H enc W base args ds gs before hval hW hL
theorem ZHn:Rows.NoteBytesSaid :=
 OpenClaim.holds_of_cond 3 Tryd.f3 rfl rfl rfl rfl rfl rfl rfl ⟨rfl,rfl,rfl,rfl,rfl⟩ rfl rfl rfl rfl rfl (by kernel_rfl) Tryd.func3 (by kernel_rfl)
  (of_decide_eq_true (by kernel_rfl)) (by unfold Func.isWrapper;first |(rw[if_pos (by decide +kernel)];kernel_rfl) |(rw[if_neg (by decide +kernel)];exact⟨rfl,rfl⟩))
  (fun os started H enc _ F=>by rw[OpenClaim.pre_eq_preRow];exact ZDS os started H enc F)
theorem ZQk(f:FuncId)(fn:Func)(hf:Tryd.pinned.checked.prog.funcNamed "tidings/tidingslaw19.NoteBytes"=some f)(hfn:Tryd.pinned.checked.prog.funcs[f]?=some fn) :
  false=Tryd.pinned.checked.prog.looks []/\∀ (j:Nat) t,fn.params[j]?=some t->Tryd.pinned.checked.prog.wantsStandIn t=false:=by
 obtain rfl:f=3:=Xbp ((show Tryd.prog.funcNamed "tidings/tidingslaw19.NoteBytes"=some 3 by kernel_rfl).symm.trans hf) |>.symm
 obtain rfl:fn=Tryd.f3:=(Xbp (Tryd.func3.symm.trans hfn)).symm
 refine⟨by kernel_rfl,fun j t ht=>?_⟩
 rw[Tryd.params3]at ht
 have hm:t=22\/t=3\/t=27\/t=5:=by
  have:=Array.mem_of_getElem? ht
  simp at this
  first |exact this |exact this.symm |omega |(rcases this with h |h |h<;>simp[h]) |(rcases this with h |h |h |h<;>simp[h]) |(rcases this with h |h |h |h |h<;>simp[h]) |(rcases this with h |h |h |h |h |h<;>simp[h]) |(rcases this with h |h |h |h |h |h |h<;>simp[h])
 rcases hm with rfl |rfl |rfl |rfl
 ·exact(show Tryd.prog.wantsStandIn 22=false by kernel_rfl)
 ·exact(show Tryd.prog.wantsStandIn 3=false by kernel_rfl)
 ·exact(show Tryd.prog.wantsStandIn 27=false by kernel_rfl)
 ·exact(show Tryd.prog.wantsStandIn 5=false by kernel_rfl)
theorem noteBytes_card:Rows.NoteBytesCardSaid :=
 Claim7.holds_tied_plain_at .later [] _ _ _ _ ZHn (fun _ h=>by cases h) (by kernel_rfl) (fun _ h=>by cases h) noteBytes_row_tie rfl ⟨rfl,rfl⟩ (by kernel_rfl) rfl ZQk (by kernel_rfl)
#print axioms noteBytes_card
end
end Go.Proofs.YtbcbhgbffjkheaaDoor
