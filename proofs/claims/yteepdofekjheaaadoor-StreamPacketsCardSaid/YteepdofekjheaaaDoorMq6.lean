/- The card of StreamPackets: for every input the law returns true, and each argument reads afterwards as it read before. No other condition; the tables of unicode/utf8 are tied to the program. -/
import Derived.Test.YteepdofekjheaaaDoorMq2
import Derived.Test.YteepdofekjheaaaDoorMq4
import Derived.Test.YteepdofekjheaaaDoorMq5
import Derived.Shelf.LaysM
import Derived.Shelf.Bytes.TryGrowAt
import Derived.Shelf.Bytes.GrowSliceCatch
import Derived.Lib.ByteType
import Derived.Lib.BufferAt
import Derived.Lib.BufferOwn
import Derived.Lib.AppendZeros
import Derived.Lib.Walk
import Derived.Lib.Hide
import Derived.Laws.CopyRow
import Derived.Laws.IdiomCopy
import Derived.Laws.MakeOwn
import Derived.WalkKit
import Derived.OwnWalk
import Derived.Defers
import Derived.Recover
import Derived.RegionTactic
import Derived.Shelf.RegionOpenPlain
import Derived.Deep.RegionWith
import Derived.Deep.Draws
import Derived.BigCall
import Derived.BigGuard
import Derived.Lib.BufferSrc
import Derived.Test.YteepdofekjheaaaDoorProg
import Derived.Lib.LaidU8T
import Derived.Test.YteepdofekjheaaaDoorRows
import Derived.Deep.Slices
import Derived.Test.YteepdofekjheaaaDoorCards
import Derived.Test.YteepdofekjheaaaDoorTie
import Derived.ProofKit
import Derived.OpenShut
import Derived.ShutString
import Derived.ChangeOld
import Derived.Below
import Derived.SevenTiedAt
import Derived.LaidByTextLater
import Derived.Lib.LaidIn
import Derived.Deep.DeepHandedRow
import Derived.MakeChecks
import Derived.SizedLaws
set_option linter.defProp false
set_option linter.unusedSectionVars false
set_option linter.unusedSimpArgs false
set_option linter.unusedVariables false
open Nat renaming reduceEqDiff→Xa,reduceLT→Xc,reduceAdd→Xe,reduceLeDiff→Xf,reduceBEq→Xg,le_refl→Xx,zero_add→XG,add_zero→XT,mul_le_mul_right→X3,le_trans→Wy,one_mul→WI,zero_le→W9,mul_one→Xa5
open Option.some renaming injEq→Xb,inj→WN
open Prod.mk renaming injEq→Xd
open Bool renaming false_eq_true→Xi,and_eq_true→Xl
open List renaming getElem?_eq_some_iff→Xj,length_append→Xk,append_nil→Xm,map_cons→Xo,mem_append→Xt,nil_append→Xw,eq_nil_of_length_eq_zero→Xy,map_nil→XA,all_eq_true→XB,all_cons→XD,length_nil→XJ,take_of_length_le→XK,getElem?_eq_getElem→XP,mem_cons→XQ,cons_append→XU,length_map→XW,mem_map→X0,take_append_of_le_length→X5,range→X6,map_append→X9,append_assoc→Wa,length_drop→Wb,length_take→Wj,mem_of_mem_take→Wk,take_length→Wl,length_singleton→W7,mem_range→Xab,length→Xae,take_zero→Xar,map_map→Xay,mem_cons_self→XaD
open Option renaming map_eq_some_iff→Xp,bind_some→Wm
open Int renaming reduceBEq→Xq,reduceBNe→XaX
open Or renaming inl→Xr,inr→Xv
open Array renaming length_toList→XM,toList_inj→XaM
open BitVec renaming ofInt→XR
namespace Go.Proofs.YteepdofekjheaaaDoor
set_option maxHeartbeats 16000000
set_option maxRecDepth 10000
section
open Go.RowKit
def ZgJ (P:Program):Nat->TypeId->Bool
 | 0,_=>true
 | n+1,t=>match P.underlying t with
  | some (.slice e)=>decide (1<=P.bytesOf e) && ZgJ P n e
  | some (.struct fs)=>fs.toList.all fun f=>ZgJ P n f.type
  | _=>true
mutual
def TyR (R:Nat):Ty->List AVal->Prop
 | .bool,xs=>∃ b,xs=[.bool b]
 | .int k,xs=>∃ n,(Lit.int k n).wf=true/\xs=[.int k n]
 | .str,xs=>∃ l:List UInt8,l.length<=R/\xs=[.str l]
 | .slice s e,xs=>∃ ys:List (List AVal),xs=[.lst false (ys.map (Zb9 s))]/\ys.length<=R/\∀ y ∈ ys,TyR R e y
 | .struct fs,xs=>Zfp R fs xs
def Zfp (R:Nat):List Ty->List AVal->Prop
 | [],xs=>xs=[]
 | f::fs,xs=>∃ a b,xs=a++b/\TyR R f a/\Zfp R fs b
end
section
variable {H:Type} {enc:TypeId×Value->H} {P:Program} {w:World} {spare:Nat->Bool} {held:Bool} {R:Nat}
theorem ZuS {d:DataW H} {e:TypeId} {n:Nat}:∀ {l:List (DataW H)},d ∈ l->n ∈ d.weights P e->n ∈ DataW.weightsAll P e l
 | x::l,h,hn=>by
  simp only [DataW.weightsAll,Xt]
  rcases XQ.1 h with rfl | h
  ·exact Xr hn
  ·exact Xv (ZuS h hn)
theorem ZFL {t e:TypeId} {l m:List (DataW H)} {d:DataW H} (hu:P.underlying t=some (.slice e)) (hd:d ∈ l) {n:Nat} (hn:n ∈ d.weights P e):n ∈ (DataW.slice l m).weights P t:=by
 simp only [DataW.weights,hu,XQ,Xt]
 exact Xv (Xr (ZuS hd hn))
theorem Zwr {n fuel:Nat} {cs:List Value} (ih:∀ (t:TypeId) (cs:List Value) (x:DataW H×List MemPlace) (T:Ty),ZdH P n t=some T->ZgJ P n t=true->(∀ m ∈ x.1.weights P t,m<=R)->DataW.trod enc P w 0 spare held fuel t cs=some x->∃ xs,TyR R T xs/\VRs (Imm.of w) B0 xs cs/\ZaQ xs=true) :
  ∀ (fs:List Field) (at':Nat) (Ts:List Ty) (ys:List (DataW H×List MemPlace)),(fs.all fun f=>ZgJ P n f.type)=true->(∀ m ∈ DataW.weightsEach P (fs.map (·.type)) (ys.map (·.1)),m<=R)->Zjn P at' fs cs.length=true->fs.mapM (fun f=>ZdH P n f.type)=some Ts ->
   fs.mapM (fun f=>DataW.trod enc P w 0 spare held fuel f.type ((cs.drop f.offset).take (P.cellsOf f.type)))=some ys->∃ xs,Zfp R Ts xs/\VRs (Imm.of w) B0 xs (cs.drop at')/\ZaQ xs=true
 | [],at',Ts,ys,_,_,ho,hT,_=>by
  simp only [Zjn,beq_iff_eq] at ho
  simp only [List.mapM_nil,Option.pure_def,Xb] at hT
  subst hT ho
  exact ⟨[],by simp only [Zfp],by simp [VRs],rfl⟩
 | f::fs,at',Ts,ys,hby,hwt,ho,hT,h=>by
  simp only [Zjn,Xl,beq_iff_eq] at ho
  obtain ⟨T,Ts',h1,h2,rfl⟩:=Zwe hT
  obtain ⟨y,ys',h3,h4,rfl⟩:=Zwe h
  simp only [XD,Xl] at hby
  simp only [Xo,DataW.weightsEach,Xt] at hwt
  obtain ⟨a,a1,a2,a3⟩:=ih _ _ _ _ h1 hby.1 (fun m hm=>hwt m (Xr hm)) h3
  obtain ⟨b,b1,b2,b3⟩:=Zwr ih fs _ _ _ hby.2 (fun m hm=>hwt m (Xv hm)) ho.2 h2 h4
  rw [ho.1] at a2
  refine ⟨a++b,by simp only [Zfp];exact ⟨a,b,rfl,a1,b1⟩,ZDQ a2 (by rw [List.drop_drop];exact b2),ZNG a3 b3⟩
theorem Zvt {n:Nat} {e:TypeId} {T:Ty} (hT:ZdH P n e=some T) (hs:ZdX (P.underlying e)=false) {xs:List AVal} (h:TyR R T xs):xs.length=1:=by
 cases n with
 | zero=>simp [ZdH] at hT
 | succ n =>
  simp only [ZdH] at hT
  split at hT
  ·injection hT with hT;subst hT;simp only [TyR] at h;obtain ⟨_,rfl⟩:=h;rfl
  ·injection hT with hT;subst hT;simp only [TyR] at h;obtain ⟨_,_,rfl⟩:=h;rfl
  ·injection hT with hT;subst hT;simp only [TyR] at h;obtain ⟨_,_,rfl⟩:=h;rfl
  ·split at hT
   ·simp only [Xp] at hT
    obtain ⟨T',_,rfl⟩:=hT
    simp only [TyR] at h;obtain ⟨_,rfl,_⟩:=h;rfl
   ·cases hT
  ·rename_i hu;rw [hu] at hs;simp [ZdX] at hs
  ·cases hT
theorem ZnS:∀ (n fuel:Nat) (t:TypeId) (cs:List Value) (x:DataW H×List MemPlace) (T:Ty),ZdH P n t=some T->ZgJ P n t=true->(∀ m ∈ x.1.weights P t,m<=R)->DataW.trod enc P w 0 spare held fuel t cs=some x ->
  ∃ xs,TyR R T xs/\VRs (Imm.of w) B0 xs cs/\ZaQ xs=true
 | 0,fuel,t,cs,x,T,hT,_,_,_=>by simp [ZdH] at hT
 | n+1,0,t,cs,x,T,_,_,_,h=>by simp [DataW.trod] at h
 | n+1,fuel+1,t,cs,x,T,hT,hby,hwt,h=>by
  have h0:=h
  simp only [ZdH] at hT
  unfold DataW.trod at h
  split at hT
  ·rename_i hu
   injection hT with hT;subst hT
   obtain ⟨b,rfl,_⟩:=DataW.trod_bool hu h0
   exact ⟨[.bool b],by simp only [TyR];exact ⟨b,rfl⟩,by simp [VRs,VR],rfl⟩
  ·rename_i k hu
   injection hT with hT;subst hT
   obtain ⟨n',rfl,_,hk⟩:=DataW.trod_int hu h0
   exact ⟨[.int k n'],by simp only [TyR];exact ⟨n',hk,rfl⟩,by simp [VRs,VR],rfl⟩
  ·rename_i hu
   injection hT with hT;subst hT
   obtain ⟨s,rfl,hx,hs⟩:=DataW.trod_string hu h0
   have hs':s.data.toList.length<=9223372036854775807:=by
    rw [XM];exact Wy hs (by simp [maxLen])
   have hR:s.data.toList.length<=R:=by
    subst hx
    exact hwt _ (by simp [DataW.weights])
   exact ⟨[.str s.data.toList],by simp only [TyR];exact ⟨_,hR,rfl⟩,by simp only [VRs,VR];exact ⟨_,_,rfl,⟨by simp,hs'⟩,rfl⟩,rfl⟩
  ·rename_i e hu
   split at hT
   case isFalse=>cases hT
   rename_i hc
   simp only [Xp] at hT
   obtain ⟨T,hT,rfl⟩:=hT
   rcases Go.Deep.open_slice hu h0 with ⟨hcs,_⟩ | ⟨a,len,cap,m,n',D,Pl,hcs,_,hl,hm,hmm,hx,hi⟩
   ·subst hcs
    exact ⟨[.lst false []],by simp only [TyR];exact ⟨[],by simp,by simp,by simp⟩,by simp only [VRs,VR];exact ⟨_,_,rfl,⟨none,0,rfl,by simp,by simp,by simp,by simp,by simp [Zag]⟩,rfl⟩,rfl⟩
   ·have hlm:len<=m:=by split at hmm <;> omega
    unfold ZgJ at hby
    rw [hu] at hby
    simp only [Xl,decide_eq_true_eq] at hby
    have hlR:len<=R:=by
     have:=hwt _ (by rw [hx];simp only [DataW.weights,hu];exact XaD ..)
     simp only [XW,List.length_range] at this
     have h1:=Nat.le_mul_of_pos_right (len+(m - len)) hby.1
     omega
    have hspot:0 < len->a.spot=none:=by
     intro h0
     obtain ⟨cs',h1,h2⟩:=hi 0 (by omega)
     obtain ⟨_,h6,h7⟩:=World.cells?_some h1
     have h8:=h7 0 hc
     obtain ⟨u,hu⟩:∃ u,cs'[0]?=some u:=⟨cs'[0]'(by omega),by simp⟩
     rw [hu] at h8
     simp only [Nat.zero_mul,Addr.add,if_true] at h8
     exact ZxT (b:=a.block) (off:=a.off) (s:=a.spot) (u:=u) h8
    have hall:∀ i,∃ xs,i < len->TyR R T xs/\(Zb9 (ZdX (P.underlying e)) xs).cells=xs/\xs.length=P.cellsOf e/\CR (Imm.of w) B0 xs a.block (a.off+i*P.cellsOf e)/\ZaQ xs=true:=by
     intro i
     by_cases hlt:i < len
     ·obtain ⟨cs',h1,h2⟩:=hi i (by omega)
      obtain ⟨xs,h3,h4,h5⟩:=ZnS n n' e cs' _ T hT hby.2 (fun q hq=>hwt q (by rw [hx];exact ZFL hu (X0.2 ⟨i,Xab.2 hlt,rfl⟩) hq)) h2
      obtain ⟨_,h6,h7⟩:=World.cells?_some h1
      have hlen:=ZaU h4
      refine ⟨xs,fun _=>⟨h3,ZGd (fun hs=>Zvt hT hs h3) (fun _=>ZsP h5),by omega,Zt9 xs cs' _ h4 (fun j hj=>?_),h5⟩⟩
      have h8:=h7 j (by omega)
      rw [Go.Deep.add_add,ZFK (hspot (by omega)),<-Nat.add_assoc] at h8
      exact h8
     ·exact ⟨[],fun h=>absurd h hlt⟩
    obtain ⟨Y,hY⟩:=Classical.axiomOfChoice hall
    subst hcs
    have hmx:maxLen=9223372036854775807:=by simp [maxLen]
    rw [hmx] at hm
    refine ⟨[.lst false ((X6 len).map fun i=>Zb9 (ZdX (P.underlying e)) (Y i))],?_,?_,?_⟩
    ·simp only [TyR]
     refine ⟨(X6 len).map Y,by rw [Xay];rfl,by simpa using hlR,?_⟩
     intro y hy
     obtain ⟨i,hi',rfl⟩:=X0.1 hy
     exact (hY i (Xab.1 hi')).1
    ·simp only [VRs,VR,XW,List.length_range]
     refine ⟨_,_,rfl,⟨some a,cap,rfl,hl,hm,by simp,?_,ZnV len Y fun i hlt=>by rw [(hY i hlt).2.1];exact (hY i hlt).2.2.2.2⟩,rfl⟩
     cases len with
     | zero=>exact Xr (by simp)
     | succ len =>
      refine Xv ⟨a.block,a.off,P.cellsOf e,?_,hc,Zxq (len+1) a.off Y fun i hlt=>?_⟩
      ·have:=hspot (by omega)
       cases a;simp_all
      ·rw [(hY i hlt).2.1];exact ⟨(hY i hlt).2.2.1,(hY i hlt).2.2.2.1⟩
    ·simp only [ZaQ,Za2,Bool.and_true]
     exact ZnV len Y fun i hlt=>by rw [(hY i hlt).2.1];exact (hY i hlt).2.2.2.2
  ·rename_i fs hu
   split at hT
   case isFalse=>cases hT
   rename_i ho
   simp only [Xp] at hT
   obtain ⟨Ts,hT,rfl⟩:=hT
   rw [hu] at h
   simp only at h
   split at h
   ·rename_i hl
    simp only [Xp] at h
    obtain ⟨ys,hy,rfl⟩:=h
    unfold ZgJ at hby
    rw [hu] at hby
    simp only [DataW.weights,hu] at hwt
    obtain ⟨xs,h1,h2,h3⟩:=Zwr (fun t cs x T h h1 h2 h'=>ZnS n fuel t cs x T h h1 h2 h') fs.toList 0 Ts ys hby hwt (by rw [hl];exact ho) hT hy
    exact ⟨xs,by simp only [TyR];exact h1,h2,h3⟩
   ·cases h
  ·cases hT
def Zkd (R:Nat) (s:Bool) (T:Ty) (x:AVal):Prop:=∃ xs,TyR R T xs/\x=Zb9 s xs
theorem Zqf {n:Nat} {t:TypeId} {v:Value} {d:DataW H} {ps:List MemPlace} {T:Ty} {r:Reach} {b0:Nat} (hT:ZdH P n t=some T) (hby:ZgJ P n t=true) (hwt:∀ m ∈ d.weights P t,m<=R) (hv:Value.okWide P w r b0 t v) (h:DataW.Trod enc P w 0 spare held t v d ps) :
  ∃ x,Zkd R (ZdX (P.underlying t)) T x/\VR (Imm.of w) B0 x v/\ZaQ x.cells=true:=by
 obtain ⟨fuel,h⟩:=h
 obtain ⟨xs,h1,h2,h3⟩:=ZnS n fuel t _ _ T hT hby hwt h
 refine ⟨Zb9 (ZdX (P.underlying t)) xs,⟨xs,h1,rfl⟩,?_⟩
 by_cases hs:ZdX (P.underlying t)=true
 ·have : ∃ cs,v=.agg cs:=by
   unfold Value.okWide at hv
   cases hu:P.underlying t with
   | none=>rw [hu] at hs;simp [ZdX] at hs
   | some dd =>
    rw [hu] at hv hs
    cases dd <;> first | (simp [ZdX] at hs;done) | (obtain ⟨cs,e,_⟩:=hv;exact ⟨cs,e⟩)
  obtain ⟨cs,rfl⟩:=this
  rw [hs]
  exact ⟨by simp only [Zb9,if_true,VR];exact ⟨cs,rfl,h2⟩,h3⟩
 ·have hs':ZdX (P.underlying t)=false:=by simpa using hs
  have hl:=Zvt hT hs' h1
  have hlen:=ZaU h2
  rw [hs']
  match xs,hl with
  | [x],_ =>
   simp only [Zb9,Xi,if_false,List.headD_cons]
   have hvc:v.cells=#[v]:=by
    cases n with
    | zero=>simp [ZdH] at hT
    | succ n =>
     simp only [ZdH] at hT
     split at hT
     ·rename_i hu;obtain ⟨b,rfl⟩:=Go.WideShapes.okWide_bool hu hv;rfl
     ·rename_i k hu;obtain ⟨b,rfl⟩:=Go.WideShapes.okWide_int hu hv;rfl
     ·rename_i hu;obtain ⟨b,rfl⟩:=Go.WideShapes.okWide_string hu hv;rfl
     ·rename_i e hu;obtain ⟨a,l,c,rfl⟩:=Go.WideShapes.okWide_slice hu hv;rfl
     ·rename_i fs hu;rw [hu] at hs';simp [ZdX] at hs'
     ·cases hT
   rw [hvc] at h2
   simp only [VRs] at h2
   obtain ⟨v',vs',e,h2,_⟩:=h2
   simp only [List.cons.injEq] at e
   rw [e.1]
   refine ⟨h2,?_⟩
   have hok:=ZsP h3 x (by simp)
   have hx:x.cells=[x]:=by cases x <;> first | rfl | (simp [ZS] at hok;done)
   rw [hx];exact h3
end
end
section
open Go.RowKit
variable {R:Nat}
theorem Zh0 {α:Type} {T:Ty} {s:Bool} {f:α->AVal} {Q:α->Prop} (h:∀ y,TyR R T y->∃ a,Q a/\Zb9 s y=f a) {xs:List AVal} (hx:TyR R (.slice s T) xs):∃ l:List α,(l.length<=R/\∀ a ∈ l,Q a)/\xs=[.lst false (l.map f)]:=by
 simp only [TyR] at hx
 obtain ⟨ys,rfl,h1,h2⟩:=hx
 have : ∀ ys:List (List AVal),(∀ y ∈ ys,TyR R T y)->∃ l:List α,(∀ a ∈ l,Q a)/\ys.map (Zb9 s)=l.map f:=by
  intro ys
  induction ys with
  | nil=>intro _;exact ⟨[],by simp,rfl⟩
  | cons y ys ih =>
   intro hy
   obtain ⟨a,hq,ha⟩:=h y (hy y (by simp))
   obtain ⟨l,hql,hl⟩:=ih fun y' h'=>hy y' (by simp [h'])
   exact ⟨a::l,by simpa using ⟨hq,hql⟩,by simp [ha,hl]⟩
 obtain ⟨l,hq,hl⟩:=this ys h2
 refine ⟨l,⟨?_,hq⟩,by rw [hl]⟩
 have:=congrArg Xae hl
 simp only [XW] at this
 omega
theorem ZPd {y:List AVal} (h:TyR R (.int .u8) y):∃ b,True/\Zb9 false y=Zb b:=by
 simp only [TyR] at h
 obtain ⟨n,hw,rfl⟩:=h
 have h1:0<=n/\n<=255:=by
  simp only [Lit.wf,Xl,decide_eq_true_eq] at hw
  exact hw
 refine ⟨UInt8.ofNat n.toNat,trivial,?_⟩
 simp only [Zb9,Xi,if_false,List.headD_cons,Zb,AVal.int.injEq,true_and]
 rw [UInt8.toNat_ofNat']
 omega
theorem Zmm {xs:List AVal} (h:TyR R (.slice false (.int .u8)) xs):∃ b:Zc,b.length<=R/\xs=[ZW b]:=by
 obtain ⟨b,h1,h2⟩:=Zh0 (Q:=fun _=>True) (fun _=>ZPd) h
 exact ⟨b,h1.1,h2⟩
def okI (n:Int):Prop:=-9223372036854775808<=n/\n<=9223372036854775807
theorem ZdB {y:List AVal} (h:TyR R (.int .i64) y):∃ n,okI n/\y=[.int .i64 n]:=by
 simp only [TyR] at h
 obtain ⟨n,hw,rfl⟩:=h
 refine ⟨n,?_,rfl⟩
 simp only [Lit.wf,Xl,decide_eq_true_eq] at hw
 exact hw
theorem ZeY {y:List AVal} (h:TyR R .bool y):∃ b,y=[.bool b]:=by
 simp only [TyR] at h;exact h
theorem Zgt {y:List AVal} (h:TyR R .str y):∃ l:Zc,l.length<=R/\y=[.str l]:=by
 simp only [TyR] at h;exact h
theorem ZCk {xs:List AVal} (h:TyR R (.slice false .str) xs):∃ l:List Zc,(l.length<=R/\∀ x ∈ l,x.length<=R)/\xs=[.lst false (l.map AVal.str)] :=
 Zh0 (fun y hy=>by obtain ⟨l,h1,rfl⟩:=Zgt hy;exact ⟨l,h1,rfl⟩) h
theorem Zu0 {xs:List AVal} (h:TyR R (.slice false (.int .i64)) xs):∃ l:List Int,(l.length<=R/\∀ n ∈ l,okI n)/\xs=[.lst false (l.map (AVal.int .i64))] :=
 Zh0 (fun y hy=>by obtain ⟨n,h1,rfl⟩:=ZdB hy;exact ⟨n,h1,rfl⟩) h
def Zjt:Ty:=.struct [.int .i64,.int .i64,.str,.str,.slice false (.int .u8)]
def ZnW (R:Nat) (p:ZB):Prop:=okI p.id/\okI p.num/\p.text.length<=R/\p.pair.length<=R/\p.data.length<=R
theorem ZIA {y:List AVal} (h:TyR R Zjt y):∃ p,ZnW R p/\Zb9 true y=Zu p:=by
 unfold Zjt at h
 rw [TyR] at h
 simp only [Zfp] at h
 obtain ⟨_,_,rfl,h1,_,_,rfl,h2,_,_,rfl,h3,_,_,rfl,h4,_,_,rfl,h5,rfl⟩:=h
 obtain ⟨i,i1,rfl⟩:=ZdB h1
 obtain ⟨n,n1,rfl⟩:=ZdB h2
 obtain ⟨t,t1,rfl⟩:=Zgt h3
 obtain ⟨q,q1,rfl⟩:=Zgt h4
 obtain ⟨d,d1,rfl⟩:=Zmm h5
 exact ⟨⟨i,n,t,q,d⟩,⟨i1,n1,t1,q1,d1⟩,rfl⟩
def Zrm (R:Nat) (l:List ZB):Prop:=l.length<=R/\∀ p ∈ l,ZnW R p
theorem Zwy {xs:List AVal} (h:TyR R (.slice true Zjt) xs):∃ l:List ZB,Zrm R l/\xs=[Zbk l]:=Zh0 (fun _=>ZIA) h
def Zpj:Ty:=.struct [.str,.int .i64,.bool,.bool,.int .i64,.int .i64]
theorem ZG7 {y:List AVal} (h:TyR R Zpj y):∃ p:ZbC,(p.filter.length<=R/\okI p.qos/\okI p.handling/\okI p.id)/\Zb9 true y=Z6 p:=by
 unfold Zpj at h
 rw [TyR] at h
 simp only [Zfp] at h
 obtain ⟨_,_,rfl,h1,_,_,rfl,h2,_,_,rfl,h3,_,_,rfl,h4,_,_,rfl,h5,_,_,rfl,h6,rfl⟩:=h
 obtain ⟨f,f1,rfl⟩:=Zgt h1
 obtain ⟨q,q1,rfl⟩:=ZdB h2
 obtain ⟨n,rfl⟩:=ZeY h3
 obtain ⟨a,rfl⟩:=ZeY h4
 obtain ⟨k,k1,rfl⟩:=ZdB h5
 obtain ⟨i,i1,rfl⟩:=ZdB h6
 exact ⟨⟨f,q,n,a,k,i⟩,⟨f1,q1,k1,i1⟩,rfl⟩
def ZvP:Ty:=.struct [.str,.slice false (.int .u8),.int .i64,.bool,.slice true Zjt]
def Zjj:Ty:=.struct [.int .i64,.bool,.int .i64,.bool,.int .i64,.str,.slice false (.int .u8),.int .i64,.slice false (.int .i64),.slice true Zjt,.slice true Zpj,.slice false .str,.bool,.int .i64,.str,.bool,ZvP,.bool,.str,.bool,.slice false (.int .u8),.bool]
structure ZlJ (R:Nat) (p:Zn):Prop where
 topic:p.topic.length<=R
 payload:p.payload.length<=R
 codes:p.codes.length<=R/\∀ n ∈ p.codes,okI n
 props:Zrm R p.props
 subs:p.subs.length<=R/\∀ s ∈ p.subs,s.filter.length<=R/\okI s.qos/\okI s.handling/\okI s.id
 filters:p.filters.length<=R/\∀ f ∈ p.filters,f.length<=R
 client:p.client.length<=R
 wtopic:p.will.topic.length<=R
 wdata:p.will.data.length<=R
 wprops:Zrm R p.will.props
 user:p.user.length<=R
 password:p.password.length<=R
 ints:okI p.type/\okI p.qos/\okI p.id/\okI p.code/\okI p.keep/\okI p.will.qos
theorem ZC1 {x:AVal} (h:Zkd R true Zjj x):∃ p,ZlJ R p/\x=Zs p:=by
 obtain ⟨y,h,rfl⟩:=h
 unfold Zjj at h
 rw [TyR] at h
 simp only [Zfp] at h
 obtain ⟨_,_,rfl,h1,_,_,rfl,h2,_,_,rfl,h3,_,_,rfl,h4,_,_,rfl,h5,_,_,rfl,h6,_,_,rfl,h7,_,_,rfl,h8,_,_,rfl,h9,_,_,rfl,h10,_,_,rfl,h11,_,_,rfl,h12,_,_,rfl,h13,_,_,rfl,h14,_,_,rfl,h15,_,_,rfl,h16,_,_,rfl,h17,_,_,rfl,h18,_,_,rfl,h19,_,_,rfl,h20,_,_,rfl,h21,_,_,rfl,h22,rfl⟩:=h
 unfold ZvP at h17
 rw [TyR] at h17
 simp only [Zfp] at h17
 obtain ⟨_,_,rfl,w1,_,_,rfl,w2,_,_,rfl,w3,_,_,rfl,w4,_,_,rfl,w5,rfl⟩:=h17
 obtain ⟨a1,b1,rfl⟩:=ZdB h1
 obtain ⟨a2,rfl⟩:=ZeY h2
 obtain ⟨a3,b3,rfl⟩:=ZdB h3
 obtain ⟨a4,rfl⟩:=ZeY h4
 obtain ⟨a5,b5,rfl⟩:=ZdB h5
 obtain ⟨a6,b6,rfl⟩:=Zgt h6
 obtain ⟨a7,b7,rfl⟩:=Zmm h7
 obtain ⟨a8,b8,rfl⟩:=ZdB h8
 obtain ⟨a9,b9,rfl⟩:=Zu0 h9
 obtain ⟨a10,b10,rfl⟩:=Zwy h10
 obtain ⟨a11,b11,rfl⟩:=Zh0 (fun _=>ZG7) h11
 obtain ⟨a12,b12,rfl⟩:=ZCk h12
 obtain ⟨a13,rfl⟩:=ZeY h13
 obtain ⟨a14,b14,rfl⟩:=ZdB h14
 obtain ⟨a15,b15,rfl⟩:=Zgt h15
 obtain ⟨a16,rfl⟩:=ZeY h16
 obtain ⟨v1,u1,rfl⟩:=Zgt w1
 obtain ⟨v2,u2,rfl⟩:=Zmm w2
 obtain ⟨v3,u3,rfl⟩:=ZdB w3
 obtain ⟨v4,rfl⟩:=ZeY w4
 obtain ⟨v5,u5,rfl⟩:=Zwy w5
 obtain ⟨a18,rfl⟩:=ZeY h18
 obtain ⟨a19,b19,rfl⟩:=Zgt h19
 obtain ⟨a20,rfl⟩:=ZeY h20
 obtain ⟨a21,b21,rfl⟩:=Zmm h21
 obtain ⟨a22,rfl⟩:=ZeY h22
 exact ⟨⟨a1,a2,a3,a4,a5,a6,a7,a8,a9,a10,a11,a12,a13,a14,a15,a16,⟨v1,v2,v3,v4,v5⟩,a18,a19,a20,a21,a22⟩,⟨b6,b7,b9,b10,b11,b12,b15,u1,u2,u5,b19,b21,b1,b3,b5,b8,b14,u3⟩,rfl⟩
theorem ZEp {x:AVal} (h:Zkd R false (.int .i64) x):∃ n:Int,okI n/\x=.int .i64 n:=by
 obtain ⟨y,h,rfl⟩:=h
 obtain ⟨l,h1,rfl⟩:=ZdB h
 exact ⟨l,h1,rfl⟩
end
section
theorem Zrx {α:Type} (l:List α):((8:Int) < l.length/\(8:Int)<=l.length)\/(¬(8:Int) < l.length/\l.take 8=l):=by
 by_cases h:(8:Int) < l.length
 ·exact Xr ⟨h,by omega⟩
 ·exact Xv ⟨h,XK (by omega)⟩
theorem Zvy {α:Type} (l:List α):((12:Int) < l.length/\(12:Int)<=l.length)\/(¬(12:Int) < l.length/\l.take 12=l):=by
 by_cases h:(12:Int) < l.length
 ·exact Xr ⟨h,by omega⟩
 ·exact Xv ⟨h,XK (by omega)⟩
def Ze (p:Zn):Zn:={ p with subs:=p.subs.take 8,filters:=p.filters.take 8,codes:=p.codes.take 8,props:=p.props.take 12,payload:=p.payload.take 600,password:=p.password.take 100,will:={ p.will with props:=p.will.props.take 12,data:=p.will.data.take 100 } }
theorem ZyU (p:Zn):E 4 [.agg [.int .i64 p.type,.bool p.dup,.int .i64 p.qos,.bool p.retain,.int .i64 p.id,.str p.topic,.lst false (p.payload.map Zb),.int .i64 p.code,.lst false (p.codes.map (AVal.int .i64)),.lst false (p.props.map Zu),.lst false (p.subs.map Z6),.lst false (p.filters.map AVal.str),.bool p.clean,.int .i64 p.keep,.str p.client,.bool p.hasWill,.str p.will.topic,.lst false (p.will.data.map Zb),.int .i64 p.will.qos,.bool p.will.retain,.lst false (p.will.props.map Zu),.bool p.hasUser,.str p.user,.bool p.hasPassword,.lst false (p.password.map Zb),.bool p.present]] []=some (.agg [.int .i64 (Ze p).type,.bool (Ze p).dup,.int .i64 (Ze p).qos,.bool (Ze p).retain,.int .i64 (Ze p).id,.str (Ze p).topic,.lst false ((Ze p).payload.map Zb),.int .i64 (Ze p).code,.lst false ((Ze p).codes.map (AVal.int .i64)),.lst false ((Ze p).props.map Zu),.lst false ((Ze p).subs.map Z6),.lst false ((Ze p).filters.map AVal.str),.bool (Ze p).clean,.int .i64 (Ze p).keep,.str (Ze p).client,.bool (Ze p).hasWill,.str (Ze p).will.topic,.lst false ((Ze p).will.data.map Zb),.int .i64 (Ze p).will.qos,.bool (Ze p).will.retain,.lst false ((Ze p).will.props.map Zu),.bool (Ze p).hasUser,.str (Ze p).user,.bool (Ze p).hasPassword,.lst false ((Ze p).password.map Zb),.bool (Ze p).present],[]):=by
 rw [Zj (by rfl) ZAc]
 have k6:(600:Int).toNat=600:=rfl
 have k1:(100:Int).toNat=100:=rfl
 unfold Ze
 rcases Zrx p.subs with ⟨h1,h2⟩ | ⟨h1,h2⟩ <;> rcases Zrx p.filters with ⟨h3,h4⟩ | ⟨h3,h4⟩ <;> rcases Zrx p.codes with ⟨h5,h6⟩ | ⟨h5,h6⟩ <;> rcases Zvy p.props with ⟨h7,h8⟩ | ⟨h7,h8⟩ <;> rcases Zvy p.will.props with ⟨h9,h10⟩ | ⟨h9,h10⟩
 all_goals simp -implicitDefEqProofs only [EQA,ZH,Zx,Xe,Xc,Xf,Xa,Xg,↓reduceIte,Zd,ZGb,ZpC,ZBP,gt_iff_lt,ZQw,ZhV,h1,h2,h3,h4,h5,h6,h7,h8,h9,h10,k6,k1,Int.reduceToNat,Int.reduceLE]
theorem Zec (p:Zn) (σ:Za) (sq own:Nat):Zk E1 BY σ sq 4 own true [.agg (Zh p)]=some (.agg (Zh (Ze p)),σ,{}) :=
 ZaD (ZbI (ZyU p) (by kernel_rfl) (by rw [XD,Zb6];rfl) (by rw [Xo,Zb8];rfl) rfl (fun _=>rfl) σ sq own)
theorem ZQW {p:Zn} {R:Nat} (h:ZlJ R p) (hR:R<=9223372036854775807):OkW (Ze p):=by
 have t:∀ {q:ZB},ZnW R q->ZeT q:=fun {q} k=>⟨Wy k.2.2.1 hR,Wy k.2.2.2.1 hR,Wy k.2.2.2.2 hR⟩
 refine ⟨Wy h.topic hR,?_,?_,⟨?_,fun q hq=>t (h.props.2 q (Wk hq))⟩,⟨?_,fun s hs=>Wy (h.subs.2 s (Wk hs)).1 hR⟩,⟨?_,fun f hf=>Wy (h.filters.2 f (Wk hf)) hR⟩,Wy h.client hR,Wy h.wtopic hR,?_,⟨?_,fun q hq=>t (h.wprops.2 q (Wk hq))⟩,Wy h.user hR,?_⟩
 all_goals simp only [Ze,Wj]
 all_goals omega
theorem Zev (p:Zn):(Ze p).payload.length<=1000000:=by simp only [Ze,Wj];omega
theorem ZKv {p:Zn} (h:OkW p):OkL p:=⟨by have:=h.codes;omega,by have:=h.props.1;omega,by have:=h.subs.1;omega,by have:=h.filters.1;omega,by have:=h.wprops.1;omega⟩
end
section
end
section
end
section
theorem ZLf (n:Int) (m:Nat) (hm:m<=4611686018427387904):∃ k:Nat,k<=m/\E 7 [.int .i64 n,.int .i64 0,.int .i64 (m:Nat)] []=some (.int .i64 (k:Nat),[]):=by
 rw [Zj (by rfl) ZIh]
 have w1:IntKind.i64.wrap ((m:Nat) - 0)=((m:Nat):Int):=by rw [Int.sub_zero];exact ZaV (by omega) (by omega)
 have w2:IntKind.i64.wrap (((m:Nat):Int)+1)=((m+1:Nat):Int):=by rw [show ((m:Nat):Int)+1=((m+1:Nat):Int) from by omega];exact ZaV (by omega) (by omega)
 have w3:(((m+1:Nat):Int)=0)=False:=by simp;omega
 have hb:n.tmod ((m+1:Nat):Int) < ((m+1:Nat):Int):=Int.tmod_lt_of_pos _ (by omega)
 have hl:-((m+1:Nat):Int) < n.tmod ((m+1:Nat):Int):=by
  have h1:=Int.tmod_lt_of_pos (-n) (b:=((m+1:Nat):Int)) (by omega)
  rw [Int.neg_tmod] at h1
  omega
 by_cases h:n.tmod ((m+1:Nat):Int) < 0
 ·have w4:IntKind.i64.wrap (n.tmod ((m+1:Nat):Int)+((m+1:Nat):Int))=(((n.tmod ((m+1:Nat):Int)+((m+1:Nat):Int)).toNat:Nat):Int):=by
   rw [Zcv _ (by omega) (by omega)];omega
  have w5:IntKind.i64.wrap (0+(((n.tmod ((m+1:Nat):Int)+((m+1:Nat):Int)).toNat:Nat):Int))=(((n.tmod ((m+1:Nat):Int)+((m+1:Nat):Int)).toNat:Nat):Int):=by
   rw [Int.zero_add];exact ZaV (by omega) (by omega)
  refine ⟨(n.tmod ((m+1:Nat):Int)+((m+1:Nat):Int)).toNat,by omega,?_⟩
  simp -implicitDefEqProofs only [EQA,ZaI,Xe,Xc,Xa,reduceCtorEq,↓reduceIte,ZtZ,ZmK,ZsU,w1,w2,w3,h,w4,w5]
 ·have w5:IntKind.i64.wrap (0+n.tmod ((m+1:Nat):Int))=(((n.tmod ((m+1:Nat):Int)).toNat:Nat):Int):=by
   rw [Int.zero_add,Zcv _ (by omega) (by omega)];omega
  refine ⟨(n.tmod ((m+1:Nat):Int)).toNat,by omega,?_⟩
  simp -implicitDefEqProofs only [EQA,ZaI,Xe,Xc,Xa,reduceCtorEq,↓reduceIte,ZtZ,ZmK,ZsU,w1,w2,w3,h,w5]
theorem ZhE (n:Int) (m:Nat) (hm:m<=4611686018427387904):∃ k:Nat,k<=m/\∀ (σ:Za) (sq own:Nat),Zk E1 BY σ sq 7 own true [.int .i64 n,.int .i64 0,.int .i64 (m:Nat)]=some (.int .i64 (k:Nat),σ,{}):=by
 obtain ⟨k,hk,he⟩:=ZLf n m hm
 exact ⟨k,hk,fun σ sq own=>ZaD (ZcU he (by kernel_rfl) rfl rfl rfl (fun _=>rfl) σ sq own true)⟩
end
section
def ZcD:=xw1 ZbB Zck rfl
section
variable {fz:Bool} {p g r:Nat} {h:Zc} {Y:List AVal} (hY:Y.drop p=h.map Zb) (hp:p<=Y.length)
include hY hp
theorem Zmo {σ:Za} (hs:σ[r]?=some (Zab fz g Y)) {k:Nat} (hk:k<=h.length):Zbj σ 1 (.sl r g p h.length) none (some (.int .i64 (k:Int))) none=some (.sl r g p k,σ,{ rd:=[r] }):=by
 have hl:=Zgc hY hp
 have he:=Zgq hY hp hs (a:=0) (b:=h.length) (by omega)
 rw [XT] at he
 have h0:(0:Int)<=(k:Int):=by omega
 have h3:(k:Int)<=((Y.length - p:Nat):Int):=by omega
 unfold Zbj
 simp only [he,hs]
 cases fz <;> simp only [Zab,if_true,if_false,Xi,Zbg,Zc7,h0,h3,and_self,Int.toNat_natCast,XT,Nat.sub_zero]
theorem Zgl {σ:Za} (hs:σ[r]?=some (Zab fz g Y)) {k:Nat} (hk:k<=h.length):viewAs σ [.sl r g p k]=some ([.lst false ((h.take k).map Zb)],[r]):=by
 have he:=Zgq hY hp hs (a:=0) (b:=k) (by omega)
 rw [XT,List.drop_zero] at he
 simp only [viewAs,ZU,ZP,he,Xm]
end
theorem ZCy (most:Int) (wh:Bool) (sz:List Int) (i:Nat) (z:Int) (hz:sz[i]?=some z) (hi:(i:Int) < 60) (p:Nat) (h:Zc) (Y:List AVal) (hY:Y.drop p=h.map Zb) (hp:p<=Y.length) (k:Nat) (hk:k<=h.length)
  (hW:∀ (σ:Za) (sq own:Nat),Zk E1 BY σ sq 7 own true [.int .i64 z,.int .i64 0,.int .i64 (h.length:Int)]=some (.int .i64 (k:Int),σ,{})) :
  evL FC PR1 BY 0 [15,14,9,8,7,2,1] ZbB [(15,.int .i64 ((i:Int))),(14,.lst true []),(9,.bool wh),(8,.lst true []),(7,.sl 0 0 p h.length),(2,.int .i64 most),(1,.lst false (sz.map (AVal.int .i64 ·)))] [.row 0 1 Y]=evL FC PR1 BY 0 [15,14,9,8,7,2,1] ZbB [(15,.int .i64 (((i+1:Nat):Int))),(14,.sl 0 0 0 1),(9,.bool wh),(8,.lst true []),(7,.sl 1 0 (p+k) (h.length - k)),(2,.int .i64 most),(1,.lst false (sz.map (AVal.int .i64 ·)))] [.row 0 1 ([.lst false ((h.take k).map Zb)]),.frow 0 1 Y]:=by
 have hlt:i < sz.length:=(Xj.1 hz).1
 have h0:(i:Int) < (sz.length:Int):=by omega
 have hw:IntKind.i64.wrap ((i:Int)+1)=((i+1:Nat):Int):=by rw [ZaV (by omega) (by omega)];rfl
 have ha:=fun σ kk=>iad hz (AVal.int .i64 ·) (k:=1) rfl σ false kk
 have hL:(sz.map (AVal.int .i64 ·)).length=sz.length:=by simp
 have hS1:=fun {σ:Za} hs=>Zmo (fz:=false) (g:=0) (r:=0) hY hp (σ:=σ) hs (k:=k) hk
 have hE:=fun {σ:Za} hs=>Zgl (fz:=false) (g:=0) (r:=0) hY hp (σ:=σ) hs (k:=k) hk
 have hS2:=fun {σ:Za} hs=>Zfh (fz:=true) (g:=0) (r:=0) hY hp (σ:=σ) hs (a:=k) hk
 simp only [Zab,Xi,if_false,if_true] at hS1 hE hS2
 have b1:1*24<=140737488355328:=by decide
 generalize sz.map (AVal.int .i64 ·)=S at *
 generalize (h.take k).map Zb=hk1 at *
 rw [ZL]
 simp -implicitDefEqProofs only [EQA,ZN,ZaI,Xe,Xc,Xa,Xg,ZA,unG,reduceCtorEq,ZM,↓reduceIte,gcT,gcA,Zy,Zt,Zi,Zq,ZO,Zl,ZF,Zz,ZC,Zck,ZcD,h0,hi,hw,ha,hL,hS1,hE,hS2,hW,b1,Zp,AVal.cells,Z3,kOk,WI]
theorem ZEU (most:Int) (wh:Bool) (sz:List Int) (i:Nat) (z:Int) (hz:sz[i]?=some z) (hi:(i:Int) < 60) (p:Nat) (h:Zc) (Y:List AVal) (hY:Y.drop p=h.map Zb) (hp:p<=Y.length) (k:Nat) (hk:k<=h.length)
  (hW:∀ (σ:Za) (sq own:Nat),Zk E1 BY σ sq 7 own true [.int .i64 z,.int .i64 0,.int .i64 (h.length:Int)]=some (.int .i64 (k:Int),σ,{})) (CH:List AVal) (nc:Nat) (hCH:CH.length=nc) (hnc:(nc+1)*24<=140737488355328) :
  evL FC PR1 BY 0 [15,14,9,8,7,2,1] ZbB [(15,.int .i64 ((i:Int))),(14,.sl 0 0 0 nc),(9,.bool wh),(8,.lst true []),(7,.sl 1 0 p h.length),(2,.int .i64 most),(1,.lst false (sz.map (AVal.int .i64 ·)))] [.row 0 1 CH,.frow 0 1 Y]=evL FC PR1 BY 0 [15,14,9,8,7,2,1] ZbB [(15,.int .i64 (((i+1:Nat):Int))),(14,.sl 0 0 0 (nc+1)),(9,.bool wh),(8,.lst true []),(7,.sl 1 0 (p+k) (h.length - k)),(2,.int .i64 most),(1,.lst false (sz.map (AVal.int .i64 ·)))] [.row 0 1 (CH++[.lst false ((h.take k).map Zb)]),.frow 0 1 Y]:=by
 have hlt:i < sz.length:=(Xj.1 hz).1
 have h0:(i:Int) < (sz.length:Int):=by omega
 have hw:IntKind.i64.wrap ((i:Int)+1)=((i+1:Nat):Int):=by rw [ZaV (by omega) (by omega)];rfl
 have ha:=fun σ kk=>iad hz (AVal.int .i64 ·) (k:=1) rfl σ false kk
 have hL:(sz.map (AVal.int .i64 ·)).length=sz.length:=by simp
 have hS1:=fun {σ:Za} hs=>Zmo (fz:=true) (g:=0) (r:=1) hY hp (σ:=σ) hs (k:=k) hk
 have hE:=fun {σ:Za} hs=>Zgl (fz:=true) (g:=0) (r:=1) hY hp (σ:=σ) hs (k:=k) hk
 have hS2:=fun {σ:Za} hs=>Zfh (fz:=true) (g:=0) (r:=1) hY hp (σ:=σ) hs (a:=k) hk
 simp only [Zab,if_true] at hS1 hE hS2
 have b1:1*24<=140737488355328:=by decide
 generalize sz.map (AVal.int .i64 ·)=S at *
 generalize (h.take k).map Zb=hk1 at *
 rw [ZL]
 simp -implicitDefEqProofs only [EQA,ZN,ZaI,Xe,Xc,Xa,Xg,ZA,unG,reduceCtorEq,ZM,↓reduceIte,gcT,gcA,Zy,Zt,Zi,Zq,ZO,Zl,ZF,Zz,ZC,Zck,ZcD,h0,hi,hw,ha,hL,hS1,hE,hS2,hW,hCH,hnc,Zp,AVal.cells,Z3,kOk]
theorem Zya (most:Int) (wh:Bool) (sz:List Int) (i:Nat) (z:Int) (hz:sz[i]?=some z) (hi:(i:Int) < 60) (p:Nat) (h:Zc) (Y:List AVal) (hY:Y.drop p=h.map Zb) (hp:p<=Y.length) (k:Nat) (hk:k<=h.length)
  (hW:∀ (σ:Za) (sq own:Nat),Zk E1 BY σ sq 7 own true [.int .i64 z,.int .i64 0,.int .i64 (h.length:Int)]=some (.int .i64 (k:Int),σ,{})) (W:List AVal) (kw:Nat) :
  evL FC PR1 BY 0 [15,14,9,8,7,2,1] ZbB [(15,.int .i64 ((i:Int))),(14,.lst true []),(9,.bool wh),(8,.sl 0 0 0 kw),(7,.sl 1 0 p h.length),(2,.int .i64 most),(1,.lst false (sz.map (AVal.int .i64 ·)))] [.row 0 26 W,.row 0 1 Y]=evL FC PR1 BY 0 [15,14,9,8,7,2,1] ZbB [(15,.int .i64 (((i+1:Nat):Int))),(14,.sl 0 0 0 1),(9,.bool wh),(8,.sl 1 0 0 kw),(7,.sl 2 0 (p+k) (h.length - k)),(2,.int .i64 most),(1,.lst false (sz.map (AVal.int .i64 ·)))] [.row 0 1 ([.lst false ((h.take k).map Zb)]),.row 0 26 W,.frow 0 1 Y]:=by
 have hlt:i < sz.length:=(Xj.1 hz).1
 have h0:(i:Int) < (sz.length:Int):=by omega
 have hw:IntKind.i64.wrap ((i:Int)+1)=((i+1:Nat):Int):=by rw [ZaV (by omega) (by omega)];rfl
 have ha:=fun σ kk=>iad hz (AVal.int .i64 ·) (k:=1) rfl σ false kk
 have hL:(sz.map (AVal.int .i64 ·)).length=sz.length:=by simp
 have hS1:=fun {σ:Za} hs=>Zmo (fz:=false) (g:=0) (r:=1) hY hp (σ:=σ) hs (k:=k) hk
 have hE:=fun {σ:Za} hs=>Zgl (fz:=false) (g:=0) (r:=1) hY hp (σ:=σ) hs (k:=k) hk
 have hS2:=fun {σ:Za} hs=>Zfh (fz:=true) (g:=0) (r:=1) hY hp (σ:=σ) hs (a:=k) hk
 simp only [Zab,Xi,if_false,if_true] at hS1 hE hS2
 have b1:1*24<=140737488355328:=by decide
 generalize sz.map (AVal.int .i64 ·)=S at *
 generalize (h.take k).map Zb=hk1 at *
 rw [ZL]
 simp -implicitDefEqProofs only [EQA,ZN,ZaI,Xe,Xc,Xa,Xg,ZA,unG,reduceCtorEq,ZM,↓reduceIte,gcT,gcA,Zy,Zt,Zi,Zq,ZO,Zl,ZF,Zz,ZC,Zck,ZcD,h0,hi,hw,ha,hL,hS1,hE,hS2,hW,b1,Zp,AVal.cells,Z3,kOk,WI]
theorem ZJ6 (most:Int) (wh:Bool) (sz:List Int) (i:Nat) (z:Int) (hz:sz[i]?=some z) (hi:(i:Int) < 60) (p:Nat) (h:Zc) (Y:List AVal) (hY:Y.drop p=h.map Zb) (hp:p<=Y.length) (k:Nat) (hk:k<=h.length)
  (hW:∀ (σ:Za) (sq own:Nat),Zk E1 BY σ sq 7 own true [.int .i64 z,.int .i64 0,.int .i64 (h.length:Int)]=some (.int .i64 (k:Int),σ,{})) (W:List AVal) (kw:Nat) (CH:List AVal) (nc:Nat) (hCH:CH.length=nc) (hnc:(nc+1)*24<=140737488355328) :
  evL FC PR1 BY 0 [15,14,9,8,7,2,1] ZbB [(15,.int .i64 ((i:Int))),(14,.sl 0 0 0 nc),(9,.bool wh),(8,.sl 1 0 0 kw),(7,.sl 2 0 p h.length),(2,.int .i64 most),(1,.lst false (sz.map (AVal.int .i64 ·)))] [.row 0 1 CH,.row 0 26 W,.frow 0 1 Y]=evL FC PR1 BY 0 [15,14,9,8,7,2,1] ZbB [(15,.int .i64 (((i+1:Nat):Int))),(14,.sl 0 0 0 (nc+1)),(9,.bool wh),(8,.sl 1 0 0 kw),(7,.sl 2 0 (p+k) (h.length - k)),(2,.int .i64 most),(1,.lst false (sz.map (AVal.int .i64 ·)))] [.row 0 1 (CH++[.lst false ((h.take k).map Zb)]),.row 0 26 W,.frow 0 1 Y]:=by
 have hlt:i < sz.length:=(Xj.1 hz).1
 have h0:(i:Int) < (sz.length:Int):=by omega
 have hw:IntKind.i64.wrap ((i:Int)+1)=((i+1:Nat):Int):=by rw [ZaV (by omega) (by omega)];rfl
 have ha:=fun σ kk=>iad hz (AVal.int .i64 ·) (k:=1) rfl σ false kk
 have hL:(sz.map (AVal.int .i64 ·)).length=sz.length:=by simp
 have hS1:=fun {σ:Za} hs=>Zmo (fz:=true) (g:=0) (r:=2) hY hp (σ:=σ) hs (k:=k) hk
 have hE:=fun {σ:Za} hs=>Zgl (fz:=true) (g:=0) (r:=2) hY hp (σ:=σ) hs (k:=k) hk
 have hS2:=fun {σ:Za} hs=>Zfh (fz:=true) (g:=0) (r:=2) hY hp (σ:=σ) hs (a:=k) hk
 simp only [Zab,if_true] at hS1 hE hS2
 have b1:1*24<=140737488355328:=by decide
 generalize sz.map (AVal.int .i64 ·)=S at *
 generalize (h.take k).map Zb=hk1 at *
 rw [ZL]
 simp -implicitDefEqProofs only [EQA,ZN,ZaI,Xe,Xc,Xa,Xg,ZA,unG,reduceCtorEq,ZM,↓reduceIte,gcT,gcA,Zy,Zt,Zi,Zq,ZO,Zl,ZF,Zz,ZC,Zck,ZcD,h0,hi,hw,ha,hL,hS1,hE,hS2,hW,hCH,hnc,Zp,AVal.cells,Z3,kOk]
theorem ZQk (most:Int) (wh:Bool) (sz:List Int) (i:Nat) (z:Int) (hz:sz[i]?=some z) (hi:(i:Int) < 60)
  (hW:∀ (σ:Za) (sq own:Nat),Zk E1 BY σ sq 7 own true [.int .i64 z,.int .i64 0,.int .i64 ((0:Nat):Int)]=some (.int .i64 0,σ,{})) :
  evL FC PR1 BY 0 [15,14,9,8,7,2,1] ZbB [(15,.int .i64 ((i:Int))),(14,.lst true []),(9,.bool wh),(8,.lst true []),(7,.lst true []),(2,.int .i64 most),(1,.lst false (sz.map (AVal.int .i64 ·)))] []=evL FC PR1 BY 0 [15,14,9,8,7,2,1] ZbB [(15,.int .i64 (((i+1:Nat):Int))),(14,.sl 0 0 0 1),(9,.bool wh),(8,.lst true []),(7,.lst true []),(2,.int .i64 most),(1,.lst false (sz.map (AVal.int .i64 ·)))] [.row 0 1 ([.lst false []])]:=by
 have hlt:i < sz.length:=(Xj.1 hz).1
 have h0:(i:Int) < (sz.length:Int):=by omega
 have hw:IntKind.i64.wrap ((i:Int)+1)=((i+1:Nat):Int):=by rw [ZaV (by omega) (by omega)];rfl
 have ha:=fun σ kk=>iad hz (AVal.int .i64 ·) (k:=1) rfl σ false kk
 have hL:(sz.map (AVal.int .i64 ·)).length=sz.length:=by simp
 have hS1:∀ σ:Za,Zbj σ 1 (.lst true []) none (some (.int .i64 0)) none=some (.lst true [],σ,{}):=fun _=>rfl
 have hS2:∀ σ:Za,Zbj σ 1 (.lst true []) (some (.int .i64 0)) none none=some (.lst true [],σ,{}):=fun _=>rfl
 have hE:∀ σ:Za,viewAs σ [.lst true []]=some ([.lst false []],[]):=fun _=>rfl
 have b1:1*24<=140737488355328:=by decide
 generalize sz.map (AVal.int .i64 ·)=S at *
 rw [ZL]
 simp -implicitDefEqProofs only [EQA,ZN,ZaI,Xc,Xa,Xg,ZA,unG,ZM,↓reduceIte,gcT,gcA,Zy,Zt,Zi,Zq,ZO,Zl,ZF,Zz,ZC,Zck,ZcD,h0,hi,hw,ha,hL,hS1,hE,hS2,hW,b1,Zp,AVal.cells,Z3,kOk,WI]
theorem ZEw (most:Int) (wh:Bool) (sz:List Int) (i:Nat) (z:Int) (hz:sz[i]?=some z) (hi:(i:Int) < 60)
  (hW:∀ (σ:Za) (sq own:Nat),Zk E1 BY σ sq 7 own true [.int .i64 z,.int .i64 0,.int .i64 ((0:Nat):Int)]=some (.int .i64 0,σ,{})) (CH:List AVal) (nc:Nat) (hCH:CH.length=nc) (hnc:(nc+1)*24<=140737488355328) :
  evL FC PR1 BY 0 [15,14,9,8,7,2,1] ZbB [(15,.int .i64 ((i:Int))),(14,.sl 0 0 0 nc),(9,.bool wh),(8,.lst true []),(7,.lst true []),(2,.int .i64 most),(1,.lst false (sz.map (AVal.int .i64 ·)))] [.row 0 1 CH]=evL FC PR1 BY 0 [15,14,9,8,7,2,1] ZbB [(15,.int .i64 (((i+1:Nat):Int))),(14,.sl 0 0 0 (nc+1)),(9,.bool wh),(8,.lst true []),(7,.lst true []),(2,.int .i64 most),(1,.lst false (sz.map (AVal.int .i64 ·)))] [.row 0 1 (CH++[.lst false []])]:=by
 have hlt:i < sz.length:=(Xj.1 hz).1
 have h0:(i:Int) < (sz.length:Int):=by omega
 have hw:IntKind.i64.wrap ((i:Int)+1)=((i+1:Nat):Int):=by rw [ZaV (by omega) (by omega)];rfl
 have ha:=fun σ kk=>iad hz (AVal.int .i64 ·) (k:=1) rfl σ false kk
 have hL:(sz.map (AVal.int .i64 ·)).length=sz.length:=by simp
 have hS1:∀ σ:Za,Zbj σ 1 (.lst true []) none (some (.int .i64 0)) none=some (.lst true [],σ,{}):=fun _=>rfl
 have hS2:∀ σ:Za,Zbj σ 1 (.lst true []) (some (.int .i64 0)) none none=some (.lst true [],σ,{}):=fun _=>rfl
 have hE:∀ σ:Za,viewAs σ [.lst true []]=some ([.lst false []],[]):=fun _=>rfl
 have b1:1*24<=140737488355328:=by decide
 generalize sz.map (AVal.int .i64 ·)=S at *
 rw [ZL]
 simp -implicitDefEqProofs only [EQA,ZN,ZaI,Xe,Xc,Xa,Xg,ZA,unG,reduceCtorEq,ZM,↓reduceIte,gcT,gcA,Zy,Zt,Zi,Zq,ZO,Zl,ZF,Zz,ZC,Zck,ZcD,h0,hi,hw,ha,hL,hS1,hE,hS2,hW,hCH,hnc,Zp,AVal.cells,Z3,kOk]
theorem Zye (most:Int) (wh:Bool) (sz:List Int) (i:Nat) (hi:¬(i:Int) < (sz.length:Int)\/¬(i:Int) < 60) (p n:Nat) (Y:List AVal) :
  evL FC PR1 BY 0 [15,14,9,8,7,2,1] ZbB [(15,.int .i64 ((i:Int))),(14,.lst true []),(9,.bool wh),(8,.lst true []),(7,.sl 0 0 p n),(2,.int .i64 most),(1,.lst false (sz.map (AVal.int .i64 ·)))] [.row 0 1 Y]=some (.exit 2,(67,.bool false)::[(15,.int .i64 ((i:Int))),(14,.lst true []),(9,.bool wh),(8,.lst true []),(7,.sl 0 0 p n),(2,.int .i64 most),(1,.lst false (sz.map (AVal.int .i64 ·)))],[.row 0 1 Y]):=by
 have hL:(sz.map (AVal.int .i64 ·)).length=sz.length:=by simp
 generalize sz.map (AVal.int .i64 ·)=S at *
 rw [ZL]
 by_cases h0:(i:Int) < (sz.length:Int)
 ·have h6:¬(i:Int) < 60:=by rcases hi with h | h;exact absurd h0 h;exact h
  simp -implicitDefEqProofs only [EQA,Xc,Xa,ZA,unG,↓reduceIte,Zck,ZcD,h0,h6,hL]
 ·simp -implicitDefEqProofs only [EQA,Xc,Xa,ZA,Zal,↓reduceIte,Zck,ZcD,h0,hL]
theorem Zuz (most:Int) (wh:Bool) (sz:List Int) (i:Nat) (hi:¬(i:Int) < (sz.length:Int)\/¬(i:Int) < 60) (CH:List AVal) (nc:Nat) (p n:Nat) (Y:List AVal) :
  evL FC PR1 BY 0 [15,14,9,8,7,2,1] ZbB [(15,.int .i64 ((i:Int))),(14,.sl 0 0 0 nc),(9,.bool wh),(8,.lst true []),(7,.sl 1 0 p n),(2,.int .i64 most),(1,.lst false (sz.map (AVal.int .i64 ·)))] [.row 0 1 CH,.frow 0 1 Y]=some (.exit 2,(67,.bool false)::[(15,.int .i64 ((i:Int))),(14,.sl 0 0 0 nc),(9,.bool wh),(8,.lst true []),(7,.sl 1 0 p n),(2,.int .i64 most),(1,.lst false (sz.map (AVal.int .i64 ·)))],[.row 0 1 CH,.frow 0 1 Y]):=by
 have hL:(sz.map (AVal.int .i64 ·)).length=sz.length:=by simp
 generalize sz.map (AVal.int .i64 ·)=S at *
 rw [ZL]
 by_cases h0:(i:Int) < (sz.length:Int)
 ·have h6:¬(i:Int) < 60:=by rcases hi with h | h;exact absurd h0 h;exact h
  simp -implicitDefEqProofs only [EQA,Xe,Xc,Xa,ZA,unG,↓reduceIte,Zck,ZcD,h0,h6,hL]
 ·simp -implicitDefEqProofs only [EQA,Xe,Xc,Xa,ZA,Zal,↓reduceIte,Zck,ZcD,h0,hL]
theorem ZLR (most:Int) (wh:Bool) (sz:List Int) (i:Nat) (hi:¬(i:Int) < (sz.length:Int)\/¬(i:Int) < 60) (W:List AVal) (kw:Nat) (p n:Nat) (Y:List AVal) :
  evL FC PR1 BY 0 [15,14,9,8,7,2,1] ZbB [(15,.int .i64 ((i:Int))),(14,.lst true []),(9,.bool wh),(8,.sl 0 0 0 kw),(7,.sl 1 0 p n),(2,.int .i64 most),(1,.lst false (sz.map (AVal.int .i64 ·)))] [.row 0 26 W,.row 0 1 Y]=some (.exit 2,(67,.bool false)::[(15,.int .i64 ((i:Int))),(14,.lst true []),(9,.bool wh),(8,.sl 0 0 0 kw),(7,.sl 1 0 p n),(2,.int .i64 most),(1,.lst false (sz.map (AVal.int .i64 ·)))],[.row 0 26 W,.row 0 1 Y]):=by
 have hL:(sz.map (AVal.int .i64 ·)).length=sz.length:=by simp
 generalize sz.map (AVal.int .i64 ·)=S at *
 rw [ZL]
 by_cases h0:(i:Int) < (sz.length:Int)
 ·have h6:¬(i:Int) < 60:=by rcases hi with h | h;exact absurd h0 h;exact h
  simp -implicitDefEqProofs only [EQA,Xe,Xc,Xa,ZA,unG,↓reduceIte,Zck,ZcD,h0,h6,hL]
 ·simp -implicitDefEqProofs only [EQA,Xe,Xc,Xa,ZA,Zal,↓reduceIte,Zck,ZcD,h0,hL]
theorem Zw2 (most:Int) (wh:Bool) (sz:List Int) (i:Nat) (hi:¬(i:Int) < (sz.length:Int)\/¬(i:Int) < 60) (W:List AVal) (kw:Nat) (CH:List AVal) (nc:Nat) (p n:Nat) (Y:List AVal) :
  evL FC PR1 BY 0 [15,14,9,8,7,2,1] ZbB [(15,.int .i64 ((i:Int))),(14,.sl 0 0 0 nc),(9,.bool wh),(8,.sl 1 0 0 kw),(7,.sl 2 0 p n),(2,.int .i64 most),(1,.lst false (sz.map (AVal.int .i64 ·)))] [.row 0 1 CH,.row 0 26 W,.frow 0 1 Y]=some (.exit 2,(67,.bool false)::[(15,.int .i64 ((i:Int))),(14,.sl 0 0 0 nc),(9,.bool wh),(8,.sl 1 0 0 kw),(7,.sl 2 0 p n),(2,.int .i64 most),(1,.lst false (sz.map (AVal.int .i64 ·)))],[.row 0 1 CH,.row 0 26 W,.frow 0 1 Y]):=by
 have hL:(sz.map (AVal.int .i64 ·)).length=sz.length:=by simp
 generalize sz.map (AVal.int .i64 ·)=S at *
 rw [ZL]
 by_cases h0:(i:Int) < (sz.length:Int)
 ·have h6:¬(i:Int) < 60:=by rcases hi with h | h;exact absurd h0 h;exact h
  simp -implicitDefEqProofs only [EQA,Xe,Xc,Xa,ZA,unG,↓reduceIte,Zck,ZcD,h0,h6,hL]
 ·simp -implicitDefEqProofs only [EQA,Xe,Xc,Xa,ZA,Zal,↓reduceIte,Zck,ZcD,h0,hL]
theorem ZCI (most:Int) (wh:Bool) (sz:List Int) (i:Nat) (hi:¬(i:Int) < (sz.length:Int)\/¬(i:Int) < 60) :
  evL FC PR1 BY 0 [15,14,9,8,7,2,1] ZbB [(15,.int .i64 ((i:Int))),(14,.lst true []),(9,.bool wh),(8,.lst true []),(7,.lst true []),(2,.int .i64 most),(1,.lst false (sz.map (AVal.int .i64 ·)))] []=some (.exit 2,(67,.bool false)::[(15,.int .i64 ((i:Int))),(14,.lst true []),(9,.bool wh),(8,.lst true []),(7,.lst true []),(2,.int .i64 most),(1,.lst false (sz.map (AVal.int .i64 ·)))],[]):=by
 have hL:(sz.map (AVal.int .i64 ·)).length=sz.length:=by simp
 generalize sz.map (AVal.int .i64 ·)=S at *
 rw [ZL]
 by_cases h0:(i:Int) < (sz.length:Int)
 ·have h6:¬(i:Int) < 60:=by rcases hi with h | h;exact absurd h0 h;exact h
  simp -implicitDefEqProofs only [EQA,Xc,Xa,ZA,unG,↓reduceIte,Zck,ZcD,h0,h6,hL]
 ·simp -implicitDefEqProofs only [EQA,Xc,Xa,ZA,Zal,↓reduceIte,Zck,ZcD,h0,hL]
theorem ZuI (most:Int) (wh:Bool) (sz:List Int) (i:Nat) (hi:¬(i:Int) < (sz.length:Int)\/¬(i:Int) < 60) (CH:List AVal) (nc:Nat) :
  evL FC PR1 BY 0 [15,14,9,8,7,2,1] ZbB [(15,.int .i64 ((i:Int))),(14,.sl 0 0 0 nc),(9,.bool wh),(8,.lst true []),(7,.lst true []),(2,.int .i64 most),(1,.lst false (sz.map (AVal.int .i64 ·)))] [.row 0 1 CH]=some (.exit 2,(67,.bool false)::[(15,.int .i64 ((i:Int))),(14,.sl 0 0 0 nc),(9,.bool wh),(8,.lst true []),(7,.lst true []),(2,.int .i64 most),(1,.lst false (sz.map (AVal.int .i64 ·)))],[.row 0 1 CH]):=by
 have hL:(sz.map (AVal.int .i64 ·)).length=sz.length:=by simp
 generalize sz.map (AVal.int .i64 ·)=S at *
 rw [ZL]
 by_cases h0:(i:Int) < (sz.length:Int)
 ·have h6:¬(i:Int) < 60:=by rcases hi with h | h;exact absurd h0 h;exact h
  simp -implicitDefEqProofs only [EQA,Xc,Xa,ZA,unG,↓reduceIte,Zck,ZcD,h0,h6,hL]
 ·simp -implicitDefEqProofs only [EQA,Xc,Xa,ZA,Zal,↓reduceIte,Zck,ZcD,h0,hL]
end
section
def ZcG:=xw1 Zbo Zcq rfl
theorem ZPD (most:Int) (SZ:AVal) (hSZ:ZI SZ=true) (l:List Zn) (i:Nat) (p:Zn) (hp:l[i]?=some p) (hi:(i:Int) < 12) (hok:OkW (Ze p)) (hg:¬ZbA (Ze p)) (wh:Bool):evL FC PR1 BY 0 [10,9,8,7,2,1,0] Zbo [(10,.int .i64 ((i:Int))),(9,.bool wh),(8,.lst true []),(7,.lst true []),(2,.int .i64 most),(1,SZ),(0,.lst false (l.map Zs))] []=evL FC PR1 BY 0 [10,9,8,7,2,1,0] Zbo [(10,.int .i64 (((i+1:Nat):Int))),(9,.bool wh),(8,.lst true []),(7,.lst true []),(2,.int .i64 most),(1,SZ),(0,.lst false (l.map Zs))] []:=by
 have hlt:i < l.length:=(Xj.1 hp).1
 have h0:(i:Int) < (l.length:Int):=by omega
 have hw:IntKind.i64.wrap ((i:Int)+1)=((i+1:Nat):Int):=by rw [ZaV (by omega) (by omega)];rfl
 have ha:=fun σ kk=>iad hp Zs (k:=26) rfl σ false kk
 have hL:(l.map Zs).length=l.length:=by simp
 have hz1:=(Z4 (fun _ _=>none) SZ hSZ).2
 have hz2:=fun ρ=>(Z4 ρ SZ hSZ).1
 have fp:=Zec p
 have pk:=fun p:Zn=>(show ([AVal.agg (Zh p)].all Z5=true)/\[AVal.agg (Zh p)].map ZK=[Zs p] from ⟨by rw [XD,Zb6];rfl,by rw [Xo,Zb8];rfl⟩)
 have hn0:=fun σ sq own e=>ZaD (ZcC σ sq own e)
 have yp:=Zev p
 rw [ZaJ] at ha
 have hLay:=Zrk (Ze p) hok yp hg [.agg (Zh (Ze p))] (pk _).1 (pk _).2
 have e0:=ZaT p
 have e1:=Zbe p
 have a0:=ZaT (Ze p)
 have a1:=Zbe (Ze p)
 have ao:(Zh (Ze p)).all ZS=true:=rfl
 clear pk
 generalize l.map Zs=S at *
 generalize Zh (Ze p)=A at *
 generalize Zh p=Q at *
 rw [ZL]
 simp -implicitDefEqProofs only [EQA,ZN,Xe,Xc,Xf,Xa,Xg,ZA,unG,reduceCtorEq,↓reduceIte,gcT,gcA,Zy,Zt,Zq,ZC,Zcq,ZcG,h0,hi,hw,ha,hL,hz1,hz2,fp,hn0,hLay,e0,e1,a0,a1,ao,AVal.cells,XaX]
theorem ZQD (most:Int) (SZ:AVal) (hSZ:ZI SZ=true) (l:List Zn) (i:Nat) (p:Zn) (hp:l[i]?=some p) (hi:(i:Int) < 12) (hok:OkW (Ze p)) (hg:¬ZbA (Ze p)) (wh:Bool) (Y:List AVal) (n:Nat) (hY:Y.length=n):evL FC PR1 BY 0 [10,9,8,7,2,1,0] Zbo [(10,.int .i64 ((i:Int))),(9,.bool wh),(8,.lst true []),(7,.sl 0 0 0 n),(2,.int .i64 most),(1,SZ),(0,.lst false (l.map Zs))] [.row 0 1 Y]=evL FC PR1 BY 0 [10,9,8,7,2,1,0] Zbo [(10,.int .i64 (((i+1:Nat):Int))),(9,.bool wh),(8,.lst true []),(7,.sl 0 0 0 n),(2,.int .i64 most),(1,SZ),(0,.lst false (l.map Zs))] [.row 0 1 Y]:=by
 have hlt:i < l.length:=(Xj.1 hp).1
 have h0:(i:Int) < (l.length:Int):=by omega
 have hw:IntKind.i64.wrap ((i:Int)+1)=((i+1:Nat):Int):=by rw [ZaV (by omega) (by omega)];rfl
 have ha:=fun σ kk=>iad hp Zs (k:=26) rfl σ false kk
 have hL:(l.map Zs).length=l.length:=by simp
 have hz1:=(Z4 (fun _ _=>none) SZ hSZ).2
 have hz2:=fun ρ=>(Z4 ρ SZ hSZ).1
 have fp:=Zec p
 have pk:=fun p:Zn=>(show ([AVal.agg (Zh p)].all Z5=true)/\[AVal.agg (Zh p)].map ZK=[Zs p] from ⟨by rw [XD,Zb6];rfl,by rw [Xo,Zb8];rfl⟩)
 have hn0:=fun σ sq own e=>ZaD (ZcC σ sq own e)
 have yp:=Zev p
 rw [ZaJ] at ha
 have hLay:=Zrk (Ze p) hok yp hg [.agg (Zh (Ze p))] (pk _).1 (pk _).2
 have e0:=ZaT p
 have e1:=Zbe p
 have a0:=ZaT (Ze p)
 have a1:=Zbe (Ze p)
 have ao:(Zh (Ze p)).all ZS=true:=rfl
 clear pk
 generalize l.map Zs=S at *
 generalize Zh (Ze p)=A at *
 generalize Zh p=Q at *
 rw [ZL]
 simp -implicitDefEqProofs only [EQA,ZN,ZaI,Xe,Xc,Xf,Xa,Xg,ZA,unG,reduceCtorEq,↓reduceIte,gcT,gcA,Zy,Zt,Zi,Zq,ZO,Zl,ZF,Zz,ZC,Zcq,ZcG,h0,hi,hw,ha,hL,hz1,hz2,fp,hn0,hLay,e0,e1,a0,a1,ao,AVal.cells,XaX]
theorem ZBl (most:Int) (SZ:AVal) (hSZ:ZI SZ=true) (l:List Zn) (i:Nat) (p:Zn) (hp:l[i]?=some p) (hi:(i:Int) < 12) (hok:OkW (Ze p)) (hg:¬ZbA (Ze p)) (wh:Bool) (Y:List AVal) (n:Nat) (hY:Y.length=n) (W:List AVal) (kw:Nat) (hWl:W.length=kw):evL FC PR1 BY 0 [10,9,8,7,2,1,0] Zbo [(10,.int .i64 ((i:Int))),(9,.bool wh),(8,.sl 0 0 0 kw),(7,.sl 1 0 0 n),(2,.int .i64 most),(1,SZ),(0,.lst false (l.map Zs))] [.row 0 26 W,.row 0 1 Y]=evL FC PR1 BY 0 [10,9,8,7,2,1,0] Zbo [(10,.int .i64 (((i+1:Nat):Int))),(9,.bool wh),(8,.sl 0 0 0 kw),(7,.sl 1 0 0 n),(2,.int .i64 most),(1,SZ),(0,.lst false (l.map Zs))] [.row 0 26 W,.row 0 1 Y]:=by
 have hlt:i < l.length:=(Xj.1 hp).1
 have h0:(i:Int) < (l.length:Int):=by omega
 have hw:IntKind.i64.wrap ((i:Int)+1)=((i+1:Nat):Int):=by rw [ZaV (by omega) (by omega)];rfl
 have ha:=fun σ kk=>iad hp Zs (k:=26) rfl σ false kk
 have hL:(l.map Zs).length=l.length:=by simp
 have hz1:=(Z4 (fun _ _=>none) SZ hSZ).2
 have hz2:=fun ρ=>(Z4 ρ SZ hSZ).1
 have fp:=Zec p
 have pk:=fun p:Zn=>(show ([AVal.agg (Zh p)].all Z5=true)/\[AVal.agg (Zh p)].map ZK=[Zs p] from ⟨by rw [XD,Zb6];rfl,by rw [Xo,Zb8];rfl⟩)
 have hn0:=fun σ sq own e=>ZaD (ZcC σ sq own e)
 have yp:=Zev p
 rw [ZaJ] at ha
 have hLay:=Zrk (Ze p) hok yp hg [.agg (Zh (Ze p))] (pk _).1 (pk _).2
 have e0:=ZaT p
 have e1:=Zbe p
 have a0:=ZaT (Ze p)
 have a1:=Zbe (Ze p)
 have ao:(Zh (Ze p)).all ZS=true:=rfl
 clear pk
 generalize l.map Zs=S at *
 generalize Zh (Ze p)=A at *
 generalize Zh p=Q at *
 rw [ZL]
 simp -implicitDefEqProofs only [EQA,ZN,ZaI,Xe,Xc,Xf,Xa,Xg,ZA,unG,reduceCtorEq,↓reduceIte,gcT,gcA,Zy,Zt,Zi,Zq,ZO,Zl,ZF,Zz,ZC,Zcq,ZcG,h0,hi,hw,ha,hL,hz1,hz2,fp,hn0,hLay,e0,e1,a0,a1,ao,AVal.cells,XaX]
theorem ZE9 (most:Int) (SZ:AVal) (hSZ:ZI SZ=true) (l:List Zn) (i:Nat) (hi:¬(i:Int) < (l.length:Int)\/¬(i:Int) < 12) (wh:Bool):evL FC PR1 BY 0 [10,9,8,7,2,1,0] Zbo [(10,.int .i64 ((i:Int))),(9,.bool wh),(8,.lst true []),(7,.lst true []),(2,.int .i64 most),(1,SZ),(0,.lst false (l.map Zs))] []=some (.exit 0,(32,.bool false)::[(10,.int .i64 ((i:Int))),(9,.bool wh),(8,.lst true []),(7,.lst true []),(2,.int .i64 most),(1,SZ),(0,.lst false (l.map Zs))],[]):=by
 have hL:(l.map Zs).length=l.length:=by simp
 have hz1:=(Z4 (fun _ _=>none) SZ hSZ).2
 have hz2:=fun ρ=>(Z4 ρ SZ hSZ).1
 generalize l.map Zs=S at *
 rw [ZL]
 by_cases h0:(i:Int) < (l.length:Int)
 ·have h6:¬(i:Int) < 12:=by rcases hi with h | h;exact absurd h0 h;exact h
  simp -implicitDefEqProofs only [EQA,Xc,Xa,ZA,unG,reduceCtorEq,↓reduceIte,Zcq,ZcG,h0,h6,hL]
 ·simp -implicitDefEqProofs only [EQA,Xc,Xa,ZA,Zal,reduceCtorEq,↓reduceIte,Zcq,ZcG,h0,hL]
theorem ZKf (most:Int) (SZ:AVal) (hSZ:ZI SZ=true) (l:List Zn) (i:Nat) (hi:¬(i:Int) < (l.length:Int)\/¬(i:Int) < 12) (wh:Bool) (Y:List AVal) (n:Nat):evL FC PR1 BY 0 [10,9,8,7,2,1,0] Zbo [(10,.int .i64 ((i:Int))),(9,.bool wh),(8,.lst true []),(7,.sl 0 0 0 n),(2,.int .i64 most),(1,SZ),(0,.lst false (l.map Zs))] [.row 0 1 Y]=some (.exit 0,(32,.bool false)::[(10,.int .i64 ((i:Int))),(9,.bool wh),(8,.lst true []),(7,.sl 0 0 0 n),(2,.int .i64 most),(1,SZ),(0,.lst false (l.map Zs))],[.row 0 1 Y]):=by
 have hL:(l.map Zs).length=l.length:=by simp
 have hz1:=(Z4 (fun _ _=>none) SZ hSZ).2
 have hz2:=fun ρ=>(Z4 ρ SZ hSZ).1
 generalize l.map Zs=S at *
 rw [ZL]
 by_cases h0:(i:Int) < (l.length:Int)
 ·have h6:¬(i:Int) < 12:=by rcases hi with h | h;exact absurd h0 h;exact h
  simp -implicitDefEqProofs only [EQA,Xc,Xa,ZA,unG,reduceCtorEq,↓reduceIte,Zcq,ZcG,h0,h6,hL]
 ·simp -implicitDefEqProofs only [EQA,Xc,Xa,ZA,Zal,reduceCtorEq,↓reduceIte,Zcq,ZcG,h0,hL]
theorem ZyR (most:Int) (SZ:AVal) (hSZ:ZI SZ=true) (l:List Zn) (i:Nat) (hi:¬(i:Int) < (l.length:Int)\/¬(i:Int) < 12) (wh:Bool) (Y:List AVal) (n:Nat) (W:List AVal) (kw:Nat):evL FC PR1 BY 0 [10,9,8,7,2,1,0] Zbo [(10,.int .i64 ((i:Int))),(9,.bool wh),(8,.sl 0 0 0 kw),(7,.sl 1 0 0 n),(2,.int .i64 most),(1,SZ),(0,.lst false (l.map Zs))] [.row 0 26 W,.row 0 1 Y]=some (.exit 0,(32,.bool false)::[(10,.int .i64 ((i:Int))),(9,.bool wh),(8,.sl 0 0 0 kw),(7,.sl 1 0 0 n),(2,.int .i64 most),(1,SZ),(0,.lst false (l.map Zs))],[.row 0 26 W,.row 0 1 Y]):=by
 have hL:(l.map Zs).length=l.length:=by simp
 have hz1:=(Z4 (fun _ _=>none) SZ hSZ).2
 have hz2:=fun ρ=>(Z4 ρ SZ hSZ).1
 generalize l.map Zs=S at *
 rw [ZL]
 by_cases h0:(i:Int) < (l.length:Int)
 ·have h6:¬(i:Int) < 12:=by rcases hi with h | h;exact absurd h0 h;exact h
  simp -implicitDefEqProofs only [EQA,Xe,Xc,Xa,ZA,unG,reduceCtorEq,↓reduceIte,Zcq,ZcG,h0,h6,hL]
 ·simp -implicitDefEqProofs only [EQA,Xe,Xc,Xa,ZA,Zal,reduceCtorEq,↓reduceIte,Zcq,ZcG,h0,hL]
theorem ZFt (most:Int) (SZ:AVal) (hSZ:ZI SZ=true) (l:List Zn) (i:Nat) (p:Zn) (hp:l[i]?=some p) (hi:(i:Int) < 12) (hok:OkW (Ze p)) (hg:ZbA (Ze p)) (hbig:¬(((ZV (Ze p)).length:Nat):Int) > most) (hn:(ZV (Ze p)).length*1<=140737488355328):evL FC PR1 BY 0 [10,9,8,7,2,1,0] Zbo [(10,.int .i64 ((i:Int))),(9,.bool true),(8,.lst true []),(7,.lst true []),(2,.int .i64 most),(1,SZ),(0,.lst false (l.map Zs))] []=evL FC PR1 BY 0 [10,9,8,7,2,1,0] Zbo [(10,.int .i64 (((i+1:Nat):Int))),(9,.bool true),(8,.sl 0 0 0 1),(7,.sl 1 0 0 ((ZV (Ze p)).length)),(2,.int .i64 most),(1,SZ),(0,.lst false (l.map Zs))] [.row 0 26 [Zs (Ze p)],.row 0 1 ((ZV (Ze p)).map Zb)]:=by
 have hlt:i < l.length:=(Xj.1 hp).1
 have h0:(i:Int) < (l.length:Int):=by omega
 have hw:IntKind.i64.wrap ((i:Int)+1)=((i+1:Nat):Int):=by rw [ZaV (by omega) (by omega)];rfl
 have ha:=fun σ kk=>iad hp Zs (k:=26) rfl σ false kk
 have hL:(l.map Zs).length=l.length:=by simp
 have hz1:=(Z4 (fun _ _=>none) SZ hSZ).2
 have hz2:=fun ρ=>(Z4 ρ SZ hSZ).1
 have fp:=Zec p
 have pk:=fun p:Zn=>(show ([AVal.agg (Zh p)].all Z5=true)/\[AVal.agg (Zh p)].map ZK=[Zs p] from ⟨by rw [XD,Zb6];rfl,by rw [Xo,Zb8];rfl⟩)
 have hn0:=fun σ sq own e=>ZaD (ZcC σ sq own e)
 have yp:=Zev p
 rw [ZaJ] at ha
 have hLay:=ZfP (Ze p) hok yp hg [.agg (Zh (Ze p))] (pk _).1 (pk _).2
 have e0:=ZaT p
 have e1:=Zbe p
 have a0:=ZaT (Ze p)
 have a1:=Zbe (Ze p)
 have ao:(Zh (Ze p)).all ZS=true:=rfl
 have hv:∀ σ:Za,viewAs σ [.agg (Zh (Ze p))]=some ([.agg (Zh (Ze p))],[]):=fun _=>rfl
 have hk26:kOk 26 [.agg (Zh (Ze p))]=true:=rfl
 have hkx:=ZcE (ZV (Ze p))
 have hXL:((ZV (Ze p)).map Zb).length=(ZV (Ze p)).length:=by simp
 have b1:1*368<=140737488355328:=by decide
 clear pk
 try rw [ZaJ]
 generalize l.map Zs=S at *
 generalize (ZV (Ze p)).map Zb=X at *
 generalize (ZV (Ze p)).length=xl at *
 generalize Zh (Ze p)=A at *
 generalize Zh p=Q at *
 rw [ZL]
 simp -implicitDefEqProofs only [EQA,ZN,ZaI,Xe,Xc,Xf,Xa,Xg,ZA,unG,reduceCtorEq,ZM,↓reduceIte,gcT,gcA,Zy,Zt,Zi,Zq,ZO,Zl,ZF,Zz,ZC,Zcq,ZcG,h0,hi,hw,ha,hL,hz1,hz2,fp,hn0,hLay,e0,e1,a0,a1,ao,hv,hk26,hkx,hXL,b1,hbig,hn,AVal.cells,bne_self_eq_false,Zp,Z3,WI]
theorem ZMu (most:Int) (SZ:AVal) (hSZ:ZI SZ=true) (l:List Zn) (i:Nat) (p:Zn) (hp:l[i]?=some p) (hi:(i:Int) < 12) (hok:OkW (Ze p)) (hg:ZbA (Ze p)) (hbig:(((ZV (Ze p)).length:Nat):Int) > most) (hn:(ZV (Ze p)).length*1<=140737488355328):evL FC PR1 BY 0 [10,9,8,7,2,1,0] Zbo [(10,.int .i64 ((i:Int))),(9,.bool true),(8,.lst true []),(7,.lst true []),(2,.int .i64 most),(1,SZ),(0,.lst false (l.map Zs))] []=evL FC PR1 BY 0 [10,9,8,7,2,1,0] Zbo [(10,.int .i64 (((i+1:Nat):Int))),(9,.bool false),(8,.lst true []),(7,.sl 0 0 0 ((ZV (Ze p)).length)),(2,.int .i64 most),(1,SZ),(0,.lst false (l.map Zs))] [.row 0 1 ((ZV (Ze p)).map Zb)]:=by
 have hlt:i < l.length:=(Xj.1 hp).1
 have h0:(i:Int) < (l.length:Int):=by omega
 have hw:IntKind.i64.wrap ((i:Int)+1)=((i+1:Nat):Int):=by rw [ZaV (by omega) (by omega)];rfl
 have ha:=fun σ kk=>iad hp Zs (k:=26) rfl σ false kk
 have hL:(l.map Zs).length=l.length:=by simp
 have hz1:=(Z4 (fun _ _=>none) SZ hSZ).2
 have hz2:=fun ρ=>(Z4 ρ SZ hSZ).1
 have fp:=Zec p
 have pk:=fun p:Zn=>(show ([AVal.agg (Zh p)].all Z5=true)/\[AVal.agg (Zh p)].map ZK=[Zs p] from ⟨by rw [XD,Zb6];rfl,by rw [Xo,Zb8];rfl⟩)
 have hn0:=fun σ sq own e=>ZaD (ZcC σ sq own e)
 have yp:=Zev p
 rw [ZaJ] at ha
 have hLay:=ZfP (Ze p) hok yp hg [.agg (Zh (Ze p))] (pk _).1 (pk _).2
 have e0:=ZaT p
 have e1:=Zbe p
 have a0:=ZaT (Ze p)
 have a1:=Zbe (Ze p)
 have ao:(Zh (Ze p)).all ZS=true:=rfl
 have hv:∀ σ:Za,viewAs σ [.agg (Zh (Ze p))]=some ([.agg (Zh (Ze p))],[]):=fun _=>rfl
 have hk26:kOk 26 [.agg (Zh (Ze p))]=true:=rfl
 have hkx:=ZcE (ZV (Ze p))
 have hXL:((ZV (Ze p)).map Zb).length=(ZV (Ze p)).length:=by simp
 have b1:1*368<=140737488355328:=by decide
 clear pk
 try rw [ZaJ]
 generalize l.map Zs=S at *
 generalize (ZV (Ze p)).map Zb=X at *
 generalize (ZV (Ze p)).length=xl at *
 generalize Zh (Ze p)=A at *
 generalize Zh p=Q at *
 rw [ZL]
 simp -implicitDefEqProofs only [EQA,ZN,ZaI,Xe,Xc,Xf,Xa,Xg,ZA,unG,reduceCtorEq,ZM,↓reduceIte,gcT,gcA,Zy,Zt,Zi,Zq,ZO,Zl,ZF,Zz,ZC,Zcq,ZcG,h0,hi,hw,ha,hL,hz1,hz2,fp,hn0,hLay,e0,e1,a0,a1,ao,hkx,hXL,hbig,hn,AVal.cells,bne_self_eq_false,Z3]
theorem ZBN (most:Int) (SZ:AVal) (hSZ:ZI SZ=true) (l:List Zn) (i:Nat) (p:Zn) (hp:l[i]?=some p) (hi:(i:Int) < 12) (hok:OkW (Ze p)) (hg:ZbA (Ze p)) (hbig:¬(((ZV (Ze p)).length:Nat):Int) > most) (Y:List AVal) (n:Nat) (hY:Y.length=n) (hn:(n+(ZV (Ze p)).length)*1<=140737488355328):evL FC PR1 BY 0 [10,9,8,7,2,1,0] Zbo [(10,.int .i64 ((i:Int))),(9,.bool false),(8,.lst true []),(7,.sl 0 0 0 n),(2,.int .i64 most),(1,SZ),(0,.lst false (l.map Zs))] [.row 0 1 Y]=evL FC PR1 BY 0 [10,9,8,7,2,1,0] Zbo [(10,.int .i64 (((i+1:Nat):Int))),(9,.bool false),(8,.lst true []),(7,.sl 0 0 0 (n+(ZV (Ze p)).length)),(2,.int .i64 most),(1,SZ),(0,.lst false (l.map Zs))] [.row 0 1 (Y++(ZV (Ze p)).map Zb)]:=by
 have hlt:i < l.length:=(Xj.1 hp).1
 have h0:(i:Int) < (l.length:Int):=by omega
 have hw:IntKind.i64.wrap ((i:Int)+1)=((i+1:Nat):Int):=by rw [ZaV (by omega) (by omega)];rfl
 have ha:=fun σ kk=>iad hp Zs (k:=26) rfl σ false kk
 have hL:(l.map Zs).length=l.length:=by simp
 have hz1:=(Z4 (fun _ _=>none) SZ hSZ).2
 have hz2:=fun ρ=>(Z4 ρ SZ hSZ).1
 have fp:=Zec p
 have pk:=fun p:Zn=>(show ([AVal.agg (Zh p)].all Z5=true)/\[AVal.agg (Zh p)].map ZK=[Zs p] from ⟨by rw [XD,Zb6];rfl,by rw [Xo,Zb8];rfl⟩)
 have hn0:=fun σ sq own e=>ZaD (ZcC σ sq own e)
 have yp:=Zev p
 rw [ZaJ] at ha
 have hLay:=ZfP (Ze p) hok yp hg [.agg (Zh (Ze p))] (pk _).1 (pk _).2
 have e0:=ZaT p
 have e1:=Zbe p
 have a0:=ZaT (Ze p)
 have a1:=Zbe (Ze p)
 have ao:(Zh (Ze p)).all ZS=true:=rfl
 have hv:∀ σ:Za,viewAs σ [.agg (Zh (Ze p))]=some ([.agg (Zh (Ze p))],[]):=fun _=>rfl
 have hk26:kOk 26 [.agg (Zh (Ze p))]=true:=rfl
 have hkx:=ZcE (ZV (Ze p))
 have hXL:((ZV (Ze p)).map Zb).length=(ZV (Ze p)).length:=by simp
 have b1:1*368<=140737488355328:=by decide
 clear pk
 try rw [ZaJ]
 generalize l.map Zs=S at *
 generalize (ZV (Ze p)).map Zb=X at *
 generalize (ZV (Ze p)).length=xl at *
 generalize Zh (Ze p)=A at *
 generalize Zh p=Q at *
 rw [ZL]
 simp -implicitDefEqProofs only [EQA,ZN,ZaI,Xe,Xc,Xf,Xa,Xg,ZA,unG,reduceCtorEq,ZM,↓reduceIte,gcT,gcA,Zy,Zt,Zi,Zq,ZO,Zl,ZF,Zz,ZC,Zcq,ZcG,h0,hi,hw,ha,hL,hz1,hz2,fp,hn0,hLay,e0,e1,a0,a1,ao,hkx,hXL,hbig,hY,hn,AVal.cells,bne_self_eq_false,Z3]
theorem ZDU (most:Int) (SZ:AVal) (hSZ:ZI SZ=true) (l:List Zn) (i:Nat) (p:Zn) (hp:l[i]?=some p) (hi:(i:Int) < 12) (hok:OkW (Ze p)) (hg:ZbA (Ze p)) (hbig:(((ZV (Ze p)).length:Nat):Int) > most) (Y:List AVal) (n:Nat) (hY:Y.length=n) (hn:(n+(ZV (Ze p)).length)*1<=140737488355328):evL FC PR1 BY 0 [10,9,8,7,2,1,0] Zbo [(10,.int .i64 ((i:Int))),(9,.bool false),(8,.lst true []),(7,.sl 0 0 0 n),(2,.int .i64 most),(1,SZ),(0,.lst false (l.map Zs))] [.row 0 1 Y]=evL FC PR1 BY 0 [10,9,8,7,2,1,0] Zbo [(10,.int .i64 (((i+1:Nat):Int))),(9,.bool false),(8,.lst true []),(7,.sl 0 0 0 (n+(ZV (Ze p)).length)),(2,.int .i64 most),(1,SZ),(0,.lst false (l.map Zs))] [.row 0 1 (Y++(ZV (Ze p)).map Zb)]:=by
 have hlt:i < l.length:=(Xj.1 hp).1
 have h0:(i:Int) < (l.length:Int):=by omega
 have hw:IntKind.i64.wrap ((i:Int)+1)=((i+1:Nat):Int):=by rw [ZaV (by omega) (by omega)];rfl
 have ha:=fun σ kk=>iad hp Zs (k:=26) rfl σ false kk
 have hL:(l.map Zs).length=l.length:=by simp
 have hz1:=(Z4 (fun _ _=>none) SZ hSZ).2
 have hz2:=fun ρ=>(Z4 ρ SZ hSZ).1
 have fp:=Zec p
 have pk:=fun p:Zn=>(show ([AVal.agg (Zh p)].all Z5=true)/\[AVal.agg (Zh p)].map ZK=[Zs p] from ⟨by rw [XD,Zb6];rfl,by rw [Xo,Zb8];rfl⟩)
 have hn0:=fun σ sq own e=>ZaD (ZcC σ sq own e)
 have yp:=Zev p
 rw [ZaJ] at ha
 have hLay:=ZfP (Ze p) hok yp hg [.agg (Zh (Ze p))] (pk _).1 (pk _).2
 have e0:=ZaT p
 have e1:=Zbe p
 have a0:=ZaT (Ze p)
 have a1:=Zbe (Ze p)
 have ao:(Zh (Ze p)).all ZS=true:=rfl
 have hv:∀ σ:Za,viewAs σ [.agg (Zh (Ze p))]=some ([.agg (Zh (Ze p))],[]):=fun _=>rfl
 have hk26:kOk 26 [.agg (Zh (Ze p))]=true:=rfl
 have hkx:=ZcE (ZV (Ze p))
 have hXL:((ZV (Ze p)).map Zb).length=(ZV (Ze p)).length:=by simp
 have b1:1*368<=140737488355328:=by decide
 clear pk
 try rw [ZaJ]
 generalize l.map Zs=S at *
 generalize (ZV (Ze p)).map Zb=X at *
 generalize (ZV (Ze p)).length=xl at *
 generalize Zh (Ze p)=A at *
 generalize Zh p=Q at *
 rw [ZL]
 simp -implicitDefEqProofs only [EQA,ZN,ZaI,Xe,Xc,Xf,Xa,Xg,ZA,unG,reduceCtorEq,ZM,↓reduceIte,gcT,gcA,Zy,Zt,Zi,Zq,ZO,Zl,ZF,Zz,ZC,Zcq,ZcG,h0,hi,hw,ha,hL,hz1,hz2,fp,hn0,hLay,e0,e1,a0,a1,ao,hkx,hXL,hbig,hY,hn,AVal.cells,bne_self_eq_false,Z3]
theorem ZAF (most:Int) (SZ:AVal) (hSZ:ZI SZ=true) (l:List Zn) (i:Nat) (p:Zn) (hp:l[i]?=some p) (hi:(i:Int) < 12) (hok:OkW (Ze p)) (hg:ZbA (Ze p)) (hbig:¬(((ZV (Ze p)).length:Nat):Int) > most) (Y:List AVal) (n:Nat) (hY:Y.length=n) (hn:(n+(ZV (Ze p)).length)*1<=140737488355328) (W:List AVal) (kw:Nat) (hWl:W.length=kw) (hkw:(kw+1)*368<=140737488355328):evL FC PR1 BY 0 [10,9,8,7,2,1,0] Zbo [(10,.int .i64 ((i:Int))),(9,.bool true),(8,.sl 0 0 0 kw),(7,.sl 1 0 0 n),(2,.int .i64 most),(1,SZ),(0,.lst false (l.map Zs))] [.row 0 26 W,.row 0 1 Y]=evL FC PR1 BY 0 [10,9,8,7,2,1,0] Zbo [(10,.int .i64 (((i+1:Nat):Int))),(9,.bool true),(8,.sl 0 0 0 (kw+1)),(7,.sl 1 0 0 (n+(ZV (Ze p)).length)),(2,.int .i64 most),(1,SZ),(0,.lst false (l.map Zs))] [.row 0 26 (W++[Zs (Ze p)]),.row 0 1 (Y++(ZV (Ze p)).map Zb)]:=by
 have hlt:i < l.length:=(Xj.1 hp).1
 have h0:(i:Int) < (l.length:Int):=by omega
 have hw:IntKind.i64.wrap ((i:Int)+1)=((i+1:Nat):Int):=by rw [ZaV (by omega) (by omega)];rfl
 have ha:=fun σ kk=>iad hp Zs (k:=26) rfl σ false kk
 have hL:(l.map Zs).length=l.length:=by simp
 have hz1:=(Z4 (fun _ _=>none) SZ hSZ).2
 have hz2:=fun ρ=>(Z4 ρ SZ hSZ).1
 have fp:=Zec p
 have pk:=fun p:Zn=>(show ([AVal.agg (Zh p)].all Z5=true)/\[AVal.agg (Zh p)].map ZK=[Zs p] from ⟨by rw [XD,Zb6];rfl,by rw [Xo,Zb8];rfl⟩)
 have hn0:=fun σ sq own e=>ZaD (ZcC σ sq own e)
 have yp:=Zev p
 rw [ZaJ] at ha
 have hLay:=ZfP (Ze p) hok yp hg [.agg (Zh (Ze p))] (pk _).1 (pk _).2
 have e0:=ZaT p
 have e1:=Zbe p
 have a0:=ZaT (Ze p)
 have a1:=Zbe (Ze p)
 have ao:(Zh (Ze p)).all ZS=true:=rfl
 have hv:∀ σ:Za,viewAs σ [.agg (Zh (Ze p))]=some ([.agg (Zh (Ze p))],[]):=fun _=>rfl
 have hk26:kOk 26 [.agg (Zh (Ze p))]=true:=rfl
 have hkx:=ZcE (ZV (Ze p))
 have hXL:((ZV (Ze p)).map Zb).length=(ZV (Ze p)).length:=by simp
 have b1:1*368<=140737488355328:=by decide
 clear pk
 try rw [ZaJ]
 generalize l.map Zs=S at *
 generalize (ZV (Ze p)).map Zb=X at *
 generalize (ZV (Ze p)).length=xl at *
 generalize Zh (Ze p)=A at *
 generalize Zh p=Q at *
 rw [ZL]
 simp -implicitDefEqProofs only [EQA,ZN,ZaI,Xe,Xc,Xf,Xa,Xg,ZA,unG,reduceCtorEq,ZM,↓reduceIte,gcT,gcA,Zy,Zt,Zi,Zq,ZO,Zl,ZF,Zz,ZC,Zcq,ZcG,h0,hi,hw,ha,hL,hz1,hz2,fp,hn0,hLay,e0,e1,a0,a1,ao,hv,hk26,hkx,hXL,hbig,hY,hn,hWl,hkw,AVal.cells,bne_self_eq_false,Zp,Z3]
theorem ZyO (most:Int) (SZ:AVal) (hSZ:ZI SZ=true) (l:List Zn) (i:Nat) (p:Zn) (hp:l[i]?=some p) (hi:(i:Int) < 12) (hok:OkW (Ze p)) (hg:ZbA (Ze p)) (hbig:(((ZV (Ze p)).length:Nat):Int) > most) (Y:List AVal) (n:Nat) (hY:Y.length=n) (hn:(n+(ZV (Ze p)).length)*1<=140737488355328) (W:List AVal) (kw:Nat) (hWl:W.length=kw) (hkw:(kw+1)*368<=140737488355328):evL FC PR1 BY 0 [10,9,8,7,2,1,0] Zbo [(10,.int .i64 ((i:Int))),(9,.bool true),(8,.sl 0 0 0 kw),(7,.sl 1 0 0 n),(2,.int .i64 most),(1,SZ),(0,.lst false (l.map Zs))] [.row 0 26 W,.row 0 1 Y]=evL FC PR1 BY 0 [10,9,8,7,2,1,0] Zbo [(10,.int .i64 (((i+1:Nat):Int))),(9,.bool false),(8,.sl 0 0 0 kw),(7,.sl 1 0 0 (n+(ZV (Ze p)).length)),(2,.int .i64 most),(1,SZ),(0,.lst false (l.map Zs))] [.row 0 26 W,.row 0 1 (Y++(ZV (Ze p)).map Zb)]:=by
 have hlt:i < l.length:=(Xj.1 hp).1
 have h0:(i:Int) < (l.length:Int):=by omega
 have hw:IntKind.i64.wrap ((i:Int)+1)=((i+1:Nat):Int):=by rw [ZaV (by omega) (by omega)];rfl
 have ha:=fun σ kk=>iad hp Zs (k:=26) rfl σ false kk
 have hL:(l.map Zs).length=l.length:=by simp
 have hz1:=(Z4 (fun _ _=>none) SZ hSZ).2
 have hz2:=fun ρ=>(Z4 ρ SZ hSZ).1
 have fp:=Zec p
 have pk:=fun p:Zn=>(show ([AVal.agg (Zh p)].all Z5=true)/\[AVal.agg (Zh p)].map ZK=[Zs p] from ⟨by rw [XD,Zb6];rfl,by rw [Xo,Zb8];rfl⟩)
 have hn0:=fun σ sq own e=>ZaD (ZcC σ sq own e)
 have yp:=Zev p
 rw [ZaJ] at ha
 have hLay:=ZfP (Ze p) hok yp hg [.agg (Zh (Ze p))] (pk _).1 (pk _).2
 have e0:=ZaT p
 have e1:=Zbe p
 have a0:=ZaT (Ze p)
 have a1:=Zbe (Ze p)
 have ao:(Zh (Ze p)).all ZS=true:=rfl
 have hv:∀ σ:Za,viewAs σ [.agg (Zh (Ze p))]=some ([.agg (Zh (Ze p))],[]):=fun _=>rfl
 have hk26:kOk 26 [.agg (Zh (Ze p))]=true:=rfl
 have hkx:=ZcE (ZV (Ze p))
 have hXL:((ZV (Ze p)).map Zb).length=(ZV (Ze p)).length:=by simp
 have b1:1*368<=140737488355328:=by decide
 clear pk
 try rw [ZaJ]
 generalize l.map Zs=S at *
 generalize (ZV (Ze p)).map Zb=X at *
 generalize (ZV (Ze p)).length=xl at *
 generalize Zh (Ze p)=A at *
 generalize Zh p=Q at *
 rw [ZL]
 simp -implicitDefEqProofs only [EQA,ZN,ZaI,Xe,Xc,Xf,Xa,Xg,ZA,unG,reduceCtorEq,ZM,↓reduceIte,gcT,gcA,Zy,Zt,Zi,Zq,ZO,Zl,ZF,Zz,ZC,Zcq,ZcG,h0,hi,hw,ha,hL,hz1,hz2,fp,hn0,hLay,e0,e1,a0,a1,ao,hkx,hXL,hbig,hY,hn,AVal.cells,bne_self_eq_false,Z3]
theorem ZBh (most:Int) (SZ:AVal) (hSZ:ZI SZ=true) (l:List Zn) (i:Nat) (p:Zn) (hp:l[i]?=some p) (hi:(i:Int) < 12) (hok:OkW (Ze p)) (hg:ZbA (Ze p)) (hbig:¬(((ZV (Ze p)).length:Nat):Int) > most) (Y:List AVal) (n:Nat) (hY:Y.length=n) (hn:(n+(ZV (Ze p)).length)*1<=140737488355328) (W:List AVal) (kw:Nat) (hWl:W.length=kw) (hkw:(kw+1)*368<=140737488355328):evL FC PR1 BY 0 [10,9,8,7,2,1,0] Zbo [(10,.int .i64 ((i:Int))),(9,.bool false),(8,.sl 0 0 0 kw),(7,.sl 1 0 0 n),(2,.int .i64 most),(1,SZ),(0,.lst false (l.map Zs))] [.row 0 26 W,.row 0 1 Y]=evL FC PR1 BY 0 [10,9,8,7,2,1,0] Zbo [(10,.int .i64 (((i+1:Nat):Int))),(9,.bool false),(8,.sl 0 0 0 kw),(7,.sl 1 0 0 (n+(ZV (Ze p)).length)),(2,.int .i64 most),(1,SZ),(0,.lst false (l.map Zs))] [.row 0 26 W,.row 0 1 (Y++(ZV (Ze p)).map Zb)]:=by
 have hlt:i < l.length:=(Xj.1 hp).1
 have h0:(i:Int) < (l.length:Int):=by omega
 have hw:IntKind.i64.wrap ((i:Int)+1)=((i+1:Nat):Int):=by rw [ZaV (by omega) (by omega)];rfl
 have ha:=fun σ kk=>iad hp Zs (k:=26) rfl σ false kk
 have hL:(l.map Zs).length=l.length:=by simp
 have hz1:=(Z4 (fun _ _=>none) SZ hSZ).2
 have hz2:=fun ρ=>(Z4 ρ SZ hSZ).1
 have fp:=Zec p
 have pk:=fun p:Zn=>(show ([AVal.agg (Zh p)].all Z5=true)/\[AVal.agg (Zh p)].map ZK=[Zs p] from ⟨by rw [XD,Zb6];rfl,by rw [Xo,Zb8];rfl⟩)
 have hn0:=fun σ sq own e=>ZaD (ZcC σ sq own e)
 have yp:=Zev p
 rw [ZaJ] at ha
 have hLay:=ZfP (Ze p) hok yp hg [.agg (Zh (Ze p))] (pk _).1 (pk _).2
 have e0:=ZaT p
 have e1:=Zbe p
 have a0:=ZaT (Ze p)
 have a1:=Zbe (Ze p)
 have ao:(Zh (Ze p)).all ZS=true:=rfl
 have hv:∀ σ:Za,viewAs σ [.agg (Zh (Ze p))]=some ([.agg (Zh (Ze p))],[]):=fun _=>rfl
 have hk26:kOk 26 [.agg (Zh (Ze p))]=true:=rfl
 have hkx:=ZcE (ZV (Ze p))
 have hXL:((ZV (Ze p)).map Zb).length=(ZV (Ze p)).length:=by simp
 have b1:1*368<=140737488355328:=by decide
 clear pk
 try rw [ZaJ]
 generalize l.map Zs=S at *
 generalize (ZV (Ze p)).map Zb=X at *
 generalize (ZV (Ze p)).length=xl at *
 generalize Zh (Ze p)=A at *
 generalize Zh p=Q at *
 rw [ZL]
 simp -implicitDefEqProofs only [EQA,ZN,ZaI,Xe,Xc,Xf,Xa,Xg,ZA,unG,reduceCtorEq,ZM,↓reduceIte,gcT,gcA,Zy,Zt,Zi,Zq,ZO,Zl,ZF,Zz,ZC,Zcq,ZcG,h0,hi,hw,ha,hL,hz1,hz2,fp,hn0,hLay,e0,e1,a0,a1,ao,hkx,hXL,hbig,hY,hn,AVal.cells,bne_self_eq_false,Z3]
theorem ZHT (most:Int) (SZ:AVal) (hSZ:ZI SZ=true) (l:List Zn) (i:Nat) (p:Zn) (hp:l[i]?=some p) (hi:(i:Int) < 12) (hok:OkW (Ze p)) (hg:ZbA (Ze p)) (hbig:(((ZV (Ze p)).length:Nat):Int) > most) (Y:List AVal) (n:Nat) (hY:Y.length=n) (hn:(n+(ZV (Ze p)).length)*1<=140737488355328) (W:List AVal) (kw:Nat) (hWl:W.length=kw) (hkw:(kw+1)*368<=140737488355328):evL FC PR1 BY 0 [10,9,8,7,2,1,0] Zbo [(10,.int .i64 ((i:Int))),(9,.bool false),(8,.sl 0 0 0 kw),(7,.sl 1 0 0 n),(2,.int .i64 most),(1,SZ),(0,.lst false (l.map Zs))] [.row 0 26 W,.row 0 1 Y]=evL FC PR1 BY 0 [10,9,8,7,2,1,0] Zbo [(10,.int .i64 (((i+1:Nat):Int))),(9,.bool false),(8,.sl 0 0 0 kw),(7,.sl 1 0 0 (n+(ZV (Ze p)).length)),(2,.int .i64 most),(1,SZ),(0,.lst false (l.map Zs))] [.row 0 26 W,.row 0 1 (Y++(ZV (Ze p)).map Zb)]:=by
 have hlt:i < l.length:=(Xj.1 hp).1
 have h0:(i:Int) < (l.length:Int):=by omega
 have hw:IntKind.i64.wrap ((i:Int)+1)=((i+1:Nat):Int):=by rw [ZaV (by omega) (by omega)];rfl
 have ha:=fun σ kk=>iad hp Zs (k:=26) rfl σ false kk
 have hL:(l.map Zs).length=l.length:=by simp
 have hz1:=(Z4 (fun _ _=>none) SZ hSZ).2
 have hz2:=fun ρ=>(Z4 ρ SZ hSZ).1
 have fp:=Zec p
 have pk:=fun p:Zn=>(show ([AVal.agg (Zh p)].all Z5=true)/\[AVal.agg (Zh p)].map ZK=[Zs p] from ⟨by rw [XD,Zb6];rfl,by rw [Xo,Zb8];rfl⟩)
 have hn0:=fun σ sq own e=>ZaD (ZcC σ sq own e)
 have yp:=Zev p
 rw [ZaJ] at ha
 have hLay:=ZfP (Ze p) hok yp hg [.agg (Zh (Ze p))] (pk _).1 (pk _).2
 have e0:=ZaT p
 have e1:=Zbe p
 have a0:=ZaT (Ze p)
 have a1:=Zbe (Ze p)
 have ao:(Zh (Ze p)).all ZS=true:=rfl
 have hv:∀ σ:Za,viewAs σ [.agg (Zh (Ze p))]=some ([.agg (Zh (Ze p))],[]):=fun _=>rfl
 have hk26:kOk 26 [.agg (Zh (Ze p))]=true:=rfl
 have hkx:=ZcE (ZV (Ze p))
 have hXL:((ZV (Ze p)).map Zb).length=(ZV (Ze p)).length:=by simp
 have b1:1*368<=140737488355328:=by decide
 clear pk
 try rw [ZaJ]
 generalize l.map Zs=S at *
 generalize (ZV (Ze p)).map Zb=X at *
 generalize (ZV (Ze p)).length=xl at *
 generalize Zh (Ze p)=A at *
 generalize Zh p=Q at *
 rw [ZL]
 simp -implicitDefEqProofs only [EQA,ZN,ZaI,Xe,Xc,Xf,Xa,Xg,ZA,unG,reduceCtorEq,ZM,↓reduceIte,gcT,gcA,Zy,Zt,Zi,Zq,ZO,Zl,ZF,Zz,ZC,Zcq,ZcG,h0,hi,hw,ha,hL,hz1,hz2,fp,hn0,hLay,e0,e1,a0,a1,ao,hkx,hXL,hbig,hY,hn,AVal.cells,bne_self_eq_false,Z3]
end
section
theorem ZvD (most:Int) (wh:Bool) (sz:List Int) (Y:List AVal):∀ (n i p:Nat) (h:Zc) (chs:List Zc),i+n=60->Y.drop p=h.map Zb->p<=Y.length->h.length<=4611686018427387904->chs.length<=i ->
  ∃ (i' p':Nat) (h':Zc) (chs':List Zc),Y.drop p'=h'.map Zb/\p'<=Y.length/\chs'.length<=60/\chs'.flatten++h'=chs.flatten++h/\evL FC PR1 BY 0 [15,14,9,8,7,2,1] ZbB [(15,.int .i64 ((i:Int))),(14,.sl 0 0 0 (chs).length),(9,.bool wh),(8,.lst true []),(7,.sl 1 0 (p) (h).length),(2,.int .i64 most),(1,.lst false (sz.map (AVal.int .i64 ·)))] [.row 0 1 ((chs).map chV),.frow 0 1 Y]=some (.exit 2,(67,.bool false)::[(15,.int .i64 ((i':Int))),(14,.sl 0 0 0 (chs').length),(9,.bool wh),(8,.lst true []),(7,.sl 1 0 (p') (h').length),(2,.int .i64 most),(1,.lst false (sz.map (AVal.int .i64 ·)))],[.row 0 1 ((chs').map chV),.frow 0 1 Y])
 | 0,i,p,h,chs,hi,hY,hp,hl,hc=>⟨i,p,h,chs,hY,hp,by omega,rfl,Zuz most wh sz i (Xv (by omega)) (chs.map chV) chs.length p h.length Y⟩
 | n+1,i,p,h,chs,hi,hY,hp,hl,hc=>by
  by_cases h0:(i:Int) < (sz.length:Int)
  ·obtain ⟨z,hz⟩:∃ z,sz[i]?=some z:=⟨sz[i]'(by omega),XP _⟩
   obtain ⟨k,hk,hW⟩:=ZhE z h.length hl
   obtain ⟨hY',hp'⟩:=Zf8 hY hp hk
   obtain ⟨i',p',h',chs',a1,a2,a3,a4,a5⟩:=ZvD most wh sz Y n (i+1) (p+k) (h.drop k) (chs++[h.take k]) (by omega) hY' hp' (by simp;omega) (by simp;omega)
   refine ⟨i',p',h',chs',a1,a2,a3,?_,?_⟩
   ·rw [a4,List.flatten_append,Wa]
    simp
   ·rw [<-a5]
    have r:=ZEU most wh sz i z hz (by omega) p h Y hY hp k hk hW (chs.map chV) chs.length (by simp) (by omega)
    rw [r]
    have e1:chs.map chV++[AVal.lst false ((h.take k).map Zb)]=(chs++[h.take k]).map chV:=by simp [chV]
    have e2:(chs++[h.take k]).length=chs.length+1:=by simp
    have e3:(h.drop k).length=h.length - k:=by simp
    rw [e1,e2,e3]
  ·exact ⟨i,p,h,chs,hY,hp,by omega,rfl,Zuz most wh sz i (Xr h0) (chs.map chV) chs.length p h.length Y⟩
theorem ZrZ (most:Int) (wh:Bool) (sz:List Int) (Y:List AVal) (W:List AVal) (kw:Nat):∀ (n i p:Nat) (h:Zc) (chs:List Zc),i+n=60->Y.drop p=h.map Zb->p<=Y.length->h.length<=4611686018427387904->chs.length<=i ->
  ∃ (i' p':Nat) (h':Zc) (chs':List Zc),Y.drop p'=h'.map Zb/\p'<=Y.length/\chs'.length<=60/\chs'.flatten++h'=chs.flatten++h/\evL FC PR1 BY 0 [15,14,9,8,7,2,1] ZbB [(15,.int .i64 ((i:Int))),(14,.sl 0 0 0 (chs).length),(9,.bool wh),(8,.sl 1 0 0 kw),(7,.sl 2 0 (p) (h).length),(2,.int .i64 most),(1,.lst false (sz.map (AVal.int .i64 ·)))] [.row 0 1 ((chs).map chV),.row 0 26 W,.frow 0 1 Y]=some (.exit 2,(67,.bool false)::[(15,.int .i64 ((i':Int))),(14,.sl 0 0 0 (chs').length),(9,.bool wh),(8,.sl 1 0 0 kw),(7,.sl 2 0 (p') (h').length),(2,.int .i64 most),(1,.lst false (sz.map (AVal.int .i64 ·)))],[.row 0 1 ((chs').map chV),.row 0 26 W,.frow 0 1 Y])
 | 0,i,p,h,chs,hi,hY,hp,hl,hc=>⟨i,p,h,chs,hY,hp,by omega,rfl,Zw2 most wh sz i (Xv (by omega)) W kw (chs.map chV) chs.length p h.length Y⟩
 | n+1,i,p,h,chs,hi,hY,hp,hl,hc=>by
  by_cases h0:(i:Int) < (sz.length:Int)
  ·obtain ⟨z,hz⟩:∃ z,sz[i]?=some z:=⟨sz[i]'(by omega),XP _⟩
   obtain ⟨k,hk,hW⟩:=ZhE z h.length hl
   obtain ⟨hY',hp'⟩:=Zf8 hY hp hk
   obtain ⟨i',p',h',chs',a1,a2,a3,a4,a5⟩:=ZrZ most wh sz Y W kw n (i+1) (p+k) (h.drop k) (chs++[h.take k]) (by omega) hY' hp' (by simp;omega) (by simp;omega)
   refine ⟨i',p',h',chs',a1,a2,a3,?_,?_⟩
   ·rw [a4,List.flatten_append,Wa]
    simp
   ·rw [<-a5]
    have r:=ZJ6 most wh sz i z hz (by omega) p h Y hY hp k hk hW W kw (chs.map chV) chs.length (by simp) (by omega)
    rw [r]
    have e1:chs.map chV++[AVal.lst false ((h.take k).map Zb)]=(chs++[h.take k]).map chV:=by simp [chV]
    have e2:(chs++[h.take k]).length=chs.length+1:=by simp
    have e3:(h.drop k).length=h.length - k:=by simp
    rw [e1,e2,e3]
  ·exact ⟨i,p,h,chs,hY,hp,by omega,rfl,Zw2 most wh sz i (Xr h0) W kw (chs.map chV) chs.length p h.length Y⟩
theorem Zta (most:Int) (wh:Bool) (sz:List Int):∀ (n i:Nat) (chs:List Zc),i+n=60->chs.length<=i->chs.flatten=[] ->
  ∃ (i':Nat) (chs':List Zc),chs'.length<=60/\chs'.flatten=[]/\evL FC PR1 BY 0 [15,14,9,8,7,2,1] ZbB [(15,.int .i64 ((i:Int))),(14,.sl 0 0 0 (chs).length),(9,.bool wh),(8,.lst true []),(7,.lst true []),(2,.int .i64 most),(1,.lst false (sz.map (AVal.int .i64 ·)))] [.row 0 1 (chs.map chV)]=some (.exit 2,(67,.bool false)::[(15,.int .i64 ((i':Int))),(14,.sl 0 0 0 (chs').length),(9,.bool wh),(8,.lst true []),(7,.lst true []),(2,.int .i64 most),(1,.lst false (sz.map (AVal.int .i64 ·)))],[.row 0 1 (chs'.map chV)])
 | 0,i,chs,hi,hc,hf=>⟨i,chs,by omega,hf,ZuI most wh sz i (Xv (by omega)) (chs.map chV) chs.length⟩
 | n+1,i,chs,hi,hc,hf=>by
  by_cases h0:(i:Int) < (sz.length:Int)
  ·obtain ⟨z,hz⟩:∃ z,sz[i]?=some z:=⟨sz[i]'(by omega),XP _⟩
   obtain ⟨k,hk,hW⟩:=ZhE z 0 (by decide)
   obtain rfl:k=0:=by omega
   obtain ⟨i',chs',a1,a2,a3⟩:=Zta most wh sz n (i+1) (chs++[[]]) (by omega) (by simp;omega) (by simp;simpa using hf)
   refine ⟨i',chs',a1,a2,?_⟩
   rw [<-a3]
   have r:=ZEw most wh sz i z hz (by omega) hW (chs.map chV) chs.length (by simp) (by omega)
   rw [r]
   have e1:chs.map chV++[AVal.lst false []]=(chs++[[]]).map chV:=by simp [chV]
   have e2:(chs++[([]:Zc)]).length=chs.length+1:=by simp
   rw [e1,e2]
  ·exact ⟨i,chs,by omega,hf,ZuI most wh sz i (Xr h0) (chs.map chV) chs.length⟩
end
section
def ZaB (most:Int):List Zn->List Zn×Bool
 | []=>([],true)
 | p::l=>if (((ZV p).length:Nat):Int) > most then ([],false) else (p::(ZaB most l).1,(ZaB most l).2)
theorem ZuC (most:Int) (q:Zn):∀ l,ZaB most (l++[q])=if (ZaB most l).2 then (if (((ZV q).length:Nat):Int) > most then ((ZaB most l).1,false) else ((ZaB most l).1++[q],true)) else ZaB most l
 | []=>by
  rw [Xw]
  unfold ZaB
  unfold ZaB
  rw [if_pos rfl,Xw]
 | p::l=>by
  have ih:=ZuC most q l
  rw [XU]
  simp only [ZaB]
  by_cases h:(((ZV p).length:Nat):Int) > most
  ·simp only [if_pos h,Xi,if_false]
  ·simp only [if_neg h,ih]
   by_cases h2:(ZaB most l).2=true
   ·simp only [if_pos h2]
    by_cases h3:(((ZV q).length:Nat):Int) > most
    ·simp only [if_pos h3]
    ·simp only [if_neg h3,XU]
   ·simp only [if_neg h2]
theorem Zvg {most:Int} {l:List Zn} (h:(ZaB most l).1=[]) (hl:l≠[]):(ZaB most l).2=false:=by
 cases l with
 | nil=>exact absurd rfl hl
 | cons p l =>
  simp only [ZaB] at h ⊢
  by_cases hb:(((ZV p).length:Nat):Int) > most
  ·rw [if_pos hb]
  ·rw [if_neg hb] at h
   exact absurd h (by simp)
theorem ZrL (most:Int):∀ l,(ZaB most l).1.length<=l.length
 | []=>Xx _
 | p::l=>by
  have ih:=ZrL most l
  simp only [ZaB]
  split <;> simp <;> omega
theorem Zn6 {most:Int} {q:Zn}:∀ {l},q ∈ (ZaB most l).1->q ∈ l
 | [],h=>h
 | p::l,h=>by
  simp only [ZaB] at h
  split at h
  ·exact absurd h (by simp)
  ·rcases XQ.1 h with h | h
   ·rw [h];exact XaD
   ·exact List.mem_cons_of_mem _ (Zn6 h)
def Za5 (ps:List Zn):Zc:=ps.flatMap ZV
theorem ZNW (ps:List Zn) (q:Zn):Za5 (ps++[q])=Za5 ps++ZV q:=by simp [Za5]
theorem ZsG {p:Zn} (h:ZbA p):(ZV p).length<=268435460:=by
 have h1:=ZgK ((Zcu p).length:Nat)
 have h2:=h.1
 unfold ZV
 rw [ZlL]
 simp
 omega
theorem Zpt:∀ {ps:List Zn},(∀ p ∈ ps,ZbA p)->(Za5 ps).length<=ps.length*268435460
 | [],_=>Xx _
 | p::ps,h=>by
  have ih:=Zpt (ps:=ps) fun q hq=>h q (by simp [hq])
  have h1:=ZsG (h p (by simp))
  have : (Za5 (p::ps)).length=(ZV p).length+(Za5 ps).length:=by simp [Za5]
  rw [this,List.length_cons]
  omega
def Ziv (most:Int) (SZ:AVal) (l:List Zn) (i:Nat) (wh:Bool) (w b:AVal):Tms:=[(10,.int .i64 ((i:Nat):Int)),(9,.bool wh),(8,w),(7,b),(2,.int .i64 most),(1,SZ),(0,.lst false (l.map Zs))]
def St6 (most:Int) (SZ:AVal) (l ps:List Zn) (i:Nat) (tms:Tms) (σ:Za):Prop :=
 (ps=[]/\tms=Ziv most SZ l i true (.lst true []) (.lst true [])/\σ=[]) \/
 (ps≠[]/\(ZaB most ps).1=[]/\tms=Ziv most SZ l i false (.lst true []) (.sl 0 0 0 (Za5 ps).length)/\σ=[.row 0 1 ((Za5 ps).map Zb)]) \/
 ((ZaB most ps).1≠[]/\tms=Ziv most SZ l i (ZaB most ps).2 (.sl 0 0 0 (ZaB most ps).1.length) (.sl 1 0 0 (Za5 ps).length)/\σ=[.row 0 26 ((ZaB most ps).1.map Zs),.row 0 1 ((Za5 ps).map Zb)])
section
variable (most:Int) (SZ:AVal) (hSZ:ZI SZ=true) (l:List Zn)
include hSZ
theorem Zwu {ps:List Zn} {i:Nat} {tms:Tms} {σ:Za} (hi:¬(i:Int) < (l.length:Int)\/¬(i:Int) < 12) (h:St6 most SZ l ps i tms σ) :
  evL FC PR1 BY 0 [10,9,8,7,2,1,0] Zbo tms σ=some (.exit 0,(32,.bool false)::tms,σ):=by
 rcases h with ⟨_,rfl,rfl⟩ | ⟨_,_,rfl,rfl⟩ | ⟨_,rfl,rfl⟩
 ·exact ZE9 most SZ hSZ l i hi true
 ·exact ZKf most SZ hSZ l i hi false _ _
 ·exact ZyR most SZ hSZ l i hi _ _ _ _ _
theorem ZBc {ps:List Zn} {i:Nat} {tms:Tms} {σ:Za} {p:Zn} (hp:l[i]?=some p) (hi:(i:Int) < 12) (hok:OkW (Ze p)) (hg:¬ZbA (Ze p)) (h:St6 most SZ l ps i tms σ) :
  ∃ tms',St6 most SZ l ps (i+1) tms' σ/\evL FC PR1 BY 0 [10,9,8,7,2,1,0] Zbo tms σ=evL FC PR1 BY 0 [10,9,8,7,2,1,0] Zbo tms' σ:=by
 rcases h with ⟨h1,rfl,rfl⟩ | ⟨h1,h2,rfl,rfl⟩ | ⟨h1,rfl,rfl⟩
 ·exact ⟨_,Xr ⟨h1,rfl,rfl⟩,ZPD most SZ hSZ l i p hp hi hok hg true⟩
 ·exact ⟨_,Xv (Xr ⟨h1,h2,rfl,rfl⟩),ZQD most SZ hSZ l i p hp hi hok hg false _ _ (by simp)⟩
 ·exact ⟨_,Xv (Xv ⟨h1,rfl,rfl⟩),ZBl most SZ hSZ l i p hp hi hok hg _ _ _ (by simp) _ _ (by simp)⟩
theorem ZHm {ps:List Zn} {i:Nat} {tms:Tms} {σ:Za} {p:Zn} (hp:l[i]?=some p) (hi:(i:Int) < 12) (hok:OkW (Ze p)) (hg:ZbA (Ze p)) (hps:∀ p ∈ ps,ZbA p) (hl:ps.length<=i) (h:St6 most SZ l ps i tms σ) :
  ∃ tms' σ',St6 most SZ l (ps++[Ze p]) (i+1) tms' σ'/\evL FC PR1 BY 0 [10,9,8,7,2,1,0] Zbo tms σ=evL FC PR1 BY 0 [10,9,8,7,2,1,0] Zbo tms' σ':=by
 have b1:=ZsG hg
 have b2:=Zpt hps
 have b3:(Za5 ps).length<=12*268435460:=Wy b2 (X3 _ (by omega))
 have b4:((Za5 ps).length+(ZV (Ze p)).length)*1<=140737488355328:=by omega
 have b5:=ZrL most ps
 have b6:((ZaB most ps).1.length+1)*368<=140737488355328:=by omega
 have hs:=ZuC most (Ze p) ps
 have n1:ps++[Ze p]≠[]:=by simp
 unfold St6
 rw [hs,ZNW]
 have e1:((Za5 ps).map Zb).length=(Za5 ps).length:=by simp
 have e2:((ZaB most ps).1.map Zs).length=(ZaB most ps).1.length:=by simp
 have e3:(Za5 ps++ZV (Ze p)).length=(Za5 ps).length+(ZV (Ze p)).length:=by simp
 have e4:(Za5 ps++ZV (Ze p)).map Zb=(Za5 ps).map Zb++(ZV (Ze p)).map Zb:=by simp
 have e5:((ZaB most ps).1++[Ze p]).length=(ZaB most ps).1.length+1:=by simp
 have e6:((ZaB most ps).1++[Ze p]).map Zs=(ZaB most ps).1.map Zs++[Zs (Ze p)]:=by simp
 rcases h with ⟨rfl,rfl,rfl⟩ | ⟨h1,h2,rfl,rfl⟩ | ⟨h1,rfl,rfl⟩
 ·have a0:Za5 []=[]:=rfl
  have w0:ZaB most []=([],true):=rfl
  simp only [w0,a0,Xw,if_true]
  by_cases hb:(((ZV (Ze p)).length:Nat):Int) > most
  ·simp only [if_pos hb]
   exact ⟨_,_,Xv (Xr ⟨by simp,by first | trivial | rfl,rfl,rfl⟩),ZMu most SZ hSZ l i p hp hi hok hg hb (by omega)⟩
  ·simp only [if_neg hb]
   exact ⟨_,_,Xv (Xv ⟨by simp,rfl,rfl⟩),ZFt most SZ hSZ l i p hp hi hok hg hb (by omega)⟩
 ·have hf:=Zvg h2 h1
  rw [hf,if_neg (by simp)]
  rw [e3,e4]
  by_cases hb:(((ZV (Ze p)).length:Nat):Int) > most
  ·exact ⟨_,_,Xv (Xr ⟨n1,h2,rfl,rfl⟩),ZDU most SZ hSZ l i p hp hi hok hg hb _ _ e1 b4⟩
  ·exact ⟨_,_,Xv (Xr ⟨n1,h2,rfl,rfl⟩),ZBN most SZ hSZ l i p hp hi hok hg hb _ _ e1 b4⟩
 ·rw [e3,e4]
  cases hf:(ZaB most ps).2 with
  | true =>
   rw [if_pos rfl]
   by_cases hb:(((ZV (Ze p)).length:Nat):Int) > most
   ·rw [if_pos hb]
    exact ⟨_,_,Xv (Xv ⟨h1,rfl,rfl⟩),ZyO most SZ hSZ l i p hp hi hok hg hb _ _ e1 b4 _ _ e2 b6⟩
   ·rw [if_neg hb]
    simp only [e5,e6]
    exact ⟨_,_,Xv (Xv ⟨by simp,rfl,rfl⟩),ZAF most SZ hSZ l i p hp hi hok hg hb _ _ e1 b4 _ _ e2 b6⟩
  | false =>
   rw [if_neg (by simp),hf]
   by_cases hb:(((ZV (Ze p)).length:Nat):Int) > most
   ·exact ⟨_,_,Xv (Xv ⟨h1,rfl,rfl⟩),ZHT most SZ hSZ l i p hp hi hok hg hb _ _ e1 b4 _ _ e2 b6⟩
   ·exact ⟨_,_,Xv (Xv ⟨h1,rfl,rfl⟩),ZBh most SZ hSZ l i p hp hi hok hg hb _ _ e1 b4 _ _ e2 b6⟩
theorem ev6 (hok:∀ p ∈ l,OkW (Ze p)):∀ (n i:Nat) (ps:List Zn) (tms:Tms) (σ:Za),i+n=12->ps.length<=i->(∀ p ∈ ps,ZbA p/\OkW p)->St6 most SZ l ps i tms σ ->
  ∃ i' ps' tms' σ',ps'.length<=12/\(∀ p ∈ ps',ZbA p/\OkW p)/\St6 most SZ l ps' i' tms' σ'/\evL FC PR1 BY 0 [10,9,8,7,2,1,0] Zbo tms σ=some (.exit 0,(32,.bool false)::tms',σ')
 | 0,i,ps,tms,σ,hi,hl,hg,h=>⟨i,ps,tms,σ,by omega,hg,h,Zwu most SZ hSZ l (Xv (by omega)) h⟩
 | n+1,i,ps,tms,σ,hi,hl,hg,h=>by
  by_cases h0:(i:Int) < (l.length:Int)
  ·obtain ⟨p,hp⟩:∃ p,l[i]?=some p:=⟨l[i]'(by omega),XP _⟩
   have ok:=hok p (List.mem_of_getElem? hp)
   by_cases hG:ZbA (Ze p)
   ·obtain ⟨t',s',a1,a2⟩:=ZHm most SZ hSZ l hp (by omega) ok hG (fun q hq=>(hg q hq).1) hl h
    rw [a2]
    refine ev6 hok n (i+1) _ t' s' (by omega) (by simp;omega) ?_ a1
    intro q hq
    rcases Xt.1 hq with hq | hq
    ·exact hg q hq
    ·obtain rfl:=List.mem_singleton.1 hq
     exact ⟨hG,ok⟩
   ·obtain ⟨t',a1,a2⟩:=ZBc most SZ hSZ l hp (by omega) ok hG h
    rw [a2]
    exact ev6 hok n (i+1) ps t' σ (by omega) (by omega) hg a1
  ·exact ⟨i,ps,tms,σ,by omega,hg,h,Zwu most SZ hSZ l (Xr h0) h⟩
end
end
section
def ZiO:=xw1 ZgG Zf1 rfl
def Zie:=xw1 Zs8 Zgn rfl
theorem ZxR (most:Int) (wh:Bool) (sz:List Int) (h:Zc) (hl:h.length<=4611686018427387904) :
  (evL FC PR1 BY 0 [15,14,9,8,7,2,1] ZbB [(15,.int .i64 (((0:Nat):Int))),(14,.lst true []),(9,.bool wh),(8,.lst true []),(7,.sl 0 0 0 h.length),(2,.int .i64 most),(1,.lst false (sz.map (AVal.int .i64 ·)))] [.row 0 1 (h.map Zb)]=some (.exit 2,(67,.bool false)::[(15,.int .i64 (((0:Nat):Int))),(14,.lst true []),(9,.bool wh),(8,.lst true []),(7,.sl 0 0 0 h.length),(2,.int .i64 most),(1,.lst false (sz.map (AVal.int .i64 ·)))],[.row 0 1 (h.map Zb)])) \/
  (∃ (i' p':Nat) (h':Zc) (chs':List Zc),(h.map Zb).drop p'=h'.map Zb/\p'<=(h.map Zb).length/\chs'.length<=60/\chs'.flatten++h'=h/\evL FC PR1 BY 0 [15,14,9,8,7,2,1] ZbB [(15,.int .i64 (((0:Nat):Int))),(14,.lst true []),(9,.bool wh),(8,.lst true []),(7,.sl 0 0 0 h.length),(2,.int .i64 most),(1,.lst false (sz.map (AVal.int .i64 ·)))] [.row 0 1 (h.map Zb)]=some (.exit 2,(67,.bool false)::[(15,.int .i64 ((i':Int))),(14,(.sl 0 0 0 chs'.length)),(9,.bool wh),(8,.lst true []),(7,.sl 1 0 p' h'.length),(2,.int .i64 most),(1,.lst false (sz.map (AVal.int .i64 ·)))],[.row 0 1 (chs'.map chV),.frow 0 1 (h.map Zb)])):=by
 by_cases h0:((0:Nat):Int) < (sz.length:Int)
 ·right
  obtain ⟨z,hz⟩:∃ z,sz[0]?=some z:=⟨sz[0]'(by omega),XP _⟩
  obtain ⟨k,hk,hW⟩:=ZhE z h.length hl
  have hY:(h.map Zb).drop 0=h.map Zb:=rfl
  obtain ⟨hY',hp'⟩:=Zf8 hY (W9 _) hk
  obtain ⟨i',p',h',chs',a1,a2,a3,a4,a5⟩:=ZvD most wh sz (h.map Zb) 59 1 (0+k) (h.drop k) [h.take k] (by omega) hY' hp' (by simp;omega) (by simp)
  refine ⟨i',p',h',chs',a1,a2,a3,?_,?_⟩
  ·rw [a4];simp
  ·rw [<-a5]
   have r:=ZCy most wh sz 0 z hz (by omega) 0 h (h.map Zb) hY (W9 _) k hk hW
   rw [r]
   have e1:[AVal.lst false ((h.take k).map Zb)]=[h.take k].map chV:=rfl
   have e2:(1:Nat)=[h.take k].length:=rfl
   have e3:(h.drop k).length=h.length - k:=by simp
   rw [e1,e3,W7]
 ·left
  exact Zye most wh sz 0 (Xr h0) 0 h.length (h.map Zb)
theorem ZDc (most:Int) (wh:Bool) (sz:List Int) (h:Zc) (hl:h.length<=4611686018427387904) (W:List AVal) (kw:Nat) :
  (evL FC PR1 BY 0 [15,14,9,8,7,2,1] ZbB [(15,.int .i64 (((0:Nat):Int))),(14,.lst true []),(9,.bool wh),(8,.sl 0 0 0 kw),(7,.sl 1 0 0 h.length),(2,.int .i64 most),(1,.lst false (sz.map (AVal.int .i64 ·)))] [.row 0 26 W,.row 0 1 (h.map Zb)]=some (.exit 2,(67,.bool false)::[(15,.int .i64 (((0:Nat):Int))),(14,.lst true []),(9,.bool wh),(8,.sl 0 0 0 kw),(7,.sl 1 0 0 h.length),(2,.int .i64 most),(1,.lst false (sz.map (AVal.int .i64 ·)))],[.row 0 26 W,.row 0 1 (h.map Zb)])) \/
  (∃ (i' p':Nat) (h':Zc) (chs':List Zc),(h.map Zb).drop p'=h'.map Zb/\p'<=(h.map Zb).length/\chs'.length<=60/\chs'.flatten++h'=h/\evL FC PR1 BY 0 [15,14,9,8,7,2,1] ZbB [(15,.int .i64 (((0:Nat):Int))),(14,.lst true []),(9,.bool wh),(8,.sl 0 0 0 kw),(7,.sl 1 0 0 h.length),(2,.int .i64 most),(1,.lst false (sz.map (AVal.int .i64 ·)))] [.row 0 26 W,.row 0 1 (h.map Zb)]=some (.exit 2,(67,.bool false)::[(15,.int .i64 ((i':Int))),(14,(.sl 0 0 0 chs'.length)),(9,.bool wh),(8,.sl 1 0 0 kw),(7,.sl 2 0 p' h'.length),(2,.int .i64 most),(1,.lst false (sz.map (AVal.int .i64 ·)))],[.row 0 1 (chs'.map chV),.row 0 26 W,.frow 0 1 (h.map Zb)])):=by
 by_cases h0:((0:Nat):Int) < (sz.length:Int)
 ·right
  obtain ⟨z,hz⟩:∃ z,sz[0]?=some z:=⟨sz[0]'(by omega),XP _⟩
  obtain ⟨k,hk,hW⟩:=ZhE z h.length hl
  have hY:(h.map Zb).drop 0=h.map Zb:=rfl
  obtain ⟨hY',hp'⟩:=Zf8 hY (W9 _) hk
  obtain ⟨i',p',h',chs',a1,a2,a3,a4,a5⟩:=ZrZ most wh sz (h.map Zb) W kw 59 1 (0+k) (h.drop k) [h.take k] (by omega) hY' hp' (by simp;omega) (by simp)
  refine ⟨i',p',h',chs',a1,a2,a3,?_,?_⟩
  ·rw [a4];simp
  ·rw [<-a5]
   have r:=Zya most wh sz 0 z hz (by omega) 0 h (h.map Zb) hY (W9 _) k hk hW W kw
   rw [r]
   have e1:[AVal.lst false ((h.take k).map Zb)]=[h.take k].map chV:=rfl
   have e2:(1:Nat)=[h.take k].length:=rfl
   have e3:(h.drop k).length=h.length - k:=by simp
   rw [e1,e3,W7]
 ·left
  exact ZLR most wh sz 0 (Xr h0) W kw 0 h.length (h.map Zb)
theorem ZKZ (most:Int) (wh:Bool) (sz:List Int) :
  (evL FC PR1 BY 0 [15,14,9,8,7,2,1] ZbB [(15,.int .i64 (((0:Nat):Int))),(14,.lst true []),(9,.bool wh),(8,.lst true []),(7,.lst true []),(2,.int .i64 most),(1,.lst false (sz.map (AVal.int .i64 ·)))] []=some (.exit 2,(67,.bool false)::[(15,.int .i64 (((0:Nat):Int))),(14,.lst true []),(9,.bool wh),(8,.lst true []),(7,.lst true []),(2,.int .i64 most),(1,.lst false (sz.map (AVal.int .i64 ·)))],[])) \/
  (∃ (i':Nat) (chs':List Zc),chs'.length<=60/\chs'.flatten=[]/\evL FC PR1 BY 0 [15,14,9,8,7,2,1] ZbB [(15,.int .i64 (((0:Nat):Int))),(14,.lst true []),(9,.bool wh),(8,.lst true []),(7,.lst true []),(2,.int .i64 most),(1,.lst false (sz.map (AVal.int .i64 ·)))] []=some (.exit 2,(67,.bool false)::[(15,.int .i64 ((i':Int))),(14,(.sl 0 0 0 chs'.length)),(9,.bool wh),(8,.lst true []),(7,.lst true []),(2,.int .i64 most),(1,.lst false (sz.map (AVal.int .i64 ·)))],[.row 0 1 (chs'.map chV)])):=by
 by_cases h0:((0:Nat):Int) < (sz.length:Int)
 ·right
  obtain ⟨z,hz⟩:∃ z,sz[0]?=some z:=⟨sz[0]'(by omega),XP _⟩
  obtain ⟨k,hk,hW⟩:=ZhE z 0 (by decide)
  obtain rfl:k=0:=by omega
  obtain ⟨i',chs',a1,a2,a3⟩:=Zta most wh sz 59 1 [[]] (by omega) (by simp) rfl
  refine ⟨i',chs',a1,a2,?_⟩
  rw [<-a3]
  have r:=ZQk most wh sz 0 z hz (by omega) hW
  rw [r]
  rfl
 ·left
  exact ZCI most wh sz 0 (Xr h0)
theorem ZmB:evL FC PR1 BY 0 [19,17,8] Zim [(19,.int .i64 0),(17,.lst false []),(8,.lst true [])] []=some (.exit 4,[(110,.bool false),(19,.int .i64 0),(17,.lst false []),(8,.lst true [])],[]):=by
 have h0:¬(0:Int) < ((0:Nat):Int):=by decide
 rw [ZL]
 simp -implicitDefEqProofs only [EQA,Xc,Xa,↓reduceIte,Zjk,Zqt,h0]
def Zhk (r:Option (Za1×Tms×Za)):Prop:=∃ tm σ,r=some (.ret,(6,.bool true)::tm,σ)
theorem Zh1 (tm:Tms) (σ:Za):Zhk (some (.ret,(6,.bool true)::tm,σ)):=⟨_,_,rfl⟩
theorem ZiF (most:Int) (L:List Zc) (hL:L≠[]) (hl:L.flatten.length<=4000000000) (hc:L.length<=200) {σ:Za} {t g sq own n:Nat} (hn:n=L.length) (hs:σ[t]?=some (.row g 1 (L.map chV))) :
  Zk E1 BY σ sq 8 own true [.int .i64 most,.sl t g 0 n]=some (.tup [.lst false ((Zv most L.flatten).1.map frP),.int .i64 (Zv most L.flatten).2.2],Zp σ [t],{ rd:=[t],wr:=[t] }) \/
  Zk E1 BY σ sq 8 own true [.int .i64 most,.sl t g 0 n]=some (.tup [.lst false ((Zv most L.flatten).1.map frP),.int .i64 (Zv most L.flatten).2.2],σ,{ rd:=[t] }):=by
 cases L with
 | nil=>exact absurd rfl hL
 | cons b cs =>
  have h:=ZGr most b cs (by simpa using hl) (by simp at hc;omega) (σ:=σ) (t:=t) (g:=g) (sq:=sq) (own:=own) (n:=n) hn hs
  rw [ZOq] at h
  rcases h with h | h
  ·exact Xr (ZaD h)
  ·exact Xv (ZaD h)
theorem ZHy (most:Int) (wh:Bool) (sz:List Int) (i:Int) (p:Nat) (h:Zc) (Y:List AVal) (hY:Y.drop p=h.map Zb) (hp:p<=Y.length) (hl:([h]).flatten.length<=4000000000) (e:Int) (he:(wh=true/\e=0)\/(wh=false/\e=149)) (hF1:(Zv most ([h]).flatten).1.map frP=[]) (hF2:(Zv most ([h]).flatten).2.2=e) :
  Zhk (evC FC PR1 BY 0 ZgG ((67,.bool false)::[(15,.int .i64 (i)),(14,.lst true []),(9,.bool wh),(8,.lst true []),(7,.sl 0 0 p h.length),(2,.int .i64 most),(1,.lst false (sz.map (AVal.int .i64 ·)))]) [.row 0 1 Y]):=by
 have hn:=fun σ sq own=>ZaD (ZcC σ sq own e)
 have hw:=fun σ sq own=>ZaD (ZhL σ sq own)
 have hA:=fun sq own=>ZiF most ([h]) (by simp) hl (by simp) (σ:=[.frow 0 1 Y,.row 0 1 ([h].map chV)]) (t:=1) (g:=0) (n:=1) (sq:=sq) (own:=own) (by simp) rfl
 rw [hF1,hF2] at hA
 simp only [Xo,XA,chV] at hA
 have hE:=fun {σ:Za} hs=>Zgl (fz:=false) (g:=0) (r:=0) hY hp (σ:=σ) hs (k:=h.length) (Xx _)
 rw [Wl] at hE
 simp only [Zab,Xi,if_false] at hE
 have b1:1*24<=140737488355328:=by decide
 generalize h.map Zb=HB at *
 clear hF1 hF2
 rcases hA 2 0 with hB | hB <;> clear hA <;> rcases he with ⟨rfl,rfl⟩ | ⟨rfl,rfl⟩
 all_goals (simp -implicitDefEqProofs only [EQA,ZN,Xe,Xc,Xa,Xg,ZA,unG,ZM,↓reduceIte,gcT,gcA,Zy,Zt,Zq,ZC,Zgn,Zf1,ZiO,Zie,hn,hw,hB,b1,hE,ZmB,Zh1,Zp,AVal.cells,Z3,kOk,Xq,bne_self_eq_false,WI])
theorem ZzS (most:Int) (wh:Bool) (sz:List Int) (i:Int) (p:Nat) (h:Zc) (Y:List AVal) (hY:Y.drop p=h.map Zb) (hp:p<=Y.length) (chs:List Zc) (hc:chs.length<=60) (hl:(chs++[h]).flatten.length<=4000000000) (e:Int) (he:(wh=true/\e=0)\/(wh=false/\e=149)) (hF1:(Zv most (chs++[h]).flatten).1.map frP=[]) (hF2:(Zv most (chs++[h]).flatten).2.2=e) :
  Zhk (evC FC PR1 BY 0 ZgG ((67,.bool false)::[(15,.int .i64 (i)),(14,.sl 0 0 0 chs.length),(9,.bool wh),(8,.lst true []),(7,.sl 1 0 p h.length),(2,.int .i64 most),(1,.lst false (sz.map (AVal.int .i64 ·)))]) [.row 0 1 (chs.map chV),.frow 0 1 Y]):=by
 have hn:=fun σ sq own=>ZaD (ZcC σ sq own e)
 have hw:=fun σ sq own=>ZaD (ZhL σ sq own)
 have hA:=fun sq own=>ZiF most (chs++[h]) (by simp) hl (by simp;omega) (σ:=[.row 1 1 ((chs++[h]).map chV),.frow 0 1 Y,.free]) (t:=0) (g:=1) (n:=(chs.length+1)) (sq:=sq) (own:=own) (by simp) rfl
 rw [hF1,hF2] at hA
 simp only [X9,Xo,XA,chV] at hA
 have hE:=fun {σ:Za} hs=>Zgl (fz:=true) (g:=0) (r:=1) hY hp (σ:=σ) hs (k:=h.length) (Xx _)
 rw [Wl] at hE
 simp only [Zab,if_true] at hE
 have b1:1*24<=140737488355328:=by decide
 have hnc:(chs.length+1)*24<=140737488355328:=by omega
 have hCH:(chs.map chV).length=chs.length:=by simp
 generalize chs.map chV=CH at *
 generalize h.map Zb=HB at *
 clear hF1 hF2
 rcases hA 3 0 with hB | hB <;> clear hA <;> rcases he with ⟨rfl,rfl⟩ | ⟨rfl,rfl⟩
 all_goals (simp -implicitDefEqProofs only [EQA,ZN,Xe,Xc,Xa,Xg,ZA,unG,ZM,↓reduceIte,gcT,gcA,Zy,Zt,Zq,ZC,Zgn,Zf1,ZiO,Zie,hn,hw,hB,hE,hnc,hCH,ZmB,Zh1,Zp,AVal.cells,Z3,kOk,Xq,bne_self_eq_false])
theorem ZMo (most:Int) (wh:Bool) (sz:List Int) (i:Int) (p:Nat) (h:Zc) (Y:List AVal) (hY:Y.drop p=h.map Zb) (hp:p<=Y.length) (W:List AVal) (kw:Nat) (FR:List AVal) (hFR:FR.length=kw) (h27:evL FC PR1 BY 0 [19,17,8] Zim [(19,.int .i64 0),(17,.lst false FR),(8,.sl 0 0 0 kw)] [.row 0 26 W]=some (.exit 4,[(110,.bool false),(19,.int .i64 (kw:Int)),(17,.lst false FR),(8,.sl 0 0 0 kw)],[.row 0 26 W])) (hl:([h]).flatten.length<=4000000000) (e:Int) (he:(wh=true/\e=0)\/(wh=false/\e=149)) (hF1:(Zv most ([h]).flatten).1.map frP=FR) (hF2:(Zv most ([h]).flatten).2.2=e) :
  Zhk (evC FC PR1 BY 0 ZgG ((67,.bool false)::[(15,.int .i64 (i)),(14,.lst true []),(9,.bool wh),(8,.sl 0 0 0 kw),(7,.sl 1 0 p h.length),(2,.int .i64 most),(1,.lst false (sz.map (AVal.int .i64 ·)))]) [.row 0 26 W,.row 0 1 Y]):=by
 have hn:=fun σ sq own=>ZaD (ZcC σ sq own e)
 have hw:=fun σ sq own=>ZaD (ZhL σ sq own)
 have hA:=fun sq own=>ZiF most ([h]) (by simp) hl (by simp) (σ:=[.row 0 26 W,.frow 0 1 Y,.row 0 1 ([h].map chV)]) (t:=2) (g:=0) (n:=1) (sq:=sq) (own:=own) (by simp) rfl
 rw [hF1,hF2] at hA
 simp only [Xo,XA,chV] at hA
 have hE:=fun {σ:Za} hs=>Zgl (fz:=false) (g:=0) (r:=1) hY hp (σ:=σ) hs (k:=h.length) (Xx _)
 rw [Wl] at hE
 simp only [Zab,Xi,if_false] at hE
 have b1:1*24<=140737488355328:=by decide
 generalize h.map Zb=HB at *
 clear hF1 hF2
 rcases hA 3 0 with hB | hB <;> clear hA <;> rcases he with ⟨rfl,rfl⟩ | ⟨rfl,rfl⟩
 all_goals (simp -implicitDefEqProofs only [EQA,ZN,ZaI,Xe,Xc,Xa,Xg,ZA,unG,ZM,↓reduceIte,gcT,gcA,Zy,Zt,Zi,Zq,ZO,Zl,ZF,Zz,ZC,Zgn,Zf1,ZiO,Zie,hn,hw,hB,b1,hE,hFR,h27,Zh1,Zp,AVal.cells,Z3,kOk,Xq,bne_self_eq_false,WI])
theorem ZKM (most:Int) (wh:Bool) (sz:List Int) (i:Int) (p:Nat) (h:Zc) (Y:List AVal) (hY:Y.drop p=h.map Zb) (hp:p<=Y.length) (chs:List Zc) (hc:chs.length<=60) (W:List AVal) (kw:Nat) (FR:List AVal) (hFR:FR.length=kw) (h27:evL FC PR1 BY 0 [19,17,8] Zim [(19,.int .i64 0),(17,.lst false FR),(8,.sl 0 0 0 kw)] [.row 0 26 W]=some (.exit 4,[(110,.bool false),(19,.int .i64 (kw:Int)),(17,.lst false FR),(8,.sl 0 0 0 kw)],[.row 0 26 W])) (hl:(chs++[h]).flatten.length<=4000000000) (e:Int) (he:(wh=true/\e=0)\/(wh=false/\e=149)) (hF1:(Zv most (chs++[h]).flatten).1.map frP=FR) (hF2:(Zv most (chs++[h]).flatten).2.2=e) :
  Zhk (evC FC PR1 BY 0 ZgG ((67,.bool false)::[(15,.int .i64 (i)),(14,.sl 0 0 0 chs.length),(9,.bool wh),(8,.sl 1 0 0 kw),(7,.sl 2 0 p h.length),(2,.int .i64 most),(1,.lst false (sz.map (AVal.int .i64 ·)))]) [.row 0 1 (chs.map chV),.row 0 26 W,.frow 0 1 Y]):=by
 have hn:=fun σ sq own=>ZaD (ZcC σ sq own e)
 have hw:=fun σ sq own=>ZaD (ZhL σ sq own)
 have hA:=fun sq own=>ZiF most (chs++[h]) (by simp) hl (by simp;omega) (σ:=[.row 1 1 ((chs++[h]).map chV),.row 0 26 W,.frow 0 1 Y,.free]) (t:=0) (g:=1) (n:=(chs.length+1)) (sq:=sq) (own:=own) (by simp) rfl
 rw [hF1,hF2] at hA
 simp only [X9,Xo,XA,chV] at hA
 have hE:=fun {σ:Za} hs=>Zgl (fz:=true) (g:=0) (r:=2) hY hp (σ:=σ) hs (k:=h.length) (Xx _)
 rw [Wl] at hE
 simp only [Zab,if_true] at hE
 have b1:1*24<=140737488355328:=by decide
 have hnc:(chs.length+1)*24<=140737488355328:=by omega
 have hCH:(chs.map chV).length=chs.length:=by simp
 generalize chs.map chV=CH at *
 generalize h.map Zb=HB at *
 clear hF1 hF2
 rcases hA 4 0 with hB | hB <;> clear hA <;> rcases he with ⟨rfl,rfl⟩ | ⟨rfl,rfl⟩
 all_goals (simp -implicitDefEqProofs only [EQA,ZN,ZaI,Xe,Xc,Xa,Xg,ZA,unG,ZM,↓reduceIte,gcT,gcA,Zy,Zt,Zi,Zq,ZO,Zl,ZF,Zz,ZC,Zgn,Zf1,ZiO,Zie,hn,hw,hB,hE,hnc,hCH,hFR,h27,Zh1,Zp,AVal.cells,Z3,kOk,Xq,bne_self_eq_false])
theorem ZAk (most:Int) (wh:Bool) (sz:List Int) (i:Int) (hl:([([]:Zc)]).flatten.length<=4000000000) (e:Int) (he:(wh=true/\e=0)\/(wh=false/\e=149)) (hF1:(Zv most ([([]:Zc)]).flatten).1.map frP=[]) (hF2:(Zv most ([([]:Zc)]).flatten).2.2=e) :
  Zhk (evC FC PR1 BY 0 ZgG ((67,.bool false)::[(15,.int .i64 (i)),(14,.lst true []),(9,.bool wh),(8,.lst true []),(7,.lst true []),(2,.int .i64 most),(1,.lst false (sz.map (AVal.int .i64 ·)))]) []):=by
 have hn:=fun σ sq own=>ZaD (ZcC σ sq own e)
 have hw:=fun σ sq own=>ZaD (ZhL σ sq own)
 have hA:=fun sq own=>ZiF most ([([]:Zc)]) (by simp) hl (by simp) (σ:=[.row 0 1 ([[]].map chV)]) (t:=0) (g:=0) (n:=1) (sq:=sq) (own:=own) (by simp) rfl
 rw [hF1,hF2] at hA
 simp only [Xo,XA,chV] at hA
 have hv0:∀ σ:Za,viewAs σ [AVal.lst true []]=some ([.lst false []],[]):=fun _=>rfl
 have b1:1*24<=140737488355328:=by decide
 clear hF1 hF2
 rcases hA 1 0 with hB | hB <;> clear hA <;> rcases he with ⟨rfl,rfl⟩ | ⟨rfl,rfl⟩
 all_goals (simp -implicitDefEqProofs only [EQA,ZN,Xc,Xa,Xg,ZA,unG,ZM,↓reduceIte,gcT,gcA,Zy,Zt,Zq,ZC,Zgn,Zf1,ZiO,Zie,hn,hw,hB,b1,hv0,ZmB,Zh1,Zp,AVal.cells,Z3,kOk,Xq,bne_self_eq_false,WI])
theorem ZHv (most:Int) (wh:Bool) (sz:List Int) (i:Int) (chs:List Zc) (hc:chs.length<=60) (hl:(chs++[([]:Zc)]).flatten.length<=4000000000) (e:Int) (he:(wh=true/\e=0)\/(wh=false/\e=149)) (hF1:(Zv most (chs++[([]:Zc)]).flatten).1.map frP=[]) (hF2:(Zv most (chs++[([]:Zc)]).flatten).2.2=e) :
  Zhk (evC FC PR1 BY 0 ZgG ((67,.bool false)::[(15,.int .i64 (i)),(14,.sl 0 0 0 chs.length),(9,.bool wh),(8,.lst true []),(7,.lst true []),(2,.int .i64 most),(1,.lst false (sz.map (AVal.int .i64 ·)))]) [.row 0 1 (chs.map chV)]):=by
 have hn:=fun σ sq own=>ZaD (ZcC σ sq own e)
 have hw:=fun σ sq own=>ZaD (ZhL σ sq own)
 have hA:=fun sq own=>ZiF most (chs++[([]:Zc)]) (by simp) hl (by simp;omega) (σ:=[.row 1 1 ((chs++[[]]).map chV),.free]) (t:=0) (g:=1) (n:=(chs.length+1)) (sq:=sq) (own:=own) (by simp) rfl
 rw [hF1,hF2] at hA
 simp only [X9,Xo,XA,chV] at hA
 have hv0:∀ σ:Za,viewAs σ [AVal.lst true []]=some ([.lst false []],[]):=fun _=>rfl
 have b1:1*24<=140737488355328:=by decide
 have hnc:(chs.length+1)*24<=140737488355328:=by omega
 have hCH:(chs.map chV).length=chs.length:=by simp
 generalize chs.map chV=CH at *
 clear hF1 hF2
 rcases hA 2 0 with hB | hB <;> clear hA <;> rcases he with ⟨rfl,rfl⟩ | ⟨rfl,rfl⟩
 all_goals (simp -implicitDefEqProofs only [EQA,ZN,Xe,Xc,Xa,Xg,ZA,unG,ZM,↓reduceIte,gcT,gcA,Zy,Zt,Zq,ZC,Zgn,Zf1,ZiO,Zie,hn,hw,hB,hnc,hCH,hv0,ZmB,Zh1,Zp,AVal.cells,Z3,kOk,Xq,bne_self_eq_false])
end
section
def ZhF:=xw1 Zv3 Zgz rfl
theorem Zr3 (most:Int):∀ ps:List Zn,Zhs most (ps.map ZcZ)=((ZaB most ps).1.map ZcZ,(ZaB most ps).2)
 | []=>rfl
 | p::ps=>by
  have ih:=Zr3 most ps
  simp only [Xo,Zhs,ZaB]
  rw [ih]
  have e:ZbS (ZcZ p).1 (ZcZ p).2=ZV p:=rfl
  rw [e]
  split <;> rfl
theorem ZLc (most:Int) {ps:List Zn} (hg:∀ p ∈ ps,ZbA p):(Zv most (Za5 ps)).1.map frP=(ZaB most ps).1.map (fun p=>frP (ZcZ p))/\(Zv most (Za5 ps)).2.2=if (ZaB most ps).2 then 0 else 149:=by
 have h:=Zsh most (ps.map ZcZ) (by
  intro x hx
  obtain ⟨p,hp,rfl⟩:=X0.1 hx
  exact (hg p hp).1)
 rw [Zr3] at h
 have e:((ps.map ZcZ).flatMap fun x=>ZbS x.1 x.2)=Za5 ps:=by
  unfold Za5
  rw [List.flatMap_map]
  rfl
 rw [e] at h
 refine ⟨?_,h.2⟩
 rw [h.1,Xay]
 rfl
theorem ifb (b:Bool) {e:Int} (h:e=if b then 0 else 149):(b=true/\e=0)\/(b=false/\e=149):=by
 subst h
 cases b
 ·exact Xv ⟨rfl,rfl⟩
 ·exact Xr ⟨rfl,rfl⟩
theorem ZDG (l:List Zn) (sz:List Int) (m:Int) (hok:∀ p ∈ l,OkW (Ze p)):E1 3 [.lst false (l.map Zs),.lst false (sz.map (AVal.int .i64 ·)),.int .i64 m] []=some (.bool true,[]):=by
 rw [ZbN (by rfl) ZFk]
 obtain ⟨most,hM⟩:∃ x,IntKind.i64.wrap (20+IntKind.i64.wrap (((XR IntKind.i64.bits m &&& XR IntKind.i64.bits 255).toNat:Nat):Int))=x:=⟨_,rfl⟩
 have z0:((0:Nat):Int)=0:=rfl
 have hSZ:ZI (.lst false (sz.map (AVal.int .i64 ·)))=true:=rfl
 obtain ⟨i',ps,t',s',hn,hg,hst,h6⟩:=ev6 most _ hSZ l hok 12 0 [] _ [] (by omega) (by simp) (by simp) (Xr ⟨rfl,rfl,rfl⟩)
 have hG:∀ p ∈ ps,ZbA p:=fun p hp=>(hg p hp).1
 have hsm:(Za5 ps).length<=4000000000:=Wy (Zpt hG) (by have:=X3 268435460 hn;omega)
 obtain ⟨hf1,hf2⟩:=ZLc most hG
 have hwl:=ZrL most ps
 rcases hst with ⟨rfl,rfl,rfl⟩ | ⟨h1,h2,rfl,rfl⟩ | ⟨h1,rfl,rfl⟩
 ·have h18:=ZKZ most true sz
  have fn:=ZhQ most
  unfold Ziv at h6
  rw [z0] at h6 h18
  rcases h18 with h18 | ⟨j,chs,c1,c2,h18⟩
  ·obtain ⟨tm,σ',hk⟩:=ZAk most true sz 0 (by simp) 0 (Xr ⟨rfl,rfl⟩) (by simp [fn]) (by simp [fn])
   generalize l.map Zs=S at *
   generalize sz.map (AVal.int .i64 ·)=Z at *
   simp -implicitDefEqProofs only [EQA,ZN,Xe,Xc,Xa,reduceCtorEq,↓reduceIte,gcT,gcA,Zy,Zt,Zq,ZC,ZhI,Zge,ZhU,Zgz,ZhF,hM,h6,h18,hk]
  ·obtain ⟨tm,σ',hk⟩:=ZHv most true sz j chs c1 (by simp [c2]) 0 (Xr ⟨rfl,rfl⟩) (by simp [c2,fn]) (by simp [c2,fn])
   generalize l.map Zs=S at *
   generalize sz.map (AVal.int .i64 ·)=Z at *
   simp -implicitDefEqProofs only [EQA,ZN,Xe,Xc,Xa,reduceCtorEq,↓reduceIte,gcT,gcA,Zy,Zt,Zq,ZC,ZhI,Zge,ZhU,Zgz,ZhF,hM,h6,h18,hk]
 ·have hf:=Zvg h2 h1
  rw [h2,XA] at hf1
  rw [hf] at hf2
  have h18:=ZxR most false sz (Za5 ps) (by omega)
  unfold Ziv at h6
  rw [z0] at h6 h18
  rcases h18 with h18 | ⟨j,p',h',chs,c1,c2,c3,c4,h18⟩
  ·obtain ⟨tm,σ',hk⟩:=ZHy most false sz 0 0 (Za5 ps) ((Za5 ps).map Zb) rfl (W9 _) (by simpa using hsm) 149 (Xv ⟨rfl,rfl⟩) (by simpa using hf1) (by simpa using hf2)
   generalize l.map Zs=S at *
   generalize sz.map (AVal.int .i64 ·)=Z at *
   generalize (Za5 ps).map Zb=Y at *
   simp -implicitDefEqProofs only [EQA,ZN,ZaI,Xe,Xc,Xa,reduceCtorEq,↓reduceIte,gcT,gcA,Zy,Zt,Zi,Zq,ZO,Zl,ZF,Zz,ZC,ZhI,Zge,ZhU,Zgz,ZhF,hM,h6,h18,hk]
  ·have cf:(chs++[h']).flatten=Za5 ps:=by simp [<-c4]
   obtain ⟨tm,σ',hk⟩:=ZzS most false sz j p' h' ((Za5 ps).map Zb) c1 c2 chs c3 (by rw [cf];exact hsm) 149 (Xv ⟨rfl,rfl⟩) (by rw [cf];exact hf1) (by rw [cf];exact hf2)
   generalize l.map Zs=S at *
   generalize sz.map (AVal.int .i64 ·)=Z at *
   generalize (Za5 ps).map Zb=Y at *
   simp -implicitDefEqProofs only [EQA,ZN,ZaI,Xe,Xc,Xa,reduceCtorEq,↓reduceIte,gcT,gcA,Zy,Zt,Zi,Zq,ZO,Zl,ZF,Zz,ZC,ZhI,Zge,ZhU,Zgz,ZhF,hM,h6,h18,hk]
 ·have h27:=Zwv (ZaB most ps).1 (fun p hp=>⟨(hg p (Zn6 hp)).1,ZKv (hg p (Zn6 hp)).2⟩) (by omega) _ 0 rfl (W9 _)
  have he:=ifb _ hf2
  have h18:=ZDc most (ZaB most ps).2 sz (Za5 ps) (by omega) ((ZaB most ps).1.map Zs) (ZaB most ps).1.length
  unfold Ziv at h6
  rw [z0] at h6 h18 h27
  rcases h18 with h18 | ⟨j,p',h',chs,c1,c2,c3,c4,h18⟩
  ·obtain ⟨tm,σ',hk⟩:=ZMo most (ZaB most ps).2 sz 0 0 (Za5 ps) ((Za5 ps).map Zb) rfl (W9 _) ((ZaB most ps).1.map Zs) (ZaB most ps).1.length _ (by simp) h27 (by simpa using hsm) _ he (by simpa using hf1) (by simp)
   generalize l.map Zs=S at *
   generalize sz.map (AVal.int .i64 ·)=Z at *
   generalize (Za5 ps).map Zb=Y at *
   generalize (ZaB most ps).1.map Zs=W at *
   simp -implicitDefEqProofs only [EQA,ZN,ZaI,Xe,Xc,Xa,Xg,reduceCtorEq,↓reduceIte,gcT,gcA,Zy,Zt,Zi,Zq,ZO,Zl,ZF,Zz,ZC,ZhI,Zge,ZhU,Zgz,ZhF,hM,h6,h18,hk]
  ·have cf:(chs++[h']).flatten=Za5 ps:=by simp [<-c4]
   obtain ⟨tm,σ',hk⟩:=ZKM most (ZaB most ps).2 sz j p' h' ((Za5 ps).map Zb) c1 c2 chs c3 ((ZaB most ps).1.map Zs) (ZaB most ps).1.length _ (by simp) h27 (by rw [cf];exact hsm) _ he (by rw [cf];exact hf1) (by rw [cf])
   generalize l.map Zs=S at *
   generalize sz.map (AVal.int .i64 ·)=Z at *
   generalize (Za5 ps).map Zb=Y at *
   generalize (ZaB most ps).1.map Zs=W at *
   simp -implicitDefEqProofs only [EQA,ZN,ZaI,Xe,Xc,Xa,Xg,reduceCtorEq,↓reduceIte,gcT,gcA,Zy,Zt,Zi,Zq,ZO,Zl,ZF,Zz,ZC,ZhI,Zge,ZhU,Zgz,ZhF,hM,h6,h18,hk]
end
section
open Go.RowKit
variable {R:Nat}
theorem ZQT {y:List AVal} (h:TyR R Zjj y):∃ p:Zn,ZlJ R p/\Zb9 true y=Zs p:=by
 obtain ⟨p,h1,h2⟩:=ZC1 (x:=Zb9 true y) ⟨y,h,rfl⟩
 exact ⟨p,h1,h2⟩
theorem ZHo {x:AVal} (h:Zkd R false (.slice true Zjj) x):∃ l:List Zn,(l.length<=R/\∀ p ∈ l,ZlJ R p)/\x=.lst false (l.map Zs):=by
 obtain ⟨y,h,rfl⟩:=h
 obtain ⟨l,h1,rfl⟩:=Zh0 (fun _=>ZQT) h
 exact ⟨l,h1,rfl⟩
theorem ZIQ {x:AVal} (h:Zkd R false (.slice false (.int .i64)) x):∃ l:List Int,(l.length<=R/\∀ n ∈ l,okI n)/\x=.lst false (l.map (AVal.int .i64)):=by
 obtain ⟨y,h,rfl⟩:=h
 obtain ⟨l,h1,rfl⟩:=Zu0 h
 exact ⟨l,h1,rfl⟩
end
section
open Go.Shelf Go.RowKit
section
variable {P:Program} {ρ:Ren}
theorem Zna (W:World) (dT sT ty elem:TypeId) (g o dLen dCap:Nat) (A:Option Addr) (sLen sCap:Nat) (cur:Array Value) (t:TypeId) (cs:List Value)
  (hu:P.underlying dT=some (.slice elem)) (hs:(P.info? elem).map (·.size)=some 1) (hg:W.heap[g]?=some (.cells cur t (0,0))) (hn:cs.length=sLen) (hd:sLen<=dLen)
  (hsrc:sLen=0\/∃ a,A=some a/\∀ j v,cs[j]?=some v->W.cell? (a.add j)=some v) (hfit:o+cs.length<=cur.size) (h1:∀ v ∈ cs,v.oneCell'=true) :
  ∃ W2 Y,(Builtin.copy_ #[dT,sT] ty #[.slice (some ⟨g,o,none⟩) dLen dCap,.slice A sLen sCap]).run P W=.ok (goInt sLen) W2/\W2.heap[g]?=some (.cells Y t (0,0)) /\
   Y.toList=cur.toList.take o++cs++cur.toList.drop (o+sLen)/\W.grownBy W2 (some g)/\W2.heap.size=W.heap.size:=by
 rcases hsrc with h0 | ⟨a,rfl,hsrc⟩
 ·have hc:cs=[]:=Xy (by omega)
  subst hc
  subst h0
  exact ⟨W,cur,run_copy_none W dT sT ty elem _ _ _ _ _ _ hu hs (by simp),hg,by simp,⟨rfl,rfl,rfl,Xx _,fun _ _ _=>rfl⟩,rfl⟩
 ·have h:=run_copy_row (P:=P) W dT sT ty elem g o dLen dCap a sLen sCap cur t cs hu hs hg (by rw [hn];exact (Nat.min_eq_left hd).symm) hsrc hfit h1
  rw [hn] at h
  refine ⟨_,_,h,setRow_heap _ _ _ _ _ _ hg,by simp,⟨rfl,rfl,rfl,by simp,fun k _ hk=>setRow_other _ _ _ _ (fun e=>hk (by rw [e]))⟩,by simp⟩
set_option maxRecDepth 100000 in
theorem ZnF (L:LaysM.n290 P ρ) (A:Option Addr) (l c n:Nat) (olds:List Value) (w:World) (ho:olds.length=l) (hlc:l<=c) (hn:1<=n)
  (hlim:l+n<=140737488355328) (hc2:c<=140737488355328) (hsrc:l=0\/∃ a,A=some a/\∀ j v,olds[j]?=some v->w.cell? (a.add j)=some v) (h1:∀ v ∈ olds,v.oneCell'=true) :
  Calls P (ρ.f 290) #[.slice A l c,.int .i64 n] w fun e w'=>∃ cap2 cells,e=.returned (.slice (some ⟨w.heap.size,0,none⟩) l cap2)/\w'.heap[w.heap.size]?=some (.cells cells (ρ.t 5) (0,0)) /\
   cells.size=cap2/\cells.toList.take l=olds/\l+n<=cap2/\cap2<=maxLen/\Below w.heap.size w w':=by
 have mixed:=L.mixed
 have t5:=L.t5;have a5:=L.a5;have z5:=L.z5;have v5:=L.v5
 have t37:=L.t37;have a37:=L.a37;have z37:=L.z37;have v37:=L.v37
 have t3:=L.t3;have a3:=L.a3;have z3:=L.z3;have v3:=L.v3
 have t0:=L.t0;have a0:=L.a0;have z0:=L.z0;have v0:=L.v0
 have t4:=L.t4;have a4:=L.a4;have z4:=L.z4;have v4:=L.v4
 obtain ⟨i0,hi,hz0,hz1,hz2⟩:=info_parts L.i5
 have hsz1:(P.info? (ρ.t 5)).map (·.size)=some 1:=by rw [hi];simp [hz1]
 by_cases hC:l+n < 2*c
 ·have happ:=Lib.run_append_nil_zeros (P:=P) w (ρ.t 37) (ρ.t 3) (ρ.t 37) (ρ.t 5) i0 (.int .u8 0) .i64 .i64 L.t37 L.t3 hi hz0 (2*c) (by omega) (by omega) (by omega) (by rw [hz2];omega)
  rw [show (((2*c:Nat)):Int)=2*(c:Int) by omega] at happ
  generalize hcap:grownCap w (2*c) 0 (ρ.t 5)=cap2 at happ
  have hcapge:2*c<=cap2:=by rw [<-hcap];exact grownCap_ge w _ 0 (ρ.t 5)
  have hcaple:cap2<=maxLen:=by rw [<-hcap];exact grownCap_le_maxLen w _ 0 (ρ.t 5) (by unfold maxLen;omega)
  generalize hZ:(Builtin.zeroCells (Value.int .u8 0).cells (2*c)++Builtin.zeroCells (Value.int .u8 0).cells (cap2 - (2*c)))=Z at happ
  have hZs:Z.size=cap2:=by rw [<-hZ];simp [size_zeroCells,Value.cells];omega
  clear hcap hZ
  have hsrc1:l=0\/∃ a,A=some a/\∀ j v,olds[j]?=some v->(w.alloc (.cells Z (ρ.t 5))).drew.cell? (a.add j)=some v:=hsrc.imp id fun ⟨a,e,h⟩=>⟨a,e,fun j v hj=>(World.cell?_of_block (a:=a.add j) (Below.heap_alloc w _ _ (World.block_lt_of_cell? w _ (h j v hj)))).trans (h j v hj)⟩
  obtain ⟨W2,Y,hcopy,hY,hYl,hgb,hsz⟩:=Zna (P:=P) (w.alloc (.cells Z (ρ.t 5))).drew (ρ.t 37) (ρ.t 37) (ρ.t 3) (ρ.t 5) w.heap.size 0 (2*c) cap2 A l c Z (ρ.t 5) olds L.t37 hsz1 (heap_alloc_new w _) ho (by omega) hsrc1 (by omega) h1
  go_enter_defers L.f290,Body.n290_ntmps ρ
  go_wp2_with (at_builtin;refine Lib.wpList_append_run _ rfl _ _ _ _ rfl _ _ rfl rfl _ _ happ ?_)
  refine leaves_cons (f:=(ρ.f 324)) (args:=#[]) (by simp) (enters_of L.f324 (by kernel_rfl) rfl _ _) ?_
  refine (Any.growSlice_catch_idle { L with } _).mono ?_
  rintro e u' w'' ⟨rfl,rfl,rfl⟩
  refine ⟨_,results_tmp rfl _ _ _,?_⟩
  refine ⟨cap2,Y,rfl,hY,?_,?_,by omega,hcaple,?_⟩
  ·have h3:=congrArg Xae hYl
   simp only [Xk,Wb,Xar,XJ,XM] at h3
   omega
  ·rw [hYl,Xar,Xw,X5 (by omega),XK (by omega)]
  ·have hs1:(w.alloc (.cells Z (ρ.t 5))).drew.heap.size=w.heap.size+1:=by show (w.alloc (.cells Z (ρ.t 5))).heap.size=_;simp
   exact ⟨hgb.os,hgb.tape,hgb.output,by omega,fun k hk=>(hgb.block k (by omega) (fun e=>by injection e with e;omega)).trans (Below.heap_alloc w _ k hk)⟩
 ·have happ:=Lib.run_append_nil_zeros (P:=P) w (ρ.t 37) (ρ.t 3) (ρ.t 37) (ρ.t 5) i0 (.int .u8 0) .i64 .i64 L.t37 L.t3 hi hz0 (l+n) (by omega) (by omega) (by omega) (by rw [hz2];omega)
  rw [show (((l+n:Nat)):Int)=(l:Int)+(n:Int) by omega] at happ
  generalize hcap:grownCap w (l+n) 0 (ρ.t 5)=cap2 at happ
  have hcapge:l+n<=cap2:=by rw [<-hcap];exact grownCap_ge w _ 0 (ρ.t 5)
  have hcaple:cap2<=maxLen:=by rw [<-hcap];exact grownCap_le_maxLen w _ 0 (ρ.t 5) (by unfold maxLen;omega)
  generalize hZ:(Builtin.zeroCells (Value.int .u8 0).cells (l+n)++Builtin.zeroCells (Value.int .u8 0).cells (cap2 - (l+n)))=Z at happ
  have hZs:Z.size=cap2:=by rw [<-hZ];simp [size_zeroCells,Value.cells];omega
  clear hcap hZ
  have hsrc1:l=0\/∃ a,A=some a/\∀ j v,olds[j]?=some v->(w.alloc (.cells Z (ρ.t 5))).drew.cell? (a.add j)=some v:=hsrc.imp id fun ⟨a,e,h⟩=>⟨a,e,fun j v hj=>(World.cell?_of_block (a:=a.add j) (Below.heap_alloc w _ _ (World.block_lt_of_cell? w _ (h j v hj)))).trans (h j v hj)⟩
  obtain ⟨W2,Y,hcopy,hY,hYl,hgb,hsz⟩:=Zna (P:=P) (w.alloc (.cells Z (ρ.t 5))).drew (ρ.t 37) (ρ.t 37) (ρ.t 3) (ρ.t 5) w.heap.size 0 (l+n) cap2 A l c Z (ρ.t 5) olds L.t37 hsz1 (heap_alloc_new w _) ho (by omega) hsrc1 (by omega) h1
  go_enter_defers L.f290,Body.n290_ntmps ρ
  go_wp2_with (at_builtin;refine Lib.wpList_append_run _ rfl _ _ _ _ rfl _ _ rfl rfl _ _ happ ?_)
  refine leaves_cons (f:=(ρ.f 324)) (args:=#[]) (by simp) (enters_of L.f324 (by kernel_rfl) rfl _ _) ?_
  refine (Any.growSlice_catch_idle { L with } _).mono ?_
  rintro e u' w'' ⟨rfl,rfl,rfl⟩
  refine ⟨_,results_tmp rfl _ _ _,?_⟩
  refine ⟨cap2,Y,rfl,hY,?_,?_,by omega,hcaple,?_⟩
  ·have h3:=congrArg Xae hYl
   simp only [Xk,Wb,Xar,XJ,XM] at h3
   omega
  ·rw [hYl,Xar,Xw,X5 (by omega),XK (by omega)]
  ·have hs1:(w.alloc (.cells Z (ρ.t 5))).drew.heap.size=w.heap.size+1:=by show (w.alloc (.cells Z (ρ.t 5))).heap.size=_;simp
   exact ⟨hgb.os,hgb.tape,hgb.output,by omega,fun k hk=>(hgb.block k (by omega) (fun e=>by injection e with e;omega)).trans (Below.heap_alloc w _ k hk)⟩
set_option maxRecDepth 100000 in
theorem Zkw (L:LaysM.n181 P ρ) (b:Nat) (ao:Option Addr) (l cap:Nat) (w:World) (c0:w.cell? ⟨b,0,none⟩=some (.slice ao l cap)) (c1:w.cell? ⟨b,1,none⟩=some (.int .i64 0)) (hmax:l<=maxLen) :
  Calls P (ρ.f 181) #[.pointer (some ⟨b,0,none⟩)] w fun e w'=>e=.returned (.int .i64 l)/\∃ n,w'=w.drewN n:=by
 have mixed:=L.mixed
 have t5:=L.t5;have a5:=L.a5;have z5:=L.z5;have v5:=L.v5
 have t130:=L.t130;have a130:=L.a130;have z130:=L.z130;have v130:=L.v130
 have t3:=L.t3;have a3:=L.a3;have z3:=L.z3;have v3:=L.v3
 have t0:=L.t0;have a0:=L.a0;have z0:=L.z0;have v0:=L.v0
 have t93:=L.t93;have u93:=run_underlying L.t93;have a93:=L.a93;have z93:=L.z93;have v93:=L.v93
 have t37:=L.t37;have a37:=L.a37;have z37:=L.z37;have v37:=L.v37
 unfold maxLen at hmax
 go_enter L.f181,Body.n181_ntmps ρ
 go_wp2
 go_region_o
 all_goals (go_wp2;go_ret;exact ⟨by simp,1,rfl⟩)
def Zj7 (w:World) (T:TypeId) (R:Nat->Option Value) (b l n:Nat) (olds:List Value) (lr:Int) (e:TypeId) (w':World):Prop :=
 ∃ cap2 cells,LibA.Three w' b 0 T R (.slice (some ⟨w.heap.size,0,none⟩) (l+n) cap2) (.int .i64 0) (.int .i8 lr)/\w'.heap[w.heap.size]?=some (.cells cells e (0,0)) /\
  cells.size=cap2/\cells.toList.take l=olds/\l+n<=cap2/\cap2<=maxLen/\w.grownBy w' (some b)
theorem Zoa {w:World} {b:Nat} {T:TypeId} {R:Nat->Option Value} {x y z:Value} (h:LibA.Three w b 0 T R x y z) (v1 s:Value) :
  LibA.Three (((w.setCell ⟨b,0,none⟩ v1).setCell ⟨b,1,none⟩ (.int .i64 0)).setCell ⟨b,0,none⟩ s) b 0 T R s (.int .i64 0) z:=((h.set0 v1).set1 (.int .i64 0)).set0 s
end
end
section
open Go.Shelf Go.RowKit
section
variable {P:Program} {ρ:Ren}
set_option maxRecDepth 100000 in
theorem ZHC (L:LaysM.n252 P ρ) (T:TypeId) (R:Nat->Option Value) (b:Nat)  (n:Nat) (lr:Int) (w:World)
  (hbk:LibA.Three w b 0 T R (.slice none 0 0) (.int .i64 0) (.int .i8 lr)) (hn:1<=n) (h64:n<=64) :
  Calls P (ρ.f 252) #[.pointer (some ⟨b,0,none⟩),.int .i64 n] w fun e w'=>e=.returned (.int .i64 0)/\Zj7 w T R b 0 n [] lr (ρ.t 5) w':=by
 have mixed:=L.mixed
 have t5:=L.t5;have a5:=L.a5;have z5:=L.z5;have v5:=L.v5
 have t130:=L.t130;have a130:=L.a130;have z130:=L.z130;have v130:=L.v130
 have t3:=L.t3;have a3:=L.a3;have z3:=L.z3;have v3:=L.v3
 have t4:=L.t4;have a4:=L.a4;have z4:=L.z4;have v4:=L.v4
 have t0:=L.t0;have a0:=L.a0;have z0:=L.z0;have v0:=L.v0
 have t93:=L.t93;have u93:=run_underlying L.t93;have a93:=L.a93;have z93:=L.z93;have v93:=L.v93
 have t131:=L.t131;have a131:=L.a131;have z131:=L.z131;have v131:=L.v131
 have t37:=L.t37;have a37:=L.a37;have z37:=L.z37;have v37:=L.v37
 have t75:=L.t75;have a75:=L.a75;have z75:=L.z75;have v75:=L.v75
 have e181:∀ args w,(callFunc (ρ.f 181) args).run P w=.ok (.enter (ρ.f 181) args) w:=enters_of L.f181 (by kernel_rfl) rfl
 have e251:∀ args w,(callFunc (ρ.f 251) args).run P w=.ok (.enter (ρ.f 251) args) w:=enters_of L.f251 (by kernel_rfl) rfl
 have e290:∀ args w,(callFunc (ρ.f 290) args).run P w=.ok (.enter (ρ.f 290) args) w:=enters_of L.f290 (by kernel_rfl) rfl
 have hnil:∀ W,(binOp .eql (ρ.t 37) (.slice none 0 0) (.slice none 0 0)).run P W=.ok (.bool true) W:=fun W=>Lib.run_eql_slice_nil_nil W _ _ L.t37
 obtain ⟨i0,hi,hz0,hz1,hz2⟩:=info_parts L.i5
 obtain ⟨M,hM⟩:∃ M,M=madeCells (Value.int .u8 0).cells ((64:Int).toNat*i0.size):=⟨_,rfl⟩
 have hMs:M.size=64:=by rw [hM,size_madeCells,hz1];rfl
 have hmk:∀ W:World,(Instr.makeSlice (ρ.t 37) (.int .i64 (n:Int)) (.int .i64 64)).run P W=.ok (.slice (some ⟨W.heap.size,0,none⟩) n 64) (W.alloc (.cells M (ρ.t 5))):=fun W=>by
  have h:=run_makeSlice (P:=P) W (ρ.t 37) (ρ.t 5) i0 (.int .u8 0) L.t37 hi hz0 .i64 .i64 (n:Int) 64 (by omega) (by omega) (by rw [hz1];decide) (by rw [hz2];decide) (by decide)
  rw [<-hM] at h
  simpa using h
 clear hM
 go_enter L.f252,Body.n252_ntmps ρ
 go_wp2_with (go_at_fn (ρ.f 181);refine (Zkw { L with } b none 0 0 _ hbk.c0 hbk.c1 (by unfold maxLen;omega)).mono ?_)
 rintro e W0 ⟨rfl,k,hW0⟩
 have hbk0:LibA.Three W0 b 0 T R (.slice none 0 0) (.int .i64 0) (.int .i8 lr):=by rw [hW0];exact hbk
 have c0:W0.cell? ⟨b,0,none⟩=some (.slice none 0 0):=hbk0.c0
 have c1:W0.cell? ⟨b,1,none⟩=some (.int .i64 0):=hbk0.c1
 have f0:W0.frozen? ⟨b,0,none⟩=false:=hbk0.f 0
 have f1:W0.frozen? ⟨b,1,none⟩=false:=hbk0.f 1
 have hbW0:=hbk0.lt
 have c0a:∀ o,(W0.alloc o).cell? ⟨b,0,none⟩=some (.slice none 0 0):=fun o=>(World.cell?_of_block (a:=⟨b,0,none⟩) (Below.heap_alloc W0 o b hbW0)).trans c0
 have f0a:∀ o,(W0.alloc o).frozen? ⟨b,0,none⟩=false:=fun o=>(World.frozen?_of_block (a:=⟨b,0,none⟩) (Below.heap_alloc W0 o b hbW0)).trans f0
 have HW0:=Lib.hid hW0
 clear hW0
 go_wp2_with (go_at_fn (ρ.f 251);refine (Any.Buffer_tryGrow_none_at { L with } b 0 _ 0 0 n _ c0 (Xx _) (W9 _) (by omega)).mono ?_;rintro e w' ⟨rfl,rfl⟩)
 go_ret
 have hsz0:w'.heap.size=w.heap.size:=by rw [HW0.out];rfl
 have hg0:w.grownBy w' (some b):=by rw [HW0.out];exact ⟨rfl,rfl,rfl,Xx _,fun _ _ _=>rfl⟩
 have hszc:(w'.setCell ⟨b,0,none⟩ (.slice (some ⟨w'.heap.size,0,none⟩) n 64)).heap.size=w'.heap.size:=by simp [World.setCell]
 refine ⟨rfl,64,M,?_,?_,hMs,by simp,by omega,by unfold maxLen;omega,Lib.grownBy_allocR (Lib.grownBy_setB hg0 0 _) _⟩
 ·rw [XG,<-hsz0]
  exact (hbk0.set0 (.slice (some ⟨w'.heap.size,0,none⟩) n 64)).of_heap (Below.heap_alloc _ _ b (by rw [hszc];exact hbW0))
 ·have h:=heap_alloc_new (w'.setCell ⟨b,0,none⟩ (.slice (some ⟨w'.heap.size,0,none⟩) n 64)) (.cells M (ρ.t 5))
  rw [hszc] at h
  rw [<-hsz0]
  exact h
set_option maxRecDepth 100000 in
theorem Zzb (L : LaysM.n252 P ρ) (T : TypeId) (R : Nat -> Option Value) (b : Nat)  (n : Nat) (lr : Int) (w : World)
    (hbk : LibA.Three w b 0 T R (.slice none 0 0) (.int .i64 0) (.int .i8 lr)) (h64 : 64 < n) (hlim : n <= 70368744177664) :
    Calls P (ρ.f 252) #[.pointer (some ⟨b, 0, none⟩), .int .i64 n] w fun e w' => e = .returned (.int .i64 0) /\ Zj7 w T R b 0 n [] lr (ρ.t 5) w' := by
  have mixed := L.mixed
  have t5 := L.t5; have a5 := L.a5; have z5 := L.z5; have v5 := L.v5
  have t130 := L.t130; have a130 := L.a130; have z130 := L.z130; have v130 := L.v130
  have t3 := L.t3; have a3 := L.a3; have z3 := L.z3; have v3 := L.v3
  have t4 := L.t4; have a4 := L.a4; have z4 := L.z4; have v4 := L.v4
  have t0 := L.t0; have a0 := L.a0; have z0 := L.z0; have v0 := L.v0
  have t93 := L.t93; have u93 := run_underlying L.t93; have a93 := L.a93; have z93 := L.z93; have v93 := L.v93
  have t131 := L.t131; have a131 := L.a131; have z131 := L.z131; have v131 := L.v131
  have t37 := L.t37; have a37 := L.a37; have z37 := L.z37; have v37 := L.v37
  have t75 := L.t75; have a75 := L.a75; have z75 := L.z75; have v75 := L.v75
  have e181 : ∀ args w, (callFunc (ρ.f 181) args).run P w = .ok (.enter (ρ.f 181) args) w := enters_of L.f181 (by kernel_rfl) rfl
  have e251 : ∀ args w, (callFunc (ρ.f 251) args).run P w = .ok (.enter (ρ.f 251) args) w := enters_of L.f251 (by kernel_rfl) rfl
  have e290 : ∀ args w, (callFunc (ρ.f 290) args).run P w = .ok (.enter (ρ.f 290) args) w := enters_of L.f290 (by kernel_rfl) rfl
  have hnil : ∀ W, (binOp .eql (ρ.t 37) (.slice none 0 0) (.slice none 0 0)).run P W = .ok (.bool true) W := fun W => Lib.run_eql_slice_nil_nil W _ _ L.t37
  have hc2 : 0 <= 140737488355328 := by omega
  have hcm' : 0 <= maxLen := by unfold maxLen; omega
  go_enter L.f252, Body.n252_ntmps ρ
  go_wp2_with (go_at_fn (ρ.f 181); refine (Zkw { L with } b none 0 0 _ hbk.c0 hbk.c1 (by unfold maxLen; omega)).mono ?_)
  rintro e W0 ⟨rfl, k, hW0⟩
  have hbk0 : LibA.Three W0 b 0 T R (.slice none 0 0) (.int .i64 0) (.int .i8 lr) := by rw [hW0]; exact hbk
  have c0 : W0.cell? ⟨b, 0, none⟩ = some (.slice none 0 0) := hbk0.c0
  have c1 : W0.cell? ⟨b, 1, none⟩ = some (.int .i64 0) := hbk0.c1
  have f0 : W0.frozen? ⟨b, 0, none⟩ = false := hbk0.f 0
  have f1 : W0.frozen? ⟨b, 1, none⟩ = false := hbk0.f 1
  have HW0 := Lib.hid hW0
  clear hW0
  go_wp2_with (go_at_fn (ρ.f 251); refine (Any.Buffer_tryGrow_none_at { L with } b 0 _ 0 0 n _ c0 (by omega) hcm' (by omega)).mono ?_; rintro e w' ⟨rfl, rfl⟩)
  have hbW := hbk0.lt
  have hwn : IntKind.i64.wrap (n : Int) = n := by rw [IntKind.wrap_i64]; omega
  go_region_with_o (
      go_at_fn (ρ.f 290)
      refine (ZnF { L with } none 0 0 n [] _ ?_ (by omega) (by omega) (by omega) hc2 ?_ ?_).mono ?_
      . first | exact ho | rfl
      . exact Xr rfl
      . first | exact h1 | exact fun v h => by cases h
      rintro e w2 ⟨cap2, cells, rfl, hN, hcsz, htk, hcap2, hcm2, hbel⟩
      have hbk2 : LibA.Three w2 b 0 T R (.slice none 0 0) (.int .i64 0) (.int .i8 lr) := hbk0.of_heap (hbel.block b hbW)
      have d0 : w2.cell? ⟨b, 0, none⟩ = some (.slice none 0 0) := hbk2.c0
      have d1 : w2.cell? ⟨b, 1, none⟩ = some (.int .i64 0) := hbk2.c1
      have e0 : w2.frozen? ⟨b, 0, none⟩ = false := hbk2.f 0
      have e1 : w2.frozen? ⟨b, 1, none⟩ = false := hbk2.f 1)
  all_goals (
    go_wp2
    go_ret
    have hsz0 : w'.heap.size = w.heap.size := by rw [HW0.out]; rfl
    have hg2 : w.grownBy w2 (some b) := Lib.grownBy_below (w := w'.drew) (by rw [HW0.out]; exact ⟨rfl, rfl, rfl, Xx _, fun _ _ _ => rfl⟩) hbel
    refine ⟨rfl, cap2, cells, ?_, ?_, hcsz, htk, hcap2, hcm2, Lib.grownBy_setB (Lib.grownBy_setB (Lib.grownBy_setB hg2 0 _) 1 _) 0 _⟩
    . rw [XG, <- hsz0]; exact Zoa hbk2 _ _
    . have hNb : w.heap.size ≠ b := by omega
      rw [Below.heap_setCell _ _ _ _ hNb, Below.heap_setCell _ _ _ _ hNb, Below.heap_setCell _ _ _ _ hNb]
      rw [<- hsz0]; exact hN)
end
end
section
open Go.Shelf Go.RowKit
section
variable {P:Program} {ρ:Ren}
set_option maxRecDepth 100000 in
theorem Zx7 (L : LaysM.n252 P ρ) (T : TypeId) (R : Nat -> Option Value) (b : Nat) (x : Addr) (cap : Nat) (n : Nat) (lr : Int) (w : World)
    (hbk : LibA.Three w b 0 T R (.slice (some x) 0 cap) (.int .i64 0) (.int .i8 lr)) (hroom : cap < n) (hlim : n <= 70368744177664) :
    Calls P (ρ.f 252) #[.pointer (some ⟨b, 0, none⟩), .int .i64 n] w fun e w' => e = .returned (.int .i64 0) /\ Zj7 w T R b 0 n [] lr (ρ.t 5) w' := by
  have mixed := L.mixed
  have t5 := L.t5; have a5 := L.a5; have z5 := L.z5; have v5 := L.v5
  have t130 := L.t130; have a130 := L.a130; have z130 := L.z130; have v130 := L.v130
  have t3 := L.t3; have a3 := L.a3; have z3 := L.z3; have v3 := L.v3
  have t4 := L.t4; have a4 := L.a4; have z4 := L.z4; have v4 := L.v4
  have t0 := L.t0; have a0 := L.a0; have z0 := L.z0; have v0 := L.v0
  have t93 := L.t93; have u93 := run_underlying L.t93; have a93 := L.a93; have z93 := L.z93; have v93 := L.v93
  have t131 := L.t131; have a131 := L.a131; have z131 := L.z131; have v131 := L.v131
  have t37 := L.t37; have a37 := L.a37; have z37 := L.z37; have v37 := L.v37
  have t75 := L.t75; have a75 := L.a75; have z75 := L.z75; have v75 := L.v75
  have e181 : ∀ args w, (callFunc (ρ.f 181) args).run P w = .ok (.enter (ρ.f 181) args) w := enters_of L.f181 (by kernel_rfl) rfl
  have e251 : ∀ args w, (callFunc (ρ.f 251) args).run P w = .ok (.enter (ρ.f 251) args) w := enters_of L.f251 (by kernel_rfl) rfl
  have e290 : ∀ args w, (callFunc (ρ.f 290) args).run P w = .ok (.enter (ρ.f 290) args) w := enters_of L.f290 (by kernel_rfl) rfl
  have hnil : ∀ W, (binOp .eql (ρ.t 37) (.slice (some x) 0 cap) (.slice none 0 0)).run P W = .ok (.bool false) W := fun W => Lib.run_eql_slice_some_nil W _ _ _ L.t37
  have hc2 : cap <= 140737488355328 := by omega
  have hcm' : cap <= maxLen := by unfold maxLen; omega
  go_enter L.f252, Body.n252_ntmps ρ
  go_wp2_with (go_at_fn (ρ.f 181); refine (Zkw { L with } b (some x) 0 cap _ hbk.c0 hbk.c1 (by unfold maxLen; omega)).mono ?_)
  rintro e W0 ⟨rfl, k, hW0⟩
  have hbk0 : LibA.Three W0 b 0 T R (.slice (some x) 0 cap) (.int .i64 0) (.int .i8 lr) := by rw [hW0]; exact hbk
  have c0 : W0.cell? ⟨b, 0, none⟩ = some (.slice (some x) 0 cap) := hbk0.c0
  have c1 : W0.cell? ⟨b, 1, none⟩ = some (.int .i64 0) := hbk0.c1
  have f0 : W0.frozen? ⟨b, 0, none⟩ = false := hbk0.f 0
  have f1 : W0.frozen? ⟨b, 1, none⟩ = false := hbk0.f 1
  have HW0 := Lib.hid hW0
  clear hW0
  go_wp2_with (go_at_fn (ρ.f 251); refine (Any.Buffer_tryGrow_none_at { L with } b 0 _ 0 cap n _ c0 (by omega) hcm' (by omega)).mono ?_; rintro e w' ⟨rfl, rfl⟩)
  have hbW := hbk0.lt
  have hwn : IntKind.i64.wrap (n : Int) = n := by rw [IntKind.wrap_i64]; omega
  go_region_with_o (
      go_at_fn (ρ.f 290)
      refine (ZnF { L with } (some x) 0 cap n [] _ ?_ (by omega) (by omega) (by omega) hc2 ?_ ?_).mono ?_
      . first | exact ho | rfl
      . exact Xr rfl
      . first | exact h1 | exact fun v h => by cases h
      rintro e w2 ⟨cap2, cells, rfl, hN, hcsz, htk, hcap2, hcm2, hbel⟩
      have hbk2 : LibA.Three w2 b 0 T R (.slice (some x) 0 cap) (.int .i64 0) (.int .i8 lr) := hbk0.of_heap (hbel.block b hbW)
      have d0 : w2.cell? ⟨b, 0, none⟩ = some (.slice (some x) 0 cap) := hbk2.c0
      have d1 : w2.cell? ⟨b, 1, none⟩ = some (.int .i64 0) := hbk2.c1
      have e0 : w2.frozen? ⟨b, 0, none⟩ = false := hbk2.f 0
      have e1 : w2.frozen? ⟨b, 1, none⟩ = false := hbk2.f 1)
  all_goals (
    go_wp2
    go_ret
    have hsz0 : w'.heap.size = w.heap.size := by rw [HW0.out]; rfl
    have hg2 : w.grownBy w2 (some b) := Lib.grownBy_below (w := w'.drew) (by rw [HW0.out]; exact ⟨rfl, rfl, rfl, Xx _, fun _ _ _ => rfl⟩) hbel
    refine ⟨rfl, cap2, cells, ?_, ?_, hcsz, htk, hcap2, hcm2, Lib.grownBy_setB (Lib.grownBy_setB (Lib.grownBy_setB hg2 0 _) 1 _) 0 _⟩
    . rw [XG, <- hsz0]; exact Zoa hbk2 _ _
    . have hNb : w.heap.size ≠ b := by omega
      rw [Below.heap_setCell _ _ _ _ hNb, Below.heap_setCell _ _ _ _ hNb, Below.heap_setCell _ _ _ _ hNb]
      rw [<- hsz0]; exact hN)
end
end
section
open Go.Shelf Go.RowKit
section
variable {P:Program} {ρ:Ren}
set_option maxRecDepth 100000 in
theorem ZI2 (L : LaysM.n252 P ρ) (T : TypeId) (R : Nat -> Option Value) (b : Nat) (x : Addr) (l cap : Nat) (olds : List Value) (n : Nat) (lr : Int) (w : World)
    (hbk : LibA.Three w b 0 T R (.slice (some x) l cap) (.int .i64 0) (.int .i8 lr)) (hl0 : l ≠ 0) (ho : olds.length = l) (h1 : ∀ v ∈ olds, v.oneCell' = true) (hlc : l <= cap) (hroom : cap - l < n) (hlim : l + n <= 70368744177664)
    (hold : l = 0 \/ ∃ a, some x = some a /\ ∀ j v, (olds)[j]? = some v -> w.cell? (a.add j) = some v)  :
    Calls P (ρ.f 252) #[.pointer (some ⟨b, 0, none⟩), .int .i64 n] w fun e w' => e = .returned (.int .i64 l) /\ Zj7 w T R b l n olds lr (ρ.t 5) w' := by
  have mixed := L.mixed
  have t5 := L.t5; have a5 := L.a5; have z5 := L.z5; have v5 := L.v5
  have t130 := L.t130; have a130 := L.a130; have z130 := L.z130; have v130 := L.v130
  have t3 := L.t3; have a3 := L.a3; have z3 := L.z3; have v3 := L.v3
  have t4 := L.t4; have a4 := L.a4; have z4 := L.z4; have v4 := L.v4
  have t0 := L.t0; have a0 := L.a0; have z0 := L.z0; have v0 := L.v0
  have t93 := L.t93; have u93 := run_underlying L.t93; have a93 := L.a93; have z93 := L.z93; have v93 := L.v93
  have t131 := L.t131; have a131 := L.a131; have z131 := L.z131; have v131 := L.v131
  have t37 := L.t37; have a37 := L.a37; have z37 := L.z37; have v37 := L.v37
  have t75 := L.t75; have a75 := L.a75; have z75 := L.z75; have v75 := L.v75
  have e181 : ∀ args w, (callFunc (ρ.f 181) args).run P w = .ok (.enter (ρ.f 181) args) w := enters_of L.f181 (by kernel_rfl) rfl
  have e251 : ∀ args w, (callFunc (ρ.f 251) args).run P w = .ok (.enter (ρ.f 251) args) w := enters_of L.f251 (by kernel_rfl) rfl
  have e290 : ∀ args w, (callFunc (ρ.f 290) args).run P w = .ok (.enter (ρ.f 290) args) w := enters_of L.f290 (by kernel_rfl) rfl
  have hnil : ∀ W, (binOp .eql (ρ.t 37) (.slice (some x) l cap) (.slice none 0 0)).run P W = .ok (.bool false) W := fun W => Lib.run_eql_slice_some_nil W _ _ _ L.t37
  have hc2 : cap <= 140737488355328 := by omega
  have hcm' : cap <= maxLen := by unfold maxLen; omega
  go_enter L.f252, Body.n252_ntmps ρ
  go_wp2_with (go_at_fn (ρ.f 181); refine (Zkw { L with } b (some x) l cap _ hbk.c0 hbk.c1 (by unfold maxLen; omega)).mono ?_)
  rintro e W0 ⟨rfl, k, hW0⟩
  have hbk0 : LibA.Three W0 b 0 T R (.slice (some x) l cap) (.int .i64 0) (.int .i8 lr) := by rw [hW0]; exact hbk
  have c0 : W0.cell? ⟨b, 0, none⟩ = some (.slice (some x) l cap) := hbk0.c0
  have c1 : W0.cell? ⟨b, 1, none⟩ = some (.int .i64 0) := hbk0.c1
  have f0 : W0.frozen? ⟨b, 0, none⟩ = false := hbk0.f 0
  have f1 : W0.frozen? ⟨b, 1, none⟩ = false := hbk0.f 1
  have hold0 : l = 0 \/ ∃ a, some x = some a /\ ∀ j v, (olds)[j]? = some v -> W0.cell? (a.add j) = some v := by rw [hW0]; exact hold
  have HW0 := Lib.hid hW0
  clear hW0 hold
  go_wp2_with (go_at_fn (ρ.f 251); refine (Any.Buffer_tryGrow_none_at { L with } b 0 _ l cap n _ c0 (by omega) hcm' (by omega)).mono ?_; rintro e w' ⟨rfl, rfl⟩)
  have hbW := hbk0.lt
  have hwn : IntKind.i64.wrap (n : Int) = n := by rw [IntKind.wrap_i64]; omega
  go_region_with_o (
      go_at_fn (ρ.f 290)
      refine (ZnF { L with } (some x) l cap n olds _ ?_ (by omega) (by omega) (by omega) hc2 ?_ ?_).mono ?_
      . first | exact ho | rfl
      . exact hold0
      . first | exact h1 | exact fun v h => by cases h
      rintro e w2 ⟨cap2, cells, rfl, hN, hcsz, htk, hcap2, hcm2, hbel⟩
      have hbk2 : LibA.Three w2 b 0 T R (.slice (some x) l cap) (.int .i64 0) (.int .i8 lr) := hbk0.of_heap (hbel.block b hbW)
      have d0 : w2.cell? ⟨b, 0, none⟩ = some (.slice (some x) l cap) := hbk2.c0
      have d1 : w2.cell? ⟨b, 1, none⟩ = some (.int .i64 0) := hbk2.c1
      have e0 : w2.frozen? ⟨b, 0, none⟩ = false := hbk2.f 0
      have e1 : w2.frozen? ⟨b, 1, none⟩ = false := hbk2.f 1)
  all_goals (
    go_wp2
    go_ret
    have hsz0 : w'.heap.size = w.heap.size := by rw [HW0.out]; rfl
    have hg2 : w.grownBy w2 (some b) := Lib.grownBy_below (w := w'.drew) (by rw [HW0.out]; exact ⟨rfl, rfl, rfl, Xx _, fun _ _ _ => rfl⟩) hbel
    refine ⟨rfl, cap2, cells, ?_, ?_, hcsz, htk, hcap2, hcm2, Lib.grownBy_setB (Lib.grownBy_setB (Lib.grownBy_setB hg2 0 _) 1 _) 0 _⟩
    . rw [<- hsz0]; exact Zoa hbk2 _ _
    . have hNb : w.heap.size ≠ b := by omega
      rw [Below.heap_setCell _ _ _ _ hNb, Below.heap_setCell _ _ _ _ hNb, Below.heap_setCell _ _ _ _ hNb]
      rw [<- hsz0]; exact hN)
end
end
section
open Go.Shelf Go.RowKit
section
variable {P:Program} {ρ:Ren}
def BufRow (w:World) (b:Nat) (A:Option Addr) (l cap:Nat) (olds:List Value):Prop :=
 olds.length=l/\l<=cap/\cap<=maxLen/\(∀ v ∈ olds,v.oneCell'=true)/\(cap=0\/∃ g cur t,A=some ⟨g,0,none⟩/\g≠b/\w.heap[g]?=some (.cells cur t (0,0))/\cur.size=cap/\cur.toList.take l=olds)
theorem BufRow.hold {w:World} {b:Nat} {A:Option Addr} {l cap:Nat} {olds:List Value} (h:BufRow w b A l cap olds):l=0\/∃ a,A=some a/\∀ j v,olds[j]?=some v->w.cell? (a.add j)=some v:=by
 obtain ⟨h1,h2,h3,h4,h5 | ⟨g,cur,t,h5,h6,h7,h8,h9⟩⟩:=h
 ·exact Xr (by omega)
 ·exact Xv ⟨_,h5,by rw [<-h9];exact Lib.cells_of_row h7 l⟩
theorem ZHN (L:LaysM.n252 P ρ) (T:TypeId) (R:Nat->Option Value) (b:Nat) (A:Option Addr) (l cap:Nat) (olds:List Value) (n:Nat) (lr:Int) (w:World)
  (hbk:LibA.Three w b 0 T R (.slice A l cap) (.int .i64 0) (.int .i8 lr)) (hr:BufRow w b A l cap olds) (hA:A=none->cap=0) (hroom:cap - l < n) (hlim:l+n<=70368744177664) :
  Calls P (ρ.f 252) #[.pointer (some ⟨b,0,none⟩),.int .i64 n] w fun e w'=>e=.returned (.int .i64 l)/\Zj7 w T R b l n olds lr (ρ.t 5) w':=by
 have hold:=hr.hold
 obtain ⟨h1,h2,h3,h4,h5⟩:=hr
 cases A with
 | none =>
  have hc:=hA rfl
  subst hc
  have hl0:l=0:=by omega
  subst hl0
  have ho:olds=[]:=Xy h1
  subst ho
  by_cases h64:n<=64
  ·exact ZHC L T R b n lr w hbk (by omega) h64
  ·exact Zzb L T R b n lr w hbk (by omega) (by omega)
 | some x =>
  by_cases hl0:l=0
  ·subst hl0
   have ho:olds=[]:=Xy h1
   subst ho
   exact Zx7 L T R b x cap n lr w hbk (by omega) (by omega)
  ·exact ZI2 L T R b x l cap olds n lr w hbk hl0 h1 h4 h2 hroom hlim hold
def Zsw (w:World) (T:TypeId) (R:Nat->Option Value) (b:Nat) (A:Option Addr) (l n cap:Nat) (all:List Value) (w':World):Prop :=
 ∃ A' cap',LibA.Three w' b 0 T R (.slice A' (l+n) cap') (.int .i64 0) (.int .i8 0)/\l+n<=cap'/\cap'<=maxLen /\
  ((n=0/\A'=A/\cap'=cap/\w.grownBy w' (some b)) \/
   ∃ G W1 Y t,A'=some ⟨G,0,none⟩/\(G=w.heap.size\/(A=some ⟨G,0,none⟩/\cap≠0))/\G≠b/\w.grownBy W1 (some b)/\W1.grownBy w' (some G)/\w'.heap[G]?=some (.cells Y t (0,0))/\Y.size=cap'/\Y.toList.take (l+n)=all)
set_option maxRecDepth 100000 in
theorem ZHt (L:LaysM.n180 P ρ) (T:TypeId) (R:Nat->Option Value) (b:Nat) (A:Option Addr) (l cap:Nat) (lr:Int) (olds news:List Value) (pa:Option Addr) (n pc:Nat) (w:World)
  (hbk:LibA.Three w b 0 T R (.slice A l cap) (.int .i64 0) (.int .i8 lr)) (hr:BufRow w b A l cap olds) (hA:A=none->cap=0) (hnews:news.length=n) (h1c:∀ v ∈ news,v.oneCell'=true)
  (hsrc:n=0\/∃ a,pa=some a/\a.block≠b/\∀ j v,news[j]?=some v->w.cell? (a.add j)=some v) (hlim:l+n<=70368744177664) :
  Calls P (ρ.f 180) #[.pointer (some ⟨b,0,none⟩),.slice pa n pc] w fun e w'=>e=.returned (.tuple #[.int .i64 n,.nilIface])/\Zsw w T R b A l n cap (olds++news) w':=by
 have mixed:=L.mixed
 have t5:=L.t5;have a5:=L.a5;have z5:=L.z5;have v5:=L.v5
 have t130:=L.t130;have a130:=L.a130;have z130:=L.z130;have v130:=L.v130
 have t37:=L.t37;have a37:=L.a37;have z37:=L.z37;have v37:=L.v37
 have t3:=L.t3;have a3:=L.a3;have z3:=L.z3;have v3:=L.v3
 have t75:=L.t75;have a75:=L.a75;have z75:=L.z75;have v75:=L.v75
 have t0:=L.t0;have a0:=L.a0;have z0:=L.z0;have v0:=L.v0
 have t93:=L.t93;have u93:=run_underlying L.t93;have a93:=L.a93;have z93:=L.z93;have v93:=L.v93
 have t91:=L.t91;have a91:=L.a91;have z91:=L.z91;have v91:=L.v91
 have t131:=L.t131;have a131:=L.a131;have z131:=L.z131;have v131:=L.v131
 have t4:=L.t4;have a4:=L.a4;have z4:=L.z4;have v4:=L.v4
 have e251:∀ args w,(callFunc (ρ.f 251) args).run P w=.ok (.enter (ρ.f 251) args) w:=enters_of L.f251 (by kernel_rfl) rfl
 have e252:∀ args w,(callFunc (ρ.f 252) args).run P w=.ok (.enter (ρ.f 252) args) w:=enters_of L.f252 (by kernel_rfl) rfl
 have c2:w.cell? ⟨b,2,none⟩=some (.int .i8 lr):=hbk.c2
 have f2:w.frozen? ⟨b,2,none⟩=false:=hbk.f 2
 have hinfo:(P.info? (ρ.t 5)).map (·.size)=some 1:=by
  obtain ⟨i0,hi,-,hz1,-⟩:=info_parts L.i5
  rw [hi];simp [hz1]
 obtain ⟨ho,hlc,hcm,h1,hrow⟩:=id hr
 have hbkA:LibA.Three (w.setCell ⟨b,2,none⟩ (.int .i8 0)) b 0 T R (.slice A l cap) (.int .i64 0) (.int .i8 0):=hbk.set2 _
 have hgA:w.grownBy (w.setCell ⟨b,2,none⟩ (.int .i8 0)) (some b):=Lib.grownBy_setCell w b 2 _
 have hszA:(w.setCell ⟨b,2,none⟩ (.int .i8 0)).heap.size=w.heap.size:=by simp [World.setCell]
 have hrA:BufRow (w.setCell ⟨b,2,none⟩ (.int .i8 0)) b A l cap olds:=⟨ho,hlc,hcm,h1,hrow.imp id fun ⟨g,cur,t,e,hgb,hg,r⟩=>⟨g,cur,t,e,hgb,(Below.heap_setCell _ _ _ _ hgb).trans hg,r⟩⟩
 by_cases hroom:n<=cap - l
 ·by_cases hs0:n=0
  ·
   subst hs0
   have hc0:news=[]:=Xy hnews
   subst hc0
   have hce:∀ d dLen dCap W,(Builtin.copy_ #[(ρ.t 37),(ρ.t 37)] (ρ.t 3) #[.slice d dLen dCap,.slice pa 0 pc]).run P W=.ok (goInt 0) W:=fun d dLen dCap W=>run_copy_none W (ρ.t 37) (ρ.t 37) (ρ.t 3) (ρ.t 5) d pa dLen dCap 0 pc L.t37 hinfo (by simp)
   have hT:∀ W,W.cell? ⟨b,0,none⟩=some (.slice A l cap)->W.frozen? ⟨b,0,none⟩=false->Calls P (ρ.f 251) #[.pointer (some ⟨b,0,none⟩),.int .i64 0] W (fun e w'=>e=.returned (.tuple #[.int .i64 l,.bool true])/\w'=W.setCell ⟨b,0,none⟩ (.slice A l cap)):=fun W q1 q2=>Any.Buffer_tryGrow_room_at { L with } b 0 A l cap 0 W q1 q2 hlc hcm (W9 _)
   clear hsrc hroom hlim
   go_enter L.f180,Body.n180_ntmps ρ
   go_wp2_with (go_at_fn (ρ.f 251);refine (hT _ ?_ ?_).mono ?_)
   ·exact hbkA.c0
   ·exact hbkA.f 0
   rintro e W1 ⟨rfl,hW1⟩
   have hbk1:LibA.Three W1 b 0 T R (.slice A l cap) (.int .i64 0) (.int .i8 0):=by rw [hW1];exact hbkA.set0 _
   have hgW:w.grownBy W1 (some b):=by rw [hW1];exact Lib.grownBy_setB hgA 0 _
   clear hW1 hbkA hgA hszA hrA c2 f2 hT
   have d0:W1.cell? ⟨b,0,none⟩=some (.slice A l cap):=hbk1.c0
   have hcm':=hcm
   unfold maxLen at hcm'
   have hfin:Zsw w T R b A l 0 cap (olds++[]) W1:=⟨A,cap,hbk1,hlc,hcm,Xr ⟨rfl,rfl,rfl,hgW⟩⟩
   clear hrow hr
   cases A
   all_goals (go_wp2;all_goals (go_ret2;first | exact ⟨rfl,hfin⟩ | exact ⟨by simp,by simpa using hfin⟩ | (refine ⟨by simp,?_⟩;have hcl:l=cap:=(by omega);simpa [hcl] using hfin)))
  ·
   go_enter L.f180,Body.n180_ntmps ρ
   go_wp2_with (go_at_fn (ρ.f 251);refine (Any.Buffer_tryGrow_room_at { L with } b 0 A l cap n _ ?_ ?_ hlc hcm hroom).mono ?_)
   ·exact hbkA.c0
   ·exact hbkA.f 0
   rintro e W1 ⟨rfl,hW1⟩
   obtain ⟨G,cap',cur,t,hbk1,hG,hcs,htk,hlc',hcm',hGb,hGw,hgW⟩:∃ G cap' cur t,LibA.Three W1 b 0 T R (.slice (some ⟨G,0,none⟩) (l+n) cap') (.int .i64 0) (.int .i8 0)/\W1.heap[G]?=some (.cells cur t (0,0))/\cur.size=cap'/\cur.toList.take l=olds/\l+n<=cap'/\cap'<=maxLen/\G≠b/\(G=w.heap.size\/(A=some ⟨G,0,none⟩/\cap≠0))/\w.grownBy W1 (some b):=by
    obtain hc | ⟨g,cur,t,e,hgb,hg,hcs,htk⟩:=hrow
    ·omega
    ·refine ⟨g,cap,cur,t,?_,?_,hcs,htk,by omega,hcm,hgb,Xv ⟨e,by omega⟩,?_⟩
     ·rw [hW1,e];rw [e] at hbkA;exact hbkA.set0 _
     ·rw [hW1,Below.heap_setCell _ _ _ _ hgb,Below.heap_setCell _ _ _ _ hgb];exact hg
     ·rw [hW1];exact Lib.grownBy_setB hgA 0 _
   clear hW1 hbkA hgA hszA hrA c2 f2 hrow
   have d0:W1.cell? ⟨b,0,none⟩=some (.slice (some ⟨G,0,none⟩) (l+n) cap'):=hbk1.c0
   have hne:¬cap'=l:=by omega
   have hsrc1:n=0\/∃ a,pa=some a/\∀ j v,news[j]?=some v->W1.cell? (a.add j)=some v:=hsrc.imp id fun ⟨a,e,hab,h⟩=>⟨a,e,fun j v hj=>hgW.cell (h j v hj) (by rw [Lib.block_add];exact fun e=>hab (WN e))⟩
   obtain ⟨W2,Y,hcp,hY,hYl,hgb,hsz⟩:=Zna (P:=P) W1 (ρ.t 37) (ρ.t 37) (ρ.t 3) (ρ.t 5) G l n (cap' - l) pa n pc cur t news L.t37 hinfo hG hnews (Xx _) hsrc1 (by omega) h1c
   have hYs:Y.size=cap':=by
    have h3:=congrArg Xae hYl
    simp only [Xk,Wb,Wj,XM] at h3
    omega
   have hYt:Y.toList.take (l+n)=olds++news:=by
    rw [hYl,htk,X5 (by simp;omega),XK (by simp;omega)]
   have hW2:LibA.Three W2 b 0 T R (.slice (some ⟨G,0,none⟩) (l+n) cap') (.int .i64 0) (.int .i8 0):=hbk1.of_heap (hgb.block b hbk1.lt (fun e=>hGb (WN e).symm))
   have hcm2:=hcm'
   unfold maxLen at hcm2
   have hgb0:=hgb
   have hYr:=hY
   clear hsrc hsrc1 hr hA
   go_wp2
   go_ret2
   exact ⟨rfl,_,_,hW2,hlc',hcm',Xv ⟨G,W1,Y,t,rfl,hGw,hGb,hgW,hgb0,hYr,hYs,hYt⟩⟩
 ·
  go_enter L.f180,Body.n180_ntmps ρ
  go_wp2_with (go_at_fn (ρ.f 251);refine (Any.Buffer_tryGrow_none_at { L with } b 0 A l cap n _ ?_ hlc hcm (by omega)).mono ?_)
  ·exact hbkA.c0
  rintro e W0 ⟨rfl,hW0⟩
  rw [<-hW0] at hbkA hgA hszA hrA
  clear hW0 c2 f2
  have hroom':cap - l < n:=by omega
  go_wp2_with (go_at_fn (ρ.f 252);refine (ZHN { L with } T R b A l cap olds n 0 _ ?_ ?_ hA hroom' hlim).mono ?_)
  ·exact hbkA
  ·exact hrA
  rintro e W1 ⟨rfl,cap',cur,hbk1,hG,hcs,htk,hlc',hcm',hgB⟩
  obtain ⟨G,hGe⟩:∃ G,G=w.heap.size:=⟨_,rfl⟩
  rw [hszA,<-hGe] at hbk1 hG
  have hGw:G=w.heap.size\/(A=some ⟨G,0,none⟩/\cap≠0):=Xr hGe
  have hGb:G≠b:=by have:=hbk.lt;omega
  have hgW:w.grownBy W1 (some b):=Lib.grownBy_trans hgA hgB
  obtain ⟨t,ht⟩:∃ t,t=ρ.t 5:=⟨_,rfl⟩
  rw [<-ht] at hG
  clear hbkA hgA hszA hrA hgB hGe hrow hroom
  have d0:W1.cell? ⟨b,0,none⟩=some (.slice (some ⟨G,0,none⟩) (l+n) cap'):=hbk1.c0
  have hne:¬cap'=l:=by omega
  have hsrc1:n=0\/∃ a,pa=some a/\∀ j v,news[j]?=some v->W1.cell? (a.add j)=some v:=hsrc.imp id fun ⟨a,e,hab,h⟩=>⟨a,e,fun j v hj=>hgW.cell (h j v hj) (by rw [Lib.block_add];exact fun e=>hab (WN e))⟩
  obtain ⟨W2,Y,hcp,hY,hYl,hgb,hsz⟩:=Zna (P:=P) W1 (ρ.t 37) (ρ.t 37) (ρ.t 3) (ρ.t 5) G l n (cap' - l) pa n pc cur t news L.t37 hinfo hG hnews (Xx _) hsrc1 (by omega) h1c
  have hYs:Y.size=cap':=by
   have h3:=congrArg Xae hYl
   simp only [Xk,Wb,Wj,XM] at h3
   omega
  have hYt:Y.toList.take (l+n)=olds++news:=by
   rw [hYl,htk,X5 (by simp;omega),XK (by simp;omega)]
  have hW2:LibA.Three W2 b 0 T R (.slice (some ⟨G,0,none⟩) (l+n) cap') (.int .i64 0) (.int .i8 0):=hbk1.of_heap (hgb.block b hbk1.lt (fun e=>hGb (WN e).symm))
  have hcm2:=hcm'
  unfold maxLen at hcm2
  have hgb0:=hgb
  have hYr:=hY
  clear hsrc hsrc1 hr hA
  go_wp2
  go_ret2
  exact ⟨rfl,_,_,hW2,hlc',hcm',Xv ⟨G,W1,Y,t,rfl,hGw,hGb,hgW,hgb0,hYr,hYs,hYt⟩⟩
end
end
section
open Go.Shelf Go.RowKit
section
variable {P:Program} {ρ:Ren} {base:Nat->Prop} {w0 w w':World} {I0 I:Imm} {β:Bmap} {σ:Za}
theorem ZAu {b:Nat} {ty:TypeId} {x y z:Value} (h:LibA.Three w b 0 ty (fun _=>none) x y z):w.heap[b]?=some (.cells #[x,y,z] ty (0,0)):=by
 obtain ⟨cs,hb,h0,h1,h2,hr⟩:=h
 rw [hb]
 have : cs=#[x,y,z]:=by
  apply Array.ext_getElem?
  intro i
  match i with
  | 0=>exact h0
  | 1=>exact h1
  | 2=>exact h2
  | i+3=>rw [hr (i+3) (Xv (by omega))];exact (Array.getElem?_eq_none (by simp)).symm
 rw [this]
theorem ZJS {k:Nat} {y:AVal} {ys:List AVal} {b off:Nat} (h:LR I β k (y::ys) b off) (hk:0 < k):∃ u,I b off=some u:=by
 rw [ZgC] at h
 obtain ⟨⟨h1,h2⟩,_⟩:=h
 cases hc:y.cells with
 | nil=>rw [hc] at h1;simp at h1;omega
 | cons c cs =>
  rw [hc] at h2
  simp only [CR] at h2
  obtain ⟨⟨u,hu,_⟩,_⟩:=h2
  exact ⟨u,hu⟩
theorem ZAT (R:Rel base w0 I0 I β σ w) {b:Nat} (hb:∀ o,I b o=none) {y:Bool} {ys:List AVal} {v:Value} (hv:VR I β (.lst y ys) v) (hk:kOk 1 ys=true) :
  ∃ A cap news,v=.slice A ys.length cap/\news.length=ys.length/\VRs I β (ys.flatMap AVal.cells) news/\Zag ys=true/\(∀ x ∈ ys,x.cells.length=1)/\(∀ v ∈ news,v.oneCell'=true) /\
   (ys.length=0\/∃ a,A=some a/\a.block≠b/\∀ j v,news[j]?=some v->w.cell? (a.add j)=some v):=by
 have hv0:=hv
 obtain ⟨A,cap,e,_,_,htree,hc⟩:=Zkl R hv
 by_cases hne:ys=[]
 ·subst hne
  exact ⟨A,cap,[],e,rfl,by simp [VRs],rfl,by simp,by simp,Xr rfl⟩
 ·rcases hc with hc | ⟨b',off,k,us,hA,hk0,hl,hvs,hcell⟩
  ·exact absurd hc hne
  have e1:=ZkI hk hl hne
  subst e1
  refine ⟨A,cap,us,e,by rw [<-ZaU hvs,Zea hl,Xa5],hvs,htree,hl,ZgR (fun z hz=>Zjd (Zdr.1 (Zl3 htree) z hz)) hvs,Xv ⟨⟨b',off,none⟩,hA,?_,fun j v hj=>by rw [Addr.add_mid];exact hcell j v hj⟩⟩
  rintro rfl
  simp only [VR] at hv0
  obtain ⟨A',cap',e',_,_,_,h5,_⟩:=hv0
  rcases h5 with h5 | ⟨b2,off2,k2,e2,hk2,h5⟩
  ·exact hne h5
  ·rw [e] at e'
   injection e' with e' _ _
   rw [e'] at hA
   rw [hA] at e2
   injection e2 with e2
   injection e2 with e2 e3
   cases ys with
   | nil=>exact hne rfl
   | cons z zs =>
    obtain ⟨u,hu⟩:=ZJS h5 hk2
    rw [<-e2,hb] at hu;cases hu
theorem Ztf (L : LaysM.n180 P ρ) (hb : KLt base w0) {c0 : AVal} {lr : Int} {g : Nat} {xs : List AVal} (R : Rel base w0 I0 I β [.var [c0, .int .i64 0, .int .i8 lr], .row g 1 xs] w)
    {bi : BI} (hbi : β 1 g = some bi) {b kk cc : Nat} (hβ0 : β 0 0 = some ⟨some b, kk, cc⟩) {A : Option Addr} {cap : Nat} {ty : TypeId}
    (hheap : w.heap[b]? = some (.cells #[.slice A xs.length cap, .int .i64 0, .int .i8 lr] ty (0, 0)))
    (hA : (∃ gb, bi.b = some gb /\ A = some ⟨gb, 0, none⟩ /\ cap = bi.cap) \/ (bi.b = none /\ cap = 0 /\ bi.cap = 0))
    {y : Bool} {ys : List AVal} {v1 : Value} (hv1 : VR I β (.lst y ys) v1) (hlim : xs.length + ys.length <= Zb2) (hk : kOk 1 ys = true) :
    Calls P (ρ.f 180) #[.pointer (some ⟨b, 0, none⟩), v1] w (fun e w' => ∃ u, Ends (.tup [.int .i64 ys.length, .nili]) e u /\ ∃ β', β.le β' /\
      Rel base w0 I0 I β' [.var [.sl 1 (g + 1) 0 (xs ++ ys).length, .int .i64 0, .int .i8 0], .row (g + 1) 1 (xs ++ ys)] w' /\ VR I β' (.tup [.int .i64 ys.length, .nili]) u) := by
  have hbw := R.base_le hb
  have how : ZJ β 0 (.var [c0, .int .i64 0, .int .i8 lr]) = some b := by simp only [ZJ, hβ0, Wm]
  have hob := R.own 0 _ b rfl how
  obtain ⟨bi', hbi', hk1, _, hcap63, hxl, htree, hlens, hrow⟩ := R.blk 1 (.row g 1 xs) rfl
  rw [hbi] at hbi'; injection hbi' with hbi'; subst hbi'
  have hor : ZJ β 1 (.row g 1 xs) = bi.b := by simp only [ZJ, hbi, Wm]
  obtain ⟨olds, hBR, hvo, hA0⟩ : ∃ olds, BufRow w b A xs.length cap olds /\ VRs I β (xs.flatMap AVal.cells) olds /\ (A = none -> cap = 0) := by
    rcases hA with ⟨gb, e1, e2, e3⟩ | ⟨e1, e2, e3⟩
    . rcases hrow with ⟨h1, h2⟩ | ⟨gb', us, ty', h1, h2, h3, h4⟩
      . rw [e1] at h1; cases h1
      . rw [e1] at h1; injection h1 with h1; subst h1
        rw [Xa5] at h3 h4
        have hgb : gb ≠ b := by
          rintro rfl
          have := R.apart 0 _ 1 _ gb rfl rfl how (by rw [hor, e1])
          omega
        refine ⟨us.toList.take xs.length, ⟨by have h9 : us.toList.length = us.size := us.length_toList; rw [Wj]; omega, by omega, by unfold maxLen; omega, ZgR (fun z hz => Zjd (Zdr.1 (Zl3 htree) z hz)) h4, Xv ⟨gb, us, ty', e2, hgb, h2, by omega, rfl⟩⟩, h4, by rw [e2]; intro h; cases h⟩
    . have hx : xs = [] := Xy (by omega)
      subst hx
      exact ⟨[], ⟨rfl, by simp, by unfold maxLen; omega, by simp, Xr e2⟩, by simp [VRs], fun _ => e2⟩
  obtain ⟨A1, cap1, news, rfl, hnl, hvn, htn, hln, hn1, hsrc⟩ := ZAT R hob.2 hv1 hk
  refine (ZHt L ty (fun _ => none) b A xs.length cap lr olds news A1 ys.length cap1 w (LibA.three_whole hheap) hBR hA0 hnl hn1 hsrc (by unfold Zb2 at hlim; omega)).mono ?_
  rintro e w' ⟨rfl, A', cap', hT, hle, hcm, hcase⟩
  refine ⟨_, rfl, ?_⟩
  have hT' := ZAu hT
  unfold maxLen at hcm
  obtain ⟨w1, hw1⟩ : ∃ w1 : World, w1 = { w with heap := w.heap.setIfInBounds b (.cells #[.slice A' (xs.length + ys.length) cap', .int .i64 0, .int .i8 0] ty (0, 0)) } := ⟨_, rfl⟩
  have hbl : b < w.heap.size := Lib.lt_of_heap hheap
  have h1b : w1.heap[b]? = w'.heap[b]? := by rw [hw1, hT']; simp [hbl]
  have h1o : ∀ k, k ≠ b -> w1.heap[k]? = w.heap[k]? := fun k hk => by rw [hw1]; exact Array.getElem?_setIfInBounds_ne (fun e => hk e.symm)
  have h1s : w1.heap.size = w.heap.size := by rw [hw1]; simp
  have R1 : Rel base w0 I0 I β [.var [.top, .int .i64 0, .int .i8 0], .row g 1 xs] w1 := by
    have := R.putObj (t := 0) (x' := .var [.top, .int .i64 0, .int .i8 0]) rfl how (by simp only [ZJ, hβ0, Wm]) (.cells #[.slice A' (xs.length + ys.length) cap', .int .i64 0, .int .i8 0] ty (0, 0))
      ⟨b, kk, cc, _, ty, hβ0, by simp [hbl]; rfl, by simp [VRs, VR]⟩ rfl
    rw [hw1]; exact this
  obtain ⟨bi2, hB, keep, hbi2, hblk, hv2⟩ : ∃ bi2 : BI, KB base w1 w' /\ (∀ b', ZJ β 1 (.row g 1 xs) ≠ some b' -> b' < w1.heap.size -> w'.heap[b']? = w1.heap[b']?) /\ (bi2.b = none \/ ∃ b', bi2.b = some b' /\ (ZJ β 1 (.row g 1 xs) = some b' \/ b' = w1.heap.size)) /\
      BR I (β.put 1 (g + 1) bi2) w' 1 (.row (g + 1) 1 (xs ++ ys)) /\ VR I (β.put 1 (g + 1) bi2) (.sl 1 (g + 1) 0 (xs ++ ys).length) (.slice A' (xs.length + ys.length) cap') := by
    have hle2 : β.le (β.put 1 (g + 1) bi) -> True := fun _ => trivial
    have hnone : β 1 (g + 1) = none := R.gen 1 _ (g + 1) rfl (by simp [Zl])
    rcases hcase with ⟨hn0, rfl, rfl, hgB⟩ | ⟨G, W1, Y, t, rfl, hGw, hGb, hg1, hg2, hY, hYs, hYt⟩
    . have hy : ys = [] := Xy hn0
      subst hy
      simp only [Xm, XJ, XT]
      have hbl' : β.le (β.put 1 (g + 1) bi) := Bmap.put_le hnone
      have same : ∀ k, k < w.heap.size -> w'.heap[k]? = w1.heap[k]? := by
        intro k hk
        by_cases e : k = b
        . rw [e, h1b]
        . rw [h1o k e]; exact hgB.block k hk (fun h => e (WN h))
      refine ⟨bi, ⟨by rw [hw1]; exact hgB.os, by rw [hw1]; exact hgB.tape, by rw [hw1]; exact hgB.output, by rw [h1s]; exact hgB.size, fun k hk => same k (hbw k hk)⟩, fun b' _ hb' => same b' (by omega), ?_, ?_, ?_⟩
      . rw [hor]
        cases bi.b with
        | none => exact Xr rfl
        | some x => exact Xv ⟨x, rfl, Xr rfl⟩
      . refine ⟨bi, Bmap.put_same β 1 (g + 1) bi, hk1, by omega, hcap63, hxl, htree, hlens, hrow.imp id ?_⟩
        rintro ⟨gb, us, ty', q1, q2, q3, q4⟩
        have hgb : gb ≠ b := by
          rintro rfl
          have := R.apart 0 _ 1 _ gb rfl rfl how (by rw [hor, q1])
          omega
        exact ⟨gb, us, ty', q1, by rw [same gb (Lib.lt_of_heap q2), h1o gb hgb]; exact q2, q3, VRs.mono (Imm.le.refl I) hbl' _ _ q4⟩
      . rw [Zcm]
        refine ⟨bi, Bmap.put_same β 1 (g + 1) bi, hxl, hcap63, ?_⟩
        rcases hA with ⟨gb, e1, e2, e3⟩ | ⟨e1, e2, e3⟩
        . exact Xr ⟨gb, e1, by rw [e2, e3]⟩
        . have hx : xs.length = 0 := by omega
          exact Xv ⟨e1, e3, _, by rw [hx, e2]⟩
    . have hbl' : β.le (β.put 1 (g + 1) ⟨some G, 1, cap'⟩) := Bmap.put_le hnone
      have hGo : ZJ β 1 (.row g 1 xs) = some G \/ G = w1.heap.size := by
        rcases hGw with e | ⟨e, hc0⟩
        . exact Xv (by rw [h1s]; exact e)
        . refine Xr ?_
          rw [hor]
          rcases hA with ⟨gb, e1, e2, e3⟩ | ⟨e1, e2, e3⟩
          . rw [e2] at e; injection e with e; injection e with e; rw [e1, e]
          . exact absurd e2 hc0
      have hsz1 : w.heap.size <= W1.heap.size := hg1.size
      have same : ∀ k, k < w.heap.size -> k ≠ G -> w'.heap[k]? = w1.heap[k]? := by
        intro k hk hkG
        by_cases e : k = b
        . rw [e, h1b]
        . rw [h1o k e]; exact (hg2.block k (by omega) (fun h => hkG (WN h))).trans (hg1.block k hk (fun h => e (WN h)))
      refine ⟨⟨some G, 1, cap'⟩, ⟨by rw [hw1]; exact hg2.os.trans hg1.os, by rw [hw1]; exact hg2.tape.trans hg1.tape, by rw [hw1]; exact hg2.output.trans hg1.output, by rw [h1s]; exact Wy hg1.size hg2.size, fun k hk => same k (hbw k hk) ?_⟩, fun b' hb1 hb' => same b' (by omega) ?_, Xv ⟨G, rfl, hGo⟩, ?_, ?_⟩
      . rintro rfl
        rcases hGo with e | e
        . exact (R.own 1 _ _ rfl e).1 hk
        . have := hbw _ hk; omega
      . rintro rfl
        rcases hGo with e | e
        . exact hb1 e
        . omega
      . refine ⟨_, Bmap.put_same β 1 (g + 1) _, rfl, by omega, hcm, by rw [Xk]; exact hle, by rw [ZgP htree htn], ?_, Xv ⟨G, Y, t, rfl, hY, by rw [hYs, Xa5], ?_⟩⟩
        . intro x hx
          rcases Xt.1 hx with h | h
          . exact hlens x h
          . exact hln x h
        . rw [Xk, Xa5, hYt, ZfE]
          exact Zcy (VRs.mono (Imm.le.refl I) hbl' _ _ hvo) (VRs.mono (Imm.le.refl I) hbl' _ _ hvn)
      . rw [Zcm]
        exact ⟨_, Bmap.put_same β 1 (g + 1) _, by rw [Xk]; exact hle, hcm, Xr ⟨G, rfl, by rw [Xk]⟩⟩
  have hbw1 : KLt base w1 := fun k hk => by rw [h1s]; exact hbw k hk
  obtain ⟨R2, hle2⟩ := R1.grow (t := 1) (g := g) (k := 1) (xs := xs) (xs' := xs ++ ys) rfl bi2 hB (by
    intro b' o u hI
    have hne : b' ≠ b := by rintro rfl; rw [hob.2 o] at hI; cases hI
    have hlt : b' < w1.heap.size := by rw [h1s]; exact Zeg (R.imm _ _ _ hI)
    have hno : ZJ β 1 (.row g 1 xs) ≠ some b' := fun e => by have := (R.own 1 _ b' rfl e).2 o; rw [this] at hI; cases hI
    rw [<- R1.imm b' o u hI]
    simp only [World.cell?, keep b' hno hlt]) keep hbi2 hbw1 hblk
  have hβ2 : (β.put 1 (g + 1) bi2) 0 0 = some ⟨some b, kk, cc⟩ := hle2 _ _ _ hβ0
  refine ⟨β.put 1 (g + 1) bi2, hle2, ?_, by simp [VR, VRs]⟩
  refine R2.upd (Imm.le.refl I) (Bmap.le.refl _) (KB.refl _ _) (fun _ _ _ => rfl) R2.imm 0 (.var [.sl 1 (g + 1) 0 (xs ++ ys).length, .int .i64 0, .int .i8 0]) rfl (by simp) (fun _ _ _ => rfl) ?_ ?_ ?_ ?_ (by simp)
  . intro t' x b' hne hx hb'
    refine ⟨rfl, (R2.own t' x b' hx hb').2, ?_⟩
    simp only [ZJ, hβ2, Wm]
    intro e; injection e with e; subst e
    exact hne (R2.apart t' x 0 _ b hx rfl hb' (by simp only [ZJ, hβ2, Wm]))
  . exact ⟨b, kk, cc, _, ty, hβ2, hT', by simp only [VRs]; exact ⟨_, _, rfl, hv2, _, _, rfl, by simp [VR], _, _, rfl, by simp [VR], rfl⟩⟩
  . intro b' e
    simp only [ZJ, hβ2, Wm] at e; injection e with e; subst e
    exact R2.own 0 _ b rfl (by simp only [ZJ, hβ2, Wm])
  . intro g' hg'
    exact R2.gen 0 _ g' rfl (by simpa [Zl] using hg')
theorem ZFa (L:LaysM.n180 P ρ) {f:FuncId} (hf:ρ.f 180=f) (hx:∃ fn,P.funcs[f]?=some fn/\fn.body.isSome=true/\(fn.name == "runtime.NumGoroutine")=false) {args:List AVal} {σ σ':Za} {r:AVal} (hg:Zh6 args σ=some (r,σ')) :
  (∃ fn,P.funcs[f]?=some fn/\fn.body.isSome=true/\(fn.name == "runtime.NumGoroutine")=false) /\
  ∀ base w0 I0 I β w (vs:Array Value),KLt base w0->Rel base w0 I0 I β σ w->VRs I β args vs.toList ->
   Calls P f vs w (fun e w'=>∃ u,Ends r e u/\Zcd σ.length base w0 I0 I β r σ' u w'):=by
 refine ⟨hx,?_⟩
 intro base w0 I0 I β w vs hb R hargs
 subst hf
 unfold Zh6 at hg
 split at hg
 ·
  rename_i y ys lr
  split at hg
  case isFalse=>cases hg
  rename_i hc
  simp only [Xb,Xd] at hg
  obtain ⟨rfl,rfl⟩:=hg
  simp only [VRs] at hargs
  obtain ⟨v0,_,hvs,h0,v1,_,rfl,h1,rfl⟩:=hargs
  have hvs':vs=#[v0,v1]:=by rw [<-XaM];exact hvs
  subst hvs'
  simp only [VR] at h0
  obtain ⟨b,k,c,hβ0,rfl⟩:=h0
  obtain ⟨b',k',c',us,ty,hβ,hheap,hcs⟩:=R.blk 0 _ rfl
  rw [hβ0] at hβ;injection hβ with hβ;injection hβ with hβ1 hβ2 hβ3;injection hβ1 with hβ1;subst hβ1 hβ2 hβ3
  simp only [VRs] at hcs
  obtain ⟨u0,_,hus,hu0,u1,_,rfl,hu1,u2,_,rfl,hu2,rfl⟩:=hcs
  simp only [VR] at hu0 hu1 hu2
  obtain ⟨A,cap,rfl,_,_,hcap,_,_⟩:=hu0
  have hcap0:cap=0:=by simpa using hcap
  subst hu1 hu2 hcap0
  have hus':us=#[.slice A 0 0,.int .i64 0,.int .i8 lr]:=by rw [<-XaM];simpa using hus
  subst hus'
  have R1:=R.reserve 1
  have hfree:([.var [.lst true [],.int .i64 0,.int .i8 lr]]++List.replicate 1 ZR.free)[1]?=some .free:=rfl
  obtain ⟨R2,hle⟩:=R1.newNone hfree 1 (by omega)
  have R3:Rel base w0 I0 I (β.put 1 0 ⟨none,1,0⟩) [.var [.lst true [],.int .i64 0,.int .i8 lr],.row 0 1 []] w:=R2
  refine (Ztf L hb R3 (bi:=⟨none,1,0⟩) (Bmap.put_same β 1 0 _) (hle _ _ _ hβ0) (A:=A) (cap:=0) hheap (Xv ⟨rfl,rfl,rfl⟩) (h1.mono (Imm.le.refl I) hle _ _) (by simpa using hc.1) hc.2).mono ?_
  rintro e w' ⟨u,he,β',hb',hR,hv⟩
  obtain ⟨β2,hk2,hR2,_⟩:=ZrD hR 1 []
  refine ⟨u,he,I,β2,Imm.le.refl I,(KeptE.of_le (hle.trans hb')).trans hk2,?_,by simpa [Za4,VR,VRs] using hv⟩
  have hgc:(gcA 1 [] [.var [.sl 1 (0+1) 0 ([]++ys).length,.int .i64 0,.int .i8 0],.row (0+1) 1 ([]++ys)]).2=[.var [.sl 1 0 0 ys.length,.int .i64 0,.int .i8 0],.row 0 1 ys]:=rfl
  rw [hgc] at hR2
  exact hR2
 ·rename_i y ys g m lr g' xs
  split at hg
  case isFalse=>cases hg
  rename_i hc
  obtain ⟨rfl,rfl,hc1,hc2⟩:=hc
  simp only [Xb,Xd] at hg
  obtain ⟨rfl,rfl⟩:=hg
  simp only [VRs] at hargs
  obtain ⟨v0,_,hvs,h0,v1,_,rfl,h1,rfl⟩:=hargs
  have hvs':vs=#[v0,v1]:=by rw [<-XaM];exact hvs
  subst hvs'
  simp only [VR] at h0
  obtain ⟨b,k,c,hβ0,rfl⟩:=h0
  obtain ⟨b',k',c',us,ty,hβ,hheap,hcs⟩:=R.blk 0 _ rfl
  rw [hβ0] at hβ;injection hβ with hβ;injection hβ with hβ1 hβ2 hβ3;injection hβ1 with hβ1;subst hβ1 hβ2 hβ3
  obtain ⟨bi,hbi,hk1,_⟩:=R.blk 1 (.row g 1 xs) rfl
  simp only [VRs] at hcs
  obtain ⟨u0,_,hus,hu0,u1,_,rfl,hu1,u2,_,rfl,hu2,rfl⟩:=hcs
  rw [Zcm] at hu0
  simp only [VR] at hu1 hu2
  subst hu1 hu2
  obtain ⟨bi',hbi',_,_,hcase⟩:=hu0
  rw [hbi] at hbi';injection hbi' with hbi';subst hbi'
  obtain ⟨A,cap,rfl,hA⟩:∃ A cap,u0=.slice A xs.length cap/\((∃ gb,bi.b=some gb/\A=some ⟨gb,0,none⟩/\cap=bi.cap)\/(bi.b=none/\cap=0/\bi.cap=0)):=by
   rcases hcase with ⟨gb,e1,e2⟩ | ⟨e1,e2,A,e3⟩
   ·exact ⟨_,_,e2,Xr ⟨gb,e1,rfl,rfl⟩⟩
   ·obtain ⟨bi2,hbi2,_,_,_,hxl,_⟩:=R.blk 1 (.row g 1 xs) rfl
    rw [hbi] at hbi2;injection hbi2 with hbi2;subst hbi2
    exact ⟨A,0,by rw [e3,show xs.length=0 by omega],Xv ⟨e1,rfl,e2⟩⟩
  have hus':us=#[.slice A xs.length cap,.int .i64 0,.int .i8 lr]:=by rw [<-XaM];simpa using hus
  subst hus'
  refine (Ztf L hb R hbi hβ0 hheap hA h1 hc1 hc2).mono ?_
  rintro e w' ⟨u,he,β',hb',hR,hv⟩
  exact ⟨u,he,I,β',Imm.le.refl I,KeptE.of_le hb',hR,hv⟩
 ·cases hg
end
end
section
open Go.Shelf
def ZNb:Ren:=⟨fun | 180=>50 | 251=>64 | 252=>65 | 181=>74 | 184=>75 | 290=>76 | 324=>85 | n=>n,fun | 130=>104 | 37=>24 | 3=>3 | 75=>101 | 0=>0 | 93=>74 | 91=>72 | 131=>119 | 4=>4 | 20=>20 | 5=>5 | 80=>92 | 9=>9 | n=>n,fun | 14=>0 | n=>n⟩
theorem ZEg:Go.Proofs.LaysM.n180 Tryd.prog ZNb:={ mixed:=by kernel_rfl,f180:=Tryd.func50.trans (congrArg some (by kernel_rfl)),f181:=Tryd.func74.trans (congrArg some (by kernel_rfl)),f184:=Tryd.func75.trans (congrArg some (by kernel_rfl)),f251:=Tryd.func64.trans (congrArg some (by kernel_rfl)),f252:=Tryd.func65.trans (congrArg some (by kernel_rfl)),f290:=Tryd.func76.trans (congrArg some (by kernel_rfl)),f324:=Tryd.func85.trans (congrArg some (by kernel_rfl)),t0:=Tryd.underlying0,a0:=Tryd.isAgg0,z0:=Tryd.sizeOf0,v0:=Tryd.zeroValue0,t3:=Tryd.underlying3,a3:=Tryd.isAgg3,z3:=Tryd.sizeOf3,v3:=Tryd.zeroValue3,t4:=Tryd.underlying4,a4:=Tryd.isAgg4,z4:=Tryd.sizeOf4,v4:=Tryd.zeroValue4,t20:=Tryd.underlying20,a20:=Tryd.isAgg20,z20:=Tryd.sizeOf20,v20:=Tryd.zeroValue20,t37:=Tryd.underlying24,a37:=Tryd.isAgg24,z37:=Tryd.sizeOf24,v37:=Tryd.zeroValue24,t75:=Tryd.underlying101,a75:=Tryd.isAgg101,z75:=Tryd.sizeOf101,v75:=Tryd.zeroValue101,t91:=Tryd.underlying72,a91:=Tryd.isAgg72,z91:=Tryd.sizeOf72,v91:=Tryd.zeroValue72,t93:=Tryd.underlying74,a93:=Tryd.isAgg74,z93:=Tryd.sizeOf74,v93:=Tryd.zeroValue74,t130:=Tryd.underlying104,a130:=Tryd.isAgg104,z130:=Tryd.sizeOf104,v130:=Tryd.zeroValue104,t131:=Tryd.underlying119,a131:=Tryd.isAgg119,z131:=Tryd.sizeOf119,v131:=Tryd.zeroValue119,g14:=by kernel_rfl,t5:=Tryd.underlying5,a5:=Tryd.isAgg5,z5:=Tryd.sizeOf5,v5:=Tryd.zeroValue5,t9:=Tryd.underlying9,a9:=Tryd.isAgg9,z9:=Tryd.sizeOf9,v9:=Tryd.zeroValue9,t80:=Tryd.underlying92,a80:=Tryd.isAgg92,z80:=Tryd.sizeOf92,v80:=Tryd.zeroValue92,i0:=by kernel_rfl,i3:=by kernel_rfl,i4:=by kernel_rfl,i5:=by kernel_rfl,i9:=by kernel_rfl,i20:=by kernel_rfl,i37:=by kernel_rfl,i75:=by kernel_rfl,i80:=by kernel_rfl,i91:=by kernel_rfl,i93:=by kernel_rfl,i130:=by kernel_rfl,i131:=by kernel_rfl,m14:=by kernel_rfl }
end
section
theorem ZMP:∃ fn,Tryd.prog.funcs[50]?=some fn/\fn.body.isSome=true/\(fn.name == "runtime.NumGoroutine")=false:=⟨Tryd.f50,Tryd.func50,by kernel_rfl,by kernel_rfl⟩
theorem ZIg:Zmp Tryd.prog PR1:=by
 intro f g h args σ r σ' hg
 unfold PR1 at h
 split at h
 ·rename_i e;subst e
  injection h with h;subst h
  exact ZKk hg
 ·split at h
  ·rename_i e;subst e
   injection h with h;subst h
   exact ZFa ZEg rfl ZMP hg
  ·exact ZvE f g h args σ r σ' hg
theorem ZyL:ZaK Tryd.prog E1:=by
 have h:E1=EV CF PR1 BY:=ZPb CF PR1 BY
 rw [h]
 exact ZJo Zm0 ZIg ann BY
end
section
open Go.RowKit Go.Shelf Go.Lib
theorem ZKx {W:World} (h:Lib.Utf8Tabs 1 2 W):Gl.le (Imm.of W):=by
 intro b o u hu
 unfold Gl at hu
 unfold Imm.of
 split at hu
 ·rename_i e;subst e
  split at hu
  ·rename_i ho
   rw [h.1 o ho,<-hu]
  ·cases hu
 ·split at hu
  ·rename_i e;subst e
   split at hu
   ·rename_i ho
    rw [<-hu]
    obtain ⟨h1,h2⟩:=h.2 (o / 2) (by omega)
    by_cases hp:o % 2=0
    ·rw [if_pos hp,<-h1];congr 2;omega
    ·rw [if_neg hp,<-h2];congr 2;omega
   ·cases hu
  ·cases hu
section
open Go.RowKit
variable {H:Type} {enc:TypeId×Value->H} {P:Program} {w:World} {spare:Nat->Bool} {held:Bool}
end
end
section
open Go.ChangeShapes Go.WideShapes Go.ChangeAt Go.RowKit Go.Deep
theorem ZNr:ownKnob Tryd.prog.godebug=none:=by kernel_rfl
theorem ZoU:laidOutB Tryd.prog=true:=by kernel_rfl
theorem ZMh {W:World} (hLH:laidMetH Tryd.prog Rows.streamPacketsRow.laid W):Gl.le (Imm.of W):=by
 have hL:laidMet Tryd.prog Rows.streamPacketsRow.laid W:=by rw [<-MakeChecks.laidMetH_plain _ _ _ (by kernel_rfl)];exact hLH
 have e1:Rows.laid_unicode_utf8_first=Lib.firstData:=by kernel_rfl
 have e2:(Rows.laid_unicode_utf8_acceptRanges:DataW Unit)=Lib.acceptData:=by kernel_rfl
 have h1:Lib.VarReads Tryd.prog W "unicode/utf8.first" Lib.firstData:=by rw [<-e1];exact Lib.laidMet.reads hL (.tail _ (.tail _ (.head _)))
 have h2:Lib.VarReads Tryd.prog W "unicode/utf8.acceptRanges" Lib.acceptData:=by rw [<-e2];exact Lib.laidMet.reads hL (.head _)
 exact ZKx (utf8Tabs_of_readsT (U8Types.of196 ZwL) ⟨by kernel_rfl,by kernel_rfl,by kernel_rfl,by kernel_rfl,by kernel_rfl,by kernel_rfl,by kernel_rfl⟩ h1 h2)
set_option maxRecDepth 100000 in
theorem ZIz (H:Type) (enc:TypeId×Value->H) (W:World) (base:Nat) (args:Array Value) (ds gs:List (DataW H)) (before:List MemPlace) (vts:List TypeId)
  (hval0:∀ (j:Nat) t v,Tryd.f3.params[j]?=some t->args[j]?=some v->Value.okWide Tryd.prog W .any base t v)
  (hW:DataW.Whole enc Tryd.prog Tryd.f3.params.toList Rows.streamPacketsSpec.vars false W args.toList ds gs before) (hL:laidMetH Tryd.prog Rows.streamPacketsRow.laid W) (hwt:(DataW.weightsEach Tryd.prog (Tryd.f3.params.toList++vts) (ds++gs)).all (·<=reachBytes)=true) :
  Calls Tryd.prog 3 args W fun e W'=>∃ v,e=.returned v/\Rows.streamPacketsSpec.post enc Tryd.prog Tryd.f3 false true false false W args v W':=by
 have hW':=hW
 obtain ⟨p,q,hA0,hV,rfl,hfz,hnd⟩:=hW
 have hval:∀ (j:Nat) t v,Tryd.f3.params[j]?=some t->args[j]?=some v->Value.okWide Tryd.prog W .any base t v:=hval0
 have hA:DataW.TrodAll enc Tryd.prog W 0 (fun _=>true) true Tryd.f3.params.toList args.toList ds p:=hA0
 rw [Tryd.params3] at hA hval hwt
 obtain ⟨v0,vs0,d0,ds0,p0,q0,hargs,rfl,rfl,h0,r0⟩:=trodAll_cons hA
 obtain ⟨v1,vs1,d1,ds1,p1,q1,rfl,rfl,rfl,h1,r1⟩:=trodAll_cons r0
 obtain ⟨v2,vs2,d2,ds2,p2,q2,rfl,rfl,rfl,h2,r2⟩:=trodAll_cons r1
 obtain ⟨rfl,rfl,rfl⟩:=trodAll_nil r2
 obtain rfl:args=#[v0,v1,v2]:=by cases args;simp_all
 obtain ⟨rfl,rfl⟩:=trodVars_none hV
 have k0:=h0
 have lt0:∀ x ∈ p0,x.block < W.heap.size:=by obtain ⟨m,hm⟩:=k0;exact DataW.trod_lt m _ _ _ hm
 obtain ⟨x0,y0,z0,_⟩:=Zqf (R:=reachBytes) (n:=12) (T:=(.slice true Zjj)) (by kernel_rfl) (by kernel_rfl) (fun m hm=>of_decide_eq_true (XB.1 hwt m (DataW.weights_mem_each (j:=0) rfl rfl m hm))) (hval 0 22 v0 rfl rfl) h0
 rw [Tryd.underlying22] at y0
 obtain ⟨a0,b0,rfl⟩:=ZHo y0
 have k1:=h1
 have lt1:∀ x ∈ p1,x.block < W.heap.size:=by obtain ⟨m,hm⟩:=k1;exact DataW.trod_lt m _ _ _ hm
 obtain ⟨x1,y1,z1,_⟩:=Zqf (R:=reachBytes) (n:=12) (T:=(.slice false (.int .i64))) (by kernel_rfl) (by kernel_rfl) (fun m hm=>of_decide_eq_true (XB.1 hwt m (DataW.weights_mem_each (j:=1) rfl rfl m hm))) (hval 1 23 v1 rfl rfl) h1
 rw [Tryd.underlying23] at y1
 obtain ⟨a1,b1,rfl⟩:=ZIQ y1
 have k2:=h2
 have lt2:∀ x ∈ p2,x.block < W.heap.size:=by obtain ⟨m,hm⟩:=k2;exact DataW.trod_lt m _ _ _ hm
 obtain ⟨x2,y2,z2,_⟩:=Zqf (R:=reachBytes) (n:=12) (T:=(.int .i64)) (by kernel_rfl) (by kernel_rfl) (fun m hm=>of_decide_eq_true (XB.1 hwt m (DataW.weights_mem_each (j:=2) rfl rfl m hm))) (hval 2 3 v2 rfl rfl) h2
 rw [Tryd.underlying3] at y2
 obtain ⟨a2,b2,rfl⟩:=ZEp y2
 clear hA0 hval0
 have rb:reachBytes<=9223372036854775807:=by decide
 have hq:=ZDG a0 a1 a2 (fun p hp=>ZQW (b0.2 p hp) rb)
 refine (ZF8 ZyL (ZMh hL) (args:=[.lst false (a0.map Zs),.lst false (a1.map (AVal.int .i64 ·)),.int .i64 a2]) (by simp only [VRs];exact ⟨_,_,rfl,z0,_,_,rfl,z1,_,_,rfl,z2,rfl⟩) (hq)).mono fun e W' ⟨he,bel⟩=>?_
 subst he
 exact ⟨_,rfl,_,_,_,[],_,[],hW',trodAll_mk1 (shut_bool Tryd.underlying4 _),(trodAll_cons_mk (Below.trod ZoU (by kernel_rfl) (of_decide_eq_true (by kernel_rfl)) k0 bel lt0) (trodAll_cons_mk (Below.trod ZoU (by kernel_rfl) (of_decide_eq_true (by kernel_rfl)) k1 bel lt1) (trodAll_cons_mk (Below.trod ZoU (by kernel_rfl) (of_decide_eq_true (by kernel_rfl)) k2 bel lt2) trodAll_mk0))),rfl,bel.frame _,fun h=>by cases h⟩
noncomputable def ZrV (os:Os):World :=
 let w0:=World.holding Tryd.prog os ⟨#[],#[],[]⟩
 let put (h:Array Obj) (g:Nat) (us:Array Value):Array Obj:=h.modify g fun
  | .cells _ t frozen=>.cells us t frozen
  | o=>o
 let h1:=put w0.heap 1 (Lib.firstTab.map fun z=>Value.int .u8 z).toArray
 let h2:=put h1 2 ((X6 16).flatMap fun i=>[Value.int .u8 (Lib.accLo i),Value.int .u8 (Lib.accHi i)]).toArray
 let h3:=(put h2 0 #[Value.iface 152 (.pointer (some ⟨h2.size,0,none⟩))]).push (.cells #[Value.string ⟨#[98,121,116,101,115,46,66,117,102,102,101,114,58,32,116,111,111,32,108,97,114,103,101]⟩] 168)
 { w0 with heap:=h3 }
theorem ZGn (os:Os):laidMet Tryd.prog Rows.streamPacketsRow.laid ((ZrV os).forCall (fun _ _=>0) ⟨#[],#[.slice none 0 0,.slice none 0 0,.int .i64 0],[]⟩).memory :=
 laidMet_of_run' 8 (by kernel_rfl) (by kernel_rfl)
theorem ZM7 (os:Os) {H:Type} (enc:TypeId×Value->H):∃ ds places,DataW.whole enc Tryd.prog ((ZrV os).forCall (fun _ _=>0) ⟨#[],#[.slice none 0 0,.slice none 0 0,.int .i64 0],[]⟩).memory Tryd.f3.params.toList Rows.streamPacketsSpec.vars false #[.slice none 0 0,.slice none 0 0,.int .i64 0].toList 8=some (ds,[],places) :=
 ⟨[.nil,.nil,.lit (.int .i64 0)],[],by kernel_rfl⟩
set_option maxRecDepth 100000 in
theorem Zy9 (os:Os) (started:os.Started) (H:Type) (enc:TypeId×Value->H) (F:Stop.Interp) :
  ReturnsInHanded {} Tryd.checked os 3 .any ((OpenSpec.ofChange Rows.streamPacketsSpec).preRow enc Tryd.prog Tryd.f3 Rows.streamPacketsRow.domain false Rows.streamPacketsRow.laid) (((OpenSpec.ofChange Rows.streamPacketsSpec).at F).post enc Tryd.prog Tryd.f3 false true false false):=by
 obtain ⟨ds,places,hx⟩:=ZM7 os enc
 refine returnsInHanded_of_row (C:=Tryd.checked) (s:=(OpenSpec.ofChange Rows.streamPacketsSpec)) ZNr started (by kernel_rfl) Tryd.func3
  (witness_row_at (enc:=enc) (C:=Tryd.checked) false (ZrV os) #[.slice none 0 0,.slice none 0 0,.int .i64 0] rfl (by kernel_rfl) (by kernel_rfl) (by kernel_rfl)
   (OpenSpec.preRow_of_cond 8 hx (by kernel_rfl) (fun k hk=>by cases hk) (by kernel_rfl) (ZGn os))) ?_
 intro W base args ds gs before hval hW _ hcond hwt hL _ _
 exact ZIz H enc W base args ds gs before _ hval hW hL hwt
theorem ZHs:Rows.StreamPacketsSaid :=
 OpenClaim.holds_of_cond 3 Tryd.f3 rfl rfl rfl rfl rfl rfl rfl ⟨rfl,rfl,rfl,rfl,rfl⟩ rfl rfl rfl rfl rfl (by kernel_rfl) Tryd.func3 (by kernel_rfl)
  (of_decide_eq_true (by kernel_rfl)) (by unfold Func.isWrapper;first | (rw [if_pos (by decide +kernel)];kernel_rfl) | (rw [if_neg (by decide +kernel)];exact ⟨rfl,rfl⟩))
  (fun os started H enc _ F=>by rw [OpenClaim.pre_eq_preRow];exact Zy9 os started H enc F)
theorem ZNI (f:FuncId) (fn:Func) (hf:Tryd.pinned.checked.prog.funcNamed "tidings/tidingslaw13.StreamPackets"=some f) (hfn:Tryd.pinned.checked.prog.funcs[f]?=some fn) :
  true=Tryd.pinned.checked.prog.looks []/\∀ (j:Nat) t,fn.params[j]?=some t->Tryd.pinned.checked.prog.wantsStandIn t=false:=by
 obtain rfl:f=3:=WN ((show Tryd.prog.funcNamed "tidings/tidingslaw13.StreamPackets"=some 3 by kernel_rfl).symm.trans hf) |>.symm
 obtain rfl:fn=Tryd.f3:=(WN (Tryd.func3.symm.trans hfn)).symm
 refine ⟨by kernel_rfl,fun j t ht=>?_⟩
 rw [Tryd.params3] at ht
 have hm:t=22\/t=23\/t=3:=by
  have:=Array.mem_of_getElem? ht
  simp at this
  first | exact this | exact this.symm | omega | (rcases this with h | h | h <;> simp [h]) | (rcases this with h | h | h | h <;> simp [h]) | (rcases this with h | h | h | h | h <;> simp [h]) | (rcases this with h | h | h | h | h | h <;> simp [h]) | (rcases this with h | h | h | h | h | h | h <;> simp [h])
 rcases hm with rfl | rfl | rfl
 ·exact (show Tryd.prog.wantsStandIn 22=false by kernel_rfl)
 ·exact (show Tryd.prog.wantsStandIn 23=false by kernel_rfl)
 ·exact (show Tryd.prog.wantsStandIn 3=false by kernel_rfl)
theorem streamPackets_card:Rows.StreamPacketsCardSaid :=
 Claim7.holds_tied_plain_at .later [] _ _ _ _ ZHs (fun _ h=>by cases h) (by kernel_rfl) (fun _ h=>by cases h) streamPackets_row_tie rfl ⟨rfl,rfl⟩ (by kernel_rfl) rfl ZNI (by kernel_rfl)
#print axioms streamPackets_card
end
end Go.Proofs.YteepdofekjheaaaDoor
