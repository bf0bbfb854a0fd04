/- The statement of NoteOfs: for every input the law returns true, and each argument reads afterwards as it read before. No other condition. -/
import Derived.Test.YtnlnmdnmgachgaaMq2
import Derived.Test.YtnlnmdnmgachgaaMq3
import Derived.WalkKit
import Derived.WalkSpells
import Derived.WalkLawsBesides
import Derived.Lib.Hide
import Derived.Deep.AppendLies
import Derived.Deep.Draws
import Derived.Maps.AppendAt
import Derived.Laws.OwnMore
import Derived.Test.YtnlnmdnmgachgaaProg
import Derived.Test.YtnlnmdnmgachgaaRows
import Derived.ProofKit
import Derived.OpenShut
import Derived.ShutString
import Derived.ChangeOld
import Derived.Below
import Derived.SizedLaws
set_option linter.unusedSectionVars false
set_option linter.unusedSimpArgs false
set_option linter.unusedVariables false
open Option.some renaming injEq→Xa
open Prod.mk renaming injEq→Xb
open List renaming getElem?_eq_some_iff→Xo,map_cons→Xv,getElem?_eq_getElem→XA,mem_append→XB,all_eq_true→XD,mem_of_getElem?→XF,length_map→XH,replicate→XI,map_nil→XK,eq_nil_of_length_eq_zero→XO,getElem?_take→XP,mem_cons→XR,mem_map→XT,length_singleton→XZ,append_assoc→Wo,size_toArray→WC,range→WO,mem_iff_getElem?→WU,take_left→WV,mem_range→WW,getElem_map→XaU
open Bool renaming and_eq_true→Xp,false_eq_true→Xt
open Option renaming map_eq_some_iff→Xr
open Or renaming inl→Xz,inr→XG
open Nat renaming zero_add→XC,le_refl→X5,add_assoc→We,lt_of_lt_of_le→WT,mul_le_mul_left→WZ,le_trans→Xai,lt_or_gt_of_ne→XaJ,mul_one→Xa2,zero_le→Xa8
open Array renaming getElem?_eq_some_iff→XJ,length_toList→XN,getElem?_toList→Xax
open UInt8 renaming ofNat→Wq,toNat_ofNat'→W6
open ByteArray renaming empty→Wx
namespace Go.Proofs.Ytnlnmdnmgachgaa
set_option maxHeartbeats 16000000
set_option maxRecDepth 10000
section
open Go.RowKit
def ZdI (P:Program):Nat->TypeId->Bool
 | 0,_=>true
 | n+1,t=>match P.underlying t with
  | some (.slice e)=>decide (1<=P.bytesOf e) && ZdI P n e
  | some (.struct fs)=>fs.toList.all fun f=>ZdI P n f.type
  | _=>true
mutual
def TyR (R:Nat):Ty->List AVal->Prop
 | .bool,xs=>∃ b,xs=[.bool b]
 | .int k,xs=>∃ n,(Lit.int k n).wf=true/\xs=[.int k n]
 | .str,xs=>∃ l:List UInt8,l.length<=R/\xs=[.str l]
 | .slice s e,xs=>∃ ys:List (List AVal),xs=[.lst false (ys.map (Zbp s))]/\ys.length<=R/\∀ y ∈ ys,TyR R e y
 | .struct fs,xs=>Zcs R fs xs
def Zcs (R:Nat):List Ty->List AVal->Prop
 | [],xs=>xs=[]
 | f::fs,xs=>∃ a b,xs=a++b/\TyR R f a/\Zcs R fs b
end
section
variable {H:Type} {enc:TypeId×Value->H} {P:Program} {w:World} {spare:Nat->Bool} {held:Bool} {R:Nat}
theorem ZtA {d:DataW H} {e:TypeId} {n:Nat}:∀ {l:List (DataW H)},d ∈ l->n ∈ d.weights P e->n ∈ DataW.weightsAll P e l
 | x::l,h,hn=>by
  simp only [DataW.weightsAll,XB]
  rcases XR.1 h with rfl | h
  ·exact Xz hn
  ·exact XG (ZtA h hn)
theorem ZA6 {t e:TypeId} {l m:List (DataW H)} {d:DataW H} (hu:P.underlying t=some (.slice e)) (hd:d ∈ l) {n:Nat} (hn:n ∈ d.weights P e):n ∈ (DataW.slice l m).weights P t:=by
 simp only [DataW.weights,hu,XR,XB]
 exact XG (Xz (ZtA hd hn))
theorem Zwc {n fuel:Nat} {cs:List Value} (ih:∀ (t:TypeId) (cs:List Value) (x:DataW H×List MemPlace) (T:Ty),Zb5 P n t=some T->ZdI P n t=true->(∀ m ∈ x.1.weights P t,m<=R)->DataW.trod enc P w 0 spare held fuel t cs=some x->∃ xs,TyR R T xs/\VRs (Imm.of w) B0 xs cs/\Zal xs=true) :
  ∀ (fs:List Field) (at':Nat) (Ts:List Ty) (ys:List (DataW H×List MemPlace)),(fs.all fun f=>ZdI P n f.type)=true->(∀ m ∈ DataW.weightsEach P (fs.map (·.type)) (ys.map (·.1)),m<=R)->ZfP P at' fs cs.length=true->fs.mapM (fun f=>Zb5 P n f.type)=some Ts ->
   fs.mapM (fun f=>DataW.trod enc P w 0 spare held fuel f.type ((cs.drop f.offset).take (P.cellsOf f.type)))=some ys->∃ xs,Zcs R Ts xs/\VRs (Imm.of w) B0 xs (cs.drop at')/\Zal xs=true
 | [],at',Ts,ys,_,_,ho,hT,_=>by
  simp only [ZfP,beq_iff_eq] at ho
  simp only [List.mapM_nil,Option.pure_def,Xa] at hT
  subst hT ho
  exact ⟨[],by simp only [Zcs],by simp [VRs],rfl⟩
 | f::fs,at',Ts,ys,hby,hwt,ho,hT,h=>by
  simp only [ZfP,Xp,beq_iff_eq] at ho
  obtain ⟨T,Ts',h1,h2,rfl⟩:=ZwM hT
  obtain ⟨y,ys',h3,h4,rfl⟩:=ZwM h
  simp only [List.all_cons,Xp] at hby
  simp only [Xv,DataW.weightsEach,XB] at hwt
  obtain ⟨a,a1,a2,a3⟩:=ih _ _ _ _ h1 hby.1 (fun m hm=>hwt m (Xz hm)) h3
  obtain ⟨b,b1,b2,b3⟩:=Zwc ih fs _ _ _ hby.2 (fun m hm=>hwt m (XG hm)) ho.2 h2 h4
  rw [ho.1] at a2
  refine ⟨a++b,by simp only [Zcs];exact ⟨a,b,rfl,a1,b1⟩,ZB5 a2 (by rw [List.drop_drop];exact b2),ZCf a3 b3⟩
theorem Zu0 {n:Nat} {e:TypeId} {T:Ty} (hT:Zb5 P n e=some T) (hs:Zch (P.underlying e)=false) {xs:List AVal} (h:TyR R T xs):xs.length=1:=by
 cases n with
 | zero=>simp [Zb5] at hT
 | succ n =>
  simp only [Zb5] at hT
  split at hT
  ·injection hT with hT;subst hT;simp only [TyR] at h;obtain ⟨_,rfl⟩:=h;rfl
  ·injection hT with hT;subst hT;simp only [TyR] at h;obtain ⟨_,_,rfl⟩:=h;rfl
  ·injection hT with hT;subst hT;simp only [TyR] at h;obtain ⟨_,_,rfl⟩:=h;rfl
  ·split at hT
   ·simp only [Xr] at hT
    obtain ⟨T',_,rfl⟩:=hT
    simp only [TyR] at h;obtain ⟨_,rfl,_⟩:=h;rfl
   ·cases hT
  ·rename_i hu;rw [hu] at hs;simp [Zch] at hs
  ·cases hT
theorem Zqg:∀ (n fuel:Nat) (t:TypeId) (cs:List Value) (x:DataW H×List MemPlace) (T:Ty),Zb5 P n t=some T->ZdI P n t=true->(∀ m ∈ x.1.weights P t,m<=R)->DataW.trod enc P w 0 spare held fuel t cs=some x ->
  ∃ xs,TyR R T xs/\VRs (Imm.of w) B0 xs cs/\Zal xs=true
 | 0,fuel,t,cs,x,T,hT,_,_,_=>by simp [Zb5] at hT
 | n+1,0,t,cs,x,T,_,_,_,h=>by simp [DataW.trod] at h
 | n+1,fuel+1,t,cs,x,T,hT,hby,hwt,h=>by
  have h0:=h
  simp only [Zb5] at hT
  unfold DataW.trod at h
  split at hT
  ·rename_i hu
   injection hT with hT;subst hT
   obtain ⟨b,rfl,_⟩:=DataW.trod_bool hu h0
   exact ⟨[.bool b],by simp only [TyR];exact ⟨b,rfl⟩,by simp [VRs,VR],rfl⟩
  ·rename_i k hu
   injection hT with hT;subst hT
   obtain ⟨n',rfl,_,hk⟩:=DataW.trod_int hu h0
   exact ⟨[.int k n'],by simp only [TyR];exact ⟨n',hk,rfl⟩,by simp [VRs,VR],rfl⟩
  ·rename_i hu
   injection hT with hT;subst hT
   obtain ⟨s,rfl,hx,hs⟩:=DataW.trod_string hu h0
   have hs':s.data.toList.length<=9223372036854775807:=by
    rw [XN];exact Xai hs (by simp [maxLen])
   have hR:s.data.toList.length<=R:=by
    subst hx
    exact hwt _ (by simp [DataW.weights])
   exact ⟨[.str s.data.toList],by simp only [TyR];exact ⟨_,hR,rfl⟩,by simp only [VRs,VR];exact ⟨_,_,rfl,⟨by simp,hs'⟩,rfl⟩,rfl⟩
  ·rename_i e hu
   split at hT
   case isFalse=>cases hT
   rename_i hc
   simp only [Xr] at hT
   obtain ⟨T,hT,rfl⟩:=hT
   rcases Go.Deep.open_slice hu h0 with ⟨hcs,_⟩ | ⟨a,len,cap,m,n',D,Pl,hcs,_,hl,hm,hmm,hx,hi⟩
   ·subst hcs
    exact ⟨[.lst false []],by simp only [TyR];exact ⟨[],by simp,by simp,by simp⟩,by simp only [VRs,VR];exact ⟨_,_,rfl,⟨none,0,rfl,by simp,by simp,by simp,by simp,by simp [Z4]⟩,rfl⟩,rfl⟩
   ·have hlm:len<=m:=by split at hmm <;> omega
    unfold ZdI at hby
    rw [hu] at hby
    simp only [Xp,decide_eq_true_eq] at hby
    have hlR:len<=R:=by
     have:=hwt _ (by rw [hx];simp only [DataW.weights,hu];exact List.mem_cons_self ..)
     simp only [XH,List.length_range] at this
     have h1:=Nat.le_mul_of_pos_right (len+(m - len)) hby.1
     omega
    have hspot:0 < len->a.spot=none:=by
     intro h0
     obtain ⟨cs',h1,h2⟩:=hi 0 (by omega)
     obtain ⟨_,h6,h7⟩:=World.cells?_some h1
     have h8:=h7 0 hc
     obtain ⟨u,hu⟩:∃ u,cs'[0]?=some u:=⟨cs'[0]'(by omega),by simp⟩
     rw [hu] at h8
     simp only [Nat.zero_mul,Addr.add,if_true] at h8
     exact ZzV (b:=a.block) (off:=a.off) (s:=a.spot) (u:=u) h8
    have hall:∀ i,∃ xs,i < len->TyR R T xs/\(Zbp (Zch (P.underlying e)) xs).cells=xs/\xs.length=P.cellsOf e/\CR (Imm.of w) B0 xs a.block (a.off+i*P.cellsOf e)/\Zal xs=true:=by
     intro i
     by_cases hlt:i < len
     ·obtain ⟨cs',h1,h2⟩:=hi i (by omega)
      obtain ⟨xs,h3,h4,h5⟩:=Zqg n n' e cs' _ T hT hby.2 (fun q hq=>hwt q (by rw [hx];exact ZA6 hu (XT.2 ⟨i,WW.2 hlt,rfl⟩) hq)) h2
      obtain ⟨_,h6,h7⟩:=World.cells?_some h1
      have hlen:=Zas h4
      refine ⟨xs,fun _=>⟨h3,ZA0 (fun hs=>Zu0 hT hs h3) (fun _=>Zvh h5),by omega,ZuQ xs cs' _ h4 (fun j hj=>?_),h5⟩⟩
      have h8:=h7 j (by omega)
      rw [Go.Deep.add_add,ZBn (hspot (by omega)),<-We] at h8
      exact h8
     ·exact ⟨[],fun h=>absurd h hlt⟩
    obtain ⟨Y,hY⟩:=Classical.axiomOfChoice hall
    subst hcs
    have hmx:maxLen=9223372036854775807:=by simp [maxLen]
    rw [hmx] at hm
    refine ⟨[.lst false ((WO len).map fun i=>Zbp (Zch (P.underlying e)) (Y i))],?_,?_,?_⟩
    ·simp only [TyR]
     refine ⟨(WO len).map Y,by rw [List.map_map];rfl,by simpa using hlR,?_⟩
     intro y hy
     obtain ⟨i,hi',rfl⟩:=XT.1 hy
     exact (hY i (WW.1 hi')).1
    ·simp only [VRs,VR,XH,List.length_range]
     refine ⟨_,_,rfl,⟨some a,cap,rfl,hl,hm,by simp,?_,Ztn len Y fun i hlt=>by rw [(hY i hlt).2.1];exact (hY i hlt).2.2.2.2⟩,rfl⟩
     cases len with
     | zero=>exact Xz (by simp)
     | succ len =>
      refine XG ⟨a.block,a.off,P.cellsOf e,?_,hc,Zv4 (len+1) a.off Y fun i hlt=>?_⟩
      ·have:=hspot (by omega)
       cases a;simp_all
      ·rw [(hY i hlt).2.1];exact ⟨(hY i hlt).2.2.1,(hY i hlt).2.2.2.1⟩
    ·simp only [Zal,Zat,Bool.and_true]
     exact Ztn len Y fun i hlt=>by rw [(hY i hlt).2.1];exact (hY i hlt).2.2.2.2
  ·rename_i fs hu
   split at hT
   case isFalse=>cases hT
   rename_i ho
   simp only [Xr] at hT
   obtain ⟨Ts,hT,rfl⟩:=hT
   rw [hu] at h
   simp only at h
   split at h
   ·rename_i hl
    simp only [Xr] at h
    obtain ⟨ys,hy,rfl⟩:=h
    unfold ZdI at hby
    rw [hu] at hby
    simp only [DataW.weights,hu] at hwt
    obtain ⟨xs,h1,h2,h3⟩:=Zwc (fun t cs x T h h1 h2 h'=>Zqg n fuel t cs x T h h1 h2 h') fs.toList 0 Ts ys hby hwt (by rw [hl];exact ho) hT hy
    exact ⟨xs,by simp only [TyR];exact h1,h2,h3⟩
   ·cases h
  ·cases hT
def Zew (R:Nat) (s:Bool) (T:Ty) (x:AVal):Prop:=∃ xs,TyR R T xs/\x=Zbp s xs
theorem Zeo {n:Nat} {t:TypeId} {v:Value} {d:DataW H} {ps:List MemPlace} {T:Ty} {r:Reach} {b0:Nat} (hT:Zb5 P n t=some T) (hby:ZdI P n t=true) (hwt:∀ m ∈ d.weights P t,m<=R) (hv:Value.okWide P w r b0 t v) (h:DataW.Trod enc P w 0 spare held t v d ps) :
  ∃ x,Zew R (Zch (P.underlying t)) T x/\VR (Imm.of w) B0 x v/\Zal x.cells=true:=by
 obtain ⟨fuel,h⟩:=h
 obtain ⟨xs,h1,h2,h3⟩:=Zqg n fuel t _ _ T hT hby hwt h
 refine ⟨Zbp (Zch (P.underlying t)) xs,⟨xs,h1,rfl⟩,?_⟩
 by_cases hs:Zch (P.underlying t)=true
 ·have : ∃ cs,v=.agg cs:=by
   unfold Value.okWide at hv
   cases hu:P.underlying t with
   | none=>rw [hu] at hs;simp [Zch] at hs
   | some dd =>
    rw [hu] at hv hs
    cases dd <;> first | (simp [Zch] at hs;done) | (obtain ⟨cs,e,_⟩:=hv;exact ⟨cs,e⟩)
  obtain ⟨cs,rfl⟩:=this
  rw [hs]
  exact ⟨by simp only [Zbp,if_true,VR];exact ⟨cs,rfl,h2⟩,h3⟩
 ·have hs':Zch (P.underlying t)=false:=by simpa using hs
  have hl:=Zu0 hT hs' h1
  have hlen:=Zas h2
  rw [hs']
  match xs,hl with
  | [x],_ =>
   simp only [Zbp,Xt,if_false,List.headD_cons]
   have hvc:v.cells=#[v]:=by
    cases n with
    | zero=>simp [Zb5] at hT
    | succ n =>
     simp only [Zb5] at hT
     split at hT
     ·rename_i hu;obtain ⟨b,rfl⟩:=Go.WideShapes.okWide_bool hu hv;rfl
     ·rename_i k hu;obtain ⟨b,rfl⟩:=Go.WideShapes.okWide_int hu hv;rfl
     ·rename_i hu;obtain ⟨b,rfl⟩:=Go.WideShapes.okWide_string hu hv;rfl
     ·rename_i e hu;obtain ⟨a,l,c,rfl⟩:=Go.WideShapes.okWide_slice hu hv;rfl
     ·rename_i fs hu;rw [hu] at hs';simp [Zch] at hs'
     ·cases hT
   rw [hvc] at h2
   simp only [VRs] at h2
   obtain ⟨v',vs',e,h2,_⟩:=h2
   simp only [List.cons.injEq] at e
   rw [e.1]
   refine ⟨h2,?_⟩
   have hok:=Zvh h3 x (by simp)
   have hx:x.cells=[x]:=by cases x <;> first | rfl | (simp [ZT] at hok;done)
   rw [hx];exact h3
end
end
section
open Go.RowKit
variable {R:Nat}
theorem ZfO {α:Type} {T:Ty} {s:Bool} {f:α->AVal} {Q:α->Prop} (h:∀ y,TyR R T y->∃ a,Q a/\Zbp s y=f a) {xs:List AVal} (hx:TyR R (.slice s T) xs):∃ l:List α,(l.length<=R/\∀ a ∈ l,Q a)/\xs=[.lst false (l.map f)]:=by
 simp only [TyR] at hx
 obtain ⟨ys,rfl,h1,h2⟩:=hx
 have : ∀ ys:List (List AVal),(∀ y ∈ ys,TyR R T y)->∃ l:List α,(∀ a ∈ l,Q a)/\ys.map (Zbp s)=l.map f:=by
  intro ys
  induction ys with
  | nil=>intro _;exact ⟨[],by simp,rfl⟩
  | cons y ys ih =>
   intro hy
   obtain ⟨a,hq,ha⟩:=h y (hy y (by simp))
   obtain ⟨l,hql,hl⟩:=ih fun y' h'=>hy y' (by simp [h'])
   exact ⟨a::l,by simpa using ⟨hq,hql⟩,by simp [ha,hl]⟩
 obtain ⟨l,hq,hl⟩:=this ys h2
 refine ⟨l,⟨?_,hq⟩,by rw [hl]⟩
 have:=congrArg List.length hl
 simp only [XH] at this
 omega
theorem Zz2 {y:List AVal} (h:TyR R (.int .u8) y):∃ b,True/\Zbp false y=Zb b:=by
 simp only [TyR] at h
 obtain ⟨n,hw,rfl⟩:=h
 have h1:0<=n/\n<=255:=by
  simp only [Lit.wf,Xp,decide_eq_true_eq] at hw
  exact hw
 refine ⟨Wq n.toNat,trivial,?_⟩
 simp only [Zbp,Xt,if_false,List.headD_cons,Zb,AVal.int.injEq,true_and]
 rw [W6]
 omega
theorem ZgK {xs:List AVal} (h:TyR R (.slice false (.int .u8)) xs):∃ b:ZV,b.length<=R/\xs=[Zk b]:=by
 obtain ⟨b,h1,h2⟩:=ZfO (Q:=fun _=>True) (fun _=>Zz2) h
 exact ⟨b,h1.1,h2⟩
def okI (n:Int):Prop:=-9223372036854775808<=n/\n<=9223372036854775807
theorem Zby {y:List AVal} (h:TyR R (.int .i64) y):∃ n,okI n/\y=[.int .i64 n]:=by
 simp only [TyR] at h
 obtain ⟨n,hw,rfl⟩:=h
 refine ⟨n,?_,rfl⟩
 simp only [Lit.wf,Xp,decide_eq_true_eq] at hw
 exact hw
theorem Zcd {y:List AVal} (h:TyR R .bool y):∃ b,y=[.bool b]:=by
 simp only [TyR] at h;exact h
theorem Zcj {y:List AVal} (h:TyR R .str y):∃ l:ZV,l.length<=R/\y=[.str l]:=by
 simp only [TyR] at h;exact h
theorem ZAh {xs:List AVal} (h:TyR R (.slice false .str) xs):∃ l:List ZV,(l.length<=R/\∀ x ∈ l,x.length<=R)/\xs=[.lst false (l.map AVal.str)] :=
 ZfO (fun y hy=>by obtain ⟨l,h1,rfl⟩:=Zcj hy;exact ⟨l,h1,rfl⟩) h
theorem ZwB {xs:List AVal} (h:TyR R (.slice false (.int .i64)) xs):∃ l:List Int,(l.length<=R/\∀ n ∈ l,okI n)/\xs=[.lst false (l.map (AVal.int .i64))] :=
 ZfO (fun y hy=>by obtain ⟨n,h1,rfl⟩:=Zby hy;exact ⟨n,h1,rfl⟩) h
def ZeR:Ty:=.struct [.int .i64,.int .i64,.str,.str,.slice false (.int .u8)]
def Zu1 (R:Nat) (p:ZZ):Prop:=okI p.id/\okI p.num/\p.text.length<=R/\p.pair.length<=R/\p.data.length<=R
theorem ZA4 {y:List AVal} (h:TyR R ZeR y):∃ p,Zu1 R p/\Zbp true y=Zc p:=by
 unfold ZeR at h
 rw [TyR] at h
 simp only [Zcs] at h
 obtain ⟨_,_,rfl,h1,_,_,rfl,h2,_,_,rfl,h3,_,_,rfl,h4,_,_,rfl,h5,rfl⟩:=h
 obtain ⟨i,i1,rfl⟩:=Zby h1
 obtain ⟨n,n1,rfl⟩:=Zby h2
 obtain ⟨t,t1,rfl⟩:=Zcj h3
 obtain ⟨q,q1,rfl⟩:=Zcj h4
 obtain ⟨d,d1,rfl⟩:=ZgK h5
 exact ⟨⟨i,n,t,q,d⟩,⟨i1,n1,t1,q1,d1⟩,rfl⟩
def Zix (R:Nat) (l:List ZZ):Prop:=l.length<=R/\∀ p ∈ l,Zu1 R p
theorem Zsm {xs:List AVal} (h:TyR R (.slice true ZeR) xs):∃ l:List ZZ,Zix R l/\xs=[Zr l]:=ZfO (fun _=>ZA4) h
def Zq1:Ty:=.struct [.str,.int .i64,.bool,.bool,.int .i64,.int .i64]
theorem ZBD {y:List AVal} (h:TyR R Zq1 y):∃ p:ZjO,(p.filter.length<=R/\okI p.qos/\okI p.handling/\okI p.id)/\Zbp true y=Zb3 p:=by
 unfold Zq1 at h
 rw [TyR] at h
 simp only [Zcs] at h
 obtain ⟨_,_,rfl,h1,_,_,rfl,h2,_,_,rfl,h3,_,_,rfl,h4,_,_,rfl,h5,_,_,rfl,h6,rfl⟩:=h
 obtain ⟨f,f1,rfl⟩:=Zcj h1
 obtain ⟨q,q1,rfl⟩:=Zby h2
 obtain ⟨n,rfl⟩:=Zcd h3
 obtain ⟨a,rfl⟩:=Zcd h4
 obtain ⟨k,k1,rfl⟩:=Zby h5
 obtain ⟨i,i1,rfl⟩:=Zby h6
 exact ⟨⟨f,q,n,a,k,i⟩,⟨f1,q1,k1,i1⟩,rfl⟩
def Zu9:Ty:=.struct [.str,.slice false (.int .u8),.int .i64,.bool,.slice true ZeR]
def ZmC:Ty:=.struct [.int .i64,.bool,.int .i64,.bool,.int .i64,.str,.slice false (.int .u8),.int .i64,.slice false (.int .i64),.slice true ZeR,.slice true Zq1,.slice false .str,.bool,.int .i64,.str,.bool,Zu9,.bool,.str,.bool,.slice false (.int .u8),.bool]
structure ZBC (R:Nat) (p:Zb0):Prop where
 topic:p.topic.length<=R
 payload:p.payload.length<=R
 codes:p.codes.length<=R/\∀ n ∈ p.codes,okI n
 props:Zix R p.props
 subs:p.subs.length<=R/\∀ s ∈ p.subs,s.filter.length<=R/\okI s.qos/\okI s.handling/\okI s.id
 filters:p.filters.length<=R/\∀ f ∈ p.filters,f.length<=R
 client:p.client.length<=R
 wtopic:p.will.topic.length<=R
 wdata:p.will.data.length<=R
 wprops:Zix R p.will.props
 user:p.user.length<=R
 password:p.password.length<=R
 ints:okI p.type/\okI p.qos/\okI p.id/\okI p.code/\okI p.keep/\okI p.will.qos
theorem Zxd {x:AVal} (h:Zew R true ZmC x):∃ p,ZBC R p/\x=Zuz p:=by
 obtain ⟨y,h,rfl⟩:=h
 unfold ZmC at h
 rw [TyR] at h
 simp only [Zcs] at h
 obtain ⟨_,_,rfl,h1,_,_,rfl,h2,_,_,rfl,h3,_,_,rfl,h4,_,_,rfl,h5,_,_,rfl,h6,_,_,rfl,h7,_,_,rfl,h8,_,_,rfl,h9,_,_,rfl,h10,_,_,rfl,h11,_,_,rfl,h12,_,_,rfl,h13,_,_,rfl,h14,_,_,rfl,h15,_,_,rfl,h16,_,_,rfl,h17,_,_,rfl,h18,_,_,rfl,h19,_,_,rfl,h20,_,_,rfl,h21,_,_,rfl,h22,rfl⟩:=h
 unfold Zu9 at h17
 rw [TyR] at h17
 simp only [Zcs] at h17
 obtain ⟨_,_,rfl,w1,_,_,rfl,w2,_,_,rfl,w3,_,_,rfl,w4,_,_,rfl,w5,rfl⟩:=h17
 obtain ⟨a1,b1,rfl⟩:=Zby h1
 obtain ⟨a2,rfl⟩:=Zcd h2
 obtain ⟨a3,b3,rfl⟩:=Zby h3
 obtain ⟨a4,rfl⟩:=Zcd h4
 obtain ⟨a5,b5,rfl⟩:=Zby h5
 obtain ⟨a6,b6,rfl⟩:=Zcj h6
 obtain ⟨a7,b7,rfl⟩:=ZgK h7
 obtain ⟨a8,b8,rfl⟩:=Zby h8
 obtain ⟨a9,b9,rfl⟩:=ZwB h9
 obtain ⟨a10,b10,rfl⟩:=Zsm h10
 obtain ⟨a11,b11,rfl⟩:=ZfO (fun _=>ZBD) h11
 obtain ⟨a12,b12,rfl⟩:=ZAh h12
 obtain ⟨a13,rfl⟩:=Zcd h13
 obtain ⟨a14,b14,rfl⟩:=Zby h14
 obtain ⟨a15,b15,rfl⟩:=Zcj h15
 obtain ⟨a16,rfl⟩:=Zcd h16
 obtain ⟨v1,u1,rfl⟩:=Zcj w1
 obtain ⟨v2,u2,rfl⟩:=ZgK w2
 obtain ⟨v3,u3,rfl⟩:=Zby w3
 obtain ⟨v4,rfl⟩:=Zcd w4
 obtain ⟨v5,u5,rfl⟩:=Zsm w5
 obtain ⟨a18,rfl⟩:=Zcd h18
 obtain ⟨a19,b19,rfl⟩:=Zcj h19
 obtain ⟨a20,rfl⟩:=Zcd h20
 obtain ⟨a21,b21,rfl⟩:=ZgK h21
 obtain ⟨a22,rfl⟩:=Zcd h22
 exact ⟨⟨a1,a2,a3,a4,a5,a6,a7,a8,a9,a10,a11,a12,a13,a14,a15,a16,⟨v1,v2,v3,v4,v5⟩,a18,a19,a20,a21,a22⟩,⟨b6,b7,b9,b10,b11,b12,b15,u1,u2,u5,b19,b21,b1,b3,b5,b8,b14,u3⟩,rfl⟩
theorem ZtW {x:AVal} (h:Zew R false .str x):∃ l:ZV,l.length<=R/\x=.str l:=by
 obtain ⟨y,h,rfl⟩:=h
 obtain ⟨l,h1,rfl⟩:=Zcj h
 exact ⟨l,h1,rfl⟩
theorem ZuZ {x:AVal} (h:Zew R false (.int .i64) x):∃ n:Int,okI n/\x=.int .i64 n:=by
 obtain ⟨y,h,rfl⟩:=h
 obtain ⟨l,h1,rfl⟩:=Zby h
 exact ⟨l,h1,rfl⟩
theorem ZyT {x:AVal} (h:Zew R false .bool x):∃ n:Bool,x=.bool n:=by
 obtain ⟨y,h,rfl⟩:=h
 obtain ⟨l,rfl⟩:=Zcd h
 exact ⟨l,rfl⟩
end
section
open Go.RowKit
def Zh3:Ty:=.struct [.struct [.str,.slice false (.int .u8),.int .i64,.bool,.str,.int .i64,.slice true ZeR,.int .i64,.int .i64,.int .i64],.int .i64,.bool,.slice false (.int .i64),.str]
theorem ZBy {R:Nat} {x:AVal} (h:Zew R true Zh3 x):∃ it:Zbt,Zix R it.note.props/\x=ZdR it:=by
 obtain ⟨y,h,rfl⟩:=h
 unfold Zh3 at h
 rw [TyR] at h
 simp only [Zcs] at h
 obtain ⟨_,_,rfl,h1,_,_,rfl,h2,_,_,rfl,h3,_,_,rfl,h4,_,_,rfl,h5,rfl⟩:=h
 rw [TyR] at h1
 simp only [Zcs] at h1
 obtain ⟨_,_,rfl,n1,_,_,rfl,n2,_,_,rfl,n3,_,_,rfl,n4,_,_,rfl,n5,_,_,rfl,n6,_,_,rfl,n7,_,_,rfl,n8,_,_,rfl,n9,_,_,rfl,n10,rfl⟩:=h1
 obtain ⟨a1,_,rfl⟩:=Zcj n1
 obtain ⟨a2,_,rfl⟩:=ZgK n2
 obtain ⟨a3,_,rfl⟩:=Zby n3
 obtain ⟨a4,rfl⟩:=Zcd n4
 obtain ⟨a5,_,rfl⟩:=Zcj n5
 obtain ⟨a6,_,rfl⟩:=Zby n6
 obtain ⟨a7,b7,rfl⟩:=Zsm n7
 obtain ⟨a8,_,rfl⟩:=Zby n8
 obtain ⟨a9,_,rfl⟩:=Zby n9
 obtain ⟨a10,_,rfl⟩:=Zby n10
 obtain ⟨c2,_,rfl⟩:=Zby h2
 obtain ⟨c3,rfl⟩:=Zcd h3
 obtain ⟨c4,_,rfl⟩:=ZwB h4
 obtain ⟨c5,_,rfl⟩:=Zcj h5
 exact ⟨⟨⟨a1,a2,a3,a4,a5,a6,a7,a8,a9,a10⟩,c2,c3,c4,c5⟩,b7,rfl⟩
theorem ZBi (w:World):Gl.le (Imm.of w):=by
 intro b o u h
 unfold Gl at h
 cases h
example:Zb5 Try.prog 12 36=some Zh3:=by kernel_rfl
end
section
open Go.RowKit
def bV (c:UInt8):Value:=.int .u8 (c.toNat:Int)
def bVs (l:List UInt8):List Value:=l.map bV
theorem Zc5 (l:List UInt8):(bVs l).length=l.length:=by simp [bVs]
theorem ZhS (l r:List UInt8):bVs (l++r)=bVs l++bVs r:=by simp [bVs]
def Row (w:World) (A:Option Addr) (xs:List Value):Prop :=
 xs=[]\/∃ b off,A=some ⟨b,off,none⟩/\∀ i u,xs[i]?=some u->w.cell? ⟨b,off+i,none⟩=some u
end
section
open Go.RowKit
section
variable {w w':World} {A:Option Addr} {xs ys:List Value}
theorem Row.keep (h:Row w A xs) (hk:∀ p:Addr,∀ u,w.cell? p=some u->w'.cell? p=some u):Row w' A xs:=by
 rcases h with h | ⟨b,off,e,h⟩
 ·exact Xz h
 ·exact XG ⟨b,off,e,fun i u hu=>hk _ _ (h i u hu)⟩
theorem Zz7 (hb:Below w.heap.size w w') {p:Addr} {u:Value} (h:w.cell? p=some u):w'.cell? p=some u :=
 (hb.cell (World.block_lt_of_cell? w p h)).trans h
theorem Row.below (h:Row w A xs) (hb:Below w.heap.size w w'):Row w' A xs:=h.keep fun _ _ hu=>Zz7 hb hu
theorem Row.drew (h:Row w A xs):Row w.drew A xs:=h
theorem Row.alloc (h:Row w A xs) (o:Obj):Row (w.alloc o) A xs :=
 h.keep fun p u hu=>(World.cell?_alloc_lt w o p (World.block_lt_of_cell? w p hu)).trans hu
theorem Row.grown {row:Option Nat} (h:Row w A xs) (hg:w.grownBy w' row) (hne:∀ b off,A=some ⟨b,off,none⟩->some b≠row):Row w' A xs:=by
 rcases h with h | ⟨b,off,e,h⟩
 ·exact Xz h
 ·exact XG ⟨b,off,e,fun i u hu=>hg.cell (h i u hu) (hne b off e)⟩
theorem Row.of_own {base:Nat} {e:TypeId} {size n c:Nat} (h:w.ownsRow base e size (.slice A n c) n xs):Row w A xs:=by
 rcases h.2 with ⟨hv,hn⟩ | ⟨g,cap,cur,hv,_,hg,hnc,_,hs,ht⟩
 ·have h1:=h.1
  rw [hn] at h1
  exact Xz (XO (by simpa using h1))
 ·have hA:A=some ⟨g,0,none⟩:=by injection hv
  subst hA
  have hc:=h.cells (g:=g) rfl
  exact XG ⟨g,0,rfl,fun i u hu=>by have:=hc i u hu;rwa [Addr.add_lit] at this⟩
theorem Row.at' {i:Nat} (h:Row w A xs) (hi:i < xs.length):∃ b off,A=some ⟨b,off,none⟩/\w.cell? ⟨b,off+i,none⟩=some xs[i]:=by
 rcases h with h | ⟨b,off,e,h⟩
 ·subst h;simp at hi
 ·exact ⟨b,off,e,h i _ (XA hi)⟩
theorem Row.take (h:Row w A xs) (n:Nat):Row w A (xs.take n):=by
 rcases h with h | ⟨b,off,e,h⟩
 ·subst h;exact Xz (by simp)
 ·refine XG ⟨b,off,e,fun i u hu=>h i u ?_⟩
  rw [XP] at hu
  split at hu
  ·exact hu
  ·cases hu
theorem Row.drop {b off:Nat} (h:Row w (some ⟨b,off,none⟩) xs) (n:Nat):Row w (some ⟨b,off+n,none⟩) (xs.drop n):=by
 rcases h with h | ⟨b',off',e,h⟩
 ·subst h;exact Xz (by simp)
 ·injection e with e
  injection e with e1 e2
  subst e1 e2
  refine XG ⟨b,off+n,rfl,fun i u hu=>?_⟩
  rw [We]
  exact h (n+i) u (by rw [<-hu,List.getElem?_drop])
theorem Row.new (w:World) (cs:Array Value) (e:TypeId):Row (w.alloc (.cells cs e)) (some ⟨w.heap.size,0,none⟩) cs.toList:=by
 refine XG ⟨w.heap.size,0,rfl,fun i u hu=>?_⟩
 rw [cell_of_row _ w.heap.size (0+i) cs e (0,0) (heap_alloc_new w _)]
 simpa using hu
theorem Row.newAt {w:World} {cs:Array Value} {e:TypeId} {H:Nat} {l:List Value} (h:w.heap.size=H) (hl:cs.toList=l):Row (w.alloc (.cells cs e)) (some ⟨H,0,none⟩) l:=by
 subst h hl;exact Row.new w cs e
end
def Blk (w:World) (g:Nat) (t:TypeId) (cs:Array Value):Prop:=w.heap[g]?=some (.cells cs t (0,0))
section
variable {w w':World} {g:Nat} {t:TypeId} {cs:Array Value}
theorem Blk.lt (h:Blk w g t cs):g < w.heap.size:=(XJ.1 h).1
theorem Blk.cell (h:Blk w g t cs) (i:Nat):w.cell? ⟨g,i,none⟩=cs[i]?:=cell_of_row w g i cs t (0,0) h
theorem Blk.frozen (h:Blk w g t cs) (i:Nat):w.frozen? ⟨g,i,none⟩=false:=frozen_of_row w g i cs t h
theorem Blk.new (w:World) (t:TypeId) (cs:Array Value):Blk (w.alloc (.cells cs t)) w.heap.size t cs:=heap_alloc_new w _
theorem Blk.newAt {w:World} {t:TypeId} {cs:Array Value} {H:Nat} (h:w.heap.size=H):Blk (w.alloc (.cells cs t)) H t cs:=by subst h;exact Blk.new w t cs
theorem Blk.drew (h:Blk w g t cs):Blk w.drew g t cs:=h
theorem Blk.alloc (h:Blk w g t cs) (o:Obj):Blk (w.alloc o) g t cs:=(Below.heap_alloc w o g h.lt).trans h
theorem Blk.below {B:Nat} (h:Blk w g t cs) (hb:Below B w w') (hg:g < B):Blk w' g t cs:=(hb.block g hg).trans h
theorem Blk.grown {row:Option Nat} (h:Blk w g t cs) (hb:w.grownBy w' row) (hg:some g≠row):Blk w' g t cs:=(hb.block g h.lt hg).trans h
theorem ZzP (w:World) (g j:Nat) (u:Value):w.grownBy (w.setCell ⟨g,j,none⟩ u) (some g) :=
 ⟨rfl,rfl,rfl,by simp [World.setCell],fun k _ hk=>Below.heap_setCell w ⟨g,j,none⟩ u k (fun e=>hk (by simp [e]))⟩
theorem Zzp {base:Nat} {e:TypeId} {size n c:Nat} {A:Option Addr} {xs:List Value} (h:w.ownsRow base e size (.slice A n c) n xs):n<=c/\c<=maxLen:=by
 rcases h.2 with ⟨hv,hn⟩ | ⟨g,cap,cur,hv,_,_,hnc,hcm,_⟩
 ·injection hv with _ h2 h3;subst h2 h3;exact ⟨X5 _,Xa8 _⟩
 ·injection hv with _ _ h3;subst h3;exact ⟨hnc,hcm⟩
end
structure Kept (S:Nat->Prop) (w w':World):Prop where
 os:w'.os=w.os
 tape:w'.tape=w.tape
 output:w'.output=w.output
 size:w.heap.size<=w'.heap.size
 block:∀ k,k < w.heap.size->¬S k->w'.heap[k]?=w.heap[k]?
section
variable {S S':Nat->Prop} {a w w':World}
theorem Kept.refl (S:Nat->Prop) (w:World):Kept S w w:=⟨rfl,rfl,rfl,X5 _,fun _ _ _=>rfl⟩
theorem Kept.trans (h:Kept S a w) (k:Kept S w w'):Kept S a w' :=
 ⟨k.os.trans h.os,k.tape.trans h.tape,k.output.trans h.output,Xai h.size k.size,fun i hi hn=>(k.block i (WT hi h.size) hn).trans (h.block i hi hn)⟩
theorem Kept.mono (h:Kept S w w') (hs:∀ k,k < w.heap.size->S k->S' k):Kept S' w w':=⟨h.os,h.tape,h.output,h.size,fun i hi hn=>h.block i hi (fun hk=>hn (hs i hi hk))⟩
theorem Kept.below (h:Kept S w w') {B:Nat} (hB:B<=w.heap.size) (hs:∀ k,k < B->¬S k):Below B w w':=⟨h.os,h.tape,h.output,h.size,fun i hi=>h.block i (WT hi hB) (hs i hi)⟩
theorem Kept.of_grown {row:Option Nat} (h:w.grownBy w' row) (hs:∀ k,row=some k->k < w.heap.size->S k):Kept S w w' :=
 ⟨h.os,h.tape,h.output,h.size,fun i hi hn=>h.block i hi (fun e=>hn (hs i e.symm hi))⟩
theorem Kept.drew (h:Kept S a w):Kept S a w.drew:=⟨h.os,h.tape,h.output,h.size,h.block⟩
theorem Kept.alloc (h:Kept S a w) (o:Obj):Kept S a (w.alloc o) :=
 ⟨h.os,h.tape,h.output,Xai h.size (by simp),fun i hi hn=>(Below.heap_alloc w o i (WT hi h.size)).trans (h.block i hi hn)⟩
theorem Kept.setCell (h:Kept S a w) {p:Addr} (hp:a.heap.size<=p.block\/S p.block) (u:Value):Kept S a (w.setCell p u) :=
 ⟨h.os,h.tape,h.output,by simpa [World.setCell] using h.size,fun i hi hn=>(Below.heap_setCell w p u i (by
  rintro rfl
  rcases hp with hp | hp
  ·omega
  ·exact hn hp)).trans (h.block i hi hn)⟩
theorem Kept.cell (h:Kept S w w') {p:Addr} {u:Value} (hc:w.cell? p=some u) (hn:¬S p.block):w'.cell? p=some u :=
 (World.cell?_of_block (h.block p.block (World.block_lt_of_cell? w p hc) hn)).trans hc
theorem Kept.blk (h:Kept S w w') {g:Nat} {t:TypeId} {cs:Array Value} (hb:Blk w g t cs) (hn:¬S g):Blk w' g t cs:=(h.block g hb.lt hn).trans hb
theorem Kept.row (h:Kept S w w') {A:Option Addr} {xs:List Value} (hr:Row w A xs) (hn:xs=[]\/∀ b off,A=some ⟨b,off,none⟩->¬S b):Row w' A xs:=by
 rcases hr with hr | ⟨b,off,e,hr⟩
 ·exact Xz hr
 ·rcases hn with hn | hn
  ·exact Xz hn
  ·exact XG ⟨b,off,e,fun i u hu=>h.cell (hr i u hu) (hn b off e)⟩
theorem Kept.own (h:Kept S w w') {base:Nat} {e:TypeId} {size n:Nat} {v:Value} {xs:List Value} (ho:w.ownsRow base e size v n xs) (hn:∀ g,v.ownBlock=some g->¬S g):w'.ownsRow base e size v n xs:=by
 refine ⟨ho.1,?_⟩
 rcases ho.2 with h2 | ⟨g,cap,cur,rfl,hb,hg,r⟩
 ·exact Xz h2
 ·refine XG ⟨g,cap,cur,rfl,hb,?_,r⟩
  rw [h.block g (XJ.1 hg).1 (hn g rfl)]
  exact hg
end
structure ZdF (P:Program) (t e:TypeId) (z:Value) (size bytes:Nat):Prop where
 ht:P.underlying t=some (.slice e)
 hi:∃ i,P.info? e=some i/\i.zero=some z/\i.size=size/\i.bytes=bytes
 hz:z.cells.size=size
 hs:0 < size
 hb:0 < bytes
theorem ZvH {P:Program} {t e:TypeId} {z:Value} {size bytes:Nat} (ht:P.underlying t=some (.slice e))
  (hi:(P.info? e).map (fun i=>(i.zero,i.size,i.bytes))=some (some z,size,bytes)) (hz:z.cells.size=size) (hs:0 < size) (hb:0 < bytes):ZdF P t e z size bytes:=by
 obtain ⟨i0,h1,h2,h3,h4⟩:=info_parts hi
 exact ⟨ht,⟨i0,h1,h2,h3,h4⟩,hz,hs,hb⟩
section
variable {P:Program} {t e:TypeId} {z:Value} {size bytes:Nat}
theorem ZxP (T : ZdF P t e z size bytes) (w : World) (ty : TypeId) {base : Nat} {A0 : Option Addr} {n c0 : Nat} {xs : List Value} (hown : w.ownsRow base e size (.slice A0 n c0) n xs)
    {A : Option Addr} {m c : Nat} {news : List Value} (hl : news.length = m * size) (hr : Row w A news) (h1 : ∀ u ∈ news, u.oneCell' = true)
    (hroom : (n + m) * bytes <= 140737488355328) (hbase : base <= w.heap.size) :
    ∃ A' c' w', (Builtin.append_ #[t, t] ty #[.slice A0 n c0, .slice A m c]).run P w = .ok (.slice A' (n + m) c') w' /\ w'.ownsRow base e size (.slice A' (n + m) c') (n + m) (xs ++ news) /\
      w.grownBy w' (Value.ownBlock (.slice A0 n c0)) /\ (Value.ownBlock (.slice A' (n + m) c') = Value.ownBlock (.slice A0 n c0) \/ Value.ownBlock (.slice A' (n + m) c') = some w.heap.size) := by
  obtain ⟨i, hi, hz, hsz, hby⟩ := T.hi
  have hmax : n + m <= maxLen := by
    have : (n + m) * 1 <= (n + m) * bytes := WZ _ T.hb
    simp only [maxLen]; omega
  have fin : ∀ (v' : Value) (w' : World), (Builtin.append_ #[t, t] ty #[.slice A0 n c0, .slice A m c]).run P w = .ok v' w' -> w'.ownsRow base e size v' (n + m) (xs ++ news) ->
      w.grownBy w' (Value.ownBlock (.slice A0 n c0)) -> (v'.ownBlock = Value.ownBlock (.slice A0 n c0) \/ v'.ownBlock = some w.heap.size) ->
      ∃ A' c' w', (Builtin.append_ #[t, t] ty #[.slice A0 n c0, .slice A m c]).run P w = .ok (.slice A' (n + m) c') w' /\ w'.ownsRow base e size (.slice A' (n + m) c') (n + m) (xs ++ news) /\
      w.grownBy w' (Value.ownBlock (.slice A0 n c0)) /\ (Value.ownBlock (.slice A' (n + m) c') = Value.ownBlock (.slice A0 n c0) \/ Value.ownBlock (.slice A' (n + m) c') = some w.heap.size) := by
    intro v' w' h2 h3 h4 h5
    have hv : ∃ A' c', v' = .slice A' (n + m) c' := by
      rcases h3.2 with ⟨hv, h0⟩ | ⟨g, cap, _, hv, _⟩
      . exact ⟨none, 0, by rw [hv, h0]⟩
      . exact ⟨_, cap, hv⟩
    obtain ⟨A', c', rfl⟩ := hv
    exact ⟨A', c', w', h2, h3, h4, h5⟩
  rcases A with _ | ad
  . have hn : news = [] := by
      rcases hr with h | ⟨b, off, e, _⟩
      . exact h
      . cases e
    subst hn
    have hm : m = 0 := by
      have h2 : m * size = 0 := by simpa using hl.symm
      rcases Nat.mul_eq_zero.1 h2 with h | h
      . exact h
      . have := T.hs; omega
    subst hm
    refine fin _ w ?_ (by simpa using hown) (World.grownBy.refl w _) (Xz rfl)
    rcases hown.2 with ⟨hv, hn0⟩ | ⟨g, cap, cur, hv, _, _, hnc, _⟩
    . injection hv with h1 h2 h3
      subst h1 h2 h3
      simp [Builtin.append_, run_underlying T.ht, sizeOf, typeInfo, hi, Builtin.lenOf, Builtin.firstCells]
    . injection hv with h1 h2 h3
      subst h1 h3
      simp [Builtin.append_, run_underlying T.ht, sizeOf, typeInfo, hi, Builtin.lenOf, Builtin.firstCells, hnc, storeCells]
  . have hcells : ∀ j u, news[j]? = some u -> w.cell? (ad.add j) = some u := by
      intro j u hu
      rcases hr with h | ⟨b, off, e, h⟩
      . subst h; simp at hu
      . injection e with e
        subst e
        rw [Addr.add_lit]
        exact h j u hu
    obtain ⟨v', w', hrun, h2, h3, _, h5⟩ := run_append_own_at (P := P) w base t ty e i z size bytes T.ht hi hz hsz hby T.hz T.hs _ n xs hown ad m c news hl hcells h1 hmax hroom hbase
    exact fin v' w' hrun h2 h3 h5
theorem ZAa (T:ZdF P t e z size bytes) {w:World} {o:Oper} {a:Act} {K:Act->World->Prop} {Q:Exit->Act->World->Prop} (s x:Operand)
  (ho:o.op=.call { callee:=.builtin .append,args:=#[s,x],argTypes:=#[t,t] })
  {base:Nat} {A0:Option Addr} {n c0:Nat} {xs:List Value} (hs:a.eval s=.slice A0 n c0) (hown:w.ownsRow base e size (.slice A0 n c0) n xs)
  {A:Option Addr} {m c:Nat} {news:List Value} (hx:a.eval x=.slice A m c) (hl:news.length=m*size) (hr:Row w A news) (h1:∀ u ∈ news,u.oneCell'=true)
  (hroom:(n+m)*bytes<=140737488355328) (hbase:base<=w.heap.size)
  (h:∀ A' c' w',w'.ownsRow base e size (.slice A' (n+m) c') (n+m) (xs++news)->w.grownBy w' (Value.ownBlock (.slice A0 n c0)) ->
   (Value.ownBlock (.slice A' (n+m) c')=Value.ownBlock (.slice A0 n c0)\/Value.ownBlock (.slice A' (n+m) c')=some w.heap.size)->K (a.put o.dst (.slice A' (n+m) c')) w'):o.wp P a w K Q:=by
 obtain ⟨A',c',w',hrun,h2,h3,h4⟩:=ZxP T w o.type hown (c:=c) hl hr h1 hroom hbase
 unfold Oper.wp execOp
 simp only [ho,resolve,invoke,builtin,Sem.run_bind,Sem.run_pure,Result.andThen_ok,List.map_toArray,Xv,XK,hs,hx,hrun]
 exact h A' c' w' h2 h3 h4
theorem Zx2 (T:ZdF P t e z size bytes) {w:World} {ops:Array Oper} {rest:List Oper} {o:Oper} {a:Act} {Q:Exit->Act->World->Prop} (hgd:o.guard=none) (s x:Operand)
  (ho:o.op=.call { callee:=.builtin .append,args:=#[s,x],argTypes:=#[t,t] })
  {base:Nat} {A0:Option Addr} {n c0:Nat} {xs:List Value} (hs:a.eval s=.slice A0 n c0) (hown:w.ownsRow base e size (.slice A0 n c0) n xs)
  {A:Option Addr} {m c:Nat} {news:List Value} (hx:a.eval x=.slice A m c) (hl:news.length=m*size) (hr:Row w A news) (h1:∀ u ∈ news,u.oneCell'=true)
  (hroom:(n+m)*bytes<=140737488355328) (hbase:base<=w.heap.size)
  (h:∀ A' c' w',w'.ownsRow base e size (.slice A' (n+m) c') (n+m) (xs++news)->w.grownBy w' (Value.ownBlock (.slice A0 n c0)) ->
   (Value.ownBlock (.slice A' (n+m) c')=Value.ownBlock (.slice A0 n c0)\/Value.ownBlock (.slice A' (n+m) c')=some w.heap.size)->wpList P ops Q rest (a.put o.dst (.slice A' (n+m) c')) w') :
  wpList P ops Q (o::rest) a w :=
 wpList_plain hgd fun _ hK=>ZAa T s x ho hs hown hx hl hr h1 hroom hbase fun A' c' w' h2 h3 h4=>hK _ _ (h A' c' w' h2 h3 h4)
end
end
section
open Go.RowKit
def ob (A:Option Addr) (c:Nat):Option Nat:=if c=0 then none else A.map (·.block)
def ZbY:Value->Option Nat
 | .slice A _ c=>ob A c
 | _=>none
def OwnA (w:World) (A:Option Addr) (c n:Nat) (xs:List Value):Prop :=
 xs.length=n/\n<=c/\c<=maxLen/\(c=0\/∃ g cur e,A=some ⟨g,0,none⟩/\w.heap[g]?=some (.cells cur e (0,0))/\cur.size=c/\cur.toList.take n=xs)
section
variable {w w':World} {A:Option Addr} {c n:Nat} {xs:List Value}
theorem OwnA.typed (h:OwnA w A c n xs) (hc:c≠0):∃ g e,A=some ⟨g,0,none⟩/\w.ownsRow 0 e 1 (.slice (some ⟨g,0,none⟩) n c) n xs:=by
 obtain ⟨h1,h2,h3,h4⟩:=h
 rcases h4 with h4 | ⟨g,cur,e,rfl,hg,hs,ht⟩
 ·exact absurd h4 hc
 ·exact ⟨g,e,rfl,by omega,XG ⟨g,c,cur,rfl,Xa8 _,hg,h2,h3,by omega,by rw [Xa2];exact ht⟩⟩
theorem OwnA.of_owns {base:Nat} {e:TypeId} (h:w.ownsRow base e 1 (.slice A n c) n xs):OwnA w A c n xs:=by
 have hc:=Zzp h
 refine ⟨by simpa using h.1,hc.1,hc.2,?_⟩
 rcases h.2 with ⟨e1,_⟩ | ⟨g,cap,cur,e1,_,hg,h3,h4,h5,h6⟩
 ·injection e1 with _ _ e1;exact Xz e1
 ·injection e1 with e1 _ e2;subst e1 e2;exact XG ⟨g,cur,e,rfl,hg,by omega,by rw [Xa2] at h6;exact h6⟩
theorem OwnA.row (h:OwnA w A c n xs):Row w A xs:=by
 by_cases hc:c=0
 ·have:=h.1;have:=h.2.1;exact Xz (XO (by omega))
 ·obtain ⟨g,e,rfl,ho⟩:=h.typed hc;exact Row.of_own ho
theorem ZuU {g:Nat} (h:ob A c=some g):c≠0/\∃ a,A=some a/\a.block=g:=by
 unfold ob at h
 split at h
 ·cases h
 ·rcases A with _ | a
  ·cases h
  ·exact ⟨‹_›,a,rfl,by simpa using h⟩
theorem OwnA.addr (h:OwnA w A c n xs) {g:Nat} (hg:ob A c=some g):A=some ⟨g,0,none⟩/\g < w.heap.size:=by
 obtain ⟨hc,a,e,hb⟩:=ZuU hg
 obtain ⟨g',e',rfl,ho⟩:=h.typed hc
 injection e with e;subst e
 have hb:g'=g:=hb
 subst hb
 exact ⟨rfl,(ho.lt g' rfl).2⟩
theorem ZeM {g:Nat} (hc:c≠0):ob (some ⟨g,0,none⟩) c=some g:=by simp [ob,hc]
theorem OwnA.kept {S:Nat->Prop} (h:OwnA w A c n xs) (hk:Kept S w w') (hn:∀ g,ob A c=some g->¬S g):OwnA w' A c n xs:=by
 refine ⟨h.1,h.2.1,h.2.2.1,?_⟩
 rcases h.2.2.2 with h4 | ⟨g,cur,e,rfl,hg,hs,ht⟩
 ·exact Xz h4
 ·by_cases hc:c=0
  ·exact Xz hc
  ·exact XG ⟨g,cur,e,rfl,by rw [hk.block g (XJ.1 hg).1 (hn g (ZeM hc))];exact hg,hs,ht⟩
theorem OwnA.alloc (h:OwnA w A c n xs) (o:Obj):OwnA (w.alloc o) A c n xs :=
 h.kept (S:=fun _=>False) ⟨rfl,rfl,rfl,by simp,fun k hk _=>Below.heap_alloc w o k hk⟩ fun _ _=>id
end
section
variable {P:Program} {t e:TypeId} {z:Value} {bytes:Nat}
theorem ZAo (T : ZdF P t e z 1 bytes) (w : World) (ty : TypeId) {A0 : Option Addr} {n c0 : Nat} {xs : List Value} (hown : OwnA w A0 c0 n xs)
    {A : Option Addr} {c : Nat} {x : Value} (hr : Row w A [x]) (h1 : x.oneCell' = true) (hroom : (n + 1) * bytes <= 140737488355328) :
    ∃ A' c' w', (Builtin.append_ #[t, t] ty #[.slice A0 n c0, .slice A 1 c]).run P w = .ok (.slice A' (n + 1) c') w' /\ OwnA w' A' c' (n + 1) (xs ++ [x]) /\
      w.grownBy w' (ob A0 c0) /\ (ob A' c' = ob A0 c0 \/ ob A' c' = some w.heap.size) /\ Row w' A0 xs := by
  obtain ⟨i, hi, hz, hsz, hby⟩ := T.hi
  have hzs := T.hz
  have hsmall : n + 1 <= 140737488355328 := by
    have : (n + 1) * 1 <= (n + 1) * bytes := WZ _ T.hb
    omega
  obtain ⟨b, off, rfl, hcell⟩ : ∃ b off, A = some ⟨b, off, none⟩ /\ w.cell? ⟨b, off, none⟩ = some x := by
    obtain ⟨b, off, e, h⟩ := hr.at' (i := 0) (by simp)
    exact ⟨b, off, e, by simpa using h⟩
  have hcells : ∀ j u, [x][j]? = some u -> w.cell? ((⟨b, off, none⟩ : Addr).add j) = some u := by
    intro j u hu
    cases j with
    | zero => simp only [List.getElem?_cons_zero, Xa] at hu; subst hu; rw [Addr.add_lit]; exact hcell
    | succ j => simp at hu
  have hone : ∀ u ∈ [x], u.oneCell' = true := by simpa using h1
  have hsm1 : i.size = 1 := hsz
  have grown : ∀ (row : Option Nat), c0 < n + 1 -> OwnA (w.drew.alloc (.cells (xs.toArray ++ [x].toArray ++ Builtin.zeroCells z.cells (grownCap w (n + 1) c0 e - (n + 1))) e)) (some ⟨w.heap.size, 0, none⟩) (grownCap w (n + 1) c0 e) (n + 1) (xs ++ [x]) /\
      w.grownBy (w.drew.alloc (.cells (xs.toArray ++ [x].toArray ++ Builtin.zeroCells z.cells (grownCap w (n + 1) c0 e - (n + 1))) e)) row := by
    intro row _
    have hge := grownCap_ge w (n + 1) c0 e
    have hcm : grownCap w (n + 1) c0 e <= maxLen := grownCap_le_maxLen w (n + 1) c0 e (by simp only [maxLen]; omega)
    refine ⟨⟨by simp [hown.1], hge, hcm, XG ⟨w.heap.size, _, e, rfl, heap_alloc_new w.drew _, ?_, ?_⟩⟩, ⟨rfl, rfl, rfl, by simp, fun k hk _ => Below.heap_alloc w.drew _ k hk⟩⟩
    . simp only [Array.size_append, WC, size_zeroCells, hzs, hown.1, XZ]
      omega
    . simp only [Array.toList_append, Wo]
      rw [<- Wo, <- (show (xs ++ [x]).length = n + 1 by simp [hown.1])]
      exact WV
  have hob : ob (some ⟨w.heap.size, 0, none⟩) (grownCap w (n + 1) c0 e) = some w.heap.size := ZeM (by have := grownCap_ge w (n + 1) c0 e; omega)
  by_cases hc : c0 = 0
  . subst hc
    have hn : n = 0 := by have := hown.2.1; omega
    subst hn
    have hx : xs = [] := XO hown.1
    subst hx
    have hgr := grown (ob A0 0) (by omega)
    rcases A0 with _ | a0
    . have hrun := run_append_nil (P := P) w t ty e i z T.ht hi hz ⟨b, off, none⟩ 1 c [x] (by simp [hsm1]) hcells (by omega) (by omega) (by have hb := hroom; rw [<- hby] at hb; simp only [XC] at hb; omega)
      simp only [XC, List.nil_append, Array.empty_append] at hgr hob ⊢
      exact ⟨_, _, _, hrun, hgr.1, hgr.2, XG hob, Xz rfl⟩
    . have hrun := run_append_grow (P := P) w t ty e i z T.ht hi hz a0 0 0 [] (by simp) (by simp) ⟨b, off, none⟩ 1 c [x] (by simp [hsm1]) hcells (by omega) (by omega) (growslice_fits (by omega) (by rw [hby]; exact hroom))
      exact ⟨_, _, _, hrun, hgr.1, hgr.2, XG hob, Xz rfl⟩
  . obtain ⟨g, e2, rfl, ho⟩ := hown.typed hc
    have hh := ho.2
    rcases hh with ⟨h, _⟩ | ⟨g', cap', cur, h, hbg, hg, hnc, hcm, hcs, htake⟩
    . cases h
    . simp only [Value.slice.injEq, Xa, Addr.mk.injEq, and_true, true_and] at h
      obtain ⟨rfl, rfl⟩ := h
      by_cases hfit : n + 1 <= c0
      . have hlen : (xs ++ [x]).length = n + 1 := by simp [hown.1]
        have hfit' : n * i.size + [x].length <= cur.size := by rw [hsm1]; simp; omega
        have hf := run_firstCells_some (P := P) w i.size 1 ⟨b, off, none⟩ 1 c [x] (by simp [hsm1]) hcells
        have hst := run_storeCells_at P g (n * i.size) e2 [x] 0 cur w hg (by simpa using hfit') hone
        simp only [Nat.add_zero] at hst
        have hrun : (Builtin.append_ #[t, t] ty #[.slice (some ⟨g, 0, none⟩) n c0, .slice (some ⟨b, off, none⟩) 1 c]).run P w =
            .ok (.slice (some ⟨g, 0, none⟩) (n + 1) c0) (w.setRow g (cur.toList.take (n * i.size) ++ [x] ++ cur.toList.drop (n * i.size + [x].length)).toArray) := by
          simp [Builtin.append_, run_underlying T.ht, sizeOf, typeInfo, hi, Builtin.lenOf, hfit, hf, Addr.add_lit, hst]
        have hnew : OwnA (w.setRow g (cur.toList.take (n * i.size) ++ [x] ++ cur.toList.drop (n * i.size + [x].length)).toArray) (some ⟨g, 0, none⟩) c0 (n + 1) (xs ++ [x]) := by
          refine ⟨hlen, hfit, hcm, XG ⟨g, _, e2, rfl, setRow_heap w g cur _ e2 _ hg, ?_, ?_⟩⟩
          . simp only [WC, List.length_append, List.length_take, List.length_drop, XN, hsm1, XZ]
            omega
          . rw [hsm1, htake, <- hlen]
            exact WV
        refine ⟨_, _, _, hrun, hnew, ⟨rfl, rfl, rfl, by simp, fun k _ hk => setRow_other w g k _ (fun e => hk (by rw [ZeM hc, e]))⟩, Xz rfl, ?_⟩
        have := hnew.row.take xs.length
        rwa [WV] at this
      . have holds : ∀ j u, xs[j]? = some u -> w.cell? ((⟨g, 0, none⟩ : Addr).add j) = some u := ho.cells (g := g) rfl
        have hrun := run_append_grow (P := P) w t ty e i z T.ht hi hz ⟨g, 0, none⟩ n c0 xs (by simp [hsm1, hown.1]) holds ⟨b, off, none⟩ 1 c [x] (by simp [hsm1]) hcells (by omega) (by omega) (growslice_fits (by omega) (by rw [hby]; exact hroom))
        have hgr := grown (ob (some ⟨g, 0, none⟩) c0) (by omega)
        exact ⟨_, _, _, hrun, hgr.1, hgr.2, XG hob, (hown.row.drew).alloc _⟩
theorem Zwe (T:ZdF P t e z 1 bytes) {w:World} {ops:Array Oper} {rest:List Oper} {o:Oper} {a:Act} {Q:Exit->Act->World->Prop} (hgd:o.guard=none) (s x:Operand)
  (ho:o.op=.call { callee:=.builtin .append,args:=#[s,x],argTypes:=#[t,t] })
  {A0:Option Addr} {n c0:Nat} {xs:List Value} (hs:a.eval s=.slice A0 n c0) (hown:OwnA w A0 c0 n xs)
  {A:Option Addr} {c:Nat} {y:Value} (hx:a.eval x=.slice A 1 c) (hr:Row w A [y]) (h1:y.oneCell'=true)
  (hroom:(n+1)*bytes<=140737488355328)
  (h:∀ A' c' w',OwnA w' A' c' (n+1) (xs++[y])->w.grownBy w' (ob A0 c0) ->
   (ob A' c'=ob A0 c0\/ob A' c'=some w.heap.size)->Row w' A0 xs->wpList P ops Q rest (a.put o.dst (.slice A' (n+1) c')) w') :
  wpList P ops Q (o::rest) a w:=by
 refine wpList_plain hgd fun K hK=>?_
 obtain ⟨A',c',w',hrun,h2,h3,h4,h5⟩:=ZAo T w o.type hown (c:=c) hr h1 hroom
 unfold Oper.wp execOp
 simp only [ho,resolve,invoke,builtin,Sem.run_bind,Sem.run_pure,Result.andThen_ok,List.map_toArray,Xv,XK,hs,hx,hrun]
 exact hK _ _ (h A' c' w' h2 h3 h4 h5)
end
end
section
open Go.RowKit
theorem Zwn:ZdF Try.prog 22 5 (.int .u8 0) 1 1:=ZvH Try.underlying22 (by kernel_rfl) rfl (by omega) (by omega)
theorem Zzc:ZdF Try.prog 51 22 (.slice none 0 0) 1 24:=ZvH Try.underlying51 (by kernel_rfl) rfl (by omega) (by omega)
def Zhp (bs:List Value):Prop:=∀ (i j:Nat) (u v:Value) (g:Nat),i < j->bs[i]?=some u->bs[j]?=some v->ZbY u=some g->ZbY v≠some g
def BodsF (w:World) (bs:List Value) (ls:List (List UInt8)) (f:Nat->List UInt8->List UInt8):Prop :=
 ∀ (i:Nat) (v:Value) (l:List UInt8),bs[i]?=some v->ls[i]?=some l->∃ A c,v=.slice A l.length c/\OwnA w A c l.length (bVs (f i l))
theorem BodsF.store {w:World} {k j g c:Nat} {bs:List Value} {ls:List (List UInt8)} {f f':Nat->List UInt8->List UInt8} {l:List UInt8} (x:UInt8) (h:BodsF w bs ls f) (hap:Zhp bs) (hc:c≠0)
  (hb:bs[k]?=some (.slice (some ⟨g,0,none⟩) l.length c)) (hl:ls[k]?=some l) (hf:∀ i m,i≠k->f' i m=f i m) (hfk:f' k l=(f k l).set j x):BodsF (w.setCell ⟨g,j,none⟩ (bV x)) bs ls f':=by
 intro i v m hv hm
 by_cases hi:i=k
 ·subst hi
  rw [hb] at hv;rw [hl] at hm
  injection hv with hv;injection hm with hm
  subst hv hm
  obtain ⟨A,c',e,ho⟩:=h i _ _ hb hl
  injection e with e1 _ e2
  subst e1 e2
  refine ⟨_,_,rfl,?_⟩
  obtain ⟨g',ty,e,ho⟩:=ho.typed hc
  injection e with e;injection e with e;subst e
  have:=(ho.stored j (bV x)).1
  rw [hfk]
  have he:(bVs (f i l)).set j (bV x)=bVs ((f i l).set j x):=by simp [bVs,List.map_set]
  rw [he] at this
  exact OwnA.of_owns this
 ·obtain ⟨A,c',e,ho⟩:=h i v m hv hm
  subst e
  refine ⟨A,c',rfl,?_⟩
  rw [hf i m hi]
  refine ho.kept (S:=(·=g)) (Kept.of_grown (S:=(·=g)) (ZzP w g j (bV x)) (fun k e _=>by injection e with e;exact e.symm)) (fun g' hg' e=>?_)
  subst e
  have hk:ZbY (.slice (some ⟨g',0,none⟩) l.length c)=some g':=ZeM hc
  rcases XaJ hi with h1 | h1
  ·exact hap i k _ _ g' h1 hv hb hg' hk
  ·exact hap k i _ _ g' h1 hb hv hk hg'
def Zbi (k:Nat) (l:List UInt8):List UInt8:=XI l.length (Wq k)
def Zbo (k j:Nat) (i:Nat) (l:List UInt8):List UInt8:=if i < k then Zbi i l else if i=k then XI j (Wq k)++l.drop j else l
theorem ZzJ:Zbo 0 0=fun _ l=>l:=by funext i l;simp [Zbo]
theorem Zw4 (k:Nat) (ls:List (List UInt8)) (l:List UInt8) (hl:ls[k]?=some l) {w:World} {bs:List Value} (h:BodsF w bs ls (Zbo k l.length)):BodsF w bs ls (Zbo (k+1) 0):=by
 intro i v m hv hm
 obtain ⟨A,c,e,ho⟩:=h i v m hv hm
 refine ⟨A,c,e,?_⟩
 have : Zbo k l.length i m=Zbo (k+1) 0 i m:=by
  unfold Zbo
  by_cases h1:i < k
  ·rw [if_pos h1,if_pos (by omega)]
  ·by_cases h2:i=k
   ·subst h2
    rw [hl] at hm;injection hm with hm;subst hm
    rw [if_neg h1,if_pos rfl,if_pos (by omega)]
    simp [Zbi]
   ·rw [if_neg h1,if_neg h2,if_neg (by omega)]
    split <;> simp
 rw [<-this];exact ho
theorem ZAI (k j:Nat) (l:List UInt8) (hj:j < l.length):Zbo k (j+1) k l=(Zbo k j k l).set j (Wq k):=by
 simp only [Zbo,Nat.lt_irrefl,if_false,if_true]
 have hd:l.drop j=l[j]::l.drop (j+1):=List.drop_eq_getElem_cons hj
 rw [List.replicate_succ',Wo,List.set_append]
 simp
 rw [hd];rfl
theorem Zkg (k:Nat):Value.int .u8 ((k:Int) % 256)=bV (Wq k):=by simp [bV,W6]
theorem Zf6 (k c:Nat):bV (Wq (k+c))=Value.int .u8 (((k:Int)+(c:Int)) % 256):=by
 simp [bV,W6]
def BookR (w:World) (kb:Nat) (A1:Option Addr) (c1:Nat) (bs:List Value):Prop :=
 w.cell? ⟨kb,0,none⟩=some (.slice A1 bs.length c1)/\Row w A1 bs
def Zgg (kb:Nat) (A1:Option Addr) (bs:List Value) (B1:Nat):Prop :=
 kb < B1/\(∀ b off,A1=some ⟨b,off,none⟩->b < B1)/\∀ (i:Nat) (v:Value) (g:Nat),bs[i]?=some v->ZbY v=some g->g≠kb/\(∀ b off,A1=some ⟨b,off,none⟩->b≠g)/\g < B1
theorem BookR.kept {w w':World} {S:Nat->Prop} {kb c1:Nat} {A1:Option Addr} {bs:List Value} (h:BookR w kb A1 c1 bs) (hk:Kept S w w') (h1:¬S kb) (h2:∀ b off,A1=some ⟨b,off,none⟩->¬S b):BookR w' kb A1 c1 bs :=
 ⟨hk.cell h.1 h1,hk.row h.2 (XG h2)⟩
theorem Kept.then_grown {S:Nat->Prop} {a w w':World} {row:Option Nat} (h:Kept S a w) (hg:w.grownBy w' row) (hs:∀ k,row=some k->k < a.heap.size->S k):Kept S a w' :=
 ⟨hg.os.trans h.os,hg.tape.trans h.tape,hg.output.trans h.output,Xai h.size hg.size,fun i hi hn=>(hg.block i (WT hi h.size) (fun e=>hn (hs i e.symm hi))).trans (h.block i hi hn)⟩
def Zci (k:Nat) (l:List UInt8):List UInt8:=Zbi k l++[Wq (k+100),Wq (k+101)]
def bsS (bs:List Value) (k:Nat):Prop:=∃ (i:Nat) (v:Value),bs[i]?=some v/\ZbY v=some k
def Zpo (kb:Nat) (A1:Option Addr) (c1:Nat) (bs:List Value) (ls:List (List UInt8)) (B1:Nat) (w:World) (k:Nat) (grown:Value) (wr:World):Prop :=
 ∃ (Ag:Option Addr) (ng cg:Nat) (gs:List Value),grown=.slice Ag ng cg/\ng=k/\gs.length=k/\wr.ownsRow B1 22 1 (.slice Ag ng cg) ng gs/\BookR wr kb A1 c1 bs /\
  (∀ (i:Nat) (v:Value) (l:List UInt8),bs[i]?=some v->ls[i]?=some l->∃ A c,v=.slice A l.length c/\l.length<=c/\c<=maxLen/\Row wr A (bVs (Zbi i l))) /\
  (∀ (i:Nat) (v:Value) (l:List UInt8),k<=i->bs[i]?=some v->ls[i]?=some l->∃ A c,v=.slice A l.length c/\OwnA wr A c l.length (bVs (Zbi i l))) /\
  (∀ (i:Nat) (u v:Value) (l:List UInt8),gs[i]?=some u->bs[i]?=some v->ls[i]?=some l->∃ Au cu,u=.slice Au (l.length+2) cu/\OwnA wr Au cu (l.length+2) (bVs (Zci i l))/\(ZbY u=ZbY v\/∃ g,ZbY u=some g/\B1<=g)) /\
  (∀ (i:Nat) (u:Value) (g:Nat),gs[i]?=some u->ZbY u=some g->Value.ownBlock (.slice Ag ng cg)≠some g)/\B1<=wr.heap.size/\Kept (bsS bs) w wr
theorem Row.keptO {S:Nat->Prop} {w w':World} {A:Option Addr} {c:Nat} {xs:List Value} (h:Row w A xs) (hl:xs.length<=c) (hk:Kept S w w') (hn:∀ b,ob A c=some b->¬S b):Row w' A xs:=by
 rcases xs with _ | ⟨x,xs⟩
 ·exact Xz rfl
 ·refine hk.row h (XG fun b off e=>hn b ?_)
  subst e
  simp only [List.length_cons] at hl
  simp only [ob,show c≠0 by omega,if_false,Option.map_some]
theorem Zjf (k:Nat) (l:List UInt8):(bVs (Zbi k l)).length=l.length:=by simp [bVs,Zbi]
theorem ZBt {kb B1 k cg c' ng n:Nat} {A1 Ag Ak A':Option Addr} {ck:Nat} {bs gs:List Value} {wr w1 w2:World} {X1 X2:Obj} (hL:Zgg kb A1 bs B1) (hbk:bs[k]?=some (.slice Ak n ck))
  (hgr:wr.ownsRow B1 22 1 (.slice Ag ng cg) ng gs) (hg1:(wr.alloc X1).grownBy w1 (ob Ak ck)) (hat1:ob A' c'=ob Ak ck\/ob A' c'=some (wr.alloc X1).heap.size)
  (hg2:(w1.alloc X2).grownBy w2 (ob A' c')):w2.ownsRow B1 22 1 (.slice Ag ng cg) ng gs:=by
 have k1:Kept (fun j=>ob Ak ck=some j) wr w1:=((Kept.refl _ wr).alloc X1).then_grown hg1 (fun _ e _=>e)
 have k2:Kept (fun j=>ob Ak ck=some j) wr w2:=(k1.alloc X2).then_grown hg2 (by
  intro j e hj
  rcases hat1 with h | h
  ·rw [h] at e;exact e
  ·rw [h] at e;injection e with e;simp at e;omega)
 refine k2.own hgr (fun g hg e=>?_)
 have h1:=(hgr.lt g hg).1
 have h2:=(hL.2.2 k _ g hbk e).2.2
 omega
theorem ZCa {kb c1 B1 k cg c' c'' cg' ng:Nat} {A1 Ag Ak A' A'' Ag':Option Addr} {ck:Nat} {bs gs:List Value} {ls:List (List UInt8)} {l:List UInt8} {w wr w1 w2 w3:World} {X1 X2 X3:Obj}
  (hap:Zhp bs) (hL:Zgg kb A1 bs B1) (hwB:w.heap.size<=B1) (hbk:bs[k]?=some (.slice Ak l.length ck)) (hlk:ls[k]?=some l) (hng:ng=k) (hgl:gs.length=k)
  (hgr:wr.ownsRow B1 22 1 (.slice Ag ng cg) ng gs) (hR:BookR wr kb A1 c1 bs)
  (hrd:∀ (i:Nat) (v:Value) (l:List UInt8),bs[i]?=some v->ls[i]?=some l->∃ A c,v=.slice A l.length c/\l.length<=c/\c<=maxLen/\Row wr A (bVs (Zbi i l)))
  (hown:∀ (i:Nat) (v:Value) (l:List UInt8),k<=i->bs[i]?=some v->ls[i]?=some l->∃ A c,v=.slice A l.length c/\OwnA wr A c l.length (bVs (Zbi i l)))
  (hgs:∀ (i:Nat) (u v:Value) (l:List UInt8),gs[i]?=some u->bs[i]?=some v->ls[i]?=some l->∃ Au cu,u=.slice Au (l.length+2) cu/\OwnA wr Au cu (l.length+2) (bVs (Zci i l))/\(ZbY u=ZbY v\/∃ g,ZbY u=some g/\B1<=g))
  (hdis:∀ (i:Nat) (u:Value) (g:Nat),gs[i]?=some u->ZbY u=some g->Value.ownBlock (.slice Ag ng cg)≠some g) (hB1:B1<=wr.heap.size) (hK:Kept (bsS bs) w wr)
  (hok:OwnA wr Ak ck l.length (bVs (Zbi k l)))
  (hg1:(wr.alloc X1).grownBy w1 (ob Ak ck)) (hat1:ob A' c'=ob Ak ck\/ob A' c'=some (wr.alloc X1).heap.size)
  (hold1:Row w1 Ak (bVs (Zbi k l))) (hown1:OwnA w1 A' c' (l.length+1) (bVs (Zbi k l++[Wq (k+100)])))
  (hg2:(w1.alloc X2).grownBy w2 (ob A' c')) (hat2:ob A'' c''=ob A' c'\/ob A'' c''=some (w1.alloc X2).heap.size)
  (hold2:Row w2 A' (bVs (Zbi k l++[Wq (k+100)]))) (hown2:OwnA w2 A'' c'' (l.length+1+1) (bVs (Zci k l)))
  (hg3:(w2.alloc X3).grownBy w3 (Value.ownBlock (.slice Ag ng cg))) (hown3:w3.ownsRow B1 22 1 (.slice Ag' (ng+1) cg') (ng+1) (gs++[.slice A'' (l.length+1+1) c'']))
  (hat3:Value.ownBlock (.slice Ag' (ng+1) cg')=Value.ownBlock (.slice Ag ng cg)\/Value.ownBlock (.slice Ag' (ng+1) cg')=some (w2.alloc X3).heap.size) :
  Zpo kb A1 c1 bs ls B1 w (k+1) (.slice Ag' (ng+1) cg') w3:=by
 have hs1:=hg1.size
 have hs2:=hg2.size
 have hs3:=hg3.size
 simp at hs1 hs2 hs3
 have k1:Kept (fun j=>ob Ak ck=some j) wr w1:=((Kept.refl _ wr).alloc X1).then_grown hg1 (fun _ e _=>e)
 have k2:Kept (fun j=>ob Ak ck=some j) wr w2:=(k1.alloc X2).then_grown hg2 (by
  intro j e hj
  rcases hat1 with h | h
  ·rw [h] at e;exact e
  ·rw [h] at e;injection e with e;simp at e;omega)
 have k3:Kept (fun j=>ob Ak ck=some j\/Value.ownBlock (.slice Ag ng cg)=some j) wr w3:=((k2.mono (S':=fun j=>ob Ak ck=some j\/Value.ownBlock (.slice Ag ng cg)=some j) (fun _ _ h=>Xz h)).alloc X3).then_grown hg3 (fun _ e _=>XG e)
 have hAk:∀ j,ob Ak ck=some j->j≠kb/\(∀ b off,A1=some ⟨b,off,none⟩->b≠j)/\j < B1:=fun j hj=>hL.2.2 k _ j hbk hj
 have hAg:∀ j,Value.ownBlock (.slice Ag ng cg)=some j->B1<=j/\j < wr.heap.size:=fun j hj=>hgr.lt j hj
 have hkl:k<=bs.length:=Nat.le_of_lt (Xo.1 hbk).1
 have hgsl:∀ (i:Nat) (u:Value),(gs++[Value.slice A'' (l.length+1+1) c''])[i]?=some u->(i < k/\gs[i]?=some u)\/(i=k/\u=.slice A'' (l.length+1+1) c''):=by
  intro i u hu
  rw [List.getElem?_append] at hu
  split at hu
  ·exact Xz ⟨by omega,hu⟩
  ·rw [List.getElem?_singleton] at hu
   split at hu
   ·injection hu with hu
    exact XG ⟨by omega,hu.symm⟩
   ·cases hu
 have hother:∀ (i:Nat) (v:Value) (j:Nat),i≠k->bs[i]?=some v->ZbY v=some j->ob Ak ck≠some j:=by
  intro i v j hi hv hj e
  rcases XaJ hi with h | h
  ·exact hap i k _ _ j h hv hbk hj e
  ·exact hap k i _ _ j h hbk hv e hj
 have hnewg:∀ g,ob A'' c''=some g->Value.ownBlock (.slice Ag ng cg)≠some g:=by
  intro g hg h
  have h1:=hAg g h
  rcases hat2 with h2 | h2
  ·rcases hat1 with h3 | h3
   ·rw [h2,h3] at hg
    have:=(hAk g hg).2.2;omega
   ·rw [h2,h3] at hg;injection hg with hg;simp at hg;omega
  ·rw [h2] at hg;injection hg with hg;simp at hg;omega
 refine ⟨Ag',ng+1,cg',gs++[.slice A'' (l.length+1+1) c''],rfl,by omega,by simp [hgl],hown3,?_,?_,?_,?_,?_,by omega,?_⟩
 ·refine hR.kept k3 ?_ (fun b off e=>?_)
  ·rintro (h | h)
   ·exact (hAk kb h).1 rfl
   ·have:=(hAg kb h).1;have:=hL.1;omega
  ·rintro (h | h)
   ·exact (hAk b h).2.1 b off e rfl
   ·have:=(hAg b h).1;have:=hL.2.1 b off e;omega
 ·intro i v m hv hm
  obtain ⟨A,c,e,h1,h2,h3⟩:=hrd i v m hv hm
  by_cases hi:i=k
  ·subst hi
   rw [hbk] at hv;injection hv with hv;rw [hlk] at hm;injection hm with hm
   subst hv hm
   injection e with e1 _ e2
   subst e1 e2
   refine ⟨Ak,ck,rfl,h1,h2,?_⟩
   have r2:Row w2 Ak (bVs (Zbi i l)):=by
    rcases hat1 with h | h
    ·rcases hold1 with hz | ⟨b,off,e,hz⟩
     ·exact Xz hz
     ·subst e
      by_cases hck:ck=0
      ·have h0:=hok.1
       have h1:=hok.2.1
       exact Xz (XO (by omega))
      ·obtain ⟨g0,e0,e3,_⟩:=hok.typed hck
       injection e3 with e3
       injection e3 with e3 e4
       subst e3 e4
       have e2:=(hown1.addr (g:=b) (by rw [h];exact ZeM hck)).1
       rw [<-e2]
       have:=hold2.take (bVs (Zbi i l)).length
       rwa [ZhS,WV] at this
    ·refine (hold1.alloc X2).keptO (c:=ck) (by rw [Zjf];exact h1) (Kept.of_grown (S:=fun j=>ob A' c'=some j) hg2 (fun _ e _=>e)) (fun b hb hS=>?_)
     rw [h] at hS
     injection hS with hS
     simp at hS
     have:=(hAk b hb).2.2
     omega
   refine (r2.alloc X3).keptO (c:=ck) (by rw [Zjf];exact h1) (Kept.of_grown (S:=fun j=>Value.ownBlock (.slice Ag ng cg)=some j) hg3 (fun _ e _=>e)) (fun b hb hS=>?_)
   have:=(hAk b hb).2.2
   have:=(hAg b hS).1
   omega
  ·refine ⟨A,c,e,h1,h2,h3.keptO (c:=c) (by rw [Zjf];exact h1) k3 (fun b hb=>?_)⟩
   subst e
   rintro (h | h)
   ·exact hother i _ b hi hv hb h
   ·have:=(hAg b h).1;have:=(hL.2.2 i _ b hv hb).2.2;omega
 ·intro i v m hki hv hm
  obtain ⟨A,c,e,ho⟩:=hown i v m (by omega) hv hm
  refine ⟨A,c,e,ho.kept k3 (fun g hg=>?_)⟩
  subst e
  rintro (h | h)
  ·exact hother i _ g (by omega) hv hg h
  ·have:=(hAg g h).1;have:=(hL.2.2 i _ g hv hg).2.2;omega
 ·intro i u v m hu hv hm
  rcases hgsl i u hu with ⟨hi,hu'⟩ | ⟨hi,hu'⟩
  ·obtain ⟨Au,cu,e,ho,hat⟩:=hgs i u v m hu' hv hm
   refine ⟨Au,cu,e,ho.kept k3 (fun g hg=>?_),hat⟩
   rintro (h | h)
   ·subst e
    rcases hat with hat | ⟨g',hg',hge⟩
    ·exact hother i v g (by omega) hv (by rw [<-hat];exact hg) h
    ·have hg0:ob Au cu=some g':=hg'
     rw [hg] at hg0;injection hg0 with hg0
     have:=(hAk g h).2.2;omega
   ·subst e
    exact hdis i _ g hu' hg h
  ·subst hi hu'
   rw [hbk] at hv;injection hv with hv;rw [hlk] at hm;injection hm with hm
   subst hv hm
   refine ⟨A'',c'',rfl,?_,?_⟩
   ·exact (hown2.alloc X3).kept (Kept.of_grown (S:=fun j=>Value.ownBlock (.slice Ag ng cg)=some j) hg3 (fun _ e _=>e)) (fun g hg h=>hnewg g hg h)
   ·rcases hat2 with h | h
    ·rcases hat1 with h' | h'
     ·exact Xz (h.trans h')
     ·exact XG ⟨_,h.trans h',by simp;omega⟩
    ·exact XG ⟨_,h,by simp;omega⟩
 ·intro i u g hu hg h
  have hug:g < w2.heap.size/\Value.ownBlock (.slice Ag ng cg)≠some g:=by
   rcases hgsl i u hu with ⟨hi,hu'⟩ | ⟨hi,hu'⟩
   ·obtain ⟨v,hv⟩:∃ v,bs[i]?=some v:=⟨_,XA (by omega)⟩
    obtain ⟨m,hm⟩:∃ m,ls[i]?=some m:=⟨_,XA (by have:=(Xo.1 hlk).1;omega)⟩
    obtain ⟨Au,cu,e,ho,hat⟩:=hgs i u v m hu' hv hm
    subst e
    have:=(ho.addr hg).2
    exact ⟨by omega,hdis i _ g hu' hg⟩
   ·subst hu'
    exact ⟨(hown2.addr hg).2,hnewg g hg⟩
  rcases hat3 with h3 | h3
  ·rw [h3] at h;exact hug.2 h
  ·rw [h3] at h;injection h with h;simp at h;omega
 ·refine ((hK.mono (S':=fun j=>bsS bs j\/B1<=j) (fun _ _ h=>Xz h)).trans (k3.mono (fun j _ h=>?_))).mono (fun j hj h=>?_)
  ·rcases h with h | h
   ·exact Xz ⟨k,_,hbk,h⟩
   ·exact XG (hAg j h).1
  ·rcases h with h | h
   ·exact h
   ·omega
set_option maxRecDepth 100000 in
theorem ZAX (kb : Nat) (A1 : Option Addr) (c1 : Nat) (bs : List Value) (ls : List (List UInt8)) (w : World) (hR : BookR w kb A1 c1 bs) (hL : Zgg kb A1 bs w.heap.size) (hF : BodsF w bs ls (fun _ l => l)) (hap : Zhp bs) (hlen : bs.length = ls.length) (hn : bs.length <= 400) (hsz : ∀ l ∈ ls, l.length <= 1099511627776) :
    Calls Try.prog 31 #[.pointer (some ⟨kb, 0, none⟩)] w fun e w' => e = .returned (.bool true) /\ Kept (bsS bs) w w' := by
  rw [<- ZzJ] at hF
  have HL := Lib.hid hL
  clear hL
  have Hap := Lib.hid hap
  have Hlen := Lib.hid hlen
  clear hap hlen
  go_enter Try.func31, Try.ntmps31
  go_wp2
  go_loopw [3] (fun i wr => ∃ k : Nat, k <= bs.length /\ i = .int .i64 (k : Int) /\ BookR wr kb A1 c1 bs /\ BodsF wr bs ls (Zbo k 0) /\ Kept (bsS bs) w wr) (fun i _ => bs.length - (intOf i).toNat)
  case atStart => exact ⟨0, by omega, rfl, hR, hF, Kept.refl _ _⟩
  case round =>
    clear hR hF
    obtain ⟨k, hk, rfl, hR, hF, hK⟩ := hrel
    have q0 := hR.1
    by_cases hlt : k < bs.length
    . have hlt2 : k < ls.length := by rw [<- Hlen.out]; exact hlt
      obtain ⟨b, off, rfl, hc1⟩ := hR.2.at' hlt
      obtain ⟨Ak, ck, hv, hok⟩ := hF k bs[k] ls[k] (XA hlt) (XA hlt2)
      have hbk : bs[k]? = some (.slice Ak ls[k].length ck) := by rw [XA hlt, hv]
      have hlk : ls[k]? = some ls[k] := XA hlt2
      have hck := And.intro hok.2.1 hok.2.2.1
      generalize ls[k] = l at *
      have hll : l.length <= 9223372036854775807 := by have := hck.1; have := hck.2; simp only [maxLen] at *; omega
      have Hbk := Lib.hid hbk
      have Hlk := Lib.hid hlk
      clear hbk hlk hv hok hck hc1
      obtain ⟨wo, hwo⟩ : ∃ wo : World, wo = wr := ⟨_, rfl⟩
      subst hwo
      go_wp2
      clear q0
      go_loopw [4] (fun j wr => ∃ m : Nat, m <= l.length /\ j = .int .i64 (m : Int) /\ BookR wr kb (some ⟨b, off, none⟩) c1 bs /\ BodsF wr bs ls (Zbo k m) /\ Kept (bsS bs) w wr) (fun j _ => l.length - (intOf j).toNat)
      case atStart => exact ⟨0, by omega, rfl, hR, hF, hK⟩
      case round =>
        clear hR hF hK
        obtain ⟨m, hm, rfl, hR, hF, hK⟩ := hrel
        have q0 := hR.1
        have q1 : wr.cell? ⟨b, off + k, none⟩ = some (.slice Ak l.length ck) := by
          obtain ⟨b', off', e, h⟩ := hR.2.at' hlt
          injection e with e; injection e with e1 e2; subst e1 e2
          rw [h]
          have := Hbk.out
          rw [XA hlt] at this
          exact this
        by_cases hlt3 : m < l.length
        . obtain ⟨Ak', ck', e, hok⟩ := hF k _ l Hbk.out Hlk.out
          injection e with e1 _ e2
          subst e1 e2
          have hc0 : ck ≠ 0 := by have := hok.2.1; omega
          obtain ⟨g, ty0, hAk0, hot⟩ := hok.typed hc0
          subst hAk0
          have hobg : ob (some ⟨g, 0, none⟩) ck = some g := ZeM hc0
          have z1 := hot.cellAt m (by omega)
          have z2 := hot.frozenAt m
          have hfl : (Zbo k m k l).length = l.length := by have := hok.1; rw [Zc5] at this; omega
          rw [show (bVs (Zbo k m k l))[m]? = some (bV ((Zbo k m k l)[m]'(by omega))) by simp [bVs, show m < (Zbo k m k l).length by omega]] at z1
          unfold bV at z1
          generalize ((Zbo k m k l)[m]'(by omega)).toNat = y at z1
          have hst := Lib.hid (hF.store (f' := Zbo k (m + 1)) (Wq k) Hap.out hc0 Hbk.out Hlk.out (fun i n hi => by simp [Zbo, hi]) (ZAI k m l hlt3))
          clear hok hot hfl
          go_wp2
          go_roundw
          case rel =>
            rw [Zkg]
            refine ⟨m + 1, by omega, by go_num, hR.kept (S := (· = g)) (Kept.setCell (S := (· = g)) (p := ⟨g, m, none⟩) (Kept.refl _ wr) (XG rfl) _) (fun e => (HL.out.2.2 k _ g Hbk.out hobg).1 e.symm) (fun b' off' e => (HL.out.2.2 k _ g Hbk.out hobg).2.1 b' off' e), hst.out, hK.setCell (p := ⟨g, m, none⟩) (XG ⟨k, _, Hbk.out, hobg⟩) _⟩
          case measure => simp [intOf]; omega
        . go_wp2
          go_roundw
          case rel =>
            obtain rfl : m = l.length := by omega
            exact ⟨k + 1, by omega, by go_num, hR, Zw4 k ls l Hlk.out hF, hK⟩
          case measure => simp [intOf]; omega
    . obtain rfl : k = bs.length := by omega
      have hfull : BodsF wr bs ls (fun i l => Zbi i l) := by
        intro i v l hv hl
        obtain ⟨A, c, e, ho⟩ := hF i v l hv hl
        have hi : i < bs.length := (Xo.1 hv).1
        simp only [Zbo, if_pos hi] at ho
        exact ⟨A, c, e, ho⟩
      have hrel0 : Zpo kb A1 c1 bs ls wr.heap.size w 0 (.slice none 0 0) wr := by
        refine ⟨none, 0, 0, [], rfl, rfl, rfl, World.ownsRow_nil _ _ _ _, hR, fun i v l hv hl => ?_, fun i v l _ hv hl => hfull i v l hv hl, by simp, by simp, X5 _, hK⟩
        obtain ⟨A, c, e, ho⟩ := hfull i v l hv hl
        exact ⟨A, c, e, ho.2.1, ho.2.2.1, ho.row⟩
      have Hrel0 := Lib.hid hrel0
      have hB1 : w.heap.size <= wr.heap.size := hK.size
      have HL1 := Lib.hid (show Zgg kb A1 bs wr.heap.size from ⟨by have := HL.out.1; omega, fun b off e => by have := HL.out.2.1 b off e; omega, fun i v g hv hg => by obtain ⟨h1, h2, h3⟩ := HL.out.2.2 i v g hv hg; exact ⟨h1, h2, by omega⟩⟩)
      clear hrel0 hfull hF hR hK
      obtain ⟨W, hW⟩ : ∃ W : World, W = wr := ⟨_, rfl⟩
      subst hW
      go_wp2
      clear q0
      go_loopw [5, 6] (fun gr i wr => ∃ k : Nat, k <= bs.length /\ i = .int .i64 (k : Int) /\ Zpo kb A1 c1 bs ls W.heap.size w k gr wr) (fun _ i _ => bs.length - (intOf i).toNat)
      case atStart => exact ⟨0, by omega, rfl, Hrel0.out⟩
      case round =>
        clear Hrel0
        obtain ⟨k, hk, rfl, hrel⟩ := hrel
        obtain ⟨Ag, ng, cg, gs, rfl, hng, hgl, hgr, hR, hrd, hown, hgs, hdis, hBr, hK⟩ := hrel
        have q0 := hR.1
        by_cases hlt : k < bs.length
        . have hlt2 : k < ls.length := by rw [<- Hlen.out]; exact hlt
          obtain ⟨b, off, rfl, hc1⟩ := hR.2.at' hlt
          obtain ⟨Ak, ck, hv, hok⟩ := hown k bs[k] ls[k] (X5 _) (XA hlt) (XA hlt2)
          have hbk : bs[k]? = some (.slice Ak ls[k].length ck) := by rw [XA hlt, hv]
          have hlk : ls[k]? = some ls[k] := XA hlt2
          rw [hv] at hc1
          generalize ls[k] = l at *
          have Hng := Lib.hid hng
          have Hgl := Lib.hid hgl
          have Hbk := Lib.hid hbk
          have Hlk := Lib.hid hlk
          have Hrd := Lib.hid hrd
          have Hown := Lib.hid hown
          have Hgs := Lib.hid hgs
          have Hdis := Lib.hid hdis
          have hngb : ng <= 400 := by omega
          have hsml : (l.length + 1 + 1) * 1 <= 140737488355328 := by have := hsz l (XF hlk); omega
          have hs0 := hK.size
          have hroom : (ng + 1) * 24 <= 140737488355328 := by omega
          clear hng hgl hbk hlk hrd hown hgs hdis hv
          go_wp2_with (first
            | (at_builtin
               refine Zwe Zwn rfl (.tmp 58) (.tmp 62) rfl rfl (hok.alloc _) rfl (Row.newAt rfl rfl) (by simp [Value.oneCell']) (by omega) ?_
               intro A' c' w1 hown1 hg1 hat1 hold1
               have hs1 := hg1.size)
            | (at_builtin
               refine Zwe Zwn rfl (.tmp 65) (.tmp 69) rfl rfl (hown1.alloc _) rfl (Row.newAt rfl rfl) (by simp [Value.oneCell']) (by omega) ?_
               intro A'' c'' w2 hown2 hg2 hat2 hold2
               have hs2 := hg2.size)
            | (at_builtin
               refine Zx2 Zzc rfl (.tmp 64) (.tmp 71) rfl rfl ((ZBt HL1.out Hbk.out hgr hg1 hat1 hg2).alloc _) rfl (by rfl) (Row.newAt rfl rfl) (by simp [Value.oneCell']) hroom (by simp at hs1 hs2 ⊢; omega) ?_
               intro Ag' cg' w3 hown3 hg3 hat3))
          go_roundw
          case rel =>
            refine ⟨k + 1, by omega, by go_num, ZCa (X1 := _) (X2 := _) (X3 := _) Hap.out HL1.out hB1 Hbk.out Hlk.out Hng.out Hgl.out hgr hR Hrd.out Hown.out Hgs.out Hdis.out hBr hK hok hg1 hat1 hold1 ?_ hg2 hat2 ?_ ?_ hg3 hown3 hat3⟩
            . rw [ZhS]; simp only [bVs, Xv, XK, Zf6]; exact hown1
            . rw [ZhS]; simp only [bVs, Xv, XK, Zf6]; exact hold2
            . rw [Zci, ZhS]; simp only [bVs, Xv, XK, Zf6]; rw [Wo] at hown2; exact hown2
          case measure => simp [intOf]; omega
        . obtain rfl : k = bs.length := by omega
          subst hng
          have hrg := Row.of_own hgr
          have Hgl := Lib.hid hgl
          have Hrd := Lib.hid hrd
          have Hgs := Lib.hid hgs
          have HK := Lib.hid hK
          clear hgl hrd hgs hown hgr hdis hK
          obtain ⟨V, hV⟩ : ∃ V : World, V = wr := ⟨_, rfl⟩
          subst hV
          go_wp2
          go_loop [8] (fun i => ∃ k : Nat, k <= bs.length /\ i = .int .i64 (k : Int)) (fun i => bs.length - (intOf i).toNat)
          case atStart => exact ⟨0, by omega, rfl⟩
          case round =>
            obtain ⟨k, hk, rfl⟩ := hrel
            by_cases hlt : k < bs.length
            . have hlt2 : k < ls.length := by rw [<- Hlen.out]; exact hlt
              have hlt3 : k < gs.length := by rw [Hgl.out]; exact hlt
              obtain ⟨b, off, rfl, hc1⟩ := hR.2.at' hlt
              obtain ⟨bg, offg, rfl, hc2⟩ := hrg.at' hlt3
              obtain ⟨Ak, ck, hv, h1, h2, hrk⟩ := Hrd.out k bs[k] ls[k] (XA hlt) (XA hlt2)
              obtain ⟨Au, cu, hu, hou, _⟩ := Hgs.out k gs[k] bs[k] ls[k] (XA hlt3) (XA hlt) (XA hlt2)
              rw [hv] at hc1
              rw [hu] at hc2
              have hru := hou.row
              have hcu := And.intro hou.2.1 hou.2.2.1
              have hll := hsz ls[k] (List.getElem_mem hlt2)
              clear hv hu hou hcu h1 h2
              generalize ls[k] = l at *
              have hk8 : k <= 400 := by omega
              go_wp2
              go_loop [10] (fun j => ∃ m : Nat, m <= l.length /\ j = .int .i64 (m : Int)) (fun j => l.length - (intOf j).toNat)
              case atStart => exact ⟨0, by omega, rfl⟩
              case round =>
                obtain ⟨m, hm, rfl⟩ := hrel
                have hfl : (Zbi k l).length = l.length := by simp [Zbi]
                have hgl' : (Zci k l).length = l.length + 2 := by simp [Zci, Zbi]
                by_cases hlt4 : m < l.length
                . obtain ⟨b3, off3, rfl, z1⟩ := hrk.at' (i := m) (by rw [Zc5]; omega)
                  obtain ⟨b4, off4, rfl, z2⟩ := hru.at' (i := m) (by rw [Zc5]; omega)
                  have e1 : (bVs (Zbi k l))[m]'(by rw [Zc5]; omega) = .int .u8 ((k : Int) % 256) := by
                    rw [Zkg]; simp [bVs, Zbi]
                  have e2 : (bVs (Zci k l))[m]'(by rw [Zc5]; omega) = .int .u8 ((k : Int) % 256) := by
                    rw [Zkg]; simp only [bVs, XaU, Zci]; rw [List.getElem_append_left (by omega)]; simp [Zbi]
                  rw [e1] at z1
                  rw [e2] at z2
                  have hne : ((k : Int) % 256 != (k : Int) % 256) = false := by simp
                  have hmi : m < l.length + 2 := by omega
                  clear e1 e2 hfl hgl'
                  go_wp2
                  go_round
                  case rel => exact ⟨m + 1, by omega, by go_num⟩
                  case measure => simp [intOf]; omega
                . obtain rfl : m = l.length := by omega
                  obtain ⟨b4, off4, rfl, z2⟩ := hru.at' (i := l.length) (by rw [Zc5]; omega)
                  obtain ⟨b5, off5, e5, z3⟩ := hru.at' (i := l.length + 1) (by rw [Zc5]; omega)
                  injection e5 with e5; injection e5 with e5 e6; subst e5 e6
                  have e2 : (bVs (Zci k l))[l.length]'(by rw [Zc5]; omega) = .int .u8 (((k : Int) + 100) % 256) := by
                    simp only [bVs, XaU, Zci]; rw [List.getElem_append_right (by omega)]; simp only [hfl, Nat.sub_self, List.getElem_cons_zero]; exact Zf6 k 100
                  have e3 : (bVs (Zci k l))[l.length + 1]'(by rw [Zc5]; omega) = .int .u8 (((k : Int) + 101) % 256) := by
                    simp only [bVs, XaU, Zci]; rw [List.getElem_append_right (by omega)]; simp only [hfl, show l.length + 1 - l.length = 1 by omega, List.getElem_cons_succ, List.getElem_cons_zero]; exact Zf6 k 101
                  rw [e2] at z2
                  rw [e3] at z3
                  have hne1 : (((k : Int) + 100) % 256 != ((k : Int) + 100) % 256) = false := by simp
                  have hne2 : (((k : Int) + 101) % 256 != ((k : Int) + 101) % 256) = false := by simp
                  have hmi : l.length + 1 < l.length + 2 := by omega
                  clear e2 e3 hfl hgl'
                  go_wp2
                  go_round
                  case rel => exact ⟨k + 1, by omega, by go_num⟩
                  case measure => simp [intOf]; omega
            . go_wp2
              go_ret
              exact ⟨rfl, HK.out⟩
end
section
open Go.RowKit
section
variable {base:Nat->Prop} {w0 w w':World} {I0 I:Imm} {β:Bmap} {σ:Za}
theorem Zv0:∀ {l:List UInt8} {vs:List Value},VRs I β (l.map Zb) vs->vs=bVs l
 | [],vs,h=>by simp only [XK,VRs] at h;subst h;rfl
 | b::l,vs,h=>by
  simp only [Xv,VRs,Zb,VR] at h
  obtain ⟨v,vs',rfl,rfl,h⟩:=h
  rw [Zv0 (l:=l) h];rfl
theorem Zvi:∀ xs:List AVal,(∀ x ∈ xs,x.cells=[x])->xs.flatMap AVal.cells=xs
 | [],_=>rfl
 | x::xs,h=>by rw [List.flatMap_cons,h x (by simp),Zvi xs (fun y hy=>h y (by simp [hy]))];rfl
theorem ZBZ (R:Rel base w0 I0 I β σ w) {t:Nat} {ys:List AVal} {l:List UInt8} {v:Value} (hs:σ[t]?=some (.row 0 1 ys)) (hy:Zde ys=some l) (hv:VR I β (.sl t 0 0 l.length) v) :
  ∃ A c,v=.slice A l.length c/\OwnA w A c l.length (bVs l)/\∀ g,ob A c=some g->ZD β t (.row 0 1 ys)=some g:=by
 have e:=ZwH hy
 subst e
 obtain ⟨bi,e1,e2,e3,e4,e5,e6,e7,e8⟩:=R.blk t _ hs
 rw [Zbv] at hv
 obtain ⟨bi',f1,f2,f3,f4⟩:=hv
 rw [e1] at f1
 injection f1 with f1
 subst f1
 have hlen:(bVs l).length=l.length:=by simp [bVs]
 rcases f4 with ⟨b,hb,rfl⟩ | ⟨hbn,hc0,A,rfl⟩
 ·rcases e8 with ⟨e8,_⟩ | ⟨b2,us,ty,q1,q2,q3,q4⟩
  ·rw [e8] at hb;cases hb
  rw [hb] at q1;injection q1 with q1;subst q1
  refine ⟨_,_,rfl,⟨hlen,f2,by simp only [maxLen];omega,XG ⟨b,us,ty,rfl,q2,by omega,?_⟩⟩,fun g hg=>?_⟩
  ·rw [Zj3,Xa2,XH] at q4
   exact Zv0 q4
  ·obtain ⟨_,a,ea,eg⟩:=ZuU hg
   injection ea with ea;subst ea
   simp only at eg
   subst eg
   simp [ZD,e1,hb]
 ·have h0:l.length=0:=by omega
  refine ⟨A,0,by rw [h0],⟨hlen,by omega,by simp [maxLen],Xz rfl⟩,fun g hg=>?_⟩
  simp [ob] at hg
theorem Rel.release (R:Rel base w0 I0 I β σ w) {t:Nat} {ys:List AVal} (hs:σ[t]?=some (.row 0 1 ys)):Rel base w0 I0 I β (σ.set t (.frow 0 1 [])) w:=by
 have hsl:t < σ.length:=(Xo.1 hs).1
 obtain ⟨bi,e1,e2,e3,e4,e5,_⟩:=R.blk t _ hs
 refine R.upd (Imm.le.refl I) (Bmap.le.refl β) (KB.refl base w) (fun _ _ _=>rfl) R.imm t _ rfl hsl (fun _ _ _=>rfl) (fun t' x b _ hx hb=>⟨rfl,(R.own t' x b hx hb).2,by simp [ZD]⟩) ⟨bi,e1,e2,e3,e4,by simp,rfl,Xz rfl⟩ (fun b hb=>by simp [ZD] at hb) (fun g hg=>R.gen t _ g hs hg) (by simp)
theorem Rel.relB:∀ {ts:List Nat} {σ:Za},Rel base w0 I0 I β σ w->(∀ t ∈ ts,∃ ys,σ[t]?=some (.row 0 1 ys))->ts.Nodup->Rel base w0 I0 I β (relB σ ts) w
 | [],_,R,_,_=>R
 | t::ts,σ,R,h,hn=>by
  obtain ⟨ys,hs⟩:=h t (by simp)
  rw [List.nodup_cons] at hn
  refine Rel.relB (ts:=ts) (R.release hs) (fun u hu=>?_) hn.2
  obtain ⟨zs,hz⟩:=h u (by simp [hu])
  exact ⟨zs,by rw [List.getElem?_set_ne (by rintro rfl;exact hn.1 hu)];exact hz⟩
theorem ZzH {args:List AVal} {σ σ':Za} {r:AVal} (hp:Zgy args σ=some (r,σ')) :
  (∃ fn,Try.prog.funcs[31]?=some fn/\fn.body.isSome=true/\(fn.name == "runtime.NumGoroutine")=false) /\
  ∀ base w0 I0 I β w (vs:Array Value),KLt base w0->Rel base w0 I0 I β σ w->VRs I β args vs.toList ->
   Calls Try.prog 31 vs w (fun e w'=>∃ u,Ends r e u/\ZbW σ.length base w0 I0 I β r σ' u w'):=by
 refine ⟨⟨Try.f31,Try.func31,by kernel_rfl,by kernel_rfl⟩,fun base w0 I0 I β w vs hb R hv=>?_⟩
 obtain ⟨vs⟩:=vs
 unfold Zgy at hp
 split at hp
 case h_2=>cases hp
 split at hp
 case h_2=>cases hp
 rename_i tb nb cs hs0
 unfold ZmD at hp
 split at hp
 case h_2=>cases hp
 rename_i xs hsb
 split at hp
 case h_2=>cases hp
 rename_i rows hrows
 split at hp
 case isFalse=>cases hp
 rename_i hc
 obtain ⟨rfl,hn,hnd⟩:=hc
 simp only [Xa,Xb] at hp
 obtain ⟨rfl,rfl⟩:=hp
 obtain ⟨hrl,hrg⟩:=ZtM hrows
 simp only [VRs,VR] at hv
 obtain ⟨v,vs',rfl,⟨kb,kk,kc,hβ0,rfl⟩,rfl⟩:=hv
 obtain ⟨b0,k0,c0,us,ty,hβ1,hh0,hvs⟩:=R.blk 0 _ hs0
 rw [hβ0] at hβ1
 simp only [Xa,BI.mk.injEq] at hβ1
 obtain ⟨rfl,rfl,rfl⟩:=hβ1
 simp only [VRs] at hvs
 obtain ⟨u0,us',hus,hu0,_⟩:=hvs
 obtain ⟨bi,e1,e2,e3,e4,e5,e6,b1,us1,ty1,e7,e8,e9,e10⟩:=R.blk tb _ hsb
 rw [Zbv] at hu0
 obtain ⟨bi',f1,f2,f3,f4⟩:=hu0
 rw [e1] at f1
 injection f1 with f1
 subst f1
 have hu0':u0=.slice (some ⟨b1,0,none⟩) xs.length bi.cap:=by
  rcases f4 with ⟨b,hb',rfl⟩ | ⟨hbn,_⟩
  ·rw [e7] at hb';injection hb' with hb';subst hb';rfl
  ·rw [e7] at hbn;cases hbn
 have hcells:xs.flatMap AVal.cells=xs:=by
  have : ∀ x ∈ xs,x.cells=[x]:=by
   intro x hx
   obtain ⟨i,hi⟩:=WU.1 hx
   have hlt:i < rows.length:=by rw [hrl];exact (Xo.1 hi).1
   obtain ⟨h1,_⟩:=hrg i rows[i].1 rows[i].2 (XA hlt)
   rw [hi] at h1;injection h1 with h1;subst h1;rfl
  exact Zvi xs this
 rw [hcells,Xa2] at e10
 have hbl:(us1.toList.take xs.length).length=xs.length:=(Zas e10).symm
 generalize hbs:us1.toList.take xs.length=bs at e10 hbl
 have hlen0:kb < w.heap.size:=(XJ.1 hh0).1
 have hlen1:b1 < w.heap.size:=(XJ.1 e8).1
 have how0:ZD β 0 (.var (.sl tb 0 0 xs.length::cs))=some kb:=by simp [ZD,hβ0]
 have how1:ZD β tb (.rrow 0 1 xs)=some b1:=by simp [ZD,e1,e7]
 have hus':us.toList=.slice (some ⟨b1,0,none⟩) bs.length bi.cap::us':=by rw [hus,hu0',hbl]
 have hget:∀ (i:Nat) (v:Value) (l:List UInt8),bs[i]?=some v->(rows.map (·.2))[i]?=some l->∃ t ys A c,rows[i]?=some (t,l)/\σ[t]?=some (.row 0 1 ys)/\v=.slice A l.length c/\OwnA w A c l.length (bVs l)/\∀ g,ob A c=some g->ZD β t (.row 0 1 ys)=some g:=by
  intro i v l hv hl
  rw [List.getElem?_map,Xr] at hl
  obtain ⟨⟨t,l'⟩,hr,rfl⟩:=hl
  obtain ⟨h1,h2,ys,h3,h4⟩:=hrg i t l' hr
  obtain ⟨v',hv',hvr⟩:=ZbF e10 h1
  rw [hv] at hv';injection hv' with hv';subst hv'
  obtain ⟨A,c,e,ho,hob⟩:=ZBZ R h3 h4 hvr
  exact ⟨t,ys,A,c,hr,h3,e,ho,hob⟩
 have hrowl:(rows.map (·.2)).length=bs.length:=by rw [XH,hrl,hbl]
 have hcap:∀ (i:Nat) (v:Value) (g:Nat),bs[i]?=some v->ZbY v=some g->∃ t l ys,rows[i]?=some (t,l)/\σ[t]?=some (.row 0 1 ys)/\ZD β t (.row 0 1 ys)=some g:=by
  intro i v g hv hg
  have hi:i < (rows.map (·.2)).length:=by rw [hrowl];exact (Xo.1 hv).1
  obtain ⟨t,ys,A,c,h1,h2,rfl,h4,h5⟩:=hget i v _ hv (XA hi)
  exact ⟨t,_,ys,h1,h2,h5 g hg⟩
 have hR:BookR w kb (some ⟨b1,0,none⟩) bi.cap bs:=by
  refine ⟨?_,XG ⟨b1,0,rfl,fun i u hu=>?_⟩⟩
  ·rw [cell_of_row w kb 0 us ty (0,0) hh0,<-Xax,hus'];rfl
  ·rw [cell_of_row w b1 (0+i) us1 ty1 (0,0) e8,<-Xax,XC]
   rw [<-hbs,XP] at hu
   split at hu
   ·exact hu
   ·cases hu
 have hL:Zgg kb (some ⟨b1,0,none⟩) bs w.heap.size:=by
  refine ⟨hlen0,fun b off e=>by injection e with e;injection e with e;subst e;exact hlen1,fun i v g hv hg=>?_⟩
  obtain ⟨t,l,ys,h1,h2,h3⟩:=hcap i v g hv hg
  refine ⟨?_,fun b off e=>?_,(R.blk t _ h2).owns_lt h3⟩
  ·rintro rfl
   have:=R.apart t _ 0 _ g h2 hs0 h3 how0
   subst this
   rw [hs0] at h2;cases h2
  ·injection e with e;injection e with e;subst e
   rintro rfl
   have:=R.apart t _ tb _ _ h2 hsb h3 how1
   subst this
   rw [hsb] at h2;cases h2
 have hF:BodsF w bs (rows.map (·.2)) (fun _ l=>l):=by
  intro i v l hv hl
  obtain ⟨t,ys,A,c,h1,h2,h3,h4,h5⟩:=hget i v l hv hl
  exact ⟨A,c,h3,h4⟩
 have hap:Zhp bs:=by
  intro i j u v g hij hu hv hg hg'
  obtain ⟨t,l,ys,h1,h2,h3⟩:=hcap i u g hu hg
  obtain ⟨t',l',ys',h1',h2',h3'⟩:=hcap j v g hv hg'
  have e:=R.apart t _ t' _ g h2 h2' h3 h3'
  subst e
  have hi:=(Xo.1 h1)
  have hj:=(Xo.1 h1')
  obtain ⟨hi,hi'⟩:=hi
  obtain ⟨hj,hj'⟩:=hj
  have:=(List.pairwise_iff_getElem.1 hnd) i j (by simpa using hi) (by simpa using hj) hij
  simp [hi',hj'] at this
 have hsz:∀ l ∈ rows.map (·.2),l.length<=1099511627776:=by
  intro l hl
  obtain ⟨⟨t,l'⟩,hm,rfl⟩:=XT.1 hl
  obtain ⟨i,hi⟩:=WU.1 hm
  exact (hrg i t l' hi).2.1
 refine (ZAX kb _ bi.cap bs (rows.map (·.2)) w hR hL hF hap hrowl.symm (by rw [hbl];exact hn) hsz).mono ?_
 rintro e w' ⟨rfl,hk⟩
 refine ⟨.bool true,rfl,I,β,Imm.le.refl I,KeptE.refl _ β,?_,by simp [ZaA,VR]⟩
 have hts:∀ t ∈ rows.map (·.1),∃ ys,σ[t]?=some (.row 0 1 ys):=by
  intro t ht
  obtain ⟨⟨t',l'⟩,hm,rfl⟩:=XT.1 ht
  obtain ⟨i,hi⟩:=WU.1 hm
  obtain ⟨_,_,ys,h3,_⟩:=hrg i t' l' hi
  exact ⟨ys,h3⟩
 have hno:∀ k,bsS bs k->∃ t ys,t ∈ rows.map (·.1)/\σ[t]?=some (.row 0 1 ys)/\ZD β t (.row 0 1 ys)=some k:=by
  rintro k ⟨i,v,hv,hg⟩
  obtain ⟨t,l,ys,h1,h2,h3⟩:=hcap i v k hv hg
  exact ⟨t,ys,XT.2 ⟨(t,l),XF h1,rfl⟩,h2,h3⟩
 have hblk:=R.base_le hb
 refine (R.relB hts hnd).stay (Imm.le.refl I) ⟨hk.os,hk.tape,hk.output,hk.size,fun k hk'=>hk.block k (hblk k hk') ?_⟩ (fun _ _ _=>rfl) (fun b o u hi=>?_) (fun t x b hx hb'=>?_)
 ·intro hS
  obtain ⟨t,ys,_,h2,h3⟩:=hno k hS
  exact (R.own t _ k h2 h3).1 hk'
 ·refine hk.cell (R.imm b o u hi) (fun hS=>?_)
  obtain ⟨t,ys,_,h2,h3⟩:=hno b hS
  have:=(R.own t _ b h2 h3).2 o
  rw [this] at hi;cases hi
 ·rcases Zvc hx with ⟨_,rfl⟩ | ⟨hnt,hx'⟩
  ·cases hb'
  ·refine ⟨hk.block b ((R.blk t x hx').owns_lt hb') (fun hS=>?_),(R.own t x b hx' hb').2⟩
   obtain ⟨t',ys,h1,h2,h3⟩:=hno b hS
   have:=R.apart t _ t' _ b hx' h2 hb' h3
   subst this
   exact hnt h1
end
end
section
set_option maxRecDepth 100000
theorem Zn6:Try.prog.follows .mixedOrders=true:=by kernel_rfl
theorem Zw3:Zk1 Try.prog 22 1 1 (.int .u8 0) 21:=⟨_,_,_,_,_,_,_,_,_,_,_,rfl,rfl,rfl,by kernel_rfl,rfl,rfl,rfl,rfl,rfl,rfl,rfl,rfl,by kernel_rfl,by kernel_rfl,⟨_,_,_,_,rfl⟩,rfl,by decide⟩
theorem ZAz:Zk1 Try.prog 25 5 72 (.agg [.int .i64 0,.int .i64 0,.str [],.str [],.lst true []]) 38:=⟨_,_,_,_,_,_,_,_,_,_,_,rfl,rfl,rfl,by kernel_rfl,rfl,rfl,rfl,rfl,rfl,rfl,rfl,rfl,by kernel_rfl,by kernel_rfl,⟨_,_,_,_,rfl⟩,rfl,by decide⟩
theorem ZuC {α:Type} {d v:α}:∀ {l:List (Nat×α)} {n:Nat},ZcP d l n=v->v=d\/(n,v) ∈ l
 | [],n,h=>Xz h.symm
 | (k,w)::r,n,h=>by
  simp only [ZcP] at h
  split at h
  ·rename_i e;subst e h;exact XG (by simp)
  ·rcases ZuC h with h | h
   ·exact Xz h
   ·exact XG (by simp [h])
theorem ZxK:ZlU Try.prog PR:=by
 intro f g h args σ r σ' hg
 rcases ZuC h with h | h
 ·cases h
 unfold Zwm at h
 simp only [XR,Xb,Xa,List.not_mem_nil,or_false] at h
 rcases h with ⟨rfl,rfl⟩ | h
 ·exact ZwZ Zn6 Zw3 hg
 rcases h with ⟨rfl,rfl⟩ | h
 ·exact ZwZ Zn6 ZAz hg
 rcases h with ⟨rfl,rfl⟩ | h
 ·exact ZzH hg
 exact absurd h.2 (by simp)
theorem ZzB:Zao Try.prog E:=by
 have h:E=EV CF PR BY:=Zyz CF PR BY
 rw [h]
 exact ZzX Zn6 ZxK ann BY
end
section
open Go.ChangeShapes Go.WideShapes Go.ChangeAt Go.RowKit Go.Deep
open Go.ChangeMaps (open_string shut_string)
theorem ZCt:ownKnob Try.prog.godebug=none:=by kernel_rfl
theorem Zeb:laidOutB Try.prog=true:=by kernel_rfl
set_option maxRecDepth 100000 in
theorem ZxD (os:Os) (started:os.Started) (H:Type) (enc:TypeId×Value->H) :
  ReturnsInHanded {} Try.checked os 3 .any (Rows.noteOfsSpec.pre6 enc Try.prog Try.f3 Rows.noteOfsRow.domain false) (Rows.noteOfsSpec.post enc Try.prog Try.f3 false true false false):=by
 refine returnsInHanded_of_change_sized (C:=Try.checked) ZCt started (by kernel_rfl) Try.func3
  (ChangeSpec.witness6 (enc:=enc) (C:=Try.checked) false ⟨#[],#[.agg #[.int .i64 0,.bool false,.int .i64 0,.bool false,.int .i64 0,.string Wx,.slice none 0 0,.int .i64 0,.slice none 0 0,.slice none 0 0,.slice none 0 0,.slice none 0 0,.bool false,.int .i64 0,.string Wx,.bool false,.string Wx,.slice none 0 0,.int .i64 0,.bool false,.slice none 0 0,.bool false,.string Wx,.bool false,.slice none 0 0,.bool false],.string Wx,.string Wx,.agg #[.string Wx,.slice none 0 0,.int .i64 0,.bool false,.string Wx,.int .i64 0,.slice none 0 0,.int .i64 0,.int .i64 0,.int .i64 0,.int .i64 0,.bool false,.slice none 0 0,.string Wx],.int .i64 0,.int .i64 0,.bool false],[]⟩ 8 (by kernel_rfl) (by kernel_rfl) (by kernel_rfl) (by kernel_rfl)) ?_
 intro W base args ds gs before hval0 hW hcnd hwt0 _
 have hwt:(DataW.weightsEach Try.prog (Try.f3.params.toList++(Rows.noteOfsSpec).plain.varTypes Try.prog) (ds++gs)).all (·<=reachBytes)=true:=hwt0
 have hval:∀ (j:Nat) t v,Try.f3.params[j]?=some t->args[j]?=some v->Value.okWide Try.prog W .any base t v:=hval0
 have hW':=hW
 obtain ⟨p,q,hA0,hV,rfl,hfz,hnd⟩:=hW
 have hA:DataW.TrodAll enc Try.prog W 0 (fun _=>true) true Try.f3.params.toList args.toList ds p:=hA0
 rw [Try.params3] at hA hval hwt
 obtain ⟨v0,vs0,d0,ds0,p0,q0,hargs,rfl,rfl,h0,r0⟩:=trodAll_cons hA
 obtain ⟨v1,vs1,d1,ds1,p1,q1,rfl,rfl,rfl,h1,r1⟩:=trodAll_cons r0
 obtain ⟨v2,vs2,d2,ds2,p2,q2,rfl,rfl,rfl,h2,r2⟩:=trodAll_cons r1
 obtain ⟨v3,vs3,d3,ds3,p3,q3,rfl,rfl,rfl,h3,r3⟩:=trodAll_cons r2
 obtain ⟨v4,vs4,d4,ds4,p4,q4,rfl,rfl,rfl,h4,r4⟩:=trodAll_cons r3
 obtain ⟨v5,vs5,d5,ds5,p5,q5,rfl,rfl,rfl,h5,r5⟩:=trodAll_cons r4
 obtain ⟨v6,vs6,d6,ds6,p6,q6,rfl,rfl,rfl,h6,r6⟩:=trodAll_cons r5
 obtain ⟨rfl,rfl,rfl⟩:=trodAll_nil r6
 obtain rfl:args=#[v0,v1,v2,v3,v4,v5,v6]:=by cases args;simp_all
 obtain ⟨rfl,rfl⟩:=trodVars_none hV
 have k0:=h0
 have lt0:∀ x ∈ p0,x.block < W.heap.size:=by obtain ⟨m,hm⟩:=k0;exact DataW.trod_lt m _ _ _ hm
 have k1:=h1
 have lt1:∀ x ∈ p1,x.block < W.heap.size:=by obtain ⟨m,hm⟩:=k1;exact DataW.trod_lt m _ _ _ hm
 have k2:=h2
 have lt2:∀ x ∈ p2,x.block < W.heap.size:=by obtain ⟨m,hm⟩:=k2;exact DataW.trod_lt m _ _ _ hm
 have k3:=h3
 have lt3:∀ x ∈ p3,x.block < W.heap.size:=by obtain ⟨m,hm⟩:=k3;exact DataW.trod_lt m _ _ _ hm
 have k4:=h4
 have lt4:∀ x ∈ p4,x.block < W.heap.size:=by obtain ⟨m,hm⟩:=k4;exact DataW.trod_lt m _ _ _ hm
 have k5:=h5
 have lt5:∀ x ∈ p5,x.block < W.heap.size:=by obtain ⟨m,hm⟩:=k5;exact DataW.trod_lt m _ _ _ hm
 have k6:=h6
 have lt6:∀ x ∈ p6,x.block < W.heap.size:=by obtain ⟨m,hm⟩:=k6;exact DataW.trod_lt m _ _ _ hm
 obtain ⟨x0,y0,z0,_⟩:=Zeo (R:=reachBytes) (n:=12) (T:=ZmC) (by kernel_rfl) (by kernel_rfl) (fun m hm=>of_decide_eq_true (XD.1 hwt m (DataW.weights_mem_each (j:=0) rfl rfl m hm))) (hval 0 31 v0 rfl rfl) h0
 rw [Try.underlying31] at y0
 obtain ⟨a0,b0,rfl⟩:=Zxd y0
 obtain ⟨x1,y1,z1,_⟩:=Zeo (R:=reachBytes) (n:=12) (T:=.str) (by kernel_rfl) (by kernel_rfl) (fun m hm=>of_decide_eq_true (XD.1 hwt m (DataW.weights_mem_each (j:=1) rfl rfl m hm))) (hval 1 9 v1 rfl rfl) h1
 rw [Try.underlying9] at y1
 obtain ⟨a1,b1,rfl⟩:=ZtW y1
 obtain ⟨x2,y2,z2,_⟩:=Zeo (R:=reachBytes) (n:=12) (T:=.str) (by kernel_rfl) (by kernel_rfl) (fun m hm=>of_decide_eq_true (XD.1 hwt m (DataW.weights_mem_each (j:=2) rfl rfl m hm))) (hval 2 9 v2 rfl rfl) h2
 rw [Try.underlying9] at y2
 obtain ⟨a2,b2,rfl⟩:=ZtW y2
 obtain ⟨x3,y3,z3,_⟩:=Zeo (R:=reachBytes) (n:=12) (T:=Zh3) (by kernel_rfl) (by kernel_rfl) (fun m hm=>of_decide_eq_true (XD.1 hwt m (DataW.weights_mem_each (j:=3) rfl rfl m hm))) (hval 3 36 v3 rfl rfl) h3
 rw [Try.underlying36] at y3
 obtain ⟨a3,b3,rfl⟩:=ZBy y3
 obtain ⟨x4,y4,z4,_⟩:=Zeo (R:=reachBytes) (n:=12) (T:=(.int .i64)) (by kernel_rfl) (by kernel_rfl) (fun m hm=>of_decide_eq_true (XD.1 hwt m (DataW.weights_mem_each (j:=4) rfl rfl m hm))) (hval 4 3 v4 rfl rfl) h4
 rw [Try.underlying3] at y4
 obtain ⟨a4,b4,rfl⟩:=ZuZ y4
 obtain ⟨x5,y5,z5,_⟩:=Zeo (R:=reachBytes) (n:=12) (T:=(.int .i64)) (by kernel_rfl) (by kernel_rfl) (fun m hm=>of_decide_eq_true (XD.1 hwt m (DataW.weights_mem_each (j:=5) rfl rfl m hm))) (hval 5 3 v5 rfl rfl) h5
 rw [Try.underlying3] at y5
 obtain ⟨a5,b5,rfl⟩:=ZuZ y5
 obtain ⟨x6,y6,z6,_⟩:=Zeo (R:=reachBytes) (n:=12) (T:=.bool) (by kernel_rfl) (by kernel_rfl) (fun m hm=>of_decide_eq_true (XD.1 hwt m (DataW.weights_mem_each (j:=6) rfl rfl m hm))) (hval 6 4 v6 rfl rfl) h6
 rw [Try.underlying4] at y6
 obtain ⟨a6,rfl⟩:=ZyT y6
 clear hA0 hval0
 refine (ZzL ZzB (ZBi _) (args:=[Zuz a0,.str a1,.str a2,ZdR a3,.int .i64 a4,.int .i64 a5,.bool a6]) (by simp only [VRs];exact ⟨_,_,rfl,z0,_,_,rfl,z1,_,_,rfl,z2,_,_,rfl,z3,_,_,rfl,z4,_,_,rfl,z5,_,_,rfl,z6,rfl⟩) (ZyE a0 a3 (fun q hq=>Xai (b0.props.2 q hq).2.2.2.2 (by decide)) (fun q hq=>Xai (b3.2 q hq).2.2.2.2 (by decide)) a1 a2 a4 a5 a6)).mono fun e W' ⟨he,bel⟩=>?_
 subst he
 exact ⟨_,rfl,_,_,_,[],_,[],hW',trodAll_mk1 (shut_bool Try.underlying4 _),(trodAll_cons_mk (Below.trod Zeb (by kernel_rfl) (of_decide_eq_true (by kernel_rfl)) k0 bel lt0) (trodAll_cons_mk (Below.trod Zeb (by kernel_rfl) (of_decide_eq_true (by kernel_rfl)) k1 bel lt1) (trodAll_cons_mk (Below.trod Zeb (by kernel_rfl) (of_decide_eq_true (by kernel_rfl)) k2 bel lt2) (trodAll_cons_mk (Below.trod Zeb (by kernel_rfl) (of_decide_eq_true (by kernel_rfl)) k3 bel lt3) (trodAll_cons_mk (Below.trod Zeb (by kernel_rfl) (of_decide_eq_true (by kernel_rfl)) k4 bel lt4) (trodAll_cons_mk (Below.trod Zeb (by kernel_rfl) (of_decide_eq_true (by kernel_rfl)) k5 bel lt5) (trodAll_cons_mk (Below.trod Zeb (by kernel_rfl) (of_decide_eq_true (by kernel_rfl)) k6 bel lt6) trodAll_mk0))))))),rfl,bel.frame _,fun h=>by cases h⟩
theorem noteOfs_holds:Rows.NoteOfsSaid :=
 OpenClaim.holds_of_wide 3 Try.f3 rfl rfl rfl rfl rfl rfl rfl ⟨rfl,rfl,rfl,rfl,rfl⟩ rfl rfl rfl rfl rfl (by kernel_rfl) Try.func3 (by kernel_rfl)
  (of_decide_eq_true (by kernel_rfl)) (by unfold Func.isWrapper;first | (rw [if_pos (by decide +kernel)];kernel_rfl) | (rw [if_neg (by decide +kernel)];exact ⟨rfl,rfl⟩))
  (fun os started H enc _=>ZxD os started H enc)
#print axioms noteOfs_holds
end
end Go.Proofs.Ytnlnmdnmgachgaa
