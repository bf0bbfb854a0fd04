/- The card of GroupTwice: for every input the law returns true, and each argument reads afterwards as it read before. No other condition; the tables of unicode/utf8 are tied to the program. -/
import Derived.Test.YtagamgebijflnaaDoorMq2
import Derived.Deep.Slices
import Derived.ChangeArms
import Derived.WideShapes
import GoSem.ClaimChange
import Derived.Test.YtagamgebijflnaaDoorProg
import Derived.Shelf.Small.Strs
import Derived.Shelf.Strings.Search1
import Derived.Shelf.Strings.Count
import Derived.Shelf.Unicode.ValidAny
import Derived.Lib.TrimUEq
import Derived.Lib.MapLaws
import Derived.Lib.ValidLaws
import Derived.Lib.LaidU8T
import Derived.Test.YtagamgebijflnaaDoorRows
import Derived.Test.YtagamgebijflnaaDoorCards
import Derived.Test.YtagamgebijflnaaDoorTie
import Derived.WalkKit
import Derived.ProofKit
import Derived.OpenShut
import Derived.ShutString
import Derived.ChangeOld
import Derived.Below
import Derived.SevenTiedAt
import Derived.LaidByTextLater
import Derived.Lib.LaidIn
import Derived.Deep.DeepHandedRow
import Derived.MakeChecks
set_option linter.defProp false
set_option linter.unusedSectionVars false
set_option linter.unusedSimpArgs false
set_option linter.unusedVariables false
open Option.some renaming injEq→Xa,inj→WW
open Bool renaming and_eq_true→Xc,false_eq_true→Xg,decide_eq_true→Xi,not_eq_true→Xm,and_self→WI,true_or→Xaf,or_eq_false_iff→Xat,false_and→XaA,true_and→XaO,false_or→XaP
open List renaming getD_eq_getElem?_getD→Xd,getElem?_eq_some_iff→Xe,range_succ→Xp,mem_of_getElem?→Xq,all_eq_true→Xv,getElem?_eq_getElem→Xz,length_append→XA,map_cons→XB,replicate→XC,length_singleton→XE,mem_cons→XG,all_cons→XH,append_nil→XK,mem_map→XL,getD_cons_zero→XN,flatMap_cons→XR,length_cons→XS,mem_singleton→XV,all_nil→XW,length_nil→XX,getD_cons_succ→XY,take_of_length_le→X2,getElem?_map→X3,zip_cons_cons→X5,map_nil→X6,drop_eq_nil_of_le→X7,contains_nil→Wa,nil_append→Wc,map_append→Wd,lookup_cons→We,cons_append→Wk,range→Wn,zip_nil_left→Wr,map_map→Wx,drop_eq_getElem_cons→Wy,length_map→Wz,lookup_nil→WB,isEmpty_nil→WG,contains_cons→WO,any_cons→WP,length_eraseIdx→WS,nodup_append→WV,eraseIdx_eq_take_drop_succ→WX,any_nil→WY,take_append_of_le_length→WZ,drop_eq_nil_iff→W9,length_pos_iff→Xab,take_append_drop→Xan,flatMap_nil→Xap,perm_singleton→Xax,isEmpty_cons→XaC,map_take→XaD
open Nat renaming le_of_ble_eq_true→Xf,reduceLeDiff→Xk,reduceEqDiff→Xl,reduceAdd→Xr,reduceSub→Xs,reduceBEq→Xt,reduceMul→Xu,reduceLT→Xx,zero_add→XD,le_refl→XO,add_zero→X4,add_assoc→Ws,one_mul→WR,zero_mul→XaH
open Option renaming map_eq_some_iff→Xh,map→W8
open Or renaming inl→Xo,inr→Xw
open Int renaming toNat_natCast→XaB
open List.Perm renaming refl→XaL
namespace Go.Proofs.YtagamgebijflnaaDoor
set_option maxHeartbeats 16000000
set_option maxRecDepth 10000
section
open Go.RowKit
inductive Ty where
 | bool
 | int (k:IntKind)
 | str
 | slice (s:Bool) (e:Ty)
 | struct (fs:List Ty)
 deriving Inhabited
def ZbT:Option TypeDesc->Bool
 | some (.struct _)=>true
 | some (.array _ _)=>true
 | _=>false
def ZeS (P:Program):Nat->List Field->Nat->Bool
 | at',[],n=>at' == n
 | at',f::fs,n=>f.offset == at' && ZeS P (at'+P.cellsOf f.type) fs n
def ZbK (P:Program):Nat->TypeId->Option Ty
 | 0,_=>none
 | n+1,t=>match P.underlying t with
  | some .bool=>some .bool
  | some (.int k)=>some (.int k)
  | some .string=>some .str
  | some (.slice e)=>if 0 < P.cellsOf e then (ZbK P n e).map (.slice (ZbT (P.underlying e))) else none
  | some (.struct fs)=>if ZeS P 0 fs.toList (P.cellsOf t) then (fs.toList.mapM fun f=>ZbK P n f.type).map .struct else none
  | _=>none
def Zbk (s:Bool) (y:List AVal):AVal:=if s then .agg y else y.headD .nilp
mutual
def TyC:Ty->List AVal->Prop
 | .bool,xs=>∃ b,xs=[.bool b]
 | .int k,xs=>∃ n,(Lit.int k n).wf=true/\xs=[.int k n]
 | .str,xs=>∃ l:List UInt8,l.length<=9223372036854775807/\xs=[.str l]
 | .slice s e,xs=>∃ ys:List (List AVal),xs=[.lst false (ys.map (Zbk s))]/\ys.length<=9223372036854775807/\∀ y ∈ ys,TyC e y
 | .struct fs,xs=>Zfa fs xs
def Zfa:List Ty->List AVal->Prop
 | [],xs=>xs=[]
 | f::fs,xs=>∃ a b,xs=a++b/\TyC f a/\Zfa fs b
end
def Imm.of (w:World):Imm:=fun b o=>w.cell? ⟨b,o,none⟩
section
variable {H:Type} {enc:TypeId×Value->H} {P:Program} {w:World} {spare:Nat->Bool} {held:Bool}
theorem ZoX {b off:Nat} {s:Option Nat} {u:Value} (h:w.cell? ⟨b,off,s⟩=some u):s=none:=by
 unfold World.cell? at h
 split at h
 ·rcases s with _ | s
  ·rfl
  ·simp at h
 ·cases h
theorem ZpG {s:Bool} {y:List AVal} (h:s=false->y.length=1) (h1:s=false->∀ x ∈ y,Zu x=true):(Zbk s y).cells=y:=by
 cases s with
 | true=>rfl
 | false =>
  match y,h rfl with
  | [x],_ =>
   have:=h1 rfl x (by simp)
   cases x <;> simp_all [Zbk,AVal.cells,Zu]
theorem ZwU {a:Addr} (h:a.spot=none) (n:Nat):a.add n=⟨a.block,a.off+n,none⟩:=by
 unfold Addr.add
 split
 ·rename_i e;subst e;cases a;simp_all
 ·rfl
theorem ZoW {I:Imm} {β:Bmap} {xs:List AVal} {vs:List Value} {n:Nat} (h:VRs I β xs (vs.take n)) {ys:List AVal} (h':VRs I β ys (vs.drop n)):VRs I β (xs++ys) vs:=by
 have:=Zbj h h'
 rwa [Xan] at this
theorem ZiH {α β:Type} {f:α->Option β} {a:α} {l:List α} {r:List β} (h:(a::l).mapM f=some r):∃ b r',f a=some b/\l.mapM f=some r'/\r=b::r':=by
 rw [List.mapM_cons] at h
 simp only [Option.bind_eq_bind,Option.bind_eq_some_iff,Option.pure_def,Xa] at h
 obtain ⟨b,h1,r',h2,h3⟩:=h
 exact ⟨b,r',h1,h2,h3.symm⟩
theorem Zxt {a b:List AVal} (ha:Z8 a=true) (hb:Z8 b=true):Z8 (a++b)=true:=by
 induction a with
 | nil=>exact hb
 | cons x a ih=>simp only [Wk,Z8,Xc] at ha ⊢;exact ⟨ha.1,ih ha.2⟩
theorem Zjt {n fuel:Nat} {cs:List Value} (ih:∀ (t:TypeId) (cs:List Value) (x:DataW H×List MemPlace) (T:Ty),ZbK P n t=some T->DataW.trod enc P w 0 spare held fuel t cs=some x->∃ xs,TyC T xs/\VRs (Imm.of w) B0 xs cs/\Z8 xs=true) :
  ∀ (fs:List Field) (at':Nat) (Ts:List Ty) (ys:List (DataW H×List MemPlace)),ZeS P at' fs cs.length=true->fs.mapM (fun f=>ZbK P n f.type)=some Ts ->
   fs.mapM (fun f=>DataW.trod enc P w 0 spare held fuel f.type ((cs.drop f.offset).take (P.cellsOf f.type)))=some ys->∃ xs,Zfa Ts xs/\VRs (Imm.of w) B0 xs (cs.drop at')/\Z8 xs=true
 | [],at',Ts,ys,ho,hT,_=>by
  simp only [ZeS,beq_iff_eq] at ho
  simp only [List.mapM_nil,Option.pure_def,Xa] at hT
  subst hT ho
  exact ⟨[],by simp only [Zfa],by simp [VRs],rfl⟩
 | f::fs,at',Ts,ys,ho,hT,h=>by
  simp only [ZeS,Xc,beq_iff_eq] at ho
  obtain ⟨T,Ts',h1,h2,rfl⟩:=ZiH hT
  obtain ⟨y,ys',h3,h4,rfl⟩:=ZiH h
  obtain ⟨a,a1,a2,a3⟩:=ih _ _ _ _ h1 h3
  obtain ⟨b,b1,b2,b3⟩:=Zjt ih fs _ _ _ ho.2 h2 h4
  rw [ho.1] at a2
  refine ⟨a++b,by simp only [Zfa];exact ⟨a,b,rfl,a1,b1⟩,ZoW a2 (by rw [List.drop_drop];exact b2),Zxt a3 b3⟩
theorem Zly {I:Imm} {β:Bmap} {s:Bool} {k b:Nat}:∀ (n off:Nat) (Y:Nat->List AVal),(∀ i,i < n->(Zbk s (Y i)).cells.length=k/\CR I β (Zbk s (Y i)).cells b (off+i*k))->LR I β k ((Wn n).map fun i=>Zbk s (Y i)) b off
 | 0,off,Y,_=>by simp [LR]
 | n+1,off,Y,h=>by
  rw [List.range_succ_eq_map,XB,ZdR]
  have h0:=h 0 (by omega)
  simp only [XaH,X4] at h0
  refine ⟨h0,?_⟩
  rw [Wx]
  exact Zly n (off+k) (fun i=>Y (i+1)) (fun i hi=>by
   have:=h (i+1) (by omega)
   rw [show off+k+i*k=off+(i+1)*k by rw [Nat.succ_mul];omega]
   exact this)
theorem ZjG {I:Imm} {β:Bmap} {b:Nat}:∀ (xs:List AVal) (cs:List Value) (off:Nat),VRs I β xs cs->(∀ i,i < cs.length->I b (off+i)=cs[i]?)->CR I β xs b off
 | [],_,_,_,_=>by simp only [CR]
 | x::xs,cs,off,h,hI=>by
  simp only [VRs] at h
  obtain ⟨v,vs',rfl,h1,h2⟩:=h
  simp only [CR]
  refine ⟨⟨v,by have:=hI 0 (by simp);simpa using this,h1⟩,ZjG xs vs' (off+1) h2 fun i hi=>?_⟩
  have:=hI (i+1) (by simp;omega)
  rw [show off+1+i=off+(i+1) by omega,this]
  simp
theorem Zh3 {s:Bool}:∀ (n:Nat) (Y:Nat->List AVal),(∀ i,i < n->Z8 (Zbk s (Y i)).cells=true)->ZA ((Wn n).map fun i=>Zbk s (Y i))=true
 | 0,Y,_=>by simp [ZA]
 | n+1,Y,h=>by
  rw [List.range_succ_eq_map,XB,Zj3,h 0 (by omega),Wx]
  simp only [XaO]
  exact Zh3 n (fun i=>Y (i+1)) (fun i hi=>h (i+1) (by omega))
theorem Zj1 {xs:List AVal} (h:Z8 xs=true):∀ x ∈ xs,Zu x=true:=by
 induction xs with
 | nil=>intro x hx;simp at hx
 | cons y ys ih =>
  simp only [Z8,Xc] at h
  intro x hx
  rcases XG.1 hx with rfl | hx
  ·cases x <;> simp_all [Zad,Zu]
  ·exact ih h.2 x hx
theorem Zlu {n:Nat} {e:TypeId} {T:Ty} (hT:ZbK P n e=some T) (hs:ZbT (P.underlying e)=false) {xs:List AVal} (h:TyC T xs):xs.length=1:=by
 cases n with
 | zero=>simp [ZbK] at hT
 | succ n =>
  simp only [ZbK] at hT
  split at hT
  ·injection hT with hT;subst hT;simp only [TyC] at h;obtain ⟨_,rfl⟩:=h;rfl
  ·injection hT with hT;subst hT;simp only [TyC] at h;obtain ⟨_,_,rfl⟩:=h;rfl
  ·injection hT with hT;subst hT;simp only [TyC] at h;obtain ⟨_,_,rfl⟩:=h;rfl
  ·split at hT
   ·simp only [Xh] at hT
    obtain ⟨T',_,rfl⟩:=hT
    simp only [TyC] at h;obtain ⟨_,rfl,_⟩:=h;rfl
   ·cases hT
  ·rename_i hu;rw [hu] at hs;simp [ZbT] at hs
  ·cases hT
theorem Zh7:∀ (n fuel:Nat) (t:TypeId) (cs:List Value) (x:DataW H×List MemPlace) (T:Ty),ZbK P n t=some T->DataW.trod enc P w 0 spare held fuel t cs=some x ->
  ∃ xs,TyC T xs/\VRs (Imm.of w) B0 xs cs/\Z8 xs=true
 | 0,fuel,t,cs,x,T,hT,_=>by simp [ZbK] at hT
 | n+1,0,t,cs,x,T,_,h=>by simp [DataW.trod] at h
 | n+1,fuel+1,t,cs,x,T,hT,h=>by
  have h0:=h
  simp only [ZbK] at hT
  unfold DataW.trod at h
  split at hT
  ·rename_i hu
   injection hT with hT;subst hT
   obtain ⟨b,rfl,_⟩:=DataW.trod_bool hu h0
   exact ⟨[.bool b],by simp only [TyC];exact ⟨b,rfl⟩,by simp [VRs,VR],rfl⟩
  ·rename_i k hu
   injection hT with hT;subst hT
   obtain ⟨n',rfl,_,hk⟩:=DataW.trod_int hu h0
   exact ⟨[.int k n'],by simp only [TyC];exact ⟨n',hk,rfl⟩,by simp [VRs,VR],rfl⟩
  ·rename_i hu
   injection hT with hT;subst hT
   obtain ⟨s,rfl,_,hs⟩:=DataW.trod_string hu h0
   have hs':s.data.toList.length<=9223372036854775807:=by
    rw [Array.length_toList];exact Nat.le_trans hs (by simp [maxLen])
   exact ⟨[.str s.data.toList],by simp only [TyC];exact ⟨_,hs',rfl⟩,by simp only [VRs,VR];exact ⟨_,_,rfl,⟨by simp,hs'⟩,rfl⟩,rfl⟩
  ·rename_i e hu
   split at hT
   case isFalse=>cases hT
   rename_i hc
   simp only [Xh] at hT
   obtain ⟨T,hT,rfl⟩:=hT
   rcases Go.Deep.open_slice hu h0 with ⟨hcs,_⟩ | ⟨a,len,cap,m,n',D,Pl,hcs,_,hl,hm,hmm,_,hi⟩
   ·subst hcs
    exact ⟨[.lst false []],by simp only [TyC];exact ⟨[],by simp,by simp,by simp⟩,by simp only [VRs,VR];exact ⟨_,_,rfl,⟨none,0,rfl,by simp,by simp,by simp,by simp,by simp [ZA]⟩,rfl⟩,rfl⟩
   ·have hlm:len<=m:=by split at hmm <;> omega
    have hspot:0 < len->a.spot=none:=by
     intro h0
     obtain ⟨cs',h1,h2⟩:=hi 0 (by omega)
     obtain ⟨_,h6,h7⟩:=World.cells?_some h1
     have h8:=h7 0 hc
     obtain ⟨u,hu⟩:∃ u,cs'[0]?=some u:=⟨cs'[0]'(by omega),by simp⟩
     rw [hu] at h8
     simp only [XaH,Addr.add,if_true] at h8
     exact ZoX (b:=a.block) (off:=a.off) (s:=a.spot) (u:=u) h8
    have hall:∀ i,∃ xs,i < len->TyC T xs/\(Zbk (ZbT (P.underlying e)) xs).cells=xs/\xs.length=P.cellsOf e/\CR (Imm.of w) B0 xs a.block (a.off+i*P.cellsOf e)/\Z8 xs=true:=by
     intro i
     by_cases hlt:i < len
     ·obtain ⟨cs',h1,h2⟩:=hi i (by omega)
      obtain ⟨xs,h3,h4,h5⟩:=Zh7 n n' e cs' _ T hT h2
      obtain ⟨_,h6,h7⟩:=World.cells?_some h1
      have hlen:=Zaa h4
      refine ⟨xs,fun _=>⟨h3,ZpG (fun hs=>Zlu hT hs h3) (fun _=>Zj1 h5),by omega,ZjG xs cs' _ h4 (fun j hj=>?_),h5⟩⟩
      have h8:=h7 j (by omega)
      rw [Go.Deep.add_add,ZwU (hspot (by omega)),<-Ws] at h8
      exact h8
     ·exact ⟨[],fun h=>absurd h hlt⟩
    obtain ⟨Y,hY⟩:=Classical.axiomOfChoice hall
    subst hcs
    have hmx:maxLen=9223372036854775807:=by simp [maxLen]
    rw [hmx] at hm
    refine ⟨[.lst false ((Wn len).map fun i=>Zbk (ZbT (P.underlying e)) (Y i))],?_,?_,?_⟩
    ·simp only [TyC]
     refine ⟨(Wn len).map Y,by rw [Wx];rfl,by simp;omega,?_⟩
     intro y hy
     obtain ⟨i,hi',rfl⟩:=XL.1 hy
     exact (hY i (List.mem_range.1 hi')).1
    ·simp only [VRs,VR,Wz,List.length_range]
     refine ⟨_,_,rfl,⟨some a,cap,rfl,hl,hm,by simp,?_,Zh3 len Y fun i hlt=>by rw [(hY i hlt).2.1];exact (hY i hlt).2.2.2.2⟩,rfl⟩
     cases len with
     | zero=>exact Xo (by simp)
     | succ len =>
      refine Xw ⟨a.block,a.off,P.cellsOf e,?_,hc,Zly (len+1) a.off Y fun i hlt=>?_⟩
      ·have:=hspot (by omega)
       cases a;simp_all
      ·rw [(hY i hlt).2.1];exact ⟨(hY i hlt).2.2.1,(hY i hlt).2.2.2.1⟩
    ·simp only [Z8,Zad,Bool.and_true]
     exact Zh3 len Y fun i hlt=>by rw [(hY i hlt).2.1];exact (hY i hlt).2.2.2.2
  ·rename_i fs hu
   split at hT
   case isFalse=>cases hT
   rename_i ho
   simp only [Xh] at hT
   obtain ⟨Ts,hT,rfl⟩:=hT
   rw [hu] at h
   simp only at h
   split at h
   ·rename_i hl
    simp only [Xh] at h
    obtain ⟨ys,hy,rfl⟩:=h
    obtain ⟨xs,h1,h2,h3⟩:=Zjt (fun t cs x T h h'=>Zh7 n fuel t cs x T h h') fs.toList 0 Ts ys (by rw [hl];exact ho) hT hy
    exact ⟨xs,by simp only [TyC];exact h1,h2,h3⟩
   ·cases h
  ·cases hT
def Zhm (s:Bool) (T:Ty) (x:AVal):Prop:=∃ xs,TyC T xs/\x=Zbk s xs
theorem Zkg {n:Nat} {t:TypeId} {v:Value} {d:DataW H} {ps:List MemPlace} {T:Ty} {r:Reach} {b0:Nat} (hT:ZbK P n t=some T) (hv:Value.okWide P w r b0 t v) (h:DataW.Trod enc P w 0 spare held t v d ps) :
  ∃ x,Zhm (ZbT (P.underlying t)) T x/\VR (Imm.of w) B0 x v/\Z8 x.cells=true:=by
 obtain ⟨fuel,h⟩:=h
 obtain ⟨xs,h1,h2,h3⟩:=Zh7 n fuel t _ _ T hT h
 refine ⟨Zbk (ZbT (P.underlying t)) xs,⟨xs,h1,rfl⟩,?_⟩
 by_cases hs:ZbT (P.underlying t)=true
 ·have : ∃ cs,v=.agg cs:=by
   unfold Value.okWide at hv
   cases hu:P.underlying t with
   | none=>rw [hu] at hs;simp [ZbT] at hs
   | some dd =>
    rw [hu] at hv hs
    cases dd <;> first | (simp [ZbT] at hs;done) | (obtain ⟨cs,e,_⟩:=hv;exact ⟨cs,e⟩)
  obtain ⟨cs,rfl⟩:=this
  rw [hs]
  exact ⟨by simp only [Zbk,if_true,VR];exact ⟨cs,rfl,h2⟩,h3⟩
 ·have hs':ZbT (P.underlying t)=false:=by simpa using hs
  have hl:=Zlu hT hs' h1
  have hlen:=Zaa h2
  rw [hs']
  match xs,hl with
  | [x],_ =>
   simp only [Zbk,Xg,if_false,List.headD_cons]
   have hvc:v.cells=#[v]:=by
    cases n with
    | zero=>simp [ZbK] at hT
    | succ n =>
     simp only [ZbK] at hT
     split at hT
     ·rename_i hu;obtain ⟨b,rfl⟩:=Go.WideShapes.okWide_bool hu hv;rfl
     ·rename_i k hu;obtain ⟨b,rfl⟩:=Go.WideShapes.okWide_int hu hv;rfl
     ·rename_i hu;obtain ⟨b,rfl⟩:=Go.WideShapes.okWide_string hu hv;rfl
     ·rename_i e hu;obtain ⟨a,l,c,rfl⟩:=Go.WideShapes.okWide_slice hu hv;rfl
     ·rename_i fs hu;rw [hu] at hs';simp [ZbT] at hs'
     ·cases hT
   rw [hvc] at h2
   simp only [VRs] at h2
   obtain ⟨v',vs',e,h2,_⟩:=h2
   simp only [List.cons.injEq] at e
   rw [e.1]
   refine ⟨h2,?_⟩
   have hok:=Zj1 h3 x (by simp)
   have hx:x.cells=[x]:=by cases x <;> first | rfl | (simp [Zu] at hok;done)
   rw [hx];exact h3
theorem Rel.start (w:World) (hG:Gl.le (Imm.of w)):Rel (fun b=>b < w.heap.size) w (Imm.of w) (Imm.of w) B0 [] w where
 below:=KB.refl _ w
 old:=fun _ _ _=>rfl
 imm:=fun _ _ _ h=>h
 blk:=fun t x h=>by simp at h
 own:=fun t x b h=>by simp at h
 apart:=fun t x t' x' b h=>by simp at h
 fresh:=fun _ _ _=>rfl
 free:=fun t g h=>by simp at h
 gen:=fun t b g h=>by simp at h
 glob:=hG
 ro:=fun t x b h=>by simp at h
theorem Zxc {O:Zq} (hO:ZY P O) {f:Nat} {args:List AVal} {vs:Array Value} {σ':Za} (hG:Gl.le (Imm.of w)) (hargs:VRs (Imm.of w) B0 args vs.toList) (h:O f args []=some (.bool true,σ')) :
  Calls P f vs w (fun e w'=>e=.returned (.bool true)/\Below w.heap.size w w'):=by
 refine ((hO f args [] _ _ h).2 _ w _ _ B0 w vs (fun b hb=>hb) (Rel.start w hG) hargs).mono ?_
 rintro e w' ⟨u,he,I',β',_,_,R,hv⟩
 simp only [Zaj,VR] at hv
 subst hv
 exact ⟨he,R.below.os,R.below.tape,R.below.output,R.below.size,R.below.block⟩
end
end
section
open Go.Shelf
def ZtV:Ren:=⟨fun | 137=>66 | 217=>61 | 266=>77 | n=>n,fun | 9=>9 | 5=>5 | 3=>3 | n=>n,fun | n=>n⟩
theorem ZtQ:Go.Proofs.Lays.n137 Tryd.prog ZtV:={ mixed:=by kernel_rfl,f137:=Tryd.func66.trans (congrArg some (by kernel_rfl)),f217:=Tryd.func61.trans (congrArg some (by kernel_rfl)),f266:=Tryd.func77.trans (congrArg some (by kernel_rfl)),t3:=Tryd.underlying3,a3:=Tryd.isAgg3,z3:=Tryd.sizeOf3,v3:=Tryd.zeroValue3,t5:=Tryd.underlying5,a5:=Tryd.isAgg5,z5:=Tryd.sizeOf5,v5:=Tryd.zeroValue5,t9:=Tryd.underlying9,a9:=Tryd.isAgg9,z9:=Tryd.sizeOf9,v9:=Tryd.zeroValue9 }
def ZxW:Ren:=⟨fun | 217=>61 | 266=>77 | n=>n,fun | 9=>9 | 5=>5 | 3=>3 | n=>n,fun | n=>n⟩
theorem ZxX:Go.Proofs.Lays.n217 Tryd.prog ZxW:={ mixed:=by kernel_rfl,f217:=Tryd.func61.trans (congrArg some (by kernel_rfl)),f266:=Tryd.func77.trans (congrArg some (by kernel_rfl)),t3:=Tryd.underlying3,a3:=Tryd.isAgg3,z3:=Tryd.sizeOf3,v3:=Tryd.zeroValue3,t5:=Tryd.underlying5,a5:=Tryd.isAgg5,z5:=Tryd.sizeOf5,v5:=Tryd.zeroValue5,t9:=Tryd.underlying9,a9:=Tryd.isAgg9,z9:=Tryd.sizeOf9,v9:=Tryd.zeroValue9 }
section
open Go.Shelf
def Zsd:Ren:=⟨fun | 138=>75 | 195=>80 | 218=>82 | 143=>76 | 219=>43 | 217=>61 | 225=>62 | 224=>63 | 267=>64 | 266=>77 | 314=>78 | n=>n,fun | 9=>9 | 3=>3 | 4=>4 | 5=>5 | 0=>0 | 46=>54 | 146=>92 | 51=>72 | n=>n,fun | 1=>0 | n=>n⟩
theorem ZuQ:Go.Proofs.Lays.n138 Tryd.prog Zsd:={ mixed:=by kernel_rfl,f138:=Tryd.func75.trans (congrArg some (by kernel_rfl)),f143:=Tryd.func76.trans (congrArg some (by kernel_rfl)),f195:=Tryd.func80.trans (congrArg some (by kernel_rfl)),f217:=Tryd.func61.trans (congrArg some (by kernel_rfl)),f218:=Tryd.func82.trans (congrArg some (by kernel_rfl)),f219:=Tryd.func43.trans (congrArg some (by kernel_rfl)),f224:=Tryd.func63.trans (congrArg some (by kernel_rfl)),f225:=Tryd.func62.trans (congrArg some (by kernel_rfl)),f266:=Tryd.func77.trans (congrArg some (by kernel_rfl)),f267:=Tryd.func64.trans (congrArg some (by kernel_rfl)),f314:=Tryd.func78.trans (congrArg some (by kernel_rfl)),t0:=Tryd.underlying0,a0:=Tryd.isAgg0,z0:=Tryd.sizeOf0,v0:=Tryd.zeroValue0,t3:=Tryd.underlying3,a3:=Tryd.isAgg3,z3:=Tryd.sizeOf3,v3:=Tryd.zeroValue3,t4:=Tryd.underlying4,a4:=Tryd.isAgg4,z4:=Tryd.sizeOf4,v4:=Tryd.zeroValue4,t5:=Tryd.underlying5,a5:=Tryd.isAgg5,z5:=Tryd.sizeOf5,v5:=Tryd.zeroValue5,t9:=Tryd.underlying9,a9:=Tryd.isAgg9,z9:=Tryd.sizeOf9,v9:=Tryd.zeroValue9,t46:=Tryd.underlying54,a46:=Tryd.isAgg54,z46:=Tryd.sizeOf54,v46:=Tryd.zeroValue54,t51:=Tryd.underlying72,a51:=Tryd.isAgg72,z51:=Tryd.sizeOf72,v51:=Tryd.zeroValue72,t146:=Tryd.underlying92,a146:=Tryd.isAgg92,z146:=Tryd.sizeOf92,v146:=Tryd.zeroValue92,g1:=by kernel_rfl }
end
end
section
open Go.Shelf
def ZvZ:Ren:=⟨fun | 196=>44 | 259=>65 | n=>n,fun | 9=>9 | 4=>4 | 3=>3 | 5=>5 | 12=>12 | 119=>79 | 0=>0 | 46=>54 | 139=>82 | 138=>81 | 53=>74 | n=>n,fun | 3=>1 | 4=>2 | n=>n⟩
theorem Zku:Go.Proofs.Lays.n196 Tryd.prog ZvZ:={ mixed:=by kernel_rfl,f196:=Tryd.func44.trans (congrArg some (by kernel_rfl)),f259:=Tryd.func65.trans (congrArg some (by kernel_rfl)),t0:=Tryd.underlying0,a0:=Tryd.isAgg0,z0:=Tryd.sizeOf0,v0:=Tryd.zeroValue0,t3:=Tryd.underlying3,a3:=Tryd.isAgg3,z3:=Tryd.sizeOf3,v3:=Tryd.zeroValue3,t4:=Tryd.underlying4,a4:=Tryd.isAgg4,z4:=Tryd.sizeOf4,v4:=Tryd.zeroValue4,t5:=Tryd.underlying5,a5:=Tryd.isAgg5,z5:=Tryd.sizeOf5,v5:=Tryd.zeroValue5,t9:=Tryd.underlying9,a9:=Tryd.isAgg9,z9:=Tryd.sizeOf9,v9:=Tryd.zeroValue9,t12:=Tryd.underlying12,a12:=Tryd.isAgg12,z12:=Tryd.sizeOf12,v12:=Tryd.zeroValue12,t46:=Tryd.underlying54,a46:=Tryd.isAgg54,z46:=Tryd.sizeOf54,v46:=Tryd.zeroValue54,t53:=Tryd.underlying74,a53:=Tryd.isAgg74,z53:=Tryd.sizeOf74,v53:=Tryd.zeroValue74,t119:=Tryd.underlying79,a119:=Tryd.isAgg79,z119:=Tryd.sizeOf79,t138:=Tryd.underlying81,a138:=Tryd.isAgg81,z138:=Tryd.sizeOf81,v138:=Tryd.zeroValue81,t139:=Tryd.underlying82,a139:=Tryd.isAgg82,z139:=Tryd.sizeOf82,v139:=Tryd.zeroValue82,g3:=by kernel_rfl,g4:=by kernel_rfl }
end
section
set_option maxRecDepth 100000
theorem Zgq:Tryd.prog.follows .mixedOrders=true:=by kernel_rfl
theorem ZvH:ZjB Tryd.prog 22 1 16 (.str []) 18:=⟨_,_,_,_,_,_,_,_,_,_,_,rfl,rfl,rfl,by kernel_rfl,rfl,rfl,rfl,rfl,rfl,rfl,rfl,rfl,by kernel_rfl,by kernel_rfl,⟨_,_,_,_,rfl⟩,rfl,by decide⟩
theorem ZiQ {α:Type} {d v:α}:∀ {l:List (Nat×α)} {n:Nat},Zcy d l n=v->v=d\/(n,v) ∈ l
 | [],n,h=>Xo h.symm
 | (k,w)::r,n,h=>by
  simp only [Zcy] at h
  split at h
  ·rename_i e;subst e h;exact Xw (by simp)
  ·rcases ZiQ h with h | h
   ·exact Xo h
   ·exact Xw (by simp [h])
theorem ZkE:ZfI Tryd.prog PR:=by
 intro f g h args σ r σ' hg
 rcases ZiQ h with h | h
 ·cases h
 unfold ZiM at h
 simp only [XG,Prod.mk.injEq,Xa,List.not_mem_nil,or_false] at h
 rcases h with ⟨rfl,rfl⟩ | h
 ·exact ZoG Zgq ZvH hg
 rcases h with ⟨rfl,rfl⟩ | h
 ·exact Zvg hg
 rcases h with ⟨rfl,rfl⟩ | h
 ·exact Zk4 ⟨Tryd.f66,Tryd.func66,by kernel_rfl,by kernel_rfl⟩ (fun s c w=>Any.strings_IndexByte ZtQ s c w) hg
 rcases h with ⟨rfl,rfl⟩ | h
 ·exact Zk4 ⟨Tryd.f61,Tryd.func61,by kernel_rfl,by kernel_rfl⟩ (fun s c w=>Any.stringslite_IndexByte ZxX s c w) hg
 rcases h with ⟨rfl,rfl⟩ | h
 ·exact Zp1 ⟨Tryd.f75,Tryd.func75,by kernel_rfl,by kernel_rfl⟩ (fun s c w=>Any.strings_Count_one ZuQ s c w) hg
 rcases h with ⟨rfl,rfl⟩ | h
 ·exact ZpJ ⟨Tryd.f44,Tryd.func44,by kernel_rfl,by kernel_rfl⟩ (fun s w hs hT=>Any.utf8_ValidString Zku s w hs hT) hg
 exact absurd h.2 (by simp)
end
section
def Zcl:Zl:=(.seq (.region [oM 22 5,oM 4 22] none [4]) .ret)
def Zhg:Zl:=Zcl
def Zdw:=xw Zhg Zcl rfl
def ZcG:Zl:=(.seq (.region [oI 14 (.bin .lss (.t 13) (.t 12))] none [14,13,12,11,5,3,2]) (.seq (.cond (.t 14) .skip (.exit 0)) (.seq (.block 1 (.seq (.region [oI 15 (.iaddr 1 (.t 11) (.t 13)),oL 16 15,oM 7 16] none [13,12,11,7,5,3,2]) (.region [oL 17 2,oM 18 7,oL 19 3,oI 20 (.call 12 1 true [(.t 17),(.t 18),(.t 19)])] none [13,12,11,5,3,2]))) (.region [oI 21 (.bin .add (.t 13) (.c (.int .i64 1))),oM 13 21] none [13,12,11,5,3,2]))))
def Zhx:Zl:=ZcG
def ZdN:=xw Zhx ZcG rfl
def ZcZ:Zl:=(.seq (.region [oI 2 (.box (.t 0)),oI 3 (.box (.t 1)),oI 4 (.mov (.c (.lst true [])))] none [3,2]) (.seq (.region [oL 8 2,oI 9 (.mkfn 24 [(.t 2),(.t 3)]),oI 10 (.call 23 0 true [(.t 8),(.t 9)]),oM 5 10] none [5,3,2]) (.seq (.seq (.region [oM 11 5,oI 12 (.len (.t 11)),oI 13 (.mov (.c (.int .i64 0)))] none [13,12,11,5,3,2]) (.block 0 (.loop [13,12,11,5,3,2] Zhx))) Zhg)))
def Zh8:Zac:=⟨[(.tmp 4)],ZcZ⟩
theorem ZdJ:FC 13=some Zh8:=by kernel_rfl
theorem Zdr:Zh8.body=ZcZ:=rfl
theorem ZdO:Zh8.res=[(.tmp 4)]:=rfl
def ZdS:Zl:=(.seq (.region [oI 4 (.mov (.c (.bool false)))] none [2,1,0]) (.seq (.region [oL 5 1,oI 6 (.nilchk (.t 5)),oF 7 0 6,oL 8 7,oM 9 0,oI 10 (.look 2 (.lst true []) false (.t 8) (.t 9)),oL 11 2,oI 12 (.call 17 0 true [(.t 10),(.t 11)]),oM 4 12] (some [(0,6),(3,6),(5,6),(7,7)]) [4]) .ret))
def ZgJ:Zac:=⟨[(.tmp 4)],ZdS⟩
theorem ZpR:FC 24=some ZgJ:=by kernel_rfl
theorem ZeG:ZgJ.body=ZdS:=rfl
theorem Zfm:ZgJ.res=[(.tmp 4)]:=rfl
def Zey:Zl:=(.seq (.region [oM 10 1,oI 11 (.call 16 0 true [(.t 10)]),oM 9 11,oI 12 (.ext (.t 9) 0),oI 13 (.ext (.t 9) 1),oI 14 (.ext (.t 9) 2),oM 6 12,oM 7 13,oM 8 14] none [8,2,1,0]) (.seq (.region [oM 15 8,oM 16 15,⟨(some 17),(.mov (.t 0)),(some (16,true)),[]⟩,⟨(some 18),(.nilchk (.t 17)),(some (16,true)),[]⟩,⟨(some 19),(.faddr 0 (.t 18)),(some (16,true)),[]⟩,⟨(some 20),(.ld none (.t 19)),(some (16,true)),[]⟩,⟨(some 21),(.mov (.t 1)),(some (16,true)),[]⟩,⟨(some 22),(.look 2 (.lst true []) false (.t 20) (.t 21)),(some (16,true)),[]⟩,⟨(some 23),(.mov (.t 2)),(some (16,true)),[]⟩,⟨(some 24),(.call 17 0 true [(.t 22),(.t 23)]),(some (16,true)),[]⟩,⟨(some 25),(.un .not (.t 24)),(some (16,true)),[]⟩,oI 26 (.pick (.t 16) (.t 25) (.c (.bool false)))] none [26,2,1,0]) (.cond (.t 26) (.region [oM 27 0,oI 28 (.nilchk (.t 27)),oF 29 0 28,oL 30 29,oM 31 1,oM 32 0,oI 33 (.nilchk (.t 32)),oF 34 0 33,oL 35 34,oM 36 1,oI 37 (.look 2 (.lst true []) false (.t 35) (.t 36)),oM 38 2,oI 39 (.bslice false 1 1 (.str []) [(0,(.t 38))]),oI 40 (.app 1 16 (.str []) (.t 37) (.t 39)),oN (.mset 2 (.t 30) (.t 31) (.t 40))] (some [(3,8),(3,10),(3,12),(8,12),(10,12),(3,13)]) []) .skip)))
def Zh4:Zac:=⟨[],Zey⟩
theorem ZfF:FC 7=some Zh4:=by kernel_rfl
theorem Zgv:Zh4.body=Zey:=rfl
theorem Zgu:Zh4.res=[]:=rfl
def Zd9:Zl:=(.seq (.region [oI 6 (.mov (.c (.bool false)))] none [2,1,0]) (.seq (.region [oM 9 0,oI 10 (.nilchk (.t 9)),oF 11 0 10,oL 12 11,oM 13 1,oI 14 (.look 2 (.lst true []) false (.t 12) (.t 13)),oM 7 14] none [7,2,1,0]) (.seq (.region [oM 15 7,oM 16 2,oI 17 (.call 21 0 true [(.t 15),(.t 16)]),oM 8 17] none [8,7,1,0]) (.seq (.block 0 (.seq (.region [oM 30 8,oI 31 (.bin .lss (.t 30) (.c (.int .i64 0))),oM 29 31] none [29,8,7,1,0]) (.cond (.t 29) (.seq (.region [oI 6 (.mov (.c (.bool false)))] none [6]) .ret) (.seq (.region [oM 33 7,oI 34 (.len (.t 33)),oI 35 (.bin .eql (.t 34) (.c (.int .i64 1))),oM 32 35] none [32,8,7,1,0]) (.cond (.t 32) (.region [oM 36 0,oI 37 (.nilchk (.t 36)),oF 38 0 37,oL 39 38,oM 40 1,oN (.mdel 2 (.t 39) (.t 40))] none []) (.region [oM 18 0,oI 19 (.nilchk (.t 18)),oF 20 0 19,oL 21 20,oM 22 1,oM 23 7,oI 24 (.call 18 1 false [(.t 23)]),oM 25 8,oM 26 8,oI 27 (.bin .add (.t 26) (.c (.int .i64 1))),oI 28 (.call 22 0 false [(.t 24),(.t 25),(.t 27)]),oN (.mset 2 (.t 21) (.t 22) (.t 28))] (some [(3,6),(3,10),(10,10)]) [])))))) (.seq (.region [oI 6 (.mov (.c (.bool true)))] none [6]) .ret)))))
def Zg3:Zac:=⟨[(.tmp 6)],Zd9⟩
theorem ZfP:FC 12=some Zg3:=by kernel_rfl
theorem Zfu:Zg3.body=Zd9:=rfl
theorem ZfH:Zg3.res=[(.tmp 6)]:=rfl
def ZhN:Zl:=(.seq (.region [oI 4 (.mov (.c (.lst true [])))] none [1,0]) (.seq (.region [oM 5 0,oI 6 (.nilchk (.t 5)),oF 7 0 6,oL 8 7,oM 9 1,oI 10 (.look 2 (.lst true []) false (.t 8) (.t 9)),oI 11 (.call 18 1 false [(.t 10)]),oM 4 11] none [4]) .ret))
def ZgL:Zac:=⟨[(.tmp 4)],ZhN⟩
theorem Zre:FC 8=some ZgL:=by kernel_rfl
theorem Zv6:ZgL.body=ZhN:=rfl
theorem Zum:ZgL.res=[(.tmp 4)]:=rfl
end
section
set_option maxRecDepth 100000
def ZsA:Ann:={ nt:=26,lr:=fun i=>if i=0 then [1,0] else if i=1 then [5,1,0] else if i=7 then [5] else [4] }
def ZvU:Ann:={ nt:=26,keep:=[11,10],lr:=fun i=>if i=5 then [18,10,6,5,1] else [10,5,1] }
def c1S:Zl:=.seq (.region [oI 4 (.mov (.c (.lst true [])))] none [1,0]) (.seq (.region [oI 5 (.mov (.c (.lst true [])))] none [5,1,0]) .skip)
def Zev:List AOp:=[⟨some 7,.mov (.t 0),none,[]⟩,⟨some 8,.nilchk (.t 7),none,[0]⟩,⟨some 9,.faddr 0 (.t 8),none,[1]⟩,⟨some 10,.ld none (.t 9),none,[2]⟩]
def Zbv:List AOp:=[⟨some 15,.ext (.t 14) 0,none,[0]⟩,⟨some 6,.mov (.t 15),none,[1,0,1]⟩]
def c2S:Zl:=.seq (.region [oM 16 1,oM 17 6,oI 18 (.callv (.t 16) [(.t 17)])] none [18,10,6,5,1]) (.cond (.t 18) (.region [oM 19 5,oM 20 6,oI 21 (.bslice false 1 1 (.str []) [(0,(.t 20))]),oI 22 (.app 1 16 (.str []) (.t 19) (.t 21)),oM 5 22] none [10,5,1]) .skip)
def c3S:Zl:=.seq (.region [oM 23 5,oI 24 (.call 32 0 true [(.t 23)])] none [5]) (.seq (.region [oM 25 5,oM 4 25] none [4]) .ret)
theorem ZnE:ZiP Tryd.prog 23 ZsA ZvU 26 2 4 10 11 12 13 14 0 1 [10,5,1] Zev Zbv c1S c2S c3S [.tmp 4] :=
 ⟨_,_,_,_,_,_,_,_,_,_,_,_,_,_,_,_,_,_,_,Tryd.func23,by kernel_rfl,rfl,by kernel_rfl,rfl,rfl,rfl,rfl,rfl,rfl,rfl,rfl,Tryd.underlying36,rfl,rfl,rfl,rfl,rfl,rfl,rfl,rfl,rfl,by kernel_rfl,by kernel_rfl,by kernel_rfl,by kernel_rfl,by kernel_rfl,rfl,rfl,rfl,by decide⟩
noncomputable def Zer:List AVal->Za->Option (AVal×Za):=Zea FC PR BY [10,5,1] 10 14 1 Zev Zbv c1S c2S c3S [.tmp 4]
noncomputable def PRG:ZaK:=fun f=>if f=23 then some Zer else PR f
noncomputable abbrev EG:Zq:=EV FC PRG BY
theorem ZnW:OLe E EG:=by
 refine ZsL (fun f hf=>?_) (fun f g hg=>?_)
 ·unfold PRG
  rw [if_neg (by rintro rfl;revert hf;decide)]
  exact hf
 ·by_cases h1:f=23
  ·subst h1
   have : PR 23=some Zis:=by rfl
   rw [this] at hg;injection hg with hg;subst hg
   exact Xw fun _ _=>rfl
  refine Xo ?_
  unfold PRG
  rw [if_neg h1]
  exact hg
theorem Zdc {f:Nat} {fn:Zac} (hp:PRG f=none) (hf:FC f=some fn) (args:List AVal) (σ:Za):EG f args σ=Zax σ.length fn (evC FC PRG BY σ.length fn.body (enterA 0 args []) σ):=ZjY hp hf args σ
theorem Ziy (args:List AVal) (σ:Za):EG 23 args σ=Zer args σ:=Zpj (by rfl) args σ
theorem Zou {args:List AVal} {σ σ':Za} {r:AVal} (hg:Zer args σ=some (r,σ')) :
  (∃ fn,Tryd.prog.funcs[23]?=some fn/\fn.body.isSome=true/\(fn.name == "runtime.NumGoroutine")=false) /\
  ∀ base w0 I0 I β w (vs:Array Value),KLt base w0->Rel base w0 I0 I β σ w->VRs I β args vs.toList ->
   Calls Tryd.prog 23 vs w (fun e w'=>∃ u,Ends r e u/\ZaN σ.length base w0 I0 I β r σ' u w') :=
 ZlU Zgq (fun n=>by
  have h:ZB FC PR BY n=ZB CF PR BY n:=ZhP CF PR BY n
  rw [h]
  exact ZhO Zgq ZkE ann BY n) ZnE hg
theorem Zm1:ZfI Tryd.prog PRG:=by
 intro f g h args σ r σ' hg
 unfold PRG at h
 split at h
 ·rename_i e;subst e
  injection h with h;subst h
  exact Zou hg
 ·exact ZkE f g h args σ r σ' hg
theorem Zp2:ZY Tryd.prog EG:=by
 have h:EG=EV CF PRG BY:=Zo2 CF PRG BY
 rw [h]
 exact Zqx Zgq Zm1 ann BY
theorem Zav {σ:Za} {sq f own:Nat} {view:Bool} {args:List AVal} {r:AVal×Za×Cls} (h:Zi E BY σ sq f own view args=some r):Zi EG BY σ sq f own view args=some r:=Zhq ZnW h
end
section
open Go.RowKit
theorem Zt6 (id:Nat) (tm:Tms) (σ:Za):Za8 id (.normal,tm,σ)=(.normal,tm,σ):=rfl
theorem ZwA (id i:Nat) (tm:Tms) (σ:Za):Za8 id (.exit i,tm,σ)=if i=id then (.normal,tm,σ) else (.exit i,tm,σ):=by simp only [Za8]
theorem ZtP (id:Nat) (tm:Tms) (σ:Za):Za8 id (.ret,tm,σ)=(.ret,tm,σ):=rfl
theorem ZmD (id:Nat) (x:AVal) (tm:Tms) (σ:Za):Za8 id (.panic x,tm,σ)=(.panic x,tm,σ):=rfl
section
variable (O:Zq) (bf:Nat->Bool)
def Zb7 (c:Cls):Option (Tms×Za×List Cls×Option AVal)->Option (Tms×Za×List Cls×Option AVal)
 | none=>none
 | some (tm,σ,cs,p)=>some (tm,σ,c::cs,p)
def Zdq (c:List Cls):Option (Tms×Za×List Cls×Option AVal)->Option (Tms×Za×List Cls×Option AVal)
 | none=>none
 | some (tm,σ,cs,p)=>some (tm,σ,c++cs,p)
def kC (d:Option Nat) (os:List AOp) (s:Nat) (tm:Tms):Option (AVal×Za×Cls)->Option (Tms×Za×List Cls×Option AVal)
 | none=>none
 | some (v,σ,c)=>if Zae v then some (tput tm d v,σ,[c],some (Zaj v)) else Zb7 c (Zp O bf os s (tput tm d v) σ)
def ZcN (ops:List AOp) (L:Nat) (l:List (Nat×Nat)) (live:List Nat):Option (Tms×Za×List Cls×Option AVal)->Option (Zab×Tms×Za)
 | none=>none
 | some (_,σ,cs,some x)=>if Zbn ops L l cs then some (.panic x,[],σ) else none
 | some (tm,σ,cs,none)=>if ZbH ops L l cs then some (.normal,keepL live tm,σ) else none
variable {O bf}
theorem Zk0 (s:Nat) (tm:Tms) (σ:Za):Zp O bf [] s tm σ=some (tm,σ,[],none):=rfl
theorem Zw0 (c:Cls) (tm:Tms) (σ:Za) (cs:List Cls) (p:Option AVal):Zb7 c (some (tm,σ,cs,p))=some (tm,σ,c::cs,p):=rfl
theorem Zq2 (c:Cls):Zb7 c none=none:=rfl
theorem ZvF (c:Cls) (q:Prop) [Decidable q] (x y:Option (Tms×Za×List Cls×Option AVal)):Zb7 c (if q then x else y)=if q then Zb7 c x else Zb7 c y:=by split <;> rfl
theorem Zso (c:List Cls) (tm:Tms) (σ:Za) (cs:List Cls) (p:Option AVal):Zdq c (some (tm,σ,cs,p))=some (tm,σ,c++cs,p):=rfl
theorem ZsQ (c:List Cls):Zdq c none=none:=rfl
theorem Zt7 (c:List Cls) (q:Prop) [Decidable q] (x y:Option (Tms×Za×List Cls×Option AVal)):Zdq c (if q then x else y)=if q then Zdq c x else Zdq c y:=by split <;> rfl
theorem ZfB {o:AOp} {os:List AOp} {s:Nat} {tm tm1:Tms} {σ σ1:Za} {v:AVal} {c:Cls} (h:Zh O bf o s tm σ=some (v,tm1,σ1,c)) (hn:Zae v=false):Zp O bf (o::os) s tm σ=Zb7 c (Zp O bf os (s+nsite o.ins) tm1 σ1):=by
 rw [ZkM h hn]
 cases Zp O bf os (s+nsite o.ins) tm1 σ1 <;> rfl
theorem Ziv (d:Option Nat) (i:Ins) (af:List Nat) (os:List AOp) (s:Nat) (tm:Tms) (σ:Za):Zp O bf (⟨d,i,none,af⟩::os) s tm σ=kC O bf d os (s+nsite i) tm (exI O bf i s tm σ):=by
 cases h:exI O bf i s tm σ with
 | none=>exact ZeM (by rw [Zgd,h];rfl)
 | some q =>
  obtain ⟨v,σ1,c⟩:=q
  have hs:Zh O bf ⟨d,i,none,af⟩ s tm σ=some (v,tput tm d v,σ1,c):=by rw [Zgd,h];rfl
  cases hp:Zae v with
  | true =>
   obtain ⟨x,rfl⟩:=Zgi hp
   exact Zf4 hs
  | false =>
   rw [ZfB hs hp]
   simp only [kC,hp,Xg,if_false]
theorem Zhz (d:Option Nat) (os:List AOp) (s:Nat) (tm:Tms) (v:AVal) (σ:Za) (c:Cls) (h:Zae v=false):kC O bf d os s tm (some (v,σ,c))=Zb7 c (Zp O bf os s (tput tm d v) σ):=by
 simp only [kC,h,Xg,if_false]
theorem ZwI (d:Option Nat) (os:List AOp) (s:Nat) (tm:Tms) (x:AVal) (σ:Za) (c:Cls):kC O bf d os s tm (some (.pan x,σ,c))=some (tput tm d (.pan x),σ,[c],some x):=rfl
theorem ZpY (d:Option Nat) (os:List AOp) (s:Nat) (tm:Tms):kC O bf d os s tm none=none:=rfl
theorem Zqu (d:Option Nat) (os:List AOp) (s:Nat) (tm:Tms) (q:Prop) [Decidable q] (x y:Option (AVal×Za×Cls)):kC O bf d os s tm (if q then x else y)=if q then kC O bf d os s tm x else kC O bf d os s tm y:=by split <;> rfl
theorem Zcx (ops:List AOp) (l:List (Nat×Nat)) (live:List Nat) (tm:Tms) (σ:Za):ZaT O bf ops (some l) live tm σ=ZcN ops σ.length l live (Zp O bf ops σ.length tm (σ++XC (sitesOf ops) .free)):=by
 unfold ZaT
 cases Zp O bf ops σ.length tm (σ++XC (sitesOf ops) .free) with
 | none=>rfl
 | some q =>
  obtain ⟨tm',σ',cs,p⟩:=q
  cases p <;> rfl
theorem Zce (ops:List AOp) (L:Nat) (l:List (Nat×Nat)) (live:List Nat) (tm:Tms) (σ:Za) (cs:List Cls) (h:ZbH ops L l cs=true):ZcN ops L l live (some (tm,σ,cs,none))=some (.normal,keepL live tm,σ):=by
 simp only [ZcN,h,if_true]
theorem ZcP (ops:List AOp) (L:Nat) (l:List (Nat×Nat)) (live:List Nat) (tm:Tms) (σ:Za) (cs:List Cls) (x:AVal) (h:Zbn ops L l cs=true):ZcN ops L l live (some (tm,σ,cs,some x))=some (.panic x,[],σ):=by
 simp only [ZcN,h,if_true]
theorem Zrp (ops:List AOp) (L:Nat) (l:List (Nat×Nat)) (live:List Nat):ZcN ops L l live none=none:=rfl
theorem ZrH (ops:List AOp) (L:Nat) (l:List (Nat×Nat)) (live:List Nat) (q:Prop) [Decidable q] (x y:Option (Tms×Za×List Cls×Option AVal)):ZcN ops L l live (if q then x else y)=if q then ZcN ops L l live x else ZcN ops L l live y:=by split <;> rfl
theorem Zsr (ops:List AOp) (L:Nat) (l:List (Nat×Nat)) (cs:List Cls) (h:(cs.all fun c=>c.wr.isEmpty && !c.any)=true) (hs:(l.all fun p=>p.1 == p.2 || nsite (ops.getD p.1 default).ins == 0)=true):ZbH ops L l cs=true:=by
 have hd:∀ i,ZbA (cs.getD i {})=true:=by
  intro i
  rw [Xv] at h
  rw [Xd]
  cases hi:cs[i]? with
  | none=>rfl
  | some c=>exact h c (Xq hi)
 unfold ZbH
 rw [Xv] at hs ⊢
 intro p hp
 have:=hs p hp
 rw [Bool.or_eq_true] at this ⊢
 rcases this with this | this
 ·exact Xo this
 ·refine Xw ?_
  unfold Zbg
  simp only [hd,this,Bool.and_true,XaO,Xaf,Bool.or_true]
theorem ZyF (ops:List AOp) (L:Nat) (l:List (Nat×Nat)) (live:List Nat) (tm:Tms) (σ:Za) (cs:List Cls) (h:(cs.all fun c=>c.wr.isEmpty && !c.any)=true) (hs:(l.all fun p=>p.1 == p.2 || nsite (ops.getD p.1 default).ins == 0)=true):ZcN ops L l live (some (tm,σ,cs,none))=some (.normal,keepL live tm,σ) :=
 Zce _ _ _ _ _ _ _ (Zsr _ _ _ _ h hs)
variable (O bf) in
def gKC (os:List AOp) (s:Nat):Option (Tms×Za×List Cls×Option AVal)->Option (Tms×Za×List Cls×Option AVal)
 | none=>none
 | some (tm,σ,cs,some x)=>some (tm,σ,cs,some x)
 | some (tm,σ,cs,none)=>Zdq cs (Zp O bf os s tm σ)
theorem ZsH (os:List AOp) (s:Nat) (tm:Tms) (σ:Za) (cs:List Cls):gKC O bf os s (some (tm,σ,cs,none))=Zdq cs (Zp O bf os s tm σ):=rfl
theorem Zuk (os:List AOp) (s:Nat) (q:Prop) [Decidable q] (x y:Option (Tms×Za×List Cls×Option AVal)):gKC O bf os s (if q then x else y)=if q then gKC O bf os s x else gKC O bf os s y:=by split <;> rfl
theorem Ztq (os:List AOp) (s:Nat) (c:Cls) (r:Option (Tms×Za×List Cls×Option AVal)):gKC O bf os s (Zb7 c r)=Zb7 c (gKC O bf os s r):=by
 cases r with
 | none=>rfl
 | some q =>
  obtain ⟨tm,σ,cs,p⟩:=q
  cases p with
  | some x=>rfl
  | none =>
   simp only [Zb7,gKC]
   cases Zp O bf os s tm σ <;> rfl
theorem ZjL:∀ (a b:List AOp) (s:Nat) (tm:Tms) (σ:Za),Zp O bf (a++b) s tm σ=gKC O bf b (s+sitesOf a) (Zp O bf a s tm σ)
 | [],b,s,tm,σ=>by
  simp only [Wc,Zk0,gKC,sitesOf,X6,List.sum_nil,X4]
  cases Zp O bf b s tm σ <;> rfl
 | o::a,b,s,tm,σ=>by
  have ih:=ZjL a b
  simp only [Wk]
  have hs:s+nsite o.ins+sitesOf a=s+sitesOf (o::a):=by simp [sitesOf,Ws]
  cases hst:Zh O bf o s tm σ with
  | none=>rw [ZeM hst,ZeM hst];rfl
  | some q =>
   obtain ⟨v,tm1,σ1,c⟩:=q
   cases hp:Zae v with
   | true =>
    obtain ⟨x,rfl⟩:=Zgi hp
    rw [Zf4 hst,Zf4 hst];rfl
   | false=>rw [ZfB hst hp,ZfB hst hp,ih,hs,Ztq]
variable (O bf) in
def Zcq (j:Nat) (w:Bool) (g:List AOp) (s:Nat) (tm:Tms) (σ:Za):Option (Tms×Za×List Cls×Option AVal):=match Zay (some (j,w)) tm with
 | none=>none
 | some false=>some (ZC g tm,σ,g.map fun _=>{},none)
 | some true=>Zp O bf (g.map unG) s tm σ
theorem ZiU (j:Nat) (w:Bool):∀ (g:List AOp),(∀ o ∈ g,o.guard=some (j,w)/\o.dst≠some j)->∀ (s:Nat) (tm:Tms) (σ:Za),g≠[]->Zp O bf g s tm σ=Zcq O bf j w g s tm σ
 | [],_,_,_,_,h=>absurd rfl h
 | o::g,hall,s,tm,σ,_=>by
  obtain ⟨hg,hd⟩:=hall o (by simp)
  have ih:∀ (tm:Tms) (σ:Za) (s:Nat),Zay (some (j,w)) tm≠none->Zp O bf g s tm σ=Zcq O bf j w g s tm σ:=by
   intro tm σ s hw
   by_cases he:g=[]
   ·subst he
    unfold Zcq
    cases hx:Zay (some (j,w)) tm with
    | none=>exact absurd hx hw
    | some b=>cases b <;> rfl
   ·exact ZiU j w g (fun o ho=>hall o (by simp [ho])) s tm σ he
  cases hx:Zay (some (j,w)) tm with
  | none =>
   rw [ZeM (by simp only [Zh,hg,hx])]
   simp only [Zcq,hx]
  | some b =>
   cases b with
   | false =>
    have h1:Zp O bf (o::g) s tm σ=Zb7 {} (Zp O bf g (s+nsite o.ins) (tput tm o.dst (.tup [])) σ) :=
     ZfB (v:=.tup []) (c:={}) (by simp only [Zh,hg,hx]) rfl
    rw [h1,ih _ _ _ (by rw [Zde hd,hx];simp)]
    unfold Zcq
    rw [Zde hd,hx]
    rfl
   | true =>
    have key:∀ r:Option (AVal×Za×Cls),(∀ v σ' c,r=some (v,σ',c)->Zae v=false->Zp O bf g (s+nsite o.ins) (tput tm o.dst v) σ'=Zp O bf (g.map unG) (s+nsite o.ins) (tput tm o.dst v) σ')->kC O bf o.dst g (s+nsite o.ins) tm r=kC O bf o.dst (g.map unG) (s+nsite o.ins) tm r:=by
     intro r hr
     cases r with
     | none=>rfl
     | some q =>
      obtain ⟨v,σ',c⟩:=q
      cases hp:Zae v with
      | true=>simp only [kC,hp,if_true]
      | false=>rw [Zhz _ _ _ _ _ _ _ hp,Zhz _ _ _ _ _ _ _ hp,hr v σ' c rfl hp]
    have h1:Zp O bf (o::g) s tm σ=kC O bf o.dst g (s+nsite o.ins) tm (exI O bf o.ins s tm σ):=by
     have h0:Zp O bf (o::g) s tm σ=Zp O bf (⟨o.dst,o.ins,none,o.after⟩::g) s tm σ:=by
      have hst:Zh O bf o s tm σ=Zh O bf ⟨o.dst,o.ins,none,o.after⟩ s tm σ:=by
       unfold Zh
       simp only [hg,hx]
       rfl
      simp only [Zp,hst]
     rw [h0,Ziv]
    rw [h1]
    unfold Zcq
    rw [hx]
    simp only [XB]
    rw [show unG o=⟨o.dst,o.ins,none,o.after⟩ from rfl,Ziv]
    refine key _ fun v σ' c _ _=>?_
    rw [ih _ _ _ (by rw [Zde hd,hx];simp)]
    unfold Zcq
    rw [Zde hd,hx]
theorem Zwx (d:Option Nat) (i:Ins) (j:Nat) (w:Bool) (af:List Nat) (os:List AOp) (s:Nat) (tm:Tms) (σ:Za) (hd:decide (d=some j)=false) :
  Zp O bf (⟨d,i,some (j,w),af⟩::os) s tm σ=gKC O bf (Zv j w os).2 (s+sitesOf (⟨d,i,some (j,w),af⟩::(Zv j w os).1)) (Zcq O bf j w (⟨d,i,some (j,w),af⟩::(Zv j w os).1) s tm σ):=by
 have h:=Ziz j w os
 have hall:∀ o ∈ (⟨d,i,some (j,w),af⟩::(Zv j w os).1:List AOp),o.guard=some (j,w)/\o.dst≠some j:=by
  intro o ho
  rcases XG.1 ho with rfl | ho
  ·exact ⟨rfl,by simpa using hd⟩
  ·exact ZhB j w os o ho
 rw [<-ZiU j w _ hall s tm σ (by simp),<-ZjL,Wk,h]
variable (O bf) in
def gWC (w:Bool) (g:List AOp) (s:Nat) (tm:Tms) (σ:Za):AVal->Option (Tms×Za×List Cls×Option AVal)
 | .bool b=>if b=w then Zp O bf (g.map unG) s tm σ else some (ZC g tm,σ,g.map fun _=>{},none)
 | .tup []=>some (ZC g tm,σ,g.map fun _=>{},none)
 | _=>none
theorem Zq1 (j:Nat) (w:Bool) (g:List AOp) (s:Nat) (tm:Tms) (σ:Za):Zcq O bf j w g s tm σ=gWC O bf w g s tm σ (tget tm j):=by
 unfold Zcq Zay
 simp only
 generalize tget tm j=v
 cases v
 case bool b=>cases b <;> cases w <;> rfl
 case tup vs=>cases vs <;> rfl
 all_goals rfl
theorem Zro (w:Bool) (g:List AOp) (s:Nat) (tm:Tms) (σ:Za) (b:Bool):gWC O bf w g s tm σ (.bool b)=if b=w then Zp O bf (g.map unG) s tm σ else some (ZC g tm,σ,g.map fun _=>{},none):=rfl
theorem ZxH (w:Bool) (g:List AOp) (s:Nat) (tm:Tms) (σ:Za):gWC O bf w g s tm σ (.tup [])=some (ZC g tm,σ,g.map fun _=>{},none):=rfl
theorem Zpb (q:Prop) [Decidable q] (t1 t2:Tms) (σ1 σ2:Za) (cs:List Cls):(if q then some (t1,σ1,cs,(none:Option AVal)) else some (t2,σ2,cs,none))=some ((if q then t1 else t2),(if q then σ1 else σ2),cs,none):=by split <;> rfl
end
section
theorem Zqf {r:AVal} {cs:List AVal} {σ:Za} (hr:Zai r=true) (hc:Zz cs=true):gcA 1 [r] (.var cs::σ)=([r],[.var cs]):=by
 have e1:=(Zfb (Zg (.var cs::σ) 1 [0]) r hr)
 have e2:=(Zfl (Zg (.var cs::σ) 1 [0]) cs hc)
 have h1:Zx 1 [r] (.var cs::σ)=[0]:=by
  have : ZM [r]=[]:=by simp only [ZM,e1.2,XK]
  simp only [Zx,this,Wc,List.range_one,XR,Xap,XK,XN,ZF,e2.2]
  rfl
 simp only [gcA,h1,ZG,e1.1,Zm,XN,Zt,Zb,Zo,e2.1]
theorem ZxP {r:AVal} {cs:List AVal} {σ:Za} (hr:Zai r=true) (hc:Zz cs=true):Zas 1 (.var cs::σ) r=some (r,[.var cs]):=by
 simp only [Zas,Zqf hr hc]
end
end
section
theorem Zs0 {O:Zq} {bf:Nat->Bool} {σ:Za} {sq f own:Nat} {view:Bool} {args vs vs':List AVal} {ids:List Nat} {h0 h:Za} {r0 r:AVal} (hb:bf f=false) (hsh:showAs σ args=some (vs,[])) (hre:Zn σ 1000 (ZM vs) []=ids) (hne:ids.isEmpty=false)
  (hall:(ids.all fun t=>okB (σ.getD t .free))=true) (hvs:ZG (Zg σ 0 ids) vs=vs') (hh:Zm σ 0 ids (Zg σ 0 ids) ids 0=h0) {hh0:Za} (hO:O f vs' h0=some (r0,hh0)) (hv:Zat view ids.length (some (r0,hh0))=some (r,h))
  (hl1:h.length<=ids.length+own) (hl2:ids.length<=h.length) (hk:Zbq σ ids h 0=true) (hff:Zb0 σ sq own=true) {r':AVal} (hr:Ze (ZaC σ ids sq) r=r') {σ':Za} (hlay:ZaR σ ids sq h 0 σ=σ') {u:List (Nat×List AVal)} (hu:Zby σ' ids=u) :
  Zi O bf σ sq f own view args=some (r',σ',{ any:=true,upd:=u }):=by
 subst hr hlay hu
 unfold Zi Zbx
 rw [hb]
 simp only [Xg,if_false,hsh,show Zj σ []=σ from rfl,hre]
 unfold Za5
 rw [if_pos hall,hvs,hh,hO,hv]
 simp only [Zal,hne,XaA,Xg,if_false,hl1,hl2,decide_true,hk,hff,WI,if_true]
end
section
section
variable (c:Prop) [Decidable c]
theorem ZtR (t1 t2:Tms) (σ1 σ2:Za):(if c then some (Zab.normal,t1,σ1) else some (Zab.normal,t2,σ2))=some (Zab.normal,(if c then t1 else t2),(if c then σ1 else σ2)):=by split <;> rfl
theorem Zq5 (t1 t2:Tms) (σ1 σ2:Za):(if c then some (Zab.ret,t1,σ1) else some (Zab.ret,t2,σ2))=some (Zab.ret,(if c then t1 else t2),(if c then σ1 else σ2)):=by split <;> rfl
theorem Zqv (t1 t2:Tms) (σ1 σ2:Za):(if c then some (t1,σ1,(none:Option AVal)) else some (t2,σ2,none))=some ((if c then t1 else t2),(if c then σ1 else σ2),none):=by split <;> rfl
theorem ZvA (n:Nat) (a b:AVal):(if c then (n,a) else (n,b))=(n,if c then a else b):=by split <;> rfl
theorem Zq6 (a b:AVal) (σ1 σ2:Za):(if c then some (a,σ1) else some (b,σ2))=some ((if c then a else b),(if c then σ1 else σ2)):=by split <;> rfl
theorem Zvo (a b:AVal) (σ1 σ2:Za) (x y:Cls):(if c then some (a,σ1,x) else some (b,σ2,y))=some ((if c then a else b),(if c then σ1 else σ2),if c then x else y):=by split <;> rfl
end
theorem Z4 {α:Type} (p:Bool) (x y z:α):(if p=true then x else (if p=false then y else z))=if p=true then x else y:=by cases p <;> rfl
theorem ZS {α:Type} (p:Bool) (x y z:α):(if p=false then x else (if p=true then y else z))=if p=false then x else y:=by cases p <;> rfl
theorem ZP {α:Type} (p:Bool) (x y z:α):(if p=true then (if p=false then x else y) else z)=if p=true then y else z:=by cases p <;> rfl
theorem ZX {α:Type} (p:Bool) (x y z:α):(if p=false then (if p=true then x else y) else z)=if p=false then y else z:=by cases p <;> rfl
theorem Zcn (ops:List AOp) (b:Nat) (cs:List Cls):ZbH ops b [] cs=true:=rfl
theorem Zcw (ops:List AOp) (b:Nat) (p:Nat×Nat) (l:List (Nat×Nat)) (cs:List Cls):ZbH ops b (p::l) cs=((p.1 == p.2 || Zbg (ops.getD p.1 default) (ops.getD p.2 default) (cs.getD p.1 {}) (cs.getD p.2 {}) (b+sitesOf (ops.take p.1))) && ZbH ops b l cs):=by
 simp only [ZbH,XH]
theorem Zcs (oj oi:AOp) (cj ci:Cls) (sj:Nat):Zbg oj oi cj ci sj=(Za0 oj cj || Za0 oi ci || (ZbA cj && ZbA ci && (nsite oj.ins == 0 || !ci.rd.contains sj)) || ((ZaD oj.ins || (ZaM oj.ins && !cj.any)) && (ZbA ci && ci.rd.isEmpty)) || (ZaJ oj.ins && ZaD oi.ins && ci.any && ZaY cj ci) || (ZaJ oj.ins && (ZaM oi.ins || (ZbJ oi.ins && ZbY cj ci)) && ZaY cj ci) || (ZbI oj.ins && Zbz oi.ins) || (ZaD oj.ins && ZaJ oi.ins && cj.any && Zb4 cj ci sj) || (ZaM oj.ins && !cj.any && ZbA ci && nsite oi.ins == 0 && ci.rd.all fun t=>!cj.wr.contains t && t != sj)):=rfl
theorem Zck (o:AOp) (rd wr:List Nat) (any:Bool) (got:List (Nat×Option Nat×Nat×AVal)) (upd:List (Nat×List AVal)):Za0 o ⟨rd,wr,any,got,upd⟩=(nsite o.ins == 0 && rd.isEmpty && wr.isEmpty && !any):=rfl
theorem ZcA (rd wr:List Nat) (any:Bool) (got:List (Nat×Option Nat×Nat×AVal)) (upd:List (Nat×List AVal)):ZbA ⟨rd,wr,any,got,upd⟩=(wr.isEmpty && !any):=rfl
theorem ZbN {α:Type} {l:List α} {i:Nat} {x:α} {r:List α} (h:l.drop i=x::r):l[i]?=some x/\l.drop (i+1)=r/\i < l.length:=by
 have h1:i < l.length:=by
  rcases Nat.lt_or_ge i l.length with h1 | h1
  ·exact h1
  ·rw [X7 h1] at h;cases h
 rw [Wy h1] at h
 injection h with h2 h3
 exact ⟨by rw [Xz h1,h2],h3,h1⟩
theorem Zhh {α:Type} {l:List α} {i:Nat} (h:l.drop i=[]):¬(i:Int) < l.length:=by
 have:=W9.1 h;omega
theorem iad {α:Type} {l:List α} {i:Nat} {x:α} (h:l[i]?=some x) (f:α->AVal) {k:Nat} (hk:(f x).cells.length=k) (σ:Za) (n:Bool) (kk:IntKind):ZaV σ k (.lst n (l.map f)) (.int kk (i:Int))=some (.iptr (f x).cells 0,σ,{}):=by
 have h0:(0:Int)<=(i:Int):=Int.natCast_nonneg i
 unfold ZaV
 simp only [h0,if_true,XaB,X3,h,Option.map_some,hk]
theorem Zdi {n:Int} (h0:-9223372036854775808<=n) (h:n<=9223372036854775807):IntKind.i64.wrap n=n:=by
 rw [IntKind.wrap_i64];omega
theorem Zmm {α β:Type} {a:List α} {b:List β} (h:a.length=b.length):((a.length:Int) != (b.length:Int))=false:=by simp [h]
theorem ZlX {α β:Type} {a:List α} {b:List β} (h:a.length≠b.length):((a.length:Int) != (b.length:Int))=true:=by
 simp only [bne_iff_ne,ne_eq];omega
theorem Zpv {α:Type} [BEq α] [LawfulBEq α] {a b:List α} (h:a.length≠b.length):(a == b)=false:=by
 simp only [beq_eq_false_iff_ne,ne_eq];rintro rfl;exact h rfl
theorem Zdp {i n:Nat} (h:(i:Int) < n) (hn:n<=9223372036854775807):IntKind.i64.wrap ((i:Int)+1)=((i+1:Nat):Int):=by
 rw [Zdi (by omega) (by omega)];rfl
abbrev Ze8:=List UInt8
def ZL (b:Ze8):AVal:=.lst false (b.map Zbc)
structure Zh0 where
 id:Int
 num:Int
 text:Ze8
 pair:Ze8
 data:Ze8
 deriving DecidableEq
def ZK (p:Zh0):List AVal:=[.int .i64 p.id,.int .i64 p.num,.str p.text,.str p.pair,ZL p.data]
def ZO (p:Zh0):AVal:=.agg (ZK p)
def ZW (l:List Zh0):AVal:=.lst false (l.map ZO)
def Z2 (l:List Int):AVal:=.lst false (l.map (.int .i64 ·))
theorem ZN (l:Ze8):Zdk (l.map Zbc)=some l:=by
 induction l with
 | nil=>rfl
 | cons b l ih =>
  simp only [XB,Zdk,ih,Zbc,ZgX,XaB,UInt8.ofNat_toNat]
end
section
theorem Zu5 {O:Zq} {bf:Nat->Bool} {σ:Za} {f:Nat} {args vs:List AVal} {ts:List Nat} {r r':AVal} (hb:bf f=false) (hsh:showAs σ args=some (vs,ts)) (hp:vs.all Zak=true) (hm:vs.map Zah=vs) (h:O f vs []=some (r,[])) (hv:Zcb 0 (some (r,[]))=some (r',[])) (sq own:Nat) :
  Zi O bf σ sq f own true args=if ZaF r' then some (r',σ,{ rd:=ts }) else if Zb9 σ ts r' then some (r',σ,{ rd:=ts }) else some (Ze (ZaC [] [] sq) r',Zj σ ts,{ rd:=ts,wr:=ts }):=by
 have hr:=Zg6 hp
 have hn:=fun ρ=>ZgR (ρ:=ρ) hp
 rw [hm] at hr
 simp only [hm] at hn
 unfold Zi Zbx
 rw [hb]
 simp only [Xg,if_false,hsh]
 rw [hr]
 have h2:∀ σ,Zn σ 1000 [] []=[]:=fun _=>rfl
 rw [h2]
 unfold Za5
 simp only [XW,if_true,hn,Zm,XX,h]
 have : Zat true 0 (some (r,[]))=some (r',[]):=by unfold Zat;rw [if_pos rfl,hv]
 rw [this]
 simp only [Zal,WG,WI,if_true]
theorem Zd8 {O:Zq} {bf:Nat->Bool} {σ:Za} {f:Nat} {args vs:List AVal} {ts:List Nat} {r r':AVal} (hb:bf f=false) (hsh:showAs σ args=some (vs,ts)) (hp:vs.all Zak=true) (hm:vs.map Zah=vs) (h:O f vs []=some (r,[])) (hv:Zcb 0 (some (r,[]))=some (r',[])) (hf:ZaF r'=true) (sq own:Nat) :
  Zi O bf σ sq f own true args=some (r',σ,{ rd:=ts }):=by
 rw [Zu5 hb hsh hp hm h hv,if_pos hf]
theorem ZcX {O:Zq} {bf:Nat->Bool} {f:Nat} {args args':List AVal} {r r':AVal} (h:O f args' []=some (r,[])) (hb:bf f=false) (hp:args.all Zak=true) (hn:args.map Zah=args') (hv:Zcb 0 (some (r,[]))=some (r',[])) (hr:∀ sq,Ze (ZaC [] [] sq) r'=r') (σ:Za) (sq own:Nat):Zi O bf σ sq f own true args=some (r',σ,{}):=by
 rw [ZoQ hb hp,hn,h]
 have : Zat true 0 (some (r,[]))=some (r',[]):=by
  unfold Zat
  rw [if_pos rfl];exact hv
 rw [this,ZvP _ _ _ _ (hr sq)]
end
section
end
section
def ZuK:=(aI (aI (aI (aI (aI (aI @Zyz @Zue) (aI @Zl9 @ZoU)) (aI (aI @ZtW @ZxO) (aI @ZnV @ZvY))) (aI (aI (aI @ZkW @Zii) (aI @ZqY @Zh6)) (aI (aI @Zxl @ZtS) (aI @ZrY @ZlS)))) (aI (aI (aI (aI @Zn6 @ZrV) (aI @ZwP @Zpd)) (aI (aI @Zuv @Zp9) (aI @ZvS @Zxr))) (aI (aI (aI @ZwN @Zvf) (aI @Zxj @Zsb)) (aI (aI @Zpn @ZN) (aI @ZtR @Zq5))))) (aI (aI (aI (aI (aI @Zqv @ZvA) (aI @Zq6 @Zvo)) (aI (aI @Zux @Zyx) (aI @Zsh @Zmk))) (aI (aI (aI @ZtX @Zvp) (aI @Zqc @Zcx)) (aI (aI @Zk0 @Ziv) (aI @Zwx @Zw0)))) (aI (aI (aI (aI @Zq2 @ZvF) (aI @Zso @ZsQ)) (aI (aI @Zt7 @Zhz) (aI @ZwI @ZpY))) (aI (aI (aI @Zqu @ZyF) (aI @Zrp @ZrH)) (aI (aI @ZsH @Zuk) (aI @Zq1 @Zro))))))
def ZlV:=(aI (aI (aI (aI (aI (aI @ZxH @Zpb) (aI @Zt6 @ZwA)) (aI (aI @ZtP @ZmD) (aI @Zcn @Zcw))) (aI (aI (aI @Zcs @Zck) (aI @ZcA @Zce)) (aI (aI @ZqX @ZqP) (aI @Zys @ZvR)))) (aI (aI (aI (aI @Zo0 @Zn1) (aI @ZmS @ZoH)) (aI (aI @Zr6 @Zmi) (aI @ZmZ @Zsz))) (aI (aI (aI @Zv7 @Zo4) (aI @ZuR @Zxz)) (aI (aI @ZsK @ZrS) (aI @Zug @ZnP))))) (aI (aI (aI (aI (aI @Zp8 @Zu3) (aI @Zpm @Zub)) (aI (aI @ZxK @Zs2) (aI @Zrs @Zoe))) (aI (aI (aI @ZwQ @Zvv) (aI @ZmF @ZvJ)) (aI (aI @Zun @ZtC) (aI @Zrv @Znk)))) (aI (aI (aI (aI @Zxh @ZpI) (aI @Zyt @Zop)) (aI (aI @Ztp @Zu8) (aI @Znm @ZqI))) (aI (aI (aI @ZnD @ZrD) (aI @ZqC @ZrQ)) (aI (aI @Zu7 @ZmX) (aI @Zpq @Zx0))))))
def ZR:=(aI (aI (aI (aI (aI (aI @ZlG @ZuY) (aI @ZqM @Zoy)) (aI (aI @ZlO @Zmv) (aI @ZnY @Zu2))) (aI (aI (aI @Zxm @Zxa) (aI @ZwV @ZsD)) (aI (aI @ZmL @ZnT) (aI @ZpE @Zv8)))) (aI (aI (aI (aI @ZxC @ZoP) (aI @ZpN @ZxS)) (aI (aI @ZmW @Zvb) (aI @ZwC @ZyC))) (aI (aI (aI @Zl8 @Zqb) (aI @Zob @Ztl)) (aI (aI @ZpS @ZtO) (aI @Zv9 @Zxi))))) (aI (aI (aI (aI (aI @Zq4 @Zn0) (aI @ZsW @ZwB)) (aI (aI @ZtL @Zxo) (aI @Zx5 @ZwT))) (aI (aI (aI @ZlH @Zny) (aI @Znz @Zua)) (aI (aI @Zsv @Zwg) (aI @ZtE @ZyE)))) (aI (aI (aI (aI @ZxM @Zt1) (aI @Zl1 @Zvk)) (aI (aI @Zmw @ZtB) (aI @Zut @Zss))) (aI (aI (aI @ZqK @Zr8) (aI @ZlK @Zw1)) (aI (aI @Znj @Zyk) (aI @Zr0 @ZpM))))))
def Z6:=(aI (aI (aI (aI (aI (aI @Zul @Zuc) (aI @Zox @ZnU)) (aI (aI @Zok @Zr2) (aI @ZxQ @Zvi))) (aI (aI (aI @ZuT @ZqL) (aI @Zpi @Zyo)) (aI (aI @Zwt @Zwd) (aI @Zyb @Zvt)))) (aI (aI (aI (aI @Zq3 @ZrF) (aI @Znc @Zt4)) (aI (aI @ZtF @ZsI) (aI @Zqq @Zu9))) (aI (aI (aI @Zq7 @ZsN) (aI @Znv @ZpP)) (aI (aI @ZpF @Zrl) (aI @Zqn @Zqj))))) (aI (aI (aI (aI (aI @Zs5 @ZpW) (aI @Ztt @Zph)) (aI (aI @Zrq @Zq0) (aI @Zsu @ZoT))) (aI (aI (aI @Zqr @Zts) (aI @Zms @Zsc)) (aI (aI @ZuU @Zmo) (aI @Zns @Zof)))) (aI (aI (aI (aI @ZvL @Zpo) (aI @Zqo @ZtY)) (aI (aI @ZlW @Zn7) (aI @ZtM @ZmA))) (aI (aI (aI @Zwi @Zqd) (aI @ZuL @ZpZ)) (aI (aI @Zn5 @Zyi) (aI @Zsx @ZxD))))))
def Z1:=(aI (aI (aI (aI (aI (aI @ZxB @Zp3) (aI @Zsj @Zw6)) (aI (aI @ZqQ @ZmB) (aI @Zty @Zwj))) (aI (aI (aI @ZqB @ZvE) (aI @ZlQ @ZxE)) (aI (aI @ZwR @ZmU) (aI @Zno @ZoZ)))) (aI (aI (aI (aI @Zws @Zm7) (aI @ZoJ @Zmd)) (aI (aI @Zrz @ZqH) (aI @ZlZ @Zv2))) (aI (aI (aI @ZlP @Zxw) (aI @Zqa @Zu1)) (aI (aI @Zoz @Zsk) (aI @Zs7 @ZrB))))) (aI (aI (aI (aI (aI @ZqE @ZlE) (aI @ZlN @Zm6)) (aI (aI @Zsl @Zrw) (aI @ZpQ @ZoO))) (aI (aI (aI @Zpp @Zuw) (aI @Zyc @Zp7)) (aI (aI @Zwe @Zrc) (aI @ZnI @ZnM)))) (aI (aI (aI (aI @ZsC @ZpB) (aI @ZvD @Zyu)) (aI (aI @ZoR @ZmJ) (aI @Ztu @ZvC))) (aI (aI (aI @Zon @Zpz) (aI @Zx3 @ZuC)) (aI (aI @Zvd @ZlR) (aI @Zmu @ZsM))))))
def Zp0:=(aI (aI (aI (aI (aI (aI @ZtI @Znu) (aI @ZpX @ZoN)) (aI (aI @Zl2 @ZxI) (aI @Zpf @ZpD))) (aI (aI (aI @ZnF @Zm3) (aI @Zoc @ZsT)) (aI (aI @Zxq @Ztz) (aI @ZmY @ZvW)))) (aI (aI (aI (aI @Zot @ZtK) (aI @Zqy @Zmp)) (aI (aI @Zt8 @Zpl) (aI @ZrC @Zyg))) (aI (aI (aI @ZnG @ZwL) (aI @Zur @Zoj)) (aI (aI @Zo5 @Zsq) (aI @ZmO @Zl5))))) (aI (aI (aI (aI (aI @Zom @Zt2) (aI @Zmt @ZwY)) (aI (aI @Zv3 @Zvz) (aI @ZxZ @Zl0))) (aI (aI (aI @Zn3 @ZqG) (aI @Zxn @Zoa)) (aI (aI @Znt @Zo7) (aI @Zpa @ZoL)))) (aI (aI (aI (aI @Zu0 @ZoM) (aI @Zta @Zvc)) (aI (aI @Zpu @Zxk) (aI @Zrf @ZtD))) (aI (aI (aI @ZxT @Zsg) (aI @Zqg @ZuE)) (aI (aI @Zni @Zyr) (aI @Zwk @ZmR))))))
def ZU:=(aI (aI (aI (aI (aI (aI @Zw2 @ZqW) (aI @Zpw @Zyh)) (aI (aI @ZqV @Zod) (aI @Zr7 @ZmT))) (aI (aI (aI @Zov @ZmN) (aI @Znw @Zng)) (aI (aI @ZpC @ZqF) (aI @ZuI @Zp6)))) (aI (aI (aI (aI @Zow @Zsm) (aI @Zn2 @ZlY)) (aI (aI @ZnK @Znx) (aI @ZpV @ZrT))) (aI (aI (aI @ZlT @Zsp) (aI @ZwK @Zuu)) (aI (aI @ZpO @Zmc) (aI @Ztm @Zm4))))) (aI (aI (aI (aI (aI @Zto @Zqe) (aI @Zu6 @Zx9)) (aI (aI @ZnL @ZmC) (aI @Zqs @Zr1))) (aI (aI (aI @Zup @Zru) (aI @Zsn @Zr9)) (aI (aI @ZtH @ZuH) (aI @ZrN @Zr5)))) (aI (aI (aI (aI @ZmK @Zw9) (aI @ZnO @ZrI)) (aI (aI @Zo8 @ZmG) (aI @Znq @Zrb))) (aI (aI (aI @Zm2 @Zxy) (aI @Ztr @ZsJ)) (aI (aI @Zxf @Zne) (aI @Zsi @Zwo))))))
def ZT:=(aI (aI (aI (aI (aI @Zoi (aI @Zuh @ZpL)) (aI (aI @Zmh @ZxR) (aI @ZtG @ZqJ))) (aI (aI @Zqi (aI @ZwJ @ZrA)) (aI (aI @Zwf @Zx7) (aI @ZuP @Zti)))) (aI (aI (aI @Zo6 (aI @Ztn @Zsa)) (aI (aI @ZvN @Zq9) (aI @ZpH @Zww))) (aI (aI (aI @ZuS @Znb) (aI @ZwD @Znn)) (aI (aI @Zl4 @Zpt) (aI @ZmQ @ZvM))))) (aI (aI (aI (aI @ZnH (aI @ZoA @ZwH)) (aI (aI @ZwG @ZwM) (aI @ZlI @ZrM))) (aI (aI (aI @Zwp @Zyw) (aI @ZrE @Zvw)) (aI (aI @ZvI @Zyp) (aI @Zus @Zw5)))) (aI (aI (aI @ZqS (aI @Zl3 @Zmj)) (aI (aI @ZtZ @Zyj) (aI @Zmf @Znd))) (aI (aI (aI @Zuo @Zw8) (aI @ZqZ @ZrU)) (aI (aI @Zmq @ZxP) (aI @Zrx @Zi5))))))
def Zvs:=(aI (aI (aI (aI (aI (aI @List.map_cons.{0,0} @List.map_nil.{0,0}) (aI @List.length_cons.{0} @List.length_nil.{0})) (aI (aI @List.replicate_zero.{0} @List.replicate_succ.{0}) (aI @List.append_nil.{0} @List.nil_append.{0}))) (aI (aI (aI @List.cons_append.{0} @List.getElem?_cons_zero.{0}) (aI @List.getElem?_cons_succ.{0} @List.set_cons_zero.{0})) (aI (aI @List.set_cons_succ.{0} @Nat.add_zero) (aI @Nat.zero_add @Bool.true_or)))) (aI (aI (aI (aI @Bool.false_or @Bool.or_true) (aI @Bool.or_false @Bool.and_true)) (aI (aI @Bool.true_and @Bool.and_self) (aI @Bool.and_false @Bool.false_and))) (aI (aI (aI @if_true.{1} @if_false.{1}) (aI @ite_true.{1} @ite_false.{1})) (aI (aI @Option.map_some.{0,0} @Option.map_none.{0,0}) (aI @and_self @and_true))))) (aI (aI (aI (aI (aI @true_and @and_false) (aI @false_and @true_or)) (aI (aI @or_true @false_or) (aI @or_false @not_true_eq_false))) (aI (aI (aI @not_false_eq_true @List.drop_zero.{0}) (aI @List.drop_succ_cons.{0} @List.take_succ_cons.{0})) (aI (aI @List.take_zero.{0} @List.all_cons.{0}) (aI @List.all_nil.{0} @List.isEmpty_nil.{0})))) (aI (aI (aI (aI @Bool.not_false @Bool.not_true) (aI @List.length_map.{0,0} @Bool.bne_false)) (aI (aI @Bool.bne_true @List.isEmpty_cons.{0}) (aI @List.getD_cons_zero.{0} @List.getD_cons_succ.{0}))) (aI (aI (aI @List.getD_nil.{0} @List.contains_nil.{0}) (aI @List.range_zero @List.flatMap_cons.{0,0})) (aI (aI @List.flatMap_nil.{0,0} @List.zip_cons_cons.{0,0}) (aI @List.zip_nil_left.{0,0} @List.zip_nil_right.{0,0}))))))
def ZZ:=@Nat.not_lt_zero
def EQA := (aI (aI (aI (aI (aI (aI (aI ZuK ZlV) (aI Zp0 Zvs)) (aI (aI @exI.eq_1 @nsite.eq_1) (aI @nsite.eq_2 @nsite.eq_3))) (aI (aI (aI @nsite.eq_4 @nsite.eq_5) (aI @nsite.eq_6 @nsite.eq_7)) (aI (aI @nsite.eq_8 @nsite.eq_9) (aI @nsite.eq_10 (aI @nsite.eq_11 @nsite.eq_12))))) (aI (aI (aI (aI @nsite.eq_13 @freeAt.eq_1) (aI @execI.eq_1 @execI.eq_2)) (aI (aI @execI.eq_3 @execI.eq_4) (aI @execI.eq_5 @execI.eq_6))) (aI (aI (aI @execI.eq_7 @execI.eq_8) (aI @execI.eq_9 @execI.eq_10)) (aI (aI @execI.eq_11 @execI.eq_12) (aI @execI.eq_13 (aI @execI.eq_14 @execI.eq_15)))))) (aI (aI (aI (aI (aI @execI.eq_16 @execI.eq_17) (aI @execI.eq_18 @execI.eq_19)) (aI (aI @execI.eq_20 @execI.eq_21) (aI @execI.eq_22 @execI.eq_23))) (aI (aI (aI @execI.eq_24 @execI.eq_25) (aI @execI.eq_26 @execI.eq_27)) (aI (aI @execI.eq_28 @execI.eq_29) (aI @execI.eq_30 (aI @execI.eq_31 @execI.eq_32))))) (aI (aI (aI (aI @execI.eq_33 @execI.eq_34) (aI @execI.eq_35 @execI.eq_36)) (aI (aI @execI.eq_37 @execI.eq_38) (aI @execI.eq_39 (aI @execI.eq_40 @execI.eq_41)))) (aI (aI (aI @execI.eq_42 @execI.eq_43) (aI @execI.eq_44 @execI.eq_45)) (aI (aI @execI.eq_46 @execI.eq_47) (aI @execI.eq_48 (aI @execI.eq_49 @execI.eq_50))))))) (aI (aI (aI (aI (aI (aI @execI.eq_51 @Opd.ev.eq_1) (aI @Opd.ev.eq_2 @tget.eq_1)) (aI (aI @tget.eq_2 @tins.eq_1) (aI @tins.eq_2 @tput.eq_1))) (aI (aI (aI @tput.eq_2 @keepL.eq_1) (aI @sitesOf.eq_1 @resA.eq_1)) (aI (aI @resAll.eq_1 @resAll.eq_2) (aI @resOne.eq_1 (aI @resOne.eq_2 @enterA.eq_1))))) (aI (aI (aI (aI @enterA.eq_2 @partA.eq_1) (aI @partA.eq_2 @faddrA.eq_1)) (aI (aI @faddrA.eq_2 @faddrA.eq_3) (aI @faddrA.eq_4 (aI @setAt.eq_1 @binA.eq_1)))) (aI (aI (aI @binA.eq_2 @binA.eq_3) (aI @binA.eq_4 @binA.eq_5)) (aI (aI @arithA.eq_1 @arithA.eq_2) (aI @arithA.eq_3 (aI @arithA.eq_4 @arithA.eq_5)))))) (aI (aI (aI (aI (aI @arithA.eq_6 @arithA.eq_7) (aI @arithA.eq_8 @arithA.eq_9)) (aI (aI @arithA.eq_10 @arithA.eq_11) (aI @arithA.eq_12 @arithA.eq_13))) (aI (aI (aI @arithA.eq_14 @arithA.eq_15) (aI @arithA.eq_16 @ldA.eq_1)) (aI (aI @ldA.eq_2 @ldA.eq_3) (aI @ldA.eq_4 (aI @stA.eq_1 @stA.eq_2))))) (aI (aI (aI (aI @stA.eq_3 @oI.eq_1) (aI @oN.eq_1 @oM.eq_1)) (aI (aI @oF.eq_1 @oL.eq_1) (aI @List.sum_cons.{0} (aI @List.sum_nil.{0} @eq_self.{1})))) (aI (aI (aI @beq_self_eq_true.{0} @Bool.false_eq_true) (aI @Option.some.injEq.{0} @decide_true)) (aI (aI @decide_false @List.foldl_cons.{0, 0}) (aI @List.foldl_nil.{0, 0} (aI @List.contains_cons.{0} @ne_eq.{1}))))))))
end
section
theorem wrap_i64 {n:Int} (h0:-9223372036854775808<=n) (h:n<=9223372036854775807):IntKind.i64.wrap n=n:=Zdi h0 h
end
section
def ZbP:Zl:=(.seq (.seq (.region [oM 54 5,oI 55 (.call 8 0 true [(.t 54),(.c (.str [36,115,104,97,114,101,47,103,47,116]))]),oM 56 6,oI 57 (.call 11 0 true [(.t 55),(.t 56)]),oI 58 (.un .not (.t 57))] none [58,6,5,1]) (.cond (.t 58) (.seq (.region [oI 4 (.mov (.c (.bool false)))] none [4]) .ret) .skip)) (.seq (.seq (.region [oM 59 6,oI 60 (.len (.t 59)),oI 61 (.bin .eql (.t 60) (.c (.int .i64 0)))] none [61,6,5,1]) (.cond (.t 61) (.seq (.region [oM 62 5,oI 63 (.call 12 1 true [(.t 62),(.c (.str [36,115,104,97,114,101,47,103,47,116])),(.c (.str [120]))]),oI 64 (.un .not (.t 63)),oM 65 64,⟨(some 66),(.mov (.t 5)),(some (65,true)),[]⟩,⟨(some 67),(.call 13 1 true [(.t 66),(.c (.str [120]))]),(some (65,true)),[]⟩,⟨(some 68),(.len (.t 67)),(some (65,true)),[]⟩,⟨(some 69),(.bin .eql (.t 68) (.c (.int .i64 0))),(some (65,true)),[]⟩,oI 70 (.pick (.t 65) (.t 69) (.c (.bool false))),oM 4 70] none [4]) .ret) .skip)) (.seq (.region [oM 71 1,oM 72 6,oI 73 (.len (.t 72)),oI 74 (.bin .sub (.t 73) (.c (.int .i64 1))),oI 75 (.call 14 0 true [(.t 71),(.c (.int .i64 0)),(.t 74)]),oM 8 75] none [8,6,5]) (.seq (.region [oM 76 6,oM 77 8,oI 78 (.iaddr 1 (.t 76) (.t 77)),oL 79 78,oM 9 79] none [9,8,6,5]) (.seq (.seq (.region [oM 80 5,oM 81 9,oI 82 (.call 12 1 true [(.t 80),(.c (.str [36,115,104,97,114,101,47,103,47,116])),(.t 81)]),oI 83 (.un .not (.t 82)),oM 84 83,⟨(some 85),(.mov (.t 5)),(some (84,false)),[]⟩,⟨(some 86),(.mov (.t 9)),(some (84,false)),[]⟩,⟨(some 87),(.call 12 1 true [(.t 85),(.c (.str [36,115,104,97,114,101,47,103,47,116])),(.t 86)]),(some (84,false)),[]⟩,oI 88 (.pick (.t 84) (.c (.bool true)) (.t 87))] none [88,9,8,6,5]) (.cond (.t 88) (.seq (.region [oI 4 (.mov (.c (.bool false)))] none [4]) .ret) .skip)) (.seq (.region [oM 89 5,oM 90 9,oI 91 (.call 7 1 true [(.t 89),(.c (.str [36,115,104,97,114,101,47,103,47,116])),(.t 90)])] none [9,8,6,5]) (.seq (.region [oI 10 (.mov (.c (.lst true [])))] none [10,9,8,6,5]) (.seq (.region [oM 92 10,oM 93 6,oM 94 8,oI 95 (.slice 1 (.t 93) none (some (.t 94)) none),oI 96 (.app 1 16 (.str []) (.t 92) (.t 95)),oM 97 6,oM 98 8,oI 99 (.bin .add (.t 98) (.c (.int .i64 1))),oI 100 (.slice 1 (.t 97) (some (.t 99)) none none),oI 101 (.app 1 16 (.str []) (.t 96) (.t 100)),oM 102 9,oI 103 (.bslice false 1 1 (.str []) [(0,(.t 102))]),oI 104 (.app 1 16 (.str []) (.t 101) (.t 103)),oM 10 104] (some [(3,8),(4,8),(3,11),(4,11),(8,11),(9,11)]) [10,9,5]) (.seq (.region [oM 105 5,oI 106 (.call 8 0 true [(.t 105),(.c (.str [36,115,104,97,114,101,47,103,47,116]))]),oM 107 10,oI 108 (.call 11 0 true [(.t 106),(.t 107)]),oM 109 108,⟨(some 110),(.mov (.t 5)),(some (109,true)),[]⟩,⟨(some 111),(.mov (.t 9)),(some (109,true)),[]⟩,⟨(some 112),(.call 13 1 true [(.t 110),(.t 111)]),(some (109,true)),[]⟩,⟨(some 113),(.bslice false 1 1 (.str []) [(0,(.c (.str [36,115,104,97,114,101,47,103,47,116])))]),(some (109,true)),[]⟩,⟨(some 114),(.call 11 0 true [(.t 112),(.t 113)]),(some (109,true)),[]⟩,oI 115 (.pick (.t 109) (.t 114) (.c (.bool false))),oM 116 115,⟨(some 117),(.mov (.t 5)),(some (116,true)),[]⟩,⟨(some 118),(.mov (.t 9)),(some (116,true)),[]⟩,⟨(some 119),(.call 13 1 true [(.t 117),(.t 118)]),(some (116,true)),[]⟩,⟨(some 120),(.len (.t 119)),(some (116,true)),[]⟩,⟨(some 121),(.bin .eql (.t 120) (.c (.int .i64 0))),(some (116,true)),[]⟩,oI 122 (.pick (.t 116) (.t 121) (.c (.bool false))),oM 4 122] none [4]) .ret)))))))))
def ZdM:Zl:=ZbP
def Zct:=xw ZdM ZbP rfl
def ZbQ:Zl:=(.seq (.seq (.region [oM 18 7,oM 19 0,oI 20 (.len (.t 19)),oI 21 (.bin .lss (.t 18) (.t 20)),oM 22 21,⟨(some 23),(.mov (.t 7)),(some (22,true)),[]⟩,⟨(some 24),(.bin .lss (.t 23) (.c (.int .i64 12))),(some (22,true)),[]⟩,oI 25 (.pick (.t 22) (.t 24) (.c (.bool false)))] none [25,7,6,5,1,0]) (.cond (.t 25) .skip (.exit 0))) (.seq (.block 1 (.seq (.region [oM 28 5,oM 29 0,oM 30 7,oI 31 (.iaddr 1 (.t 29) (.t 30)),oL 32 31,oI 33 (.call 7 1 true [(.t 28),(.c (.str [36,115,104,97,114,101,47,103,47,116])),(.t 32)])] none [7,6,5,1,0]) (.seq (.region [oM 34 5,oM 35 0,oM 36 7,oI 37 (.iaddr 1 (.t 35) (.t 36)),oL 38 37,oI 39 (.call 7 1 true [(.t 34),(.c (.str [36,115,104,97,114,101,47,103,47,116])),(.t 38)])] none [7,6,5,1,0]) (.seq (.region [oM 40 6,oM 41 0,oM 42 7,oI 43 (.iaddr 1 (.t 41) (.t 42)),oL 44 43,oI 45 (.call 10 0 true [(.t 40),(.t 44)]),oI 46 (.un .not (.t 45))] none [46,7,6,5,1,0]) (.cond (.t 46) (.region [oM 47 6,oM 48 0,oM 49 7,oI 50 (.iaddr 1 (.t 48) (.t 49)),oL 51 50,oI 52 (.bslice false 1 1 (.str []) [(0,(.t 51))]),oI 53 (.app 1 16 (.str []) (.t 47) (.t 52)),oM 6 53] none [7,6,5,1,0]) .skip))))) (.region [oM 26 7,oI 27 (.bin .add (.t 26) (.c (.int .i64 1))),oM 7 27] none [7,6,5,1,0])))
def ZfN:Zl:=ZbQ
def ZcI:=xw ZfN ZbQ rfl
def ZbV:Zl:=(.seq (.region [oI 4 (.mov (.c (.bool false)))] none [1,0]) (.seq (.region [oI 11 (.call 5 2 false []),oM 5 11] none [5,1,0]) (.seq (.seq (.region [oM 12 5,oI 13 (.peq false (.t 12) (.c .nilp)),oM 14 13,⟨(some 15),(.call 6 0 true []),(some (14,false)),[]⟩,⟨(some 16),(.un .not (.t 15)),(some (14,false)),[]⟩,oI 17 (.pick (.t 14) (.c (.bool true)) (.t 16))] none [17,5,1,0]) (.cond (.t 17) (.seq (.region [oI 4 (.mov (.c (.bool false)))] none [4]) .ret) .skip)) (.seq (.region [oI 6 (.mov (.c (.lst true [])))] none [6,5,1,0]) (.seq (.seq (.region [oI 7 (.mov (.c (.int .i64 0)))] none [7,6,5,1,0]) (.block 0 (.loop [7,6,5,1,0] ZfN))) ZdM)))))
def ZhL:Zac:=⟨[(.tmp 4)],ZbV⟩
theorem Zxd:FC 4=some ZhL:=by kernel_rfl
theorem ZcM:ZhL.body=ZbV:=rfl
theorem Zch:ZhL.res=[(.tmp 4)]:=rfl
end
section
def Zd7:Zl:=(.seq (.region [oI 4 (.mov (.c (.bool false)))] none [4]) .ret)
def ZgQ:Zl:=Zd7
def ZfQ:=xw ZgQ Zd7 rfl
def Zeu:Zl:=(.seq (.seq (.region [oM 6 5,oM 7 0,oI 8 (.len (.t 7)),oI 9 (.bin .lss (.t 6) (.t 8))] none [9,5,1,0]) (.cond (.t 9) .skip (.exit 0))) (.seq (.block 1 (.seq (.region [oM 12 0,oM 13 5,oI 14 (.iaddr 1 (.t 12) (.t 13)),oL 15 14,oM 16 1,oI 17 (.bin .eql (.t 15) (.t 16))] none [17,5,1,0]) (.cond (.t 17) (.seq (.region [oI 4 (.mov (.c (.bool true)))] none [4]) .ret) .skip))) (.region [oM 10 5,oI 11 (.bin .add (.t 10) (.c (.int .i64 1))),oM 5 11] none [5,1,0])))
def Zih:Zl:=Zeu
def Zgb:=xw Zih Zeu rfl
def Zd2:Zl:=(.seq (.region [oI 4 (.mov (.c (.bool false)))] none [1,0]) (.seq (.seq (.region [oI 5 (.mov (.c (.int .i64 0)))] none [5,1,0]) (.block 0 (.loop [5,1,0] Zih))) ZgQ))
def Zgk:Zac:=⟨[(.tmp 4)],Zd2⟩
theorem Zqz:FC 10=some Zgk:=by kernel_rfl
theorem Zfw:Zgk.body=Zd2:=rfl
theorem ZfA:Zgk.res=[(.tmp 4)]:=rfl
noncomputable def ZeW (m:Nat) (tm:Tms) (σ:Za):Option (AVal×Za):=(Zax m Zgk (Zb1 FC PR BY m ZgQ (W8 (Za8 0) (evL FC PR BY m [5,1,0] Zih tm σ))))
def Zew:Zl:=(.seq (.region [oI 4 (.mov (.c (.bool true)))] none [4]) .ret)
def ZgI:Zl:=Zew
def Zgc:=xw ZgI Zew rfl
def ZeA:Zl:=(.seq (.seq (.region [oM 11 5,oM 12 0,oI 13 (.len (.t 12)),oI 14 (.bin .lss (.t 11) (.t 13))] none [14,5,1,0]) (.cond (.t 14) .skip (.exit 0))) (.seq (.block 1 (.seq (.region [oM 17 0,oM 18 5,oI 19 (.iaddr 1 (.t 17) (.t 18)),oL 20 19,oM 21 1,oM 22 5,oI 23 (.iaddr 1 (.t 21) (.t 22)),oL 24 23,oI 25 (.bin .neq (.t 20) (.t 24))] (some [(2,6),(3,6),(2,7),(3,7)]) [25,5,1,0]) (.cond (.t 25) (.seq (.region [oI 4 (.mov (.c (.bool false)))] none [4]) .ret) .skip))) (.region [oM 15 5,oI 16 (.bin .add (.t 15) (.c (.int .i64 1))),oM 5 16] none [5,1,0])))
def ZgT:Zl:=ZeA
def Zgf:=xw ZgT ZeA rfl
def ZeB:Zl:=(.seq (.region [oI 4 (.mov (.c (.bool false)))] none [1,0]) (.seq (.seq (.region [oM 6 0,oI 7 (.len (.t 6)),oM 8 1,oI 9 (.len (.t 8)),oI 10 (.bin .neq (.t 7) (.t 9))] none [10,1,0]) (.cond (.t 10) (.seq (.region [oI 4 (.mov (.c (.bool false)))] none [4]) .ret) .skip)) (.seq (.seq (.region [oI 5 (.mov (.c (.int .i64 0)))] none [5,1,0]) (.block 0 (.loop [5,1,0] ZgT))) ZgI)))
def Zgh:Zac:=⟨[(.tmp 4)],ZeB⟩
theorem Zrt:FC 11=some Zgh:=by kernel_rfl
theorem Zfy:Zgh.body=ZeB:=rfl
theorem Zgo:Zgh.res=[(.tmp 4)]:=rfl
noncomputable def ZfS (m:Nat) (tm:Tms) (σ:Za):Option (AVal×Za):=(Zax m Zgh (Zb1 FC PR BY m ZgI (W8 (Za8 0) (evL FC PR BY m [5,1,0] ZgT tm σ))))
end
section
end
section
end
section
end
section
end
section
def Zhs:Zl:=(.seq (.region [oI 4 (.mov (.c (.bool false)))] none [1,0]) (.seq (.region [oM 5 0,oM 6 1,oI 7 (.call 21 0 true [(.t 5),(.t 6)]),oI 8 (.bin .geq (.t 7) (.c (.int .i64 0))),oM 4 8] none [4]) .ret))
def ZgP:Zac:=⟨[(.tmp 4)],Zhs⟩
theorem ZvX:FC 17=some ZgP:=by kernel_rfl
theorem Zv4:ZgP.body=Zhs:=rfl
theorem ZnJ:ZgP.res=[(.tmp 4)]:=rfl
def ZhJ:Zl:=(.seq (.region [oI 6 (.mov (.c (.lst true [])))] none [2,1,0]) (.seq (.region [oM 8 0,oM 9 1,oM 10 2,oM 11 0,oI 12 (.len (.t 11)),oI 13 (.slice 1 (.t 8) (some (.t 9)) (some (.t 10)) (some (.t 12)))] none [2,1,0]) (.seq (.seq (.region [oM 14 1,oM 15 2,oI 16 (.bin .eql (.t 14) (.t 15))] none [16,2,1,0]) (.cond (.t 16) (.seq (.region [oM 17 0,oM 6 17] none [6]) .ret) .skip)) (.seq (.region [oM 18 0,oI 19 (.len (.t 18)),oM 7 19] none [7,2,1,0]) (.seq (.region [oM 20 0,oM 21 1,oI 22 (.slice 1 (.t 20) none (some (.t 21)) none),oM 23 0,oM 24 2,oI 25 (.slice 1 (.t 23) (some (.t 24)) none none),oI 26 (.app 1 16 (.str []) (.t 22) (.t 25)),oM 0 26] (some [(2,5)]) [7,0]) (.seq (.region [oM 27 0,oM 28 0,oI 29 (.len (.t 28)),oM 30 7,oI 31 (.slice 1 (.t 27) (some (.t 29)) (some (.t 30)) none),oN (.clr 1 (.str []) (.t 31))] none [0]) (.seq (.region [oM 32 0,oM 6 32] none [6]) .ret)))))))
def Zh5:Zac:=⟨[(.tmp 6)],ZhJ⟩
theorem Zml:FC 22=some Zh5:=by kernel_rfl
theorem Zuq:Zh5.body=ZhJ:=rfl
theorem Zvy:Zh5.res=[(.tmp 6)]:=rfl
def Zd1:Zl:=(.seq (.region [oI 4 (.mov (.c (.int .i64 (-1))))] none [4]) .ret)
def ZhC:Zl:=Zd1
def ZgA:=xw ZhC Zd1 rfl
def ZeC:Zl:=(.seq (.region [oI 9 (.bin .lss (.t 8) (.t 7))] none [9,8,7,1,0]) (.seq (.cond (.t 9) .skip (.exit 0)) (.seq (.block 1 (.seq (.region [oM 10 8,oM 5 10] none [8,7,5,1,0]) (.seq (.region [oM 11 1,oM 12 0,oM 13 5,oI 14 (.iaddr 1 (.t 12) (.t 13)),oL 15 14,oI 16 (.bin .eql (.t 11) (.t 15))] none [16,8,7,5,1,0]) (.cond (.t 16) (.seq (.region [oM 17 5,oM 4 17] none [4]) .ret) .skip)))) (.region [oI 18 (.bin .add (.t 8) (.c (.int .i64 1))),oM 8 18] none [8,7,1,0]))))
def Zg7:Zl:=ZeC
def Zgm:=xw Zg7 ZeC rfl
def Zd3:Zl:=(.seq (.region [oI 4 (.mov (.c (.int .i64 0)))] none [1,0]) (.seq (.seq (.region [oM 6 0,oI 7 (.len (.t 6)),oI 8 (.mov (.c (.int .i64 0)))] none [8,7,1,0]) (.block 0 (.loop [8,7,1,0] Zg7))) ZhC))
def ZgE:Zac:=⟨[(.tmp 4)],Zd3⟩
theorem ZqU:FC 21=some ZgE:=by kernel_rfl
theorem ZgC:ZgE.body=Zd3:=rfl
theorem Zfx:ZgE.res=[(.tmp 4)]:=rfl
noncomputable def ZeI (m:Nat) (tm:Tms) (σ:Za):Option (AVal×Za):=(Zax m ZgE (Zb1 FC PR BY m ZhC (W8 (Za8 0) (evL FC PR BY m [8,7,1,0] Zg7 tm σ))))
end
section
end
section
abbrev Tx:=List UInt8
def ZaE (v:Tx):Nat->List Tx->Int
 | _,[]=>-1
 | i,x::r=>if v == x then (i:Int) else ZaE v (i+1) r
theorem ZjP (v:Tx):∀ (r:List Tx) (i:Nat),decide (ZaE v i r>=0)=r.contains v
 | [],i=>by simp [ZaE]
 | x::r,i=>by
  unfold ZaE
  rw [WO]
  cases h:(v == x) with
  | true=>simp
  | false=>simp only [Xg,if_false,XaP];exact ZjP v r (i+1)
theorem ZgD (l:List Tx):kOk 1 (l.map AVal.str)=true:=by cases l <;> rfl
theorem Zjh (l:List Tx) (hl:l.length<=9223372036854775807) (v:Tx):∀ (r:List Tx) (i:Nat),l.drop i=r ->
  ZeI 0 [(8,.int .i64 (i:Int)),(7,.int .i64 (l.length:Int)),(1,.str v),(0,.lst false (l.map AVal.str))] []=some (.int .i64 (ZaE v i r),[])
 | [],i,h=>by
  have h1:=Zhh h
  unfold ZeI ZaE
  rw [ZaU]
  simp -implicitDefEqProofs only [EQA,ZR,Z6,Z1,ZU,ZT,ZZ,Z4,ZS,ZP,ZX,Z5,Z0,ZV,Z3,ZQ,implies_true,forall_const,Xr,Xs,Xx,Xk,Xl,Xt,Xu,ZH,ZJ,unA,Zv,ZC,unG,reduceCtorEq,Zk,decide_eq_true_eq,Xm,Xi,ite_self,↓reduceIte,Zz,ZI,gcT,gcA,Zx,Zn,Zg,Zm,Zy,Zb,Zt,Zo,ZF,Xp,ZgC,Zd3,Zfx,ZgA,Zd1,Zgm,ZeC,Z2,ZL,ZW,ZO,ZK,ZN,h1]
 | x::r,i,h=>by
  have ih:=Zjh l hl v r (i+1) (ZbN h).2.1
  have h1:(i:Int) < l.length:=by have:=(ZbN h).2.2;omega
  have e1:=iad (ZbN h).1 AVal.str (k:=1) rfl
  have e3:=Zdp h1 hl
  unfold ZaE
  cases hb:(v == x)
  ·rw [if_neg (by simp)]
   unfold ZeI at ih ⊢
   rw [ZaU]
   simp -implicitDefEqProofs only [EQA,ZR,Z6,Z1,ZU,ZT,ZZ,Z4,ZS,ZP,ZX,Z5,Z0,ZV,Z3,ZQ,implies_true,forall_const,Xr,Xs,Xx,Xk,Xl,Xt,Xu,ZH,ZJ,unA,Zv,ZC,unG,reduceCtorEq,Zk,decide_eq_true_eq,Xm,Xi,ite_self,↓reduceIte,Zz,ZI,gcT,gcA,Zx,Zn,Zg,Zm,Zy,Zb,Zt,Zo,ZF,Xp,ZgC,Zd3,Zfx,ZgA,Zd1,Zgm,ZeC,Z2,ZL,ZW,ZO,ZK,ZN,h1,e1,e3,hb,AVal.cells]
   exact ih
  ·rw [if_pos rfl]
   unfold ZeI at ih ⊢
   rw [ZaU]
   simp -implicitDefEqProofs only [EQA,ZR,Z6,Z1,ZU,ZT,ZZ,Z4,ZS,ZP,ZX,Z5,Z0,ZV,Z3,ZQ,implies_true,forall_const,Xr,Xs,Xx,Xk,Xl,Xt,Xu,ZH,ZJ,unA,Zv,ZC,unG,reduceCtorEq,Zk,decide_eq_true_eq,Xm,Xi,ite_self,↓reduceIte,Zz,ZI,gcT,gcA,Zx,Zn,Zg,Zm,Zy,Zb,Zt,Zo,ZF,Xp,ZgC,Zd3,Zfx,ZgA,Zd1,Zgm,ZeC,Z2,ZL,ZW,ZO,ZK,ZN,h1,e1,e3,hb,AVal.cells]
theorem ZhT (l:List Tx) (hl:l.length<=9223372036854775807) (v:Tx):E 21 [.lst false (l.map AVal.str),.str v] []=some (.int .i64 (ZaE v 0 l),[]):=by
 have h:=Zjh l hl v l 0 rfl
 have z0:((0:Nat):Int)=0:=rfl
 rw [z0] at h
 unfold ZeI at h
 rw [Zbo (by rfl) ZqU]
 simp -implicitDefEqProofs only [EQA,ZR,Z6,Z1,ZU,ZT,ZZ,Z4,ZS,ZP,ZX,Z5,Z0,ZV,Z3,ZQ,implies_true,forall_const,Xr,Xs,Xx,Xk,Xl,Xt,Xu,ZH,ZJ,unA,Zv,ZC,unG,reduceCtorEq,Zk,decide_eq_true_eq,Xm,Xi,ite_self,↓reduceIte,Zz,ZI,gcT,gcA,Zx,Zn,Zg,Zm,Zy,Zb,Zt,Zo,ZF,Xp,ZgC,Zd3,Zfx,ZgA,Zd1,Zgm,ZeC,Z2,ZL,ZW,ZO,ZK,ZN,AVal.cells]
 exact h
theorem Zhc (l:List Tx) (hl:l.length<=9223372036854775807) (v:Tx):E 17 [.lst false (l.map AVal.str),.str v] []=some (.bool (l.contains v),[]):=by
 have hC:∀ (σ:Za) (sq own:Nat),Zi E BY σ sq 21 own true [.lst false (l.map AVal.str),.str v]=some (.int .i64 (ZaE v 0 l),σ,{}):=fun σ sq own=>ZcX (ZhT l hl v) (by kernel_rfl) rfl rfl rfl (fun _=>rfl) σ sq own
 rw [Zbo (by rfl) ZvX]
 rw [<-ZjP v l 0]
 simp -implicitDefEqProofs only [EQA,ZR,Z6,Z1,ZU,ZT,ZZ,Z4,ZS,ZP,ZX,Z5,Z0,ZV,Z3,ZQ,implies_true,forall_const,Xr,Xs,Xx,Xk,Xl,Xt,Xu,ZH,ZJ,unA,Zv,ZC,unG,reduceCtorEq,Zk,decide_eq_true_eq,Xm,Xi,ite_self,↓reduceIte,Zz,ZI,gcT,gcA,Zx,Zn,Zg,Zm,Zy,Zb,Zt,Zo,ZF,Xp,Zv4,Zhs,ZnJ,Z2,ZL,ZW,ZO,ZK,ZN,hC]
theorem ZpT (l:List Tx) (b:Bool) (hl:l.length<=9223372036854775807) (v:Tx) (σ:Za) (sq own:Nat):Zi E BY σ sq 17 own true [.lst b (l.map AVal.str),.str v]=some (.bool (l.contains v),σ,{}) :=
 ZcX (Zhc l hl v) (by kernel_rfl) rfl rfl rfl (fun _=>rfl) σ sq own
def Zd (fz:Bool) (g:Nat) (S:List AVal):Zf:=if fz then .frow g 1 S else .row g 1 S
theorem ZeF (σ:Za) (t g n:Nat) (fz:Bool) (S:List AVal) (hn:n=S.length) (hs:σ[t]?=some (Zd fz g S)):Zk σ (.sl t g 0 n)=some (S,[t]):=by
 subst hn
 cases fz <;> simp only [Zd,Xg,if_false,if_true] at hs <;> simp [Zk,hs]
theorem Zle (l:List Tx) (hl:l.length<=9223372036854775807) (v:Tx) {σ:Za} {t g:Nat} {fz:Bool} (hs:σ[t]?=some (Zd fz g (l.map AVal.str))) (sq own:Nat):Zi E BY σ sq 17 own true [.sl t g 0 l.length,.str v]=some (.bool (l.contains v),σ,{ rd:=[t] }):=by
 refine Zd8 (by kernel_rfl) (vs:=[.lst false (l.map AVal.str),.str v]) ?_ rfl rfl (Zhc l hl v) rfl rfl sq own
 have he:=ZeF σ t g l.length fz (l.map AVal.str) (by simp) hs
 simp only [showAs,showA,ZaI,he,XK]
def gN:Za:=[.var [.map 1],.map []]
def gB (sh:Tx) (ms:List Tx):Za:=[.var [.map 1],.map [(.str sh,.sl 2 0 0 ms.length)],.row 0 1 (ms.map AVal.str)]
section
variable (sh:Tx)
theorem ZjO {σ:Za} {z:AVal} (hs:σ[1]?=some (.map [])):Zbh σ 2 z false (.map 1) (.str sh)=some (z,σ,{ rd:=[1] }):=by
 simp [Zbh,Zag,hs,ZbD,Zdl]
theorem Zdy {σ:Za} {z v:AVal} (hs:σ[1]?=some (.map [(.str sh,v)])):Zbh σ 2 z false (.map 1) (.str sh)=some (v,σ,{ rd:=[1] }):=by
 simp [Zbh,Zag,hs,ZbD,ZbO,Zdl]
theorem Ztc {σ:Za} {v:AVal} (hv:v.cells.all Zu=true) (hs:σ[1]?=some (.map [])):Zdh σ 2 (.map 1) (.str sh) v=some (.tup [],σ.set 1 (.map [(.str sh,v)]),{ wr:=[1] }):=by
 simp [Zdh,Zag,Zcz,hs,ZbD,hv]
theorem ZgO {σ:Za} {v u:AVal} (hv:v.cells.all Zu=true) (hs:σ[1]?=some (.map [(.str sh,u)])):Zdh σ 2 (.map 1) (.str sh) v=some (.tup [],σ.set 1 (.map [(.str sh,v)]),{ wr:=[1] }):=by
 simp [Zdh,Zag,Zcz,hs,ZbD,ZbO,hv]
def Zhd:Prop:=∃ a b:Tx,E 16 [.str sh] []=some (.tup [.str a,.str b,.bool true],[])
variable {sh} (hsh:Zhd sh)
include hsh
theorem Zfs:∃ a b:Tx,∀ (σ:Za) (sq own:Nat),Zi E BY σ sq 16 own true [.str sh]=some (.tup [.str a,.str b,.bool true],σ,{}):=by
 obtain ⟨a,b,h⟩:=hsh
 exact ⟨a,b,fun σ sq own=>ZcX h (by kernel_rfl) rfl rfl rfl (fun _=>rfl) σ sq own⟩
theorem Zjk (c:Tx):E 7 [.ref 0 0,.str sh,.str c] gN=some (.tup [],gB sh [c]):=by
 obtain ⟨a,b,hS⟩:=Zfs hsh
 have hC:=ZpT [] true (by decide) c
 rw [show ([]:List Tx).contains c=false from rfl,show ([]:List Tx).map AVal.str=[] from rfl] at hC
 have hl:=fun {σ:Za} {z:AVal} hs=>ZjO sh (σ:=σ) (z:=z) hs
 have hm:=fun {σ:Za} {v:AVal} hv hs=>Ztc sh (σ:=σ) (v:=v) hv hs
 have hv:∀ (σ:Za),viewAs σ [.str c]=some ([.str c],[]):=fun _=>rfl
 have b1:1*16<=140737488355328:=by decide
 have ho:Zas 2 [.var [.map 1],.map [(.str sh,.sl 2 0 0 1)],.row 0 1 [.str c]] (.tup [])=some (.tup [],[.var [.map 1],.map [(.str sh,.sl 2 0 0 1)],.row 0 1 [.str c]]):=rfl
 unfold gN gB
 rw [show [c].map AVal.str=[.str c] from rfl,XE,Zbo (by rfl) ZfF]
 simp -implicitDefEqProofs only [EQA,ZR,Z6,Z1,ZU,ZT,ZZ,Z4,ZS,ZP,ZX,Z5,Z0,ZV,Z3,ZQ,implies_true,forall_const,Xr,Xs,Xx,Xk,Xl,Xt,Xu,ZH,ZJ,unA,Zv,ZC,unG,reduceCtorEq,Zk,decide_eq_true_eq,Xm,Xi,ite_self,↓reduceIte,Zz,ZI,gcT,gcA,Zx,Zn,Zg,Zm,Zy,Zb,Zt,Zo,ZF,Xp,Zgv,Zey,Zgu,Z2,ZL,ZW,ZO,ZK,ZN,hS,hC,hl,hm,hv,b1,ho,AVal.cells,Zu,kOk,Zj,Z9,XE,WR,X5,Wr,Zcx,Zce,ZcP,Zbn,WP,WY,XH,XW,XS,XX,Zcw,Zcn,Zcs,Zck,ZcA,XN,XY,ZaD,ZaJ,ZaM,ZbJ,ZbI,Zbz,ZbY,Zb4,ZaY,ZbZ,We,WB,XH,XW,Wa]
theorem Zic (ms:List Tx) (hl:ms.length<=1000000) (c:Tx) (hc:ms.contains c=true):E 7 [.ref 0 0,.str sh,.str c] (gB sh ms)=some (.tup [],gB sh ms):=by
 obtain ⟨a,b,hS⟩:=Zfs hsh
 have hC:=fun {σ:Za} hs sq own=>Zle ms (by omega) c (σ:=σ) (t:=2) (g:=0) (fz:=false) hs sq own
 rw [hc] at hC
 simp only [Zd,Xg,if_false] at hC
 have hk:=fun {σ:Za} {z:AVal} hs=>Zdy sh (σ:=σ) (z:=z) (v:=.sl 2 0 0 ms.length) hs
 have ho:Zas 3 [.var [.map 1],.map [(.str sh,.sl 2 0 0 ms.length)],.row 0 1 (ms.map AVal.str)] (.tup [])=some (.tup [],[.var [.map 1],.map [(.str sh,.sl 2 0 0 ms.length)],.row 0 1 (ms.map AVal.str)]):=rfl
 unfold gB
 generalize ms.map AVal.str=S at *
 rw [Zbo (by rfl) ZfF]
 simp -implicitDefEqProofs only [EQA,ZR,Z6,Z1,ZU,ZT,ZZ,Z4,ZS,ZP,ZX,Z5,Z0,ZV,Z3,ZQ,implies_true,forall_const,Xr,Xs,Xx,Xk,Xl,Xt,Xu,ZH,ZJ,unA,Zv,ZC,unG,reduceCtorEq,Zk,decide_eq_true_eq,Xm,Xi,ite_self,↓reduceIte,Zz,ZI,gcT,gcA,Zx,Zn,Zg,Zm,Zy,Zb,Zt,Zo,ZF,Xp,Zgv,Zey,Zgu,Z2,ZL,ZW,ZO,ZK,ZN,hS,hC,hk,ho,AVal.cells,Zcx,Zce,ZcP,Zbn,WP,WY,XH,XW,XS,XX,Zcw,Zcn,Zcs,Zck,ZcA,XN,XY,ZaD,ZaJ,ZaM,ZbJ,ZbI,Zbz,ZbY,Zb4,ZaY,ZbZ,We,WB,XH,XW,Wa]
theorem Zpe (ms:List Tx) (hl:ms.length<=1000000) (c:Tx) (hc:ms.contains c=false):E 7 [.ref 0 0,.str sh,.str c] (gB sh ms)=some (.tup [],[.var [.map 1],.map [(.str sh,.sl 2 1 0 (ms.length+1))],.row 1 1 ((ms++[c]).map AVal.str)]):=by
 obtain ⟨a,b,hS⟩:=Zfs hsh
 have hC:=fun {σ:Za} hs sq own=>Zle ms (by omega) c (σ:=σ) (t:=2) (g:=0) (fz:=false) hs sq own
 rw [hc] at hC
 simp only [Zd,Xg,if_false] at hC
 have hk:=fun {σ:Za} {z:AVal} hs=>Zdy sh (σ:=σ) (z:=z) (v:=.sl 2 0 0 ms.length) hs
 have hm:=fun {σ:Za} {v:AVal} hv hs=>ZgO sh (σ:=σ) (v:=v) (u:=.sl 2 0 0 ms.length) hv hs
 have hv:∀ (σ:Za),viewAs σ [.str c]=some ([.str c],[]):=fun _=>rfl
 have b1:(ms.length+1)*16<=140737488355328:=by omega
 have hS1:(ms.map AVal.str).length=ms.length:=by simp
 have e1:(ms++[c]).map AVal.str=ms.map AVal.str++[.str c]:=by simp
 rw [e1]
 unfold gB
 generalize ms.map AVal.str=S at *
 generalize ms.length=n at *
 have ho:∀ x,Zas 3 [.var [.map 1],.map [(.str sh,.sl 2 1 0 (n+1))],.row 1 1 (S++[.str c]),x] (.tup [])=some (.tup [],[.var [.map 1],.map [(.str sh,.sl 2 1 0 (n+1))],.row 1 1 (S++[.str c])]):=fun _=>rfl
 rw [Zbo (by rfl) ZfF]
 simp -implicitDefEqProofs only [EQA,ZR,Z6,Z1,ZU,ZT,ZZ,Z4,ZS,ZP,ZX,Z5,Z0,ZV,Z3,ZQ,implies_true,forall_const,Xr,Xs,Xx,Xk,Xl,Xt,Xu,ZH,ZJ,unA,Zv,ZC,unG,reduceCtorEq,Zk,decide_eq_true_eq,Xm,Xi,ite_self,↓reduceIte,Zz,ZI,gcT,gcA,Zx,Zn,Zg,Zm,Zy,Zb,Zt,Zo,ZF,Xp,Zgv,Zey,Zgu,Z2,ZL,ZW,ZO,ZK,ZN,hS,hC,hk,hm,hv,b1,hS1,ho,AVal.cells,Zu,kOk,Zj,Z9,XE,WR,X5,Wr,Zcx,Zce,ZcP,Zbn,WP,WY,XH,XW,XS,XX,Zcw,Zcn,Zcs,Zck,ZcA,XN,XY,ZaD,ZaJ,ZaM,ZbJ,ZbI,Zbz,ZbY,Zb4,ZaY,ZbZ,We,WB,XH,XW,Wa]
end
end
section
def gF (fz:Bool) (sh:Tx) (ms:List Tx):Za:=[.var [.map 1],.map [(.str sh,.sl 2 0 0 ms.length)],Zd fz 0 (ms.map AVal.str)]
theorem Zka (L:List Tx) (h:L.length<=1000000):E 18 [.lst false (L.map AVal.str)] []=some (.sl 0 0 0 L.length,[.row 0 1 (L.map AVal.str)]):=by
 refine Zbd.2 ⟨1,?_⟩
 show Zfh 1 16 [.lst false (L.map AVal.str)] []=_
 have h1:(L.map AVal.str).length*16<=140737488355328/\kOk 1 (L.map AVal.str)=true:=⟨by simp;omega,ZgD L⟩
 simp only [Zfh,Zk]
 rw [if_pos h1];simp
theorem Zjo (L:List Tx):(L.map AVal.str).all ZaA=true:=by
 rw [Xv]
 intro x hx
 obtain ⟨b,_,rfl⟩:=XL.1 hx
 rfl
theorem Zs8 (σ:Za) (sq t:Nat) (fz:Bool) (L:List Tx) (h:L.length<=1000000) (hs:σ[t]?=some (Zd fz 0 (L.map AVal.str))):Zi E BY σ sq 18 1 false [.sl t 0 0 L.length]=some (.sl sq 0 0 L.length,σ.set sq (.row 0 1 (L.map AVal.str)),{ rd:=[t] }):=by
 have he:=ZeF σ t 0 L.length fz (L.map AVal.str) (by simp) hs
 have hsh:showAs σ [.sl t 0 0 L.length]=some ([.lst false (L.map AVal.str)],[t]):=by
  simp only [showAs,showA,ZaI,he,XK]
 have hb:BY 18=false:=by kernel_rfl
 unfold Zi Zbx
 rw [hb]
 simp only [Xg,if_false,hsh]
 have h0:Zn (Zj σ [t]) 1000 (ZM [.lst false (L.map AVal.str)]) []=[]:=rfl
 rw [h0]
 unfold Za5
 simp only [XW,if_true,Zm,XX,ZG,Ze,Zat,Xg,if_false]
 rw [Zka L h]
 have hf:=Zjo L
 simp only [Zal,WG,XaC,Bool.and_false,Xg,if_false,if_true,Zeo,hf,decide_true,WI,Wz]
theorem Zix (fz:Bool) (sh:Tx) (ms:List Tx) (hl:ms.length<=1000000):E 8 [.ref 0 0,.str sh] (gF fz sh ms)=some (.sl 3 0 0 ms.length,gF fz sh ms++[.row 0 1 (ms.map AVal.str)]):=by
 have hC:=Zs8 [.var [.map 1],.map [(.str sh,.sl 2 0 0 ms.length)],Zd fz 0 (ms.map AVal.str),.free] 3 2 fz ms hl rfl
 have hk:=fun {σ:Za} {z:AVal} hs=>Zdy sh (σ:=σ) (z:=z) (v:=.sl 2 0 0 ms.length) hs
 have ho:Zas 3 [.var [.map 1],.map [(.str sh,.sl 2 0 0 ms.length)],Zd fz 0 (ms.map AVal.str),.row 0 1 (ms.map AVal.str)] (.sl 3 0 0 ms.length)=some (.sl 3 0 0 ms.length,[.var [.map 1],.map [(.str sh,.sl 2 0 0 ms.length)],Zd fz 0 (ms.map AVal.str),.row 0 1 (ms.map AVal.str)]):=by cases fz <;> rfl
 unfold gF
 rw [show [Zf.var [AVal.map 1],Zf.map [(AVal.str sh,AVal.sl 2 0 0 ms.length)],Zd fz 0 (ms.map AVal.str)]++[Zf.row 0 1 (ms.map AVal.str)]=[.var [.map 1],.map [(.str sh,.sl 2 0 0 ms.length)],Zd fz 0 (ms.map AVal.str),.row 0 1 (ms.map AVal.str)] from rfl]
 generalize Zd fz 0 (ms.map AVal.str)=R at *
 generalize ms.map AVal.str=S at *
 rw [Zbo (by rfl) Zre]
 simp -implicitDefEqProofs only [EQA,ZR,Z6,Z1,ZU,ZT,ZZ,Z4,ZS,ZP,ZX,Z5,Z0,ZV,Z3,ZQ,implies_true,forall_const,Xr,Xs,Xx,Xk,Xl,Xt,Xu,ZH,ZJ,unA,Zv,ZC,unG,reduceCtorEq,Zk,decide_eq_true_eq,Xm,Xi,ite_self,↓reduceIte,Zz,ZI,gcT,gcA,Zx,Zn,Zg,Zm,Zy,Zb,Zt,Zo,ZF,Xp,Zv6,ZhN,Zum,Z2,ZL,ZW,ZO,ZK,ZN,hC,hk,ho,AVal.cells]
def amF (o:List Tx) (are:Bool) (l:List Tx):List Tx:=l.filter fun s=>o.contains s == are
section
variable (l o:List Tx) (are:Bool) (hl:l.length<=1000000) (ho:o.length<=9223372036854775807)
include hl ho
end
end
section
def chL (first but ms:List Tx):List Tx:=if amF first true (amF but false ms)=[] then amF but false ms else amF first true (amF but false ms)
def chS (L:List Tx) (d:Nat):AVal:=match L[d % L.length]? with
 | some s=>.tup [.str s,.bool true]
 | none=>.tup [.str [],.bool false]
theorem ZjU (l:List Tx) (hl:l.length<=9223372036854775807) (v:Tx):∀ (r:List Tx) (i:Nat),l.drop i=r ->
  ZeW 0 [(5,.int .i64 (i:Int)),(1,.str v),(0,.lst false (l.map AVal.str))] []=some (.bool (r.contains v),[])
 | [],i,h=>by
  have h1:=Zhh h
  unfold ZeW
  rw [ZaU,show ([]:List Tx).contains v=false from rfl]
  have hL:(l.map AVal.str).length=l.length:=by simp
  simp -implicitDefEqProofs only [EQA,ZR,Z6,Z1,ZU,ZT,ZZ,Z4,ZS,ZP,ZX,Z5,Z0,ZV,Z3,ZQ,implies_true,forall_const,Xr,Xs,Xx,Xk,Xl,Xt,Xu,ZH,ZJ,unA,Zv,ZC,unG,reduceCtorEq,Zk,decide_eq_true_eq,Xm,Xi,ite_self,↓reduceIte,Zz,ZI,gcT,gcA,Zx,Zn,Zg,Zm,Zy,Zb,Zt,Zo,ZF,Xp,Zfw,Zd2,ZfA,ZfQ,Zd7,Zgb,Zeu,Z2,ZL,ZW,ZO,ZK,ZN,h1,hL]
 | x::r,i,h=>by
  have ih:=ZjU l hl v r (i+1) (ZbN h).2.1
  have h1:(i:Int) < l.length:=by have:=(ZbN h).2.2;omega
  have e1:=iad (ZbN h).1 AVal.str (k:=1) rfl
  have e3:=Zdp h1 hl
  have hL:(l.map AVal.str).length=l.length:=by simp
  rw [WO]
  have hbx:(v == x)=(x == v):=by
   by_cases h:v=x
   ·rw [h]
   ·rw [beq_eq_false_iff_ne.2 h,beq_eq_false_iff_ne.2 (fun e=>h e.symm)]
  rw [hbx]
  cases hb:(x == v)
  ·rw [XaP]
   unfold ZeW at ih ⊢
   generalize l.map AVal.str=S at *
   rw [ZaU]
   simp -implicitDefEqProofs only [EQA,ZR,Z6,Z1,ZU,ZT,ZZ,Z4,ZS,ZP,ZX,Z5,Z0,ZV,Z3,ZQ,implies_true,forall_const,Xr,Xs,Xx,Xk,Xl,Xt,Xu,ZH,ZJ,unA,Zv,ZC,unG,reduceCtorEq,Zk,decide_eq_true_eq,Xm,Xi,ite_self,↓reduceIte,Zz,ZI,gcT,gcA,Zx,Zn,Zg,Zm,Zy,Zb,Zt,Zo,ZF,Xp,Zfw,Zd2,ZfA,ZfQ,Zd7,Zgb,Zeu,Z2,ZL,ZW,ZO,ZK,ZN,h1,e1,e3,hb,hL,AVal.cells]
   exact ih
  ·rw [Xaf]
   unfold ZeW at ih ⊢
   generalize l.map AVal.str=S at *
   rw [ZaU]
   simp -implicitDefEqProofs only [EQA,ZR,Z6,Z1,ZU,ZT,ZZ,Z4,ZS,ZP,ZX,Z5,Z0,ZV,Z3,ZQ,implies_true,forall_const,Xr,Xs,Xx,Xk,Xl,Xt,Xu,ZH,ZJ,unA,Zv,ZC,unG,reduceCtorEq,Zk,decide_eq_true_eq,Xm,Xi,ite_self,↓reduceIte,Zz,ZI,gcT,gcA,Zx,Zn,Zg,Zm,Zy,Zb,Zt,Zo,ZF,Xp,Zfw,Zd2,ZfA,ZfQ,Zd7,Zgb,Zeu,Z2,ZL,ZW,ZO,ZK,ZN,h1,e1,e3,hb,hL,AVal.cells]
theorem Zkr (l:List Tx) (hl:l.length<=9223372036854775807) (v:Tx):E 10 [.lst false (l.map AVal.str),.str v] []=some (.bool (l.contains v),[]):=by
 have h:=ZjU l hl v l 0 rfl
 have z0:((0:Nat):Int)=0:=rfl
 rw [z0] at h
 unfold ZeW at h
 generalize l.map AVal.str=S at *
 rw [Zbo (by rfl) Zqz]
 simp -implicitDefEqProofs only [EQA,ZR,Z6,Z1,ZU,ZT,ZZ,Z4,ZS,ZP,ZX,Z5,Z0,ZV,Z3,ZQ,implies_true,forall_const,Xr,Xs,Xx,Xk,Xl,Xt,Xu,ZH,ZJ,unA,Zv,ZC,unG,reduceCtorEq,Zk,decide_eq_true_eq,Xm,Xi,ite_self,↓reduceIte,Zz,ZI,gcT,gcA,Zx,Zn,Zg,Zm,Zy,Zb,Zt,Zo,ZF,Xp,Zfw,Zd2,ZfA,ZfQ,Zd7,Zgb,Zeu,Z2,ZL,ZW,ZO,ZK,ZN,AVal.cells]
 exact h
theorem ZlM (l:List Tx) (b:Bool) (hl:l.length<=9223372036854775807) (v:Tx) (σ:Za) (sq own:Nat):Zi E BY σ sq 10 own true [.lst b (l.map AVal.str),.str v]=some (.bool (l.contains v),σ,{}) :=
 ZcX (Zkr l hl v) (by kernel_rfl) rfl rfl rfl (fun _=>rfl) σ sq own
theorem ZiO (l:List Tx) (hl:l.length<=9223372036854775807) (v:Tx) {σ:Za} {t:Nat} (hs:σ[t]?=some (.row 0 1 (l.map AVal.str))) (sq own:Nat):Zi E BY σ sq 10 own true [.sl t 0 0 l.length,.str v]=some (.bool (l.contains v),σ,{ rd:=[t] }):=by
 refine Zd8 (by kernel_rfl) (vs:=[.lst false (l.map AVal.str),.str v]) ?_ rfl rfl (Zkr l hl v) rfl rfl sq own
 have he:=ZeF σ t 0 l.length false (l.map AVal.str) (by simp) hs
 simp only [showAs,showA,ZaI,he,XK]
end
section
set_option maxRecDepth 100000
mutual
def eqV:AVal->AVal->Bool
 | .int k n,.int k' n'=>decide (k=k') && n == n'
 | .bool a,.bool b=>a == b
 | .str a,.str b=>a == b
 | .lst a xs,.lst b ys=>a == b && ZcL xs ys
 | .agg xs,.agg ys=>ZcL xs ys
 | .ref a b,.ref c d=>a == c && b == d
 | .sl a b c d,.sl a' b' c' d'=>a == a' && (b == b' && (c == c' && d == d'))
 | .map a,.map b=>a == b
 | .fn f xs,.fn g ys=>f == g && ZcL xs ys
 | _,_=>false
def ZcL:List AVal->List AVal->Bool
 | [],[]=>true
 | x::xs,y::ys=>eqV x y && ZcL xs ys
 | _,_=>false
end
mutual
theorem Zhj:∀ {a b:AVal},eqV a b=true->a=b
 | .int k n,.int k' n',h=>by
  simp only [eqV,Xc,decide_eq_true_eq,beq_iff_eq] at h
  rw [h.1,h.2]
 | .bool a,.bool b,h=>by
  simp only [eqV,beq_iff_eq] at h
  rw [h]
 | .str a,.str b,h=>by
  simp only [eqV,beq_iff_eq] at h
  rw [h]
 | .lst a xs,.lst b ys,h=>by
  simp only [eqV,Xc,beq_iff_eq] at h
  rw [h.1,Zc4 h.2]
 | .agg xs,.agg ys,h=>by
  simp only [eqV] at h
  rw [Zc4 h]
 | .ref a b,.ref c d,h=>by
  simp only [eqV,Xc,beq_iff_eq] at h
  rw [h.1,h.2]
 | .sl a b c d,.sl a' b' c' d',h=>by
  simp only [eqV,Xc,beq_iff_eq] at h
  rw [h.1,h.2.1,h.2.2.1,h.2.2.2]
 | .map a,.map b,h=>by
  simp only [eqV,beq_iff_eq] at h
  rw [h]
 | .fn f xs,.fn g ys,h=>by
  simp only [eqV,Xc,beq_iff_eq] at h
  rw [h.1,Zc4 h.2]
theorem Zc4:∀ {a b:List AVal},ZcL a b=true->a=b
 | [],[],_=>rfl
 | x::xs,y::ys,h=>by
  simp only [ZcL,Xc] at h
  rw [Zhj h.1,Zc4 h.2]
end
def Zf3:List (AVal×AVal)->List (AVal×AVal)->Bool
 | [],[]=>true
 | (a,b)::xs,(c,d)::ys=>eqV a c && (eqV b d && Zf3 xs ys)
 | _,_=>false
theorem Zls:∀ {a b:List (AVal×AVal)},Zf3 a b=true->a=b
 | [],[],_=>rfl
 | (a,b)::xs,(c,d)::ys,h=>by
  simp only [Zf3,Xc] at h
  rw [Zhj h.1,Zhj h.2.1,Zls h.2.2]
def eqB:Zf->Zf->Bool
 | .var a,.var b=>ZcL a b
 | .row g k a,.row g' k' b=>g == g' && (k == k' && ZcL a b)
 | .frow g k a,.frow g' k' b=>g == g' && (k == k' && ZcL a b)
 | .map a,.map b=>Zf3 a b
 | _,_=>false
theorem ZuF:∀ {a b:Zf},eqB a b=true->a=b
 | .var a,.var b,h=>by simp only [eqB] at h;rw [Zc4 h]
 | .row g k a,.row g' k' b,h=>by
  simp only [eqB,Xc,beq_iff_eq] at h
  rw [h.1,h.2.1,Zc4 h.2.2]
 | .frow g k a,.frow g' k' b,h=>by
  simp only [eqB,Xc,beq_iff_eq] at h
  rw [h.1,h.2.1,Zc4 h.2.2]
 | .map a,.map b,h=>by simp only [eqB] at h;rw [Zls h]
def Zfr:Za->Za->Bool
 | [],[]=>true
 | x::xs,y::ys=>eqB x y && Zfr xs ys
 | _,_=>false
theorem Zlw:∀ {a b:Za},Zfr a b=true->a=b
 | [],[],_=>rfl
 | x::xs,y::ys,h=>by
  simp only [Zfr,Xc] at h
  rw [ZuF h.1,Zlw h.2]
section
variable {fs:Nat->Option Zac} {p p':ZaK} {bf:Nat->Bool}
theorem Zlk (K:Nat) (h0:∀ f,p f=none->p' f=none) (h1:∀ f g,p f=some g->∀ a σ r,g a σ=some r->ZB fs p' bf K f a σ=some r):∀ n,OLe (ZB fs p bf n) (ZB fs p' bf (n+K))
 | 0=>by intro f a σ r h;simp only [ZB] at h;cases h
 | n+1=>by
  intro f a σ r h
  rw [ZB] at h
  split at h
  ·rename_i g hg
   exact Zds fs p' (by omega) f a σ r (h1 f g hg a σ r h)
  ·rename_i hg
   rw [show n+1+K=(n+K)+1 by omega,ZB,h0 f hg]
   split at h
   ·cases h
   ·rename_i fn hfn
    exact Ze7 (fun q hq=>ZbR (Zlk K h0 h1 n) (by omega) hq) h
end
def Zf0 (a0:List AVal) (σ0:Za) (r0:AVal×Za):ZaK:=fun f=>if f=23 then some (fun a σ=>if ZcL a a0 && Zfr σ σ0 then some r0 else none) else PR f
theorem ZoD {a0:List AVal} {σ0:Za} {r0:AVal×Za} (h:EG 23 a0 σ0=some r0) {n f:Nat} {a:List AVal} {σ:Za} {r:AVal×Za} (hr:ZB FC (Zf0 a0 σ0 r0) BY n f a σ=some r):EG f a σ=some r:=by
 obtain ⟨K,hK⟩:=Zbd.1 h
 have hO:=Zlk (fs:=FC) (bf:=BY) (p:=Zf0 a0 σ0 r0) (p':=PRG) (K+1) (fun f hf'=>?_) (fun f g hg a σ r hr=>?_) n f a σ r hr
 ·exact Zbd.2 ⟨_,hO⟩
 ·unfold Zf0 at hf'
  split at hf'
  ·cases hf'
  ·rename_i hne
   unfold PRG
   rw [if_neg hne]
   exact hf'
 ·unfold Zf0 at hg
  split at hg
  ·rename_i e
   subst e
   injection hg with hg;subst hg
   dsimp only at hr
   split at hr
   ·rename_i hc
    simp only [Xc] at hc
    injection hr with hr;subst hr
    rw [Zc4 hc.1,Zlw hc.2]
    exact Zds FC PRG (by omega) _ _ _ _ hK
   ·cases hr
  ·rename_i hne
   rw [ZB]
   have : PRG f=some g:=by unfold PRG;rw [if_neg hne];exact hg
   rw [this]
   exact hr
def sh1:Tx:=[36,115,104,97,114,101,47,103,47,97]
def es1:List (AVal×AVal):=[(.str sh1,.sl 2 0 0 2)]
def aM:List AVal:=[.ref 0 0,.fn 25 [.ref 3 0]]
def hM:Za:=[.var [.map 1],.map es1,.frow 0 1 [.str [120],.str [121]],.var [.str [97]]]
def hM2:Za:=[.var [.map 1],.map es1,.frow 0 1 [.str [120],.str [121]],.var [.str [97]],.row 0 1 [.str sh1]]
def tmA:Tms:=[(5,.lst true []),(1,.fn 25 [.ref 3 0]),(0,.ref 0 0)]
def tmB:Tms:=((ZbX BY Zev tmA hM).getD ([],[])).1
def tmC:Tms:=((ZbX BY Zbv (tput (gcT 4 (keepL [10,5,1] tmB) hM).1 (some 14) (.tup [.str sh1,.sl 2 0 0 2])) ((gcT 4 (keepL [10,5,1] tmB) hM).2.set 1 (.rmap es1))).getD ([],[])).1
def hC:Za:=(gcT 4 (keepL [10,5,1] tmB) hM).2.set 1 (.rmap es1)
noncomputable def exD:Option (Zab×Tms×Za):=Zr (ZB FC PR BY 60) BY 4 60 c2S tmC hC
noncomputable def tmD:Tms:=(exD.getD (.normal,[],[])).2.1
noncomputable def hD:Za:=(exD.getD (.normal,[],[])).2.2
noncomputable def tmE:Tms:=tput tmD (some 10) (.map 1)
noncomputable def hE:Za:=hD.set 1 (.map es1)
noncomputable def exF:Option (Zab×Tms×Za):=Zr (ZB FC PR BY 60) BY 4 60 c3S (gcT 4 (keepL [10,5,1] tmE) hE).1 (gcT 4 (keepL [10,5,1] tmE) hE).2
theorem Zo3:ZcC FC PR BY 4 [10,5,1] 10 14 1 Zbv c2S es1 (.str sh1,.sl 2 0 0 2) tmB hM=some (tmE,hE):=by
 have g1:tget (gcT 4 (keepL [10,5,1] tmB) hM).1 10=.map 1:=by kernel_rfl
 have g2:(gcT 4 (keepL [10,5,1] tmB) hM).2[1]?=some (.map es1):=by kernel_rfl
 have g3:∀ p ∈ es1,Zeq (gcT 4 (keepL [10,5,1] tmB) hM).2.length p.2=true:=by
  intro p hp
  obtain rfl:=XV.1 hp
  kernel_rfl
 have g4:ZbX BY Zbv (tput (gcT 4 (keepL [10,5,1] tmB) hM).1 (some 14) (.tup [.str sh1,.sl 2 0 0 2])) ((gcT 4 (keepL [10,5,1] tmB) hM).2.set 1 (.rmap es1))=some (tmC,hC):=by kernel_rfl
 have g5:(gcT 4 (keepL [10,5,1] tmB) hM).2.length=4:=by kernel_rfl
 have g6:evC FC PR BY 4 c2S tmC hC=some (.normal,tmD,hD):=Zam.2 ⟨60,by kernel_rfl⟩
 have g7:hD[1]?=some (.rmap es1)/\Zca ((gcT 4 (keepL [10,5,1] tmB) hM).2.set 1 (.rmap es1)) hD=true:=⟨by kernel_rfl,by kernel_rfl⟩
 unfold ZcC
 rw [g1]
 simp only
 rw [if_pos ⟨g2,g3⟩,g4]
 simp only
 rw [g5,g6]
 simp only
 rw [if_pos g7]
 rfl
theorem Zs6:Zco FC PR BY 4 [10,5,1] c3S [.tmp 4] tmE hE=some (.sl 4 0 0 1,hM2):=by
 have g1:∃ r,evC FC PR BY 4 c3S (gcT 4 (keepL [10,5,1] tmE) hE).1 (gcT 4 (keepL [10,5,1] tmE) hE).2=some r/\Zax 4 ⟨[.tmp 4],c3S⟩ (some r)=some (.sl 4 0 0 1,hM2):=by
  refine ⟨exF.getD (.normal,[],[]),Zam.2 ⟨60,by kernel_rfl⟩,by kernel_rfl⟩
 obtain ⟨r,h1,h2⟩:=g1
 unfold Zco
 rw [h1,h2]
theorem Zf5 {es:List (AVal×AVal)} {tm:Tms} {σ:Za} {out:AVal×Za} {m ms en b1:Nat} {live:List Nat} {aslE:List AOp} {c2 c3:Zl} {rs:List Zbr} (h:∀ es':List (AVal×AVal),es'.Perm es->ZcE FC PR BY m live ms en b1 aslE c2 c3 rs es es' tm σ=some out):ZdF FC PR BY m live ms en b1 aslE c2 c3 rs es tm σ=some out:=by
 have h':∃ out,∀ es':List (AVal×AVal),es'.Perm es->ZcE FC PR BY m live ms en b1 aslE c2 c3 rs es es' tm σ=some out:=⟨out,h⟩
 unfold ZdF
 rw [dif_pos h']
 have:=(h'.choose_spec es (XaL _)).symm.trans (h es (XaL _))
 exact this
theorem Zt5:EG 23 aM hM=some (.sl 4 0 0 1,hM2):=by
 have k1:evC FC PR BY 4 c1S (enterA 0 aM []) hM=some (.normal,tmA,hM):=Zam.2 ⟨20,by kernel_rfl⟩
 have k2:ZbX BY Zev tmA hM=some (tmB,hM):=by kernel_rfl
 have k3:tget tmB 10=.map 1:=by kernel_rfl
 have k4:hM[1]?=some (.map es1):=by kernel_rfl
 have k5:hM.length=4:=rfl
 have k6:ZdF FC PR BY 4 [10,5,1] 10 14 1 Zbv c2S c3S [.tmp 4] es1 tmB hM=some (.sl 4 0 0 1,hM2):=by
  refine Zf5 fun es' hp=>?_
  have : es'=es1:=Xax.1 hp
  subst this
  unfold ZcE
  have hf:Za9 FC PR BY 4 [10,5,1] 10 14 1 Zbv c2S es1 es1 tmB hM=some (tmE,hE):=by
   show (match ZcC FC PR BY 4 [10,5,1] 10 14 1 Zbv c2S es1 (.str sh1,.sl 2 0 0 2) tmB hM with
    | some (tm',σ')=>Za9 FC PR BY 4 [10,5,1] 10 14 1 Zbv c2S es1 [] tm' σ'
    | none=>none)=some (tmE,hE)
   rw [Zo3]
   rfl
  rw [hf]
  exact Zs6
 rw [Ziy]
 unfold Zer Zea
 rw [k5,k1]
 simp only
 rw [k2]
 simp only
 rw [k3]
 simp only
 rw [k4]
 exact k6
theorem ZrG:EG 6 [] []=some (.bool true,[]):=ZoD Zt5 (n:=60) (by kernel_rfl)
theorem Zyq (σ:Za) (sq own:Nat):Zi EG BY σ sq 6 own true []=some (.bool true,σ,{}) :=
 ZcX ZrG (by kernel_rfl) rfl rfl rfl (fun _=>rfl) _ _ _
end
section
theorem xwG (c d:Zl) (h:c=d) (m:Nat) (tm:Tms) (σ:Za):evC FC PRG BY m c tm σ=evC FC PRG BY m d tm σ:=by rw [h]
theorem ZaB {O:Zq} {bf:Nat->Bool} {σ:Za} {sq f own:Nat} {view:Bool} {args vs vs':List AVal} {ids:List Nat} {h0 h:Za} {r:AVal} (hb:bf f=false) (hsh:showAs σ args=some (vs,[])) (hre:Zn σ 1000 (ZM vs) []=ids) (hne:ids.isEmpty=false)
  (hall:(ids.all fun t=>okB (σ.getD t .free))=true) (hvs:ZG (Zg σ 0 ids) vs=vs') (hh:Zm σ 0 ids (Zg σ 0 ids) ids 0=h0) (hask:Zat view ids.length (O f vs' h0)=some (r,h))
  (hl1:h.length<=ids.length+own) (hl2:ids.length<=h.length) (hk:Zbq σ ids h 0=true) (hff:Zb0 σ sq own=true) {r':AVal} (hr:Ze (ZaC σ ids sq) r=r') {σ':Za} (hlay:ZaR σ ids sq h 0 σ=σ') {u:List (Nat×List AVal)} (hu:Zby σ' ids=u) :
  Zi O bf σ sq f own view args=some (r',σ',{ any:=true,upd:=u }):=by
 cases hO:O f vs' h0 with
 | none =>
  rw [hO] at hask
  unfold Zat at hask
  split at hask <;> cases hask
 | some p =>
  rw [hO] at hask
  exact Zs0 hb hsh hre hne hall hvs hh hO hask hl1 hl2 hk hff hr hlay hu
def Zit (ms:List Tx) (c:Tx):List Tx:=if ms.contains c then ms else ms++[c]
theorem Zpk {ms:List Tx} {c:Tx} (h:ms.Nodup):(Zit ms c).Nodup:=by
 unfold Zit
 split
 ·exact h
 ·rename_i hc
  rw [WV]
  refine ⟨h,by simp,?_⟩
  intro a ha b hb
  obtain rfl:=XV.1 hb
  rintro rfl
  exact hc (by simpa using ha)
section
variable (cl first:List Tx) (d:Nat) (hcl:cl.length<=12)
include hcl
end
end
section
theorem ZuZ (ms:List Tx):amF [] false ms=ms:=by
 unfold amF
 exact List.filter_eq_self.2 fun x _=>rfl
section
variable (fz:Bool) (ms first but:List Tx) (hl:ms.length<=1000000) (hf:first.length<=9223372036854775807) (hbt:but.length<=9223372036854775807) (d:Nat) (hd:d<=1000000000) (a b:Bool)
include hl hf hbt hd
end
def drawn (ms:List Tx) (d j:Nat):Tx:=ms.getD ((d+j) % ms.length) []
section
variable (ms:List Tx) (hne:ms≠[]) (hnd:ms.Nodup) (hl:ms.length<=12) (d:Nat) (hd:d<=16777215)
include hne
include hnd
end
section
variable (ms:List Tx) (hne:ms≠[]) (hnd:ms.Nodup) (hl:ms.length<=12) (d:Nat) (hd:d<=16777215) (first:List Tx) (hf:first.length<=9223372036854775807)
include hne hnd hl hd hf
end
end
section
def Zja (first l:List Tx):Bool:=l.any fun x=>first.contains x
theorem ZyH (ms first:List Tx) (hne:ms≠[]) (d:Nat):∃ s,chS (chL first [] ms) d=.tup [.str s,.bool true]/\(Zja first ms=true->first.contains s=true):=by
 have key:∀ (L:List Tx),L≠[]->∃ s,s ∈ L/\chS L d=.tup [.str s,.bool true]:=by
  intro L hL
  have hp:0 < L.length:=Xab.2 hL
  have hm:=Nat.mod_lt d hp
  refine ⟨L[d % L.length],List.getElem_mem hm,?_⟩
  unfold chS
  rw [Xz hm]
 unfold chL
 rw [ZuZ]
 by_cases h:amF first true ms=[]
 ·rw [if_pos h]
  obtain ⟨s,_,hs⟩:=key ms hne
  refine ⟨s,hs,fun ha=>?_⟩
  exfalso
  unfold Zja at ha
  obtain ⟨x,hx,hc⟩:=List.any_eq_true.1 ha
  unfold amF at h
  have:=(List.filter_eq_nil_iff.1 h) x hx
  rw [hc] at this
  exact this rfl
 ·rw [if_neg h]
  obtain ⟨s,hs,e⟩:=key _ h
  refine ⟨s,e,fun _=>?_⟩
  unfold amF at hs
  have:=(List.mem_filter.1 hs).2
  simpa using this
section
variable (ms:List Tx) (hne:ms≠[]) (hl:ms.length<=12) (d:Nat) (hd:d<=16777215) (first:List Tx) (hf:first.length<=9223372036854775807)
include hne hl hd hf
end
theorem ZmH:Zi E BY [.free,.free] 0 5 2 false []=some (.ref 0 0,[.var [.map 1],.map []],{ any:=true }):=by
 have h:E 5 [] []=some (.ref 0 0,[.var [.map 1],.map []]):=Zbd.2 ⟨20,by kernel_rfl⟩
 unfold Zi Zbx
 rw [show BY 5=false by kernel_rfl]
 simp only [Xg,if_false,showAs]
 rw [show ZM ([]:List AVal)=[] from rfl,show Zj [Zf.free,Zf.free] []=[.free,.free] from rfl,show Zn [Zf.free,Zf.free] 1000 [] []=[] from rfl]
 unfold Za5
 rw [if_pos (by rfl),show ZG (Zg [Zf.free,Zf.free] 0 []) []=[] from rfl,show Zm [Zf.free,Zf.free] 0 [] (Zg [Zf.free,Zf.free] 0 []) [] 0=[] from rfl,h]
 rfl
end
section
theorem ZdW {i y:Nat} (h:i<=y):Zb8 (.int .i64 (i:Int)) y=some i:=by
 simp only [Zb8]
 rw [if_pos ⟨by omega,by omega⟩]
 simp
section
variable {σ:Za} {t p n i j m:Nat} {xs:List AVal} (hs:σ[t]?=some (.row 0 1 xs)) (hn:p+n<=xs.length)
include hs hn
theorem ZdB:Zk σ (.sl t 0 p n)=some ((xs.drop p).take n,[t]):=by
 simp only [Zk,hs]
 rw [if_pos ⟨trivial,hn⟩]
theorem Zud (h1:i<=j) (h2:j<=m) (h3:m<=n) (h0:0 < m):ZaP σ 1 (.sl t 0 p n) (some (.int .i64 (i:Int))) (some (.int .i64 (j:Int))) (some (.int .i64 (m:Int)))=some (.any,σ,{ rd:=[t] }):=by
 have hb:Zb8 (.int .i64 (m:Int)) 0=none:=by
  simp only [Zb8]
  rw [if_neg (by omega)]
 simp only [ZaP,ZdB hs hn,Zau,hb,ZdW h3,ZdW h2,ZdW h1]
theorem Zjx (h1:j<=xs.length - p):ZaP σ 1 (.sl t 0 p n) none (some (.int .i64 (j:Int))) none=some (.sl t 0 p j,σ,{ rd:=[t] }):=by
 simp only [ZaP,ZdB hs hn,hs,Zau,ZdW h1,X4,Nat.sub_zero,if_true]
theorem ZjR (h1:i<=n):ZaP σ 1 (.sl t 0 p n) (some (.int .i64 (i:Int))) none none=some (.sl t 0 (p+i) (n - i),σ,{ rd:=[t] }):=by
 simp only [ZaP,ZdB hs hn,hs,Zau,ZdW h1,if_true]
theorem Zrr (h1:i<=j) (h2:j<=xs.length - p):ZaP σ 1 (.sl t 0 p n) (some (.int .i64 (i:Int))) (some (.int .i64 (j:Int))) none=some (.sl t 0 (p+i) (j - i),σ,{ rd:=[t] }):=by
 simp only [ZaP,ZdB hs hn,hs,Zau,ZdW h2,ZdW h1,if_true]
end
theorem Zxs (L:List Tx) (hl:L.length<=1000000) (i:Nat) (hi:i < L.length):E 22 [.sl 0 0 0 L.length,.int .i64 (i:Int),.int .i64 ((i+1:Nat):Int)] [.row 0 1 (L.map AVal.str)]=some (.sl 0 0 0 (L.length - 1),[.row 0 1 ((L.eraseIdx i).map AVal.str++[.str []])]):=by
 have hS1:(L.map AVal.str).length=L.length:=by simp
 have h0:((i:Int) == ((i+1:Nat):Int))=false:=by simp;omega
 have hs:∀ (xs:List AVal) (r:Za),(.row 0 1 xs::r:Za)[0]?=some (.row 0 1 xs):=fun _ _=>rfl
 have g1:=fun r=>Zud (hs (L.map AVal.str) r) (p:=0) (n:=L.length) (i:=i) (j:=i+1) (m:=L.length) (by omega) (by omega) (by omega) (by omega) (by omega)
 have g2:=fun r=>Zjx (hs (L.map AVal.str) r) (p:=0) (n:=L.length) (j:=i) (by omega) (by omega)
 have g3:=fun r=>ZjR (hs (L.map AVal.str) r) (p:=0) (n:=L.length) (i:=i+1) (by omega) (by omega)
 have hk:kOk 1 ((L.drop (i+1)).map AVal.str)=true:=ZgD _
 have hd:(((L.map AVal.str).drop (0+(i+1))).take (L.length - (i+1)))=(L.drop (i+1)).map AVal.str:=by
  rw [XD,<-List.map_drop,X2 (by simp)]
 have hA:∀ r,Z9 (.row 0 1 (L.map AVal.str)::r) 1 1 16 (.sl 0 0 0 i) (.sl 0 0 (0+(i+1)) (L.length - (i+1)))=some (.sl 0 0 0 (L.length - 1),(.row 0 1 ((L.eraseIdx i).map AVal.str++(L.map AVal.str).drop (L.length - 1))::r),{ rd:=[0],wr:=[0] }):=by
  intro r
  have he:=ZdB (hs (L.map AVal.str) r) (p:=0+(i+1)) (n:=L.length - (i+1)) (by omega)
  rw [hd] at he
  have hdl:((L.drop (i+1)).map AVal.str).length=L.length - (i+1):=by simp
  unfold Z9
  rw [he]
  simp only [hk,hs,if_true,hdl]
  rw [if_pos ⟨trivial,trivial,trivial,by omega⟩,if_neg (by omega),if_pos (by omega)]
  have e1:i+(L.length - (i+1))=L.length - 1:=by omega
  rw [e1,WX,Wd,XaD]
  rfl
 have g4:=fun r=>Zrr (hs ((L.eraseIdx i).map AVal.str++(L.map AVal.str).drop (L.length - 1)) r) (p:=0) (n:=L.length - 1) (i:=L.length - 1) (j:=L.length) (by simp [WS,hi]) (by omega) (by simp [WS,hi])
 have e9:L.length - (L.length - 1)=1:=by omega
 simp only [e9,XD] at g4
 have hl1:((L.eraseIdx i).map AVal.str).length=L.length - 1:=by simp [WS,hi]
 have hl2:((L.map AVal.str).drop (L.length - 1)).length=1:=by simp;omega
 have hd1:((L.eraseIdx i).map AVal.str++(L.map AVal.str).drop (L.length - 1)).drop (L.length - 1+1)=[]:=X7 (by rw [XA];omega)
 have ht1:((L.eraseIdx i).map AVal.str++(L.map AVal.str).drop (L.length - 1)).take (L.length - 1)=(L.eraseIdx i).map AVal.str:=by rw [WZ (by omega),X2 (by omega)]
 have hl3:L.length - 1+1<=((L.eraseIdx i).map AVal.str++(L.map AVal.str).drop (L.length - 1)).length:=by rw [XA];omega
 have ho:∀ x,Zas 1 [.row 0 1 ((L.eraseIdx i).map AVal.str++[.str []]),x] (.sl 0 0 0 (L.length - 1))=some (.sl 0 0 0 (L.length - 1),[.row 0 1 ((L.eraseIdx i).map AVal.str++[.str []])]):=fun _=>rfl
 simp only [XD] at g3 hA
 generalize L.map AVal.str=S at *
 generalize (L.eraseIdx i).map AVal.str=R at *
 rw [Zbo (by rfl) Zml]
 simp -implicitDefEqProofs only [EQA,ZR,Z6,Z1,ZU,ZT,ZZ,Z4,ZS,ZP,ZX,Z5,Z0,ZV,Z3,ZQ,implies_true,forall_const,Xr,Xs,Xx,Xk,Xl,Xt,Xu,ZH,ZJ,unA,Zv,ZC,unG,reduceCtorEq,Zk,decide_eq_true_eq,Xm,Xi,ite_self,↓reduceIte,Zz,ZI,gcT,gcA,Zx,Zn,Zg,Zm,Zy,Zb,Zt,Zo,ZF,Xp,Zuq,ZhJ,Zvy,Z2,ZL,ZW,ZO,ZK,ZN,hS1,h0,g1,g2,g3,g4,hA,hl3,ht1,hd1,ho,XK,Zcx,Zce,ZcP,Zbn,WP,WY,XH,XW,XS,XX,Zcw,Zcn,Zcs,Zck,ZcA,XN,XY,ZaD,ZaJ,ZaM,ZbJ,ZbI,Zbz,ZbY,Zb4,ZaY,ZbZ,We,WB,XH,XW,Wa]
end
section
theorem ZsS {O:Zq} {bf:Nat->Bool} {σ:Za} {t sq f own k lo n:Nat} {args args' xs xs':List AVal} (hs:σ[t]?=some (.row 0 k xs)) (hb:bf f=true) (hff:Zb0 σ sq own=true)
  (href:ZM args=[t]) (hren:∀ ρ:Rho,ρ t 0=some (0,0)->ZG ρ args=args')
  (h:O f args' [.row 0 k xs]=some (.sl 0 0 lo n,[.row 0 k xs'])):Zi O bf σ sq f own false args=some (.sl t 0 lo n,σ.set t (.row 0 k xs'),{ any:=true }):=by
 have hd:σ.getD t .free=.row 0 k xs:=by simp [Xd,hs]
 have hf0:Zj σ []=σ:=rfl
 unfold Zi Zbx
 rw [hb]
 simp only [if_true,hf0,href]
 have hreach:Zn σ 1000 [t] []=[t]:=by
  simp only [Zn,Wa,Xg,if_false,hd,ZF,Wc]
 rw [hreach]
 unfold Za5
 have hall:([t].all fun t=>okB (σ.getD t .free))=true:=by simp [XH,XW,hs,okB]
 rw [if_pos hall]
 have hρ:Zg σ 0 [t] t 0=some (0,0):=by simp [Zg,Zy,hs,Zb,Zt]
 have hheap:Zm σ 0 [t] (Zg σ 0 [t]) [t] 0=[.row 0 k xs]:=by
  simp only [Zm,hd,Zt,Zb,Zo,Nat.not_lt_zero,false_and,if_false]
 rw [hren _ hρ,hheap]
 simp only [XS,XX,XD]
 rw [h]
 have hk:Zbq σ [t] [.row 0 k xs'] 0=true:=by simp [Zbq,okB,hs,Zdx,Zb]
 have hren':∀ ρ,Zo ρ (Zbu σ [t] 0 (.row 0 k xs')) (.row 0 k xs')=.row 0 k xs':=by
  intro ρ
  simp [Zbu,hs,Zb,Zo]
 have hr:Ze (ZaC σ [t] sq) (.sl 0 0 lo n)=.sl t 0 lo n:=by
  simp [Ze,ZaC,Zb,hs]
 simp only [Zat,Xg,if_false,Zal,XaC,XaA,XS,XX,XD,Nat.le_add_right,XO,decide_true,hk,hff,WI,if_true,ZaR,Zby,Zaq,XN,hr,hren']
 have htl:t < σ.length:=(Xe.1 hs).1
 have hg:(σ.set t (.row 0 k xs'))[t]?=some (.row 0 k xs'):=by simp [htl]
 simp only [XR,Xap,XK,hg]
theorem Zvr (L:List Tx) (hl:L.length<=1000000) (i:Nat) (hi:i < L.length) {σ:Za} {t:Nat} (hs:σ[t]?=some (.row 0 1 (L.map AVal.str))) (sq:Nat):Zi E BY σ sq 22 0 false [.sl t 0 0 L.length,.int .i64 (i:Int),.int .i64 ((i+1:Nat):Int)]=some (.sl t 0 0 (L.length - 1),σ.set t (.row 0 1 ((L.eraseIdx i).map AVal.str++[.str []])),{ any:=true }) :=
 ZsS hs (by kernel_rfl) rfl rfl (fun ρ h=>by simp [ZG,Ze,h]) (Zxs L hl i hi)
theorem ZhV (σ:Za) (t g n:Nat) (fz:Bool) (S X:List AVal) (hn:n=S.length) (hs:σ[t]?=some (Zd fz g (S++X))):Zk σ (.sl t g 0 n)=some (S,[t]):=by
 subst hn
 cases fz <;> simp only [Zd,Xg,if_false,if_true] at hs <;> simp [Zk,hs]
theorem Zhw (l:List Tx) (hl:l.length<=9223372036854775807) (v:Tx) {σ:Za} {t g:Nat} {fz:Bool} {X:List AVal} (hs:σ[t]?=some (Zd fz g (l.map AVal.str++X))) (sq own:Nat):Zi E BY σ sq 21 own true [.sl t g 0 l.length,.str v]=some (.int .i64 (ZaE v 0 l),σ,{ rd:=[t] }):=by
 refine Zd8 (by kernel_rfl) (vs:=[.lst false (l.map AVal.str),.str v]) ?_ rfl rfl (ZhT l hl v) rfl rfl sq own
 have he:=ZhV σ t g l.length fz (l.map AVal.str) X (by simp) hs
 simp only [showAs,showA,ZaI,he,XK]
theorem ZkB (l:List Tx) (hl:l.length<=9223372036854775807) (v:Tx) {σ:Za} {t g:Nat} {fz:Bool} {X:List AVal} (hs:σ[t]?=some (Zd fz g (l.map AVal.str++X))) (sq own:Nat):Zi E BY σ sq 17 own true [.sl t g 0 l.length,.str v]=some (.bool (l.contains v),σ,{ rd:=[t] }):=by
 refine Zd8 (by kernel_rfl) (vs:=[.lst false (l.map AVal.str),.str v]) ?_ rfl rfl (Zhc l hl v) rfl rfl sq own
 have he:=ZhV σ t g l.length fz (l.map AVal.str) X (by simp) hs
 simp only [showAs,showA,ZaI,he,XK]
theorem Zpr (σ:Za) (sq t:Nat) (fz:Bool) (L:List Tx) (X:List AVal) (h:L.length<=1000000) (hs:σ[t]?=some (Zd fz 0 (L.map AVal.str++X))):Zi E BY σ sq 18 1 false [.sl t 0 0 L.length]=some (.sl sq 0 0 L.length,σ.set sq (.row 0 1 (L.map AVal.str)),{ rd:=[t] }):=by
 have he:=ZhV σ t 0 L.length fz (L.map AVal.str) X (by simp) hs
 have hsh:showAs σ [.sl t 0 0 L.length]=some ([.lst false (L.map AVal.str)],[t]):=by
  simp only [showAs,showA,ZaI,he,XK]
 have hb:BY 18=false:=by kernel_rfl
 unfold Zi Zbx
 rw [hb]
 simp only [Xg,if_false,hsh]
 have h0:Zn (Zj σ [t]) 1000 (ZM [.lst false (L.map AVal.str)]) []=[]:=rfl
 rw [h0]
 unfold Za5
 simp only [XW,if_true,Zm,XX,ZG,Ze,Zat,Xg,if_false]
 rw [Zka L h]
 have hf:=Zjo L
 simp only [Zal,WG,XaC,Bool.and_false,Xg,if_false,if_true,Zeo,hf,decide_true,WI,Wz]
def gX (fz:Bool) (sh:Tx) (ms:List Tx) (X:List AVal):Za:=[.var [.map 1],.map [(.str sh,.sl 2 0 0 ms.length)],Zd fz 0 (ms.map AVal.str++X)]
theorem Zqp {sh:Tx} {σ:Za} {u:AVal} (hs:σ[1]?=some (.map [(.str sh,u)])):ZdY σ 2 (.map 1) (.str sh)=some (.tup [],σ.set 1 (.map []),{ wr:=[1] }):=by
 simp [ZdY,Zag,hs,ZbD,ZbO]
theorem Zjs (v:Tx):∀ (r:List Tx) (i:Nat),r.contains v=false->ZaE v i r=-1
 | [],i,_=>rfl
 | x::r,i,h=>by
  rw [WO,Xat] at h
  unfold ZaE
  rw [h.1,if_neg (by simp)]
  exact Zjs v r (i+1) h.2
theorem Zi2 (v:Tx):∀ (r:List Tx) (i:Nat),r.contains v=true->∃ j,j < r.length/\ZaE v i r=((i+j:Nat):Int)/\r[j]?=some v
 | [],i,h=>by simp at h
 | x::r,i,h=>by
  unfold ZaE
  cases hb:(v == x) with
  | true =>
   rw [if_pos rfl]
   exact ⟨0,by simp,rfl,by simp [eq_of_beq hb]⟩
  | false =>
   rw [WO,hb,XaP] at h
   obtain ⟨j,h1,h2,h3⟩:=Zi2 v r (i+1) h
   rw [if_neg (by simp)]
   exact ⟨j+1,by simp;omega,by rw [h2];congr 1;omega,by simpa using h3⟩
section
variable (sh:Tx) (c:Tx)
theorem Zks:E 12 [.ref 0 0,.str sh,.str c] gN=some (.bool false,gN):=by
 have hk:=fun {σ:Za} {z:AVal} hs=>ZjO sh (σ:=σ) (z:=z) hs
 have hC:∀ (σ:Za) (sq own:Nat),Zi E BY σ sq 21 own true [.lst true [],.str c]=some (.int .i64 (-1),σ,{}):=fun σ sq own=>ZcX (ZhT [] (by decide) c) (by kernel_rfl) rfl rfl rfl (fun _=>rfl) σ sq own
 have m1:(-1:Int) < 0:=by decide
 have ho:Zas 2 [.var [.map 1],.map []] (.bool false)=some (.bool false,[.var [.map 1],.map []]):=rfl
 unfold gN
 rw [Zbo (by rfl) ZfP]
 simp -implicitDefEqProofs only [EQA,ZR,Z6,Z1,ZU,ZT,ZZ,Z4,ZS,ZP,ZX,Z5,Z0,ZV,Z3,ZQ,implies_true,forall_const,Xr,Xs,Xx,Xk,Xl,Xt,Xu,ZH,ZJ,unA,Zv,ZC,unG,reduceCtorEq,Zk,decide_eq_true_eq,Xm,Xi,ite_self,↓reduceIte,Zz,ZI,gcT,gcA,Zx,Zn,Zg,Zm,Zy,Zb,Zt,Zo,ZF,Xp,Zfu,Zd9,ZfH,Z2,ZL,ZW,ZO,ZK,ZN,hC,hk,ho,m1,AVal.cells]
variable (fz:Bool) (ms:List Tx) (X:List AVal) (hl:ms.length<=1000000)
include hl
theorem Zxg (hc:ms.contains c=false):E 12 [.ref 0 0,.str sh,.str c] (gX fz sh ms X)=some (.bool false,gX fz sh ms X):=by
 have hk:=fun {σ:Za} {z:AVal} hs=>Zdy sh (σ:=σ) (z:=z) (v:=.sl 2 0 0 ms.length) hs
 have hC:=fun {σ:Za} hs sq own=>Zhw ms (by omega) c (σ:=σ) (t:=2) (g:=0) (fz:=fz) (X:=X) hs sq own
 rw [Zjs c ms 0 hc] at hC
 have m1:(-1:Int) < 0:=by decide
 have ho:Zas 3 [.var [.map 1],.map [(.str sh,.sl 2 0 0 ms.length)],Zd fz 0 (ms.map AVal.str++X)] (.bool false)=some (.bool false,[.var [.map 1],.map [(.str sh,.sl 2 0 0 ms.length)],Zd fz 0 (ms.map AVal.str++X)]):=by cases fz <;> rfl
 unfold gX
 generalize Zd fz 0 (ms.map AVal.str++X)=R at *
 rw [Zbo (by rfl) ZfP]
 simp -implicitDefEqProofs only [EQA,ZR,Z6,Z1,ZU,ZT,ZZ,Z4,ZS,ZP,ZX,Z5,Z0,ZV,Z3,ZQ,implies_true,forall_const,Xr,Xs,Xx,Xk,Xl,Xt,Xu,ZH,ZJ,unA,Zv,ZC,unG,reduceCtorEq,Zk,decide_eq_true_eq,Xm,Xi,ite_self,↓reduceIte,Zz,ZI,gcT,gcA,Zx,Zn,Zg,Zm,Zy,Zb,Zt,Zo,ZF,Xp,Zfu,Zd9,ZfH,Z2,ZL,ZW,ZO,ZK,ZN,hC,hk,ho,m1,AVal.cells]
theorem Zkx (hc:ms=[c]):E 12 [.ref 0 0,.str sh,.str c] (gX fz sh ms X)=some (.bool true,[.var [.map 1],.map [],Zd fz 0 (ms.map AVal.str++X)]):=by
 have hk:=fun {σ:Za} {z:AVal} hs=>Zdy sh (σ:=σ) (z:=z) (v:=.sl 2 0 0 ms.length) hs
 have hC:=fun {σ:Za} hs sq own=>Zhw ms (by omega) c (σ:=σ) (t:=2) (g:=0) (fz:=fz) (X:=X) hs sq own
 have hi:ZaE c 0 ms=0:=by subst hc;simp [ZaE]
 have hn:ms.length=1:=by subst hc;rfl
 rw [hi] at hC
 rw [hn] at hk hC
 have hd:=fun {σ:Za} hs=>Zqp (sh:=sh) (σ:=σ) (u:=.sl 2 0 0 1) hs
 have ho:Zas 3 [.var [.map 1],.map [],Zd fz 0 (ms.map AVal.str++X)] (.bool true)=some (.bool true,[.var [.map 1],.map [],Zd fz 0 (ms.map AVal.str++X)]):=by cases fz <;> rfl
 unfold gX
 rw [hn]
 generalize Zd fz 0 (ms.map AVal.str++X)=R at *
 rw [Zbo (by rfl) ZfP]
 have m1:¬(0:Int) < 0:=by decide
 have m2:(((1:Nat):Int) == 1)=true:=rfl
 simp -implicitDefEqProofs only [EQA,ZR,Z6,Z1,ZU,ZT,ZZ,Z4,ZS,ZP,ZX,Z5,Z0,ZV,Z3,ZQ,implies_true,forall_const,Xr,Xs,Xx,Xk,Xl,Xt,Xu,ZH,ZJ,unA,Zv,ZC,unG,reduceCtorEq,Zk,decide_eq_true_eq,Xm,Xi,ite_self,↓reduceIte,Zz,ZI,gcT,gcA,Zx,Zn,Zg,Zm,Zy,Zb,Zt,Zo,ZF,Xp,Zfu,Zd9,ZfH,Z2,ZL,ZW,ZO,ZK,ZN,hC,hk,hd,ho,m1,m2,AVal.cells]
end
end
section
theorem Zlx (sh c:Tx) (fz:Bool) (ms:List Tx) (X:List AVal) (hl:ms.length<=1000000) (j:Nat) (hj:j < ms.length) (hi:ZaE c 0 ms=((j:Nat):Int)) (h2:2<=ms.length):E 12 [.ref 0 0,.str sh,.str c] (gX fz sh ms X)=some (.bool true,[.var [.map 1],.map [(.str sh,.sl 3 0 0 (ms.length - 1))],Zd fz 0 (ms.map AVal.str++X),.row 0 1 ((ms.eraseIdx j).map AVal.str++[.str []])]):=by
 have hk:=fun {σ:Za} {z:AVal} hs=>Zdy sh (σ:=σ) (z:=z) (v:=.sl 2 0 0 ms.length) hs
 have hC:=fun {σ:Za} hs sq own=>Zhw ms (by omega) c (σ:=σ) (t:=2) (g:=0) (fz:=fz) (X:=X) hs sq own
 rw [hi] at hC
 have m1:¬(j:Int) < 0:=by omega
 have m2:((ms.length:Int) == 1)=false:=by simp;omega
 have e3:=Zdp (i:=j) (n:=ms.length) (by omega) (by omega)
 have hK:=fun {σ:Za} sq hs=>Zpr σ sq 2 fz ms X hl hs
 have hD:=fun {σ:Za} {t:Nat} hs sq=>Zvr ms hl j hj (σ:=σ) (t:=t) hs sq
 have hm:=fun {σ:Za} {v:AVal} hv hs=>ZgO sh (σ:=σ) (v:=v) (u:=.sl 2 0 0 ms.length) hv hs
 have hR:Zd fz 0 (ms.map AVal.str++X)≠.free:=by cases fz <;> simp [Zd]
 have ho:Zas 3 [.var [.map 1],.map [(.str sh,.sl 3 0 0 (ms.length - 1))],Zd fz 0 (ms.map AVal.str++X),.row 0 1 ((ms.eraseIdx j).map AVal.str++[.str []])] (.bool true)=some (.bool true,[.var [.map 1],.map [(.str sh,.sl 3 0 0 (ms.length - 1))],Zd fz 0 (ms.map AVal.str++X),.row 0 1 ((ms.eraseIdx j).map AVal.str++[.str []])]):=by cases fz <;> rfl
 unfold gX
 generalize Zd fz 0 (ms.map AVal.str++X)=R at *
 generalize ms.map AVal.str=S at *
 generalize (ms.eraseIdx j).map AVal.str++[AVal.str []]=S2 at *
 rw [Zbo (by rfl) ZfP]
 simp -implicitDefEqProofs only [EQA,ZR,Z6,Z1,ZU,ZT,ZZ,Z4,ZS,ZP,ZX,Z5,Z0,ZV,Z3,ZQ,implies_true,forall_const,Xr,Xs,Xx,Xk,Xl,Xt,Xu,ZH,ZJ,unA,Zv,ZC,unG,reduceCtorEq,Zk,decide_eq_true_eq,Xm,Xi,ite_self,↓reduceIte,Zz,ZI,gcT,gcA,Zx,Zn,Zg,Zm,Zy,Zb,Zt,Zo,ZF,Xp,Zfu,Zd9,ZfH,Z2,ZL,ZW,ZO,ZK,ZN,hC,hk,hm,hK,hD,ho,m1,m2,e3,AVal.cells,Zu,Zcx,Zce,ZcP,Zbn,WP,WY,XH,XW,XS,XX,Zcw,Zcn,Zcs,Zck,ZcA,XN,XY,ZaD,ZaJ,ZaM,ZbJ,ZbI,Zbz,ZbY,Zb4,ZaY,ZbZ,We,WB,XH,XW,Wa]
end
section
section
variable (sh c:Tx) (fz:Bool) (ms:List Tx) (X:List AVal) (hl:ms.length<=1000000)
theorem ZoF {σ:Za} {z v:AVal} (hs:σ[2]?=some (.rmap [(.str sh,v)])):Zbh σ 2 z false (.map 2) (.str sh)=some (v,σ,{ rd:=[2] }):=by
 simp [Zbh,Zag,hs,ZbD,ZbO,Zdl]
def hK:Za:=[.var [.ref 1 0],.var [.map 2],.rmap [(.str sh,.sl 3 0 0 ms.length)],Zd fz 0 (ms.map AVal.str++X),.var [.str c]]
include hl in
theorem Zw7:E 24 [.str sh,.ref 0 0,.ref 4 0] (hK sh c fz ms X)=some (.bool (ms.contains c),hK sh c fz ms X):=by
 have hk:=fun {σ:Za} {z:AVal} hs=>ZoF sh (σ:=σ) (z:=z) (v:=.sl 3 0 0 ms.length) hs
 have hC:=fun {σ:Za} hs sq own=>ZkB ms (by omega) c (σ:=σ) (t:=3) (g:=0) (fz:=fz) (X:=X) hs sq own
 have ho:∀ b,Zas 5 [.var [.ref 1 0],.var [.map 2],.rmap [(.str sh,.sl 3 0 0 ms.length)],Zd fz 0 (ms.map AVal.str++X),.var [.str c]] (.bool b)=some (.bool b,[.var [.ref 1 0],.var [.map 2],.rmap [(.str sh,.sl 3 0 0 ms.length)],Zd fz 0 (ms.map AVal.str++X),.var [.str c]]):=by intro b;cases fz <;> rfl
 unfold hK
 generalize Zd fz 0 (ms.map AVal.str++X)=R at *
 generalize ms.contains c=q at *
 rw [Zbo (by rfl) ZpR]
 simp -implicitDefEqProofs only [EQA,ZR,Z6,Z1,ZU,ZT,ZZ,Z4,ZS,ZP,ZX,Z5,Z0,ZV,Z3,ZQ,implies_true,forall_const,Xr,Xs,Xx,Xk,Xl,Xt,Xu,ZH,ZJ,unA,Zv,ZC,unG,reduceCtorEq,Zk,decide_eq_true_eq,Xm,Xi,ite_self,↓reduceIte,Zz,ZI,gcT,gcA,Zx,Zn,Zg,Zm,Zy,Zb,Zt,Zo,ZF,Xp,ZeG,ZdS,Zfm,Z2,ZL,ZW,ZO,ZK,ZN,hC,hk,ho,AVal.cells,Zcx,Zce,ZcP,Zbn,WP,WY,XH,XW,XS,XX,Zcw,Zcn,Zcs,Zck,ZcA,XN,XY,ZaD,ZaJ,ZaM,ZbJ,ZbI,Zbz,ZbY,Zb4,ZaY,ZbZ,We,WB,XH,XW,Wa]
def hS (M:Zf):Za:=[.var [.map 1],M,Zd fz 0 (ms.map AVal.str++X),.var [.ref 0 0],.var [.str c]]
include hl in
theorem ZiC:Zi E BY [.var [.map 1],.rmap [(.str sh,.sl 2 0 0 ms.length)],Zd fz 0 (ms.map AVal.str++X),.var [.ref 0 0],.var [.str c],.free,.free,.free,.free] 5 24 4 false [.str sh,.ref 3 0,.ref 4 0]=some (.bool (ms.contains c),[.var [.map 1],.rmap [(.str sh,.sl 2 0 0 ms.length)],Zd fz 0 (ms.map AVal.str++X),.var [.ref 0 0],.var [.str c],.free,.free,.free,.free],{ any:=true,upd:=[(3,[.ref 0 0]),(0,[.map 1]),(4,[.str c])] }):=by
 have h1:=Zw7 sh c fz ms X hl
 unfold hK at h1
 generalize ms.contains c=q at *
 exact ZaB (O:=E) (bf:=BY) (σ:=[.var [.map 1],.rmap [(.str sh,.sl 2 0 0 ms.length)],Zd fz 0 (ms.map AVal.str++X),.var [.ref 0 0],.var [.str c],.free,.free,.free,.free]) (sq:=5) (own:=4) (f:=24) (view:=false) (args:=[.str sh,.ref 3 0,.ref 4 0]) (vs:=[.str sh,.ref 3 0,.ref 4 0]) (vs':=[.str sh,.ref 0 0,.ref 4 0]) (ids:=[3,0,1,2,4]) (h0:=[.var [.ref 1 0],.var [.map 2],.rmap [(.str sh,.sl 3 0 0 ms.length)],Zd fz 0 (ms.map AVal.str++X),.var [.str c]]) (h:=[.var [.ref 1 0],.var [.map 2],.rmap [(.str sh,.sl 3 0 0 ms.length)],Zd fz 0 (ms.map AVal.str++X),.var [.str c]]) (r:=.bool q) (by kernel_rfl) rfl (by cases fz <;> rfl) rfl (by cases fz <;> rfl) (by cases fz <;> rfl) (by cases fz <;> rfl) (by rw [h1];rfl) (Xf rfl) (Xf rfl) (by cases fz <;> rfl) rfl (by cases fz <;> rfl) (by cases fz <;> rfl) (by cases fz <;> rfl)
end
end
section
theorem Zkd (cs:List AVal):ZbB (.var cs)=false:=rfl
theorem Zjz (es:List (AVal×AVal)):ZbB (.rmap es)=true:=rfl
theorem Zj7 (g k:Nat) (xs:List AVal):ZbB (.row g k xs)=false:=rfl
theorem ZkY:ZbB .free=false:=rfl
section
variable (sh c:Tx) (fz:Bool) (ms:List Tx) (X:List AVal) (hl:ms.length<=1000000)
def gFn:AVal:=.fn 24 [.ref 3 0,.ref 4 0]
include hl in
theorem Zxb (hc:ms.contains c=true) (tm:Tms) (σ:Za) (h:gcT 5 (keepL [10,5,1] tm) σ=([(10,.map 1),(5,.lst true []),(1,gFn)],hS c fz ms X (.map [(.str sh,.sl 2 0 0 ms.length)]))) :
  ZcC FC PR BY 5 [10,5,1] 10 14 1 Zbv c2S [(.str sh,.sl 2 0 0 ms.length)] (.str sh,.sl 2 0 0 ms.length) tm σ=some ([(10,.map 1),(5,.sl 9 0 0 1),(1,gFn)],hS c fz ms X (.map [(.str sh,.sl 2 0 0 ms.length)])++[.free,.free,.free,.free,.row 0 1 [.str sh]]):=by
 have hG:=ZiC sh c fz ms X hl
 rw [hc] at hG
 have hv:∀ (σ:Za),viewAs σ [.str sh]=some ([.str sh],[]):=fun _=>rfl
 have b1:1*16<=140737488355328:=by decide
 have hR:ZbB (Zd fz 0 (ms.map AVal.str++X))=false:=by cases fz <;> rfl
 unfold ZcC
 rw [h]
 unfold hS gFn
 generalize Zd fz 0 (ms.map AVal.str++X)=R at *
 simp -implicitDefEqProofs only [EQA,ZR,Z6,Z1,ZU,ZT,ZZ,Z4,ZS,ZP,ZX,Z5,Z0,ZV,Z3,ZQ,implies_true,forall_const,Xr,Xs,Xx,Xk,Xl,Xt,Xu,ZH,ZJ,unA,Zv,ZC,unG,reduceCtorEq,Zk,decide_eq_true_eq,Xm,Xi,ite_self,↓reduceIte,Zz,ZI,gcT,gcA,Zx,Zn,Zg,Zm,Zy,Zb,Zt,Zo,ZF,Xp,ZeG,ZdS,Zfm,Z2,ZL,ZW,ZO,ZK,ZN,hG,hv,b1,hR,Zeq,Zcf,XV,forall_eq,XS,ZbX,Zbv,c2S,kOk,Zj,Z9,AVal.cells,Zu,XE,WR,X5,Wr,Zca,Zkd,Zjz,Zj7,ZkY,Z9,kOk,viewAs,Zba,ZaQ,Za7,Zj,XE,WR,ZaV,Zdf]
include hl in
theorem Znr (hc:ms.contains c=false) (tm:Tms) (σ:Za) (h:gcT 5 (keepL [10,5,1] tm) σ=([(10,.map 1),(5,.lst true []),(1,gFn)],hS c fz ms X (.map [(.str sh,.sl 2 0 0 ms.length)]))) :
  ZcC FC PR BY 5 [10,5,1] 10 14 1 Zbv c2S [(.str sh,.sl 2 0 0 ms.length)] (.str sh,.sl 2 0 0 ms.length) tm σ=some ([(18,.bool false),(10,.map 1),(6,.str sh),(5,.lst true []),(1,gFn)],hS c fz ms X (.map [(.str sh,.sl 2 0 0 ms.length)])++[.free,.free,.free,.free]):=by
 have hG:=ZiC sh c fz ms X hl
 rw [hc] at hG
 have hR:ZbB (Zd fz 0 (ms.map AVal.str++X))=false:=by cases fz <;> rfl
 unfold ZcC
 rw [h]
 unfold hS gFn
 generalize Zd fz 0 (ms.map AVal.str++X)=R at *
 simp -implicitDefEqProofs only [EQA,ZR,Z6,Z1,ZU,ZT,ZZ,Z4,ZS,ZP,ZX,Z5,Z0,ZV,Z3,ZQ,implies_true,forall_const,Xr,Xs,Xx,Xk,Xl,Xt,Xu,ZH,ZJ,unA,Zv,ZC,unG,reduceCtorEq,Zk,decide_eq_true_eq,Xm,Xi,ite_self,↓reduceIte,Zz,ZI,gcT,gcA,Zx,Zn,Zg,Zm,Zy,Zb,Zt,Zo,ZF,Xp,ZeG,ZdS,Zfm,Z2,ZL,ZW,ZO,ZK,ZN,hG,hR,Zeq,Zcf,XV,forall_eq,XS,ZbX,Zbv,c2S,kOk,Zj,Z9,AVal.cells,Zu,XE,WR,X5,Wr,Zca,Zkd,Zjz,Zj7,ZkY,Z9,kOk,viewAs,Zba,ZaQ,Za7,Zj,XE,WR,ZaV,Zdf]
theorem Zu4:Zco FC PR BY 5 [10,5,1] c3S [.tmp 4] [(10,.map 1),(5,.sl 9 0 0 1),(1,gFn)] (hS c fz ms X (.map [(.str sh,.sl 2 0 0 ms.length)])++[.free,.free,.free,.free,.row 0 1 [.str sh]])=some (.sl 5 0 0 1,hS c fz ms X (.map [(.str sh,.sl 2 0 0 ms.length)])++[.row 0 1 [.str sh]]):=by
 unfold Zco c3S
 unfold hS gFn
 have hg:gcT 5 (keepL [10,5,1] [(10,.map 1),(5,.sl 9 0 0 1),(1,.fn 24 [.ref 3 0,.ref 4 0])]) ([.var [.map 1],.map [(.str sh,.sl 2 0 0 ms.length)],Zd fz 0 (ms.map AVal.str++X),.var [.ref 0 0],.var [.str c]]++[.free,.free,.free,.free,.row 0 1 [.str sh]])=([(10,.map 1),(5,.sl 5 0 0 1),(1,.fn 24 [.ref 3 0,.ref 4 0])],[.var [.map 1],.map [(.str sh,.sl 2 0 0 ms.length)],Zd fz 0 (ms.map AVal.str++X),.var [.ref 0 0],.var [.str c],.row 0 1 [.str sh]]):=by cases fz <;> rfl
 rw [hg]
 have hS':∀ (σ:Za) (t:Nat),σ[t]?=some (.row 0 1 [.str sh])->∀ sq own,Zi E BY σ sq 32 own true [.sl t 0 0 1]=some (.tup [],σ,{ rd:=[t] }):=by
  intro σ t hs sq own
  have h0:E 32 [.lst false [.str sh]] []=some (.tup [],[]):=Zbd.2 ⟨60,by kernel_rfl⟩
  refine Zd8 (by kernel_rfl) (vs:=[.lst false [.str sh]]) ?_ rfl rfl h0 rfl rfl sq own
  simp [showAs,showA,ZaI,Zk,hs]
 have ho:Zas 5 [.var [.map 1],.map [(.str sh,.sl 2 0 0 ms.length)],Zd fz 0 (ms.map AVal.str++X),.var [.ref 0 0],.var [.str c],.row 0 1 [.str sh]] (.sl 5 0 0 1)=some (.sl 5 0 0 1,[.var [.map 1],.map [(.str sh,.sl 2 0 0 ms.length)],Zd fz 0 (ms.map AVal.str++X),.var [.ref 0 0],.var [.str c],.row 0 1 [.str sh]]):=by cases fz <;> rfl
 generalize Zd fz 0 (ms.map AVal.str++X)=R at *
 simp -implicitDefEqProofs only [EQA,ZR,Z6,Z1,ZU,ZT,ZZ,Z4,ZS,ZP,ZX,Z5,Z0,ZV,Z3,ZQ,implies_true,forall_const,Xr,Xs,Xx,Xk,Xl,Xt,Xu,ZH,ZJ,unA,Zv,ZC,unG,reduceCtorEq,Zk,decide_eq_true_eq,Xm,Xi,ite_self,↓reduceIte,Zz,ZI,gcT,gcA,Zx,Zn,Zg,Zm,Zy,Zb,Zt,Zo,ZF,Xp,ZeG,ZdS,Zfm,Z2,ZL,ZW,ZO,ZK,ZN,hS',ho,Z9,kOk,viewAs,Zba,ZaQ,Za7,Zj,XE,WR,ZaV,Zdf]
theorem ZyA:Zco FC PR BY 5 [10,5,1] c3S [.tmp 4] [(18,.bool false),(10,.map 1),(6,.str sh),(5,.lst true []),(1,gFn)] (hS c fz ms X (.map [(.str sh,.sl 2 0 0 ms.length)])++[.free,.free,.free,.free])=some (.lst true [],hS c fz ms X (.map [(.str sh,.sl 2 0 0 ms.length)])):=by
 unfold Zco c3S
 unfold hS gFn
 have hg:gcT 5 (keepL [10,5,1] [(18,.bool false),(10,.map 1),(6,.str sh),(5,.lst true []),(1,.fn 24 [.ref 3 0,.ref 4 0])]) ([.var [.map 1],.map [(.str sh,.sl 2 0 0 ms.length)],Zd fz 0 (ms.map AVal.str++X),.var [.ref 0 0],.var [.str c]]++[.free,.free,.free,.free])=([(10,.map 1),(5,.lst true []),(1,.fn 24 [.ref 3 0,.ref 4 0])],[.var [.map 1],.map [(.str sh,.sl 2 0 0 ms.length)],Zd fz 0 (ms.map AVal.str++X),.var [.ref 0 0],.var [.str c]]):=by cases fz <;> rfl
 rw [hg]
 have hS':∀ (σ:Za) sq own,Zi E BY σ sq 32 own true [.lst true []]=some (.tup [],σ,{}):=by
  intro σ sq own
  have h0:E 32 [.lst false []] []=some (.tup [],[]):=Zbd.2 ⟨60,by kernel_rfl⟩
  exact ZcX h0 (by kernel_rfl) rfl rfl rfl (fun _=>rfl) σ sq own
 have ho:Zas 5 [.var [.map 1],.map [(.str sh,.sl 2 0 0 ms.length)],Zd fz 0 (ms.map AVal.str++X),.var [.ref 0 0],.var [.str c]] (.lst true [])=some (.lst true [],[.var [.map 1],.map [(.str sh,.sl 2 0 0 ms.length)],Zd fz 0 (ms.map AVal.str++X),.var [.ref 0 0],.var [.str c]]):=by cases fz <;> rfl
 generalize Zd fz 0 (ms.map AVal.str++X)=R at *
 simp -implicitDefEqProofs only [EQA,ZR,Z6,Z1,ZU,ZT,ZZ,Z4,ZS,ZP,ZX,Z5,Z0,ZV,Z3,ZQ,implies_true,forall_const,Xr,Xs,Xx,Xk,Xl,Xt,Xu,ZH,ZJ,unA,Zv,ZC,unG,reduceCtorEq,Zk,decide_eq_true_eq,Xm,Xi,ite_self,↓reduceIte,Zz,ZI,gcT,gcA,Zx,Zn,Zg,Zm,Zy,Zb,Zt,Zo,ZF,Xp,ZeG,ZdS,Zfm,Z2,ZL,ZW,ZO,ZK,ZN,hS',ho,Z9,kOk,viewAs,Zba,ZaQ,Za7,Zj,XE,WR,ZaV,Zdf]
end
end
section
set_option maxRecDepth 100000
section
variable (sh c:Tx) (fz:Bool) (ms:List Tx) (X:List AVal) (hl:ms.length<=1000000)
def tmG:Tms:=[(5,.lst true []),(1,gFn),(0,.ref 0 0)]
def tmH:Tms:=[(10,.map 1),(9,.ref 0 0),(8,.ref 0 0),(7,.ref 0 0),(5,.lst true []),(1,gFn),(0,.ref 0 0)]
theorem Zjv (es:Zf) (he:es=.map [(.str sh,.sl 2 0 0 ms.length)]):gcT 5 (keepL [10,5,1] tmH) (hS c fz ms X es)=([(10,.map 1),(5,.lst true []),(1,gFn)],hS c fz ms X es):=by
 subst he
 cases fz <;> rfl
theorem Zj8 (M:Zf) (es:List (AVal×AVal)) (hM:M=.map es) {out:AVal×Za} (h:ZdF FC PR BY 5 [10,5,1] 10 14 1 Zbv c2S c3S [.tmp 4] es tmH (hS c fz ms X M)=some out):EG 23 [.ref 0 0,gFn] (hS c fz ms X M)=some out:=by
 have k1:evC FC PR BY 5 c1S (enterA 0 [.ref 0 0,gFn] []) (hS c fz ms X M)=some (.normal,tmG,hS c fz ms X M):=by
  unfold hS
  generalize Zd fz 0 (ms.map AVal.str++X)=R at *
  exact Zam.2 ⟨20,by kernel_rfl⟩
 have k2:ZbX BY Zev tmG (hS c fz ms X M)=some (tmH,hS c fz ms X M):=by
  unfold hS
  generalize Zd fz 0 (ms.map AVal.str++X)=R at *
  kernel_rfl
 have k3:tget tmH 10=.map 1:=by kernel_rfl
 have k4:(hS c fz ms X M)[1]?=some (.map es):=by rw [<-hM];rfl
 have k5:(hS c fz ms X M).length=5:=rfl
 rw [Ziy]
 unfold Zer Zea
 rw [k5,k1]
 simp only
 rw [k2]
 simp only
 rw [k3]
 simp only
 rw [k4]
 exact h
include hl
theorem ZuD (hc:ms.contains c=true):EG 23 [.ref 0 0,gFn] (hS c fz ms X (.map [(.str sh,.sl 2 0 0 ms.length)]))=some (.sl 5 0 0 1,hS c fz ms X (.map [(.str sh,.sl 2 0 0 ms.length)])++[.row 0 1 [.str sh]]):=by
 refine Zj8 c fz ms X _ _ rfl (Zf5 fun es' hp=>?_)
 have : es'=[(.str sh,.sl 2 0 0 ms.length)]:=Xax.1 hp
 subst this
 unfold ZcE Za9
 rw [Zxb sh c fz ms X hl hc tmH _ (Zjv sh c fz ms X _ rfl)]
 simp only [Za9]
 exact Zu4 sh c fz ms X
theorem Zx1 (hc:ms.contains c=false):EG 23 [.ref 0 0,gFn] (hS c fz ms X (.map [(.str sh,.sl 2 0 0 ms.length)]))=some (.lst true [],hS c fz ms X (.map [(.str sh,.sl 2 0 0 ms.length)])):=by
 refine Zj8 c fz ms X _ _ rfl (Zf5 fun es' hp=>?_)
 have : es'=[(.str sh,.sl 2 0 0 ms.length)]:=Xax.1 hp
 subst this
 unfold ZcE Za9
 rw [Znr sh c fz ms X hl hc tmH _ (Zjv sh c fz ms X _ rfl)]
 simp only [Za9]
 exact ZyA sh c fz ms X
end
def Ze0:AVal:=.fn 24 [.ref 2 0,.ref 3 0]
def hS0 (c:Tx):Za:=[.var [.map 1],.map [],.var [.ref 0 0],.var [.str c]]
def ZjA:Tms:=[(5,.lst true []),(1,Ze0),(0,.ref 0 0)]
def ZdI:Tms:=[(10,.map 1),(9,.ref 0 0),(8,.ref 0 0),(7,.ref 0 0),(5,.lst true []),(1,Ze0),(0,.ref 0 0)]
theorem ZrP (c:Tx):EG 23 [.ref 0 0,Ze0] (hS0 c)=some (.lst true [],hS0 c):=by
 have k1:evC FC PR BY 4 c1S (enterA 0 [.ref 0 0,Ze0] []) (hS0 c)=some (.normal,ZjA,hS0 c):=Zam.2 ⟨20,by kernel_rfl⟩
 have k2:ZbX BY Zev ZjA (hS0 c)=some (ZdI,hS0 c):=by kernel_rfl
 have k3:tget ZdI 10=.map 1:=by kernel_rfl
 have k4:(hS0 c)[1]?=some (.map []):=rfl
 have k5:(hS0 c).length=4:=rfl
 have k6:ZdF FC PR BY 4 [10,5,1] 10 14 1 Zbv c2S c3S [.tmp 4] [] ZdI (hS0 c)=some (.lst true [],hS0 c):=by
  refine Zf5 fun es' hp=>?_
  have : es'=[]:=List.perm_nil.1 hp
  subst this
  unfold ZcE Za9
  simp only
  have g1:∃ r,evC FC PR BY 4 c3S (gcT 4 (keepL [10,5,1] ZdI) (hS0 c)).1 (gcT 4 (keepL [10,5,1] ZdI) (hS0 c)).2=some r/\Zax 4 ⟨[.tmp 4],c3S⟩ (some r)=some (.lst true [],hS0 c):=by
   refine ⟨(Zr (ZB FC PR BY 60) BY 4 60 c3S (gcT 4 (keepL [10,5,1] ZdI) (hS0 c)).1 (gcT 4 (keepL [10,5,1] ZdI) (hS0 c)).2).getD (.normal,[],[]),Zam.2 ⟨60,by kernel_rfl⟩,by kernel_rfl⟩
  obtain ⟨r,h1,h2⟩:=g1
  unfold Zco
  rw [h1,h2]
 rw [Ziy]
 unfold Zer Zea
 rw [k5,k1]
 simp only
 rw [k2]
 simp only
 rw [k3]
 simp only
 rw [k4]
 exact k6
end
section
section
variable (sh c:Tx) (fz:Bool) (ms:List Tx) (X:List AVal) (hl:ms.length<=1000000)
include hl
theorem Zke (hc:ms.contains c=true):Zi EG BY [.var [.map 1],.map [(.str sh,.sl 2 0 0 ms.length)],Zd fz 0 (ms.map AVal.str++X),.var [.ref 0 0],.var [.str c]] 5 23 0 true [.ref 0 0,.fn 24 [.ref 3 0,.ref 4 0]]=some (.lst false [.str sh],[.var [.map 1],.map [(.str sh,.sl 2 0 0 ms.length)],Zd fz 0 (ms.map AVal.str++X),.var [.ref 0 0],.var [.str c]],{ any:=true,upd:=[(0,[.map 1]),(3,[.ref 0 0]),(4,[.str c])] }):=by
 have h1:=ZuD sh c fz ms X hl hc
 unfold hS gFn at h1
 have hask:Zat true 5 (some (.sl 5 0 0 1,[.var [.map 1],.map [(.str sh,.sl 2 0 0 ms.length)],Zd fz 0 (ms.map AVal.str++X),.var [.ref 0 0],.var [.str c]]++[.row 0 1 [.str sh]]))=some (.lst false [.str sh],[.var [.map 1],.map [(.str sh,.sl 2 0 0 ms.length)],Zd fz 0 (ms.map AVal.str++X),.var [.ref 0 0],.var [.str c]]):=by cases fz <;> rfl
 exact ZaB (O:=EG) (bf:=BY) (σ:=[.var [.map 1],.map [(.str sh,.sl 2 0 0 ms.length)],Zd fz 0 (ms.map AVal.str++X),.var [.ref 0 0],.var [.str c]]) (sq:=5) (own:=0) (f:=23) (view:=true) (args:=[.ref 0 0,.fn 24 [.ref 3 0,.ref 4 0]]) (vs:=[.ref 0 0,.fn 24 [.ref 3 0,.ref 4 0]]) (vs':=[.ref 0 0,.fn 24 [.ref 3 0,.ref 4 0]]) (ids:=[0,1,2,3,4]) (h0:=[.var [.map 1],.map [(.str sh,.sl 2 0 0 ms.length)],Zd fz 0 (ms.map AVal.str++X),.var [.ref 0 0],.var [.str c]]) (h:=[.var [.map 1],.map [(.str sh,.sl 2 0 0 ms.length)],Zd fz 0 (ms.map AVal.str++X),.var [.ref 0 0],.var [.str c]]) (r:=.lst false [.str sh]) (by kernel_rfl) rfl (by cases fz <;> rfl) rfl (by cases fz <;> rfl) (by cases fz <;> rfl) (by cases fz <;> rfl) (by rw [h1];exact hask) (Xf rfl) (Xf rfl) (by cases fz <;> rfl) rfl (by cases fz <;> rfl) (by cases fz <;> rfl) (by cases fz <;> rfl)
theorem ZtN (hc:ms.contains c=false):Zi EG BY [.var [.map 1],.map [(.str sh,.sl 2 0 0 ms.length)],Zd fz 0 (ms.map AVal.str++X),.var [.ref 0 0],.var [.str c]] 5 23 0 true [.ref 0 0,.fn 24 [.ref 3 0,.ref 4 0]]=some (.lst false [],[.var [.map 1],.map [(.str sh,.sl 2 0 0 ms.length)],Zd fz 0 (ms.map AVal.str++X),.var [.ref 0 0],.var [.str c]],{ any:=true,upd:=[(0,[.map 1]),(3,[.ref 0 0]),(4,[.str c])] }):=by
 have h1:=Zx1 sh c fz ms X hl hc
 unfold hS gFn at h1
 exact ZaB (O:=EG) (bf:=BY) (σ:=[.var [.map 1],.map [(.str sh,.sl 2 0 0 ms.length)],Zd fz 0 (ms.map AVal.str++X),.var [.ref 0 0],.var [.str c]]) (sq:=5) (own:=0) (f:=23) (view:=true) (args:=[.ref 0 0,.fn 24 [.ref 3 0,.ref 4 0]]) (vs:=[.ref 0 0,.fn 24 [.ref 3 0,.ref 4 0]]) (vs':=[.ref 0 0,.fn 24 [.ref 3 0,.ref 4 0]]) (ids:=[0,1,2,3,4]) (h0:=[.var [.map 1],.map [(.str sh,.sl 2 0 0 ms.length)],Zd fz 0 (ms.map AVal.str++X),.var [.ref 0 0],.var [.str c]]) (h:=[.var [.map 1],.map [(.str sh,.sl 2 0 0 ms.length)],Zd fz 0 (ms.map AVal.str++X),.var [.ref 0 0],.var [.str c]]) (r:=.lst false []) (by kernel_rfl) rfl (by cases fz <;> rfl) rfl (by cases fz <;> rfl) (by cases fz <;> rfl) (by cases fz <;> rfl) (by rw [h1];cases fz <;> rfl) (Xf rfl) (Xf rfl) (by cases fz <;> rfl) rfl (by cases fz <;> rfl) (by cases fz <;> rfl) (by cases fz <;> rfl)
theorem Zuj (hc:ms=[c]):Zi EG BY [.var [.map 1],.map [(.str sh,.sl 2 0 0 ms.length)],Zd fz 0 (ms.map AVal.str++X),.var [.str c],.var [.ref 0 0],.free] 5 12 1 true [.ref 0 0,.str sh,.str c]=some (.bool true,[.var [.map 1],.map [],Zd fz 0 (ms.map AVal.str++X),.var [.str c],.var [.ref 0 0],.free],{ any:=true,upd:=[(0,[.map 1])] }):=by
 have h1:=Zkx sh c fz ms X hl hc
 unfold gX at h1
 exact Zav (ZaB (O:=E) (bf:=BY) (σ:=[.var [.map 1],.map [(.str sh,.sl 2 0 0 ms.length)],Zd fz 0 (ms.map AVal.str++X),.var [.str c],.var [.ref 0 0],.free]) (sq:=5) (own:=1) (f:=12) (view:=true) (args:=[.ref 0 0,.str sh,.str c]) (vs:=[.ref 0 0,.str sh,.str c]) (vs':=[.ref 0 0,.str sh,.str c]) (ids:=[0,1,2]) (h0:=[.var [.map 1],.map [(.str sh,.sl 2 0 0 ms.length)],Zd fz 0 (ms.map AVal.str++X)]) (h:=[.var [.map 1],.map [],Zd fz 0 (ms.map AVal.str++X)]) (r:=.bool true) (by kernel_rfl) rfl (by cases fz <;> rfl) rfl (by cases fz <;> rfl) (by cases fz <;> rfl) (by cases fz <;> rfl) (by rw [h1];cases fz <;> rfl) (Xf rfl) (Xf rfl) (by cases fz <;> rfl) rfl (by cases fz <;> rfl) (by cases fz <;> rfl) (by cases fz <;> rfl))
theorem Zuy (j:Nat) (hj:j < ms.length) (hi:ZaE c 0 ms=((j:Nat):Int)) (h2:2<=ms.length):Zi EG BY [.var [.map 1],.map [(.str sh,.sl 2 0 0 ms.length)],Zd fz 0 (ms.map AVal.str++X),.var [.str c],.var [.ref 0 0],.free] 5 12 1 true [.ref 0 0,.str sh,.str c]=some (.bool true,[.var [.map 1],.map [(.str sh,.sl 5 0 0 (ms.length - 1))],Zd fz 0 (ms.map AVal.str++X),.var [.str c],.var [.ref 0 0],.row 0 1 ((ms.eraseIdx j).map AVal.str++[.str []])],{ any:=true,upd:=[(0,[.map 1])] }):=by
 have h1:=Zlx sh c fz ms X hl j hj hi h2
 unfold gX at h1
 exact Zav (ZaB (O:=E) (bf:=BY) (σ:=[.var [.map 1],.map [(.str sh,.sl 2 0 0 ms.length)],Zd fz 0 (ms.map AVal.str++X),.var [.str c],.var [.ref 0 0],.free]) (sq:=5) (own:=1) (f:=12) (view:=true) (args:=[.ref 0 0,.str sh,.str c]) (vs:=[.ref 0 0,.str sh,.str c]) (vs':=[.ref 0 0,.str sh,.str c]) (ids:=[0,1,2]) (h0:=[.var [.map 1],.map [(.str sh,.sl 2 0 0 ms.length)],Zd fz 0 (ms.map AVal.str++X)]) (h:=[.var [.map 1],.map [(.str sh,.sl 3 0 0 (ms.length - 1))],Zd fz 0 (ms.map AVal.str++X),.row 0 1 ((ms.eraseIdx j).map AVal.str++[.str []])]) (r:=.bool true) (by kernel_rfl) rfl (by cases fz <;> rfl) rfl (by cases fz <;> rfl) (by cases fz <;> rfl) (by cases fz <;> rfl) (by rw [h1];cases fz <;> rfl) (Xf rfl) (Xf rfl) (by cases fz <;> rfl) rfl (by cases fz <;> rfl) (by cases fz <;> rfl) (by cases fz <;> rfl))
end
theorem ZxL (c:Tx):Zi EG BY [.var [.map 1],.map [],.var [.ref 0 0],.var [.str c]] 4 23 0 true [.ref 0 0,.fn 24 [.ref 2 0,.ref 3 0]]=some (.lst false [],[.var [.map 1],.map [],.var [.ref 0 0],.var [.str c]],{ any:=true,upd:=[(0,[.map 1]),(2,[.ref 0 0]),(3,[.str c])] }):=by
 have h1:=ZrP c
 unfold hS0 Ze0 at h1
 exact ZaB (O:=EG) (bf:=BY) (σ:=[.var [.map 1],.map [],.var [.ref 0 0],.var [.str c]]) (sq:=4) (own:=0) (f:=23) (view:=true) (args:=[.ref 0 0,.fn 24 [.ref 2 0,.ref 3 0]]) (vs:=[.ref 0 0,.fn 24 [.ref 2 0,.ref 3 0]]) (vs':=[.ref 0 0,.fn 24 [.ref 2 0,.ref 3 0]]) (ids:=[0,1,2,3]) (h0:=[.var [.map 1],.map [],.var [.ref 0 0],.var [.str c]]) (h:=[.var [.map 1],.map [],.var [.ref 0 0],.var [.str c]]) (r:=.lst false []) (by kernel_rfl) rfl rfl rfl rfl rfl rfl (by rw [h1];rfl) (Xf rfl) (Xf rfl) rfl rfl rfl rfl rfl
def ZdP:=xwG Zhx ZcG rfl
def Zdu:=xwG Zhg Zcl rfl
theorem ZjV (c:Tx):EG 13 [.ref 0 0,.str c] gN=some (.lst false [],gN):=by
 have hS:=ZxL c
 have z0:¬(0:Int) < ((0:Nat):Int):=by decide
 have ho:∀ x y,Zas 2 [.var [.map 1],.map [],x,y] (.lst false [])=some (.lst false [],[.var [.map 1],.map []]):=fun _ _=>rfl
 unfold gN
 rw [Zdc (by rfl) ZdJ]
 simp -implicitDefEqProofs only [EQA,ZR,Z6,Z1,ZU,ZT,ZZ,Z4,ZS,ZP,ZX,Z5,Z0,ZV,Z3,ZQ,implies_true,forall_const,Xr,Xs,Xx,Xk,Xl,Xt,Xu,ZH,ZJ,unA,Zv,ZC,unG,reduceCtorEq,Zk,decide_eq_true_eq,Xm,Xi,ite_self,↓reduceIte,Zz,ZI,gcT,gcA,Zx,Zn,Zg,Zm,Zy,Zb,Zt,Zo,ZF,Xp,Zdr,ZcZ,ZdO,Zdw,Zcl,ZdN,ZcG,Z2,ZL,ZW,ZO,ZK,ZN,ZdP,Zdu,hS,ho,z0,ZaU,AVal.cells]
section
variable (sh c:Tx) (fz:Bool) (ms:List Tx) (X:List AVal) (hl:ms.length<=1000000)
include hl
theorem ZmV (hc:ms.contains c=false):EG 13 [.ref 0 0,.str c] (gX fz sh ms X)=some (.lst false [],gX fz sh ms X):=by
 have hS:=ZtN sh c fz ms X hl hc
 have z0:¬(0:Int) < ((0:Nat):Int):=by decide
 have ho:∀ x y,Zas 3 [.var [.map 1],.map [(.str sh,.sl 2 0 0 ms.length)],Zd fz 0 (ms.map AVal.str++X),x,y] (.lst false [])=some (.lst false [],[.var [.map 1],.map [(.str sh,.sl 2 0 0 ms.length)],Zd fz 0 (ms.map AVal.str++X)]):=by intro x y;cases fz <;> rfl
 unfold gX
 cases fz with
 | false =>
  simp only [Zd,Xg,if_false] at hS ho ⊢
  generalize ms.map AVal.str++X=S at *
  rw [Zdc (by rfl) ZdJ]
  simp -implicitDefEqProofs only [EQA,ZR,Z6,Z1,ZU,ZT,ZZ,Z4,ZS,ZP,ZX,Z5,Z0,ZV,Z3,ZQ,implies_true,forall_const,Xr,Xs,Xx,Xk,Xl,Xt,Xu,ZH,ZJ,unA,Zv,ZC,unG,reduceCtorEq,Zk,decide_eq_true_eq,Xm,Xi,ite_self,↓reduceIte,Zz,ZI,gcT,gcA,Zx,Zn,Zg,Zm,Zy,Zb,Zt,Zo,ZF,Xp,Zdr,ZcZ,ZdO,Zdw,Zcl,ZdN,ZcG,Z2,ZL,ZW,ZO,ZK,ZN,ZdP,Zdu,hS,ho,z0,ZaU,AVal.cells]
 | true =>
  simp only [Zd,if_true] at hS ho ⊢
  generalize ms.map AVal.str++X=S at *
  rw [Zdc (by rfl) ZdJ]
  simp -implicitDefEqProofs only [EQA,ZR,Z6,Z1,ZU,ZT,ZZ,Z4,ZS,ZP,ZX,Z5,Z0,ZV,Z3,ZQ,implies_true,forall_const,Xr,Xs,Xx,Xk,Xl,Xt,Xu,ZH,ZJ,unA,Zv,ZC,unG,reduceCtorEq,Zk,decide_eq_true_eq,Xm,Xi,ite_self,↓reduceIte,Zz,ZI,gcT,gcA,Zx,Zn,Zg,Zm,Zy,Zb,Zt,Zo,ZF,Xp,Zdr,ZcZ,ZdO,Zdw,Zcl,ZdN,ZcG,Z2,ZL,ZW,ZO,ZK,ZN,ZdP,Zdu,hS,ho,z0,ZaU,AVal.cells]
theorem ZxN (hc:ms=[c]):EG 13 [.ref 0 0,.str c] (gX fz sh ms X)=some (.lst false [.str sh],[.var [.map 1],.map [],Zd fz 0 (ms.map AVal.str++X)]):=by
 have hS:=Zke sh c fz ms X hl (by subst hc;simp)
 have hL:=Zuj sh c fz ms X hl hc
 have z0:(0:Int) < ((1:Nat):Int):=by decide
 have z1:¬(1:Int) < ((1:Nat):Int):=by decide
 have e1:=iad (show ([sh]:List Tx)[0]?=some sh from rfl) AVal.str (k:=1) rfl
 simp only [XB,X6,show ((0:Nat):Int)=0 from rfl] at e1
 have wr:IntKind.i64.wrap (0+1)=1:=by decide
 have ho:∀ x y,Zas 3 [.var [.map 1],.map [],Zd fz 0 (ms.map AVal.str++X),x,y] (.lst false [.str sh])=some (.lst false [.str sh],[.var [.map 1],.map [],Zd fz 0 (ms.map AVal.str++X)]):=by intro x y;cases fz <;> rfl
 unfold gX
 cases fz with
 | false =>
  simp only [Zd,Xg,if_false] at hS hL ho ⊢
  generalize ms.map AVal.str++X=S at *
  rw [Zdc (by rfl) ZdJ]
  simp -implicitDefEqProofs only [EQA,ZR,Z6,Z1,ZU,ZT,ZZ,Z4,ZS,ZP,ZX,Z5,Z0,ZV,Z3,ZQ,implies_true,forall_const,Xr,Xs,Xx,Xk,Xl,Xt,Xu,ZH,ZJ,unA,Zv,ZC,unG,reduceCtorEq,Zk,decide_eq_true_eq,Xm,Xi,ite_self,↓reduceIte,Zz,ZI,gcT,gcA,Zx,Zn,Zg,Zm,Zy,Zb,Zt,Zo,ZF,Xp,Zdr,ZcZ,ZdO,Zdw,Zcl,ZdN,ZcG,Z2,ZL,ZW,ZO,ZK,ZN,ZdP,Zdu,hS,hL,ho,e1,wr,z0,z1,ZaU,AVal.cells]
 | true =>
  simp only [Zd,if_true] at hS hL ho ⊢
  generalize ms.map AVal.str++X=S at *
  rw [Zdc (by rfl) ZdJ]
  simp -implicitDefEqProofs only [EQA,ZR,Z6,Z1,ZU,ZT,ZZ,Z4,ZS,ZP,ZX,Z5,Z0,ZV,Z3,ZQ,implies_true,forall_const,Xr,Xs,Xx,Xk,Xl,Xt,Xu,ZH,ZJ,unA,Zv,ZC,unG,reduceCtorEq,Zk,decide_eq_true_eq,Xm,Xi,ite_self,↓reduceIte,Zz,ZI,gcT,gcA,Zx,Zn,Zg,Zm,Zy,Zb,Zt,Zo,ZF,Xp,Zdr,ZcZ,ZdO,Zdw,Zcl,ZdN,ZcG,Z2,ZL,ZW,ZO,ZK,ZN,ZdP,Zdu,hS,hL,ho,e1,wr,z0,z1,ZaU,AVal.cells]
theorem Zm0 (hc:ms.contains c=true) (j:Nat) (hj:j < ms.length) (hi:ZaE c 0 ms=((j:Nat):Int)) (h2:2<=ms.length):EG 13 [.ref 0 0,.str c] (gX fz sh ms X)=some (.lst false [.str sh],[.var [.map 1],.map [(.str sh,.sl 3 0 0 (ms.length - 1))],Zd fz 0 (ms.map AVal.str++X),.row 0 1 ((ms.eraseIdx j).map AVal.str++[.str []])]):=by
 have hS:=Zke sh c fz ms X hl hc
 have hL:=Zuy sh c fz ms X hl j hj hi h2
 have z0:(0:Int) < ((1:Nat):Int):=by decide
 have z1:¬(1:Int) < ((1:Nat):Int):=by decide
 have e1:=iad (show ([sh]:List Tx)[0]?=some sh from rfl) AVal.str (k:=1) rfl
 simp only [XB,X6,show ((0:Nat):Int)=0 from rfl] at e1
 have wr:IntKind.i64.wrap (0+1)=1:=by decide
 have ho:Zas 3 [.var [.map 1],.map [(.str sh,.sl 5 0 0 (ms.length - 1))],Zd fz 0 (ms.map AVal.str++X),.var [.str c],.var [.ref 0 0],.row 0 1 ((ms.eraseIdx j).map AVal.str++[.str []])] (.lst false [.str sh])=some (.lst false [.str sh],[.var [.map 1],.map [(.str sh,.sl 3 0 0 (ms.length - 1))],Zd fz 0 (ms.map AVal.str++X),.row 0 1 ((ms.eraseIdx j).map AVal.str++[.str []])]):=by cases fz <;> rfl
 unfold gX
 cases fz with
 | false =>
  simp only [Zd,Xg,if_false] at hS hL ho ⊢
  generalize ms.map AVal.str++X=S at *
  generalize (ms.eraseIdx j).map AVal.str++[AVal.str []]=S2 at *
  rw [Zdc (by rfl) ZdJ]
  simp -implicitDefEqProofs only [EQA,ZR,Z6,Z1,ZU,ZT,ZZ,Z4,ZS,ZP,ZX,Z5,Z0,ZV,Z3,ZQ,implies_true,forall_const,Xr,Xs,Xx,Xk,Xl,Xt,Xu,ZH,ZJ,unA,Zv,ZC,unG,reduceCtorEq,Zk,decide_eq_true_eq,Xm,Xi,ite_self,↓reduceIte,Zz,ZI,gcT,gcA,Zx,Zn,Zg,Zm,Zy,Zb,Zt,Zo,ZF,Xp,Zdr,ZcZ,ZdO,Zdw,Zcl,ZdN,ZcG,Z2,ZL,ZW,ZO,ZK,ZN,ZdP,Zdu,hS,hL,ho,e1,wr,z0,z1,ZaU,AVal.cells]
 | true =>
  simp only [Zd,if_true] at hS hL ho ⊢
  generalize ms.map AVal.str++X=S at *
  generalize (ms.eraseIdx j).map AVal.str++[AVal.str []]=S2 at *
  rw [Zdc (by rfl) ZdJ]
  simp -implicitDefEqProofs only [EQA,ZR,Z6,Z1,ZU,ZT,ZZ,Z4,ZS,ZP,ZX,Z5,Z0,ZV,Z3,ZQ,implies_true,forall_const,Xr,Xs,Xx,Xk,Xl,Xt,Xu,ZH,ZJ,unA,Zv,ZC,unG,reduceCtorEq,Zk,decide_eq_true_eq,Xm,Xi,ite_self,↓reduceIte,Zz,ZI,gcT,gcA,Zx,Zn,Zg,Zm,Zy,Zb,Zt,Zo,ZF,Xp,Zdr,ZcZ,ZdO,Zdw,Zcl,ZdN,ZcG,Z2,ZL,ZW,ZO,ZK,ZN,ZdP,Zdu,hS,hL,ho,e1,wr,z0,z1,ZaU,AVal.cells]
end
end
section
theorem Zwu (sh c:Tx) (hsh:Zhd sh) (ms:List Tx) (hl:ms.length<=1000000) (hc:ms.contains c=false):E 7 [.ref 0 0,.str sh,.str c] (gX false sh ms [.str []])=some (.tup [],[.var [.map 1],.map [(.str sh,.sl 2 0 0 (ms.length+1))],.row 0 1 ((ms++[c]).map AVal.str)]):=by
 obtain ⟨a,b,hS⟩:=Zfs hsh
 have hC:=fun {σ:Za} hs sq own=>ZkB ms (by omega) c (σ:=σ) (t:=2) (g:=0) (fz:=false) (X:=[.str []]) hs sq own
 rw [hc] at hC
 simp only [Zd,Xg,if_false] at hC
 have hk:=fun {σ:Za} {z:AVal} hs=>Zdy sh (σ:=σ) (z:=z) (v:=.sl 2 0 0 ms.length) hs
 have hm:=fun {σ:Za} {v:AVal} hv hs=>ZgO sh (σ:=σ) (v:=v) (u:=.sl 2 0 0 ms.length) hv hs
 have hv:∀ (σ:Za),viewAs σ [.str c]=some ([.str c],[]):=fun _=>rfl
 have b1:(ms.length+1)*16<=140737488355328:=by omega
 have e1:(ms++[c]).map AVal.str=ms.map AVal.str++[.str c]:=by simp
 have hL:(ms.map AVal.str++[AVal.str []]).length=ms.length+1:=by simp
 have w1:¬ms.length=ms.length+1:=by omega
 have ht:(ms.map AVal.str++[AVal.str []]).take ms.length=ms.map AVal.str:=by
  rw [WZ (by simp),X2 (by simp)]
 have hd:(ms.map AVal.str++[AVal.str []]).drop (ms.length+1)=[]:=X7 (by simp)
 rw [e1]
 unfold gX
 simp only [Zd,Xg,if_false]
 generalize ms.map AVal.str++[AVal.str []]=S2 at *
 generalize ms.map AVal.str=S at *
 generalize ms.length=n at *
 have ho:∀ x,Zas 3 [.var [.map 1],.map [(.str sh,.sl 2 0 0 (n+1))],.row 0 1 (S++[.str c]),x] (.tup [])=some (.tup [],[.var [.map 1],.map [(.str sh,.sl 2 0 0 (n+1))],.row 0 1 (S++[.str c])]):=fun _=>rfl
 rw [Zbo (by rfl) ZfF]
 simp -implicitDefEqProofs only [EQA,ZR,Z6,Z1,ZU,ZT,ZZ,Z4,ZS,ZP,ZX,Z5,Z0,ZV,Z3,ZQ,implies_true,forall_const,Xr,Xs,Xx,Xk,Xl,Xt,Xu,ZH,ZJ,unA,Zv,ZC,unG,reduceCtorEq,Zk,decide_eq_true_eq,Xm,Xi,ite_self,↓reduceIte,Zz,ZI,gcT,gcA,Zx,Zn,Zg,Zm,Zy,Zb,Zt,Zo,ZF,Xp,Zgv,Zey,Zgu,Z2,ZL,ZW,ZO,ZK,ZN,hS,hC,hk,hm,hv,b1,hL,w1,ht,hd,ho,XK,XO,AVal.cells,Zu,kOk,Zj,Z9,XE,WR,X5,Wr,Zcx,Zce,ZcP,Zbn,WP,WY,XH,XW,XS,XX,Zcw,Zcn,Zcs,Zck,ZcA,XN,XY,ZaD,ZaJ,ZaM,ZbJ,ZbI,Zbz,ZbY,Zb4,ZaY,ZbZ,We,WB,XH,XW,Wa]
end
section
theorem ZiK (a b:List (List UInt8)) (h:a.length=b.length) (hl:a.length<=9223372036854775807):∀ (r s:List (List UInt8)) (i:Nat),a.drop i=r->b.drop i=s->ZfS 0 [(5,.int .i64 i),(1,.lst false (b.map AVal.str)),(0,.lst false (a.map AVal.str))] []=some (.bool (r == s),[])
 | [],s,i,ha,hb=>by
  have hs:s=[]:=by
   subst hb;rw [W9] at ha ⊢;omega
  subst hs
  have h1:=Zhh ha
  unfold ZfS
  rw [ZaU]
  simp -implicitDefEqProofs only [EQA,ZR,Z6,Z1,ZU,ZT,ZZ,Z4,ZS,ZP,ZX,Z5,Z0,ZV,Z3,ZQ,implies_true,forall_const,Xr,Xs,Xx,Xk,Xl,Xt,Xu,ZH,ZJ,unA,Zv,ZC,unG,reduceCtorEq,Zk,decide_eq_true_eq,Xm,Xi,ite_self,↓reduceIte,Zz,ZI,gcT,gcA,Zx,Zn,Zg,Zm,Zy,Zb,Zt,Zo,ZF,Xp,Zfy,ZeB,Zgo,Zgc,Zew,Zgf,ZeA,Z2,ZL,ZW,ZO,ZK,ZN,h1]
 | x::r,[],i,ha,hb=>by
  have:=(ZbN ha).2.2;rw [W9] at hb;omega
 | x::r,y::s,i,ha,hb=>by
  have ih:=ZiK a b h hl r s (i+1) (ZbN ha).2.1 (ZbN hb).2.1
  have h1:(i:Int) < a.length:=by have:=(ZbN ha).2.2;omega
  have e1:=iad (ZbN ha).1 AVal.str (k:=1) rfl
  have e2:=iad (ZbN hb).1 AVal.str (k:=1) rfl
  have e3:=Zdp h1 hl
  unfold ZfS at ih ⊢
  rw [ZaU]
  simp -implicitDefEqProofs only [EQA,ZR,Z6,Z1,ZU,ZT,ZZ,Z4,ZS,ZP,ZX,Z5,Z0,ZV,Z3,ZQ,implies_true,forall_const,Xr,Xs,Xx,Xk,Xl,Xt,Xu,ZH,ZJ,unA,Zv,ZC,unG,reduceCtorEq,Zk,decide_eq_true_eq,Xm,Xi,ite_self,↓reduceIte,Zz,ZI,gcT,gcA,Zx,Zn,Zg,Zm,Zy,Zb,Zt,Zo,ZF,Xp,Zfy,ZeB,Zgo,Zgc,Zew,Zgf,ZeA,Z2,ZL,ZW,ZO,ZK,ZN,h1,e1,e2,e3]
  rw [ih]
  by_cases hx:x=y <;> simp [hx]
theorem Zj5 (a b:List (List UInt8)) (hl:a.length<=9223372036854775807):E 11 [.lst false (a.map AVal.str),.lst false (b.map AVal.str)] []=some (.bool (a == b),[]):=by
 rw [Zbo (by rfl) Zrt]
 by_cases h:a.length=b.length
 ·have:=ZiK a b h hl a b 0 rfl rfl
  unfold ZfS at this
  have z0:((0:Nat):Int)=0:=rfl
  rw [z0] at this
  have e:=Zmm h
  simp -implicitDefEqProofs only [EQA,ZR,Z6,Z1,ZU,ZT,ZZ,Z4,ZS,ZP,ZX,Z5,Z0,ZV,Z3,ZQ,implies_true,forall_const,Xr,Xs,Xx,Xk,Xl,Xt,Xu,ZH,ZJ,unA,Zv,ZC,unG,reduceCtorEq,Zk,decide_eq_true_eq,Xm,Xi,ite_self,↓reduceIte,Zz,ZI,gcT,gcA,Zx,Zn,Zg,Zm,Zy,Zb,Zt,Zo,ZF,Xp,Zfy,ZeB,Zgo,Zgc,Zew,Zgf,ZeA,Z2,ZL,ZW,ZO,ZK,ZN,e]
  exact this
 ·have e:=ZlX h
  simp -implicitDefEqProofs only [EQA,ZR,Z6,Z1,ZU,ZT,ZZ,Z4,ZS,ZP,ZX,Z5,Z0,ZV,Z3,ZQ,implies_true,forall_const,Xr,Xs,Xx,Xk,Xl,Xt,Xu,ZH,ZJ,unA,Zv,ZC,unG,reduceCtorEq,Zk,decide_eq_true_eq,Xm,Xi,ite_self,↓reduceIte,Zz,ZI,gcT,gcA,Zx,Zn,Zg,Zm,Zy,Zb,Zt,Zo,ZF,Xp,Zfy,ZeB,Zgo,Zgc,Zew,Zgf,ZeA,Z2,ZL,ZW,ZO,ZK,ZN,e,Zpv h]
theorem ZgV (a b:List Tx) (x y:Bool) (hl:a.length<=9223372036854775807) (σ:Za) (sq own:Nat):Zi E BY σ sq 11 own true [.lst x (a.map AVal.str),.lst y (b.map AVal.str)]=some (.bool (a == b),σ,{}) :=
 ZcX (Zj5 a b hl) (by kernel_rfl) rfl rfl rfl (fun _=>rfl) σ sq own
theorem Zf2 (a b:List Tx) (x:Bool) (hl:a.length<=9223372036854775807) {σ:Za} {t g:Nat} (hs:σ[t]?=some (.row g 1 (b.map AVal.str))) (sq own:Nat):Zi E BY σ sq 11 own true [.lst x (a.map AVal.str),.sl t g 0 b.length]=some (.bool (a == b),σ,{ rd:=[t] }):=by
 refine Zd8 (by kernel_rfl) (vs:=[.lst false (a.map AVal.str),.lst false (b.map AVal.str)]) ?_ rfl rfl (Zj5 a b hl) rfl rfl sq own
 have he:=ZeF σ t g b.length false (b.map AVal.str) (by simp) hs
 simp only [showAs,showA,ZaI,he,XK,Wc]
end
section
def Zeh:=xwG ZfN ZbQ rfl
def Zhv:=xwG ZdM ZbP rfl
def shT:Tx:=[36,115,104,97,114,101,47,103,47,116]
theorem ZdG:Zhd shT:=⟨[103],[116],Zbd.2 ⟨60,by kernel_rfl⟩⟩
abbrev mE (r g n:Nat):Zf:=.map [(.str shT,.sl r g 0 n)]
theorem j_0 (c:Tx):Zi E BY [.var [.map 1],.map [],.free] 2 7 1 true [.ref 0 0,.str shT,.str c]=some (.tup [],[.var [.map 1],mE 2 0 1,.row 0 1 [.str c]],{ any:=true,upd:=[(0,[.map 1])] }):=by
 have h1:=Zjk ZdG c
 unfold gN gB at h1
 exact ZaB (O:=E) (bf:=BY) (σ:=[.var [.map 1],.map [],.free]) (sq:=2) (own:=1) (f:=7) (view:=true) (args:=[.ref 0 0,.str shT,.str c]) (vs:=[.ref 0 0,.str shT,.str c]) (vs':=[.ref 0 0,.str shT,.str c]) (ids:=[0,1]) (h0:=[.var [.map 1],.map []]) (h:=[.var [.map 1],mE 2 0 1,.row 0 1 [.str c]]) (r:=.tup []) (by kernel_rfl) rfl rfl rfl rfl rfl rfl (by rw [h1];rfl) (Xf rfl) (Xf rfl) rfl rfl rfl rfl rfl
section
variable (ms:List Tx) (hl:ms.length<=1000000) (c:Tx)
include hl
theorem Zv1 (hc:ms.contains c=true):Zi E BY [.var [.map 1],mE 2 0 ms.length,.row 0 1 (ms.map AVal.str),.free] 3 7 1 true [.ref 0 0,.str shT,.str c]=some (.tup [],[.var [.map 1],mE 2 0 ms.length,.row 0 1 (ms.map AVal.str),.free],{ any:=true,upd:=[(0,[.map 1])] }):=by
 have h1:=Zic ZdG ms hl c hc
 unfold gB at h1
 exact ZaB (O:=E) (bf:=BY) (σ:=[.var [.map 1],mE 2 0 ms.length,.row 0 1 (ms.map AVal.str),.free]) (sq:=3) (own:=1) (f:=7) (view:=true) (args:=[.ref 0 0,.str shT,.str c]) (vs:=[.ref 0 0,.str shT,.str c]) (vs':=[.ref 0 0,.str shT,.str c]) (ids:=[0,1,2]) (h0:=[.var [.map 1],mE 2 0 ms.length,.row 0 1 (ms.map AVal.str)]) (h:=[.var [.map 1],mE 2 0 ms.length,.row 0 1 (ms.map AVal.str)]) (r:=.tup []) (by kernel_rfl) rfl rfl rfl rfl rfl rfl (by rw [h1];rfl) (Xf rfl) (Xf rfl) rfl rfl rfl rfl rfl
theorem ZuM (W:Zf) (hc:ms.contains c=true):Zi E BY [W,.var [.map 2],mE 3 0 ms.length,.row 0 1 (ms.map AVal.str),.free] 4 7 1 true [.ref 1 0,.str shT,.str c]=some (.tup [],[W,.var [.map 2],mE 3 0 ms.length,.row 0 1 (ms.map AVal.str),.free],{ any:=true,upd:=[(1,[.map 2])] }):=by
 have h1:=Zic ZdG ms hl c hc
 unfold gB at h1
 exact ZaB (O:=E) (bf:=BY) (σ:=[W,.var [.map 2],mE 3 0 ms.length,.row 0 1 (ms.map AVal.str),.free]) (sq:=4) (own:=1) (f:=7) (view:=true) (args:=[.ref 1 0,.str shT,.str c]) (vs:=[.ref 1 0,.str shT,.str c]) (vs':=[.ref 0 0,.str shT,.str c]) (ids:=[1,2,3]) (h0:=[.var [.map 1],mE 2 0 ms.length,.row 0 1 (ms.map AVal.str)]) (h:=[.var [.map 1],mE 2 0 ms.length,.row 0 1 (ms.map AVal.str)]) (r:=.tup []) (by kernel_rfl) rfl rfl rfl rfl rfl rfl (by rw [h1];rfl) (Xf rfl) (Xf rfl) rfl rfl rfl rfl rfl
theorem Zkl (W:Zf) (g:Nat) (hc:ms.contains c=true):Zi E BY [W,.var [.map 2],mE 3 g ms.length,.row g 1 (ms.map AVal.str),.free,.free] 5 7 1 true [.ref 1 0,.str shT,.str c]=some (.tup [],[W,.var [.map 2],mE 3 g ms.length,.row g 1 (ms.map AVal.str),.free,.free],{ any:=true,upd:=[(1,[.map 2])] }):=by
 have h1:=Zic ZdG ms hl c hc
 unfold gB at h1
 exact ZaB (O:=E) (bf:=BY) (σ:=[W,.var [.map 2],mE 3 g ms.length,.row g 1 (ms.map AVal.str),.free,.free]) (sq:=5) (own:=1) (f:=7) (view:=true) (args:=[.ref 1 0,.str shT,.str c]) (vs:=[.ref 1 0,.str shT,.str c]) (vs':=[.ref 0 0,.str shT,.str c]) (ids:=[1,2,3]) (h0:=[.var [.map 1],mE 2 0 ms.length,.row 0 1 (ms.map AVal.str)]) (h:=[.var [.map 1],mE 2 0 ms.length,.row 0 1 (ms.map AVal.str)]) (r:=.tup []) (by kernel_rfl) rfl rfl rfl rfl rfl (by simp [Zm,Zo,ZG,Ze,Zg,Zy,Zb,Zt]) (by rw [h1];rfl) (Xf rfl) (Xf rfl) rfl rfl rfl rfl rfl
theorem Zxv (W:Zf) (hc:ms.contains c=false):Zi E BY [W,.var [.map 2],mE 3 0 ms.length,.row 0 1 (ms.map AVal.str),.free] 4 7 1 true [.ref 1 0,.str shT,.str c]=some (.tup [],[W,.var [.map 2],mE 3 1 (ms.length+1),.row 1 1 ((ms++[c]).map AVal.str),.free],{ any:=true,upd:=[(1,[.map 2])] }):=by
 have h1:=Zpe ZdG ms hl c hc
 unfold gB at h1
 exact ZaB (O:=E) (bf:=BY) (σ:=[W,.var [.map 2],mE 3 0 ms.length,.row 0 1 (ms.map AVal.str),.free]) (sq:=4) (own:=1) (f:=7) (view:=true) (args:=[.ref 1 0,.str shT,.str c]) (vs:=[.ref 1 0,.str shT,.str c]) (vs':=[.ref 0 0,.str shT,.str c]) (ids:=[1,2,3]) (h0:=[.var [.map 1],mE 2 0 ms.length,.row 0 1 (ms.map AVal.str)]) (h:=[.var [.map 1],mE 2 1 (ms.length+1),.row 1 1 ((ms++[c]).map AVal.str)]) (r:=.tup []) (by kernel_rfl) rfl rfl rfl rfl rfl rfl (by rw [h1];rfl) (Xf rfl) (Xf rfl) rfl rfl rfl rfl rfl
end
end
section
def sl6 (i:Nat) (w:AVal) (b:Nat) (q:Int) (cl:List Tx):Tms:=[(7,.int .i64 (i:Int)),(6,w),(5,.ref b 0),(1,.int .i64 q),(0,.lst false (cl.map AVal.str))]
def HW (ms:List Tx):Za:=[.row 0 1 (ms.map AVal.str),.var [.map 2],mE 3 0 ms.length,.row 0 1 (ms.map AVal.str)]
noncomputable abbrev ev6 (tm:Tms) (σ:Za):=evL FC PRG BY 0 [7,6,5,1,0] ZfN tm σ
section
variable (cl:List Tx) (q:Int) (hcl:cl.length<=9223372036854775807)
include hcl
theorem ZpU (h0:¬((0:Nat):Int) < (cl.length:Int)):ev6 (sl6 0 (.lst true []) 0 q cl) gN=some (.exit 0,(25,.bool false)::sl6 0 (.lst true []) 0 q cl,gN):=by
 have hL:(cl.map AVal.str).length=cl.length:=by simp
 unfold ev6 sl6 gN
 generalize cl.map AVal.str=C at *
 rw [ZaU]
 simp -implicitDefEqProofs only [EQA,ZR,Z6,Z1,ZU,ZT,ZZ,Z4,ZS,ZP,ZX,Z5,Z0,ZV,Z3,ZQ,implies_true,forall_const,Xr,Xs,Xx,Xk,Xl,Xt,Xu,ZH,ZJ,unA,Zv,ZC,unG,reduceCtorEq,Zk,decide_eq_true_eq,Xm,Xi,ite_self,↓reduceIte,Zz,ZI,gcT,gcA,Zx,Zn,Zg,Zm,Zy,Zb,Zt,Zo,ZF,Xp,ZcM,ZbV,Zch,Zct,ZbP,ZcI,ZbQ,Z2,ZL,ZW,ZO,ZK,ZN,Zeh,h0,hL]
theorem Zll (i:Nat) (h0:¬((i:Int) < (cl.length:Int)/\(i:Int) < 12)) (ms:List Tx):ev6 (sl6 i (.sl 0 0 0 ms.length) 1 q cl) (HW ms)=some (.exit 0,(25,.bool false)::sl6 i (.sl 0 0 0 ms.length) 1 q cl,HW ms):=by
 have hL:(cl.map AVal.str).length=cl.length:=by simp
 unfold ev6 sl6 HW
 generalize cl.map AVal.str=C at *
 generalize ms.map AVal.str=M at *
 by_cases h1:(i:Int) < (cl.length:Int)
 ·have h2:¬(i:Int) < 12:=fun h=>h0 ⟨h1,h⟩
  rw [ZaU]
  simp -implicitDefEqProofs only [EQA,ZR,Z6,Z1,ZU,ZT,ZZ,Z4,ZS,ZP,ZX,Z5,Z0,ZV,Z3,ZQ,implies_true,forall_const,Xr,Xs,Xx,Xk,Xl,Xt,Xu,ZH,ZJ,unA,Zv,ZC,unG,reduceCtorEq,Zk,decide_eq_true_eq,Xm,Xi,ite_self,↓reduceIte,Zz,ZI,gcT,gcA,Zx,Zn,Zg,Zm,Zy,Zb,Zt,Zo,ZF,Xp,ZcM,ZbV,Zch,Zct,ZbP,ZcI,ZbQ,Z2,ZL,ZW,ZO,ZK,ZN,Zeh,h1,h2,hL]
 ·rw [ZaU]
  simp -implicitDefEqProofs only [EQA,ZR,Z6,Z1,ZU,ZT,ZZ,Z4,ZS,ZP,ZX,Z5,Z0,ZV,Z3,ZQ,implies_true,forall_const,Xr,Xs,Xx,Xk,Xl,Xt,Xu,ZH,ZJ,unA,Zv,ZC,unG,reduceCtorEq,Zk,decide_eq_true_eq,Xm,Xi,ite_self,↓reduceIte,Zz,ZI,gcT,gcA,Zx,Zn,Zg,Zm,Zy,Zb,Zt,Zo,ZF,Xp,ZcM,ZbV,Zch,Zct,ZbP,ZcI,ZbQ,Z2,ZL,ZW,ZO,ZK,ZN,Zeh,h1,hL]
theorem ZrW (c:Tx) (hc:cl[0]?=some c):ev6 (sl6 0 (.lst true []) 0 q cl) gN=ev6 (sl6 1 (.sl 0 0 0 1) 1 q cl) (HW [c]):=by
 have hL:(cl.map AVal.str).length=cl.length:=by simp
 have h0:((0:Nat):Int) < (cl.length:Int):=by have:=(Xe.1 hc).1;omega
 have h2:((0:Nat):Int) < 12:=by decide
 have e1:=iad hc AVal.str (k:=1) rfl
 have e3:IntKind.i64.wrap (((0:Nat):Int)+1)=((1:Nat):Int):=by decide
 have hJ:=Zav (j_0 c)
 have hJ2:=Zav (Zv1 [c] (by simp) c (by simp))
 have hH:=fun σ sq own=>Zav (ZlM [] true (by decide) c σ sq own)
 rw [show ([]:List Tx).contains c=false from rfl,show ([]:List Tx).map AVal.str=[] from rfl] at hH
 have hv:∀ (σ:Za),viewAs σ [.str c]=some ([.str c],[]):=fun _=>rfl
 have b1:1*16<=140737488355328:=by decide
 simp only [mE,shT] at hJ hJ2
 rw [show [c].map AVal.str=[.str c] from rfl,XE] at hJ2
 unfold ev6 sl6 gN HW
 rw [show [c].map AVal.str=[.str c] from rfl,XE]
 simp only [mE,shT]
 generalize cl.map AVal.str=C at *
 rw [ZaU]
 simp -implicitDefEqProofs only [EQA,ZR,Z6,Z1,ZU,ZT,ZZ,Z4,ZS,ZP,ZX,Z5,Z0,ZV,Z3,ZQ,implies_true,forall_const,Xr,Xs,Xx,Xk,Xl,Xt,Xu,ZH,ZJ,unA,Zv,ZC,unG,reduceCtorEq,Zk,decide_eq_true_eq,Xm,Xi,ite_self,↓reduceIte,Zz,ZI,gcT,gcA,Zx,Zn,Zg,Zm,Zy,Zb,Zt,Zo,ZF,Xp,ZcM,ZbV,Zch,Zct,ZbP,ZcI,ZbQ,Z2,ZL,ZW,ZO,ZK,ZN,Zeh,h0,h2,hL,e1,e3,hJ,hJ2,hH,hv,b1,AVal.cells,kOk,Zj,Z9,XE,WR,X5,Wr]
theorem ZoE (i:Nat) (c:Tx) (hc:cl[i]?=some c) (hi:i < 12) (ms:List Tx) (hm:ms.length<=1000) (hd:ms.contains c=true):ev6 (sl6 i (.sl 0 0 0 ms.length) 1 q cl) (HW ms)=ev6 (sl6 (i+1) (.sl 0 0 0 ms.length) 1 q cl) (HW ms):=by
 have hL:(cl.map AVal.str).length=cl.length:=by simp
 have l1:=(Xe.1 hc).1
 have h0:(i:Int) < (cl.length:Int):=by omega
 have h2:(i:Int) < 12:=by omega
 have e1:=iad hc AVal.str (k:=1) rfl
 have e3:=Zdp h0 (by omega)
 have hJ:=Zav (ZuM ms (by omega) c (.row 0 1 (ms.map AVal.str)) hd)
 have hJ2:=Zav (Zkl ms (by omega) c (.row 0 1 (ms.map AVal.str)) 0 hd)
 have hH:=fun {σ:Za} hs sq own=>Zav (ZiO ms (by omega) c (σ:=σ) (t:=0) hs sq own)
 rw [hd] at hH
 simp only [mE,shT] at hJ hJ2
 unfold ev6 sl6 HW
 simp only [mE,shT]
 generalize cl.map AVal.str=C at *
 generalize ms.map AVal.str=M at *
 rw [ZaU]
 simp -implicitDefEqProofs only [EQA,ZR,Z6,Z1,ZU,ZT,ZZ,Z4,ZS,ZP,ZX,Z5,Z0,ZV,Z3,ZQ,implies_true,forall_const,Xr,Xs,Xx,Xk,Xl,Xt,Xu,ZH,ZJ,unA,Zv,ZC,unG,reduceCtorEq,Zk,decide_eq_true_eq,Xm,Xi,ite_self,↓reduceIte,Zz,ZI,gcT,gcA,Zx,Zn,Zg,Zm,Zy,Zb,Zt,Zo,ZF,Xp,ZcM,ZbV,Zch,Zct,ZbP,ZcI,ZbQ,Z2,ZL,ZW,ZO,ZK,ZN,Zeh,h0,h2,hL,e1,e3,hJ,hJ2,hH,AVal.cells]
theorem ZnA (i:Nat) (c:Tx) (hc:cl[i]?=some c) (hi:i < 12) (ms:List Tx) (hm:ms.length<=1000) (hd:ms.contains c=false):ev6 (sl6 i (.sl 0 0 0 ms.length) 1 q cl) (HW ms)=ev6 (sl6 (i+1) (.sl 0 0 0 (ms++[c]).length) 1 q cl) (HW (ms++[c])):=by
 have hL:(cl.map AVal.str).length=cl.length:=by simp
 have l1:=(Xe.1 hc).1
 have h0:(i:Int) < (cl.length:Int):=by omega
 have h2:(i:Int) < 12:=by omega
 have e1:=iad hc AVal.str (k:=1) rfl
 have e3:=Zdp h0 (by omega)
 have hJ:=Zav (Zxv ms (by omega) c (.row 0 1 (ms.map AVal.str)) hd)
 have hJ2:=Zav (Zkl (ms++[c]) (by simp;omega) c (.row 0 1 (ms.map AVal.str)) 1 (by simp))
 have hH:=fun {σ:Za} hs sq own=>Zav (ZiO ms (by omega) c (σ:=σ) (t:=0) hs sq own)
 rw [hd] at hH
 have hv:∀ (σ:Za),viewAs σ [.str c]=some ([.str c],[]):=fun _=>rfl
 have b1:(ms.length+1)*16<=140737488355328:=by omega
 have hM:(ms.map AVal.str).length=ms.length:=by simp
 have e7:(ms++[c]).length=ms.length+1:=by simp
 have e8:(ms++[c]).map AVal.str=ms.map AVal.str++[.str c]:=by simp
 rw [e7,e8] at hJ2
 rw [e8] at hJ
 simp only [mE,shT] at hJ hJ2
 unfold ev6 sl6 HW
 simp only [mE,shT]
 rw [e7,e8]
 generalize cl.map AVal.str=C at *
 generalize ms.map AVal.str=M at *
 rw [ZaU]
 simp -implicitDefEqProofs only [EQA,ZR,Z6,Z1,ZU,ZT,ZZ,Z4,ZS,ZP,ZX,Z5,Z0,ZV,Z3,ZQ,implies_true,forall_const,Xr,Xs,Xx,Xk,Xl,Xt,Xu,ZH,ZJ,unA,Zv,ZC,unG,reduceCtorEq,Zk,decide_eq_true_eq,Xm,Xi,ite_self,↓reduceIte,Zz,ZI,gcT,gcA,Zx,Zn,Zg,Zm,Zy,Zb,Zt,Zo,ZF,Xp,ZcM,ZbV,Zch,Zct,ZbP,ZcI,ZbQ,Z2,ZL,ZW,ZO,ZK,ZN,Zeh,h0,h2,hL,e1,e3,hJ,hJ2,hH,hv,b1,hM,AVal.cells,kOk,Zj,Z9,XE,WR,X5,Wr]
end
end
section
theorem ZgK (cl:List Tx) (q:Int) (hcl:cl.length<=9223372036854775807):∀ (r:List Tx) (i:Nat) (ms:List Tx),cl.drop i=r->i<=cl.length->ms≠[]->ms.Nodup->ms.length<=i->ms.length<=12 ->
  ∃ i' ms',ms'≠[]/\ms'.Nodup/\ms'.length<=12/\ev6 (sl6 i (.sl 0 0 0 ms.length) 1 q cl) (HW ms)=some (.exit 0,(25,.bool false)::sl6 i' (.sl 0 0 0 ms'.length) 1 q cl,HW ms')
 | [],i,ms,h,hi,h1,h2,h3,h4=>by
  have h5:cl.length<=i:=W9.1 h
  exact ⟨i,ms,h1,h2,h4,Zll cl q hcl i (fun h=>by omega) ms⟩
 | c::r,i,ms,h,hi,h1,h2,h3,h4=>by
  obtain ⟨g1,d1,l1⟩:=ZbN h
  by_cases h12:i < 12
  ·cases hd:ms.contains c with
   | true =>
    obtain ⟨i',ms',a1,a2,a3,a4⟩:=ZgK cl q hcl r (i+1) ms d1 (by omega) h1 h2 (by omega) h4
    exact ⟨i',ms',a1,a2,a3,by rw [ZoE cl q hcl i c g1 h12 ms (by omega) hd];exact a4⟩
   | false =>
    have hnd:=Zpk (c:=c) h2
    unfold Zit at hnd
    rw [hd,if_neg (by simp)] at hnd
    obtain ⟨i',ms',a1,a2,a3,a4⟩:=ZgK cl q hcl r (i+1) (ms++[c]) d1 (by omega) (by simp) hnd (by simp;omega) (by simp;omega)
    exact ⟨i',ms',a1,a2,a3,by rw [ZnA cl q hcl i c g1 h12 ms (by omega) hd];exact a4⟩
  ·exact ⟨i,ms,h1,h2,h4,Zll cl q hcl i (fun h=>by omega) ms⟩
theorem Zoq (cl:List Tx) (q:Int) (hcl:cl.length<=9223372036854775807):(ev6 (sl6 0 (.lst true []) 0 q cl) gN=some (.exit 0,(25,.bool false)::sl6 0 (.lst true []) 0 q cl,gN)) \/
  ∃ i ms,ms≠[]/\ms.Nodup/\ms.length<=12/\ev6 (sl6 0 (.lst true []) 0 q cl) gN=some (.exit 0,(25,.bool false)::sl6 i (.sl 0 0 0 ms.length) 1 q cl,HW ms):=by
 cases hc:cl with
 | nil =>
  subst hc
  exact Xo (ZpU [] q hcl (by decide))
 | cons c r =>
  right
  rw [<-hc]
  obtain ⟨i',ms',a1,a2,a3,a4⟩:=ZgK cl q hcl r 1 [c] (by rw [hc];rfl) (by rw [hc];simp) (by simp) (by simp) (by simp) (by simp)
  refine ⟨i',ms',a1,a2,a3,?_⟩
  rw [ZrW cl q hcl c (by rw [hc];rfl)]
  exact a4
def ZeY (r:Option (Zab×Tms×Za)):Prop:=∃ tm σ,r=some (.ret,(4,.bool true)::tm,σ)
theorem Zhf (tm:Tms) (σ:Za):ZeY (some (.ret,(4,.bool true)::tm,σ)):=⟨_,_,rfl⟩
theorem Ztv:Zi EG BY [.var [.map 1],.map []] 2 8 0 true [.ref 0 0,.str shT]=some (.lst false [],[.var [.map 1],.map []],{ any:=true,upd:=[(0,[.map 1])] }):=by
 have h1:E 8 [.ref 0 0,.str shT] [.var [.map 1],.map []]=some (.sl 2 0 0 0,[.var [.map 1],.map [],.row 0 1 []]):=Zbd.2 ⟨20,by kernel_rfl⟩
 exact Zav (ZaB (O:=E) (bf:=BY) (σ:=[.var [.map 1],.map []]) (sq:=2) (own:=0) (f:=8) (view:=true) (args:=[.ref 0 0,.str shT]) (vs:=[.ref 0 0,.str shT]) (vs':=[.ref 0 0,.str shT]) (ids:=[0,1]) (h0:=[.var [.map 1],.map []]) (h:=[.var [.map 1],.map []]) (r:=.lst false []) (by kernel_rfl) rfl rfl rfl rfl rfl rfl (by rw [h1];rfl) (XO _) (XO _) rfl rfl rfl rfl rfl)
theorem ZoV (c:Tx):Zi EG BY [.var [.map 1],.map [],.free,.free] 2 12 1 true [.ref 0 0,.str shT,.str c]=some (.bool false,[.var [.map 1],.map [],.free,.free],{ any:=true,upd:=[(0,[.map 1])] }):=by
 have h1:=Zks shT c
 unfold gN at h1
 exact Zav (ZaB (O:=E) (bf:=BY) (σ:=[.var [.map 1],.map [],.free,.free]) (sq:=2) (own:=1) (f:=12) (view:=true) (args:=[.ref 0 0,.str shT,.str c]) (vs:=[.ref 0 0,.str shT,.str c]) (vs':=[.ref 0 0,.str shT,.str c]) (ids:=[0,1]) (h0:=[.var [.map 1],.map []]) (h:=[.var [.map 1],.map []]) (r:=.bool false) (by kernel_rfl) rfl rfl rfl rfl rfl rfl (by rw [h1];rfl) (Xf rfl) (XO _) rfl rfl rfl rfl rfl)
theorem Zye (c:Tx):Zi EG BY [.var [.map 1],.map [],.free,.free] 3 13 1 true [.ref 0 0,.str c]=some (.lst false [],[.var [.map 1],.map [],.free,.free],{ any:=true,upd:=[(0,[.map 1])] }):=by
 have h1:=ZjV c
 unfold gN at h1
 exact ZaB (O:=EG) (bf:=BY) (σ:=[.var [.map 1],.map [],.free,.free]) (sq:=3) (own:=1) (f:=13) (view:=true) (args:=[.ref 0 0,.str c]) (vs:=[.ref 0 0,.str c]) (vs':=[.ref 0 0,.str c]) (ids:=[0,1]) (h0:=[.var [.map 1],.map []]) (h:=[.var [.map 1],.map []]) (r:=.lst false []) (by kernel_rfl) rfl rfl rfl rfl rfl rfl (by rw [h1];rfl) (Xf rfl) (XO _) rfl rfl rfl rfl rfl
theorem ZyG (cl:List Tx) (q:Int):ZeY (evC FC PRG BY 0 ZdM ((25,.bool false)::sl6 0 (.lst true []) 0 q cl) gN):=by
 have hM:=Ztv
 have hS:=fun σ sq own=>Zav (ZgV [] [] false true (by decide) σ sq own)
 rw [show (([]:List Tx) == [])=true from rfl,X6] at hS
 have hL:=ZoV [120]
 have hG:=Zye [120]
 have z1:(((0:Nat):Int) == 0)=true:=rfl
 rw [shT] at hM hL
 unfold sl6 gN
 generalize cl.map AVal.str=C at *
 simp -implicitDefEqProofs only [EQA,ZR,Z6,Z1,ZU,ZT,ZZ,Z4,ZS,ZP,ZX,Z5,Z0,ZV,Z3,ZQ,implies_true,forall_const,Xr,Xs,Xx,Xk,Xl,Xt,Xu,ZH,ZJ,unA,Zv,ZC,unG,reduceCtorEq,Zk,decide_eq_true_eq,Xm,Xi,ite_self,↓reduceIte,Zz,ZI,gcT,gcA,Zx,Zn,Zg,Zm,Zy,Zb,Zt,Zo,ZF,Xp,ZcM,ZbV,Zch,Zct,ZbP,ZcI,ZbQ,Z2,ZL,ZW,ZO,ZK,ZN,Zhv,hM,hS,hL,hG,z1,Zhf]
end
section
def Zf8:Zl:=(.seq (.region [oI 6 (.mov (.c (.int .i64 0)))] none [2,1,0]) (.seq (.region [oM 8 2,oM 9 1,oI 10 (.bin .sub (.t 8) (.t 9)),oI 11 (.bin .add (.t 10) (.c (.int .i64 1))),oM 7 11] none [7,1,0]) (.seq (.region [oM 12 0,oM 13 7,oI 14 (.bin .rem (.t 12) (.t 13)),oM 0 14] none [7,1,0]) (.seq (.seq (.region [oM 15 0,oI 16 (.bin .lss (.t 15) (.c (.int .i64 0)))] none [16,7,1,0]) (.cond (.t 16) (.region [oM 17 0,oM 18 7,oI 19 (.bin .add (.t 17) (.t 18)),oM 0 19] none [1,0]) .skip)) (.seq (.region [oM 20 1,oM 21 0,oI 22 (.bin .add (.t 20) (.t 21)),oM 6 22] none [6]) .ret)))))
def Zin:Zac:=⟨[(.tmp 6)],Zf8⟩
theorem ZwO:FC 14=some Zin:=by kernel_rfl
theorem Zi3:Zin.body=Zf8:=rfl
theorem Zi4:Zin.res=[(.tmp 6)]:=rfl
end
section
theorem ZvO (n:Int) (m:Nat) (hm:m<=4611686018427387904):∃ k:Nat,k<=m/\E 14 [.int .i64 n,.int .i64 0,.int .i64 (m:Nat)] []=some (.int .i64 (k:Nat),[]):=by
 rw [Zbo (by rfl) ZwO]
 have w1:IntKind.i64.wrap ((m:Nat) - 0)=((m:Nat):Int):=by rw [Int.sub_zero];exact Zdi (by omega) (by omega)
 have w2:IntKind.i64.wrap (((m:Nat):Int)+1)=((m+1:Nat):Int):=by rw [show ((m:Nat):Int)+1=((m+1:Nat):Int) from by omega];exact Zdi (by omega) (by omega)
 have w3:(((m+1:Nat):Int)=0)=False:=by simp;omega
 have hb:n.tmod ((m+1:Nat):Int) < ((m+1:Nat):Int):=Int.tmod_lt_of_pos _ (by omega)
 have hl:-((m+1:Nat):Int) < n.tmod ((m+1:Nat):Int):=by
  have h1:=Int.tmod_lt_of_pos (-n) (b:=((m+1:Nat):Int)) (by omega)
  rw [Int.neg_tmod] at h1
  omega
 by_cases h:n.tmod ((m+1:Nat):Int) < 0
 ·have w4:IntKind.i64.wrap (n.tmod ((m+1:Nat):Int)+((m+1:Nat):Int))=(((n.tmod ((m+1:Nat):Int)+((m+1:Nat):Int)).toNat:Nat):Int):=by
   rw [Zdi (by omega) (by omega)];omega
  have w5:IntKind.i64.wrap (0+(((n.tmod ((m+1:Nat):Int)+((m+1:Nat):Int)).toNat:Nat):Int))=(((n.tmod ((m+1:Nat):Int)+((m+1:Nat):Int)).toNat:Nat):Int):=by
   rw [Int.zero_add];exact Zdi (by omega) (by omega)
  refine ⟨(n.tmod ((m+1:Nat):Int)+((m+1:Nat):Int)).toNat,by omega,?_⟩
  simp -implicitDefEqProofs only [EQA,ZR,Z6,Z1,ZU,ZT,ZZ,Z4,ZS,ZP,ZX,Z5,Z0,ZV,Z3,ZQ,implies_true,forall_const,Xr,Xs,Xx,Xk,Xl,Xt,Xu,ZH,ZJ,unA,Zv,ZC,unG,reduceCtorEq,Zk,decide_eq_true_eq,Xm,Xi,ite_self,↓reduceIte,Zz,ZI,gcT,gcA,Zx,Zn,Zg,Zm,Zy,Zb,Zt,Zo,ZF,Xp,Zi3,Zf8,Zi4,Z2,ZL,ZW,ZO,ZK,ZN,w1,w2,w3,h,w4,w5]
 ·have w5:IntKind.i64.wrap (0+n.tmod ((m+1:Nat):Int))=(((n.tmod ((m+1:Nat):Int)).toNat:Nat):Int):=by
   rw [Int.zero_add,Zdi (by omega) (by omega)];omega
  refine ⟨(n.tmod ((m+1:Nat):Int)).toNat,by omega,?_⟩
  simp -implicitDefEqProofs only [EQA,ZR,Z6,Z1,ZU,ZT,ZZ,Z4,ZS,ZP,ZX,Z5,Z0,ZV,Z3,ZQ,implies_true,forall_const,Xr,Xs,Xx,Xk,Xl,Xt,Xu,ZH,ZJ,unA,Zv,ZC,unG,reduceCtorEq,Zk,decide_eq_true_eq,Xm,Xi,ite_self,↓reduceIte,Zz,ZI,gcT,gcA,Zx,Zn,Zg,Zm,Zy,Zb,Zt,Zo,ZF,Xp,Zi3,Zf8,Zi4,Z2,ZL,ZW,ZO,ZK,ZN,w1,w2,w3,h,w5]
theorem Zlo (n:Int) (m:Nat) (hm:m<=4611686018427387904):∃ k:Nat,k<=m/\∀ (σ:Za) (sq own:Nat),Zi EG BY σ sq 14 own true [.int .i64 n,.int .i64 0,.int .i64 (m:Nat)]=some (.int .i64 (k:Nat),σ,{}):=by
 obtain ⟨k,hk,he⟩:=ZvO n m hm
 exact ⟨k,hk,fun σ sq own=>Zav (ZcX he (by kernel_rfl) rfl rfl rfl (fun _=>rfl) σ sq own)⟩
theorem Zkp (ms:List Tx) (hl:ms.length<=1000000):Zi EG BY [.row 0 1 (ms.map AVal.str),.var [.map 2],mE 3 0 ms.length,.row 0 1 (ms.map AVal.str)] 4 8 0 true [.ref 1 0,.str shT]=some (.lst false (ms.map AVal.str),[.row 0 1 (ms.map AVal.str),.var [.map 2],mE 3 0 ms.length,.row 0 1 (ms.map AVal.str)],{ any:=true,upd:=[(1,[.map 2])] }):=by
 have h1:=Zix false shT ms hl
 unfold gF Zd at h1
 simp only [Xg,if_false,Wk,Wc] at h1
 have hask:Zat true 3 (some (.sl 3 0 0 ms.length,[.var [.map 1],mE 2 0 ms.length,.row 0 1 (ms.map AVal.str),.row 0 1 (ms.map AVal.str)]))=some (.lst false (ms.map AVal.str),[.var [.map 1],mE 2 0 ms.length,.row 0 1 (ms.map AVal.str)]):=by
  have he:=ZeF [.var [.map 1],mE 2 0 ms.length,.row 0 1 (ms.map AVal.str),.row 0 1 (ms.map AVal.str)] 3 0 ms.length false (ms.map AVal.str) (by simp) rfl
  unfold Zat
  rw [if_pos rfl]
  simp only [Zcb,viewR,Zba,ZaQ,he]
  rfl
 exact Zav (ZaB (O:=E) (bf:=BY) (σ:=[.row 0 1 (ms.map AVal.str),.var [.map 2],mE 3 0 ms.length,.row 0 1 (ms.map AVal.str)]) (sq:=4) (own:=0) (f:=8) (view:=true) (args:=[.ref 1 0,.str shT]) (vs:=[.ref 1 0,.str shT]) (vs':=[.ref 0 0,.str shT]) (ids:=[1,2,3]) (h0:=[.var [.map 1],mE 2 0 ms.length,.row 0 1 (ms.map AVal.str)]) (h:=[.var [.map 1],mE 2 0 ms.length,.row 0 1 (ms.map AVal.str)]) (r:=.lst false (ms.map AVal.str)) (by kernel_rfl) rfl rfl rfl rfl rfl rfl (by rw [h1];exact hask) (Xf rfl) (Xf rfl) rfl rfl rfl rfl rfl)
theorem Zjn {σ:Za} {t n i:Nat} {xs:List AVal} (hs:σ[t]?=some (.row 0 1 xs)) (hi:i < n) (kk:IntKind):ZaV σ 1 (.sl t 0 0 n) (.int kk (i:Int))=some (.eref t 0 i 0,σ,{ rd:=[t] }):=by
 have h0:(0:Int)<=(i:Int):=by omega
 simp only [ZaV,h0,if_true,XaB,hi,hs,and_self,XD]
theorem Zxx (W:Zf) (c:Tx):Zi EG BY [W,.var [.map 2],mE 3 0 1,.row 0 1 [.str c],.free,.free] 4 12 1 true [.ref 1 0,.str shT,.str c]=some (.bool true,[W,.var [.map 2],.map [],.row 0 1 [.str c],.free,.free],{ any:=true,upd:=[(1,[.map 2])] }):=by
 have h1:=Zkx shT c false [c] [] (by simp) rfl
 unfold gX at h1
 exact Zav (ZaB (O:=E) (bf:=BY) (σ:=[W,.var [.map 2],mE 3 0 1,.row 0 1 [.str c],.free,.free]) (sq:=4) (own:=1) (f:=12) (view:=true) (args:=[.ref 1 0,.str shT,.str c]) (vs:=[.ref 1 0,.str shT,.str c]) (vs':=[.ref 0 0,.str shT,.str c]) (ids:=[1,2,3]) (h0:=[.var [.map 1],mE 2 0 1,.row 0 1 [.str c]]) (h:=[.var [.map 1],.map [],.row 0 1 [.str c]]) (r:=.bool true) (by kernel_rfl) rfl rfl rfl rfl rfl rfl (by rw [show [Zf.var [AVal.map 1],mE 2 0 1,.row 0 1 [.str c]]=[.var [.map 1],mE 2 0 [c].length,Zd false 0 ([c].map AVal.str++[])] from rfl,h1];rfl) (Xf rfl) (Xf rfl) rfl rfl rfl rfl rfl)
theorem Zor (W R:Zf) (c:Tx):Zi EG BY [W,.var [.map 2],.map [],R,.free,.free] 5 12 1 true [.ref 1 0,.str shT,.str c]=some (.bool false,[W,.var [.map 2],.map [],R,.free,.free],{ any:=true,upd:=[(1,[.map 2])] }):=by
 have h1:=Zks shT c
 unfold gN at h1
 exact Zav (ZaB (O:=E) (bf:=BY) (σ:=[W,.var [.map 2],.map [],R,.free,.free]) (sq:=5) (own:=1) (f:=12) (view:=true) (args:=[.ref 1 0,.str shT,.str c]) (vs:=[.ref 1 0,.str shT,.str c]) (vs':=[.ref 0 0,.str shT,.str c]) (ids:=[1,2]) (h0:=[.var [.map 1],.map []]) (h:=[.var [.map 1],.map []]) (r:=.bool false) (by kernel_rfl) rfl rfl rfl rfl rfl rfl (by rw [h1];rfl) (Xf rfl) (Xf rfl) rfl rfl rfl rfl rfl)
theorem ZtJ (W R:Zf) (c:Tx):Zi EG BY [W,.var [.map 2],.map [],R,.free,.free,.free] 6 7 1 true [.ref 1 0,.str shT,.str c]=some (.tup [],[W,.var [.map 2],mE 6 0 1,R,.free,.free,.row 0 1 [.str c]],{ any:=true,upd:=[(1,[.map 2])] }):=by
 have h1:=Zjk ZdG c
 unfold gN gB at h1
 exact Zav (ZaB (O:=E) (bf:=BY) (σ:=[W,.var [.map 2],.map [],R,.free,.free,.free]) (sq:=6) (own:=1) (f:=7) (view:=true) (args:=[.ref 1 0,.str shT,.str c]) (vs:=[.ref 1 0,.str shT,.str c]) (vs':=[.ref 0 0,.str shT,.str c]) (ids:=[1,2]) (h0:=[.var [.map 1],.map []]) (h:=[.var [.map 1],mE 2 0 1,.row 0 1 [.str c]]) (r:=.tup []) (by kernel_rfl) rfl rfl rfl rfl rfl rfl (by rw [h1];rfl) (Xf rfl) (Xf rfl) rfl rfl rfl rfl rfl)
theorem Zva {σ:Za} {sq:Nat} {y:AVal} {ys:List AVal} {us:List Nat} (he:Zk σ y=some (ys,us)) (hk:kOk 1 ys=true) (hb:ys.length*16<=140737488355328):Z9 σ sq 1 16 (.lst true []) y=some (.sl sq 0 0 ys.length,σ.set sq (.row 0 1 ys),{ rd:=us }):=by
 unfold Z9
 rw [he]
 simp only [hk,if_true,hb]
theorem Zjf {σ:Za} {sq t g n:Nat} {y:AVal} {xs ys:List AVal} {us:List Nat} (hs:σ[t]?=some (.row g 1 xs)) (hn:n=xs.length) (he:Zk σ y=some (ys,us)) (hk:kOk 1 ys=true) (hb:(n+ys.length)*16<=140737488355328):Z9 σ sq 1 16 (.sl t g 0 n) y=some (.sl t (g+1) 0 (n+ys.length),σ.set t (.row (g+1) 1 (xs++ys)),{ rd:=us,wr:=[t] }):=by
 unfold Z9
 rw [he]
 simp only [hk,if_true,hs]
 rw [if_pos ⟨trivial,trivial,trivial,hb⟩,if_pos hn]
structure ZsU (S:List AVal) (T1 T2:List AVal) (n k:Nat) (c:Tx):Prop where
 s1:∀ r,ZaP (.row 0 1 S::r) 1 (.sl 0 0 0 n) none (some (.int .i64 (k:Int))) none=some (.sl 0 0 0 k,.row 0 1 S::r,{ rd:=[0] })
 s2:∀ r,ZaP (.row 0 1 S::r) 1 (.sl 0 0 0 n) (some (.int .i64 ((k+1:Nat):Int))) none none=some (.sl 0 0 (k+1) (n - (k+1)),.row 0 1 S::r,{ rd:=[0] })
 a1:∀ a b d e f g h i j,Z9 [.row 0 1 S,a,b,d,e,f,g,h,i,j] 7 1 16 (.lst true []) (.sl 0 0 0 k)=some (.sl 7 0 0 k,[.row 0 1 S,a,b,d,e,f,g,.row 0 1 T1,i,j],{ rd:=[0] })
 a2:∀ a b d e f g i j,Z9 [.row 0 1 S,a,b,d,e,f,g,.row 0 1 T1,i,j] 8 1 16 (.sl 7 0 0 k) (.sl 0 0 (k+1) (n - (k+1)))=some (.sl 7 1 0 (n - 1),[.row 0 1 S,a,b,d,e,f,g,.row 1 1 T2,i,j],{ rd:=[0],wr:=[7] })
 a3:∀ o a b d e f g i j (x:Bool),Z9 [o,a,b,d,e,f,g,.row 1 1 T2,i,j] 9 1 16 (.sl 7 1 0 (n - 1)) (.lst x [.str c])=some (.sl 7 2 0 n,[o,a,b,d,e,f,g,.row 2 1 (T2++[.str c]),i,j],{ rd:=[],wr:=[7] })
theorem Zkm (ms:List Tx) (hl:ms.length<=1000000) (k:Nat) (hk:k < ms.length) (c:Tx):ZsU (ms.map AVal.str) ((ms.take k).map AVal.str) ((ms.eraseIdx k).map AVal.str) ms.length k c:=by
 have hS:(ms.map AVal.str).length=ms.length:=by simp
 have hs:∀ (xs:List AVal) (r:Za),(.row 0 1 xs::r:Za)[0]?=some (.row 0 1 xs):=fun _ _=>rfl
 have e1:((ms.map AVal.str).drop 0).take k=(ms.take k).map AVal.str:=by rw [List.drop_zero,XaD]
 have e2:((ms.map AVal.str).drop (k+1)).take (ms.length - (k+1))=(ms.drop (k+1)).map AVal.str:=by
  rw [<-List.map_drop,X2 (by simp)]
 have l1:((ms.take k).map AVal.str).length=k:=by simp;omega
 have l2:((ms.drop (k+1)).map AVal.str).length=ms.length - (k+1):=by simp
 have l3:((ms.eraseIdx k).map AVal.str).length=ms.length - 1:=by simp [WS,hk]
 have e3:(ms.take k).map AVal.str++(ms.drop (k+1)).map AVal.str=(ms.eraseIdx k).map AVal.str:=by rw [<-Wd,WX]
 refine ⟨fun r=>Zjx (hs _ r) (by omega) (by omega),fun r=>?_,fun a b d e f g h i j=>?_,fun a b d e f g i j=>?_,fun o a b d e f g i j x=>?_⟩
 ·have:=ZjR (hs (ms.map AVal.str) r) (p:=0) (n:=ms.length) (i:=k+1) (by omega) (by omega)
  rwa [XD] at this
 ·have he:=ZdB (hs (ms.map AVal.str) [a,b,d,e,f,g,h,i,j]) (p:=0) (n:=k) (by omega)
  rw [e1] at he
  have:=Zva (sq:=7) he (ZgD _) (by rw [l1];omega)
  rw [l1] at this
  exact this
 ·have he:=ZdB (hs (ms.map AVal.str) [a,b,d,e,f,g,.row 0 1 ((ms.take k).map AVal.str),i,j]) (p:=k+1) (n:=ms.length - (k+1)) (by omega)
  rw [e2] at he
  have:=Zjf (sq:=8) (t:=7) (g:=0) (n:=k) (xs:=(ms.take k).map AVal.str) rfl l1.symm he (ZgD _) (by rw [l2];omega)
  rw [l2,e3,show k+(ms.length - (k+1))=ms.length - 1 by omega] at this
  exact this
 ·have:=Zjf (σ:=[o,a,b,d,e,f,g,.row 1 1 ((ms.eraseIdx k).map AVal.str),i,j]) (sq:=9) (t:=7) (g:=1) (n:=ms.length - 1) (y:=.lst x [.str c]) (ys:=[.str c]) (us:=[]) (xs:=(ms.eraseIdx k).map AVal.str) rfl l3.symm rfl rfl (by simp;omega)
  rw [show ms.length - 1+[AVal.str c].length=ms.length by simp;omega] at this
  exact this
theorem ZwW (W R T:Zf) (c:Tx):Zi EG BY [W,.var [.map 2],mE 6 0 1,R,.free,.free,.row 0 1 [.str c],T,.free,.free,.free,.free] 10 8 0 true [.ref 1 0,.str shT]=some (.lst false [.str c],[W,.var [.map 2],mE 6 0 1,R,.free,.free,.row 0 1 [.str c],T,.free,.free,.free,.free],{ any:=true,upd:=[(1,[.map 2])] }):=by
 have h1:=Zix false shT [c] (by simp)
 unfold gF Zd at h1
 exact Zav (ZaB (O:=E) (bf:=BY) (σ:=[W,.var [.map 2],mE 6 0 1,R,.free,.free,.row 0 1 [.str c],T,.free,.free,.free,.free]) (sq:=10) (own:=0) (f:=8) (view:=true) (args:=[.ref 1 0,.str shT]) (vs:=[.ref 1 0,.str shT]) (vs':=[.ref 0 0,.str shT]) (ids:=[1,2,6]) (h0:=[.var [.map 1],mE 2 0 1,.row 0 1 [.str c]]) (h:=[.var [.map 1],mE 2 0 1,.row 0 1 [.str c]]) (r:=.lst false [.str c]) (by kernel_rfl) rfl rfl rfl rfl rfl rfl (by rw [show [Zf.var [AVal.map 1],mE 2 0 1,.row 0 1 [.str c]]=[.var [.map 1],mE 2 0 [c].length,.row 0 1 ([c].map AVal.str)] from rfl];exact (congrArg (Zat true 3) h1).trans rfl) (Xf rfl) (Xf rfl) rfl rfl rfl rfl rfl)
theorem Zse (W R T:Zf) (c:Tx):Zi EG BY [W,.var [.map 2],mE 6 0 1,R,.free,.free,.row 0 1 [.str c],T,.free,.free,.free,.free] 10 13 1 true [.ref 1 0,.str c]=some (.lst false [.str shT],[W,.var [.map 2],.map [],R,.free,.free,.row 0 1 [.str c],T,.free,.free,.free,.free],{ any:=true,upd:=[(1,[.map 2])] }):=by
 have h1:=ZxN shT c false [c] [] (by simp) rfl
 unfold gX at h1
 exact ZaB (O:=EG) (bf:=BY) (σ:=[W,.var [.map 2],mE 6 0 1,R,.free,.free,.row 0 1 [.str c],T,.free,.free,.free,.free]) (sq:=10) (own:=1) (f:=13) (view:=true) (args:=[.ref 1 0,.str c]) (vs:=[.ref 1 0,.str c]) (vs':=[.ref 0 0,.str c]) (ids:=[1,2,6]) (h0:=[.var [.map 1],mE 2 0 1,.row 0 1 [.str c]]) (h:=[.var [.map 1],.map [],.row 0 1 [.str c]]) (r:=.lst false [.str shT]) (by kernel_rfl) rfl rfl rfl rfl rfl rfl ((congrArg (Zat true 3) h1).trans rfl) (Xf rfl) (Xf rfl) rfl rfl rfl rfl rfl
theorem ZoK (W R T:Zf) (c:Tx):Zi EG BY [W,.var [.map 2],.map [],R,.free,.free,.row 0 1 [.str c],T,.free,.free,.free,.free] 11 13 1 true [.ref 1 0,.str c]=some (.lst false [],[W,.var [.map 2],.map [],R,.free,.free,.row 0 1 [.str c],T,.free,.free,.free,.free],{ any:=true,upd:=[(1,[.map 2])] }):=by
 have h1:=ZjV c
 unfold gN at h1
 exact ZaB (O:=EG) (bf:=BY) (σ:=[W,.var [.map 2],.map [],R,.free,.free,.row 0 1 [.str c],T,.free,.free,.free,.free]) (sq:=11) (own:=1) (f:=13) (view:=true) (args:=[.ref 1 0,.str c]) (vs:=[.ref 1 0,.str c]) (vs':=[.ref 0 0,.str c]) (ids:=[1,2]) (h0:=[.var [.map 1],.map []]) (h:=[.var [.map 1],.map []]) (r:=.lst false []) (by kernel_rfl) rfl rfl rfl rfl rfl rfl (by rw [h1];rfl) (Xf rfl) (Xf rfl) rfl rfl rfl rfl rfl
theorem Zx2 (c:Tx) (cl:List Tx) (q:Int) (i:Nat):ZeY (evC FC PRG BY 0 ZdM ((25,.bool false)::sl6 i (.sl 0 0 0 1) 1 q cl) (HW [c])):=by
 have hM:=Zkp [c] (by simp)
 have hS:=fun {σ:Za} hs sq own=>Zav (Zf2 [c] [c] false (by simp) (σ:=σ) (t:=0) (g:=0) hs sq own)
 rw [show ([c] == [c])=true by simp] at hS
 simp only [XE,XB,X6,mE,shT] at hM hS
 have z1:(((1:Nat):Int) == 0)=false:=rfl
 obtain ⟨k,hk,hW⟩:=Zlo q 0 (by decide)
 obtain rfl:k=0:=by omega
 have w1:IntKind.i64.wrap (((1:Nat):Int) - 1)=((0:Nat):Int):=by decide
 have e1:=fun {σ:Za} hs kk=>Zjn (σ:=σ) (t:=0) (n:=1) (i:=0) (xs:=[.str c]) hs (by decide) kk
 have hL:=Zxx (.row 0 1 [.str c]) c
 have hL0:=Zor (.row 0 1 [.str c]) (.row 0 1 [.str c]) c
 have hJ:=ZtJ (.row 0 1 [.str c]) (.row 0 1 [.str c]) c
 have hM2:=ZwW (.row 0 1 [.str c]) (.row 0 1 [.str c]) (.row 2 1 [.str c]) c
 have hG1:=Zse (.row 0 1 [.str c]) (.row 0 1 [.str c]) (.row 2 1 [.str c]) c
 have hG2:=ZoK (.row 0 1 [.str c]) (.row 0 1 [.str c]) (.row 2 1 [.str c]) c
 have hS2:=fun {σ:Za} hs sq own=>Zav (Zf2 [c] [c] false (by simp) (σ:=σ) (t:=7) (g:=2) hs sq own)
 rw [show ([c] == [c])=true by simp] at hS2
 have hS3:=fun σ sq own=>Zav (ZgV [shT] [shT] false true (by simp) σ sq own)
 rw [show ([shT] == [shT])=true by simp] at hS3
 have hv:∀ (σ:Za),viewAs σ [.str c]=some ([.str c],[]):=fun _=>rfl
 have hv2:∀ (σ:Za),viewAs σ [.str shT]=some ([.str shT],[]):=fun _=>rfl
 have z2:(((0:Nat):Int) == 0)=true:=rfl
 simp only [mE,shT,XE,XB,X6] at hL hL0 hJ hM2 hG1 hG2 hS2 hS3 hv2
 obtain ⟨s1,s2,a1,a2,a3⟩:=Zkm [c] (by simp) 0 (by simp) c
 have w2:IntKind.i64.wrap (((0:Nat):Int)+1)=((0+1:Nat):Int):=by decide
 simp only [List.take_zero,X6,List.eraseIdx_cons_zero,XB,XE,Wc] at s1 s2 a1 a2 a3
 unfold sl6 HW
 simp only [XE,XB,X6,mE,shT]
 generalize cl.map AVal.str=C at *
 simp -implicitDefEqProofs only [EQA,ZR,Z6,Z1,ZU,ZT,ZZ,Z4,ZS,ZP,ZX,Z5,Z0,ZV,Z3,ZQ,implies_true,forall_const,Xr,Xs,Xx,Xk,Xl,Xt,Xu,ZH,ZJ,unA,Zv,ZC,unG,reduceCtorEq,Zk,decide_eq_true_eq,Xm,Xi,ite_self,↓reduceIte,Zz,ZI,gcT,gcA,Zx,Zn,Zg,Zm,Zy,Zb,Zt,Zo,ZF,Xp,ZcM,ZbV,Zch,Zct,ZbP,ZcI,ZbQ,Z2,ZL,ZW,ZO,ZK,ZN,Zhv,hM,hS,z1,hW,w1,w2,e1,hL,hL0,hJ,s1,s2,a1,a2,a3,hM2,hG1,hG2,hS2,hS3,hv,hv2,z2,AVal.cells,Zj,X5,Wr,Zcx,Zce,ZcP,Zbn,WP,WY,XH,XW,XS,XX,Zcw,Zcn,Zcs,Zck,ZcA,XN,XY,ZaD,ZaJ,ZaM,ZbJ,ZbI,Zbz,ZbY,Zb4,ZaY,ZbZ,We,WB,XH,XW,Wa,Zhf]
end
section
section
variable (W R T:Zf) (ms er:List Tx) (hl:ms.length<=1000000) (hle:er.length<=1000000) (c:Tx)
include hl in
theorem Zr4 (k:Nat) (hk:k < ms.length) (hi:ZaE c 0 ms=((k:Nat):Int)) (h2:2<=ms.length):Zi EG BY [W,.var [.map 2],mE 3 0 ms.length,.row 0 1 (ms.map AVal.str),.free,.free] 4 12 1 true [.ref 1 0,.str shT,.str c]=some (.bool true,[W,.var [.map 2],mE 4 0 (ms.length - 1),.row 0 1 (ms.map AVal.str),.row 0 1 ((ms.eraseIdx k).map AVal.str++[AVal.str []]),.free],{ any:=true,upd:=[(1,[.map 2])] }):=by
 have h1:=Zlx shT c false ms [] hl k hk hi h2
 unfold gX at h1
 simp only [Zd,Xg,if_false,XK] at h1
 exact Zav (ZaB (O:=E) (bf:=BY) (σ:=[W,.var [.map 2],mE 3 0 ms.length,.row 0 1 (ms.map AVal.str),.free,.free]) (sq:=4) (own:=1) (f:=12) (view:=true) (args:=[.ref 1 0,.str shT,.str c]) (vs:=[.ref 1 0,.str shT,.str c]) (vs':=[.ref 0 0,.str shT,.str c]) (ids:=[1,2,3]) (h0:=[.var [.map 1],mE 2 0 ms.length,.row 0 1 (ms.map AVal.str)]) (h:=[.var [.map 1],mE 3 0 (ms.length - 1),.row 0 1 (ms.map AVal.str),.row 0 1 ((ms.eraseIdx k).map AVal.str++[AVal.str []])]) (r:=.bool true) (by kernel_rfl) rfl rfl rfl rfl rfl rfl (by rw [h1];rfl) (Xf rfl) (Xf rfl) rfl rfl rfl rfl rfl)
include hle
theorem ZnS (hc:er.contains c=false):Zi EG BY [W,.var [.map 2],mE 4 0 er.length,R,.row 0 1 (er.map AVal.str++[AVal.str []]),.free] 5 12 1 true [.ref 1 0,.str shT,.str c]=some (.bool false,[W,.var [.map 2],mE 4 0 er.length,R,.row 0 1 (er.map AVal.str++[AVal.str []]),.free],{ any:=true,upd:=[(1,[.map 2])] }):=by
 have h1:=Zxg shT c false er [.str []] hle hc
 unfold gX at h1
 simp only [Zd,Xg,if_false] at h1
 exact Zav (ZaB (O:=E) (bf:=BY) (σ:=[W,.var [.map 2],mE 4 0 er.length,R,.row 0 1 (er.map AVal.str++[AVal.str []]),.free]) (sq:=5) (own:=1) (f:=12) (view:=true) (args:=[.ref 1 0,.str shT,.str c]) (vs:=[.ref 1 0,.str shT,.str c]) (vs':=[.ref 0 0,.str shT,.str c]) (ids:=[1,2,4]) (h0:=[.var [.map 1],mE 2 0 er.length,.row 0 1 (er.map AVal.str++[AVal.str []])]) (h:=[.var [.map 1],mE 2 0 er.length,.row 0 1 (er.map AVal.str++[AVal.str []])]) (r:=.bool false) (by kernel_rfl) rfl rfl rfl rfl rfl rfl (by rw [h1];rfl) (Xf rfl) (Xf rfl) rfl rfl rfl rfl rfl)
theorem j_m (hc:er.contains c=false):Zi EG BY [W,.var [.map 2],mE 4 0 er.length,R,.row 0 1 (er.map AVal.str++[AVal.str []]),.free,.free] 6 7 1 true [.ref 1 0,.str shT,.str c]=some (.tup [],[W,.var [.map 2],mE 4 0 (er.length+1),R,.row 0 1 ((er++[c]).map AVal.str),.free,.free],{ any:=true,upd:=[(1,[.map 2])] }):=by
 have h1:=Zwu shT c ZdG er hle hc
 unfold gX at h1
 simp only [Zd,Xg,if_false] at h1
 exact Zav (ZaB (O:=E) (bf:=BY) (σ:=[W,.var [.map 2],mE 4 0 er.length,R,.row 0 1 (er.map AVal.str++[AVal.str []]),.free,.free]) (sq:=6) (own:=1) (f:=7) (view:=true) (args:=[.ref 1 0,.str shT,.str c]) (vs:=[.ref 1 0,.str shT,.str c]) (vs':=[.ref 0 0,.str shT,.str c]) (ids:=[1,2,4]) (h0:=[.var [.map 1],mE 2 0 er.length,.row 0 1 (er.map AVal.str++[AVal.str []])]) (h:=[.var [.map 1],mE 2 0 (er.length+1),.row 0 1 ((er++[c]).map AVal.str)]) (r:=.tup []) (by kernel_rfl) rfl rfl rfl rfl rfl rfl (by rw [h1];rfl) (Xf rfl) (Xf rfl) rfl rfl rfl rfl rfl)
omit hle
def hN (W R T:Zf) (L:List Tx):Za:=[W,.var [.map 2],mE 4 0 L.length,R,.row 0 1 (L.map AVal.str),.free,.free,T,.free,.free,.free,.free]
def hO (W R T:Zf) (L er:List Tx):Za:=[W,.var [.map 2],mE 10 0 er.length,R,.row 0 1 (L.map AVal.str),.free,.free,T,.free,.free,.row 0 1 (er.map AVal.str++[AVal.str []]),.free]
include hl in
theorem Ztw:Zi EG BY (hN W R T ms) 10 8 0 true [.ref 1 0,.str shT]=some (.lst false (ms.map AVal.str),hN W R T ms,{ any:=true,upd:=[(1,[.map 2])] }):=by
 have h1:=Zix false shT ms hl
 unfold gF Zd at h1
 simp only [Xg,if_false,Wk,Wc] at h1
 have hask:Zat true 3 (some (.sl 3 0 0 ms.length,[.var [.map 1],mE 2 0 ms.length,.row 0 1 (ms.map AVal.str),.row 0 1 (ms.map AVal.str)]))=some (.lst false (ms.map AVal.str),[.var [.map 1],mE 2 0 ms.length,.row 0 1 (ms.map AVal.str)]):=by
  have he:=ZeF [.var [.map 1],mE 2 0 ms.length,.row 0 1 (ms.map AVal.str),.row 0 1 (ms.map AVal.str)] 3 0 ms.length false (ms.map AVal.str) (by simp) rfl
  unfold Zat
  rw [if_pos rfl]
  simp only [Zcb,viewR,Zba,ZaQ,he]
  rfl
 exact Zav (ZaB (O:=E) (bf:=BY) (σ:=hN W R T ms) (sq:=10) (own:=0) (f:=8) (view:=true) (args:=[.ref 1 0,.str shT]) (vs:=[.ref 1 0,.str shT]) (vs':=[.ref 0 0,.str shT]) (ids:=[1,2,4]) (h0:=[.var [.map 1],mE 2 0 ms.length,.row 0 1 (ms.map AVal.str)]) (h:=[.var [.map 1],mE 2 0 ms.length,.row 0 1 (ms.map AVal.str)]) (r:=.lst false (ms.map AVal.str)) (by kernel_rfl) rfl rfl rfl rfl rfl rfl (by rw [h1];exact hask) (Xf rfl) (Xf rfl) rfl rfl rfl rfl rfl)
include hl in
theorem Znl (hc:ms.contains c=true) (j:Nat) (hj:j < ms.length) (hi:ZaE c 0 ms=((j:Nat):Int)) (h2:2<=ms.length) (he:ms.eraseIdx j=er) (hel:ms.length - 1=er.length):Zi EG BY (hN W R T ms) 10 13 1 true [.ref 1 0,.str c]=some (.lst false [.str shT],hO W R T ms er,{ any:=true,upd:=[(1,[.map 2])] }):=by
 have h1:=Zm0 shT c false ms [] hl hc j hj hi h2
 unfold gX at h1
 simp only [Zd,Xg,if_false,XK,he,hel] at h1
 exact ZaB (O:=EG) (bf:=BY) (σ:=hN W R T ms) (sq:=10) (own:=1) (f:=13) (view:=true) (args:=[.ref 1 0,.str c]) (vs:=[.ref 1 0,.str c]) (vs':=[.ref 0 0,.str c]) (ids:=[1,2,4]) (h0:=[.var [.map 1],mE 2 0 ms.length,.row 0 1 (ms.map AVal.str)]) (h:=[.var [.map 1],mE 3 0 er.length,.row 0 1 (ms.map AVal.str),.row 0 1 (er.map AVal.str++[AVal.str []])]) (r:=.lst false [.str shT]) (by kernel_rfl) rfl rfl rfl rfl rfl rfl (by rw [h1];rfl) (Xf rfl) (Xf rfl) rfl rfl rfl rfl rfl
include hle in
theorem Zvu (hc:er.contains c=false):Zi EG BY (hO W R T ms er) 11 13 1 true [.ref 1 0,.str c]=some (.lst false [],hO W R T ms er,{ any:=true,upd:=[(1,[.map 2])] }):=by
 have h1:=ZmV shT c false er [.str []] hle hc
 unfold gX at h1
 simp only [Zd,Xg,if_false] at h1
 exact ZaB (O:=EG) (bf:=BY) (σ:=hO W R T ms er) (sq:=11) (own:=1) (f:=13) (view:=true) (args:=[.ref 1 0,.str c]) (vs:=[.ref 1 0,.str c]) (vs':=[.ref 0 0,.str c]) (ids:=[1,2,10]) (h0:=[.var [.map 1],mE 2 0 er.length,.row 0 1 (er.map AVal.str++[AVal.str []])]) (h:=[.var [.map 1],mE 2 0 er.length,.row 0 1 (er.map AVal.str++[AVal.str []])]) (r:=.lst false []) (by kernel_rfl) rfl rfl rfl rfl rfl rfl (by rw [h1];rfl) (Xf rfl) (Xf rfl) rfl rfl rfl rfl rfl
end
end
section
theorem ZuX {ms:List Tx} (hnd:ms.Nodup) {k:Nat} {c:Tx} (hc:ms[k]?=some c):(ms.eraseIdx k).contains c=false:=by
 obtain ⟨hk,rfl⟩:=Xe.1 hc
 have e:ms=ms.take k++ms[k]::ms.drop (k+1):=by rw [<-Wy hk,Xan]
 have hn:=hnd
 rw [e,WV] at hn
 obtain ⟨_,h2,h3⟩:=hn
 rw [List.nodup_cons] at h2
 rw [WX]
 cases hcon:(ms.take k++ms.drop (k+1)).contains ms[k] with
 | false=>rfl
 | true =>
  exfalso
  have hm:ms[k] ∈ ms.take k++ms.drop (k+1):=by simpa using hcon
  rcases List.mem_append.1 hm with h | h
  ·exact h3 _ h _ (List.mem_cons_self) rfl
  ·exact h2.1 h
theorem ZsP {ms:List Tx} (hnd:ms.Nodup) {k:Nat} {c:Tx} (hc:ms[k]?=some c):ZaE c 0 ms=((k:Nat):Int):=by
 obtain ⟨j,h1,h2,h3⟩:=Zi2 c ms 0 (by simpa using Xq hc)
 have : j=k:=(List.getElem?_inj h1 hnd).1 (h3.trans hc.symm)
 rw [h2,this,XD]
theorem ZkA (c:Tx):∀ (er:List Tx) (i:Nat),er.contains c=false->ZaE c i (er++[c])=((i+er.length:Nat):Int)
 | [],i,_=>by simp [ZaE]
 | x::r,i,h=>by
  rw [WO,Xat] at h
  rw [Wk]
  unfold ZaE
  rw [h.1,if_neg (by simp),ZkA c r (i+1) h.2]
  simp only [XS]
  congr 1;omega
theorem ZxJ (ms:List Tx) (hnd:ms.Nodup) (h2:2<=ms.length) (hl:ms.length<=12) (cl:List Tx) (q:Int) (i:Nat):ZeY (evC FC PRG BY 0 ZdM ((25,.bool false)::sl6 i (.sl 0 0 0 ms.length) 1 q cl) (HW ms)):=by
 obtain ⟨k,hk,hW⟩:=Zlo q (ms.length - 1) (by omega)
 have hkl:k < ms.length:=by omega
 obtain ⟨c,hc⟩:∃ c,ms[k]?=some c:=⟨_,Xz hkl⟩
 have hi:=ZsP hnd hc
 have hout:=ZuX hnd hc
 have hT:=Zkm ms (by omega) k hkl c
 have hL:=Zr4 (.row 0 1 (ms.map AVal.str)) ms (by omega) c k hkl hi h2
 have hel:(ms.eraseIdx k).length=ms.length - 1:=by rw [WS,if_pos hkl]
 generalize ms.eraseIdx k=er at *
 have hle:er.length<=1000000:=by omega
 have hL0:=ZnS (.row 0 1 (ms.map AVal.str)) (.row 0 1 (ms.map AVal.str)) er hle c hout
 have hJ:=j_m (.row 0 1 (ms.map AVal.str)) (.row 0 1 (ms.map AVal.str)) er hle c hout
 have hml:(er++[c]).length=ms.length:=by simp;omega
 have hM2:=Ztw (.row 0 1 (ms.map AVal.str)) (.row 0 1 (ms.map AVal.str)) (.row 2 1 ((er++[c]).map AVal.str)) (er++[c]) (by omega)
 have hil:=ZkA c er 0 hout
 rw [XD] at hil
 have hG1:=Znl (.row 0 1 (ms.map AVal.str)) (.row 0 1 (ms.map AVal.str)) (.row 2 1 ((er++[c]).map AVal.str)) (er++[c]) er (by omega) c (by simp) er.length (by simp) hil (by omega) (by rw [List.eraseIdx_append_of_length_le (XO _)];simp) (by simp)
 have hG2:=Zvu (.row 0 1 (ms.map AVal.str)) (.row 0 1 (ms.map AVal.str)) (.row 2 1 ((er++[c]).map AVal.str)) (er++[c]) er hle c hout
 have hM:=Zkp ms (by omega)
 have hS:=fun {σ:Za} hs sq own=>Zav (Zf2 ms ms false (by omega) (σ:=σ) (t:=0) (g:=0) hs sq own)
 rw [show (ms == ms)=true by simp] at hS
 have hS2:=fun {σ:Za} hs sq own=>Zav (Zf2 (er++[c]) (er++[c]) false (by omega) (σ:=σ) (t:=7) (g:=2) hs sq own)
 rw [show ((er++[c]) == (er++[c]))=true by simp] at hS2
 have hS3:=fun σ sq own=>Zav (ZgV [shT] [shT] false true (by simp) σ sq own)
 rw [show ([shT] == [shT])=true by simp] at hS3
 have e1:=fun {σ:Za} hs kk=>Zjn (σ:=σ) (t:=0) (n:=ms.length) (i:=k) (xs:=ms.map AVal.str) hs hkl kk
 have hx:(ms.map AVal.str)[k]?=some (.str c):=by rw [X3,hc];rfl
 have hv:∀ (σ:Za),viewAs σ [.str c]=some ([.str c],[]):=fun _=>rfl
 have hv2:∀ (σ:Za),viewAs σ [.str shT]=some ([.str shT],[]):=fun _=>rfl
 have z1:((ms.length:Int) == 0)=false:=beq_eq_false_iff_ne.2 (by omega)
 have z2:(((0:Nat):Int) == 0)=true:=rfl
 have w1:IntKind.i64.wrap ((ms.length:Int) - 1)=((ms.length - 1:Nat):Int):=by
  rw [show (ms.length:Int) - 1=((ms.length - 1:Nat):Int) by omega]
  exact Zdi (by omega) (by omega)
 have w2:IntKind.i64.wrap ((k:Int)+1)=((k+1:Nat):Int):=Zdp (i:=k) (n:=ms.length) (by omega) (by omega)
 have hn1:ms.length - 1+1=ms.length:=by omega
 have e8:(er++[c]).map AVal.str=er.map AVal.str++[AVal.str c]:=by simp
 obtain ⟨s1,s2,a1,a2,a3⟩:=hT
 unfold hN hO at hG1
 unfold hN at hM2
 unfold hO at hG2
 simp only [mE,shT,XE,XB,X6,hel,hml,hn1,e8] at hM hS hL hL0 hJ hM2 hG1 hG2 hS2 hS3 hv2
 unfold sl6 HW
 simp only [mE,shT]
 generalize (ms.take k).map AVal.str=Tk at *
 generalize er.map AVal.str=Er at *
 generalize cl.map AVal.str=C at *
 generalize ms.map AVal.str=S at *
 generalize ms.length - 1=n1 at *
 generalize ms.length=n at *
 simp -implicitDefEqProofs only [EQA,ZR,Z6,Z1,ZU,ZT,ZZ,Z4,ZS,ZP,ZX,Z5,Z0,ZV,Z3,ZQ,implies_true,forall_const,Xr,Xs,Xx,Xk,Xl,Xt,Xu,ZH,ZJ,unA,Zv,ZC,unG,reduceCtorEq,Zk,decide_eq_true_eq,Xm,Xi,ite_self,↓reduceIte,Zz,ZI,gcT,gcA,Zx,Zn,Zg,Zm,Zy,Zb,Zt,Zo,ZF,Xp,ZcM,ZbV,Zch,Zct,ZbP,ZcI,ZbQ,Z2,ZL,ZW,ZO,ZK,ZN,Zhv,hM,hS,z1,hW,w1,w2,e1,hx,hL,hL0,hJ,s1,s2,a1,a2,a3,hM2,hG1,hG2,hS2,hS3,hv,hv2,z2,AVal.cells,Zj,X5,Wr,Zcx,Zce,ZcP,Zbn,WP,WY,XH,XW,XS,XX,Zcw,Zcn,Zcs,Zck,ZcA,XN,XY,ZaD,ZaJ,ZaM,ZbJ,ZbI,Zbz,ZbY,Zb4,ZaY,ZbZ,We,WB,XH,XW,Wa,Zhf]
end
section
theorem Zrd (cl:List Tx) (q:Int) (hcl:cl.length<=9223372036854775807):EG 4 [.lst false (cl.map AVal.str),.int .i64 q] []=some (.bool true,[]):=by
 have hN:=Zav ZmH
 have hW:=Zyq
 have p1:(false != false)=false:=rfl
 have key:∀ (i b:Nat) (w:AVal) (hp:Za),ev6 (sl6 0 (.lst true []) 0 q cl) gN=some (.exit 0,(25,.bool false)::sl6 i w b q cl,hp)->ZeY (evC FC PRG BY 0 ZdM ((25,.bool false)::sl6 i w b q cl) hp)->EG 4 [.lst false (cl.map AVal.str),.int .i64 q] []=some (.bool true,[]):=by
  intro i b w hp h6 hr
  obtain ⟨tm,σ',hk⟩:=hr
  unfold ev6 sl6 gN at h6
  unfold sl6 at hk
  rw [show ((0:Nat):Int)=0 from rfl] at h6
  rw [Zdc (by rfl) Zxd]
  generalize cl.map AVal.str=C at *
  simp -implicitDefEqProofs only [EQA,ZR,Z6,Z1,ZU,ZT,ZZ,Z4,ZS,ZP,ZX,Z5,Z0,ZV,Z3,ZQ,implies_true,forall_const,Xr,Xs,Xx,Xk,Xl,Xt,Xu,ZH,ZJ,unA,Zv,ZC,unG,reduceCtorEq,Zk,decide_eq_true_eq,Xm,Xi,ite_self,↓reduceIte,Zz,ZI,gcT,gcA,Zx,Zn,Zg,Zm,Zy,Zb,Zt,Zo,ZF,Xp,ZcM,ZbV,Zch,Zct,ZbP,ZcI,ZbQ,Z2,ZL,ZW,ZO,ZK,ZN,hN,hW,p1,h6,hk]
 rcases Zoq cl q hcl with h6 | ⟨i,ms,a1,a2,a3,h6⟩
 ·exact key _ _ _ _ h6 (ZyG cl q)
 ·refine key _ _ _ _ h6 ?_
  by_cases h2:2<=ms.length
  ·exact ZxJ ms a2 h2 a3 cl q i
  ·have h1:0 < ms.length:=Xab.2 a1
   obtain ⟨c,rfl⟩:∃ c,ms=[c]:=List.length_eq_one_iff.1 (by omega)
   exact Zx2 c cl q i
end
section
open Go.RowKit Go.Shelf Go.Lib
theorem ZxY {W:World} (h:Lib.Utf8Tabs 1 2 W):Gl.le (Imm.of W):=by
 intro b o u hu
 unfold Gl at hu
 unfold Imm.of
 split at hu
 ·rename_i e;subst e
  split at hu
  ·rename_i ho
   rw [h.1 o ho,<-hu]
  ·cases hu
 ·split at hu
  ·rename_i e;subst e
   split at hu
   ·rename_i ho
    rw [<-hu]
    obtain ⟨h1,h2⟩:=h.2 (o / 2) (by omega)
    by_cases hp:o % 2=0
    ·rw [if_pos hp,<-h1];congr 2;omega
    ·rw [if_neg hp,<-h2];congr 2;omega
   ·cases hu
  ·cases hu
theorem Ztj {x:AVal} (h:Zhm false (.slice false .str) x):∃ l:List (List UInt8),l.length<=9223372036854775807/\x=.lst false (l.map AVal.str):=by
 obtain ⟨y,h,rfl⟩:=h
 simp only [TyC] at h
 obtain ⟨ys,rfl,h1,h2⟩:=h
 have : ∀ ys:List (List AVal),(∀ y ∈ ys,TyC .str y)->∃ l:List (List UInt8),ys.map (Zbk false)=l.map AVal.str:=by
  intro ys
  induction ys with
  | nil=>intro _;exact ⟨[],rfl⟩
  | cons y ys ih =>
   intro hy
   have hy0:=hy y (by simp)
   simp only [TyC] at hy0
   obtain ⟨a,_,ha⟩:=hy0
   obtain ⟨l,hl⟩:=ih fun y' h'=>hy y' (by simp [h'])
   exact ⟨a::l,by simp [ha,hl,Zbk]⟩
 obtain ⟨l,hl⟩:=this ys h2
 have hn:=congrArg List.length hl
 simp only [Wz] at hn
 exact ⟨l,by omega,by simp [Zbk,hl]⟩
theorem Zp5 {x:AVal} (h:Zhm false (.int .i64) x):∃ n:Int,(-9223372036854775808<=n/\n<=9223372036854775807)/\x=.int .i64 n:=by
 obtain ⟨y,h,rfl⟩:=h
 simp only [TyC] at h
 obtain ⟨n,hw,rfl⟩:=h
 refine ⟨n,?_,rfl⟩
 simp only [Lit.wf,Xc,decide_eq_true_eq] at hw
 exact hw
section
open Go.RowKit
variable {H:Type} {enc:TypeId×Value->H} {P:Program} {w:World} {spare:Nat->Bool} {held:Bool}
end
end
section
open Go.ChangeShapes Go.WideShapes Go.ChangeAt Go.RowKit Go.Deep
theorem Zyy:ownKnob Tryd.prog.godebug=none:=by kernel_rfl
theorem Zjj:laidOutB Tryd.prog=true:=by kernel_rfl
theorem Zm8 {W:World} (hLH:laidMetH Tryd.prog Rows.groupTwiceRow.laid W):Gl.le (Imm.of W):=by
 have hL:laidMet Tryd.prog Rows.groupTwiceRow.laid W:=by rw [<-MakeChecks.laidMetH_plain _ _ _ (by kernel_rfl)];exact hLH
 have e1:Rows.laid_unicode_utf8_first=Lib.firstData:=by kernel_rfl
 have e2:(Rows.laid_unicode_utf8_acceptRanges:DataW Unit)=Lib.acceptData:=by kernel_rfl
 have h1:Lib.VarReads Tryd.prog W "unicode/utf8.first" Lib.firstData:=by rw [<-e1];exact Lib.laidMet.reads hL (.tail _ (.head _))
 have h2:Lib.VarReads Tryd.prog W "unicode/utf8.acceptRanges" Lib.acceptData:=by rw [<-e2];exact Lib.laidMet.reads hL (.head _)
 exact ZxY (utf8Tabs_of_readsT (U8Types.of196 Zku) ⟨by kernel_rfl,by kernel_rfl,by kernel_rfl,by kernel_rfl,by kernel_rfl,by kernel_rfl,by kernel_rfl⟩ h1 h2)
set_option maxRecDepth 100000 in
theorem Zqm (H:Type) (enc:TypeId×Value->H) (W:World) (base:Nat) (args:Array Value) (ds gs:List (DataW H)) (before:List MemPlace)
  (hval0:∀ (j:Nat) t v,Tryd.f4.params[j]?=some t->args[j]?=some v->Value.okWide Tryd.prog W .any base t v)
  (hW:DataW.Whole enc Tryd.prog Tryd.f4.params.toList Rows.groupTwiceSpec.vars false W args.toList ds gs before) (hL:laidMetH Tryd.prog Rows.groupTwiceRow.laid W) :
  Calls Tryd.prog 4 args W fun e W'=>∃ v,e=.returned v/\Rows.groupTwiceSpec.post enc Tryd.prog Tryd.f4 false true false false W args v W':=by
 have hW':=hW
 obtain ⟨p,q,hA0,hV,rfl,hfz,hnd⟩:=hW
 have hval:∀ (j:Nat) t v,Tryd.f4.params[j]?=some t->args[j]?=some v->Value.okWide Tryd.prog W .any base t v:=hval0
 have hA:DataW.TrodAll enc Tryd.prog W 0 (fun _=>true) true Tryd.f4.params.toList args.toList ds p:=hA0
 rw [Tryd.params4] at hA hval
 obtain ⟨v0,vs0,d0,ds0,p0,q0,hargs,rfl,rfl,h0,r0⟩:=trodAll_cons hA
 obtain ⟨v1,vs1,d1,ds1,p1,q1,rfl,rfl,rfl,h1,r1⟩:=trodAll_cons r0
 obtain ⟨rfl,rfl,rfl⟩:=trodAll_nil r1
 obtain rfl:args=#[v0,v1]:=by cases args;simp_all
 obtain ⟨rfl,rfl⟩:=trodVars_none hV
 have k0:=h0
 have lt0:∀ x ∈ p0,x.block < W.heap.size:=by obtain ⟨m,hm⟩:=k0;exact DataW.trod_lt m _ _ _ hm
 obtain ⟨x0,y0,z0,_⟩:=Zkg (n:=12) (T:=.slice false .str) (by kernel_rfl) (hval 0 22 v0 rfl rfl) h0
 rw [Tryd.underlying22] at y0
 obtain ⟨a0,b0,rfl⟩:=Ztj y0
 have k1:=h1
 have lt1:∀ x ∈ p1,x.block < W.heap.size:=by obtain ⟨m,hm⟩:=k1;exact DataW.trod_lt m _ _ _ hm
 obtain ⟨x1,y1,z1,_⟩:=Zkg (n:=12) (T:=(.int .i64)) (by kernel_rfl) (hval 1 3 v1 rfl rfl) h1
 rw [Tryd.underlying3] at y1
 obtain ⟨a1,b1,rfl⟩:=Zp5 y1
 clear hA0 hval0
 have hq:=Zrd a0 a1 b0
 refine (Zxc Zp2 (Zm8 hL) (args:=[.lst false (a0.map AVal.str),.int .i64 a1]) (by simp only [VRs];exact ⟨_,_,rfl,z0,_,_,rfl,z1,rfl⟩) (hq)).mono fun e W' ⟨he,bel⟩=>?_
 subst he
 exact ⟨_,rfl,_,_,_,[],_,[],hW',trodAll_mk1 (shut_bool Tryd.underlying4 _),(trodAll_cons_mk (Below.trod Zjj (by kernel_rfl) (of_decide_eq_true (by kernel_rfl)) k0 bel lt0) (trodAll_cons_mk (Below.trod Zjj (by kernel_rfl) (of_decide_eq_true (by kernel_rfl)) k1 bel lt1) trodAll_mk0)),rfl,bel.frame _,fun h=>by cases h⟩
noncomputable def Zhy (os:Os):World :=
 let w0:=World.holding Tryd.prog os ⟨#[],#[],[]⟩
 let put (h:Array Obj) (g:Nat) (us:Array Value):Array Obj:=h.modify g fun
  | .cells _ t frozen=>.cells us t frozen
  | o=>o
 let h1:=put w0.heap 1 (Lib.firstTab.map fun z=>Value.int .u8 z).toArray
 let h2:=put h1 2 ((Wn 16).flatMap fun i=>[Value.int .u8 (Lib.accLo i),Value.int .u8 (Lib.accHi i)]).toArray
 { w0 with heap:=h2 }
theorem Zpg (os:Os):laidMet Tryd.prog Rows.groupTwiceRow.laid ((Zhy os).forCall (fun _ _=>0) ⟨#[],#[.slice none 0 0,.int .i64 0],[]⟩).memory :=
 laidMet_of_run' 8 (by kernel_rfl) (by kernel_rfl)
theorem Zrh (os:Os) {H:Type} (enc:TypeId×Value->H):∃ ds places,DataW.whole enc Tryd.prog ((Zhy os).forCall (fun _ _=>0) ⟨#[],#[.slice none 0 0,.int .i64 0],[]⟩).memory Tryd.f4.params.toList Rows.groupTwiceSpec.vars false #[.slice none 0 0,.int .i64 0].toList 8=some (ds,[],places) :=
 ⟨[.nil,.lit (.int .i64 0)],[],by kernel_rfl⟩
set_option maxRecDepth 100000 in
theorem Zwy (os:Os) (started:os.Started) (H:Type) (enc:TypeId×Value->H) (F:Stop.Interp) :
  ReturnsInHanded {} Tryd.checked os 4 .any ((OpenSpec.ofChange Rows.groupTwiceSpec).preRow enc Tryd.prog Tryd.f4 Rows.groupTwiceRow.domain false Rows.groupTwiceRow.laid) (((OpenSpec.ofChange Rows.groupTwiceSpec).at F).post enc Tryd.prog Tryd.f4 false true false false):=by
 obtain ⟨ds,places,hx⟩:=Zrh os enc
 refine returnsInHanded_of_row (C:=Tryd.checked) (s:=(OpenSpec.ofChange Rows.groupTwiceSpec)) Zyy started (by kernel_rfl) Tryd.func4
  (witness_row_at (enc:=enc) (C:=Tryd.checked) false (Zhy os) #[.slice none 0 0,.int .i64 0] rfl (by kernel_rfl) (by kernel_rfl) (by kernel_rfl)
   (OpenSpec.preRow_of_cond 8 hx (by kernel_rfl) (fun k hk=>by cases hk) (by kernel_rfl) (Zpg os))) ?_
 intro W base args ds gs before hval hW _ hcond _ hL _ _
 exact Zqm H enc W base args ds gs before hval hW hL
theorem Zyn:Rows.GroupTwiceSaid :=
 OpenClaim.holds_of_cond 4 Tryd.f4 rfl rfl rfl rfl rfl rfl rfl ⟨rfl,rfl,rfl,rfl,rfl⟩ rfl rfl rfl rfl rfl (by kernel_rfl) Tryd.func4 (by kernel_rfl)
  (of_decide_eq_true (by kernel_rfl)) (by unfold Func.isWrapper;first | (rw [if_pos (by decide +kernel)];kernel_rfl) | (rw [if_neg (by decide +kernel)];exact ⟨rfl,rfl⟩))
  (fun os started H enc _ F=>by rw [OpenClaim.pre_eq_preRow];exact Zwy os started H enc F)
theorem ZxG (f:FuncId) (fn:Func) (hf:Tryd.pinned.checked.prog.funcNamed "tidings/tidingslaw16.GroupTwice"=some f) (hfn:Tryd.pinned.checked.prog.funcs[f]?=some fn) :
  false=Tryd.pinned.checked.prog.looks []/\∀ (j:Nat) t,fn.params[j]?=some t->Tryd.pinned.checked.prog.wantsStandIn t=false:=by
 obtain rfl:f=4:=WW ((show Tryd.prog.funcNamed "tidings/tidingslaw16.GroupTwice"=some 4 by kernel_rfl).symm.trans hf) |>.symm
 obtain rfl:fn=Tryd.f4:=(WW (Tryd.func4.symm.trans hfn)).symm
 refine ⟨by kernel_rfl,fun j t ht=>?_⟩
 rw [Tryd.params4] at ht
 have hm:t=22\/t=3:=by
  have:=Array.mem_of_getElem? ht
  simp at this
  first | exact this | exact this.symm | omega | (rcases this with h | h | h <;> simp [h]) | (rcases this with h | h | h | h <;> simp [h]) | (rcases this with h | h | h | h | h <;> simp [h]) | (rcases this with h | h | h | h | h | h <;> simp [h]) | (rcases this with h | h | h | h | h | h | h <;> simp [h])
 rcases hm with rfl | rfl
 ·exact (show Tryd.prog.wantsStandIn 22=false by kernel_rfl)
 ·exact (show Tryd.prog.wantsStandIn 3=false by kernel_rfl)
theorem groupTwice_card:Rows.GroupTwiceCardSaid :=
 Claim7.holds_tied_plain_at .later [] _ _ _ _ Zyn (fun _ h=>by cases h) (by kernel_rfl) (fun _ h=>by cases h) groupTwice_row_tie rfl ⟨rfl,rfl⟩ (by kernel_rfl) rfl ZxG (by kernel_rfl)
#print axioms groupTwice_card
end
end Go.Proofs.YtagamgebijflnaaDoor
