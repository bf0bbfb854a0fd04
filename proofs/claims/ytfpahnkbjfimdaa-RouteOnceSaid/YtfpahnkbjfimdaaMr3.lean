/- packed -/
import Derived.Test.YtfpahnkbjfimdaaMr2
import Derived.Sort.Row
import Derived.Sort.Grow
import Derived.Shelf.SlSortCmp.NoneTotal
import Derived.Lib.Bytealg
import Derived.Test.YtfpahnkbjfimdaaProg
import Derived.Deep.Slices
import Derived.ChangeArms
import Derived.WideShapes
import GoSem.ClaimChange
import Derived.Shelf.Small.Strs
import Derived.Test.YtfpahnkbjfimdaaChecked
import Derived.Deep.RegionHeld3
import Derived.Shelf.Sort.Plain
import Derived.Shelf.Slices.In.SortNone
import Derived.Lib.TrimUEq
import Derived.Lib.MapLaws
import Derived.Lib.ValidLaws
set_option linter.defProp false
set_option linter.unusedSectionVars false
set_option linter.unusedSimpArgs false
set_option linter.unusedVariables false
open Option.some renaming injEq→Xa
open Prod.mk renaming injEq→Xb
open Bool renaming decide_eq_true→Xc,not_eq_true→Xh,and_eq_true→Xl,false_eq_true→Xz,or_eq_true→Wv,true_or→Xag,false_and→Xam,or_true→XaB,true_and→XaE
open List renaming getElem?_eq_some_iff→Xd,range_succ→Xe,all_cons→Xi,getD_eq_getElem?_getD→Xj,getElem?_set→Xk,all_nil→Xo,mem_of_getElem?→Xs,map_cons→Xu,mem_append→Xv,length_cons→Xx,length_append→Xy,length_nil→XA,getElem?_eq_getElem→XB,getD_cons_zero→XC,getD_cons_succ→XG,contains_nil→XH,getElem?_cons_zero→XI,mem_map→XJ,lookup_cons→XK,mem_cons→XL,all_eq_true→XM,length_singleton→XN,replicate→XO,length_map→XP,getElem?_take→XQ,flatMap_cons→XT,getElem?_eq_none→XV,getElem?_cons_succ→XW,getElem?_map→XX,lookup_nil→XY,mem_singleton→XZ,map_nil→X0,eq_nil_of_length_eq_zero→X1,any_cons→X2,length_take→X3,mem_or_eq_of_mem_set→X5,append_nil→X6,ext_getElem?→X7,any_nil→X8,nil_append→Wa,map_append→Wc,zip_cons_cons→Wd,nodup_cons→Wi,take_of_length_le→Wq,append_assoc→Ww,map_map→WB,drop_eq_nil_iff→WD,singleton_append→WF,cons_append→WG,range→WJ,mem_iff_getElem?→WN,map_congr_left→WS,drop_eq_getElem_cons→WT,mergeSort_perm→W2,set_cons_succ→W5,getElem?_take_of_lt→Xaf,pairwise_mergeSort→Xai,flatMap_nil→Xaw,set_set→XaH,take_append_drop→XaI,length_mergeSort→XaJ,map_set→XaT,flatten_cons→XaX,map_take→Xa0,le_antisymm→Xa4,headD_cons→Xa6,not_lt→Xba
open Nat renaming reduceLeDiff→Xf,reduceEqDiff→Xg,reduceMul→Xm,reduceAdd→Xp,reduceSub→Xq,reduceBEq→Xr,reduceLT→Xt,zero_add→XF,le_refl→XR,one_mul→Wl,add_zero→Wm,add_assoc→WH,zero_mul→XaS,succ_mul→Xa5
open Option renaming map_eq_some_iff→Xn,map_some→XU,getD_some→Wu,map→W3,isSome_none→W6
open Or renaming inl→Xw,inr→XE
open Array renaming getElem?_eq_some_iff→XD,length_toList→XS,getElem?_toList→Wo,getElem?_modify→WO,getElem?_eq_getElem→W9
open BitVec renaming ofInt→WM
open List.cons renaming injEq→Xae
open List.Perm renaming refl→XaV
open Int renaming toNat_natCast→XaY
namespace Go.Proofs.Ytfpahnkbjfimdaa
set_option maxHeartbeats 16000000
set_option maxRecDepth 10000
section
open Go.RowKit Go.Sort
def Zb3 {α:Type} (g:AVal->Option α):List AVal->Option (List α)
 | []=>some []
 | x::r=>match g x with
  | some a=>(Zb3 g r).map (a::·)
  | none=>none
def ZeX:AVal->Option Int
 | .int .i64 n=>some n
 | _=>none
def ZgY {α:Type} (g:AVal->Option α) (h:α->AVal) (le:α->α->Bool) (args:List AVal) (σ:Za):Option (AVal×Za):=match args,σ with
 | [.sl 0 0 0 n],[.row 0 1 xs]=>match Zb3 g xs with
  | some zs=>if n=xs.length/\n < 4611686018427387904 then some (.tup [],[.row 0 1 ((zs.mergeSort le).map h)]) else none
  | none=>none
 | [.lst b []],[]=>some (.tup [],[])
 | _,_=>none
def Zhg:=ZgY ZeX (AVal.int .i64) (fun x y=>decide (x<=y))
section
variable {P:Program} {base:Nat->Prop} {w0 w w':World} {I0 I:Imm} {β:Bmap} {σ:Za}
theorem Rel.putAt (R:Rel base w0 I0 I β σ w) (hbl:KLt base w) {t b:Nat} {x x':ZV} (ht:σ[t]?=some x) (hx:Ze w β t x b) (hx':∀ b',Ze w' β t x' b'->b'=b) (hg:Zb x'=Zb x)
  (hos:w'.os=w.os) (hta:w'.tape=w.tape) (hou:w'.output=w.output) (hs:w.heap.size<=w'.heap.size) (hh:∀ k,k≠b->k < w.heap.size->w'.heap[k]?=w.heap[k]?) (hblk:BR I β w' t x') (hnf:x'≠.free:=by simp) (hns:∀ b',¬ZbF β t x' b':=by intro b h;cases h) :
  Rel base w0 I0 I β (σ.set t x') w':=by
 have hsl:t < σ.length:=(Xd.1 ht).1
 have ho:=R.own t x b ht hx
 refine R.upd (Imm.le.refl I) (Bmap.le.refl β) ⟨hos,hta,hou,hs,fun k hk=>hh k (by rintro rfl;exact ho.1 hk) (hbl k hk)⟩ (fun _ _ _=>rfl) ?_ t x' rfl hsl (fun _ _ _=>rfl) ?_ hblk ?_ ?_ ?_ (fun b h=>absurd h (hns b))
 ·intro b' o u h
  have hne:b'≠b:=by rintro rfl;rw [ho.2 o] at h;cases h
  have h1:=R.imm b' o u h
  have hlt:=Zde h1
  rw [<-h1]
  simp only [World.cell?,hh b' hne hlt]
 ·intro t' y b' hne hy hb'
  have hbb:b'≠b:=by rintro rfl;exact hne (R.apart t' y t x b' hy ht hb' hx)
  exact ⟨hh b' hbb ((R.blk t' y hy).owns_lt hb'),(R.own t' y b' hy hb').2,fun e=>hbb (hx' _ e)⟩
 ·intro b' e
  obtain rfl:=hx' _ e
  exact ho
 ·intro g hlt
  exact R.gen t x g ht (by rw [<-hg];exact hlt)
 ·rintro rfl
  exact hnf rfl
theorem ZlK {α:Type} {g:AVal->Option α} {enc:α->Value} (hg:∀ x a v,g x=some a->VR I β x v->v=enc a) (hc:∀ x a,g x=some a->x.cells=[x]):∀ {xs:List AVal} {zs:List α} {vs:List Value},Zb3 g xs=some zs->VRs I β (xs.flatMap AVal.cells) vs->vs=zs.map enc
 | [],zs,vs,h,hv=>by
  simp only [Zb3,Xa] at h;subst h
  simpa [VRs] using hv
 | x::xs,zs,vs,h,hv=>by
  simp only [Zb3] at h
  split at h
  ·rename_i a ha
   simp only [Xn] at h
   obtain ⟨zs',h,rfl⟩:=h
   rw [XT,hc x a ha] at hv
   simp only [WF,VRs] at hv
   obtain ⟨v,vs',rfl,h1,h2⟩:=hv
   rw [hg x a v ha h1,ZlK hg hc h h2];rfl
  ·cases h
theorem ZiH {α:Type} {g:AVal->Option α}:∀ {xs:List AVal} {zs:List α},Zb3 g xs=some zs->zs.length=xs.length
 | [],zs,h=>by simp only [Zb3,Xa] at h;subst h;rfl
 | x::xs,zs,h=>by
  simp only [Zb3] at h
  split at h
  ·simp only [Xn] at h
   obtain ⟨zs',h,rfl⟩:=h
   simp [ZiH h]
  ·cases h
theorem Zyn {α:Type} [Inhabited α] {g:AVal->Option α} {h:α->AVal} {le:α->α->Bool} {enc:α->Value} {f:Nat} (hf:∃ fn,P.funcs[f]?=some fn/\fn.body.isSome=true/\(fn.name == "runtime.NumGoroutine")=false)
  (hg:∀ {I:Imm} {β:Bmap} (x:AVal) (a:α) (v:Value),g x=some a->VR I β x v->v=enc a) (hc:∀ x a,g x=some a->x.cells=[x]) (hh:∀ {I:Imm} {β:Bmap} (x:AVal) (a:α) (v:Value),g x=some a->VR I β x v->VR I β (h a) v) (hhc:∀ a,(h a).cells=[h a]/\Zaj (h a)=true)
  (hsort:∀ (blk off cap:Nat) (zs:List α) (w:World),Holds enc w blk off zs.toArray->blk < w.heap.size->zs.length < 4611686018427387904->Calls P f #[.slice (some ⟨blk,off,none⟩) zs.length cap] w fun e w'=>e=.returned (.tuple #[])/\∃ n os,w'=grow (putRow enc (Sort.ahead w n) blk off (zs.mergeSort le).toArray) os)
  (hnone:∀ (p:Option Addr) (cap:Nat) (w:World),Calls P f #[.slice p 0 cap] w fun e w'=>e=.returned (.tuple #[])/\w'=w)
  {args:List AVal} {σ σ':Za} {r:AVal} (hp:ZgY g h le args σ=some (r,σ')) :
  (∃ fn,P.funcs[f]?=some fn/\fn.body.isSome=true/\(fn.name == "runtime.NumGoroutine")=false) /\
  ∀ base w0 I0 I β w (vs:Array Value),KLt base w0->Rel base w0 I0 I β σ w->VRs I β args vs.toList ->
   Calls P f vs w (fun e w'=>∃ u,Ends r e u/\ZbG σ.length base w0 I0 I β r σ' u w'):=by
 refine ⟨hf,fun base w0 I0 I β w vs hb R hv=>?_⟩
 unfold ZgY at hp
 obtain ⟨vs⟩:=vs
 split at hp
 ·rename_i n xs
  split at hp
  case h_2=>cases hp
  rename_i zs hz
  split at hp
  case isFalse=>cases hp
  rename_i hn
  obtain ⟨rfl,hn⟩:=hn
  simp only [Xa,Xb] at hp
  obtain ⟨rfl,rfl⟩:=hp
  simp only [VRs] at hv
  obtain ⟨v,vs',rfl,hv,rfl⟩:=hv
  have hzl:=ZiH hz
  have hB:=R.blk 0 _ rfl
  obtain ⟨bi,e1,e2,e3,e4,e5,e6,e7,e8⟩:=hB
  rw [Zcb] at hv
  obtain ⟨bi',f1,f2,f3,f4⟩:=hv
  rw [e1] at f1
  injection f1 with f1
  subst f1
  rcases f4 with ⟨b,hb',rfl⟩ | ⟨hbn,hc0,A,rfl⟩
  ·rcases e8 with ⟨e8,_⟩ | ⟨b2,us,ty,q1,q2,q3,q4⟩
   ·rw [e8] at hb';cases hb'
   rw [hb'] at q1;injection q1 with q1;subst q1
   rw [Nat.mul_one] at q3 q4
   have hus:=ZlK (fun x a v=>hg x a v) hc hz q4
   have hxl:xs.length<=us.size:=by omega
   have hH:Holds enc w b 0 zs.toArray:=by
    intro j hj
    have hj':j < zs.length:=by simpa using hj
    refine ⟨?_,by simp [World.frozen?,q2]⟩
    have h1:(us.toList.take xs.length)[j]?=(zs.map enc)[j]?:=by rw [hus]
    rw [Xaf (by omega)] at h1
    simp only [World.cell?,q2,XF]
    simp only [W6,Xz,if_false]
    rw [<-Wo,h1]
    simp [hj']
   have hvr:∀ a ∈ zs,VR I β (h a) (enc a):=by
    have key:∀ {ys:List AVal} {zs:List α} {vs:List Value},Zb3 g ys=some zs->VRs I β (ys.flatMap AVal.cells) vs->∀ a ∈ zs,VR I β (h a) (enc a):=by
     intro ys
     induction ys with
     | nil=>intro zs vs hz _ a ha;simp only [Zb3,Xa] at hz;subst hz;simp at ha
     | cons y ys ih =>
      intro zs vs hz hv a ha
      simp only [Zb3] at hz
      split at hz
      ·rename_i a0 ha0
       simp only [Xn] at hz
       obtain ⟨zs',hz,rfl⟩:=hz
       rw [XT,hc y a0 ha0] at hv
       simp only [WF,VRs] at hv
       obtain ⟨v,vs',_,h1,h2⟩:=hv
       rcases XL.1 ha with rfl | ha
       ·rw [<-hg y a v ha0 h1];exact hh y a v ha0 h1
       ·exact ih hz h2 a ha
      ·cases hz
    exact key hz q4
   have hlt:b < w.heap.size:=(XD.1 q2).1
   rw [<-hzl]
   refine (hsort b 0 bi.cap zs w hH hlt (by omega)).mono ?_
   rintro e w' ⟨rfl,nn,os,rfl⟩
   have hml:(zs.mergeSort le).length=zs.length:=XaJ zs
   have hheap:(grow (putRow enc (Sort.ahead w nn) b 0 (zs.mergeSort le).toArray) os).heap[b]?=some (.cells (putCells enc 0 (zs.mergeSort le).toArray us) ty (0,0)):=by
    rw [heap_grow_old _ _ (by simpa using hlt)]
    simp [putRow,mapBlock,Sort.ahead,WO,q2,onCells]
   have htake:(putCells enc 0 (zs.mergeSort le).toArray us).toList.take zs.length=(zs.mergeSort le).map enc:=by
    apply X7
    intro j
    by_cases hj:j < zs.length
    ·rw [Xaf hj,Wo]
     have hj2:j < us.size:=by omega
     have hj3:j < (zs.mergeSort le).length:=by omega
     simp [putCells,hj2,hj]
    ·rw [List.getElem?_take_eq_none (by omega),XV (by simp;omega)]
   have hperm:∀ a,a ∈ zs.mergeSort le->a ∈ zs:=fun a ha=>(W2 zs le).mem_iff.1 ha
   have hcells:∀ l:List α,(l.map h).flatMap AVal.cells=l.map h:=by
    intro l
    induction l with
    | nil=>rfl
    | cons a l ih=>rw [Xu,XT,(hhc a).1,ih];rfl
   have hown:Ze w β 0 (.row 0 1 xs) b:=by simp [Ze,e1,hb']
   refine ⟨.tuple #[],rfl,I,β,Imm.le.refl I,KeptE.refl _ β,?_,by simp [Zam,VR,VRs]⟩
   have:=R.putAt (R.base_le hb) (t:=0) (b:=b) (x:=.row 0 1 xs) (x':=.row 0 1 ((zs.mergeSort le).map h)) (w':=grow (putRow enc (Sort.ahead w nn) b 0 (zs.mergeSort le).toArray) os) rfl hown (by simp [Ze,e1,hb']) rfl rfl rfl rfl (by simp) (fun k hk hkl=>by
    rw [heap_grow_old _ _ (by simpa using hkl)]
    have : b≠k:=fun e=>hk e.symm
    simp [putRow,mapBlock,Sort.ahead,WO,this])
    ⟨bi,e1,e2,by decide,e4,by rw [XP,hml];omega,?_,?_,XE ⟨b,_,ty,hb',hheap,by simp [putCells];omega,?_⟩⟩
   ·exact this
   ·rw [Zb8]
    intro x hx
    obtain ⟨a,_,rfl⟩:=XJ.1 hx
    have:=(hhc a)
    rw [ZcG,this.1]
    intro c hc
    rw [XZ] at hc;subst hc
    exact this.2
   ·intro x hx
    obtain ⟨a,_,rfl⟩:=XJ.1 hx
    rw [(hhc a).1];rfl
   ·rw [hcells,XP,hml,Nat.mul_one,htake]
    have key:∀ l:List α,(∀ a ∈ l,VR I β (h a) (enc a))->VRs I β (l.map h) (l.map enc):=by
     intro l
     induction l with
     | nil=>intro _;simp [VRs]
     | cons a l ih =>
      intro hl
      simp only [Xu,VRs]
      exact ⟨_,_,rfl,hl a (by simp),ih fun c hc=>hl c (by simp [hc])⟩
    exact key _ fun a ha=>hvr a (hperm a ha)
  ·have hx0:xs=[]:=X1 (by omega)
   subst hx0
   simp only [Zb3,Xa] at hz
   subst hz
   refine (hnone A 0 w).mono ?_
   rintro e w' ⟨rfl,rfl⟩
   exact ⟨.tuple #[],rfl,I,β,Imm.le.refl I,KeptE.refl _ β,by simpa using R,by simp [Zam,VR,VRs]⟩
 ·simp only [Xa,Xb] at hp
  obtain ⟨rfl,rfl⟩:=hp
  simp only [VRs,VR] at hv
  obtain ⟨v,vs',rfl,⟨A,cap,rfl,_⟩,rfl⟩:=hv
  refine (hnone A cap w).mono ?_
  rintro e w' ⟨rfl,rfl⟩
  exact ⟨.tuple #[],rfl,I,β,Imm.le.refl I,KeptE.refl _ β,R,by simp [Zam,VR,VRs]⟩
 ·cases hp
theorem ZrS {f:Nat} (hf:∃ fn,P.funcs[f]?=some fn/\fn.body.isSome=true/\(fn.name == "runtime.NumGoroutine")=false)
  (hsort:∀ (blk off cap:Nat) (zs:List Int) (w:World),Holds (Value.int .i64) w blk off zs.toArray->blk < w.heap.size->zs.length < 4611686018427387904->Calls P f #[.slice (some ⟨blk,off,none⟩) zs.length cap] w fun e w'=>e=.returned (.tuple #[])/\∃ n os,w'=grow (putRow (Value.int .i64) (Sort.ahead w n) blk off (zs.mergeSort fun x y=>decide (x<=y)).toArray) os)
  (hnone:∀ (p:Option Addr) (cap:Nat) (w:World),Calls P f #[.slice p 0 cap] w fun e w'=>e=.returned (.tuple #[])/\w'=w)
  {args:List AVal} {σ σ':Za} {r:AVal} (hp:Zhg args σ=some (r,σ')) :
  (∃ fn,P.funcs[f]?=some fn/\fn.body.isSome=true/\(fn.name == "runtime.NumGoroutine")=false) /\
  ∀ base w0 I0 I β w (vs:Array Value),KLt base w0->Rel base w0 I0 I β σ w->VRs I β args vs.toList ->
   Calls P f vs w (fun e w'=>∃ u,Ends r e u/\ZbG σ.length base w0 I0 I β r σ' u w'):=by
 refine Zyn (g:=ZeX) (h:=AVal.int .i64) hf ?_ ?_ ?_ (fun a=>⟨rfl,rfl⟩) hsort hnone hp
 ·intro I β x a v hx hv
  unfold ZeX at hx
  split at hx
  ·injection hx with hx;subst hx;simpa [VR] using hv
  ·cases hx
 ·intro x a hx
  unfold ZeX at hx
  split at hx
  ·rfl
  ·cases hx
 ·intro I β x a v hx hv
  unfold ZeX at hx
  split at hx
  ·injection hx with hx;subst hx;exact hv
  ·cases hx
end
end
section
open Go.RowKit Go.Sort
def leC {κ:Type} (cf:κ->κ->Int) (x y:κ):Bool:=!decide (cf y x < 0)
def ZdX {κ:Type} [DecidableEq κ] (cf:κ->κ->Int) (xs:List AVal) (ks:List κ):List AVal:=(ks.mergeSort (leC cf)).map fun a=>((ks.zip xs).lookup a).getD .nilp
def ZfW {κ:Type} [DecidableEq κ] (k f:Nat) (key:AVal->Option κ) (cf:κ->κ->Int) (args:List AVal) (σ:Za):Option (AVal×Za):=match args,σ with
 | [.sl 0 0 0 n,.fn f' []],[.row 0 k' xs]=>match Zb3 key xs with
  | some ks=>if n=xs.length/\n < 4611686018427387904/\k'=k/\f'=f/\ks.Nodup then some (.tup [],[.row 0 k (ZdX cf xs ks)]) else none
  | none=>none
 | [.lst b [],.fn f' []],[]=>some (.tup [],[])
 | _,_=>none
def Ze2:AVal->Option (List UInt8)
 | .agg (.str l::_)=>some l
 | _=>none
section
variable {P:Program} {base:Nat->Prop} {w0 w w':World} {I0 I:Imm} {β:Bmap} {σ:Za}
theorem Zlc {k:Nat}:∀ {xs:List AVal} {vs:List Value},(∀ x ∈ xs,x.cells.length=k)->VRs I β (xs.flatMap AVal.cells) vs->∃ VS:List (List Value),vs=VS.flatten/\VS.length=xs.length/\(∀ l ∈ VS,l.length=k)/\∀ (i:Nat) (x:AVal),xs[i]?=some x->∃ l,VS[i]?=some l/\VRs I β x.cells l
 | [],vs,_,h=>by
  simp only [Xaw,VRs] at h
  subst h
  exact ⟨[],rfl,rfl,by simp,by simp⟩
 | x::xs,vs,hk,h=>by
  rw [XT] at h
  have hl:=Zaa h
  have h1:=Zdr h x.cells.length
  have h2:=ZdQ h x.cells.length
  rw [List.take_left] at h1
  rw [List.drop_left] at h2
  obtain ⟨VS,e1,e2,e3,e4⟩:=Zlc (fun y hy=>hk y (by simp [hy])) h2
  refine ⟨vs.take x.cells.length::VS,by rw [XaX,<-e1,XaI],by simp [e2],?_,?_⟩
  ·intro l hl'
   rcases XL.1 hl' with rfl | hl'
   ·rw [<-Zaa h1];exact hk x (by simp)
   ·exact e3 l hl'
  ·intro i y hy
   cases i with
   | zero=>simp only [XI,Xa] at hy;subst hy;exact ⟨_,rfl,h1⟩
   | succ i=>simp only [XW] at hy ⊢;exact e4 i y hy
theorem Zgo {κ β':Type} [DecidableEq κ]:∀ {ks:List κ} {ys:List β'} {i:Nat} {a:κ} {y:β'},ks.Nodup->ks[i]?=some a->ys[i]?=some y->(ks.zip ys).lookup a=some y
 | [],ys,i,a,y,_,h,_=>by simp at h
 | b::ks,[],i,a,y,_,_,h=>by simp at h
 | b::ks,z::ys,0,a,y,_,h,h'=>by
  simp only [XI,Xa] at h h'
  subst h h'
  simp [List.lookup]
 | b::ks,z::ys,i+1,a,y,hn,h,h'=>by
  simp only [XW] at h h'
  obtain ⟨n1,n2⟩:=Wi.1 hn
  have hne:a≠b:=by rintro rfl;exact n1 (Xs h)
  rw [Wd,XK]
  have : (a == b)=false:=by simpa using hne
  rw [this]
  exact Zgo n2 h h'
theorem Zmk {k:Nat}:∀ {L:List (List Value)} {i c:Nat},(∀ l ∈ L,l.length=k)->c < k->(L.flatten)[i*k+c]?=(L[i]?).bind (·[c]?)
 | [],i,c,_,_=>by simp
 | l::L,0,c,h,hc=>by
  have:=h l (by simp)
  rw [XaS,XF,XaX,List.getElem?_append_left (by omega)]
  rfl
 | l::L,i+1,c,h,hc=>by
  have hl:=h l (by simp)
  rw [XaX,List.getElem?_append_right (by rw [hl,Xa5];omega)]
  have : (i+1)*k+c - l.length=i*k+c:=by rw [hl,Xa5];omega
  rw [this,Zmk (fun m hm=>h m (by simp [hm])) hc]
  rfl
theorem Zng {α:Type} [Inhabited α] {enc:α->List Value} {k:Nat} (hk:∀ x,(enc x).length=k) (hk0:0 < k) (d:List α):(flatK enc k d.toArray).toList=d.flatMap enc:=by
 have hL:∀ l ∈ d.map enc,l.length=k:=fun l hl=>by obtain ⟨a,_,rfl⟩:=XJ.1 hl;exact hk a
 apply X7
 intro t
 rw [List.flatMap_def]
 have e:t=t / k*k+t % k:=by rw [Nat.mul_comm];exact (Nat.div_add_mod t k).symm
 have hm:=Nat.mod_lt t hk0
 have h2:((d.map enc).flatten)[t]?=((d.map enc)[t / k]?).bind (·[t % k]?):=by
  have:=Zmk (i:=t / k) (c:=t % k) hL hm
  rwa [<-e] at this
 rw [h2]
 by_cases ht:t < d.length*k
 ·have hi:t / k < d.length:=Nat.div_lt_of_lt_mul (by rwa [Nat.mul_comm] at ht)
  have hz:(flatK enc k d.toArray).size=d.length*k:=by rw [size_flatK];rfl
  have hg:=get_flatK enc k d.toArray t (by simpa using ht)
  rw [Wo,W9 (by rw [hz];exact ht)]
  rw [getElem!_pos _ t (by rw [hz];exact ht)] at hg
  rw [hg,XX,XB hi]
  have e2:(d.toArray[t / k]!)=d[t / k]:=by simp [hi]
  rw [e2]
  simp only [XU,Option.bind_some]
  have hl:=hk d[t / k]
  rw [getElem!_pos _ _ (by omega),XB (by omega)]
 ·have hd:d.length<=t / k:=(Nat.le_div_iff_mul_le hk0).2 (by omega)
  rw [XV (by rw [XS,size_flatK];simpa using ht),XV (by simpa using hd)]
  rfl
theorem Znt {α:Type} {g:AVal->Option α}:∀ {xs:List AVal} {zs:List α} {i:Nat} {x:AVal},Zb3 g xs=some zs->xs[i]?=some x->∃ a,zs[i]?=some a/\g x=some a
 | [],zs,i,x,_,hx=>by simp at hx
 | y::xs,zs,i,x,h,hx=>by
  simp only [Zb3] at h
  split at h
  ·rename_i a ha
   simp only [Xn] at h
   obtain ⟨zs',h,rfl⟩:=h
   cases i with
   | zero=>simp only [XI,Xa] at hx;subst hx;exact ⟨a,rfl,ha⟩
   | succ i=>simp only [XW] at hx ⊢;exact Znt h hx
  ·cases h
theorem ZAi {κ:Type} [DecidableEq κ] [Inhabited κ] {k g f:Nat} {key:AVal->Option κ} {cf:κ->κ->Int} {pre:κ->List Value} {m:Nat} (hf:∃ fn,P.funcs[f]?=some fn/\fn.body.isSome=true/\(fn.name == "runtime.NumGoroutine")=false)
  (hm:m<=k) (hk0:0 < k) (hg0:g < 1000000) (hpre:∀ a,(pre a).length=m/\∀ v ∈ pre a,v.oneCell'=true)
  (hkey:∀ {I:Imm} {β:Bmap} (x:AVal) (a:κ) (l:List Value),key x=some a->VRs I β x.cells l->∃ t,l=pre a++t)
  (hcmp:∀ (a b:κ) (us vs:List Value) (W:World),m+us.length=k->m+vs.length=k->Calls P g #[.agg (pre a++us).toArray,.agg (pre b++vs).toArray] W fun e w'=>e=.returned (.int .i64 (cf a b))/\∃ q os',w'=grow (W.drewN q) os')
  (hsort:∀ (enc:κ->List Value),(∀ x,(enc x).length=k)->(∀ x,∀ v ∈ enc x,v.oneCell'=true)->∀ (blk off cap:Nat) (d:Array κ) (w:World),CmpLays P g #[] enc k cf blk off d.size w->HoldsK enc k w blk off d->blk < w.heap.size->d.size < 4611686018427387904 ->
   Calls P f #[.slice (some ⟨blk,off,none⟩) d.size cap,.func (.func g) #[] #[]] w fun e w'=>e=.returned (.tuple #[])/\∃ n os,w'=sortWorldK enc k w blk off n (d.toList.mergeSort (leC cf)).toArray os)
  (hnone:∀ (p:Option Addr) (cap:Nat) (fv:Value) (w:World),Calls P f #[.slice p 0 cap,fv] w fun e w'=>e=.returned (.tuple #[])/\w'=w)
  {args:List AVal} {σ σ':Za} {r:AVal} (hp:ZfW k g key cf args σ=some (r,σ')) :
  (∃ fn,P.funcs[f]?=some fn/\fn.body.isSome=true/\(fn.name == "runtime.NumGoroutine")=false) /\
  ∀ base w0 I0 I β w (vs:Array Value),KLt base w0->Rel base w0 I0 I β σ w->VRs I β args vs.toList ->
   Calls P f vs w (fun e w'=>∃ u,Ends r e u/\ZbG σ.length base w0 I0 I β r σ' u w'):=by
 refine ⟨hf,fun base w0 I0 I β w vs hb R hv=>?_⟩
 unfold ZfW at hp
 obtain ⟨vs⟩:=vs
 split at hp
 ·rename_i n f' k' xs
  split at hp
  case h_2=>cases hp
  rename_i ks hz
  split at hp
  case isFalse=>cases hp
  rename_i hn
  obtain ⟨rfl,hn,rfl,rfl,hnd⟩:=hn
  simp only [Xa,Xb] at hp
  obtain ⟨rfl,rfl⟩:=hp
  simp only [VRs] at hv
  obtain ⟨v,vs',rfl,hv,fv,vs'',rfl,hfv,rfl⟩:=hv
  have hfv':fv=.func (.func f') #[] #[]:=by
   simp only [VR,if_pos hg0,VRs] at hfv
   obtain ⟨fs,us,rfl,rfl,h⟩:=hfv
   have : us=#[]:=by
    have:=congrArg List.length h
    simp at this
    exact this
   rw [this]
  subst hfv'
  have hzl:=ZiH hz
  have hB:=R.blk 0 _ rfl
  obtain ⟨bi,e1,e2,e3,e4,e5,e6,e7,e8⟩:=hB
  rw [Zcb] at hv
  obtain ⟨bi',f1,f2,f3,f4⟩:=hv
  rw [e1] at f1
  injection f1 with f1
  subst f1
  rcases f4 with ⟨b,hb',rfl⟩ | ⟨hbn,hc0,A,rfl⟩
  ·rcases e8 with ⟨e8,_⟩ | ⟨b2,us,ty,q1,q2,q3,q4⟩
   ·rw [e8] at hb';cases hb'
   rw [hb'] at q1;injection q1 with q1;subst q1
   obtain ⟨VS,v1,v2,v3,v4⟩:=Zlc e7 q4
   let enc:κ->List Value:=fun a=>((ks.zip VS).lookup a).getD (pre a++XO (k' - m) (.int .i64 0))
   have hmem:∀ a l,(ks.zip VS).lookup a=some l->l ∈ VS/\∃ (i:Nat) (x:AVal),xs[i]?=some x/\ks[i]?=some a/\VS[i]?=some l:=by
    have key:∀ (ks:List κ) (VS:List (List Value)) a l,(ks.zip VS).lookup a=some l->∃ i:Nat,ks[i]?=some a/\VS[i]?=some l:=by
     intro ks
     induction ks with
     | nil=>intro VS a l h;simp at h
     | cons b ks ih =>
      intro VS a l h
      cases VS with
      | nil=>simp at h
      | cons y VS =>
       rw [Wd,XK] at h
       by_cases e:a=b
       ·subst e;simp only [beq_self_eq_true,Xa] at h;subst h;exact ⟨0,rfl,rfl⟩
       ·have : (a == b)=false:=by simpa using e
        rw [this] at h
        obtain ⟨i,h1,h2⟩:=ih VS a l h
        exact ⟨i+1,by simpa using h1,by simpa using h2⟩
    intro a l h
    obtain ⟨i,h1,h2⟩:=key ks VS a l h
    have hi:i < xs.length:=by have:=(Xd.1 h2).1;omega
    exact ⟨Xs h2,i,xs[i],XB hi,h1,h2⟩
   have henc:∀ a,(∃ (i:Nat) (x:AVal),xs[i]?=some x/\ks[i]?=some a/\VS[i]?=some (enc a)/\(ks.zip VS).lookup a=some (enc a))\/enc a=pre a++XO (k' - m) (.int .i64 0):=by
    intro a
    cases h:(ks.zip VS).lookup a with
    | none=>exact XE (by simp only [enc,h];rfl)
    | some l =>
     obtain ⟨_,i,x,h1,h2,h3⟩:=hmem a l h
     refine Xw ⟨i,x,h1,h2,?_,?_⟩ <;> simp only [enc,h,Wu] <;> assumption
   have hpr:∀ a,∃ t,enc a=pre a++t:=by
    intro a
    rcases henc a with ⟨i,x,h1,h2,h3,_⟩ | h
    ·obtain ⟨a',k1,k2⟩:=Znt hz h1
     rw [h2] at k1;injection k1 with k1;subst k1
     obtain ⟨l,l1,l2⟩:=v4 i x h1
     rw [h3] at l1;injection l1 with l1;subst l1
     exact hkey x _ _ k2 l2
    ·exact ⟨_,h⟩
   have hk:∀ a,(enc a).length=k':=by
    intro a
    rcases henc a with ⟨i,x,h1,h2,h3,_⟩ | h
    ·exact v3 _ (Xs h3)
    ·rw [h,Xy,(hpre a).1,List.length_replicate];omega
   have h1c:∀ a,∀ v ∈ enc a,v.oneCell'=true:=by
    intro a v hv
    rcases henc a with ⟨i,x,h1,h2,h3,_⟩ | h
    ·obtain ⟨l,l1,l2⟩:=v4 i x h1
     rw [h3] at l1;injection l1 with l1;subst l1
     refine ZfD (fun c hc=>?_) l2 v hv
     have:=(Zb8.1 e6) x (Xs h1)
     exact ZhU ((ZcG.1 this) c hc)
    ·rw [h] at hv
     rcases Xv.1 hv with hv | hv
     ·exact (hpre a).2 v hv
     ·rw [List.mem_replicate] at hv;rw [hv.2];rfl
   have hall:ks.map enc=VS:=by
    apply X7
    intro i
    rw [XX]
    by_cases hi:i < xs.length
    ·obtain ⟨a,ha⟩:∃ a,ks[i]?=some a:=⟨_,XB (by omega)⟩
     obtain ⟨l,hl⟩:∃ l,VS[i]?=some l:=⟨_,XB (by omega)⟩
     rw [ha,hl,XU]
     congr 1
     simp only [enc,Zgo hnd ha hl,Wu]
    ·rw [XV (by omega),XV (by omega)];rfl
   have hflat:(flatK enc k' ks.toArray).toList=us.toList.take (xs.length*k'):=by
    rw [Zng hk hk0,List.flatMap_def,hall,<-v1]
   have hH:HoldsK enc k' w b 0 ks.toArray:=by
    intro j hj
    refine ⟨?_,by simp [World.frozen?,q2]⟩
    have hj':j < ks.length*k':=by simpa using hj
    rw [hzl] at hj'
    have h1:(us.toList.take (xs.length*k'))[j]?=(flatK enc k' ks.toArray).toList[j]?:=by rw [hflat]
    rw [Xaf hj'] at h1
    simp only [World.cell?,q2,XF]
    simp only [W6,Xz,if_false]
    rw [<-Wo,h1,Wo,W9 hj]
    have e:=getElem!_pos (flatK enc k' ks.toArray) j hj
    rw [e];rfl
   have hlt:b < w.heap.size:=(XD.1 q2).1
   have hcl:CmpLays P f' #[] enc k' cf b 0 ks.toArray.size w:=by
    intro q os dk _ x y
    obtain ⟨t1,ht1⟩:=hpr x
    obtain ⟨t2,ht2⟩:=hpr y
    have l1:=hk x
    have l2:=hk y
    rw [ht1,Xy,(hpre x).1] at l1
    rw [ht2,Xy,(hpre y).1] at l2
    rw [ht1,ht2]
    simpa using hcmp x y t1 t2 _ l1 l2
   have hS:=hsort enc hk h1c b 0 bi.cap ks.toArray w hcl hH hlt (by simp;omega)
   rw [show ks.toArray.size=xs.length by simp [hzl]] at hS
   refine hS.mono ?_
   rintro e w' ⟨rfl,nn,os,rfl⟩
   simp only [List.toList_toArray] at *
   have hml:(ks.mergeSort (leC cf)).length=ks.length:=XaJ ks
   unfold sortWorldK putRowK
   have hsz:(flatK enc k' (ks.mergeSort (leC cf)).toArray).size=xs.length*k':=by rw [size_flatK];simp [hml,hzl]
   have hcap:xs.length*k'<=us.size:=by rw [q3];exact Nat.mul_le_mul_right k' e5
   generalize hfl:flatK enc k' (ks.mergeSort (leC cf)).toArray=FL at *
   have hfll:FL.toList=(ks.mergeSort (leC cf)).flatMap enc:=by rw [<-hfl,Zng hk hk0]
   have hheap:(grow (putRow id (Sort.ahead w nn) b 0 FL) os).heap[b]?=some (.cells (putCells id 0 FL us) ty (0,0)):=by
    rw [heap_grow_old _ _ (by simpa using hlt)]
    simp [putRow,mapBlock,Sort.ahead,WO,q2,onCells]
   have htake:(putCells id 0 FL us).toList.take (xs.length*k')=(ks.mergeSort (leC cf)).flatMap enc:=by
    rw [<-hfll]
    apply X7
    intro j
    by_cases hj:j < xs.length*k'
    ·rw [Xaf hj,Wo,Wo]
     have hj2:j < us.size:=by omega
     have hj3:j < FL.size:=by omega
     simp [putCells,hj2,hj3]
    ·rw [List.getElem?_take_eq_none (by omega),XV (by simp;omega)]
   have hperm:∀ a,a ∈ ks.mergeSort (leC cf)->a ∈ ks:=fun a ha=>(W2 ks _).mem_iff.1 ha
   have hown:Ze w β 0 (.row 0 k' xs) b:=by simp [Ze,e1,hb']
   have hlk:∀ a ∈ ks,∃ x ∈ xs,((ks.zip xs).lookup a).getD .nilp=x/\VRs I β x.cells (enc a):=by
    intro a ha
    obtain ⟨i,hi⟩:=WN.1 ha
    have hix:i < xs.length:=by have:=(Xd.1 hi).1;omega
    obtain ⟨x,hx⟩:∃ x,xs[i]?=some x:=⟨_,XB hix⟩
    obtain ⟨l,l1,l2⟩:=v4 i x hx
    refine ⟨x,Xs hx,by rw [Zgo hnd hi hx];rfl,?_⟩
    simp only [enc,Zgo hnd hi l1,Wu]
    exact l2
   refine ⟨.tuple #[],rfl,I,β,Imm.le.refl I,KeptE.refl _ β,?_,by simp [Zam,VR,VRs]⟩
   have:=R.putAt (R.base_le hb) (t:=0) (b:=b) (x:=.row 0 k' xs) (x':=.row 0 k' (ZdX cf xs ks)) (w':=grow (putRow id (Sort.ahead w nn) b 0 FL) os) rfl hown (by simp [Ze,e1,hb']) rfl rfl rfl rfl (by simp) (fun c hc hcl=>by
    rw [heap_grow_old _ _ (by simpa using hcl)]
    have : b≠c:=fun e=>hc e.symm
    simp [putRow,mapBlock,Sort.ahead,WO,this])
    ⟨bi,e1,e2,hk0,e4,by simp only [ZdX,XP,hml];omega,?_,?_,XE ⟨b,_,ty,hb',hheap,by simp [putCells];omega,?_⟩⟩
   ·exact this
   ·rw [Zb8]
    intro x hx
    obtain ⟨a,ha,rfl⟩:=XJ.1 hx
    obtain ⟨y,hy,e,_⟩:=hlk a (hperm a ha)
    rw [e]
    exact (Zb8.1 e6) y hy
   ·intro x hx
    obtain ⟨a,ha,rfl⟩:=XJ.1 hx
    obtain ⟨y,hy,e,_⟩:=hlk a (hperm a ha)
    rw [e]
    exact e7 y hy
   ·have e9:(ZdX cf xs ks).length=xs.length:=by simp only [ZdX,XP,hml];omega
    rw [e9,htake]
    unfold ZdX
    have key:∀ l:List κ,(∀ a ∈ l,a ∈ ks)->VRs I β ((l.map fun a=>((ks.zip xs).lookup a).getD .nilp).flatMap AVal.cells) (l.flatMap enc):=by
     intro l
     induction l with
     | nil=>intro _;simp [VRs]
     | cons a l ih =>
      intro hl
      rw [Xu,XT,XT]
      obtain ⟨y,hy,e,h⟩:=hlk a (hl a (by simp))
      rw [e]
      exact Zca h (ih fun c hc=>hl c (by simp [hc]))
    exact key _ hperm
  ·have hx0:xs=[]:=X1 (by omega)
   subst hx0
   simp only [Zb3,Xa] at hz
   subst hz
   refine (hnone A 0 _ w).mono ?_
   rintro e w' ⟨rfl,rfl⟩
   exact ⟨.tuple #[],rfl,I,β,Imm.le.refl I,KeptE.refl _ β,by simpa [ZdX] using R,by simp [Zam,VR,VRs]⟩
 ·simp only [Xa,Xb] at hp
  obtain ⟨rfl,rfl⟩:=hp
  simp only [VRs] at hv
  obtain ⟨v,vs',rfl,hv,fv,vs'',rfl,hfv,rfl⟩:=hv
  simp only [VR] at hv
  obtain ⟨A,cap,rfl,_⟩:=hv
  refine (hnone A cap fv w).mono ?_
  rintro e w' ⟨rfl,rfl⟩
  exact ⟨.tuple #[],rfl,I,β,Imm.le.refl I,KeptE.refl _ β,R,by simp [Zam,VR,VRs]⟩
 ·cases hp
end
end
section
def Zdx {α:Type} (d:α):List (Nat×α)->Nat->α
 | [],_=>d
 | (k,v)::r,n=>if k=n then v else Zdx d r n
def ZaQ (own raw:List Nat) (cfg cfg2:List (Nat×Nat×Bool)) (lr ll:List (Nat×List Nat)):Ann:={ own:=fun n=>if own.contains n then 1 else if raw.contains n then 2 else if raw.contains (n+1000000) then 3 else if raw.contains (n+2000000) then 4 else if raw.contains (n+3000000) then 5 else 0,cfg:=Zdx (0,true) cfg,cfg2:=Zdx (0,true) cfg2,lr:=Zdx [] lr,ll:=Zdx [] ll }
def ZqQ:List (Nat×Ann):=[
 (6,ZaQ [] [] [] [] [(0,[2,1]),(1,[3,2,1]),(2,[33,3,2,1]),(3,[3,2,1]),(4,[4,2,1]),(5,[5,4,2,1]),(6,[53,5,4,2,1]),(7,[5,4,2,1]),(8,[5,4,2,1]),(9,[71,4,2,1]),(10,[4,2]),(11,[2])] [(6,[5,4,2,1])]),
 (21,ZaQ [] [] [] [] [(0,[1]),(1,[3,1]),(2,[7,3,1]),(3,[3,1]),(4,[18,3,1]),(5,[3,1]),(6,[29,3,1]),(7,[3,1]),(8,[4,3,1]),(9,[45,4,3,1]),(10,[4,3,1]),(11,[4,3,1]),(12,[2])] [(9,[4,3,1])]),
 (33,ZaQ [] [] [] [] [(0,[0]),(1,[2]),(2,[2])] []),
 (47,ZaQ [] [] [] [] [(0,[2,0]),(1,[4,2,0]),(2,[0]),(3,[2,0]),(4,[8,2,0]),(5,[2,0]),(6,[2,0]),(7,[2])] []),
 (48,ZaQ [] [] [] [] [(0,[2,0]),(1,[4,2,0]),(2,[0]),(3,[2,0]),(4,[8,2,0]),(5,[2,0]),(6,[2,0]),(7,[14,2,0]),(8,[2,0]),(9,[2,0]),(10,[2])] []),
 (14,ZaQ [] [] [] [] [(0,[6,5,3,1]),(1,[7,6,5,3,1]),(2,[7,6,1]),(3,[7,6]),(4,[6])] []),
 (16,ZaQ [] [] [] [] [(0,[4,3,2]),(1,[5,4]),(2,[5,4]),(3,[4])] []),
 (8,ZaQ [] [3000011,3000040] [] [] [(0,[2,1]),(1,[5,2,1]),(2,[14,13,12,5,2]),(3,[15,14,13,12,5,2]),(4,[14,13,12,7,5,2]),(5,[33,14,13,12,7,5,2]),(6,[14,13,12,5,2]),(7,[14,13,12,5,2]),(8,[]),(12,[]),(13,[8]),(14,[4])] [(3,[14,13,12,5,2]),(10,[])]),
 (24,ZaQ [] [] [] [] [(0,[3,2]),(1,[4])] []),
 (22,ZaQ [] [] [] [] [(0,[4,2,1]),(1,[5,4,2,1]),(2,[6,5,4,2,1]),(3,[18,17,16,6,5,4,2]),(4,[19,18,17,16,6,5,4,2]),(5,[18,17,16,8,6,5,4,2]),(6,[18,17,16,8,6,5,4,2]),(7,[18,17,16,8,6,5,4,2]),(8,[39,18,17,16,8,6,5,4,2]),(9,[18,17,16,6,5,4,2]),(10,[18,17,16,6,5,4,2]),(11,[5,4]),(12,[5,4]),(13,[4])] [(4,[18,17,16,6,5,4,2])]),
 (30,ZaQ [] [] [(37,1,false)] [] [(0,[2,1]),(1,[2,1]),(2,[2,1]),(3,[15,14,2,1]),(4,[16,15,14,2,1]),(5,[15,14,3,2,1]),(6,[15,14,2,1]),(7,[15,14,2,1]),(8,[2])] [(4,[15,14,2,1])]),
 (60,ZaQ [] [] [] [] [(0,[0]),(1,[2])] []),
 (19,ZaQ [] [] [] [] [(0,[1,0]),(1,[8,1,0]),(2,[4]),(3,[4])] []),
 (20,ZaQ [] [] [] [] [(0,[2,1,0]),(1,[7,1,0]),(2,[7,1,0]),(3,[16,7,1,0]),(4,[1,0]),(5,[6])] []),
 (18,ZaQ [] [] [] [] [(0,[0]),(1,[3,0]),(2,[4,3,0]),(3,[12,4,3,0]),(4,[4,3,0]),(5,[4,3,0]),(6,[2])] [(3,[4,3,0])]),
 (3,ZaQ [] [] [] [] [(0,[2,1]),(1,[5,1]),(2,[5,1]),(3,[6,5,1]),(4,[7,6,5,1]),(5,[25,7,6,5,1]),(6,[7,6,5,1]),(7,[76,7,6,5,1]),(8,[4]),(9,[9,8,7,6,5,1]),(10,[10,9,8,7,6,5,1]),(11,[80,10,9,8,7,6,5,1]),(12,[10,9,8,7,6,5,1]),(13,[117,10,9,8,7,6,5,1]),(14,[10,9,8,7,6,5,1]),(15,[136,10,9,8,7,6,5,1]),(16,[10,9,8,7,6,5,1]),(17,[157,7,6,5,1]),(18,[4]),(19,[11,6,5,1]),(20,[161,11,6,5,1]),(21,[11,6,5,1]),(22,[12,11,6,5,1]),(23,[13,12,11,6,5,1]),(24,[188,13,12,11,6,5,1]),(25,[13,12,11,6,5,1]),(26,[13,12,11,6,5,1]),(27,[206,11,6,5,1]),(28,[4]),(29,[4])] [(5,[7,6,5,1]),(11,[10,9,8,7,6,5,1]),(20,[11,6,5,1]),(24,[13,12,11,6,5,1])]),
 (4,ZaQ [] [] [] [] [(0,[2,1]),(1,[5,1]),(2,[5,1]),(3,[6,5,1]),(4,[7,6,5,1]),(5,[20,7,6,5,1]),(6,[7,6,5,1]),(7,[7,6,5,1]),(8,[9,8]),(9,[40,9,8]),(10,[4]),(11,[10,9,8]),(12,[44,10,9,8]),(13,[10,9,8]),(14,[71,10,9,8]),(15,[4]),(16,[4])] [(5,[7,6,5,1]),(12,[10,9,8])]),
 (5,ZaQ [] [] [] [] [(0,[5,3,1]),(1,[7,5,3,1]),(2,[7,5,3,1]),(3,[8,7,5,3,1]),(4,[9,7,5,3,1]),(5,[10,9,7,5,3,1]),(6,[28,9,7,5,3,1]),(7,[10,9,7,5,3,1]),(9,[6]),(10,[47,9,7,5,3]),(11,[6]),(12,[11,9,7,5,3]),(13,[51,11,9,7,5,3]),(14,[11,9,7,5,3]),(15,[12,11,9,7,5,3]),(16,[63,12,11,9,7,5,3]),(17,[12,11,9,7,5,3]),(18,[12,11,9,7,5,3]),(19,[13,11,9,7,5,3]),(20,[83,13,11,9,7,5,3]),(21,[13,11,9,7,5,3]),(22,[96,13,11,9,7,5,3]),(23,[6]),(24,[6])] [(6,[10,9,7,5,3,1]),(13,[11,9,7,5,3]),(16,[12,11,9,7,5,3]),(20,[13,11,9,7,5,3])]),
 (11,ZaQ [] [] [] [] [(0,[1,0]),(1,[10,1,0]),(2,[4]),(3,[5,1,0]),(4,[14,5,1,0]),(5,[5,1,0]),(6,[41,5,1,0]),(7,[4]),(8,[4])] [(4,[5,1,0])]),
 (7,ZaQ [] [] [] [] [(0,[0]),(1,[3,0]),(2,[4,3,0]),(3,[13,4,3,0]),(4,[4,3,0]),(5,[5,4,3,0]),(6,[5,4,3,0]),(7,[4,3,0]),(8,[2])] [(3,[4,3,0])]),
 (9,ZaQ [] [] [] [] [(0,[]),(1,[1]),(2,[0])] []),
 (35,ZaQ [] [] [] [] [(0,[3,2]),(1,[4])] []),
 (29,ZaQ [] [] [] [] [(0,[1,0]),(1,[10,1,0]),(2,[4]),(3,[5,1,0]),(4,[14,5,1,0]),(5,[5,1,0]),(6,[26,5,1,0]),(7,[4]),(8,[4])] [(4,[5,1,0])]),
 (26,ZaQ [] [] [] [] [(0,[1,0]),(1,[5,1,0]),(2,[18,5,1,0]),(3,[5,1,0]),(4,[32,5,1,0]),(5,[4]),(6,[6,5,1,0]),(7,[4])] [(2,[5,1,0])]),
 (13,ZaQ [] [] [] [] [(0,[3,2]),(1,[4])] []),
 (10,ZaQ [] [] [] [] [(0,[3,2]),(1,[41,3,2]),(2,[4]),(3,[5,3,2]),(4,[46,5,3,2]),(5,[5,3,2]),(6,[59,5,3,2]),(7,[4]),(8,[4])] [(4,[5,3,2])]),
 (15,ZaQ [] [] [] [] [(0,[6,5,3,1]),(1,[7,6,5]),(2,[24,7,6,5]),(3,[7,6]),(4,[6])] []),
 (17,ZaQ [] [] [] [] [(0,[4,3,2]),(1,[5,4]),(2,[5,4]),(3,[4])] []),
 (12,ZaQ [] [] [] [] [(0,[2,1]),(1,[5,2,1]),(2,[6,5,2,1]),(3,[17,6,5,2,1]),(4,[6,5,2,1]),(5,[41,6,5,2,1]),(6,[6,5,2,1]),(7,[7,5,2,1]),(8,[8,7,5,2,1]),(9,[52,8,7,5,2,1]),(10,[8,7,5,2,1]),(11,[9,8,7,5,2,1]),(12,[11,10,9,8,7,5,2,1]),(13,[12,11,10,9,8,7,5,2,1]),(14,[60,12,11,10,9,8,7,5,2,1]),(15,[12,11,10,9,8,7,5,2,1]),(16,[13,12,11,10,9,8,7,5,2,1]),(17,[90,13,12,11,10,9,8,7,5,2,1]),(18,[95,13,12,11,10,9,8,7,5,2,1]),(19,[13,12,11,10,9,8,7,5,2,1]),(20,[13,12,11,10,9,8,7,5,2,1]),(21,[108,13,12,11,10,9,8,7,5,2,1]),(22,[12,11,10,9,8,7,5,2,1]),(23,[11,9,8,7,5,2,1]),(24,[9,8,7,5,2,1]),(25,[8,7,5,2,1]),(26,[4])] [(3,[6,5,2,1]),(9,[8,7,5,2,1]),(14,[12,11,10,9,8,7,5,2,1])]),
 (28,ZaQ [] [] [] [] [(0,[1,0]),(1,[7,1,0]),(2,[4]),(3,[4])] []),
 (27,ZaQ [] [] [] [] [(0,[1,0]),(1,[5,1,0]),(2,[18,5,1,0]),(3,[5,1,0]),(4,[6,5,1,0]),(5,[4])] [(2,[5,1,0])]),
 (1000000,{})]
def ann:Nat->Ann:=Zdx {} ZqQ
def ZrO:List (Nat×Bool):=[
 (31,true),
 (23,true),
 (1000000,false)]
def BY:Nat->Bool:=Zdx false ZrO
noncomputable def CF:Nat->Option Zax:=Zgq Try.prog ann
noncomputable def FC:Nat->Option Zax:=fun f=>(CF f).map Zhn
def ZnJ:List (Nat×Option (List AVal->Za->Option (AVal×Za))):=[
 (36,some (ZeH 1 1)),
 (37,some (ZeH 5 72)),
 (31,some (Zhg)),
 (23,some (ZfW 15 24 Ze2 Go.Lib.compareBytes)),
 (8,some (ZjB)),
 (1000000,none)]
def PR:Zb1:=Zdx none ZnJ
theorem xw (c d:Zq) (h:c=d) (m:Nat) (tm:Tms) (σ:Za):evC FC PR BY m c tm σ=evC FC PR BY m d tm σ:=by rw [h]
noncomputable abbrev E:ZZ:=EV FC PR BY
theorem Zez {f:Nat} {fn:Zax} (hp:PR f=none) (hf:FC f=some fn) (args:List AVal) (σ:Za):E f args σ=ZaR σ.length fn (evC FC PR BY σ.length fn.body (enterA 0 args []) σ):=Znz hp hf args σ
end
section
open Go.RowKit
inductive Ty where
 | bool
 | int (k:IntKind)
 | str
 | slice (s:Bool) (e:Ty)
 | struct (fs:List Ty)
 deriving Inhabited
def Zc9:Option TypeDesc->Bool
 | some (.struct _)=>true
 | some (.array _ _)=>true
 | _=>false
def Zgg (P:Program):Nat->List Field->Nat->Bool
 | at',[],n=>at' == n
 | at',f::fs,n=>f.offset == at' && Zgg P (at'+P.cellsOf f.type) fs n
def Zc2 (P:Program):Nat->TypeId->Option Ty
 | 0,_=>none
 | n+1,t=>match P.underlying t with
  | some .bool=>some .bool
  | some (.int k)=>some (.int k)
  | some .string=>some .str
  | some (.slice e)=>if 0 < P.cellsOf e then (Zc2 P n e).map (.slice (Zc9 (P.underlying e))) else none
  | some (.struct fs)=>if Zgg P 0 fs.toList (P.cellsOf t) then (fs.toList.mapM fun f=>Zc2 P n f.type).map .struct else none
  | _=>none
def ZbQ (s:Bool) (y:List AVal):AVal:=if s then .agg y else y.headD .nilp
mutual
def TyC:Ty->List AVal->Prop
 | .bool,xs=>∃ b,xs=[.bool b]
 | .int k,xs=>∃ n,(Lit.int k n).wf=true/\xs=[.int k n]
 | .str,xs=>∃ l:List UInt8,l.length<=9223372036854775807/\xs=[.str l]
 | .slice s e,xs=>∃ ys:List (List AVal),xs=[.lst false (ys.map (ZbQ s))]/\ys.length<=9223372036854775807/\∀ y ∈ ys,TyC e y
 | .struct fs,xs=>ZdU fs xs
def ZdU:List Ty->List AVal->Prop
 | [],xs=>xs=[]
 | f::fs,xs=>∃ a b,xs=a++b/\TyC f a/\ZdU fs b
end
def Imm.of (w:World):Imm:=fun b o=>w.cell? ⟨b,o,none⟩
section
variable {H:Type} {enc:TypeId×Value->H} {P:Program} {w:World} {spare:Nat->Bool} {held:Bool}
theorem Zzr {b off:Nat} {s:Option Nat} {u:Value} (h:w.cell? ⟨b,off,s⟩=some u):s=none:=by
 unfold World.cell? at h
 split at h
 ·rcases s with _ | s
  ·rfl
  ·simp at h
 ·cases h
theorem ZAr {s:Bool} {y:List AVal} (h:s=false->y.length=1) (h1:s=false->∀ x ∈ y,Zy x=true):(ZbQ s y).cells=y:=by
 cases s with
 | true=>rfl
 | false =>
  match y,h rfl with
  | [x],_ =>
   have:=h1 rfl x (by simp)
   cases x <;> simp_all [ZbQ,AVal.cells,Zy]
theorem ZvM {a:Addr} (h:a.spot=none) (n:Nat):a.add n=⟨a.block,a.off+n,none⟩:=by
 unfold Addr.add
 split
 ·rename_i e;subst e;cases a;simp_all
 ·rfl
theorem Zz1 {I:Imm} {β:Bmap} {xs:List AVal} {vs:List Value} {n:Nat} (h:VRs I β xs (vs.take n)) {ys:List AVal} (h':VRs I β ys (vs.drop n)):VRs I β (xs++ys) vs:=by
 have:=Zca h h'
 rwa [XaI] at this
theorem ZmR {α β:Type} {f:α->Option β} {a:α} {l:List α} {r:List β} (h:(a::l).mapM f=some r):∃ b r',f a=some b/\l.mapM f=some r'/\r=b::r':=by
 rw [List.mapM_cons] at h
 simp only [Option.bind_eq_bind,Option.bind_eq_some_iff,Option.pure_def,Xa] at h
 obtain ⟨b,h1,r',h2,h3⟩:=h
 exact ⟨b,r',h1,h2,h3.symm⟩
theorem ZAP {a b:List AVal} (ha:Zaf a=true) (hb:Zaf b=true):Zaf (a++b)=true:=by
 induction a with
 | nil=>exact hb
 | cons x a ih=>simp only [WG,Zaf,Xl] at ha ⊢;exact ⟨ha.1,ih ha.2⟩
theorem Znk {n fuel:Nat} {cs:List Value} (ih:∀ (t:TypeId) (cs:List Value) (x:DataW H×List MemPlace) (T:Ty),Zc2 P n t=some T->DataW.trod enc P w 0 spare held fuel t cs=some x->∃ xs,TyC T xs/\VRs (Imm.of w) B0 xs cs/\Zaf xs=true) :
  ∀ (fs:List Field) (at':Nat) (Ts:List Ty) (ys:List (DataW H×List MemPlace)),Zgg P at' fs cs.length=true->fs.mapM (fun f=>Zc2 P n f.type)=some Ts ->
   fs.mapM (fun f=>DataW.trod enc P w 0 spare held fuel f.type ((cs.drop f.offset).take (P.cellsOf f.type)))=some ys->∃ xs,ZdU Ts xs/\VRs (Imm.of w) B0 xs (cs.drop at')/\Zaf xs=true
 | [],at',Ts,ys,ho,hT,_=>by
  simp only [Zgg,beq_iff_eq] at ho
  simp only [List.mapM_nil,Option.pure_def,Xa] at hT
  subst hT ho
  exact ⟨[],by simp only [ZdU],by simp [VRs],rfl⟩
 | f::fs,at',Ts,ys,ho,hT,h=>by
  simp only [Zgg,Xl,beq_iff_eq] at ho
  obtain ⟨T,Ts',h1,h2,rfl⟩:=ZmR hT
  obtain ⟨y,ys',h3,h4,rfl⟩:=ZmR h
  obtain ⟨a,a1,a2,a3⟩:=ih _ _ _ _ h1 h3
  obtain ⟨b,b1,b2,b3⟩:=Znk ih fs _ _ _ ho.2 h2 h4
  rw [ho.1] at a2
  refine ⟨a++b,by simp only [ZdU];exact ⟨a,b,rfl,a1,b1⟩,Zz1 a2 (by rw [List.drop_drop];exact b2),ZAP a3 b3⟩
theorem ZmN {I:Imm} {β:Bmap} {s:Bool} {k b:Nat}:∀ (n off:Nat) (Y:Nat->List AVal),(∀ i,i < n->(ZbQ s (Y i)).cells.length=k/\CR I β (ZbQ s (Y i)).cells b (off+i*k))->LR I β k ((WJ n).map fun i=>ZbQ s (Y i)) b off
 | 0,off,Y,_=>by simp [LR]
 | n+1,off,Y,h=>by
  rw [List.range_succ_eq_map,Xu,Ze9]
  have h0:=h 0 (by omega)
  simp only [XaS,Wm] at h0
  refine ⟨h0,?_⟩
  rw [WB]
  exact ZmN n (off+k) (fun i=>Y (i+1)) (fun i hi=>by
   have:=h (i+1) (by omega)
   rw [show off+k+i*k=off+(i+1)*k by rw [Xa5];omega]
   exact this)
theorem Zmn {I:Imm} {β:Bmap} {b:Nat}:∀ (xs:List AVal) (cs:List Value) (off:Nat),VRs I β xs cs->(∀ i,i < cs.length->I b (off+i)=cs[i]?)->CR I β xs b off
 | [],_,_,_,_=>by simp only [CR]
 | x::xs,cs,off,h,hI=>by
  simp only [VRs] at h
  obtain ⟨v,vs',rfl,h1,h2⟩:=h
  simp only [CR]
  refine ⟨⟨v,by have:=hI 0 (by simp);simpa using this,h1⟩,Zmn xs vs' (off+1) h2 fun i hi=>?_⟩
  have:=hI (i+1) (by simp;omega)
  rw [show off+1+i=off+(i+1) by omega,this]
  simp
theorem Zjr {s:Bool}:∀ (n:Nat) (Y:Nat->List AVal),(∀ i,i < n->Zaf (ZbQ s (Y i)).cells=true)->Z4 ((WJ n).map fun i=>ZbQ s (Y i))=true
 | 0,Y,_=>by simp [Z4]
 | n+1,Y,h=>by
  rw [List.range_succ_eq_map,Xu,ZkE,h 0 (by omega),WB]
  simp only [XaE]
  exact Zjr n (fun i=>Y (i+1)) (fun i hi=>h (i+1) (by omega))
theorem ZmC {xs:List AVal} (h:Zaf xs=true):∀ x ∈ xs,Zy x=true:=by
 induction xs with
 | nil=>intro x hx;simp at hx
 | cons y ys ih =>
  simp only [Zaf,Xl] at h
  intro x hx
  rcases XL.1 hx with rfl | hx
  ·cases x <;> simp_all [Zaj,Zy]
  ·exact ih h.2 x hx
theorem Zl2 {n:Nat} {e:TypeId} {T:Ty} (hT:Zc2 P n e=some T) (hs:Zc9 (P.underlying e)=false) {xs:List AVal} (h:TyC T xs):xs.length=1:=by
 cases n with
 | zero=>simp [Zc2] at hT
 | succ n =>
  simp only [Zc2] at hT
  split at hT
  ·injection hT with hT;subst hT;simp only [TyC] at h;obtain ⟨_,rfl⟩:=h;rfl
  ·injection hT with hT;subst hT;simp only [TyC] at h;obtain ⟨_,_,rfl⟩:=h;rfl
  ·injection hT with hT;subst hT;simp only [TyC] at h;obtain ⟨_,_,rfl⟩:=h;rfl
  ·split at hT
   ·simp only [Xn] at hT
    obtain ⟨T',_,rfl⟩:=hT
    simp only [TyC] at h;obtain ⟨_,rfl,_⟩:=h;rfl
   ·cases hT
  ·rename_i hu;rw [hu] at hs;simp [Zc9] at hs
  ·cases hT
theorem Zjk:∀ (n fuel:Nat) (t:TypeId) (cs:List Value) (x:DataW H×List MemPlace) (T:Ty),Zc2 P n t=some T->DataW.trod enc P w 0 spare held fuel t cs=some x ->
  ∃ xs,TyC T xs/\VRs (Imm.of w) B0 xs cs/\Zaf xs=true
 | 0,fuel,t,cs,x,T,hT,_=>by simp [Zc2] at hT
 | n+1,0,t,cs,x,T,_,h=>by simp [DataW.trod] at h
 | n+1,fuel+1,t,cs,x,T,hT,h=>by
  have h0:=h
  simp only [Zc2] at hT
  unfold DataW.trod at h
  split at hT
  ·rename_i hu
   injection hT with hT;subst hT
   obtain ⟨b,rfl,_⟩:=DataW.trod_bool hu h0
   exact ⟨[.bool b],by simp only [TyC];exact ⟨b,rfl⟩,by simp [VRs,VR],rfl⟩
  ·rename_i k hu
   injection hT with hT;subst hT
   obtain ⟨n',rfl,_,hk⟩:=DataW.trod_int hu h0
   exact ⟨[.int k n'],by simp only [TyC];exact ⟨n',hk,rfl⟩,by simp [VRs,VR],rfl⟩
  ·rename_i hu
   injection hT with hT;subst hT
   obtain ⟨s,rfl,_,hs⟩:=DataW.trod_string hu h0
   have hs':s.data.toList.length<=9223372036854775807:=by
    rw [XS];exact Nat.le_trans hs (by simp [maxLen])
   exact ⟨[.str s.data.toList],by simp only [TyC];exact ⟨_,hs',rfl⟩,by simp only [VRs,VR];exact ⟨_,_,rfl,⟨by simp,hs'⟩,rfl⟩,rfl⟩
  ·rename_i e hu
   split at hT
   case isFalse=>cases hT
   rename_i hc
   simp only [Xn] at hT
   obtain ⟨T,hT,rfl⟩:=hT
   rcases Go.Deep.open_slice hu h0 with ⟨hcs,_⟩ | ⟨a,len,cap,m,n',D,Pl,hcs,_,hl,hm,hmm,_,hi⟩
   ·subst hcs
    exact ⟨[.lst false []],by simp only [TyC];exact ⟨[],by simp,by simp,by simp⟩,by simp only [VRs,VR];exact ⟨_,_,rfl,⟨none,0,rfl,by simp,by simp,by simp,by simp,by simp [Z4]⟩,rfl⟩,rfl⟩
   ·have hlm:len<=m:=by split at hmm <;> omega
    have hspot:0 < len->a.spot=none:=by
     intro h0
     obtain ⟨cs',h1,h2⟩:=hi 0 (by omega)
     obtain ⟨_,h6,h7⟩:=World.cells?_some h1
     have h8:=h7 0 hc
     obtain ⟨u,hu⟩:∃ u,cs'[0]?=some u:=⟨cs'[0]'(by omega),by simp⟩
     rw [hu] at h8
     simp only [XaS,Addr.add,if_true] at h8
     exact Zzr (b:=a.block) (off:=a.off) (s:=a.spot) (u:=u) h8
    have hall:∀ i,∃ xs,i < len->TyC T xs/\(ZbQ (Zc9 (P.underlying e)) xs).cells=xs/\xs.length=P.cellsOf e/\CR (Imm.of w) B0 xs a.block (a.off+i*P.cellsOf e)/\Zaf xs=true:=by
     intro i
     by_cases hlt:i < len
     ·obtain ⟨cs',h1,h2⟩:=hi i (by omega)
      obtain ⟨xs,h3,h4,h5⟩:=Zjk n n' e cs' _ T hT h2
      obtain ⟨_,h6,h7⟩:=World.cells?_some h1
      have hlen:=Zaa h4
      refine ⟨xs,fun _=>⟨h3,ZAr (fun hs=>Zl2 hT hs h3) (fun _=>ZmC h5),by omega,Zmn xs cs' _ h4 (fun j hj=>?_),h5⟩⟩
      have h8:=h7 j (by omega)
      rw [Go.Deep.add_add,ZvM (hspot (by omega)),<-WH] at h8
      exact h8
     ·exact ⟨[],fun h=>absurd h hlt⟩
    obtain ⟨Y,hY⟩:=Classical.axiomOfChoice hall
    subst hcs
    have hmx:maxLen=9223372036854775807:=by simp [maxLen]
    rw [hmx] at hm
    refine ⟨[.lst false ((WJ len).map fun i=>ZbQ (Zc9 (P.underlying e)) (Y i))],?_,?_,?_⟩
    ·simp only [TyC]
     refine ⟨(WJ len).map Y,by rw [WB];rfl,by simp;omega,?_⟩
     intro y hy
     obtain ⟨i,hi',rfl⟩:=XJ.1 hy
     exact (hY i (List.mem_range.1 hi')).1
    ·simp only [VRs,VR,XP,List.length_range]
     refine ⟨_,_,rfl,⟨some a,cap,rfl,hl,hm,by simp,?_,Zjr len Y fun i hlt=>by rw [(hY i hlt).2.1];exact (hY i hlt).2.2.2.2⟩,rfl⟩
     cases len with
     | zero=>exact Xw (by simp)
     | succ len =>
      refine XE ⟨a.block,a.off,P.cellsOf e,?_,hc,ZmN (len+1) a.off Y fun i hlt=>?_⟩
      ·have:=hspot (by omega)
       cases a;simp_all
      ·rw [(hY i hlt).2.1];exact ⟨(hY i hlt).2.2.1,(hY i hlt).2.2.2.1⟩
    ·simp only [Zaf,Zaj,Bool.and_true]
     exact Zjr len Y fun i hlt=>by rw [(hY i hlt).2.1];exact (hY i hlt).2.2.2.2
  ·rename_i fs hu
   split at hT
   case isFalse=>cases hT
   rename_i ho
   simp only [Xn] at hT
   obtain ⟨Ts,hT,rfl⟩:=hT
   rw [hu] at h
   simp only at h
   split at h
   ·rename_i hl
    simp only [Xn] at h
    obtain ⟨ys,hy,rfl⟩:=h
    obtain ⟨xs,h1,h2,h3⟩:=Znk (fun t cs x T h h'=>Zjk n fuel t cs x T h h') fs.toList 0 Ts ys (by rw [hl];exact ho) hT hy
    exact ⟨xs,by simp only [TyC];exact h1,h2,h3⟩
   ·cases h
  ·cases hT
def Zj3 (s:Bool) (T:Ty) (x:AVal):Prop:=∃ xs,TyC T xs/\x=ZbQ s xs
theorem ZmO {n:Nat} {t:TypeId} {v:Value} {d:DataW H} {ps:List MemPlace} {T:Ty} {r:Reach} {b0:Nat} (hT:Zc2 P n t=some T) (hv:Value.okWide P w r b0 t v) (h:DataW.Trod enc P w 0 spare held t v d ps) :
  ∃ x,Zj3 (Zc9 (P.underlying t)) T x/\VR (Imm.of w) B0 x v/\Zaf x.cells=true:=by
 obtain ⟨fuel,h⟩:=h
 obtain ⟨xs,h1,h2,h3⟩:=Zjk n fuel t _ _ T hT h
 refine ⟨ZbQ (Zc9 (P.underlying t)) xs,⟨xs,h1,rfl⟩,?_⟩
 by_cases hs:Zc9 (P.underlying t)=true
 ·have : ∃ cs,v=.agg cs:=by
   unfold Value.okWide at hv
   cases hu:P.underlying t with
   | none=>rw [hu] at hs;simp [Zc9] at hs
   | some dd =>
    rw [hu] at hv hs
    cases dd <;> first | (simp [Zc9] at hs;done) | (obtain ⟨cs,e,_⟩:=hv;exact ⟨cs,e⟩)
  obtain ⟨cs,rfl⟩:=this
  rw [hs]
  exact ⟨by simp only [ZbQ,if_true,VR];exact ⟨cs,rfl,h2⟩,h3⟩
 ·have hs':Zc9 (P.underlying t)=false:=by simpa using hs
  have hl:=Zl2 hT hs' h1
  have hlen:=Zaa h2
  rw [hs']
  match xs,hl with
  | [x],_ =>
   simp only [ZbQ,Xz,if_false,Xa6]
   have hvc:v.cells=#[v]:=by
    cases n with
    | zero=>simp [Zc2] at hT
    | succ n =>
     simp only [Zc2] at hT
     split at hT
     ·rename_i hu;obtain ⟨b,rfl⟩:=Go.WideShapes.okWide_bool hu hv;rfl
     ·rename_i k hu;obtain ⟨b,rfl⟩:=Go.WideShapes.okWide_int hu hv;rfl
     ·rename_i hu;obtain ⟨b,rfl⟩:=Go.WideShapes.okWide_string hu hv;rfl
     ·rename_i e hu;obtain ⟨a,l,c,rfl⟩:=Go.WideShapes.okWide_slice hu hv;rfl
     ·rename_i fs hu;rw [hu] at hs';simp [Zc9] at hs'
     ·cases hT
   rw [hvc] at h2
   simp only [VRs] at h2
   obtain ⟨v',vs',e,h2,_⟩:=h2
   simp only [Xae] at e
   rw [e.1]
   refine ⟨h2,?_⟩
   have hok:=ZmC h3 x (by simp)
   have hx:x.cells=[x]:=by cases x <;> first | rfl | (simp [Zy] at hok;done)
   rw [hx];exact h3
theorem Rel.start (w:World) (hG:Gl.le (Imm.of w)):Rel (fun b=>b < w.heap.size) w (Imm.of w) (Imm.of w) B0 [] w where
 below:=KB.refl _ w
 old:=fun _ _ _=>rfl
 imm:=fun _ _ _ h=>h
 blk:=fun t x h=>by simp at h
 own:=fun t x b h=>by simp at h
 apart:=fun t x t' x' b h=>by simp at h
 fresh:=fun _ _ _=>rfl
 free:=fun t g h=>by simp at h
 gen:=fun t b g h=>by simp at h
 glob:=hG
 ro:=fun t x b h=>by simp at h
theorem Zz4 {O:ZZ} (hO:Zad P O) {f:Nat} {args:List AVal} {vs:Array Value} {σ':Za} (hG:Gl.le (Imm.of w)) (hargs:VRs (Imm.of w) B0 args vs.toList) (h:O f args []=some (.bool true,σ')) :
  Calls P f vs w (fun e w'=>e=.returned (.bool true)/\Below w.heap.size w w'):=by
 refine ((hO f args [] _ _ h).2 _ w _ _ B0 w vs (fun b hb=>hb) (Rel.start w hG) hargs).mono ?_
 rintro e w' ⟨u,he,I',β',_,_,R,hv⟩
 simp only [Zam,VR] at hv
 subst hv
 exact ⟨he,R.below.os,R.below.tape,R.below.output,R.below.size,R.below.block⟩
end
end
section
open Go.Shelf
def ZrK:Ren:=⟨fun | 106=>25 | 213=>34 | 265=>49 | n=>n,fun | 9=>9 | 3=>3 | n=>n,fun | n=>n⟩
theorem Zop:Go.Proofs.Lays.n106 Try.prog ZrK:={ mixed:=by kernel_rfl,f106:=Try.func25.trans (congrArg some (by kernel_rfl)),f213:=Try.func34.trans (congrArg some (by kernel_rfl)),f265:=Try.func49.trans (congrArg some (by kernel_rfl)),t3:=Try.underlying3,a3:=Try.isAgg3,z3:=Try.sizeOf3,v3:=Try.zeroValue3,t9:=Try.underlying9,a9:=Try.isAgg9,z9:=Try.sizeOf9,v9:=Try.zeroValue9 }
def Zpf:Ren:=⟨fun | 6=>23 | 15=>33 | 14=>32 | 28=>47 | 29=>48 | 20=>39 | 21=>40 | 22=>41 | 23=>42 | 24=>43 | 25=>44 | 26=>45 | 27=>46 | 46=>59 | 47=>60 | 48=>61 | 49=>62 | 50=>63 | 57=>68 | n=>n,fun | 22=>36 | 24=>39 | 25=>63 | 3=>3 | 39=>76 | 0=>0 | 53=>90 | 55=>92 | 4=>4 | 46=>83 | 45=>82 | 50=>87 | 5=>5 | 9=>9 | 66=>99 | 70=>103 | 76=>108 | 77=>109 | n=>n,fun | n=>n⟩
theorem Zlw:Go.Proofs.SlLaysF0.n6 Try.prog Zpf:={ mixed:=by kernel_rfl,f6:=⟨"slices.SortFunc[[]tidings/route.Give,tidings/route.Give]",by kernel_rfl,Try.func23.trans (congrArg some (by kernel_rfl))⟩,f14:=⟨"slices.pdqsortCmpFunc[tidings/route.Give]",by kernel_rfl,Try.func32.trans (congrArg some (by kernel_rfl))⟩,f15:=Try.func33.trans (congrArg some (by kernel_rfl)),f20:=⟨"slices.insertionSortCmpFunc[tidings/route.Give]",by kernel_rfl,Try.func39.trans (congrArg some (by kernel_rfl))⟩,f21:=⟨"slices.heapSortCmpFunc[tidings/route.Give]",by kernel_rfl,Try.func40.trans (congrArg some (by kernel_rfl))⟩,f22:=⟨"slices.breakPatternsCmpFunc[tidings/route.Give]",by kernel_rfl,Try.func41.trans (congrArg some (by kernel_rfl))⟩,f23:=⟨"slices.choosePivotCmpFunc[tidings/route.Give]",by kernel_rfl,Try.func42.trans (congrArg some (by kernel_rfl))⟩,f24:=⟨"slices.reverseRangeCmpFunc[tidings/route.Give]",by kernel_rfl,Try.func43.trans (congrArg some (by kernel_rfl))⟩,f25:=⟨"slices.partialInsertionSortCmpFunc[tidings/route.Give]",by kernel_rfl,Try.func44.trans (congrArg some (by kernel_rfl))⟩,f26:=⟨"slices.partitionEqualCmpFunc[tidings/route.Give]",by kernel_rfl,Try.func45.trans (congrArg some (by kernel_rfl))⟩,f27:=⟨"slices.partitionCmpFunc[tidings/route.Give]",by kernel_rfl,Try.func46.trans (congrArg some (by kernel_rfl))⟩,f28:=Try.func47.trans (congrArg some (by kernel_rfl)),f29:=Try.func48.trans (congrArg some (by kernel_rfl)),f46:=⟨"slices.siftDownCmpFunc[tidings/route.Give]",by kernel_rfl,Try.func59.trans (congrArg some (by kernel_rfl))⟩,f47:=Try.func60.trans (congrArg some (by kernel_rfl)),f48:=Try.func61.trans (congrArg some (by kernel_rfl)),f49:=⟨"slices.medianAdjacentCmpFunc[tidings/route.Give]",by kernel_rfl,Try.func62.trans (congrArg some (by kernel_rfl))⟩,f50:=⟨"slices.medianCmpFunc[tidings/route.Give]",by kernel_rfl,Try.func63.trans (congrArg some (by kernel_rfl))⟩,f57:=⟨"slices.order2CmpFunc[tidings/route.Give]",by kernel_rfl,Try.func68.trans (congrArg some (by kernel_rfl))⟩,t0:=Try.underlying0,a0:=Try.isAgg0,z0:=Try.sizeOf0,v0:=Try.zeroValue0,t3:=Try.underlying3,a3:=Try.isAgg3,z3:=Try.sizeOf3,v3:=Try.zeroValue3,t4:=Try.underlying4,a4:=Try.isAgg4,z4:=Try.sizeOf4,v4:=Try.zeroValue4,t5:=Try.underlying5,a5:=Try.isAgg5,z5:=Try.sizeOf5,v5:=Try.zeroValue5,t9:=Try.underlying9,a9:=Try.isAgg9,z9:=Try.sizeOf9,v9:=Try.zeroValue9,t22:=Try.underlying36,a22:=Try.isAgg36,z22:=Try.sizeOf36,v22:=Try.zeroValue36,t25:=Try.underlying63,a25:=Try.isAgg63,z25:=Try.sizeOf63,v25:=Try.zeroValue63,t39:=Try.underlying76,a39:=Try.isAgg76,z39:=Try.sizeOf76,v39:=Try.zeroValue76,t45:=Try.underlying82,a45:=Try.isAgg82,z45:=Try.sizeOf82,v45:=Try.zeroValue82,t46:=Try.underlying83,a46:=Try.isAgg83,z46:=Try.sizeOf83,v46:=Try.zeroValue83,t50:=Try.underlying87,a50:=Try.isAgg87,z50:=Try.sizeOf87,v50:=Try.zeroValue87,t53:=Try.underlying90,a53:=Try.isAgg90,z53:=Try.sizeOf90,v53:=Try.zeroValue90,t55:=Try.underlying92,a55:=Try.isAgg92,z55:=Try.sizeOf92,v55:=Try.zeroValue92,t66:=Try.underlying99,a66:=Try.isAgg99,z66:=Try.sizeOf99,v66:=Try.zeroValue99,t70:=Try.underlying103,a70:=Try.isAgg103,z70:=Try.sizeOf103,v70:=Try.zeroValue103,t76:=Try.underlying108,a76:=Try.isAgg108,z76:=Try.sizeOf108,v76:=Try.zeroValue108,t77:=Try.underlying109,a77:=Try.isAgg109,z77:=Try.sizeOf109,v77:=Try.zeroValue109 }
end
section
open Go.RowKit Go.Sort Go.Lib
set_option maxRecDepth 100000
theorem ZxB (a b:List UInt8) (us vs:List Value) (W:World) (hu:1+us.length=15) (hv:1+vs.length=15):Calls Try.prog 24 #[.agg ([Value.string ⟨a.toArray⟩]++us).toArray,.agg ([Value.string ⟨b.toArray⟩]++vs).toArray] W fun e w'=>e=.returned (.int .i64 (Lib.compareBytes a b))/\∃ q os',w'=grow (W.drewN q) os':=by
 have hcon:=fun W'=>Any.strings_Compare Zop ⟨a.toArray⟩ ⟨b.toArray⟩ W'
 change ∀ W',Calls Try.prog 25 _ _ _ at hcon
 simp only [List.toList_toArray] at hcon
 generalize Lib.compareBytes a b=r at hcon ⊢
 generalize (⟨a.toArray⟩:ByteArray)=A1 at *
 generalize (⟨b.toArray⟩:ByteArray)=B1 at *
 obtain ⟨u1,u2,u3,u4,u5,u6,u7,u8,u9,u10,u11,u12,u13,u14,rfl⟩:∃ u1 u2 u3 u4 u5 u6 u7 u8 u9 u10 u11 u12 u13 u14,us=[u1,u2,u3,u4,u5,u6,u7,u8,u9,u10,u11,u12,u13,u14]:=by
  match us,hu with
  | [u1,u2,u3,u4,u5,u6,u7,u8,u9,u10,u11,u12,u13,u14],_=>exact ⟨u1,u2,u3,u4,u5,u6,u7,u8,u9,u10,u11,u12,u13,u14,rfl⟩
  | _::_::_::_::_::_::_::_::_::_::_::_::_::_::_::_,h=>simp at h;omega
 obtain ⟨v1,v2,v3,v4,v5,v6,v7,v8,v9,v10,v11,v12,v13,v14,rfl⟩:∃ u1 u2 u3 u4 u5 u6 u7 u8 u9 u10 u11 u12 u13 u14,vs=[u1,u2,u3,u4,u5,u6,u7,u8,u9,u10,u11,u12,u13,u14]:=by
  match vs,hv with
  | [u1,u2,u3,u4,u5,u6,u7,u8,u9,u10,u11,u12,u13,u14],_=>exact ⟨u1,u2,u3,u4,u5,u6,u7,u8,u9,u10,u11,u12,u13,u14,rfl⟩
  | _::_::_::_::_::_::_::_::_::_::_::_::_::_::_::_,h=>simp at h;omega
 clear hu hv
 go_enter Try.func24,Try.ntmps24
 go_wp2_with (go_at_call 25;refine (hcon _).mono ?_;rintro e w' ⟨rfl,rfl⟩)
 go_ret
 exact ⟨rfl,0,_,by rw [alloc_eq_grow,alloc_eq_grow,grow_grow];rfl⟩
theorem ZhM:∀ (a b:List UInt8),(Lib.compareBytes a b < 0)↔a < b
 | [],[]=>by simp [Lib.compareBytes]
 | [],b::bs=>by simp [Lib.compareBytes]
 | a::l,[]=>by simp [Lib.compareBytes]
 | a::l,b::bs=>by
  have ih:=ZhM l bs
  simp only [Lib.compareBytes,List.cons_lt_cons_iff]
  split
  ·rename_i h;simp [h]
  ·rename_i h
   split
   ·rename_i h'
    have : a≠b:=by rintro rfl;exact h h'
    simp [h,this]
   ·rename_i h'
    have e:a=b:=by
     have h1:=UInt8.not_lt.1 h
     have h2:=UInt8.not_lt.1 h'
     exact UInt8.le_antisymm h2 h1
    subst e
    simp [ih]
theorem ZhO (a b:List UInt8):ltOf Lib.compareBytes a b=decide (a < b):=by
 unfold ltOf
 by_cases h:a < b
 ·rw [decide_eq_true ((ZhM a b).2 h),decide_eq_true h]
 ·rw [decide_eq_false (fun h'=>h ((ZhM a b).1 h')),decide_eq_false h]
theorem ZAA:SWO (ltOf Lib.compareBytes) where
 irrefl x:=by rw [ZhO];simp [List.lt_irrefl]
 trans x y z h1 h2:=by
  rw [ZhO] at *
  simp only [decide_eq_true_eq] at *
  exact List.lt_trans h1 h2
 ntrans x y z h1 h2:=by
  rw [ZhO] at *
  simp only [decide_eq_false_iff_not,Xba] at *
  exact List.le_trans h2 h1
theorem Zow (x y:List UInt8) (h1:ltOf Lib.compareBytes x y=false) (h2:ltOf Lib.compareBytes y x=false):x=y:=by
 rw [ZhO] at *
 simp only [decide_eq_false_iff_not,Xba] at *
 exact Xa4 h2 h1
theorem Ztz {I:Imm} {β:Bmap} (x:AVal) (a:List UInt8) (l:List Value) (h:Ze2 x=some a) (hv:VRs I β x.cells l):∃ t,l=[Value.string ⟨a.toArray⟩]++t:=by
 unfold Ze2 at h
 split at h
 ·injection h with h;subst h
  simp only [AVal.cells,VRs] at hv
  obtain ⟨v,vs,rfl,h1,_⟩:=hv
  simp only [VR] at h1
  exact ⟨vs,by rw [h1.1];rfl⟩
 ·cases h
theorem ZsE {args:List AVal} {σ σ':Za} {r:AVal} (hp:ZfW 15 24 Ze2 Lib.compareBytes args σ=some (r,σ')) :
  (∃ fn,Try.prog.funcs[23]?=some fn/\fn.body.isSome=true/\(fn.name == "runtime.NumGoroutine")=false) /\
  ∀ base w0 I0 I β w (vs:Array Value),KLt base w0->Rel base w0 I0 I β σ w->VRs I β args vs.toList ->
   Calls Try.prog 23 vs w (fun e w'=>∃ u,Ends r e u/\ZbG σ.length base w0 I0 I β r σ' u w') :=
 ZAi (κ:=List UInt8) (k:=15) (g:=24) (m:=1) (pre:=fun a=>[Value.string ⟨a.toArray⟩]) ⟨_,Try.func23,by kernel_rfl,by kernel_rfl⟩ (by decide) (by decide) (by decide)
  (fun a=>⟨rfl,fun v hv=>by rw [XZ] at hv;subst hv;rfl⟩) Ztz ZxB
  (fun enc hk h1 blk off cap d w hcl hH hb hs=>AnyQ.slices_SortFunc_total Zlw 15 Try.isAgg39 Try.sizeOf39 enc hk h1 Lib.compareBytes ZAA 24 #[] blk off cap d w (enters_of Try.func24 (by kernel_rfl) rfl) hcl hH hb hs Zow)
  (fun p cap fv w=>AnyF.slices_SortFunc_none Zlw p cap fv w) hp
end
section
open Go.Shelf
def Zor:Ren:=⟨fun | 189=>31 | 125=>33 | 257=>38 | 128=>47 | 129=>48 | 294=>50 | 295=>51 | 296=>52 | 297=>53 | 298=>54 | 299=>55 | 216=>56 | 300=>57 | 301=>58 | 328=>64 | 329=>60 | 330=>61 | 331=>65 | 332=>66 | 215=>67 | 343=>69 | n=>n,fun | 28=>25 | 3=>3 | 46=>76 | 0=>0 | 51=>90 | 53=>92 | 4=>4 | 183=>83 | 182=>82 | 131=>87 | 5=>5 | 9=>9 | 218=>99 | 222=>103 | 228=>108 | 229=>109 | n=>n,fun | n=>n⟩
theorem ZkJ:Go.Proofs.Lays.n189 Try.prog Zor:={ mixed:=by kernel_rfl,f125:=Try.func33.trans (congrArg some (by kernel_rfl)),f128:=Try.func47.trans (congrArg some (by kernel_rfl)),f129:=Try.func48.trans (congrArg some (by kernel_rfl)),f189:=Try.func31.trans (congrArg some (by kernel_rfl)),f215:=Try.func67.trans (congrArg some (by kernel_rfl)),f216:=Try.func56.trans (congrArg some (by kernel_rfl)),f257:=Try.func38.trans (congrArg some (by kernel_rfl)),f294:=Try.func50.trans (congrArg some (by kernel_rfl)),f295:=Try.func51.trans (congrArg some (by kernel_rfl)),f296:=Try.func52.trans (congrArg some (by kernel_rfl)),f297:=Try.func53.trans (congrArg some (by kernel_rfl)),f298:=Try.func54.trans (congrArg some (by kernel_rfl)),f299:=Try.func55.trans (congrArg some (by kernel_rfl)),f300:=Try.func57.trans (congrArg some (by kernel_rfl)),f301:=Try.func58.trans (congrArg some (by kernel_rfl)),f328:=Try.func64.trans (congrArg some (by kernel_rfl)),f329:=Try.func60.trans (congrArg some (by kernel_rfl)),f330:=Try.func61.trans (congrArg some (by kernel_rfl)),f331:=Try.func65.trans (congrArg some (by kernel_rfl)),f332:=Try.func66.trans (congrArg some (by kernel_rfl)),f343:=Try.func69.trans (congrArg some (by kernel_rfl)),t0:=Try.underlying0,a0:=Try.isAgg0,z0:=Try.sizeOf0,v0:=Try.zeroValue0,t3:=Try.underlying3,a3:=Try.isAgg3,z3:=Try.sizeOf3,v3:=Try.zeroValue3,t4:=Try.underlying4,a4:=Try.isAgg4,z4:=Try.sizeOf4,v4:=Try.zeroValue4,t5:=Try.underlying5,a5:=Try.isAgg5,z5:=Try.sizeOf5,v5:=Try.zeroValue5,t9:=Try.underlying9,a9:=Try.isAgg9,z9:=Try.sizeOf9,v9:=Try.zeroValue9,t28:=Try.underlying25,a28:=Try.isAgg25,z28:=Try.sizeOf25,v28:=Try.zeroValue25,t46:=Try.underlying76,a46:=Try.isAgg76,z46:=Try.sizeOf76,v46:=Try.zeroValue76,t51:=Try.underlying90,a51:=Try.isAgg90,z51:=Try.sizeOf90,v51:=Try.zeroValue90,t53:=Try.underlying92,a53:=Try.isAgg92,z53:=Try.sizeOf92,v53:=Try.zeroValue92,t131:=Try.underlying87,a131:=Try.isAgg87,z131:=Try.sizeOf87,v131:=Try.zeroValue87,t182:=Try.underlying82,a182:=Try.isAgg82,z182:=Try.sizeOf82,v182:=Try.zeroValue82,t183:=Try.underlying83,a183:=Try.isAgg83,z183:=Try.sizeOf83,v183:=Try.zeroValue83,t218:=Try.underlying99,a218:=Try.isAgg99,z218:=Try.sizeOf99,v218:=Try.zeroValue99,t222:=Try.underlying103,a222:=Try.isAgg103,z222:=Try.sizeOf103,v222:=Try.zeroValue103,t228:=Try.underlying108,a228:=Try.isAgg108,z228:=Try.sizeOf108,v228:=Try.zeroValue108,t229:=Try.underlying109,a229:=Try.isAgg109,z229:=Try.sizeOf109,v229:=Try.zeroValue109 }
end
section
set_option maxRecDepth 100000
theorem Zgv:Try.prog.follows .mixedOrders=true:=by kernel_rfl
theorem Zqr:Zj5 Try.prog 22 1 1 (.int .u8 0) 36:=⟨_,_,_,_,_,_,_,_,_,_,_,rfl,rfl,rfl,by kernel_rfl,rfl,rfl,rfl,rfl,rfl,rfl,rfl,rfl,by kernel_rfl,by kernel_rfl,⟨_,_,_,_,rfl⟩,rfl,by decide⟩
theorem Zpg:Zj5 Try.prog 29 5 72 (.agg [.int .i64 0,.int .i64 0,.str [],.str [],.lst true []]) 37:=⟨_,_,_,_,_,_,_,_,_,_,_,rfl,rfl,rfl,by kernel_rfl,rfl,rfl,rfl,rfl,rfl,rfl,rfl,rfl,by kernel_rfl,by kernel_rfl,⟨_,_,_,_,rfl⟩,rfl,by decide⟩
theorem Zmy {α:Type} {d v:α}:∀ {l:List (Nat×α)} {n:Nat},Zdx d l n=v->v=d\/(n,v) ∈ l
 | [],n,h=>Xw h.symm
 | (k,w)::r,n,h=>by
  simp only [Zdx] at h
  split at h
  ·rename_i e;subst e h;exact XE (by simp)
  ·rcases Zmy h with h | h
   ·exact Xw h
   ·exact XE (by simp [h])
theorem Zl5:Zia Try.prog PR:=by
 intro f g h args σ r σ' hg
 rcases Zmy h with h | h
 ·cases h
 unfold ZnJ at h
 simp only [XL,Xb,Xa,List.not_mem_nil,or_false] at h
 rcases h with ⟨rfl,rfl⟩ | h
 ·exact Zm5 Zgv Zqr hg
 rcases h with ⟨rfl,rfl⟩ | h
 ·exact Zm5 Zgv Zpg hg
 rcases h with ⟨rfl,rfl⟩ | h
 ·exact ZrS ⟨Try.f31,Try.func31,by kernel_rfl,by kernel_rfl⟩ (fun blk off cap zs w=>Any.slices_Sort_int ZkJ blk off cap zs w) (fun p cap w=>Any.slices_Sort_int_none ZkJ p cap w) hg
 rcases h with ⟨rfl,rfl⟩ | h
 ·exact ZsE hg
 rcases h with ⟨rfl,rfl⟩ | h
 ·exact ZxG hg
 exact absurd h.2 (by simp)
end
section
def Zbb:Zq:=(.seq (.region [oF 48 2 2,oL 49 48,oM 50 6,oI 51 (.mm false [(.t 49),(.t 50)]),oF 52 10 5,oN (.st 1 (.t 52) (.t 51))] none [5,4]) (.seq (.region [oF 53 12 5,oL 54 53,oI 55 (.call 31 0 true [(.t 54)])] none [5,4]) (.seq (.region [oI 56 (.ld (some 14) (.t 5)),oN (.st 14 (.t 4) (.t 56))] none [4]) .ret)))
def ZiY:Zq:=Zbb
def Zbj:=xw ZiY Zbb rfl
def Za8:Zq:=(.seq (.region [oI 19 (.bin .lss (.t 18) (.t 17))] none [19,18,17,16,6,5,4,2]) (.seq (.cond (.t 19) .skip (.exit 0)) (.seq (.block 1 (.seq (.region [oI 20 (.iaddr 6 (.t 16) (.t 18)),oI 21 (.ld (some 6) (.t 20)),oI 8 (.alloc [(.str []),(.int .i64 0),(.bool false),(.bool false),(.int .i64 0),(.int .i64 0)]),oN (.st 6 (.t 8) (.t 21))] none [18,17,16,8,6,5,4,2]) (.seq (.region [oM 22 6,oF 23 1 8,oL 24 23,oI 25 (.mm true [(.t 22),(.t 24)]),oM 6 25] none [18,17,16,8,6,5,4,2]) (.seq (.region [oF 26 11 5,oL 27 26,oM 28 27,⟨(some 29),(.faddr 3 (.t 2)),(some (28,false)),[]⟩,⟨(some 30),(.ld none (.t 29)),(some (28,false)),[]⟩,⟨(some 31),(.mov (.t 30)),(some (28,false)),[]⟩,⟨(some 32),(.faddr 3 (.t 8)),(some (31,true)),[]⟩,⟨(some 33),(.ld none (.t 32)),(some (31,true)),[]⟩,⟨(some 34),(.pick (.t 31) (.t 33) (.c (.bool false))),(some (28,false)),[]⟩,oI 35 (.pick (.t 28) (.c (.bool true)) (.t 34)),oF 36 11 5,oN (.st 1 (.t 36) (.t 35))] none [18,17,16,8,6,5,4,2]) (.seq (.region [oF 37 5 8,oL 38 37,oI 39 (.bin .neq (.t 38) (.c (.int .i64 0)))] none [39,18,17,16,8,6,5,4,2]) (.cond (.t 39) (.region [oF 40 12 5,oL 41 40,oF 42 5 8,oL 43 42,oI 44 (.bslice false 1 1 (.int .i64 0) [(0,(.t 43))]),oI 45 (.app 1 8 (.int .i64 0) (.t 41) (.t 44)),oF 46 12 5,oN (.st 1 (.t 46) (.t 45))] none [18,17,16,6,5,4,2]) .skip)))))) (.region [oI 47 (.bin .add (.t 18) (.c (.int .i64 1))),oM 18 47] none [18,17,16,6,5,4,2]))))
def Zkk:Zq:=Za8
def Zbd:=xw Zkk Za8 rfl
def Za9:Zq:=(.seq (.region [oI 2 (.box (.t 0)),oI 4 (.alloc [(.str []),(.lst true []),(.int .i64 0),(.bool false),(.str []),(.int .i64 0),(.lst true []),(.int .i64 0),(.int .i64 0),(.int .i64 0),(.int .i64 0),(.bool false),(.lst true []),(.str [])])] none [4,2,1]) (.seq (.region [oI 9 (.ld (some 10) (.t 2)),oI 10 (.call 30 0 true [(.t 9)]),oI 11 (.build [(.str []),(.lst true []),(.int .i64 0),(.bool false),(.str []),(.int .i64 0),(.lst true []),(.int .i64 0),(.int .i64 0),(.int .i64 0),(.int .i64 0),(.bool false),(.lst true []),(.str [])] [(0,10,(.t 10))]),oI 5 (.alloc [(.str []),(.lst true []),(.int .i64 0),(.bool false),(.str []),(.int .i64 0),(.lst true []),(.int .i64 0),(.int .i64 0),(.int .i64 0),(.int .i64 0),(.bool false),(.lst true []),(.str [])]),oN (.st 14 (.t 5) (.t 11))] none [5,4,2,1]) (.seq (.region [oM 12 1,oI 13 (.iaddr 6 (.t 12) (.c (.int .i64 0))),oF 14 1 13,oL 15 14,oM 6 15] none [6,5,4,2,1]) (.seq (.seq (.region [oM 16 1,oI 17 (.len (.t 16)),oI 18 (.mov (.c (.int .i64 0)))] none [18,17,16,6,5,4,2]) (.block 0 (.loop [18,17,16,6,5,4,2] Zkk))) ZiY))))
def Zhu:Zax:=⟨[(.cell 4 (some 14))],Za9⟩
theorem Ztj:FC 22=some Zhu:=by kernel_rfl
theorem Zbc:Zhu.body=Za9:=rfl
theorem Zbh:Zhu.res=[(.cell 4 (some 14))]:=rfl
noncomputable def ZfG (m:Nat) (tm:Tms) (σ:Za):Option (AVal×Za):=(ZaR m Zhu (ZcE FC PR BY m ZiY (W3 (ZbD 0) (evL FC PR BY m [18,17,16,6,5,4,2] Zkk tm σ))))
def ZgE:Zq:=(.seq (.region [oI 31 (.ld (some 10) (.t 1)),oN (.st 10 (.t 2) (.t 31))] none [2]) .ret)
def Zj9:Zq:=ZgE
def ZjH:=xw Zj9 ZgE rfl
def Zgj:Zq:=(.seq (.region [oI 16 (.bin .lss (.t 15) (.t 14))] none [16,15,14,2,1]) (.seq (.cond (.t 16) .skip (.exit 0)) (.seq (.block 1 (.seq (.region [oM 17 15,oM 3 17] none [15,14,3,2,1]) (.region [oF 18 6 1,oL 19 18,oM 20 3,oF 21 6 1,oL 22 21,oM 23 3,oI 24 (.iaddr 5 (.t 22) (.t 23)),oF 25 4 24,oL 26 25,oI 27 (.call 36 0 true [(.t 26)]),oI 28 (.iaddr 5 (.t 19) (.t 20)),oF 29 4 28,oN (.st 1 (.t 29) (.t 27))] (some [(1,4),(1,6),(1,8),(1,9),(9,9)]) [15,14,2,1]))) (.region [oI 30 (.bin .add (.t 15) (.c (.int .i64 1))),oM 15 30] none [15,14,2,1]))))
def Zi6:Zq:=Zgj
def Zkx:=xw Zi6 Zgj rfl
def ZgT:Zq:=(.seq (.region [oI 1 (.box (.t 0)),oI 2 (.alloc [(.str []),(.lst true []),(.int .i64 0),(.bool false),(.str []),(.int .i64 0),(.lst true []),(.int .i64 0),(.int .i64 0),(.int .i64 0)])] none [2,1]) (.seq (.region [oF 4 1 1,oL 5 4,oI 6 (.call 36 0 true [(.t 5)]),oF 7 1 1,oN (.st 1 (.t 7) (.t 6))] none [2,1]) (.seq (.region [oF 8 6 1,oL 9 8,oI 10 (.call 37 1 false [(.t 9)]),oF 11 6 1,oN (.st 1 (.t 11) (.t 10))] none [2,1]) (.seq (.seq (.region [oF 12 6 1,oL 13 12,oI 14 (.len (.t 13)),oI 15 (.mov (.c (.int .i64 0)))] none [15,14,2,1]) (.block 0 (.loop [15,14,2,1] Zi6))) Zj9))))
def Zic:Zax:=⟨[(.cell 2 (some 10))],ZgT⟩
theorem Zto:FC 30=some Zic:=by kernel_rfl
theorem Zkm:Zic.body=ZgT:=rfl
theorem ZjO:Zic.res=[(.cell 2 (some 10))]:=rfl
noncomputable def Zho (m:Nat) (tm:Tms) (σ:Za):Option (AVal×Za):=(ZaR m Zic (ZcE FC PR BY m Zj9 (W3 (ZbD 0) (evL FC PR BY m [15,14,2,1] Zi6 tm σ))))
end
section
set_option maxRecDepth 100000
def Zdv:AVal:=.agg [.str [],.int .i64 0,.bool false,.bool false,.int .i64 0,.int .i64 0]
def ZhC:AVal:=.agg [.str [],.str [],.lst true [],.int .i64 0,.bool false,.str [],.int .i64 0,.lst true [],.int .i64 0,.int .i64 0,.int .i64 0,.int .i64 0,.bool false,.lst true [],.str []]
def ZxY:Ann:={ nt:=64,own:=fun n=>if n=11\/n=40 then 5 else 0,lr:=fun i=>if i=0 then [2,1] else if i=1 then [5,2,1] else if i=2 then [14,13,12,5,2] else if i=3 then [15,14,13,12,5,2] else if i=4 then [14,13,12,7,5,2] else if i=5 then [33,14,13,12,7,5,2] else if i=6 then [14,13,12,5,2] else if i=7 then [14,13,12,5,2] else if i=8 then [8,5,2] else if i=13 then [8] else [4],ll:=fun _=>[14,13,12,5,2] }
def Zx8:Ann:={ nt:=64,keep:=[47,46],lr:=fun _=>[46,8,2] }
def Zdi:Zq:=(.seq (.region [oI 15 (.bin .lss (.t 14) (.t 13))] none [15,14,13,12,5,2]) (.seq (.cond (.t 15) .skip (.exit 0)) (.seq (.block 1 (.seq (.region [oI 16 (.iaddr 7 (.t 12) (.t 14)),oI 17 (.ld (some 7) (.t 16)),oI 7 (.alloc [(.str []),(.str []),(.int .i64 0),(.bool false),(.bool false),(.int .i64 0),(.int .i64 0)]),oN (.st 7 (.t 7) (.t 17))] none [14,13,12,7,5,2]) (.seq (.region [oF 18 1 7,oF 19 2 18,oL 20 19,oI 21 (.un .not (.t 20)),oM 22 21,⟨some 23,.faddr 0 (.t 7),some (22,false),[]⟩,⟨some 24,.ld none (.t 23),some (22,false),[]⟩,⟨some 25,.faddr 4 (.t 2),some (22,false),[]⟩,⟨some 26,.ld none (.t 25),some (22,false),[]⟩,⟨some 27,.bin .neq (.t 24) (.t 26),some (22,false),[]⟩,oI 28 (.pick (.t 22) (.c (.bool true)) (.t 27)),oM 29 28,⟨some 30,.faddr 4 (.t 2),some (29,false),[]⟩,⟨some 31,.ld none (.t 30),some (29,false),[]⟩,⟨some 32,.bin .eql (.t 31) (.c (.str [])),some (29,false),[]⟩,oI 33 (.pick (.t 29) (.c (.bool true)) (.t 32))] none [33,14,13,12,7,5,2]) (.cond (.t 33) (.region [oM 34 5,oF 35 0 7,oL 36 35,oM 37 5,oF 38 0 7,oL 39 38,oI 40 (.glook 2 (.lst true []) (.t 37) (.t 39)),oF 41 1 7,oI 42 (.ld (some 6) (.t 41)),oI 43 (.bslice false 6 1 Zdv [(0,(.t 42))]),oI 44 (.app 6 48 Zdv (.t 40) (.t 43)),oN (.mset 2 (.t 34) (.t 36) (.t 44))] (some [(2,5),(2,6),(2,8),(5,8),(6,8),(2,9),(5,9),(6,9),(2,10)]) [14,13,12,5,2]) .skip)))) (.region [oI 45 (.bin .add (.t 14) (.c (.int .i64 1))),oM 14 45] none [14,13,12,5,2]))))
def ZjQ:Zq:=Zdi
theorem ZdA (m:Nat) (tm:Tms) (σ:Za):evC FC PR BY m ZjQ tm σ=evC FC PR BY m Zdi tm σ:=rfl
def c1P:Zq:=.seq (.region [oI 2 (.box (.t 0)),oI 4 (.mov (.c (.lst true [])))] none [2,1]) (.seq (.region [oI 11 (.mkgmap 6),oM 5 11] none [5,2,1]) (.seq (.seq (.region [oM 12 1,oI 13 (.len (.t 12)),oI 14 (.mov (.c (.int .i64 0)))] none [14,13,12,5,2]) (.block 0 (.loop [14,13,12,5,2] ZjQ))) (.seq (.region [oI 8 (.mov (.c (.lst true [])))] none [8,5,2]) .skip)))
def ZhB:List AOp:=[⟨some 46,.mov (.t 5),none,[]⟩]
def Zc8:List AOp:=[⟨some 51,.ext (.t 50) 0,none,[0]⟩,⟨some 52,.ext (.t 50) 1,none,[0]⟩,⟨some 9,.mov (.t 51),none,[1,0,1]⟩,⟨some 10,.mov (.t 52),none,[2,3,0,1,2,3]⟩]
def c2P:Zq:=.region [oM 53 8,oM 54 9,oI 55 (.ld (some 10) (.t 2)),oM 56 10,oI 57 (.call 22 0 true [(.t 55),(.t 56)]),oI 58 (.build [(.str []),(.str []),(.lst true []),(.int .i64 0),(.bool false),(.str []),(.int .i64 0),(.lst true []),(.int .i64 0),(.int .i64 0),(.int .i64 0),(.int .i64 0),(.bool false),(.lst true []),(.str [])] [(0,1,(.t 54)),(1,14,(.t 57))]),oI 59 (.bslice false 15 1 ZhC [(0,(.t 58))]),oI 60 (.app 15 200 ZhC (.t 53) (.t 59)),oM 8 60] none [46,8,2]
def c3P:Zq:=.seq (.region [oM 61 8,oI 62 (.call 23 0 true [(.t 61),(.c (.fn 24 []))])] none [8]) (.seq (.region [oM 63 8,oM 4 63] none [4]) .ret)
theorem Zxk:ZlL Try.prog 8 ZxY Zx8 64 4 1 46 47 48 49 50 2 3 [46,8,2] ZhB Zc8 c1P c2P c3P [.tmp 4] :=
 ⟨_,_,_,_,_,_,_,_,_,_,_,_,_,_,_,_,_,_,_,Try.func8,by kernel_rfl,rfl,by kernel_rfl,rfl,rfl,rfl,rfl,rfl,rfl,rfl,rfl,Try.underlying58,rfl,rfl,rfl,rfl,rfl,rfl,rfl,rfl,rfl,by kernel_rfl,by kernel_rfl,by kernel_rfl,by kernel_rfl,by kernel_rfl,rfl,rfl,rfl,by decide⟩
noncomputable def Zix:List AVal->Za->Option (AVal×Za):=Zkh FC PR BY [46,8,2] 46 50 3 ZhB Zc8 c1P c2P c3P [.tmp 4]
noncomputable def PRR:Zb1:=fun f=>if f=8 then some Zix else PR f
noncomputable abbrev ER:ZZ:=EV FC PRR BY
theorem Zv6:OLe E ER:=by
 refine ZpD (fun f hf=>?_) (fun f g hg=>?_)
 ·unfold PRR
  rw [if_neg (by rintro rfl;revert hf;decide)]
  exact hf
 ·by_cases h1:f=8
  ·subst h1
   have : PR 8=some ZjB:=by rfl
   rw [this] at hg;injection hg with hg;subst hg
   exact XE fun _ _=>rfl
  refine Xw ?_
  unfold PRR
  rw [if_neg h1]
  exact hg
theorem ZlG {f:Nat} {fn:Zax} (hp:PRR f=none) (hf:FC f=some fn) (args:List AVal) (σ:Za):ER f args σ=ZaR σ.length fn (evC FC PRR BY σ.length fn.body (enterA 0 args []) σ):=Znz hp hf args σ
theorem ZrW (args:List AVal) (σ:Za):ER 8 args σ=Zix args σ:=ZyJ (by rfl) args σ
theorem ZtU {args:List AVal} {σ σ':Za} {r:AVal} (hg:Zix args σ=some (r,σ')) :
  (∃ fn,Try.prog.funcs[8]?=some fn/\fn.body.isSome=true/\(fn.name == "runtime.NumGoroutine")=false) /\
  ∀ base w0 I0 I β w (vs:Array Value),KLt base w0->Rel base w0 I0 I β σ w->VRs I β args vs.toList ->
   Calls Try.prog 8 vs w (fun e w'=>∃ u,Ends r e u/\ZbG σ.length base w0 I0 I β r σ' u w') :=
 ZtZ Zgv (fun n=>by
  have h:Zac FC PR BY n=Zac CF PR BY n:=Zkw CF PR BY n
  rw [h]
  exact Zim Zgv Zl5 ann BY n) Zxk hg
theorem Zve:Zia Try.prog PRR:=by
 intro f g h args σ r σ' hg
 unfold PRR at h
 split at h
 ·rename_i e;subst e
  injection h with h;subst h
  exact ZtU hg
 ·exact Zl5 f g h args σ r σ' hg
theorem ZAD:Zad Try.prog ER:=by
 have h:ER=EV CF PRR BY:=Zzl CF PRR BY
 rw [h]
 exact ZrV Zgv Zve ann BY
theorem ZmT {σ:Za} {sq f own:Nat} {view:Bool} {args:List AVal} {r:AVal×Za×Cls} (h:Z7 E BY σ sq f own view args=some r):Z7 ER BY σ sq f own view args=some r:=Zj4 Zv6 h
theorem xwR (c d:Zq) (h:c=d) (m:Nat) (tm:Tms) (σ:Za):evC FC PRR BY m c tm σ=evC FC PRR BY m d tm σ:=by rw [h]
end
section
end
section
def Zh8:Zq:=(.seq (.region [oI 4 (.mov (.c (.lst true [])))] none [1,0]) (.seq (.seq (.region [oM 5 0,oI 6 (.len (.t 5)),oM 7 1,oI 8 (.bin .gtr (.t 6) (.t 7))] none [8,1,0]) (.cond (.t 8) (.seq (.region [oM 9 0,oM 10 1,oI 11 (.slice 1 (.t 9) none (some (.t 10)) none),oM 4 11] none [4]) .ret) .skip)) (.seq (.region [oM 12 0,oM 4 12] none [4]) .ret)))
def ZjC:Zax:=⟨[(.tmp 4)],Zh8⟩
theorem Zx2:FC 19=some ZjC:=by kernel_rfl
theorem Zk9:ZjC.body=Zh8:=rfl
theorem ZlA:ZjC.res=[(.tmp 4)]:=rfl
def Zhe:Zq:=(.seq (.region [oI 6 (.mov (.c (.int .i64 0)))] none [2,1,0]) (.seq (.region [oM 8 2,oM 9 1,oI 10 (.bin .sub (.t 8) (.t 9)),oI 11 (.bin .add (.t 10) (.c (.int .i64 1))),oM 7 11] none [7,1,0]) (.seq (.region [oM 12 0,oM 13 7,oI 14 (.bin .rem (.t 12) (.t 13)),oM 0 14] none [7,1,0]) (.seq (.seq (.region [oM 15 0,oI 16 (.bin .lss (.t 15) (.c (.int .i64 0)))] none [16,7,1,0]) (.cond (.t 16) (.region [oM 17 0,oM 18 7,oI 19 (.bin .add (.t 17) (.t 18)),oM 0 19] none [1,0]) .skip)) (.seq (.region [oM 20 1,oM 21 0,oI 22 (.bin .add (.t 20) (.t 21)),oM 6 22] none [6]) .ret)))))
def Zky:Zax:=⟨[(.tmp 6)],Zhe⟩
theorem Zwm:FC 20=some Zky:=by kernel_rfl
theorem ZkA:Zky.body=Zhe:=rfl
theorem ZlE:Zky.res=[(.tmp 6)]:=rfl
end
section
end
section
end
section
open Go.RowKit
theorem Zt0 (id:Nat) (tm:Tms) (σ:Za):ZbD id (.normal,tm,σ)=(.normal,tm,σ):=rfl
theorem ZzN (id i:Nat) (tm:Tms) (σ:Za):ZbD id (.exit i,tm,σ)=if i=id then (.normal,tm,σ) else (.exit i,tm,σ):=by simp only [ZbD]
theorem ZoD (id:Nat) (tm:Tms) (σ:Za):ZbD id (.ret,tm,σ)=(.ret,tm,σ):=rfl
theorem Zn8 (id:Nat) (x:AVal) (tm:Tms) (σ:Za):ZbD id (.panic x,tm,σ)=(.panic x,tm,σ):=rfl
section
variable (O:ZZ) (bf:Nat->Bool)
def Zdd (c:Cls):Option (Tms×Za×List Cls×Option AVal)->Option (Tms×Za×List Cls×Option AVal)
 | none=>none
 | some (tm,σ,cs,p)=>some (tm,σ,c::cs,p)
def Zfm (c:List Cls):Option (Tms×Za×List Cls×Option AVal)->Option (Tms×Za×List Cls×Option AVal)
 | none=>none
 | some (tm,σ,cs,p)=>some (tm,σ,c++cs,p)
def kC (d:Option Nat) (os:List AOp) (s:Nat) (tm:Tms):Option (AVal×Za×Cls)->Option (Tms×Za×List Cls×Option AVal)
 | none=>none
 | some (v,σ,c)=>if Zav v then some (tput tm d v,σ,[c],some (Zam v)) else Zdd c (ZY O bf os s (tput tm d v) σ)
def ZdB (ops:List AOp) (L:Nat) (l:List (Nat×Nat)) (live:List Nat):Option (Tms×Za×List Cls×Option AVal)->Option (Zat×Tms×Za)
 | none=>none
 | some (_,σ,cs,some x)=>if ZaI ops L l cs then some (.panic x,[],σ) else none
 | some (tm,σ,cs,none)=>if Zc4 ops L l cs then some (.normal,keepL live tm,σ) else none
variable {O bf}
theorem Znr (s:Nat) (tm:Tms) (σ:Za):ZY O bf [] s tm σ=some (tm,σ,[],none):=rfl
theorem ZAJ (c:Cls) (tm:Tms) (σ:Za) (cs:List Cls) (p:Option AVal):Zdd c (some (tm,σ,cs,p))=some (tm,σ,c::cs,p):=rfl
theorem ZpQ (c:Cls):Zdd c none=none:=rfl
theorem ZpA (c:Cls) (q:Prop) [Decidable q] (x y:Option (Tms×Za×List Cls×Option AVal)):Zdd c (if q then x else y)=if q then Zdd c x else Zdd c y:=by split <;> rfl
theorem ZrE (c:List Cls) (tm:Tms) (σ:Za) (cs:List Cls) (p:Option AVal):Zfm c (some (tm,σ,cs,p))=some (tm,σ,c++cs,p):=rfl
theorem Zzx (c:List Cls):Zfm c none=none:=rfl
theorem ZpT (c:List Cls) (q:Prop) [Decidable q] (x y:Option (Tms×Za×List Cls×Option AVal)):Zfm c (if q then x else y)=if q then Zfm c x else Zfm c y:=by split <;> rfl
theorem Zie {o:AOp} {os:List AOp} {s:Nat} {tm tm1:Tms} {σ σ1:Za} {v:AVal} {c:Cls} (h:Zu O bf o s tm σ=some (v,tm1,σ1,c)) (hn:Zav v=false):ZY O bf (o::os) s tm σ=Zdd c (ZY O bf os (s+nsite o.ins) tm1 σ1):=by
 rw [ZkF h hn]
 cases ZY O bf os (s+nsite o.ins) tm1 σ1 <;> rfl
theorem ZiB (d:Option Nat) (i:Ins) (af:List Nat) (os:List AOp) (s:Nat) (tm:Tms) (σ:Za):ZY O bf (⟨d,i,none,af⟩::os) s tm σ=kC O bf d os (s+nsite i) tm (exI O bf i s tm σ):=by
 cases h:exI O bf i s tm σ with
 | none=>exact Zgw (by rw [ZhJ,h];rfl)
 | some q =>
  obtain ⟨v,σ1,c⟩:=q
  have hs:Zu O bf ⟨d,i,none,af⟩ s tm σ=some (v,tput tm d v,σ1,c):=by rw [ZhJ,h];rfl
  cases hp:Zav v with
  | true =>
   obtain ⟨x,rfl⟩:=ZhI hp
   exact ZhA hs
  | false =>
   rw [Zie hs hp]
   simp only [kC,hp,Xz,if_false]
theorem Zi9 (d:Option Nat) (os:List AOp) (s:Nat) (tm:Tms) (v:AVal) (σ:Za) (c:Cls) (h:Zav v=false):kC O bf d os s tm (some (v,σ,c))=Zdd c (ZY O bf os s (tput tm d v) σ):=by
 simp only [kC,h,Xz,if_false]
theorem Zqg (d:Option Nat) (os:List AOp) (s:Nat) (tm:Tms) (x:AVal) (σ:Za) (c:Cls):kC O bf d os s tm (some (.pan x,σ,c))=some (tput tm d (.pan x),σ,[c],some x):=rfl
theorem Zqh (d:Option Nat) (os:List AOp) (s:Nat) (tm:Tms):kC O bf d os s tm none=none:=rfl
theorem ZxU (d:Option Nat) (os:List AOp) (s:Nat) (tm:Tms) (q:Prop) [Decidable q] (x y:Option (AVal×Za×Cls)):kC O bf d os s tm (if q then x else y)=if q then kC O bf d os s tm x else kC O bf d os s tm y:=by split <;> rfl
theorem ZaE (ops:List AOp) (l:List (Nat×Nat)) (live:List Nat) (tm:Tms) (σ:Za):ZbW O bf ops (some l) live tm σ=ZdB ops σ.length l live (ZY O bf ops σ.length tm (σ++XO (sitesOf ops) .free)):=by
 unfold ZbW
 cases ZY O bf ops σ.length tm (σ++XO (sitesOf ops) .free) with
 | none=>rfl
 | some q =>
  obtain ⟨tm',σ',cs,p⟩:=q
  cases p <;> rfl
theorem ZaK (ops:List AOp) (L:Nat) (l:List (Nat×Nat)) (live:List Nat) (tm:Tms) (σ:Za) (cs:List Cls) (h:Zc4 ops L l cs=true):ZdB ops L l live (some (tm,σ,cs,none))=some (.normal,keepL live tm,σ):=by
 simp only [ZdB,h,if_true]
theorem Zba (ops:List AOp) (L:Nat) (l:List (Nat×Nat)) (live:List Nat) (tm:Tms) (σ:Za) (cs:List Cls) (x:AVal) (h:ZaI ops L l cs=true):ZdB ops L l live (some (tm,σ,cs,some x))=some (.panic x,[],σ):=by
 simp only [ZdB,h,if_true]
theorem Zqd (ops:List AOp) (L:Nat) (l:List (Nat×Nat)) (live:List Nat):ZdB ops L l live none=none:=rfl
theorem Zzy (ops:List AOp) (L:Nat) (l:List (Nat×Nat)) (live:List Nat) (q:Prop) [Decidable q] (x y:Option (Tms×Za×List Cls×Option AVal)):ZdB ops L l live (if q then x else y)=if q then ZdB ops L l live x else ZdB ops L l live y:=by split <;> rfl
theorem Zv0 (ops:List AOp) (L:Nat) (l:List (Nat×Nat)) (cs:List Cls) (h:(cs.all fun c=>c.wr.isEmpty && !c.any)=true) (hs:(l.all fun p=>p.1 == p.2 || nsite (ops.getD p.1 default).ins == 0)=true):Zc4 ops L l cs=true:=by
 have hd:∀ i,ZcN (cs.getD i {})=true:=by
  intro i
  rw [XM] at h
  rw [Xj]
  cases hi:cs[i]? with
  | none=>rfl
  | some c=>exact h c (Xs hi)
 unfold Zc4
 rw [XM] at hs ⊢
 intro p hp
 have:=hs p hp
 rw [Wv] at this ⊢
 rcases this with this | this
 ·exact Xw this
 ·refine XE ?_
  unfold Zcn
  simp only [hd,this,Bool.and_true,XaE,Xag,XaB]
theorem Zuv (ops:List AOp) (L:Nat) (l:List (Nat×Nat)) (live:List Nat) (tm:Tms) (σ:Za) (cs:List Cls) (h:(cs.all fun c=>c.wr.isEmpty && !c.any)=true) (hs:(l.all fun p=>p.1 == p.2 || nsite (ops.getD p.1 default).ins == 0)=true):ZdB ops L l live (some (tm,σ,cs,none))=some (.normal,keepL live tm,σ) :=
 ZaK _ _ _ _ _ _ _ (Zv0 _ _ _ _ h hs)
variable (O bf) in
def gKC (os:List AOp) (s:Nat):Option (Tms×Za×List Cls×Option AVal)->Option (Tms×Za×List Cls×Option AVal)
 | none=>none
 | some (tm,σ,cs,some x)=>some (tm,σ,cs,some x)
 | some (tm,σ,cs,none)=>Zfm cs (ZY O bf os s tm σ)
theorem Zxy (os:List AOp) (s:Nat) (tm:Tms) (σ:Za) (cs:List Cls):gKC O bf os s (some (tm,σ,cs,none))=Zfm cs (ZY O bf os s tm σ):=rfl
theorem Zpm (os:List AOp) (s:Nat) (q:Prop) [Decidable q] (x y:Option (Tms×Za×List Cls×Option AVal)):gKC O bf os s (if q then x else y)=if q then gKC O bf os s x else gKC O bf os s y:=by split <;> rfl
theorem Zya (os:List AOp) (s:Nat) (c:Cls) (r:Option (Tms×Za×List Cls×Option AVal)):gKC O bf os s (Zdd c r)=Zdd c (gKC O bf os s r):=by
 cases r with
 | none=>rfl
 | some q =>
  obtain ⟨tm,σ,cs,p⟩:=q
  cases p with
  | some x=>rfl
  | none =>
   simp only [Zdd,gKC]
   cases ZY O bf os s tm σ <;> rfl
theorem Zl3:∀ (a b:List AOp) (s:Nat) (tm:Tms) (σ:Za),ZY O bf (a++b) s tm σ=gKC O bf b (s+sitesOf a) (ZY O bf a s tm σ)
 | [],b,s,tm,σ=>by
  simp only [Wa,Znr,gKC,sitesOf,X0,List.sum_nil,Wm]
  cases ZY O bf b s tm σ <;> rfl
 | o::a,b,s,tm,σ=>by
  have ih:=Zl3 a b
  simp only [WG]
  have hs:s+nsite o.ins+sitesOf a=s+sitesOf (o::a):=by simp [sitesOf,WH]
  cases hst:Zu O bf o s tm σ with
  | none=>rw [Zgw hst,Zgw hst];rfl
  | some q =>
   obtain ⟨v,tm1,σ1,c⟩:=q
   cases hp:Zav v with
   | true =>
    obtain ⟨x,rfl⟩:=ZhI hp
    rw [ZhA hst,ZhA hst];rfl
   | false=>rw [Zie hst hp,Zie hst hp,ih,hs,Zya]
variable (O bf) in
def ZdO (j:Nat) (w:Bool) (g:List AOp) (s:Nat) (tm:Tms) (σ:Za):Option (Tms×Za×List Cls×Option AVal):=match Za3 (some (j,w)) tm with
 | none=>none
 | some false=>some (Zx g tm,σ,g.map fun _=>{},none)
 | some true=>ZY O bf (g.map unG) s tm σ
theorem ZkQ (j:Nat) (w:Bool):∀ (g:List AOp),(∀ o ∈ g,o.guard=some (j,w)/\o.dst≠some j)->∀ (s:Nat) (tm:Tms) (σ:Za),g≠[]->ZY O bf g s tm σ=ZdO O bf j w g s tm σ
 | [],_,_,_,_,h=>absurd rfl h
 | o::g,hall,s,tm,σ,_=>by
  obtain ⟨hg,hd⟩:=hall o (by simp)
  have ih:∀ (tm:Tms) (σ:Za) (s:Nat),Za3 (some (j,w)) tm≠none->ZY O bf g s tm σ=ZdO O bf j w g s tm σ:=by
   intro tm σ s hw
   by_cases he:g=[]
   ·subst he
    unfold ZdO
    cases hx:Za3 (some (j,w)) tm with
    | none=>exact absurd hx hw
    | some b=>cases b <;> rfl
   ·exact ZkQ j w g (fun o ho=>hall o (by simp [ho])) s tm σ he
  cases hx:Za3 (some (j,w)) tm with
  | none =>
   rw [Zgw (by simp only [Zu,hg,hx])]
   simp only [ZdO,hx]
  | some b =>
   cases b with
   | false =>
    have h1:ZY O bf (o::g) s tm σ=Zdd {} (ZY O bf g (s+nsite o.ins) (tput tm o.dst (.tup [])) σ) :=
     Zie (v:=.tup []) (c:={}) (by simp only [Zu,hg,hx]) rfl
    rw [h1,ih _ _ _ (by rw [ZeI hd,hx];simp)]
    unfold ZdO
    rw [ZeI hd,hx]
    rfl
   | true =>
    have key:∀ r:Option (AVal×Za×Cls),(∀ v σ' c,r=some (v,σ',c)->Zav v=false->ZY O bf g (s+nsite o.ins) (tput tm o.dst v) σ'=ZY O bf (g.map unG) (s+nsite o.ins) (tput tm o.dst v) σ')->kC O bf o.dst g (s+nsite o.ins) tm r=kC O bf o.dst (g.map unG) (s+nsite o.ins) tm r:=by
     intro r hr
     cases r with
     | none=>rfl
     | some q =>
      obtain ⟨v,σ',c⟩:=q
      cases hp:Zav v with
      | true=>simp only [kC,hp,if_true]
      | false=>rw [Zi9 _ _ _ _ _ _ _ hp,Zi9 _ _ _ _ _ _ _ hp,hr v σ' c rfl hp]
    have h1:ZY O bf (o::g) s tm σ=kC O bf o.dst g (s+nsite o.ins) tm (exI O bf o.ins s tm σ):=by
     have h0:ZY O bf (o::g) s tm σ=ZY O bf (⟨o.dst,o.ins,none,o.after⟩::g) s tm σ:=by
      have hst:Zu O bf o s tm σ=Zu O bf ⟨o.dst,o.ins,none,o.after⟩ s tm σ:=by
       unfold Zu
       simp only [hg,hx]
       rfl
      simp only [ZY,hst]
     rw [h0,ZiB]
    rw [h1]
    unfold ZdO
    rw [hx]
    simp only [Xu]
    rw [show unG o=⟨o.dst,o.ins,none,o.after⟩ from rfl,ZiB]
    refine key _ fun v σ' c _ _=>?_
    rw [ih _ _ _ (by rw [ZeI hd,hx];simp)]
    unfold ZdO
    rw [ZeI hd,hx]
theorem Zu5 (d:Option Nat) (i:Ins) (j:Nat) (w:Bool) (af:List Nat) (os:List AOp) (s:Nat) (tm:Tms) (σ:Za) (hd:decide (d=some j)=false) :
  ZY O bf (⟨d,i,some (j,w),af⟩::os) s tm σ=gKC O bf (Zt j w os).2 (s+sitesOf (⟨d,i,some (j,w),af⟩::(Zt j w os).1)) (ZdO O bf j w (⟨d,i,some (j,w),af⟩::(Zt j w os).1) s tm σ):=by
 have h:=ZjG j w os
 have hall:∀ o ∈ (⟨d,i,some (j,w),af⟩::(Zt j w os).1:List AOp),o.guard=some (j,w)/\o.dst≠some j:=by
  intro o ho
  rcases XL.1 ho with rfl | ho
  ·exact ⟨rfl,by simpa using hd⟩
  ·exact Zjj j w os o ho
 rw [<-ZkQ j w _ hall s tm σ (by simp),<-Zl3,WG,h]
variable (O bf) in
def gWC (w:Bool) (g:List AOp) (s:Nat) (tm:Tms) (σ:Za):AVal->Option (Tms×Za×List Cls×Option AVal)
 | .bool b=>if b=w then ZY O bf (g.map unG) s tm σ else some (Zx g tm,σ,g.map fun _=>{},none)
 | .tup []=>some (Zx g tm,σ,g.map fun _=>{},none)
 | _=>none
theorem ZpY (j:Nat) (w:Bool) (g:List AOp) (s:Nat) (tm:Tms) (σ:Za):ZdO O bf j w g s tm σ=gWC O bf w g s tm σ (tget tm j):=by
 unfold ZdO Za3
 simp only
 generalize tget tm j=v
 cases v
 case bool b=>cases b <;> cases w <;> rfl
 case tup vs=>cases vs <;> rfl
 all_goals rfl
theorem ZAF (w:Bool) (g:List AOp) (s:Nat) (tm:Tms) (σ:Za) (b:Bool):gWC O bf w g s tm σ (.bool b)=if b=w then ZY O bf (g.map unG) s tm σ else some (Zx g tm,σ,g.map fun _=>{},none):=rfl
theorem ZsS (w:Bool) (g:List AOp) (s:Nat) (tm:Tms) (σ:Za):gWC O bf w g s tm σ (.tup [])=some (Zx g tm,σ,g.map fun _=>{},none):=rfl
theorem ZoL (q:Prop) [Decidable q] (t1 t2:Tms) (σ1 σ2:Za) (cs:List Cls):(if q then some (t1,σ1,cs,(none:Option AVal)) else some (t2,σ2,cs,none))=some ((if q then t1 else t2),(if q then σ1 else σ2),cs,none):=by split <;> rfl
end
section
theorem ZvP {r:AVal} {cs:List AVal} {σ:Za} (hr:ZaB r=true) (hc:Zv cs=true):gcA 1 [r] (.var cs::σ)=([r],[.var cs]):=by
 have e1:=(Zgz (Zd (.var cs::σ) 1 [0]) r hr)
 have e2:=(Zgp (Zd (.var cs::σ) 1 [0]) cs hc)
 have h1:Zj 1 [r] (.var cs::σ)=[0]:=by
  have : ZX [r]=[]:=by simp only [ZX,e1.2,X6]
  simp only [Zj,this,Wa,List.range_one,XT,Xaw,X6,XC,Zp,e2.2]
  rfl
 simp only [gcA,h1,ZW,e1.1,Zg,XC,Zn,Zb,Zh,e2.1]
theorem Zn5 {r:AVal} {cs:List AVal} {σ:Za} (hr:ZaB r=true) (hc:Zv cs=true):ZaD 1 (.var cs::σ) r=some (r,[.var cs]):=by
 simp only [ZaD,ZvP hr hc]
end
end
section
section
variable (c:Prop) [Decidable c]
theorem Zsj (t1 t2:Tms) (σ1 σ2:Za):(if c then some (Zat.normal,t1,σ1) else some (Zat.normal,t2,σ2))=some (Zat.normal,(if c then t1 else t2),(if c then σ1 else σ2)):=by split <;> rfl
theorem Zsi (t1 t2:Tms) (σ1 σ2:Za):(if c then some (Zat.ret,t1,σ1) else some (Zat.ret,t2,σ2))=some (Zat.ret,(if c then t1 else t2),(if c then σ1 else σ2)):=by split <;> rfl
theorem Zwc (t1 t2:Tms) (σ1 σ2:Za):(if c then some (t1,σ1,(none:Option AVal)) else some (t2,σ2,none))=some ((if c then t1 else t2),(if c then σ1 else σ2),none):=by split <;> rfl
theorem ZwY (n:Nat) (a b:AVal):(if c then (n,a) else (n,b))=(n,if c then a else b):=by split <;> rfl
theorem ZpP (a b:AVal) (σ1 σ2:Za):(if c then some (a,σ1) else some (b,σ2))=some ((if c then a else b),(if c then σ1 else σ2)):=by split <;> rfl
theorem Zrq (a b:AVal) (σ1 σ2:Za) (x y:Cls):(if c then some (a,σ1,x) else some (b,σ2,y))=some ((if c then a else b),(if c then σ1 else σ2),if c then x else y):=by split <;> rfl
end
theorem ZQ {α:Type} (p:Bool) (x y z:α):(if p=true then x else (if p=false then y else z))=if p=true then x else y:=by cases p <;> rfl
theorem ZR {α:Type} (p:Bool) (x y z:α):(if p=false then x else (if p=true then y else z))=if p=false then x else y:=by cases p <;> rfl
theorem ZP {α:Type} (p:Bool) (x y z:α):(if p=true then (if p=false then x else y) else z)=if p=true then y else z:=by cases p <;> rfl
theorem ZS {α:Type} (p:Bool) (x y z:α):(if p=false then (if p=true then x else y) else z)=if p=false then y else z:=by cases p <;> rfl
theorem Za5 (ops:List AOp) (b:Nat) (cs:List Cls):Zc4 ops b [] cs=true:=rfl
theorem Za2 (ops:List AOp) (b:Nat) (p:Nat×Nat) (l:List (Nat×Nat)) (cs:List Cls):Zc4 ops b (p::l) cs=((p.1 == p.2 || Zcn (ops.getD p.1 default) (ops.getD p.2 default) (cs.getD p.1 {}) (cs.getD p.2 {}) (b+sitesOf (ops.take p.1))) && Zc4 ops b l cs):=by
 simp only [Zc4,Xi]
theorem Za4 (oj oi:AOp) (cj ci:Cls) (sj:Nat):Zcn oj oi cj ci sj=(Zcd oj cj || Zcd oi ci || (ZcN cj && ZcN ci && (nsite oj.ins == 0 || !ci.rd.contains sj)) || ((Zao oj.ins || (Zau oj.ins && !cj.any)) && (ZcN ci && ci.rd.isEmpty)) || (Zaw oj.ins && Zao oi.ins && ci.any && ZaA cj ci) || (Zaw oj.ins && (Zau oi.ins || (ZaF oi.ins && ZaU cj ci)) && ZaA cj ci) || (ZaT oj.ins && ZaO oi.ins) || (Zao oj.ins && Zaw oi.ins && cj.any && ZaW cj ci sj) || (((Zau oj.ins && !cj.any) || ZaF oj.ins) && ZcN ci && nsite oi.ins == 0 && ci.rd.all fun t=>!cj.wr.contains t && t != sj)):=rfl
theorem Za1 (o:AOp) (rd wr:List Nat) (any:Bool) (got:List (Nat×Option Nat×Nat×AVal)) (upd:List (Nat×List AVal)):Zcd o ⟨rd,wr,any,got,upd⟩=(nsite o.ins == 0 && rd.isEmpty && wr.isEmpty && !any):=rfl
theorem Za7 (rd wr:List Nat) (any:Bool) (got:List (Nat×Option Nat×Nat×AVal)) (upd:List (Nat×List AVal)):ZcN ⟨rd,wr,any,got,upd⟩=(wr.isEmpty && !any):=rfl
theorem ZcI {α:Type} {l:List α} {i:Nat} {x:α} {r:List α} (h:l.drop i=x::r):l[i]?=some x/\l.drop (i+1)=r/\i < l.length:=by
 have h1:i < l.length:=by
  rcases Nat.lt_or_ge i l.length with h1 | h1
  ·exact h1
  ·rw [List.drop_eq_nil_of_le h1] at h;cases h
 rw [WT h1] at h
 injection h with h2 h3
 exact ⟨by rw [XB h1,h2],h3,h1⟩
theorem Zjy {α:Type} {l:List α} {i:Nat} (h:l.drop i=[]):¬(i:Int) < l.length:=by
 have:=WD.1 h;omega
theorem iad {α:Type} {l:List α} {i:Nat} {x:α} (h:l[i]?=some x) (f:α->AVal) {k:Nat} (hk:(f x).cells.length=k) (σ:Za) (n:Bool) (kk:IntKind):ZaN σ k (.lst n (l.map f)) (.int kk (i:Int))=some (.iptr (f x).cells 0,σ,{}):=by
 have h0:(0:Int)<=(i:Int):=Int.natCast_nonneg i
 unfold ZaN
 simp only [h0,if_true,XaY,XX,h,XU,hk]
theorem ZcZ {n:Int} (h0:-9223372036854775808<=n) (h:n<=9223372036854775807):IntKind.i64.wrap n=n:=by
 rw [IntKind.wrap_i64];omega
theorem Zg6 {i n:Nat} (h:(i:Int) < n) (hn:n<=9223372036854775807):IntKind.i64.wrap ((i:Int)+1)=((i+1:Nat):Int):=by
 rw [ZcZ (by omega) (by omega)];rfl
theorem ZjT {O:ZZ} {bf:Nat->Bool} {f:Nat} {args:List AVal} {r:AVal} (h:O f args []=some (r,[])) (hb:bf f=false) (hp:args.all Zaz=true) (hn:args.map Zak=args) (hv:Zcz 0 (some (r,[]))=some (r,[])) (hr:∀ sq,Zi (Zby [] [] sq) r=r) (σ:Za) (sq own:Nat) (view:Bool):Z7 O bf σ sq f own view args=some (r,σ,{}):=by
 rw [ZeJ hb hp,hn,h]
 have : ZaM view 0 (some (r,[]))=some (r,[]):=by
  unfold ZaM
  split
  ·exact hv
  ·rfl
 rw [this,Zge _ _ _ _ (hr sq)]
theorem Zry {α:Type} (σ:Za) (k:Nat) (l:List α) (f:α->AVal) (kk:IntKind) (n:Int) (h0:0<=n) (h:n<=(l.length:Int)):ZcA σ k (.lst false (l.map f)) none (some (.int kk n)) none=some (.lst false ((l.take n.toNat).map f),σ,{}):=by
 simp only [ZcA,ZaY,Zd9,XP,h0,h,and_self,if_true,beq_self_eq_true,Xag,W6,Xz,if_false,Xam,List.drop_zero,Xa0]
abbrev ZC:=List UInt8
def Zl (b:ZC):AVal:=.lst false (b.map Zr)
structure ZcL where
 id:Int
 num:Int
 text:ZC
 pair:ZC
 data:ZC
 deriving DecidableEq
def Zz (p:ZcL):List AVal:=[.int .i64 p.id,.int .i64 p.num,.str p.text,.str p.pair,Zl p.data]
def Zc (p:ZcL):AVal:=.agg (Zz p)
def Zo (l:List ZcL):AVal:=.lst false (l.map Zc)
def Zw (l:List Int):AVal:=.lst false (l.map (.int .i64 ·))
theorem ZE (l:ZC):Zd3 (l.map Zr)=some l:=by
 induction l with
 | nil=>rfl
 | cons b l ih =>
  simp only [Xu,Zd3,ih,Zr,Ziv,XaY,UInt8.ofNat_toNat]
end
section
def Zj2:=(aI (aI (aI (aI (aI (aI @Zn7 @Zr3) (aI @ZwH @Zrv)) (aI (aI @Zxq @Zq1) (aI @Zyg @ZpV))) (aI (aI (aI @Zlr @Zjf) (aI @Zn2 @Zkj)) (aI (aI @ZwI @Zu3) (aI @Zog @ZsK)))) (aI (aI (aI (aI @ZzS @Zv9) (aI @Zup @ZuS)) (aI (aI @ZyC @ZyU) (aI @Zxp @Ztb))) (aI (aI (aI @Zrf @ZtX) (aI @Zoo @Zvh)) (aI (aI @ZAO @ZE) (aI @Zsj @Zsi))))) (aI (aI (aI (aI (aI @Zwc @ZwY) (aI @ZpP @Zrq)) (aI (aI @Zzf @Zyr) (aI @ZuB @Zq5))) (aI (aI (aI @ZrR @Zxt) (aI @Zyc @ZaE)) (aI (aI @Znr @ZiB) (aI @Zu5 @ZAJ)))) (aI (aI (aI (aI @ZpQ @ZpA) (aI @ZrE @Zzx)) (aI (aI @ZpT @Zi9) (aI @Zqg @Zqh))) (aI (aI (aI @ZxU @Zuv) (aI @Zqd @Zzy)) (aI (aI @Zxy @Zpm) (aI @ZpY @ZAF))))))
def Zi1:=(aI (aI (aI (aI (aI (aI @ZsS @ZoL) (aI @Zt0 @ZzN)) (aI (aI @ZoD @Zn8) (aI @Za5 @Za2))) (aI (aI (aI @Za4 @Za1) (aI @Za7 @ZaK)) (aI (aI @Zur @Zs3) (aI @Zo6 @Zqk)))) (aI (aI (aI (aI @ZtW @ZAa) (aI @ZoC @ZyW)) (aI (aI @ZnK @ZyF) (aI @Zyz @Zy1))) (aI (aI (aI @ZvF @Zvu) (aI @ZvU @ZpI)) (aI (aI @ZoT @Zrz) (aI @Zuj @ZAb))))) (aI (aI (aI (aI (aI @Zv7 @ZxH) (aI @Zrn @ZqA)) (aI (aI @Zq3 @ZrH) (aI @ZxN @Ztg))) (aI (aI (aI @Zt8 @ZAq) (aI @Zvb @Zzn)) (aI (aI @ZoV @Zp0) (aI @Zsu @ZtJ)))) (aI (aI (aI (aI @ZsR @Zol) (aI @Zwr @Zsf)) (aI (aI @Zxa @ZsW) (aI @Zqb @Zrt))) (aI (aI (aI @Zts @ZnR) (aI @Zui @Ztp)) (aI (aI @ZxO @ZyI) (aI @Zot @ZuR))))))
def ZG:=(aI (aI (aI (aI (aI (aI @Zqt @Zsd) (aI @ZoP @Zpr)) (aI (aI @Zn9 @Zo9) (aI @Zso @Zw1))) (aI (aI (aI @Zrd @ZqW) (aI @Zwd @Zzm)) (aI (aI @ZvJ @Zsb) (aI @ZxL @Zue)))) (aI (aI (aI (aI @Zr7 @ZxX) (aI @ZyX @Zt9)) (aI (aI @Zwl @Zrg) (aI @Zyi @Zua))) (aI (aI (aI @ZuE @Zqi) (aI @ZAl @Zu7)) (aI (aI @ZqT @ZpB) (aI @ZuV @Zug))))) (aI (aI (aI (aI (aI @Ztu @Zn4) (aI @Zvs @Zyl)) (aI (aI @Zwz @Zti) (aI @ZAp @Zw8))) (aI (aI (aI @ZzA @ZuL) (aI @ZwB @ZtC)) (aI (aI @Zvd @Zza) (aI @Zt7 @Zw9)))) (aI (aI (aI (aI @ZoB @Zzk) (aI @ZsA @ZAs)) (aI (aI @Zo8 @Zrs) (aI @Zxv @ZxW))) (aI (aI (aI @Zsp @ZwX) (aI @ZuP @Zpj)) (aI (aI @Zr5 @Zof) (aI @Zy3 @Zxx))))))
def ZF:=(aI (aI (aI (aI (aI (aI @Zs5 @ZvS) (aI @Zou @Zpq)) (aI (aI @ZAL @Zse) (aI @ZwF @ZtR))) (aI (aI (aI @ZyB @Zwh) (aI @Zxi @ZrB)) (aI (aI @ZvB @Zva) (aI @Zz7 @ZrP)))) (aI (aI (aI (aI @ZAg @Zvw) (aI @ZzC @Zod)) (aI (aI @Zvf @Zp1) (aI @Zsy @Zqn))) (aI (aI (aI @ZwC @Zy2) (aI @ZuZ @Zt3)) (aI (aI @ZyQ @ZxA) (aI @ZqC @ZuW))))) (aI (aI (aI (aI (aI @Zuq @Zut) (aI @ZpJ @ZvW)) (aI (aI @ZsD @Zp3) (aI @Zr2 @ZzB))) (aI (aI (aI @ZsN @Zvm) (aI @ZrU @Zsk)) (aI (aI @ZsT @Zzt) (aI @ZuC @Zu0)))) (aI (aI (aI (aI @Zsv @Zyj) (aI @Zuk @ZpU)) (aI (aI @ZuA @Zx1) (aI @ZnT @Zst))) (aI (aI (aI @ZqP @ZpS) (aI @Zyd @Zzw)) (aI (aI @Zsx @Zzz) (aI @Zxm @Zxf))))))
def ZK:=(aI (aI (aI (aI (aI (aI @ZtL @ZzW) (aI @ZtT @ZvX)) (aI (aI @ZoJ @Zs1) (aI @ZyH @Zwk))) (aI (aI (aI @Zx9 @ZqJ) (aI @Zsa @Zzq)) (aI (aI @ZpE @Zpn) (aI @Zsz @ZtG)))) (aI (aI (aI (aI @ZoU @ZAN) (aI @ZzR @ZAk)) (aI (aI @Zyx @Zn0) (aI @ZxR @ZpC))) (aI (aI (aI @Zu1 @Zp4) (aI @Zrw @Zyq)) (aI (aI @Zz5 @ZyZ) (aI @Ztq @Zt5))))) (aI (aI (aI (aI (aI @ZqY @Zok) (aI @Zrk @Zw5)) (aI (aI @ZvI @Zys) (aI @ZzX @Zwu))) (aI (aI (aI @Zoy @ZqZ) (aI @Zyk @ZqM)) (aI (aI @Zuu @Zyh) (aI @ZqO @ZnY)))) (aI (aI (aI (aI @ZwN @ZzY) (aI @ZvT @Zwf)) (aI (aI @ZoQ @Zqf) (aI @ZuY @ZzD))) (aI (aI (aI @ZnU @ZyP) (aI @ZpX @ZvE)) (aI (aI @Zwq @Zx0) (aI @Zpl @Zzh))))))
def Zil:=(aI (aI (aI (aI (aI (aI @Zqx @Zq8) (aI @ZzK @ZAR)) (aI (aI @ZoO @ZqX) (aI @Zz3 @ZuQ))) (aI (aI (aI @Zxr @ZAo) (aI @Zqc @ZsX)) (aI (aI @ZwR @ZwO) (aI @Zob @Zul)))) (aI (aI (aI (aI @Zum @Zt1) (aI @Ztl @Zpv)) (aI (aI @Zqy @Zs6) (aI @Zwj @ZzT))) (aI (aI (aI @ZpF @Zs2) (aI @ZpL @ZqI)) (aI (aI @Zqu @Zz6) (aI @Zvv @ZqB))))) (aI (aI (aI (aI (aI @ZrN @Zqp) (aI @ZtK @ZqR)) (aI (aI @ZAt @Zsl) (aI @Zvk @ZuO))) (aI (aI (aI @Zyb @ZvG) (aI @ZAe @ZoZ)) (aI (aI @ZsV @ZqE) (aI @Zy6 @ZqG)))) (aI (aI (aI (aI @Zqm @Zn1) (aI @Zps @Zqo)) (aI (aI @ZvQ @ZuK) (aI @Zvo @ZAC))) (aI (aI (aI @ZwZ @Zy4) (aI @Zvi @ZxM)) (aI (aI @Zvz @ZrA) (aI @Ztr @Zth))))))
def ZH:=(aI (aI (aI (aI (aI (aI @ZrF @Zph) (aI @Zq0 @Zyy)) (aI (aI @ZAj @Zt6) (aI @Zuz @Zvt))) (aI (aI (aI @Zun @ZyM) (aI @Zsh @ZrZ)) (aI (aI @ZqK @ZAB) (aI @Zri @Zoh)))) (aI (aI (aI (aI @ZtN @Zsr) (aI @ZzF @ZxZ)) (aI (aI @ZuF @ZrL) (aI @ZAK @Zt2))) (aI (aI (aI @ZpW @ZAy) (aI @Zp5 @Zu2)) (aI (aI @Zpb @Zwa) (aI @ZoA @Zsn))))) (aI (aI (aI (aI (aI @Zsm @Zov) (aI @Ztk @ZwD)) (aI (aI @ZnV @Zy0) (aI @ZoN @Zvn))) (aI (aI (aI @Zpk @ZxS) (aI @ZtQ @Zv1)) (aI (aI @ZvL @ZzQ) (aI @Zss @ZrI)))) (aI (aI (aI (aI @ZxP @ZsI) (aI @ZyG @Zrr)) (aI (aI @Zs4 @ZtY) (aI @ZxT @ZyY))) (aI (aI (aI @ZvO @ZoX) (aI @Zw7 @ZxC)) (aI (aI @ZwM @Zr4) (aI @Zro @ZvY))))))
def ZJ:=(aI (aI (aI (aI (aI @Zoe (aI @ZvH @ZpG)) (aI (aI @ZoR @ZsY) (aI @Zwn @ZvD))) (aI (aI @ZtM (aI @Zwy @ZwJ)) (aI (aI @ZxF @Zre) (aI @ZtB @Zyf)))) (aI (aI (aI @ZzL (aI @ZoE @Zpi)) (aI (aI @ZtE @Zxc) (aI @ZAG @Zx3))) (aI (aI (aI @ZwL @Zwx) (aI @ZpK @ZvZ)) (aI (aI @Zzj @Zrb) (aI @Zud @Zsg))))) (aI (aI (aI (aI @Zuc (aI @Zn3 @ZAv)) (aI (aI @ZpZ @ZoM) (aI @Zvl @Zrx))) (aI (aI (aI @ZxQ @Zo5) (aI @Zsw @ZrX)) (aI (aI @Zyw @Zqq) (aI @Zo4 @ZnW)))) (aI (aI (aI @Zp2 (aI @Zw4 @ZuD)) (aI (aI @Zxb @ZzZ) (aI @Zuw @ZqL))) (aI (aI (aI @Zu8 @Ztw) (aI @Ztd @Zwb)) (aI (aI @ZrJ @Zn5) (aI @ZxD @ZnC))))))
def Zjd:=(aI (aI (aI (aI (aI (aI @List.map_cons.{0,0} @List.map_nil.{0,0}) (aI @List.length_cons.{0} @List.length_nil.{0})) (aI (aI @List.replicate_zero.{0} @List.replicate_succ.{0}) (aI @List.append_nil.{0} @List.nil_append.{0}))) (aI (aI (aI @List.cons_append.{0} @List.getElem?_cons_zero.{0}) (aI @List.getElem?_cons_succ.{0} @List.set_cons_zero.{0})) (aI (aI @List.set_cons_succ.{0} @Nat.add_zero) (aI @Nat.zero_add @Bool.true_or)))) (aI (aI (aI (aI @Bool.false_or @Bool.or_true) (aI @Bool.or_false @Bool.and_true)) (aI (aI @Bool.true_and @Bool.and_self) (aI @Bool.and_false @Bool.false_and))) (aI (aI (aI @if_true.{1} @if_false.{1}) (aI @ite_true.{1} @ite_false.{1})) (aI (aI @Option.map_some.{0,0} @Option.map_none.{0,0}) (aI @and_self @and_true))))) (aI (aI (aI (aI (aI @true_and @and_false) (aI @false_and @true_or)) (aI (aI @or_true @false_or) (aI @or_false @not_true_eq_false))) (aI (aI (aI @not_false_eq_true @List.drop_zero.{0}) (aI @List.drop_succ_cons.{0} @List.take_succ_cons.{0})) (aI (aI @List.take_zero.{0} @List.all_cons.{0}) (aI @List.all_nil.{0} @List.isEmpty_nil.{0})))) (aI (aI (aI (aI @Bool.not_false @Bool.not_true) (aI @List.length_map.{0,0} @Bool.bne_false)) (aI (aI @Bool.bne_true @List.isEmpty_cons.{0}) (aI @List.getD_cons_zero.{0} @List.getD_cons_succ.{0}))) (aI (aI (aI @List.getD_nil.{0} @List.contains_nil.{0}) (aI @List.range_zero @List.flatMap_cons.{0,0})) (aI (aI @List.flatMap_nil.{0,0} @List.zip_cons_cons.{0,0}) (aI @List.zip_nil_left.{0,0} @List.zip_nil_right.{0,0}))))))
def ZD:=@Nat.not_lt_zero
def EQA := (aI (aI (aI (aI (aI (aI (aI Zj2 Zi1) (aI Zil Zjd)) (aI (aI @exI.eq_1 @nsite.eq_1) (aI @nsite.eq_2 @nsite.eq_3))) (aI (aI (aI @nsite.eq_4 @nsite.eq_5) (aI @nsite.eq_6 @nsite.eq_7)) (aI (aI @nsite.eq_8 @nsite.eq_9) (aI @nsite.eq_10 (aI @nsite.eq_11 @nsite.eq_12))))) (aI (aI (aI (aI @nsite.eq_13 @nsite.eq_14) (aI @nsite.eq_15 @freeAt.eq_1)) (aI (aI @execI.eq_1 @execI.eq_2) (aI @execI.eq_3 (aI @execI.eq_4 @execI.eq_5)))) (aI (aI (aI @execI.eq_6 @execI.eq_7) (aI @execI.eq_8 @execI.eq_9)) (aI (aI @execI.eq_10 @execI.eq_11) (aI @execI.eq_12 (aI @execI.eq_13 @execI.eq_14)))))) (aI (aI (aI (aI (aI @execI.eq_15 @execI.eq_16) (aI @execI.eq_17 @execI.eq_18)) (aI (aI @execI.eq_19 @execI.eq_20) (aI @execI.eq_21 (aI @execI.eq_22 @execI.eq_23)))) (aI (aI (aI @execI.eq_24 @execI.eq_25) (aI @execI.eq_26 @execI.eq_27)) (aI (aI @execI.eq_28 @execI.eq_29) (aI @execI.eq_30 (aI @execI.eq_31 @execI.eq_32))))) (aI (aI (aI (aI @execI.eq_33 @execI.eq_34) (aI @execI.eq_35 @execI.eq_36)) (aI (aI @execI.eq_37 @execI.eq_38) (aI @execI.eq_39 (aI @execI.eq_40 @execI.eq_41)))) (aI (aI (aI @execI.eq_42 @execI.eq_43) (aI @execI.eq_44 @execI.eq_45)) (aI (aI @execI.eq_46 @execI.eq_47) (aI @execI.eq_48 (aI @execI.eq_49 @execI.eq_50))))))) (aI (aI (aI (aI (aI (aI @execI.eq_51 @execI.eq_52) (aI @execI.eq_53 @Opd.ev.eq_1)) (aI (aI @Opd.ev.eq_2 @tget.eq_1) (aI @tget.eq_2 (aI @tins.eq_1 @tins.eq_2)))) (aI (aI (aI @tput.eq_1 @tput.eq_2) (aI @keepL.eq_1 @sitesOf.eq_1)) (aI (aI @resA.eq_1 @resAll.eq_1) (aI @resAll.eq_2 (aI @resOne.eq_1 @resOne.eq_2))))) (aI (aI (aI (aI @enterA.eq_1 @enterA.eq_2) (aI @partA.eq_1 @partA.eq_2)) (aI (aI @faddrA.eq_1 @faddrA.eq_2) (aI @faddrA.eq_3 (aI @faddrA.eq_4 @setAt.eq_1)))) (aI (aI (aI @binA.eq_1 @binA.eq_2) (aI @binA.eq_3 @binA.eq_4)) (aI (aI @binA.eq_5 @arithA.eq_1) (aI @arithA.eq_2 (aI @arithA.eq_3 @arithA.eq_4)))))) (aI (aI (aI (aI (aI @arithA.eq_5 @arithA.eq_6) (aI @arithA.eq_7 @arithA.eq_8)) (aI (aI @arithA.eq_9 @arithA.eq_10) (aI @arithA.eq_11 (aI @arithA.eq_12 @arithA.eq_13)))) (aI (aI (aI @arithA.eq_14 @arithA.eq_15) (aI @arithA.eq_16 @ldA.eq_1)) (aI (aI @ldA.eq_2 @ldA.eq_3) (aI @ldA.eq_4 (aI @stA.eq_1 @stA.eq_2))))) (aI (aI (aI (aI @stA.eq_3 @oI.eq_1) (aI @oN.eq_1 @oM.eq_1)) (aI (aI @oF.eq_1 @oL.eq_1) (aI @List.sum_cons.{0} (aI @List.sum_nil.{0} @eq_self.{1})))) (aI (aI (aI @beq_self_eq_true.{0} @Bool.false_eq_true) (aI @Option.some.injEq.{0} @decide_true)) (aI (aI @decide_false @List.foldl_cons.{0, 0}) (aI @List.foldl_nil.{0, 0} (aI @List.contains_cons.{0} @ne_eq.{1}))))))))
end
section
end
section
end
section
structure Z3 where
 topic:ZC
 payload:ZC
 qos:Int
 retain:Bool
 sender:ZC
 expires:Int
 props:List ZcL
 origin:Int
 number:Int
 hops:Int
 deriving DecidableEq
structure ZeR where
 note:Z3
 qos:Int
 retain:Bool
 ids:List Int
 share:ZC
 deriving DecidableEq
def Zab (n:Z3):List AVal:=[.str n.topic,Zl n.payload,.int .i64 n.qos,.bool n.retain,.str n.sender,.int .i64 n.expires,Zo n.props,.int .i64 n.origin,.int .i64 n.number,.int .i64 n.hops]
def ZdE (n:Z3):AVal:=.agg (Zab n)
def ZcO (n:ZeR):List AVal:=[.str n.note.topic,Zl n.note.payload,.int .i64 n.note.qos,.bool n.note.retain,.str n.note.sender,.int .i64 n.note.expires,Zo n.note.props,.int .i64 n.note.origin,.int .i64 n.note.number,.int .i64 n.note.hops,.int .i64 n.qos,.bool n.retain,Zw n.ids,.str n.share]
def Zfu (n:ZeR):AVal:=.agg (ZcO n)
end
section
theorem ZmE {O:ZZ} {bf:Nat->Bool} {σ:Za} {sq f own:Nat} {view:Bool} {args:List AVal} (h:args.all Zaz=true) (hm:args.map Zak=args) :
  Z7 O bf σ sq f own view args=ZaC σ σ [] [] sq own (ZaM view 0 (O f args [])):=by
 cases hb:bf f
 ·rw [ZeJ hb h,hm]
 ·have hr:=ZjW h
  have hn:=fun ρ=>ZiV (ρ:=ρ) h
  rw [hm] at hr
  simp only [hm] at hn
  unfold Z7 Zc6
  rw [hb]
  simp only [if_true]
  have h1:Zs σ []=σ:=rfl
  rw [h1,hr]
  have h2:Zf σ 1000 [] []=[]:=rfl
  rw [h2]
  unfold Zcj
  simp only [Xo,if_true,hn,Zg,XA]
theorem Zux {O:ZZ} {bf:Nat->Bool} {f:Nat} {args:List AVal} {k n:Nat} {xs:List AVal} (h:O f args []=some (.sl 0 0 0 n,[.row 0 k xs])) (hn:xs.length=n) (hp:args.all Zaz=true) (hm:args.map Zak=args) (σ:Za) (sq own:Nat):Z7 O bf σ sq f own true args=some (.lst false xs,σ,{}):=by
 rw [ZmE hp hm,h]
 have : ZaM true 0 (some (.sl 0 0 0 n,[.row 0 k xs]))=some (.lst false xs,[]):=by
  unfold ZaM
  rw [if_pos rfl,Zlp (k:=k) (g:=0) (t:=0) (xs:=xs) rfl (by omega),Wq (by omega)]
 rw [this,Zge _ _ _ _ rfl]
theorem ZtD {O:ZZ} {bf:Nat->Bool} {f:Nat} {args:List AVal} {k n:Nat} {xs:List AVal} (h:O f args []=some (.sl 0 0 0 n,[.row 0 k xs])) (hp:args.all Zaz=true) (hm:args.map Zak=args) (σ:Za) (sq:Nat) (hs:freeAt σ sq=true):Z7 O bf σ sq f 1 false args=some (.sl sq 0 0 n,σ.set sq (.row 0 k xs),if xs.all ZaS then {} else { any:=true }):=by
 rw [ZmE hp hm,h]
 cases hx:xs.all ZaS <;> simp [ZaM,ZaC,Zgh,hx,ZcS,okB,Zb,Zdq,hs,Zi,Zby,ZbX,ZcR,ZcR,ZaL,Zcu,Zh]
theorem ZmY {O:ZZ} {bf:Nat->Bool} {f:Nat} {args args':List AVal} {r r':AVal} (h:O f args' []=some (r,[])) (hb:bf f=false) (hp:args.all Zaz=true) (hn:args.map Zak=args') (hv:Zcz 0 (some (r,[]))=some (r',[])) (hr:∀ sq,Zi (Zby [] [] sq) r'=r') (σ:Za) (sq own:Nat):Z7 O bf σ sq f own true args=some (r',σ,{}):=by
 rw [ZeJ hb hp,hn,h]
 have : ZaM true 0 (some (r,[]))=some (r',[]):=by
  unfold ZaM
  rw [if_pos rfl];exact hv
 rw [this,Zge _ _ _ _ (hr sq)]
def ZcD:List AVal->AVal
 | []=>.lst true []
 | x::xs=>.sl 0 0 0 (x::xs).length
def Zci (k:Nat):List AVal->Za
 | []=>[]
 | x::xs=>[.row 0 k (x::xs)]
theorem ZgK:ZcD []=.lst true []:=rfl
theorem Zhd (x:AVal) (xs:List AVal):ZcD (x::xs)=.sl 0 0 0 (x::xs).length:=rfl
theorem Ze4 (k:Nat):Zci k []=[]:=rfl
theorem ZgG (k:Nat) (x:AVal) (xs:List AVal):Zci k (x::xs)=[.row 0 k (x::xs)]:=rfl
theorem ZjY {O:ZZ} {bf:Nat->Bool} {f k:Nat} {args args':List AVal} {full:List AVal} (h:O f args' []=some (ZcD full,Zci k full)) (hb:bf f=false) (hp:args.all Zaz=true) (hn:args.map Zak=args') (σ:Za) (sq own:Nat):Z7 O bf σ sq f own true args=some (.lst false full,σ,{}):=by
 cases full with
 | nil=>exact ZmY h hb hp hn rfl (fun _=>rfl) σ sq own
 | cons x xs =>
  rw [Zhd,ZgG] at h
  rw [ZeJ hb hp,hn,h]
  have : ZaM true 0 (some (.sl 0 0 0 (x::xs).length,[.row 0 k (x::xs)]))=some (.lst false (x::xs),[]):=by
   unfold ZaM
   rw [if_pos rfl,Zlp (k:=k) (g:=0) (t:=0) (xs:=x::xs) rfl (by omega),Wq (by omega)]
  rw [this,Zge _ _ _ _ rfl]
theorem Zub (l:ZC):kOk 1 (l.map Zr)=true:=by cases l <;> rfl
end
section
theorem Zxj (l:ZC):kOk 1 (l.map Zr)=true:=by cases l <;> rfl
theorem ZtS (l:ZC) (h:l.length<=140737488355328):E 36 [.lst false (l.map Zr)] []=some (.sl 0 0 0 (l.map Zr).length,[.row 0 1 (l.map Zr)]):=by
 refine ZcH.2 ⟨1,?_⟩
 show ZeH 1 1 [.lst false (l.map Zr)] []=_
 have h1:(l.map Zr).length*1<=140737488355328/\kOk 1 (l.map Zr)=true:=⟨by simpa using h,Zxj l⟩
 simp only [ZeH,Zk]
 rw [if_pos h1];rfl
theorem Zlj (σ:Za) (sq own:Nat) (l:ZC) (h:l.length<=140737488355328):Z7 E BY σ sq 36 own true [.lst false (l.map Zr)]=some (.lst false (l.map Zr),σ,{}) :=
 Zux (bf:=BY) (ZtS l h) rfl rfl rfl σ sq own
end
section
structure Zap where
 filter:ZC
 qos:Int
 noLocal:Bool
 asPublished:Bool
 handling:Int
 id:Int
 deriving DecidableEq
def Zbi (s:Zap):AVal:=.agg [.str s.filter,.int .i64 s.qos,.bool s.noLocal,.bool s.asPublished,.int .i64 s.handling,.int .i64 s.id]
structure ZpM where
 topic:ZC
 data:ZC
 qos:Int
 retain:Bool
 props:List ZcL
 deriving DecidableEq
structure ZAS where
 type:Int
 dup:Bool
 qos:Int
 retain:Bool
 id:Int
 topic:ZC
 payload:ZC
 code:Int
 codes:List Int
 props:List ZcL
 subs:List Zap
 filters:List ZC
 clean:Bool
 keep:Int
 client:ZC
 hasWill:Bool
 will:ZpM
 hasUser:Bool
 user:ZC
 hasPassword:Bool
 password:ZC
 present:Bool
 deriving DecidableEq
end
section
theorem Zoj (l:List ZcL):kOk 5 (l.map Zc)=true:=by cases l <;> rfl
theorem ZsG (l:List ZcL) (h:l.length<=700000000):E 37 [.lst false (l.map Zc)] []=some (.sl 0 0 0 (l.map Zc).length,[.row 0 5 (l.map Zc)]):=by
 refine ZcH.2 ⟨1,?_⟩
 show ZeH 5 72 [.lst false (l.map Zc)] []=_
 have h1:(l.map Zc).length*72<=140737488355328/\kOk 5 (l.map Zc)=true:=⟨by simp;omega,Zoj l⟩
 simp only [ZeH,Zk]
 rw [if_pos h1];rfl
def Zef (n:Z3) (b:Nat):List AVal:=[.str n.topic,.lst false (n.payload.map Zr),.int .i64 n.qos,.bool n.retain,.str n.sender,.int .i64 n.expires,.sl b 0 0 n.props.length,.int .i64 n.origin,.int .i64 n.number,.int .i64 n.hops]
def Zg2:List AVal:=[.str [],.lst true [],.int .i64 0,.bool false,.str [],.int .i64 0,.lst true [],.int .i64 0,.int .i64 0,.int .i64 0]
structure ZdK (n:Z3):Prop where
 pay:n.payload.length<=140737488355328
 len:n.props.length<=700000000
 data:∀ p ∈ n.props,p.data.length<=140737488355328
theorem Zmu (n:Z3) (hl:n.props.length<=700000000) (hd:∀ p ∈ n.props,p.data.length<=140737488355328):∀ (r:List ZcL) (i:Nat),n.props.drop i=r ->
  Zho 0 [(15,.int .i64 i),(14,.int .i64 n.props.length),(2,.ref 0 0),(1,.ref 1 0)] [.var Zg2,.var (Zef n 2),.row 0 5 (n.props.map Zc)] =
  some (.agg (Zef n 0),[.row 0 5 (n.props.map Zc)])
 | [],i,h=>by
  have h1:=Zjy h
  generalize n.props.map Zc=R at *
  unfold Zho Zef Zg2
  generalize n.payload.map Zr=L at *
  rw [Za6]
  simp -implicitDefEqProofs only [EQA,ZG,ZF,ZK,ZH,ZJ,ZD,ZQ,ZR,ZP,ZS,ZM,ZL,ZO,ZT,ZN,implies_true,forall_const,Xp,Xq,Xt,Xf,Xg,Xr,Xm,ZA,ZI,unA,Zt,Zx,unG,reduceCtorEq,Zk,decide_eq_true_eq,Xh,Xc,ite_self,↓reduceIte,Zv,ZB,gcT,gcA,Zj,Zf,Zd,Zg,Zm,Zb,Zn,Zh,Zp,Xe,Zkm,ZgT,ZjO,ZjH,ZgE,Zkx,Zgj,Zw,Zl,Zo,Zc,Zz,ZE,h1,Z6,Zy,Xi,Xo,AVal.cells,ZaE,ZaK,Zba,ZaI,X2,X8,Xi,Xo,Xx,XA,Za2,Za5,Za4,Za1,Za7,XC,XG,Zao,Zaw,Zau,ZaF,ZaT,ZaO,ZaU,ZaW,ZaA,ZaV,XK,XY,Xi,Xo,XH]
  simp [ZaD,gcA,Zj,Zf,ZX,Z5,Zd,Zg,Zm,Zb,Zn,ZW,Zi,Zh,Zp,Xe]
 | p::r,i,h=>by
  have ih:=Zmu n hl hd r (i+1) (ZcI h).2.1
  have hp:=hd p (Xs (ZcI h).1)
  have hC:=fun σ sq own=>Zlj σ sq own p.data hp
  have h1:(i:Int) < n.props.length:=by have:=(ZcI h).2.2;omega
  have h2:i < n.props.length:=(ZcI h).2.2
  have h0:(0:Int)<=(i:Int):=by omega
  have hg:(n.props.map Zc)[i]?=some (.agg [.int .i64 p.id,.int .i64 p.num,.str p.text,.str p.pair,.lst false (p.data.map Zr)]):=by
   rw [XX,(ZcI h).1];rfl
  have hset:(n.props.map Zc).set i (.agg [.int .i64 p.id,.int .i64 p.num,.str p.text,.str p.pair,.lst false (p.data.map Zr)])=n.props.map Zc:=by
   apply X7
   intro j
   rw [Xk]
   by_cases e:i=j
   ·subst e;rw [if_pos rfl,if_pos (by simpa using h2),hg]
   ·simp [e]
  have hw:IntKind.i64.wrap ((i:Int)+1)=((i+1:Nat):Int):=by rw [ZcZ (by omega) (by omega)];rfl
  have hn:((i:Nat):Int).toNat=i:=XaY i
  generalize n.props.map Zc=R at *
  generalize p.data.map Zr=D at *
  unfold Zho Zef Zg2 at *
  generalize n.payload.map Zr=L at *
  rw [Za6]
  simp -implicitDefEqProofs only [EQA,ZG,ZF,ZK,ZH,ZJ,ZD,ZQ,ZR,ZP,ZS,ZM,ZL,ZO,ZT,ZN,implies_true,forall_const,Xp,Xq,Xt,Xf,Xg,Xr,Xm,ZA,ZI,unA,Zt,Zx,unG,reduceCtorEq,Zk,decide_eq_true_eq,Xh,Xc,ite_self,↓reduceIte,Zv,ZB,gcT,gcA,Zj,Zf,Zd,Zg,Zm,Zb,Zn,Zh,Zp,Xe,Zkm,ZgT,ZjO,ZjH,ZgE,Zkx,Zgj,Zw,Zl,Zo,Zc,Zz,ZE,h1,h0,h2,hg,hset,hC,hw,hn,ZaN,Ze3,Zal,Zai,Zs,Z6,Zy,Xi,Xo,AVal.cells,XF,ZaE,ZaK,Zba,ZaI,X2,X8,Xi,Xo,Xx,XA,Za2,Za5,Za4,Za1,Za7,XC,XG,Zao,Zaw,Zau,ZaF,ZaT,ZaO,ZaU,ZaW,ZaA,ZaV,XK,XY,Xi,Xo,XH]
  exact ih
theorem ZzP (n:Z3) (hn:ZdK n):E 30 [ZdE n] []=some (.agg (Zef n 0),[.row 0 5 (n.props.map Zc)]):=by
 have h:=Zmu n hn.len hn.data n.props 0 rfl
 have z:((0:Nat):Int)=0:=rfl
 rw [z] at h
 have c1:=fun σ sq own=>Zlj σ sq own n.payload hn.pay
 have c2:=fun σ sq hs=>ZtD (bf:=BY) (ZsG n.props hn.len) rfl rfl σ sq hs
 rw [XP] at c2
 unfold Zef Zg2 at h
 unfold Zef ZdE Zab Zl Zo
 generalize n.payload.map Zr=P at *
 generalize n.props.map Zc=R at *
 unfold Zho at h
 rw [Zez (by rfl) Zto]
 simp -implicitDefEqProofs only [EQA,ZG,ZF,ZK,ZH,ZJ,ZD,ZQ,ZR,ZP,ZS,ZM,ZL,ZO,ZT,ZN,implies_true,forall_const,Xp,Xq,Xt,Xf,Xg,Xr,Xm,ZA,ZI,unA,Zt,Zx,unG,reduceCtorEq,Zk,decide_eq_true_eq,Xh,Xc,ite_self,↓reduceIte,Zv,ZB,gcT,gcA,Zj,Zf,Zd,Zg,Zm,Zb,Zn,Zh,Zp,Xe,Zkm,ZgT,ZjO,ZjH,ZgE,Zkx,Zgj,Zw,Zl,Zo,Zc,Zz,ZE,c1,c2,Z6,Zy,Xi,Xo,AVal.cells]
 exact h
theorem ZzM (n:Z3) (hn:ZdK n) (σ:Za) (sq own:Nat):Z7 E BY σ sq 30 own true [.agg [.str n.topic,.lst false (n.payload.map Zr),.int .i64 n.qos,.bool n.retain,.str n.sender,.int .i64 n.expires,.lst false (n.props.map Zc),.int .i64 n.origin,.int .i64 n.number,.int .i64 n.hops]]=some (.agg [.str n.topic,.lst false (n.payload.map Zr),.int .i64 n.qos,.bool n.retain,.str n.sender,.int .i64 n.expires,.lst false (n.props.map Zc),.int .i64 n.origin,.int .i64 n.number,.int .i64 n.hops],σ,{}):=by
 rw [ZeJ (by kernel_rfl) rfl]
 simp only [Xu,X0,Zak,ZaH]
 have h:=ZzP n hn
 unfold ZdE Zab Zl Zo at h
 rw [h]
 have : ZaM true 0 (some (.agg (Zef n 0),[.row 0 5 (n.props.map Zc)]))=some (.agg [.str n.topic,.lst false (n.payload.map Zr),.int .i64 n.qos,.bool n.retain,.str n.sender,.int .i64 n.expires,.lst false (n.props.map Zc),.int .i64 n.origin,.int .i64 n.number,.int .i64 n.hops],[]):=by
  unfold Zef
  have e:(List.map Zc n.props).take n.props.length=n.props.map Zc:=by rw [<-XP (f:=Zc),List.take_length]
  simp [ZaM,Zcz,viewR,Zar,Zal,Zai,Zk,e,Zs,gcA,Zj,Zf,ZX,Z5,Zd,Zg,Zm,ZW,Zi]
 rw [this]
 simp [ZaC,Zbg,ZaS,ZaJ,Zdg,Zi,ZW]
end
section
theorem ZmJ {O:ZZ} {bf:Nat->Bool} {σ:Za} {t sq f own k:Nat} {view:Bool} {args args' xs xs':List AVal} {r:AVal} {b':ZV} (hs:σ[t]?=some (.row 0 k xs)) (hb:bf f=true) (hff:Zdq σ sq own=true)
  (href:ZX args=[t]) (hren:∀ ρ:Rho,ρ t 0=some (0,0)->ZW ρ args=args') (hr:∀ ρ:Rho,Zi ρ r=r) (hb':b'=.row 0 k xs'\/b'=.frow 0 k xs')
  (h:ZaM view 1 (O f args' [.row 0 k xs])=some (r,[b'])):Z7 O bf σ sq f own view args=some (r,σ.set t b',{ any:=true }):=by
 have hd:σ.getD t .free=.row 0 k xs:=by simp [Xj,hs]
 have hf0:Zs σ []=σ:=rfl
 unfold Z7 Zc6
 rw [hb]
 simp only [if_true,hf0,href]
 have hreach:Zf σ 1000 [t] []=[t]:=by
  simp only [Zf,XH,Xz,if_false,hd,Zp,Wa]
 rw [hreach]
 unfold Zcj
 have hall:([t].all fun t=>okB (σ.getD t .free))=true:=by simp [Xi,Xo,hs,okB]
 rw [if_pos hall]
 have hρ:Zd σ 0 [t] t 0=some (0,0):=by simp [Zd,Zm,hs,Zb,Zn]
 have hheap:Zg σ 0 [t] (Zd σ 0 [t]) [t] 0=[.row 0 k xs]:=by
  simp only [Zg,hd,Zn,Zb,Zh,Nat.not_lt_zero,false_and,if_false]
 rw [hren _ hρ,hheap]
 simp only [Xx,XA,XF]
 rw [h]
 have hk:ZcS σ [t] [b'] 0=true:=by
  rcases hb' with rfl | rfl <;> simp [ZcS,okB,hs,Zfb,Zb]
 have hren':∀ ρ,Zh ρ (Zcu σ [t] 0 b') b'=b':=by
  intro ρ
  rcases hb' with rfl | rfl <;> simp [Zcu,hs,Zb,Zh]
 simp only [ZaC,List.isEmpty_cons,Xam,Xz,if_false,Xx,XA,XF,Nat.le_add_right,XR,decide_true,hk,hff,Bool.and_self,if_true,ZbX,ZcR,ZaL,XC,hr,hren']
 have htl:t < σ.length:=(Xd.1 hs).1
 have hg:(σ.set t b')[t]?=some b':=by simp [htl]
 simp only [XT,Xaw,X6,hg]
 rcases hb' with rfl | rfl <;> rfl
end
section
def Zb7 (l:List Int):List Int:=l.mergeSort fun x y=>decide (x<=y)
theorem Zz8 {d l:List Int} (h:d.Perm l):Zb7 d=Zb7 l:=by
 unfold Zb7
 have ht:∀ a b c:Int,decide (a<=b)=true->decide (b<=c)=true->decide (a<=c)=true:=by intro a b c;simp only [decide_eq_true_eq];omega
 have hto:∀ a b:Int,(decide (a<=b) || decide (b<=a))=true:=by intro a b;simp only [Wv,decide_eq_true_eq];omega
 have h1:=Xai ht hto d
 have h2:=Xai ht hto l
 have hp:(d.mergeSort fun x y=>decide (x<=y)).Perm (l.mergeSort fun x y=>decide (x<=y)):=((W2 d _).trans h).trans (W2 l _).symm
 exact hp.eq_of_pairwise (fun a b _ _ h1 h2=>by simp only [decide_eq_true_eq] at h1 h2;omega) h1 h2
theorem Zms:∀ d:List Int,Zb3 ZeX (d.map (AVal.int .i64))=some d
 | []=>rfl
 | x::d=>by
  show (Zb3 ZeX (d.map (AVal.int .i64))).map (x::·)=_
  rw [Zms d];rfl
theorem Zxd (d:List Int) (h:d.length < 4611686018427387904):E 31 [.sl 0 0 0 d.length] [.row 0 1 (d.map (AVal.int .i64))]=some (.tup [],[.row 0 1 ((Zb7 d).map (AVal.int .i64))]):=by
 refine ZcH.2 ⟨1,?_⟩
 show Zhg [.sl 0 0 0 d.length] [.row 0 1 (d.map (AVal.int .i64))]=_
 simp only [Zhg,ZgY,Zms,XP,h,and_self,if_true]
 rfl
theorem ZtV (d:List Int) (h:d.length < 4611686018427387904) {σ:Za} {t sq:Nat} (hs:σ[t]?=some (.row 0 1 (d.map (AVal.int .i64)))):Z7 E BY σ sq 31 0 true [.sl t 0 0 d.length]=some (.tup [],σ.set t (.row 0 1 ((Zb7 d).map (AVal.int .i64))),{ any:=true }):=by
 refine ZmJ (args':=[.sl 0 0 0 d.length]) hs (by kernel_rfl) rfl rfl (fun ρ h=>by simp only [ZW,Zi,h]) (fun ρ=>rfl) (Xw rfl) ?_
 rw [Zxd d h]
 rfl
theorem ZoI (σ:Za) (sq:Nat):Z7 E BY σ sq 31 0 true [.lst true []]=some (.tup [],σ,{}):=by
 have h:E 31 [.lst true []] []=some (.tup [],[]):=ZcH.2 ⟨1,rfl⟩
 unfold Z7 Zc6
 rw [show BY 31=true by kernel_rfl]
 simp only [if_true,show ZX [AVal.lst true []]=[] from rfl,show Zs σ []=σ from rfl]
 rw [show Zf σ 1000 [] []=[] from rfl]
 unfold Zcj
 rw [if_pos (by rfl),show ZW (Zd σ 0 []) [AVal.lst true []]=[.lst true []] from rfl,show Zg σ 0 [] (Zd σ 0 []) [] 0=[] from rfl,h]
 rfl
end
section
def Zc1:Zq:=(.seq (.seq (.region [oF 68 2 1,oL 69 68,oI 70 (.len (.t 69)),oI 71 (.bin .gtr (.t 70) (.c (.int .i64 0)))] none [71,4,2,1]) (.cond (.t 71) (.region [oF 72 2 1,oL 73 72,oI 74 (.call 18 0 true [(.t 73)]),oI 75 (.bin .add (.c (.str [36,115,104,97,114,101,47,103,47])) (.t 74)),oF 76 13 4,oN (.st 1 (.t 76) (.t 75))] none [4,2]) .skip)) (.seq (.region [oI 77 (.ld (some 14) (.t 4)),oN (.st 14 (.t 2) (.t 77))] none [2]) .ret))
def ZjD:Zq:=Zc1
def Zdj:=xw ZjD Zc1 rfl
def ZcY:Zq:=(.seq (.seq (.region [oM 45 5,oF 46 13 1,oL 47 46,oI 48 (.len (.t 47)),oI 49 (.bin .lss (.t 45) (.t 48)),oM 50 49,⟨(some 51),(.mov (.t 5)),(some (50,true)),[]⟩,⟨(some 52),(.bin .lss (.t 51) (.c (.int .i64 4))),(some (50,true)),[]⟩,oI 53 (.pick (.t 50) (.t 52) (.c (.bool false)))] none [53,5,4,2,1]) (.cond (.t 53) .skip (.exit 0))) (.seq (.block 1 (.region [oF 56 12 4,oL 57 56,oF 58 13 1,oL 59 58,oM 60 5,oI 61 (.iaddr 1 (.t 59) (.t 60)),oL 62 61,oI 63 (.bin .and (.t 62) (.c (.int .i64 16777215))),oI 64 (.bin .add (.c (.int .i64 1)) (.t 63)),oI 65 (.bslice false 1 1 (.int .i64 0) [(0,(.t 64))]),oI 66 (.app 1 8 (.int .i64 0) (.t 57) (.t 65)),oF 67 12 4,oN (.st 1 (.t 67) (.t 66))] (some [(1,3),(1,5),(1,6),(1,9)]) [5,4,2,1])) (.region [oM 54 5,oI 55 (.bin .add (.t 54) (.c (.int .i64 1))),oM 5 55] none [5,4,2,1])))
def Zjl:Zq:=ZcY
def Zdl:=xw Zjl ZcY rfl
def Zc3:Zq:=(.seq (.region [oI 1 (.box (.t 0)),oI 2 (.alloc [(.str []),(.lst true []),(.int .i64 0),(.bool false),(.str []),(.int .i64 0),(.lst true []),(.int .i64 0),(.int .i64 0),(.int .i64 0),(.int .i64 0),(.bool false),(.lst true []),(.str [])])] none [2,1]) (.seq (.region [oF 6 0 1,oL 7 6,oI 8 (.call 18 0 true [(.t 7)]),oI 9 (.bin .add (.c (.str [116])) (.t 8)),oF 10 3 1,oL 11 10,oI 12 (.call 19 0 true [(.t 11),(.c (.int .i64 300))]),oF 13 4 1,oL 14 13,oI 15 (.call 20 0 true [(.t 14),(.c (.int .i64 0)),(.c (.int .i64 2))]),oF 16 6 1,oL 17 16,oF 18 1 1,oL 19 18,oI 20 (.call 18 0 true [(.t 19)]),oF 21 9 1,oI 22 (.ld (some 4) (.t 21)),oI 23 (.call 21 0 true [(.t 22)]),oF 24 14 1,oL 25 24,oI 26 (.bin .and (.t 25) (.c (.int .i64 255))),oF 27 15 1,oL 28 27,oI 29 (.bin .and (.t 28) (.c (.int .i64 16777215))),oI 30 (.build [(.str []),(.lst true []),(.int .i64 0),(.bool false),(.str []),(.int .i64 0),(.lst true []),(.int .i64 0),(.int .i64 0),(.int .i64 0)] [(0,1,(.t 9)),(1,1,(.t 12)),(2,1,(.t 15)),(3,1,(.t 17)),(4,1,(.t 20)),(6,1,(.t 23)),(7,1,(.t 26)),(8,1,(.t 29))]),oI 3 (.alloc [(.str []),(.lst true []),(.int .i64 0),(.bool false),(.str []),(.int .i64 0),(.lst true []),(.int .i64 0),(.int .i64 0),(.int .i64 0)]),oN (.st 10 (.t 3) (.t 30))] (some [(1,5),(2,5),(1,8),(2,8),(5,8),(6,8),(1,11),(2,11),(5,11),(6,11),(8,11),(9,11),(1,13),(2,13),(5,13),(6,13),(8,13),(9,13),(11,13),(11,14),(1,16),(2,16),(5,16),(6,16),(8,16),(9,16),(11,16),(13,16),(14,16),(11,17),(1,19),(2,19),(5,19),(6,19),(8,19),(9,19),(11,19),(13,19),(14,19),(16,19),(17,19),(1,22),(2,22),(5,22),(6,22),(8,22),(9,22),(11,22),(13,22),(14,22),(16,22),(17,22),(19,22),(1,25),(2,25),(5,25),(6,25),(8,25),(9,25),(11,25),(13,25),(14,25),(16,25),(17,25),(19,25),(22,25)]) [3,2,1]) (.seq (.seq (.region [oF 31 8 1,oL 32 31,oI 33 (.bin .gtr (.t 32) (.c (.int .i64 0)))] none [33,3,2,1]) (.cond (.t 33) (.region [oF 34 8 1,oL 35 34,oI 36 (.bin .and (.t 35) (.c (.int .i64 65535))),oF 37 5 3,oN (.st 1 (.t 37) (.t 36))] none [3,2,1]) .skip)) (.seq (.region [oI 38 (.ld (some 10) (.t 3)),oF 39 5 1,oL 40 39,oI 41 (.call 20 0 true [(.t 40),(.c (.int .i64 0)),(.c (.int .i64 2))]),oF 42 7 1,oL 43 42,oI 44 (.build [(.str []),(.lst true []),(.int .i64 0),(.bool false),(.str []),(.int .i64 0),(.lst true []),(.int .i64 0),(.int .i64 0),(.int .i64 0),(.int .i64 0),(.bool false),(.lst true []),(.str [])] [(0,10,(.t 38)),(10,1,(.t 41)),(11,1,(.t 43))]),oI 4 (.alloc [(.str []),(.lst true []),(.int .i64 0),(.bool false),(.str []),(.int .i64 0),(.lst true []),(.int .i64 0),(.int .i64 0),(.int .i64 0),(.int .i64 0),(.bool false),(.lst true []),(.str [])]),oN (.st 14 (.t 4) (.t 44))] (some [(0,2),(0,3),(0,5),(2,5),(3,5),(0,7),(2,7),(3,7),(5,7)]) [4,2,1]) (.seq (.seq (.region [oI 5 (.mov (.c (.int .i64 0)))] none [5,4,2,1]) (.block 0 (.loop [5,4,2,1] Zjl))) ZjD)))))
def Zhy:Zax:=⟨[(.cell 2 (some 14))],Zc3⟩
theorem Zqs:FC 6=some Zhy:=by kernel_rfl
theorem Zdm:Zhy.body=Zc3:=rfl
theorem Zdb:Zhy.res=[(.cell 2 (some 14))]:=rfl
noncomputable def ZgA (m:Nat) (tm:Tms) (σ:Za):Option (AVal×Za):=(ZaR m Zhy (ZcE FC PR BY m ZjD (W3 (ZbD 0) (evL FC PR BY m [5,4,2,1] Zjl tm σ))))
def Zel:Zq:=(.seq (.region [oM 62 3,oM 2 62] none [2]) .ret)
def Zj1:Zq:=Zel
def Zfo:=xw Zj1 Zel rfl
def Zd8:Zq:=(.seq (.seq (.region [oM 37 4,oF 38 3 1,oL 39 38,oI 40 (.len (.t 39)),oI 41 (.bin .lss (.t 37) (.t 40)),oM 42 41,⟨(some 43),(.mov (.t 4)),(some (42,true)),[]⟩,⟨(some 44),(.bin .lss (.t 43) (.c (.int .i64 4))),(some (42,true)),[]⟩,oI 45 (.pick (.t 42) (.t 44) (.c (.bool false)))] none [45,4,3,1]) (.cond (.t 45) .skip (.exit 0))) (.seq (.block 1 (.region [oM 48 3,oF 49 3 1,oL 50 49,oM 51 4,oM 52 4,oI 53 (.bin .add (.t 52) (.c (.int .i64 1))),oI 54 (.slice 1 (.t 50) (some (.t 51)) (some (.t 53)) none),oI 55 (.call 18 0 true [(.t 54)]),oF 56 3 1,oL 57 56,oI 58 (.call 18 0 true [(.t 57)]),oI 59 (.build [(.int .i64 0),(.int .i64 0),(.str []),(.str []),(.lst true [])] [(0,1,(.c (.int .i64 38))),(2,1,(.t 55)),(3,1,(.t 58))]),oI 60 (.bslice false 5 1 (.agg [(.int .i64 0),(.int .i64 0),(.str []),(.str []),(.lst true [])]) [(0,(.t 59))]),oI 61 (.app 5 72 (.agg [(.int .i64 0),(.int .i64 0),(.str []),(.str []),(.lst true [])]) (.t 48) (.t 60)),oM 3 61] (some [(2,9),(6,9),(7,9),(10,10)]) [4,3,1])) (.region [oM 46 4,oI 47 (.bin .add (.t 46) (.c (.int .i64 1))),oM 4 47] none [4,3,1])))
def Zkv:Zq:=Zd8
def Zfd:=xw Zkv Zd8 rfl
def Zeg:Zq:=(.seq (.region [oI 1 (.box (.t 0)),oI 2 (.mov (.c (.lst true [])))] none [1]) (.seq (.region [oI 3 (.mov (.c (.lst true [])))] none [3,1]) (.seq (.seq (.region [oF 5 0 1,oL 6 5,oI 7 (.bin .geq (.t 6) (.c (.int .i64 0)))] none [7,3,1]) (.cond (.t 7) (.region [oM 8 3,oF 9 0 1,oL 10 9,oI 11 (.bin .and (.t 10) (.c (.int .i64 1))),oI 12 (.build [(.int .i64 0),(.int .i64 0),(.str []),(.str []),(.lst true [])] [(0,1,(.c (.int .i64 1))),(1,1,(.t 11))]),oI 13 (.bslice false 5 1 (.agg [(.int .i64 0),(.int .i64 0),(.str []),(.str []),(.lst true [])]) [(0,(.t 12))]),oI 14 (.app 5 72 (.agg [(.int .i64 0),(.int .i64 0),(.str []),(.str []),(.lst true [])]) (.t 8) (.t 13)),oM 3 14] none [3,1]) .skip)) (.seq (.seq (.region [oF 15 1 1,oL 16 15,oI 17 (.len (.t 16)),oI 18 (.bin .gtr (.t 17) (.c (.int .i64 0)))] none [18,3,1]) (.cond (.t 18) (.region [oM 19 3,oF 20 1 1,oL 21 20,oI 22 (.call 18 0 true [(.t 21)]),oI 23 (.build [(.int .i64 0),(.int .i64 0),(.str []),(.str []),(.lst true [])] [(0,1,(.c (.int .i64 3))),(2,1,(.t 22))]),oI 24 (.bslice false 5 1 (.agg [(.int .i64 0),(.int .i64 0),(.str []),(.str []),(.lst true [])]) [(0,(.t 23))]),oI 25 (.app 5 72 (.agg [(.int .i64 0),(.int .i64 0),(.str []),(.str []),(.lst true [])]) (.t 19) (.t 24)),oM 3 25] none [3,1]) .skip)) (.seq (.seq (.region [oF 26 2 1,oL 27 26,oI 28 (.len (.t 27)),oI 29 (.bin .gtr (.t 28) (.c (.int .i64 0)))] none [29,3,1]) (.cond (.t 29) (.region [oM 30 3,oF 31 2 1,oL 32 31,oI 33 (.call 19 0 true [(.t 32),(.c (.int .i64 30))]),oI 34 (.build [(.int .i64 0),(.int .i64 0),(.str []),(.str []),(.lst true [])] [(0,1,(.c (.int .i64 9))),(4,1,(.t 33))]),oI 35 (.bslice false 5 1 (.agg [(.int .i64 0),(.int .i64 0),(.str []),(.str []),(.lst true [])]) [(0,(.t 34))]),oI 36 (.app 5 72 (.agg [(.int .i64 0),(.int .i64 0),(.str []),(.str []),(.lst true [])]) (.t 30) (.t 35)),oM 3 36] none [3,1]) .skip)) (.seq (.seq (.region [oI 4 (.mov (.c (.int .i64 0)))] none [4,3,1]) (.block 0 (.loop [4,3,1] Zkv))) Zj1))))))
def Zib:Zax:=⟨[(.tmp 2)],Zeg⟩
theorem ZsO:FC 21=some Zib:=by kernel_rfl
theorem Zfq:Zib.body=Zeg:=rfl
theorem Zfj:Zib.res=[(.tmp 2)]:=rfl
noncomputable def Zhr (m:Nat) (tm:Tms) (σ:Za):Option (AVal×Za):=(ZaR m Zib (ZcE FC PR BY m Zj1 (W3 (ZbD 0) (evL FC PR BY m [4,3,1] Zkv tm σ))))
def Zf6:Zq:=(.seq (.region [oM 25 3,oM 2 25] none [2]) .ret)
def Zi3:Zq:=Zf6
def Zhx:=xw Zi3 Zf6 rfl
def Zfz:Zq:=(.seq (.seq (.region [oM 5 4,oM 6 0,oI 7 (.len (.t 6)),oI 8 (.bin .lss (.t 5) (.t 7)),oM 9 8,⟨(some 10),(.mov (.t 4)),(some (9,true)),[]⟩,⟨(some 11),(.bin .lss (.t 10) (.c (.int .i64 30))),(some (9,true)),[]⟩,oI 12 (.pick (.t 9) (.t 11) (.c (.bool false)))] none [12,4,3,0]) (.cond (.t 12) .skip (.exit 0))) (.seq (.block 1 (.region [oM 15 3,oM 16 0,oM 17 4,oI 18 (.iaddr 1 (.t 16) (.t 17)),oL 19 18,oI 20 (.bin .rem (.t 19) (.c (.int .u8 26))),oI 21 (.bin .add (.c (.int .u8 97)) (.t 20)),oI 22 (.bslice false 1 1 (.int .u8 0) [(0,(.t 21))]),oI 23 (.b2s (.t 22)),oI 24 (.bin .add (.t 15) (.t 23)),oM 3 24] none [4,3,0])) (.region [oM 13 4,oI 14 (.bin .add (.t 13) (.c (.int .i64 1))),oM 4 14] none [4,3,0])))
def Zks:Zq:=Zfz
def Zg5:=xw Zks Zfz rfl
def ZfS:Zq:=(.seq (.region [oI 2 (.mov (.c (.str [])))] none [0]) (.seq (.region [oI 3 (.mov (.c (.str [])))] none [3,0]) (.seq (.seq (.region [oI 4 (.mov (.c (.int .i64 0)))] none [4,3,0]) (.block 0 (.loop [4,3,0] Zks))) Zi3)))
def Zid:Zax:=⟨[(.tmp 2)],ZfS⟩
theorem Zom:FC 18=some Zid:=by kernel_rfl
theorem Zih:Zid.body=ZfS:=rfl
theorem ZhN:Zid.res=[(.tmp 2)]:=rfl
noncomputable def ZhR (m:Nat) (tm:Tms) (σ:Za):Option (AVal×Za):=(ZaR m Zid (ZcE FC PR BY m Zi3 (W3 (ZbD 0) (evL FC PR BY m [4,3,0] Zks tm σ))))
end
section
end
section
def ZlB (id:Int):Prop:=id=1\/id=2\/id=3\/id=8\/id=9\/id=11\/id=17\/id=18\/id=26\/id=19\/id=21\/id=22\/id=23\/id=25\/id=24\/id=28\/id=31\/id=33\/id=34\/id=35\/id=39\/id=36\/id=37\/id=40\/id=41\/id=42\/id=38
instance (id:Int):Decidable (ZlB id):=by unfold ZlB;infer_instance
end
section
end
section
end
section
end
section
end
section
end
section
theorem wrap_i64 {n:Int} (h0:-9223372036854775808<=n) (h:n<=9223372036854775807):IntKind.i64.wrap n=n:=ZcZ h0 h
end
section
theorem Zr6 (σ:Za) (l:ZC) (k1 k2:IntKind) (lo hi:Int) (h0:0<=lo) (h1:lo<=hi) (h2:hi<=(l.length:Int)):ZcA σ 1 (.lst false (l.map Zr)) (some (.int k1 lo)) (some (.int k2 hi)) none=some (.lst false (((l.take hi.toNat).drop lo.toNat).map Zr),σ,{}):=by
 have hh:0<=hi:=by omega
 have h3:lo<=((hi.toNat:Nat):Int):=by omega
 have hk:=Zub l
 simp only [ZcA,ZaY,Zd9,XP,hh,h2,and_self,if_true,h0,h3,hk,XaB,W6,Xz,if_false,Xam,Xa0,List.map_drop]
end
section
end
section
end
section
end
section
end
section
end
section
theorem Zhh {xs:List AVal} (h:0 < xs.length):ZcD xs=.sl 0 0 0 xs.length:=by
 cases xs with
 | nil=>simp at h
 | cons x xs=>rfl
theorem ZfH {k:Nat} {xs:List AVal} (h:0 < xs.length):Zci k xs=[.row 0 k xs]:=by
 cases xs with
 | nil=>simp at h
 | cons x xs=>rfl
end
section
theorem Zxh (b:ZC) (n:Int) (h0:0<=n):E 19 [Zl b,.int .i64 n] []=some (Zl (b.take n.toNat),[]):=by
 rw [Zez (by rfl) Zx2]
 by_cases h:n < (b.length:Int)
 ·have hl:n<=(b.length:Int):=by omega
  simp -implicitDefEqProofs only [EQA,ZG,ZF,ZK,ZH,ZJ,ZD,ZQ,ZR,ZP,ZS,ZM,ZL,ZO,ZT,ZN,implies_true,forall_const,Xp,Xq,Xt,Xf,Xg,Xr,Xm,ZA,ZI,unA,Zt,Zx,unG,reduceCtorEq,Zk,decide_eq_true_eq,Xh,Xc,ite_self,↓reduceIte,Zv,ZB,gcT,gcA,Zj,Zf,Zd,Zg,Zm,Zb,Zn,Zh,Zp,Xe,Zk9,Zh8,ZlA,Zw,Zl,Zo,Zc,Zz,ZE,h0,h,hl,gt_iff_lt,Zry]
 ·have hl:b.take n.toNat=b:=Wq (by omega)
  simp -implicitDefEqProofs only [EQA,ZG,ZF,ZK,ZH,ZJ,ZD,ZQ,ZR,ZP,ZS,ZM,ZL,ZO,ZT,ZN,implies_true,forall_const,Xp,Xq,Xt,Xf,Xg,Xr,Xm,ZA,ZI,unA,Zt,Zx,unG,reduceCtorEq,Zk,decide_eq_true_eq,Xh,Xc,ite_self,↓reduceIte,Zv,ZB,gcT,gcA,Zj,Zf,Zd,Zg,Zm,Zb,Zn,Zh,Zp,Xe,Zk9,Zh8,ZlA,Zw,Zl,Zo,Zc,Zz,ZE,h,hl,gt_iff_lt]
theorem ZkR (σ:Za) (sq own:Nat) (view:Bool) (b:ZC) (n:Int) (h0:0<=n):Z7 E BY σ sq 19 own view [.lst false (b.map Zr),.int .i64 n]=some (.lst false ((b.take n.toNat).map Zr),σ,{}) :=
 ZjT (Zxh b n h0) (by kernel_rfl) (by simp -implicitDefEqProofs only [Zj2,Zi1,ZG,ZF,ZK,Zil,ZH,ZJ,Zjd,ZD,eq_self,implies_true,Xz,Zw,Zl,Zo,Zc,Zz,Zw]) (by simp -implicitDefEqProofs only [Zj2,Zi1,ZG,ZF,ZK,Zil,ZH,ZJ,Zjd,ZD,eq_self,implies_true,Xz,Zw,Zl,Zo,Zc,Zz,Zw]) rfl (fun _=>rfl) _ _ _ _
def Zcf (n lo hi:Int):Int:=lo+(if n.tmod (hi - lo+1) < 0 then n.tmod (hi - lo+1)+(hi - lo+1) else n.tmod (hi - lo+1))
theorem Zo0 (n:Int):E 20 [.int .i64 n,.int .i64 0,.int .i64 2] []=some (.int .i64 (Zcf n 0 2),[]):=by
 have w1:IntKind.i64.wrap (2 - 0)=2:=rfl
 have w2:IntKind.i64.wrap (2+1)=3:=rfl
 have hz:((3:Int)=0)=False:=by simp
 have hb:-3 < n.tmod 3/\n.tmod 3 < 3:=by
  have h1:=Int.tmod_lt_of_pos n (show (0:Int) < 3 by decide)
  have h2:=Int.lt_tmod_of_pos n (show (0:Int) < 3 by decide)
  omega
 unfold Zcf
 rw [show (2:Int) - 0+1=3 from rfl]
 rw [Zez (by rfl) Zwm]
 by_cases h:n.tmod 3 < 0
 ·have w3:IntKind.i64.wrap (n.tmod 3+3)=n.tmod 3+3:=ZcZ (by omega) (by omega)
  have w4:IntKind.i64.wrap (0+(n.tmod 3+3))=0+(n.tmod 3+3):=ZcZ (by omega) (by omega)
  simp -implicitDefEqProofs only [EQA,ZG,ZF,ZK,ZH,ZJ,ZD,ZQ,ZR,ZP,ZS,ZM,ZL,ZO,ZT,ZN,implies_true,forall_const,Xp,Xq,Xt,Xf,Xg,Xr,Xm,ZA,ZI,unA,Zt,Zx,unG,reduceCtorEq,Zk,decide_eq_true_eq,Xh,Xc,ite_self,↓reduceIte,Zv,ZB,gcT,gcA,Zj,Zf,Zd,Zg,Zm,Zb,Zn,Zh,Zp,Xe,ZkA,Zhe,ZlE,Zw,Zl,Zo,Zc,Zz,ZE,w1,w2,w3,w4,hz,h]
 ·have w4:IntKind.i64.wrap (0+n.tmod 3)=0+n.tmod 3:=ZcZ (by omega) (by omega)
  simp -implicitDefEqProofs only [EQA,ZG,ZF,ZK,ZH,ZJ,ZD,ZQ,ZR,ZP,ZS,ZM,ZL,ZO,ZT,ZN,implies_true,forall_const,Xp,Xq,Xt,Xf,Xg,Xr,Xm,ZA,ZI,unA,Zt,Zx,unG,reduceCtorEq,Zk,decide_eq_true_eq,Xh,Xc,ite_self,↓reduceIte,Zv,ZB,gcT,gcA,Zj,Zf,Zd,Zg,Zm,Zb,Zn,Zh,Zp,Xe,ZkA,Zhe,ZlE,Zw,Zl,Zo,Zc,Zz,ZE,w1,w2,w4,hz,h]
theorem Zkn (σ:Za) (sq own:Nat) (view:Bool) (n:Int):Z7 E BY σ sq 20 own view [.int .i64 n,.int .i64 0,.int .i64 2]=some (.int .i64 (Zcf n 0 2),σ,{}) :=
 ZjT (Zo0 n) (by kernel_rfl) rfl rfl rfl (fun _=>rfl) _ _ _ _
theorem Zk1 (n:Int):Zcf n 0 2=0\/Zcf n 0 2=1\/Zcf n 0 2=2:=by
 have h1:=Int.tmod_lt_of_pos n (show (0:Int) < 3 by decide)
 have h2:=Int.lt_tmod_of_pos n (show (0:Int) < 3 by decide)
 unfold Zcf
 rw [show (2:Int) - 0+1=3 from rfl]
 split <;> omega
end
section
def Zev (c:UInt8):UInt8:=UInt8.ofNat (97+c.toNat % 26)
def Zco (b:ZC):ZC:=(b.take 30).map Zev
theorem ZpN (c:UInt8):IntKind.u8.wrap (97+(c.toNat:Int).tmod 26)=((Zev c).toNat:Int):=by
 have h:(c.toNat:Int).tmod 26=((c.toNat % 26:Nat):Int):=by rw [Int.tmod_eq_emod_of_nonneg (by omega)];omega
 rw [h,IntKind.wrap_u8,Zev,UInt8.toNat_ofNat']
 omega
theorem Zm3 (b:ZC) (hb:b.length<=9223372036854775807):∀ (r:ZC) (i:Nat) (acc:ZC),(b.take 30).drop i=r->acc.length<=i->i<=30 ->
  ZhR 0 [(4,.int .i64 i),(3,.str acc),(0,.lst false (b.map Zr))] []=some (.str (acc++r.map Zev),[])
 | [],i,acc,h,ha,hi=>by
  rw [WD,X3] at h
  unfold ZhR
  rw [Za6]
  by_cases h1:(i:Int) < (b.length:Int)
  ·have h2:¬(i:Int) < 30:=by omega
   simp -implicitDefEqProofs only [EQA,ZG,ZF,ZK,ZH,ZJ,ZD,ZQ,ZR,ZP,ZS,ZM,ZL,ZO,ZT,ZN,implies_true,forall_const,Xp,Xq,Xt,Xf,Xg,Xr,Xm,ZA,ZI,unA,Zt,Zx,unG,reduceCtorEq,Zk,decide_eq_true_eq,Xh,Xc,ite_self,↓reduceIte,Zv,ZB,gcT,gcA,Zj,Zf,Zd,Zg,Zm,Zb,Zn,Zh,Zp,Xe,Zih,ZfS,ZhN,Zhx,Zf6,Zg5,Zfz,Zw,Zl,Zo,Zc,Zz,ZE,h1,h2]
  ·simp -implicitDefEqProofs only [EQA,ZG,ZF,ZK,ZH,ZJ,ZD,ZQ,ZR,ZP,ZS,ZM,ZL,ZO,ZT,ZN,implies_true,forall_const,Xp,Xq,Xt,Xf,Xg,Xr,Xm,ZA,ZI,unA,Zt,Zx,unG,reduceCtorEq,Zk,decide_eq_true_eq,Xh,Xc,ite_self,↓reduceIte,Zv,ZB,gcT,gcA,Zj,Zf,Zd,Zg,Zm,Zb,Zn,Zh,Zp,Xe,Zih,ZfS,ZhN,Zhx,Zf6,Zg5,Zfz,Zw,Zl,Zo,Zc,Zz,ZE,h1]
 | c::r,i,acc,h,ha,hi=>by
  have hd:=ZcI h
  have hlt:i < min 30 b.length:=by have:=hd.2.2;rwa [X3] at this
  have ih:=Zm3 b hb r (i+1) (acc++[Zev c]) hd.2.1 (by simp;omega) (by omega)
  have hat:b[i]?=some c:=by
   have:=hd.1
   rw [XQ] at this
   rw [if_pos (by omega)] at this
   exact this
  have h1:(i:Int) < (b.length:Int):=by omega
  have h2:(i:Int) < 30:=by omega
  have e1:=iad hat Zr (k:=1) rfl
  have hw:IntKind.i64.wrap ((i:Int)+1)=((i+1:Nat):Int):=by rw [ZcZ (by omega) (by omega)];rfl
  have hl:=ZpN c
  have hz:((26:Int)=0)=False:=by simp
  have k1:acc.length+1<=9223372036854775807:=by omega
  have hb2:Zd3 [AVal.int .u8 ((Zev c).toNat:Int)]=some [Zev c]:=by
   have:=ZE [Zev c];exact this
  rw [Ww,WF,<-Xu] at ih
  unfold ZhR at ih ⊢
  rw [Za6]
  simp -implicitDefEqProofs only [EQA,ZG,ZF,ZK,ZH,ZJ,ZD,ZQ,ZR,ZP,ZS,ZM,ZL,ZO,ZT,ZN,implies_true,forall_const,Xp,Xq,Xt,Xf,Xg,Xr,Xm,ZA,ZI,unA,Zt,Zx,unG,reduceCtorEq,Zk,decide_eq_true_eq,Xh,Xc,ite_self,↓reduceIte,Zv,ZB,gcT,gcA,Zj,Zf,Zd,Zg,Zm,Zb,Zn,Zh,Zp,Xe,Zih,ZfS,ZhN,Zhx,Zf6,Zg5,Zfz,Zw,Zl,Zo,Zc,Zz,ZE,h1,h2,e1,hw,hl,hz,k1,hb2,Zr,AVal.cells,Zae,viewAs,Zar,Zai,Zal,Zs,XN,Wl,XR]
  exact ih
theorem ZsF (b:ZC) (hb:b.length<=9223372036854775807):E 18 [Zl b] []=some (.str (Zco b),[]):=by
 have key:=Zm3 b hb (b.take 30) 0 [] rfl (XR _) (by omega)
 have z0:((0:Nat):Int)=0:=rfl
 rw [z0] at key
 unfold ZhR at key
 rw [Zez (by rfl) Zom]
 simp -implicitDefEqProofs only [EQA,ZG,ZF,ZK,ZH,ZJ,ZD,ZQ,ZR,ZP,ZS,ZM,ZL,ZO,ZT,ZN,implies_true,forall_const,Xp,Xq,Xt,Xf,Xg,Xr,Xm,ZA,ZI,unA,Zt,Zx,unG,reduceCtorEq,Zk,decide_eq_true_eq,Xh,Xc,ite_self,↓reduceIte,Zv,ZB,gcT,gcA,Zj,Zf,Zd,Zg,Zm,Zb,Zn,Zh,Zp,Xe,Zih,ZfS,ZhN,Zhx,Zf6,Zg5,Zfz,Zw,Zl,Zo,Zc,Zz,ZE,Zw]
 exact key
theorem ZfX (σ:Za) (sq own:Nat) (f:Bool) (b:ZC) (hb:b.length<=9223372036854775807):Z7 E BY σ sq 18 own true [.lst f (b.map Zr)]=some (.str (Zco b),σ,{}) :=
 ZmY (ZsF b hb) (by kernel_rfl) rfl rfl rfl (fun _=>rfl) _ _ _
structure ZeF where
 fmt:Int
 content:ZC
 corr:ZC
 users:ZC
def Zls (x:Int):Int:=IntKind.i64.wrap (((WM IntKind.i64.bits x &&& WM IntKind.i64.bits 1).toNat:Nat):Int)
def Zeb (u:ZC) (c:UInt8):ZcL:=⟨38,0,Zco [c],Zco u,[]⟩
def Zeo (p:ZeF):List ZcL :=
 (if p.fmt>=0 then [⟨1,Zls p.fmt,[],[],[]⟩] else [])++((if p.content.length > 0 then [⟨3,0,Zco p.content,[],[]⟩] else [])++(if p.corr.length > 0 then [⟨9,0,[],[],p.corr.take 30⟩] else []))
def ZdG (p:ZeF):List ZcL:=Zeo p++(p.users.take 4).map (Zeb p.users)
def lsT (i:Int):List AVal->Tms
 | []=>[(4,.int .i64 i),(3,.lst true []),(1,.ref 0 0)]
 | x::xs=>[(4,.int .i64 i),(3,.sl 0 0 0 (x::xs).length),(1,.ref 1 0)]
def lsH (b:ZV):List AVal->Za
 | []=>[b]
 | x::xs=>[.row 0 5 (x::xs),b]
def pC (p:ZeF):List AVal:=[.int .i64 p.fmt,.lst false (p.content.map Zr),.lst false (p.corr.map Zr),.lst false (p.users.map Zr)]
theorem Zio (i:Int) {X:List AVal} (h:0 < X.length):lsT i X=[(4,.int .i64 i),(3,.sl 0 0 0 X.length),(1,.ref 1 0)]:=by
 cases X with
 | nil=>simp at h
 | cons x xs=>rfl
theorem Zku (b:ZV) {X:List AVal} (h:0 < X.length):lsH b X=[.row 0 5 X,b]:=by
 cases X with
 | nil=>simp at h
 | cons x xs=>rfl
theorem Znp (p:ZeF) (hu:p.users.length<=9223372036854775807):∀ (r:ZC) (i:Nat) (acc:List ZcL),(p.users.take 4).drop i=r->acc.length<=3+i->i<=4 ->
  Zhr 0 (lsT i (acc.map Zc)) (lsH (.var (pC p)) (acc.map Zc))=some (ZcD ((acc++r.map (Zeb p.users)).map Zc),Zci 5 ((acc++r.map (Zeb p.users)).map Zc))
 | [],i,acc,h,ha,hi=>by
  rw [WD,X3] at h
  simp only [X0,X6]
  unfold Zhr pC
  rw [Za6]
  cases acc with
  | nil =>
   simp only [X0,ZgK,Ze4,lsT,lsH]
   by_cases h1:(i:Int) < (p.users.length:Int)
   ·have h2:¬(i:Int) < 4:=by omega
    simp -implicitDefEqProofs only [EQA,ZG,ZF,ZK,ZH,ZJ,ZD,ZQ,ZR,ZP,ZS,ZM,ZL,ZO,ZT,ZN,implies_true,forall_const,Xp,Xq,Xt,Xf,Xg,Xr,Xm,ZA,ZI,unA,Zt,Zx,unG,reduceCtorEq,Zk,decide_eq_true_eq,Xh,Xc,ite_self,↓reduceIte,Zv,ZB,gcT,gcA,Zj,Zf,Zd,Zg,Zm,Zb,Zn,Zh,Zp,Xe,Zfq,Zeg,Zfj,Zfo,Zel,Zfd,Zd8,Zw,Zl,Zo,Zc,Zz,ZE,h1,h2]
    try (simp [ZaD,gcA,Zj,Zf,ZX,Z5,Zd,Zg,Zm,Zb,Zn,ZW,Zi,Zh,Zp,Xe])
   ·simp -implicitDefEqProofs only [EQA,ZG,ZF,ZK,ZH,ZJ,ZD,ZQ,ZR,ZP,ZS,ZM,ZL,ZO,ZT,ZN,implies_true,forall_const,Xp,Xq,Xt,Xf,Xg,Xr,Xm,ZA,ZI,unA,Zt,Zx,unG,reduceCtorEq,Zk,decide_eq_true_eq,Xh,Xc,ite_self,↓reduceIte,Zv,ZB,gcT,gcA,Zj,Zf,Zd,Zg,Zm,Zb,Zn,Zh,Zp,Xe,Zfq,Zeg,Zfj,Zfo,Zel,Zfd,Zd8,Zw,Zl,Zo,Zc,Zz,ZE,h1]
    try (simp [ZaD,gcA,Zj,Zf,ZX,Z5,Zd,Zg,Zm,Zb,Zn,ZW,Zi,Zh,Zp,Xe])
  | cons a acc =>
   generalize hX:(a::acc).map Zc=X
   have hXp:0 < X.length:=by rw [<-hX];simp
   rw [Zhh hXp,ZfH hXp,Zio _ hXp,Zku _ hXp]
   by_cases h1:(i:Int) < (p.users.length:Int)
   ·have h2:¬(i:Int) < 4:=by omega
    simp -implicitDefEqProofs only [EQA,ZG,ZF,ZK,ZH,ZJ,ZD,ZQ,ZR,ZP,ZS,ZM,ZL,ZO,ZT,ZN,implies_true,forall_const,Xp,Xq,Xt,Xf,Xg,Xr,Xm,ZA,ZI,unA,Zt,Zx,unG,reduceCtorEq,Zk,decide_eq_true_eq,Xh,Xc,ite_self,↓reduceIte,Zv,ZB,gcT,gcA,Zj,Zf,Zd,Zg,Zm,Zb,Zn,Zh,Zp,Xe,Zfq,Zeg,Zfj,Zfo,Zel,Zfd,Zd8,Zw,Zl,Zo,Zc,Zz,ZE,h1,h2]
    try (simp [ZaD,gcA,Zj,Zf,ZX,Z5,Zd,Zg,Zm,Zb,Zn,ZW,Zi,Zh,Zp,Xe])
   ·simp -implicitDefEqProofs only [EQA,ZG,ZF,ZK,ZH,ZJ,ZD,ZQ,ZR,ZP,ZS,ZM,ZL,ZO,ZT,ZN,implies_true,forall_const,Xp,Xq,Xt,Xf,Xg,Xr,Xm,ZA,ZI,unA,Zt,Zx,unG,reduceCtorEq,Zk,decide_eq_true_eq,Xh,Xc,ite_self,↓reduceIte,Zv,ZB,gcT,gcA,Zj,Zf,Zd,Zg,Zm,Zb,Zn,Zh,Zp,Xe,Zfq,Zeg,Zfj,Zfo,Zel,Zfd,Zd8,Zw,Zl,Zo,Zc,Zz,ZE,h1]
    try (simp [ZaD,gcA,Zj,Zf,ZX,Z5,Zd,Zg,Zm,Zb,Zn,ZW,Zi,Zh,Zp,Xe])
 | c::r,i,acc,h,ha,hi=>by
  have hd:=ZcI h
  have hlt:i < min 4 p.users.length:=by have:=hd.2.2;rwa [X3] at this
  have ih:=Znp p hu r (i+1) (acc++[Zeb p.users c]) hd.2.1 (by simp;omega) (by omega)
  have hat:p.users[i]?=some c:=by
   have:=hd.1
   rw [XQ] at this
   rw [if_pos (by omega)] at this
   exact this
  have hsl:(p.users.take (i+1)).drop i=[c]:=by
   rw [List.drop_take]
   have : i+1 - i=1:=by omega
   rw [this]
   obtain ⟨hl,he⟩:=Xd.1 hat
   rw [WT hl,he]
   rfl
  have h1:(i:Int) < (p.users.length:Int):=by omega
  have h2:(i:Int) < 4:=by omega
  have hw:IntKind.i64.wrap ((i:Int)+1)=((i+1:Nat):Int):=by rw [ZcZ (by omega) (by omega)];rfl
  have hs:=fun σ k1 k2=>Zr6 σ p.users k1 k2 (i:Int) ((i+1:Nat):Int) (by omega) (by omega) (by omega)
  have t1:((i:Int)).toNat=i:=rfl
  have t2:(((i+1:Nat):Int)).toNat=i+1:=rfl
  rw [t1,t2,hsl] at hs
  have hP1:=fun σ sq own f=>ZfX σ sq own f [c] (by simp)
  have hP2:=fun σ sq own f=>ZfX σ sq own f p.users hu
  simp only [Xu,X0] at hP1 hs
  rw [Ww,WF,<-Xu] at ih
  generalize hR:acc++(c::r).map (Zeb p.users)=R at *
  unfold Zeb at ih
  unfold pC at ih ⊢
  generalize Zco [c]=U1 at *
  generalize Zco p.users=U2 at *
  unfold Zhr at ih ⊢
  rw [Za6]
  cases acc with
  | nil =>
   simp only [Wa,X0,Xu,lsT,lsH,Zc,Zz,Zl,Xx,XA,XF] at ih ⊢
   have hk:kOk 5 [AVal.agg [.int .i64 38,.int .i64 0,.str U1,.str U2,.lst false []]]=true:=rfl
   simp -implicitDefEqProofs only [EQA,ZG,ZF,ZK,ZH,ZJ,ZD,ZQ,ZR,ZP,ZS,ZM,ZL,ZO,ZT,ZN,implies_true,forall_const,Xp,Xq,Xt,Xf,Xg,Xr,Xm,ZA,ZI,unA,Zt,Zx,unG,reduceCtorEq,Zk,decide_eq_true_eq,Xh,Xc,ite_self,↓reduceIte,Zv,ZB,gcT,gcA,Zj,Zf,Zd,Zg,Zm,Zb,Zn,Zh,Zp,Xe,Zfq,Zeg,Zfj,Zfo,Zel,Zfd,Zd8,Zw,Zl,Zo,Zc,Zz,ZE,h1,h2,hw,hs,hP1,hP2,hk,Z6,AVal.cells,ZaE,ZaK,Zba,ZaI,X2,X8,Xi,Xo,Xx,XA,Za2,Za5,Za4,Za1,Za7,XC,XG,Zao,Zaw,Zau,ZaF,ZaT,ZaO,ZaU,ZaW,ZaA,ZaV,XK,XY,Xi,Xo,XH,Zae,viewAs,Zar,Zai,Zal,Zs,XN,Wl,XR,Xm,Xf]
   exact ih
  | cons a acc =>
   rw [Wc] at ih
   have hXl:((a::acc).map Zc).length=acc.length+1:=by simp
   simp only [Xx] at ha
   generalize hX:(a::acc).map Zc=X at *
   have hXp:0 < X.length:=by omega
   have hXq:0 < (X++[(⟨38,0,U1,U2,[]⟩:ZcL)].map Zc).length:=by rw [Xy];omega
   rw [Zio _ hXq,Zku _ hXq] at ih
   rw [Zio _ hXp,Zku _ hXp]
   simp only [Xu,X0,Zc,Zz,Zl,Xy,Xx,XA,XF] at ih
   have hk:kOk 5 [AVal.agg [.int .i64 38,.int .i64 0,.str U1,.str U2,.lst false []]]=true:=rfl
   have k2:(X.length+1)*72<=140737488355328:=by omega
   simp -implicitDefEqProofs only [EQA,ZG,ZF,ZK,ZH,ZJ,ZD,ZQ,ZR,ZP,ZS,ZM,ZL,ZO,ZT,ZN,implies_true,forall_const,Xp,Xq,Xt,Xf,Xg,Xr,Xm,ZA,ZI,unA,Zt,Zx,unG,reduceCtorEq,Zk,decide_eq_true_eq,Xh,Xc,ite_self,↓reduceIte,Zv,ZB,gcT,gcA,Zj,Zf,Zd,Zg,Zm,Zb,Zn,Zh,Zp,Xe,Zfq,Zeg,Zfj,Zfo,Zel,Zfd,Zd8,Zw,Zl,Zo,Zc,Zz,ZE,h1,h2,hw,hs,hP1,hP2,hk,k2,Z6,AVal.cells,ZaE,ZaK,Zba,ZaI,X2,X8,Xi,Xo,Xx,XA,Za2,Za5,Za4,Za1,Za7,XC,XG,Zao,Zaw,Zau,ZaF,ZaT,ZaO,ZaU,ZaW,ZaA,ZaV,XK,XY,Xi,Xo,XH,Zae,viewAs,Zar,Zai,Zal,Zs,XN,Wl,XR]
   exact ih
theorem ZzI (p:ZeF) (h1:p.content.length<=9223372036854775807) (h3:p.users.length<=9223372036854775807):E 21 [.agg (pC p)] []=some (ZcD ((ZdG p).map Zc),Zci 5 ((ZdG p).map Zc)):=by
 have hlen:(Zeo p).length<=3:=by
  unfold Zeo
  repeat' split
  all_goals simp
 have key:=Znp p h3 (p.users.take 4) 0 (Zeo p) rfl (by omega) (by omega)
 have hP:=fun σ sq own f=>ZfX σ sq own f p.content h1
 have hC:=fun σ sq own=>ZkR σ sq own true p.corr 30 (by omega)
 have z0:((0:Nat):Int)=0:=rfl
 have z30:(30:Int).toNat=30:=rfl
 rw [z30] at hC
 rw [z0] at key
 rw [show ZdG p=Zeo p++(p.users.take 4).map (Zeb p.users) from rfl]
 generalize hR:Zeo p++(p.users.take 4).map (Zeb p.users)=R at *
 unfold Zeo Zls at key
 unfold pC at key ⊢
 generalize Zco p.content=U1 at *
 generalize p.corr.take 30=U2 at *
 unfold Zhr at key
 have w1:kOk 5 [AVal.agg [.int .i64 1,.int .i64 (IntKind.i64.wrap (((WM IntKind.i64.bits p.fmt &&& WM IntKind.i64.bits 1).toNat:Nat):Int)),.str [],.str [],.lst false []]]=true:=rfl
 have w2:kOk 5 [AVal.agg [.int .i64 3,.int .i64 0,.str U1,.str [],.lst false []]]=true:=rfl
 have w3:kOk 5 [AVal.agg [.int .i64 9,.int .i64 0,.str [],.str [],.lst false (U2.map Zr)]]=true:=rfl
 by_cases c1:p.fmt>=0 <;> by_cases c2:(p.content.length:Int) > 0 <;> by_cases c3:(p.corr.length:Int) > 0
 all_goals (have d2:(p.content.length > 0)=((p.content.length:Int) > 0):=by simp)
 all_goals (have d3:(p.corr.length > 0)=((p.corr.length:Int) > 0):=by simp)
 all_goals simp only [c1,d2,c2,d3,c3,if_true,if_false,Wa,X6,WG,Xu,X0,lsT,lsH,Zc,Zz,Zl,Xx,XA,XF] at key
 all_goals clear d2 d3
 all_goals rw [Zez (by rfl) ZsO]
 all_goals simp -implicitDefEqProofs only [EQA,ZG,ZF,ZK,ZH,ZJ,ZD,ZQ,ZR,ZP,ZS,ZM,ZL,ZO,ZT,ZN,implies_true,forall_const,Xp,Xq,Xt,Xf,Xg,Xr,Xm,ZA,ZI,unA,Zt,Zx,unG,reduceCtorEq,Zk,decide_eq_true_eq,Xh,Xc,ite_self,↓reduceIte,Zv,ZB,gcT,gcA,Zj,Zf,Zd,Zg,Zm,Zb,Zn,Zh,Zp,Xe,Zfq,Zeg,Zfj,Zfo,Zel,Zfd,Zd8,Zw,Zl,Zo,Zc,Zz,ZE,c1,c2,c3,hP,hC,w1,w2,w3,Z6,AVal.cells,ZaE,ZaK,Zba,ZaI,X2,X8,Xi,Xo,Xx,XA,Za2,Za5,Za4,Za1,Za7,XC,XG,Zao,Zaw,Zau,ZaF,ZaT,ZaO,ZaU,ZaW,ZaA,ZaV,XK,XY,Xi,Xo,XH,Zae,viewAs,Zar,Zai,Zal,Zs,XN,Wl,XR,Xm,Xf]
 all_goals exact key
theorem Zru (σ:Za) (sq own:Nat) (p:ZeF) (h1:p.content.length<=9223372036854775807) (h3:p.users.length<=9223372036854775807):Z7 E BY σ sq 21 own true [.agg [.int .i64 p.fmt,.lst false (p.content.map Zr),.lst false (p.corr.map Zr),.lst false (p.users.map Zr)]]=some (.lst false ((ZdG p).map Zc),σ,{}) :=
 ZjY (k:=5) (ZzI p h1 h3) (by kernel_rfl) rfl rfl _ _ _
end
section
def Zzu (p:ZcL):Prop:=p.text.length<=9223372036854775807/\p.pair.length<=9223372036854775807/\p.data.length<=9223372036854775807
end
section
end
section
end
section
end
section
structure Zoi (n:Z3):Prop where
 topic:n.topic.length<=9223372036854775807
 payload:n.payload.length<=9223372036854775807
 sender:n.sender.length<=9223372036854775807
 props:n.props.length<=700000000
 tx:∀ p ∈ n.props,Zzu p
 dat:∀ p ∈ n.props,p.data.length<=140737488355328
end
section
end
section
structure ZeA where
 b:ZC
 short:Bool
end
section
end
section
structure ZAT where
 r1:ZC×ZeA
 r2:ZC×ZeA
 r3:ZC×ZeA
 r4:ZC×ZeA
 r5:ZC×ZeA
 r6:ZC×ZeA
 r7:ZC×ZeA
 r8:ZC×ZeA
end
section
end
section
structure ZAW (it:ZeR):Prop where
 note:Zoi it.note
 ids:it.ids.length<=1000000
 share:it.share.length<=9223372036854775807
end
section
def itC (n:Z3) (q:Int) (rt:Bool) (ids:AVal) (sh:ZC):List AVal:=[.str n.topic,.lst false (n.payload.map Zr),.int .i64 n.qos,.bool n.retain,.str n.sender,.int .i64 n.expires,.lst false (n.props.map Zc),.int .i64 n.origin,.int .i64 n.number,.int .i64 n.hops,.int .i64 q,.bool rt,ids,.str sh]
def itZ:List AVal:=[.str [],.lst true [],.int .i64 0,.bool false,.str [],.int .i64 0,.lst true [],.int .i64 0,.int .i64 0,.int .i64 0,.int .i64 0,.bool false,.lst true [],.str []]
end
section
def ZfM (x k:Int):Int:=IntKind.i64.wrap (((WM IntKind.i64.bits x &&& WM IntKind.i64.bits k).toNat:Nat):Int)
structure Zdu where
 topic:ZC
 sender:ZC
 share:ZC
 payload:ZC
 qos:Int
 sub:Int
 retain:Bool
 keep:Bool
 life:Int
 p:ZeF
 ids:List Int
 origin:Int
 number:Int
def mC (m:Zdu):List AVal:=[.lst false (m.topic.map Zr),.lst false (m.sender.map Zr),.lst false (m.share.map Zr),.lst false (m.payload.map Zr),.int .i64 m.qos,.int .i64 m.sub,.bool m.retain,.bool m.keep,.int .i64 m.life,.int .i64 m.p.fmt,.lst false (m.p.content.map Zr),.lst false (m.p.corr.map Zr),.lst false (m.p.users.map Zr),.lst false (m.ids.map (AVal.int .i64)),.int .i64 m.origin,.int .i64 m.number]
structure Zf4 (m:Zdu):Prop where
 topic:m.topic.length<=9223372036854775807
 sender:m.sender.length<=9223372036854775807
 share:m.share.length<=9223372036854775807
 content:m.p.content.length<=9223372036854775807
 users:m.p.users.length<=9223372036854775807
 ids:m.ids.length<=9223372036854775807
def Zey (x:Int):Int:=IntKind.i64.wrap (1+ZfM x 16777215)
def ZgS (m:Zdu):Z3:=⟨116::Zco m.topic,m.payload.take 300,Zcf m.qos 0 2,m.retain,Zco m.sender,if m.life > 0 then ZfM m.life 65535 else 0,ZdG m.p,ZfM m.origin 255,ZfM m.number 16777215,0⟩
def ZeU (m:Zdu):ZC:=if (m.share.length:Int) > 0 then [36,115,104,97,114,101,47,103,47]++Zco m.share else []
def ZaX (m:Zdu):ZeR:=⟨ZgS m,Zcf m.sub 0 2,m.keep,(m.ids.take 4).map Zey,ZeU m⟩
def itO (it:ZeR):AVal×Za:=(.agg (itC it.note it.qos it.retain (ZcD (it.ids.map (AVal.int .i64))) it.share),Zci 1 (it.ids.map (AVal.int .i64)))
def miT (i:Int):List AVal->Tms
 | []=>[(5,.int .i64 i),(4,.ref 0 0),(2,.ref 1 0),(1,.ref 2 0)]
 | _::_=>[(5,.int .i64 i),(4,.ref 0 0),(2,.ref 2 0),(1,.ref 3 0)]
def miH (n:Z3) (q:Int) (rt:Bool) (z b:ZV):List AVal->Za
 | []=>[.var (itC n q rt (.lst true []) []),z,b]
 | x::xs=>[.var (itC n q rt (.sl 1 0 0 (x::xs).length) []),.row 0 1 (x::xs),z,b]
theorem ZiU (i:Int) {X:List AVal} (h:0 < X.length):miT i X=[(5,.int .i64 i),(4,.ref 0 0),(2,.ref 2 0),(1,.ref 3 0)]:=by
 cases X with
 | nil=>simp at h
 | cons x xs=>rfl
theorem ZiI (n:Z3) (q:Int) (rt:Bool) (z b:ZV) {X:List AVal} (h:0 < X.length):miH n q rt z b X=[.var (itC n q rt (.sl 1 0 0 X.length) []),.row 0 1 X,z,b]:=by
 cases X with
 | nil=>simp at h
 | cons x xs=>rfl
theorem ZnN (b:ZC):(Zco b).length<=30:=by simp [Zco];omega
theorem ZqN (m:Zdu) (hm:Zf4 m) (n:Z3) (q:Int) (rt:Bool) (ids:List Int) (i:Int) (h:¬i < (m.ids.length:Int)\/¬i < 4) :
  ZgA 0 (miT i (ids.map (AVal.int .i64))) (miH n q rt (.var itZ) (.var (mC m)) (ids.map (AVal.int .i64)))=some (itO ⟨n,q,rt,ids,ZeU m⟩):=by
 have hP:=fun σ sq own f=>ZfX σ sq own f m.share hm.share
 have hl:=ZnN m.share
 have k1:9+(Zco m.share).length<=9223372036854775807:=by omega
 unfold itO ZeU
 simp only
 have hh:(if i < (m.ids.length:Int) then decide (i < 4) else false)=false:=by
  split
  ·rename_i h1
   have : ¬i < 4:=h.resolve_left (by simpa using h1)
   simp [this]
  ·rfl
 unfold ZgA
 rw [Za6]
 cases hids:ids.map (AVal.int .i64) with
 | nil =>
  rw [ZgK,Ze4]
  unfold miT miH itC itZ mC
  by_cases c0:i < (m.ids.length:Int)
  ·have c1:¬i < 4:=h.resolve_left (by simpa using c0)
   by_cases c2:(m.share.length:Int) > 0
   ·rw [if_pos c2]
    simp -implicitDefEqProofs only [EQA,ZG,ZF,ZK,ZH,ZJ,ZD,ZQ,ZR,ZP,ZS,ZM,ZL,ZO,ZT,ZN,implies_true,forall_const,Xp,Xq,Xt,Xf,Xg,Xr,Xm,ZA,ZI,unA,Zt,Zx,unG,reduceCtorEq,Zk,decide_eq_true_eq,Xh,Xc,ite_self,↓reduceIte,Zv,ZB,gcT,gcA,Zj,Zf,Zd,Zg,Zm,Zb,Zn,Zh,Zp,Xe,Zdm,Zc3,Zdb,Zdj,Zc1,Zdl,ZcY,Zw,Zl,Zo,Zc,Zz,ZE,c0,c1,c2,hP,k1,Z6,AVal.cells]
    try (simp [ZaD,gcA,Zj,Zf,ZX,Z5,Zd,Zg,Zm,Zb,Zn,ZW,Zi,Zh,Zp,Xe])
   ·rw [if_neg c2]
    simp -implicitDefEqProofs only [EQA,ZG,ZF,ZK,ZH,ZJ,ZD,ZQ,ZR,ZP,ZS,ZM,ZL,ZO,ZT,ZN,implies_true,forall_const,Xp,Xq,Xt,Xf,Xg,Xr,Xm,ZA,ZI,unA,Zt,Zx,unG,reduceCtorEq,Zk,decide_eq_true_eq,Xh,Xc,ite_self,↓reduceIte,Zv,ZB,gcT,gcA,Zj,Zf,Zd,Zg,Zm,Zb,Zn,Zh,Zp,Xe,Zdm,Zc3,Zdb,Zdj,Zc1,Zdl,ZcY,Zw,Zl,Zo,Zc,Zz,ZE,c0,c1,c2,Z6,AVal.cells]
    try (simp [ZaD,gcA,Zj,Zf,ZX,Z5,Zd,Zg,Zm,Zb,Zn,ZW,Zi,Zh,Zp,Xe])
  ·by_cases c2:(m.share.length:Int) > 0
   ·rw [if_pos c2]
    simp -implicitDefEqProofs only [EQA,ZG,ZF,ZK,ZH,ZJ,ZD,ZQ,ZR,ZP,ZS,ZM,ZL,ZO,ZT,ZN,implies_true,forall_const,Xp,Xq,Xt,Xf,Xg,Xr,Xm,ZA,ZI,unA,Zt,Zx,unG,reduceCtorEq,Zk,decide_eq_true_eq,Xh,Xc,ite_self,↓reduceIte,Zv,ZB,gcT,gcA,Zj,Zf,Zd,Zg,Zm,Zb,Zn,Zh,Zp,Xe,Zdm,Zc3,Zdb,Zdj,Zc1,Zdl,ZcY,Zw,Zl,Zo,Zc,Zz,ZE,c0,c2,hP,k1,Z6,AVal.cells]
    try (simp [ZaD,gcA,Zj,Zf,ZX,Z5,Zd,Zg,Zm,Zb,Zn,ZW,Zi,Zh,Zp,Xe])
   ·rw [if_neg c2]
    simp -implicitDefEqProofs only [EQA,ZG,ZF,ZK,ZH,ZJ,ZD,ZQ,ZR,ZP,ZS,ZM,ZL,ZO,ZT,ZN,implies_true,forall_const,Xp,Xq,Xt,Xf,Xg,Xr,Xm,ZA,ZI,unA,Zt,Zx,unG,reduceCtorEq,Zk,decide_eq_true_eq,Xh,Xc,ite_self,↓reduceIte,Zv,ZB,gcT,gcA,Zj,Zf,Zd,Zg,Zm,Zb,Zn,Zh,Zp,Xe,Zdm,Zc3,Zdb,Zdj,Zc1,Zdl,ZcY,Zw,Zl,Zo,Zc,Zz,ZE,c0,c2,Z6,AVal.cells]
    try (simp [ZaD,gcA,Zj,Zf,ZX,Z5,Zd,Zg,Zm,Zb,Zn,ZW,Zi,Zh,Zp,Xe])
 | cons x xs =>
  have hXp:0 < (x::xs).length:=by simp
  rw [Zhh hXp,ZfH hXp,ZiU _ hXp,ZiI _ _ _ _ _ hXp]
  generalize x::xs=X at *
  unfold itC itZ mC
  by_cases c0:i < (m.ids.length:Int)
  ·have c1:¬i < 4:=h.resolve_left (by simpa using c0)
   by_cases c2:(m.share.length:Int) > 0
   ·rw [if_pos c2]
    simp -implicitDefEqProofs only [EQA,ZG,ZF,ZK,ZH,ZJ,ZD,ZQ,ZR,ZP,ZS,ZM,ZL,ZO,ZT,ZN,implies_true,forall_const,Xp,Xq,Xt,Xf,Xg,Xr,Xm,ZA,ZI,unA,Zt,Zx,unG,reduceCtorEq,Zk,decide_eq_true_eq,Xh,Xc,ite_self,↓reduceIte,Zv,ZB,gcT,gcA,Zj,Zf,Zd,Zg,Zm,Zb,Zn,Zh,Zp,Xe,Zdm,Zc3,Zdb,Zdj,Zc1,Zdl,ZcY,Zw,Zl,Zo,Zc,Zz,ZE,c0,c1,c2,hP,k1,Z6,AVal.cells]
    try (simp [ZaD,gcA,Zj,Zf,ZX,Z5,Zd,Zg,Zm,Zb,Zn,ZW,Zi,Zh,Zp,Xe])
   ·rw [if_neg c2]
    simp -implicitDefEqProofs only [EQA,ZG,ZF,ZK,ZH,ZJ,ZD,ZQ,ZR,ZP,ZS,ZM,ZL,ZO,ZT,ZN,implies_true,forall_const,Xp,Xq,Xt,Xf,Xg,Xr,Xm,ZA,ZI,unA,Zt,Zx,unG,reduceCtorEq,Zk,decide_eq_true_eq,Xh,Xc,ite_self,↓reduceIte,Zv,ZB,gcT,gcA,Zj,Zf,Zd,Zg,Zm,Zb,Zn,Zh,Zp,Xe,Zdm,Zc3,Zdb,Zdj,Zc1,Zdl,ZcY,Zw,Zl,Zo,Zc,Zz,ZE,c0,c1,c2,Z6,AVal.cells]
    try (simp [ZaD,gcA,Zj,Zf,ZX,Z5,Zd,Zg,Zm,Zb,Zn,ZW,Zi,Zh,Zp,Xe])
  ·by_cases c2:(m.share.length:Int) > 0
   ·rw [if_pos c2]
    simp -implicitDefEqProofs only [EQA,ZG,ZF,ZK,ZH,ZJ,ZD,ZQ,ZR,ZP,ZS,ZM,ZL,ZO,ZT,ZN,implies_true,forall_const,Xp,Xq,Xt,Xf,Xg,Xr,Xm,ZA,ZI,unA,Zt,Zx,unG,reduceCtorEq,Zk,decide_eq_true_eq,Xh,Xc,ite_self,↓reduceIte,Zv,ZB,gcT,gcA,Zj,Zf,Zd,Zg,Zm,Zb,Zn,Zh,Zp,Xe,Zdm,Zc3,Zdb,Zdj,Zc1,Zdl,ZcY,Zw,Zl,Zo,Zc,Zz,ZE,c0,c2,hP,k1,Z6,AVal.cells]
    try (simp [ZaD,gcA,Zj,Zf,ZX,Z5,Zd,Zg,Zm,Zb,Zn,ZW,Zi,Zh,Zp,Xe])
   ·rw [if_neg c2]
    simp -implicitDefEqProofs only [EQA,ZG,ZF,ZK,ZH,ZJ,ZD,ZQ,ZR,ZP,ZS,ZM,ZL,ZO,ZT,ZN,implies_true,forall_const,Xp,Xq,Xt,Xf,Xg,Xr,Xm,ZA,ZI,unA,Zt,Zx,unG,reduceCtorEq,Zk,decide_eq_true_eq,Xh,Xc,ite_self,↓reduceIte,Zv,ZB,gcT,gcA,Zj,Zf,Zd,Zg,Zm,Zb,Zn,Zh,Zp,Xe,Zdm,Zc3,Zdb,Zdj,Zc1,Zdl,ZcY,Zw,Zl,Zo,Zc,Zz,ZE,c0,c2,Z6,AVal.cells]
    try (simp [ZaD,gcA,Zj,Zf,ZX,Z5,Zd,Zg,Zm,Zb,Zn,ZW,Zi,Zh,Zp,Xe])
theorem Zln (m:Zdu) (hm:Zf4 m) (n:Z3) (q:Int) (rt:Bool):∀ (r:List Int) (i:Nat) (ids:List Int),(m.ids.take 4).drop i=r->ids.length<=i->i<=4 ->
  ZgA 0 (miT i (ids.map (AVal.int .i64))) (miH n q rt (.var itZ) (.var (mC m)) (ids.map (AVal.int .i64)))=some (itO ⟨n,q,rt,ids++r.map Zey,ZeU m⟩)
 | [],i,ids,h,ha,hi=>by
  rw [WD,X3] at h
  rw [X0,X6]
  exact ZqN m hm n q rt ids i (by omega)
 | x::r,i,ids,h,ha,hi=>by
  have hd:=ZcI h
  have hlt:i < min 4 m.ids.length:=by have:=hd.2.2;rwa [X3] at this
  have ih:=Zln m hm n q rt r (i+1) (ids++[Zey x]) hd.2.1 (by simp;omega) (by omega)
  have hat:m.ids[i]?=some x:=by
   have:=hd.1
   rw [XQ] at this
   rw [if_pos (by omega)] at this
   exact this
  have h1:(i:Int) < (m.ids.length:Int):=by omega
  have h2:(i:Int) < 4:=by omega
  have e1:=iad hat (AVal.int .i64) (k:=1) rfl
  have hw:IntKind.i64.wrap ((i:Int)+1)=((i+1:Nat):Int):=by rw [ZcZ (by omega) (by omega)];rfl
  have hk:kOk 1 [AVal.int .i64 (Zey x)]=true:=rfl
  rw [Ww,WF,<-Xu] at ih
  generalize hR:itO ⟨n,q,rt,ids++(x::r).map Zey,ZeU m⟩=R at *
  have hXl:(ids.map (AVal.int .i64)).length=ids.length:=by simp
  rw [Wc,Xu,X0] at ih
  unfold Zey ZfM at ih hk
  unfold ZgA at ih ⊢
  rw [Za6]
  cases hids:ids.map (AVal.int .i64) with
  | nil =>
   rw [hids] at ih
   rw [Wa] at ih
   unfold miT miH itC itZ mC at ih ⊢
   simp only [Xx,XA,XF] at ih
   simp -implicitDefEqProofs only [EQA,ZG,ZF,ZK,ZH,ZJ,ZD,ZQ,ZR,ZP,ZS,ZM,ZL,ZO,ZT,ZN,implies_true,forall_const,Xp,Xq,Xt,Xf,Xg,Xr,Xm,ZA,ZI,unA,Zt,Zx,unG,reduceCtorEq,Zk,decide_eq_true_eq,Xh,Xc,ite_self,↓reduceIte,Zv,ZB,gcT,gcA,Zj,Zf,Zd,Zg,Zm,Zb,Zn,Zh,Zp,Xe,Zdm,Zc3,Zdb,Zdj,Zc1,Zdl,ZcY,Zw,Zl,Zo,Zc,Zz,ZE,h1,h2,e1,hw,hk,Z6,AVal.cells,ZaE,ZaK,Zba,ZaI,X2,X8,Xi,Xo,Xx,XA,Za2,Za5,Za4,Za1,Za7,XC,XG,Zao,Zaw,Zau,ZaF,ZaT,ZaO,ZaU,ZaW,ZaA,ZaV,XK,XY,Xi,Xo,XH,Zae,viewAs,Zar,Zai,Zal,Zs,XN,Wl,XR,Xm,Xf]
   exact ih
  | cons y ys =>
   rw [hids] at ih hXl
   have hXp:0 < (y::ys).length:=by simp
   rw [ZiU _ hXp,ZiI _ _ _ _ _ hXp]
   have hXq:∀ z:AVal,0 < (y::ys++[z]).length:=fun z=>by simp
   rw [ZiU _ (hXq _),ZiI _ _ _ _ _ (hXq _)] at ih
   generalize y::ys=X at *
   have k2:(X.length+1)*8<=140737488355328:=by omega
   unfold itC itZ mC at ih ⊢
   simp only [Xy,Xx,XA,XF] at ih
   simp -implicitDefEqProofs only [EQA,ZG,ZF,ZK,ZH,ZJ,ZD,ZQ,ZR,ZP,ZS,ZM,ZL,ZO,ZT,ZN,implies_true,forall_const,Xp,Xq,Xt,Xf,Xg,Xr,Xm,ZA,ZI,unA,Zt,Zx,unG,reduceCtorEq,Zk,decide_eq_true_eq,Xh,Xc,ite_self,↓reduceIte,Zv,ZB,gcT,gcA,Zj,Zf,Zd,Zg,Zm,Zb,Zn,Zh,Zp,Xe,Zdm,Zc3,Zdb,Zdj,Zc1,Zdl,ZcY,Zw,Zl,Zo,Zc,Zz,ZE,h1,h2,e1,hw,hk,k2,Z6,AVal.cells,ZaE,ZaK,Zba,ZaI,X2,X8,Xi,Xo,Xx,XA,Za2,Za5,Za4,Za1,Za7,XC,XG,Zao,Zaw,Zau,ZaF,ZaT,ZaO,ZaU,ZaW,ZaA,ZaV,XK,XY,Xi,Xo,XH,Zae,viewAs,Zar,Zai,Zal,Zs,XN,Wl,XR]
   exact ih
theorem Zye (m:Zdu) (hm:Zf4 m):E 6 [.agg (mC m)] []=some (itO (ZaX m)):=by
 have key:=Zln m hm (ZgS m) (Zcf m.sub 0 2) m.keep (m.ids.take 4) 0 [] rfl (XR _) (by omega)
 rw [Wa] at key
 rw [show ZaX m=⟨ZgS m,Zcf m.sub 0 2,m.keep,(m.ids.take 4).map Zey,ZeU m⟩ from rfl]
 generalize hR:itO ⟨ZgS m,Zcf m.sub 0 2,m.keep,(m.ids.take 4).map Zey,ZeU m⟩=R at *
 have h1:=fun σ sq own f=>ZfX σ sq own f m.topic hm.topic
 have h2:=fun σ sq own=>ZkR σ sq own true m.payload 300 (by omega)
 have h3:=fun σ sq own=>Zkn σ sq own true m.qos
 have h4:=fun σ sq own f=>ZfX σ sq own f m.sender hm.sender
 have h5:=fun σ sq own=>Zru σ sq own m.p hm.content hm.users
 have h6:=fun σ sq own=>Zkn σ sq own true m.sub
 have z0:((0:Nat):Int)=0:=rfl
 have z300:(300:Int).toNat=300:=rfl
 rw [z300] at h2
 have hl:=ZnN m.topic
 have k1:1+(Zco m.topic).length<=9223372036854775807:=by omega
 rw [z0] at key
 simp only [X0] at key
 unfold miT miH ZgS ZfM at key
 unfold itC itZ mC at key
 unfold mC
 unfold ZgA at key
 generalize Zco m.topic=U1 at *
 generalize Zco m.sender=U2 at *
 generalize m.payload.take 300=U3 at *
 generalize ZdG m.p=U4 at *
 generalize Zcf m.qos 0 2=U5 at *
 generalize Zcf m.sub 0 2=U6 at *
 rw [Zez (by rfl) Zqs]
 by_cases c:m.life > 0
 ·simp only [c,if_true] at key
  simp -implicitDefEqProofs only [EQA,ZG,ZF,ZK,ZH,ZJ,ZD,ZQ,ZR,ZP,ZS,ZM,ZL,ZO,ZT,ZN,implies_true,forall_const,Xp,Xq,Xt,Xf,Xg,Xr,Xm,ZA,ZI,unA,Zt,Zx,unG,reduceCtorEq,Zk,decide_eq_true_eq,Xh,Xc,ite_self,↓reduceIte,Zv,ZB,gcT,gcA,Zj,Zf,Zd,Zg,Zm,Zb,Zn,Zh,Zp,Xe,Zdm,Zc3,Zdb,Zdj,Zc1,Zdl,ZcY,Zw,Zl,Zo,Zc,Zz,ZE,h1,h2,h3,h4,h5,h6,k1,c,Z6,AVal.cells,ZaE,ZaK,Zba,ZaI,X2,X8,Xi,Xo,Xx,XA,Za2,Za5,Za4,Za1,Za7,XC,XG,Zao,Zaw,Zau,ZaF,ZaT,ZaO,ZaU,ZaW,ZaA,ZaV,XK,XY,Xi,Xo,XH,Zae,viewAs,Zar,Zai,Zal,Zs,XN,Wl,XR]
  exact key
 ·simp only [c,if_false] at key
  simp -implicitDefEqProofs only [EQA,ZG,ZF,ZK,ZH,ZJ,ZD,ZQ,ZR,ZP,ZS,ZM,ZL,ZO,ZT,ZN,implies_true,forall_const,Xp,Xq,Xt,Xf,Xg,Xr,Xm,ZA,ZI,unA,Zt,Zx,unG,reduceCtorEq,Zk,decide_eq_true_eq,Xh,Xc,ite_self,↓reduceIte,Zv,ZB,gcT,gcA,Zj,Zf,Zd,Zg,Zm,Zb,Zn,Zh,Zp,Xe,Zdm,Zc3,Zdb,Zdj,Zc1,Zdl,ZcY,Zw,Zl,Zo,Zc,Zz,ZE,h1,h2,h3,h4,h5,h6,k1,c,Z6,AVal.cells,ZaE,ZaK,Zba,ZaI,X2,X8,Xi,Xo,Xx,XA,Za2,Za5,Za4,Za1,Za7,XC,XG,Zao,Zaw,Zau,ZaF,ZaT,ZaO,ZaU,ZaW,ZaA,ZaV,XK,XY,Xi,Xo,XH,Zae,viewAs,Zar,Zai,Zal,Zs,XN,Wl,XR]
  exact key
theorem ZAH (it:ZeR):Zcz 0 (some (itO it))=some (.agg (itC it.note it.qos it.retain (.lst false (it.ids.map (AVal.int .i64))) it.share),[]):=by
 unfold itO
 cases it.ids with
 | nil =>
  simp [ZcD,Zci,itC,Zcz,viewR,Zar,Zal,Zai,Zs,gcA,Zj,Zf,ZX,Z5,ZW,Zi,Zg]
 | cons a l =>
  simp only [Xu,Zhd,ZgG]
  generalize AVal.int .i64 a::l.map (AVal.int .i64)=X
  simp [itC,Zcz,viewR,Zar,Zal,Zai,Zk,Zs,gcA,Zj,Zf,ZX,Z5,ZW,Zi,Zg]
theorem Zzc (σ:Za) (sq own:Nat) (m:Zdu) (hm:Zf4 m):Z7 E BY σ sq 6 own true [.agg (mC m)]=some (.agg [.str (ZaX m).note.topic,.lst false ((ZaX m).note.payload.map Zr),.int .i64 (ZaX m).note.qos,.bool (ZaX m).note.retain,.str (ZaX m).note.sender,.int .i64 (ZaX m).note.expires,.lst false ((ZaX m).note.props.map Zc),.int .i64 (ZaX m).note.origin,.int .i64 (ZaX m).note.number,.int .i64 (ZaX m).note.hops,.int .i64 (ZaX m).qos,.bool (ZaX m).retain,.lst false ((ZaX m).ids.map (.int .i64 ·)),.str (ZaX m).share],σ,{}):=by
 rw [ZeJ (by kernel_rfl) rfl]
 have hn:[AVal.agg (mC m)].map Zak=[.agg (mC m)]:=rfl
 rw [hn,Zye m hm]
 have : ZaM true 0 (some (itO (ZaX m)))=_:=(if_pos rfl).trans (ZAH _)
 rw [this]
 rw [Zge _ _ _ _ rfl]
 rfl
end
section
def Zbz (a b:Int):Int:=if b > a then b else a
def Zbq (a b:Int):Int:=if b < a then b else a
def Zfy (n:Z3) (k:Bool) (s:Zap):Bool:=if k then true else if n.retain then s.asPublished else false
def ZbR (subs:List Zap):List Int:=(subs.filter fun s=>s.id != 0).map (·.id)
def rbT (i:Int) (N:Nat) (S:AVal) (q:Int):List AVal->Tms
 | []=>[(18,.int .i64 i),(17,.int .i64 N),(16,S),(6,.int .i64 q),(5,.ref 0 0),(4,.ref 1 0),(2,.ref 2 0)]
 | _::_=>[(18,.int .i64 i),(17,.int .i64 N),(16,S),(6,.int .i64 q),(5,.ref 0 0),(4,.ref 2 0),(2,.ref 3 0)]
def rbI (n:Z3) (q:Int) (k:Bool) (x:AVal):List AVal:=[.str n.topic,.lst false (n.payload.map Zr),.int .i64 n.qos,.bool n.retain,.str n.sender,.int .i64 n.expires,.lst false (n.props.map Zc),.int .i64 n.origin,.int .i64 n.number,.int .i64 n.hops,.int .i64 q,.bool k,x,.str []]
def rbH (n:Z3) (k:Bool) (z:ZV):List AVal->Za
 | []=>[.var (rbI n 0 k (.lst true [])),z,.var (Zab n)]
 | x::xs=>[.var (rbI n 0 k (.sl 1 0 0 (x::xs).length)),.row 0 1 (x::xs),z,.var (Zab n)]
theorem Zhc (i:Int) (N:Nat) (S:AVal) (q:Int) {X:List AVal} (h:0 < X.length):rbT i N S q X=[(18,.int .i64 i),(17,.int .i64 N),(16,S),(6,.int .i64 q),(5,.ref 0 0),(4,.ref 2 0),(2,.ref 3 0)]:=by
 cases X with
 | nil=>simp at h
 | cons x xs=>rfl
theorem ZhK (n:Z3) (k:Bool) (z:ZV) {X:List AVal} (h:0 < X.length):rbH n k z X=[.var (rbI n 0 k (.sl 1 0 0 X.length)),.row 0 1 X,z,.var (Zab n)]:=by
 cases X with
 | nil=>simp at h
 | cons x xs=>rfl
def rbZ:List AVal:=[.str [],.lst true [],.int .i64 0,.bool false,.str [],.int .i64 0,.lst true [],.int .i64 0,.int .i64 0,.int .i64 0,.int .i64 0,.bool false,.lst true [],.str []]
def rbO (n:Z3) (q:Int) (k:Bool) (ids:List Int):AVal×Za:=(.agg (rbI n (Zbq n.qos q) k (ZcD ((Zb7 ids).map (AVal.int .i64)))),Zci 1 ((Zb7 ids).map (AVal.int .i64)))
theorem Znb (l:List Int):(Zb7 l).length=l.length:=XaJ l
theorem Zwv (n:Z3) (S:AVal) (N:Nat) (i q:Int) (k:Bool) (ids:List Int) (hi:ids.length < 4611686018427387904) (h:¬i < (N:Int)) :
  ZfG 0 (rbT i N S q (ids.map (AVal.int .i64))) (rbH n k (.var rbZ) (ids.map (AVal.int .i64)))=some (rbO n q k ids):=by
 unfold rbO
 have hsl:=Znb ids
 have hS:=fun {σ:Za} {t sq:Nat} hs=>ZtV ids hi (σ:=σ) (t:=t) (sq:=sq) hs
 unfold ZfG
 rw [Za6]
 cases hids:ids.map (AVal.int .i64) with
 | nil =>
  have h0:ids=[]:=by simpa using hids
  subst h0
  rw [show Zb7 []=[] from List.mergeSort_nil,X0,ZgK,Ze4]
  have hS0:=ZoI
  unfold rbT rbH rbI rbZ Zab Zbq
  generalize Zl n.payload=B1
  generalize Zo n.props=B2
  generalize n.payload.map Zr=L1
  generalize n.props.map Zc=L2
  simp -implicitDefEqProofs only [EQA,ZG,ZF,ZK,ZH,ZJ,ZD,ZQ,ZR,ZP,ZS,ZM,ZL,ZO,ZT,ZN,implies_true,forall_const,Xp,Xq,Xt,Xf,Xg,Xr,Xm,ZA,ZI,unA,Zt,Zx,unG,reduceCtorEq,Zk,decide_eq_true_eq,Xh,Xc,ite_self,↓reduceIte,Zv,ZB,gcT,gcA,Zj,Zf,Zd,Zg,Zm,Zb,Zn,Zh,Zp,Xe,Zbc,Za9,Zbh,Zbj,Zbb,Zbd,Za8,Zw,Zl,Zo,Zc,Zz,ZE,h,hS0,Z6,AVal.cells,Zy,Xi,Xo]
  try (simp [ZaD,gcA,Zj,Zf,ZX,Z5,Zd,Zg,Zm,Zb,Zn,ZW,Zi,Zh,Zp,Xe])
 | cons x xs =>
  have hXp:0 < (x::xs).length:=by simp
  have hXs:0 < ((Zb7 ids).map (AVal.int .i64)).length:=by rw [XP,hsl,<-XP (f:=AVal.int .i64),hids];exact hXp
  rw [Zhh hXs,ZfH hXs,Zhc _ _ _ _ hXp,ZhK _ _ _ hXp]
  have hl:(x::xs).length=ids.length:=by rw [<-hids,XP]
  rw [hids] at hS
  rw [XP,hsl,hl]
  generalize x::xs=X at *
  generalize (Zb7 ids).map (AVal.int .i64)=Y at *
  unfold rbI rbZ Zab Zbq
  generalize Zl n.payload=B1
  generalize Zo n.props=B2
  generalize n.payload.map Zr=L1
  generalize n.props.map Zc=L2
  simp -implicitDefEqProofs only [EQA,ZG,ZF,ZK,ZH,ZJ,ZD,ZQ,ZR,ZP,ZS,ZM,ZL,ZO,ZT,ZN,implies_true,forall_const,Xp,Xq,Xt,Xf,Xg,Xr,Xm,ZA,ZI,unA,Zt,Zx,unG,reduceCtorEq,Zk,decide_eq_true_eq,Xh,Xc,ite_self,↓reduceIte,Zv,ZB,gcT,gcA,Zj,Zf,Zd,Zg,Zm,Zb,Zn,Zh,Zp,Xe,Zbc,Za9,Zbh,Zbj,Zbb,Zbd,Za8,Zw,Zl,Zo,Zc,Zz,ZE,h,hS,Z6,AVal.cells,Zy,Xi,Xo]
  try (simp [ZaD,gcA,Zj,Zf,ZX,Z5,Zd,Zg,Zm,Zb,Zn,ZW,Zi,Zh,Zp,Xe])
def byQ (q:Int) (r:List Zap):Int:=r.foldl (fun q s=>Zbz q s.qos) q
def byK (n:Z3) (k:Bool) (r:List Zap):Bool:=r.foldl (Zfy n) k
theorem ZmA (s:Zap) (r:List Zap):ZbR (s::r)=(if s.id != 0 then [s.id] else [])++ZbR r:=by
 unfold ZbR
 rw [List.filter_cons]
 split
 ·rename_i h;simp
 ·rename_i h;simp
theorem Zmv (n:Z3) (subs:List Zap) (hN:subs.length<=1000000000):∀ (r:List Zap) (i:Nat) (q:Int) (k:Bool) (ids:List Int),subs.drop i=r->ids.length<=i->i<=subs.length ->
  ZfG 0 (rbT i subs.length (.lst false (subs.map Zbi)) q (ids.map (AVal.int .i64))) (rbH n k (.var rbZ) (ids.map (AVal.int .i64)))=some (rbO n (byQ q r) (byK n k r) (ids++ZbR r))
 | [],i,q,k,ids,h,hl,hi=>by
  have h1:=Zjy h
  rw [show ZbR []=[] from rfl,X6]
  have hb:ids.length < 4611686018427387904:=by omega
  exact Zwv n _ subs.length i q k ids hb h1
 | s::r,i,q,k,ids,h,hl,_=>by
  have hd:=ZcI h
  have ih:=Zmv n subs hN r (i+1) (Zbz q s.qos) (Zfy n k s) (ids++if s.id != 0 then [s.id] else []) hd.2.1 (by rw [Xy];split <;> simp <;> omega) (by have:=hd.2.2;omega)
  rw [Ww,<-ZmA] at ih
  change _=some (rbO n (byQ q (s::r)) (byK n k (s::r)) (ids++ZbR (s::r))) at ih
  generalize hR:rbO n (byQ q (s::r)) (byK n k (s::r)) (ids++ZbR (s::r))=R at *
  have h1:(i:Int) < (subs.length:Int):=by have:=hd.2.2;omega
  have e1:∀ (σ:Za) (b:Bool) (kk:IntKind),ZaN σ 6 (.lst b (subs.map Zbi)) (.int kk (i:Int))=some (.iptr [.str s.filter,.int .i64 s.qos,.bool s.noLocal,.bool s.asPublished,.int .i64 s.handling,.int .i64 s.id] 0,σ,{}):=fun σ b kk=>iad hd.1 Zbi (k:=6) rfl σ b kk
  have hw:IntKind.i64.wrap ((i:Int)+1)=((i+1:Nat):Int):=by rw [ZcZ (by omega) (by omega)];rfl
  have hXl:(ids.map (AVal.int .i64)).length=ids.length:=by simp
  have hk:∀ x:Int,kOk 1 [AVal.int .i64 x]=true:=fun _=>rfl
  unfold Zfy Zbz at ih
  have hil:i < subs.length:=hd.2.2
  clear hd h hR
  by_cases c:s.id=0
  ·have c1:(s.id != 0)=false:=by simp [c]
   simp only [c1,Xz,if_false,X6] at ih
   unfold ZfG at ih ⊢
   rw [Za6]
   cases hids:ids.map (AVal.int .i64) with
   | nil =>
    rw [hids] at ih
    unfold rbT rbH rbI rbZ Zab Zl Zo at ih ⊢
    generalize n.payload.map Zr=L1 at *
    generalize n.props.map Zc=L2 at *
    generalize subs.map Zbi=S at *
    generalize n.retain=rt at *
    cases k <;> cases rt
    all_goals
     simp only [if_true,Xz,if_false] at ih
     simp -implicitDefEqProofs only [EQA,ZG,ZF,ZK,ZH,ZJ,ZD,ZQ,ZR,ZP,ZS,ZM,ZL,ZO,ZT,ZN,implies_true,forall_const,Xp,Xq,Xt,Xf,Xg,Xr,Xm,ZA,ZI,unA,Zt,Zx,unG,reduceCtorEq,Zk,decide_eq_true_eq,Xh,Xc,ite_self,↓reduceIte,Zv,ZB,gcT,gcA,Zj,Zf,Zd,Zg,Zm,Zb,Zn,Zh,Zp,Xe,Zbc,Za9,Zbh,Zbj,Zbb,Zbd,Za8,Zw,Zl,Zo,Zc,Zz,ZE,h1,e1,hw,c1,Z6,AVal.cells,Zy,Xi,Xo,gt_iff_lt]
     exact ih
   | cons y ys =>
    rw [hids] at ih hXl
    have hXp:0 < (y::ys).length:=by simp
    rw [Zhc _ _ _ _ hXp,ZhK _ _ _ hXp] at ih ⊢
    generalize y::ys=X at *
    unfold rbI rbZ Zab Zl Zo at ih ⊢
    generalize n.payload.map Zr=L1 at *
    generalize n.props.map Zc=L2 at *
    generalize subs.map Zbi=S at *
    generalize n.retain=rt at *
    cases k <;> cases rt
    all_goals
     simp only [if_true,Xz,if_false] at ih
     simp -implicitDefEqProofs only [EQA,ZG,ZF,ZK,ZH,ZJ,ZD,ZQ,ZR,ZP,ZS,ZM,ZL,ZO,ZT,ZN,implies_true,forall_const,Xp,Xq,Xt,Xf,Xg,Xr,Xm,ZA,ZI,unA,Zt,Zx,unG,reduceCtorEq,Zk,decide_eq_true_eq,Xh,Xc,ite_self,↓reduceIte,Zv,ZB,gcT,gcA,Zj,Zf,Zd,Zg,Zm,Zb,Zn,Zh,Zp,Xe,Zbc,Za9,Zbh,Zbj,Zbb,Zbd,Za8,Zw,Zl,Zo,Zc,Zz,ZE,h1,e1,hw,c1,Z6,AVal.cells,Zy,Xi,Xo,gt_iff_lt]
     exact ih
  ·have c1:(s.id != 0)=true:=by simp [c]
   simp only [c1,if_true,Wc,Xu,X0] at ih
   unfold ZfG at ih ⊢
   rw [Za6]
   cases hids:ids.map (AVal.int .i64) with
   | nil =>
    rw [hids,Wa] at ih
    unfold rbT rbH rbI rbZ Zab Zl Zo at ih ⊢
    simp only [Xx,XA,XF] at ih
    generalize n.payload.map Zr=L1 at *
    generalize n.props.map Zc=L2 at *
    generalize subs.map Zbi=S at *
    generalize n.retain=rt at *
    cases k <;> cases rt
    all_goals
     simp only [if_true,Xz,if_false] at ih
     simp -implicitDefEqProofs only [EQA,ZG,ZF,ZK,ZH,ZJ,ZD,ZQ,ZR,ZP,ZS,ZM,ZL,ZO,ZT,ZN,implies_true,forall_const,Xp,Xq,Xt,Xf,Xg,Xr,Xm,ZA,ZI,unA,Zt,Zx,unG,reduceCtorEq,Zk,decide_eq_true_eq,Xh,Xc,ite_self,↓reduceIte,Zv,ZB,gcT,gcA,Zj,Zf,Zd,Zg,Zm,Zb,Zn,Zh,Zp,Xe,Zbc,Za9,Zbh,Zbj,Zbb,Zbd,Za8,Zw,Zl,Zo,Zc,Zz,ZE,h1,e1,hw,c1,hk,Zae,viewAs,Zar,Zai,Zal,Zs,XN,Wl,XR,Xm,Xf,Z6,AVal.cells,Zy,Xi,Xo,gt_iff_lt]
     exact ih
   | cons y ys =>
    rw [hids] at ih hXl
    have hXp:0 < (y::ys).length:=by simp
    have hXq:∀ z:AVal,0 < (y::ys++[z]).length:=fun z=>by simp
    rw [Zhc _ _ _ _ (hXq _),ZhK _ _ _ (hXq _)] at ih
    rw [Zhc _ _ _ _ hXp,ZhK _ _ _ hXp]
    generalize y::ys=X at *
    have k2:(X.length+1)*8<=140737488355328:=by omega
    unfold rbI rbZ Zab Zl Zo at ih ⊢
    simp only [Xy,Xx,XA,XF] at ih
    generalize n.payload.map Zr=L1 at *
    generalize n.props.map Zc=L2 at *
    generalize subs.map Zbi=S at *
    generalize n.retain=rt at *
    cases k <;> cases rt
    all_goals
     simp only [if_true,Xz,if_false] at ih
     simp -implicitDefEqProofs only [EQA,ZG,ZF,ZK,ZH,ZJ,ZD,ZQ,ZR,ZP,ZS,ZM,ZL,ZO,ZT,ZN,implies_true,forall_const,Xp,Xq,Xt,Xf,Xg,Xr,Xm,ZA,ZI,unA,Zt,Zx,unG,reduceCtorEq,Zk,decide_eq_true_eq,Xh,Xc,ite_self,↓reduceIte,Zv,ZB,gcT,gcA,Zj,Zf,Zd,Zg,Zm,Zb,Zn,Zh,Zp,Xe,Zbc,Za9,Zbh,Zbj,Zbb,Zbd,Za8,Zw,Zl,Zo,Zc,Zz,ZE,h1,e1,hw,c1,hk,k2,Zae,viewAs,Zar,Zai,Zal,Zs,XN,Wl,XR,Z6,AVal.cells,Zy,Xi,Xo,gt_iff_lt]
     exact ih
def byI (n:Z3) (subs:List Zap):ZeR:=⟨n,Zbq n.qos (byQ ((subs.map (·.qos)).headD 0) subs),byK n false subs,Zb7 (ZbR subs),[]⟩
theorem ZzH (n:Z3) (hn:ZdK n) (s:Zap) (r:List Zap) (hN:(s::r).length<=1000000000):E 22 [ZdE n,.lst false ((s::r).map Zbi)] []=some (rbO n (byQ s.qos (s::r)) (byK n false (s::r)) (ZbR (s::r))):=by
 have h:=Zmv n (s::r) hN (s::r) 0 s.qos false [] rfl (by simp) (by simp)
 have z:((0:Nat):Int)=0:=rfl
 rw [z,Wa,X0] at h
 have hC:=fun σ sq own=>ZzM n hn σ sq own
 have e1:∀ (σ:Za) (b:Bool) (kk:IntKind),ZaN σ 6 (.lst b ((s::r).map Zbi)) (.int kk 0)=some (.iptr [.str s.filter,.int .i64 s.qos,.bool s.noLocal,.bool s.asPublished,.int .i64 s.handling,.int .i64 s.id] 0,σ,{}):=fun σ b kk=>iad (l:=s::r) (i:=0) rfl Zbi (k:=6) rfl σ b kk
 have hl:((s::r).map Zbi).length=(s::r).length:=XP ..
 generalize hR:rbO n (byQ s.qos (s::r)) (byK n false (s::r)) (ZbR (s::r))=R at *
 generalize (s::r).map Zbi=S at *
 generalize (s::r).length=N at *
 unfold rbT rbH rbI rbZ Zab Zl Zo at h
 unfold ZdE Zab Zl Zo
 generalize n.payload.map Zr=L1 at *
 generalize n.props.map Zc=L2 at *
 unfold ZfG at h
 rw [Zez (by rfl) Ztj]
 simp -implicitDefEqProofs only [EQA,ZG,ZF,ZK,ZH,ZJ,ZD,ZQ,ZR,ZP,ZS,ZM,ZL,ZO,ZT,ZN,implies_true,forall_const,Xp,Xq,Xt,Xf,Xg,Xr,Xm,ZA,ZI,unA,Zt,Zx,unG,reduceCtorEq,Zk,decide_eq_true_eq,Xh,Xc,ite_self,↓reduceIte,Zv,ZB,gcT,gcA,Zj,Zf,Zd,Zg,Zm,Zb,Zn,Zh,Zp,Xe,Zbc,Za9,Zbh,Zbj,Zbb,Zbd,Za8,Zw,Zl,Zo,Zc,Zz,ZE,hC,e1,hl,Z6,AVal.cells,Zy,Xi,Xo]
 exact h
theorem Zlm (n:Z3) (hn:ZdK n) (s:Zap) (r:List Zap) (hN:(s::r).length<=1000000000) (σ:Za) (sq own:Nat):Z7 E BY σ sq 22 own true [.agg [.str n.topic,.lst false (n.payload.map Zr),.int .i64 n.qos,.bool n.retain,.str n.sender,.int .i64 n.expires,.lst false (n.props.map Zc),.int .i64 n.origin,.int .i64 n.number,.int .i64 n.hops],.lst false ((s::r).map Zbi)]=some (Zfu (byI n (s::r)),σ,{}):=by
 rw [ZeJ (by kernel_rfl) rfl]
 simp only [Xu,X0,Zak,ZaH]
 have h:=ZzH n hn s r hN
 unfold ZdE Zab Zl Zo at h
 rw [Xu] at h
 rw [h]
 have : ZaM true 0 (some (rbO n (byQ s.qos (s::r)) (byK n false (s::r)) (ZbR (s::r))))=some (Zfu (byI n (s::r)),[]):=by
  unfold rbO Zfu ZcO byI Zl Zo Zw
  simp only [Xu,Xa6]
  generalize Zb7 (ZbR (s::r))=ids
  cases hi:ids.map (AVal.int .i64) with
  | nil =>
   rw [ZgK,Ze4]
   simp [ZaM,Zcz,viewR,Zar,Zal,Zai,Zk,rbI,Zs,gcA,Zj,Zf,ZX,Z5,Zd,Zg,Zm,ZW,Zi]
  | cons x xs =>
   rw [Zhd,ZgG]
   simp [ZaM,Zcz,viewR,Zar,Zal,Zai,Zk,rbI,Zs,gcA,Zj,Zf,ZX,Z5,Zd,Zg,Zm,ZW,Zi]
 rw [this]
 simp [ZaC,Zfu,ZcO,Zl,Zo,Zw,Zbg,ZaS,ZaJ,Zdg,Zi,ZW]
end
section
structure Zan where
 client:ZC
 sub:Zap
 deriving DecidableEq
def ZU (h:Zan):AVal:=.agg [.str h.client,.str h.sub.filter,.int .i64 h.sub.qos,.bool h.sub.noLocal,.bool h.sub.asPublished,.int .i64 h.sub.handling,.int .i64 h.sub.id]
abbrev Grp:=List (ZC×List Zap)
def ZbI:Grp->ZC->Zap->Grp
 | [],c,s=>[(c,[s])]
 | (k,l)::r,c,s=>if c=k then (k,l++[s])::r else (k,l)::ZbI r c s
def ZbB (n:Z3) (h:Zan):Bool:=!h.sub.noLocal || h.client != n.sender || n.sender == []
def Zcr (n:Z3) (G:Grp) (hits:List Zan):Grp:=hits.foldl (fun G h=>if ZbB n h then ZbI G h.client h.sub else G) G
def gE (G:Grp):List (AVal×(List AVal ⊕ AVal)):=G.map fun p=>(AVal.str p.1,(Sum.inl (p.2.map Zbi):List AVal ⊕ AVal))
theorem Zjp (G:Grp):ZX ((gE G).map fun p=>Zi0 p.2)=[]:=by
 induction G with
 | nil=>rfl
 | cons p G ih=>simp only [gE,Xu,ZX,Zi0,Z5,Wa] at ih ⊢;exact ih
theorem ZiP (ρ:Rho) (G:Grp):((gE G).map fun p=>(p.1,p.2.map id (Zi ρ)))=gE G:=by
 unfold gE
 rw [WB]
 rfl
def Zcp (c:ZC):Grp->Nat->Option (Nat×List Zap)
 | [],_=>none
 | (k,l)::r,i=>if c=k then some (i,l) else Zcp c r (i+1)
theorem ZkC (c:ZC):∀ (G:Grp) (i:Nat),Zcs (.str c) (gE G) i=some ((Zcp c G i).map fun p=>(p.1,Sum.inl (p.2.map Zbi)))
 | [],i=>rfl
 | (k,l)::r,i=>by
  have ih:=ZkC c r (i+1)
  simp only [gE,Xu,Zcs,ZcT] at ih ⊢
  by_cases e:c=k
  ·subst e
   simp [Zcp]
  ·have : (c == k)=false:=by simpa using e
   simp only [this,Zcp,if_neg e]
   exact ih
theorem Zif {c:ZC} {s:Zap}:∀ {G:Grp} {i:Nat},Zcp c G i=none->ZbI G c s=G++[(c,[s])]
 | [],i,_=>rfl
 | (k,l)::r,i,h=>by
  simp only [Zcp] at h
  split at h
  ·cases h
  ·rename_i e
   simp only [ZbI,if_neg e,WG,Zif (s:=s) h]
theorem ZgO {c:ZC} {s:Zap}:∀ {G:Grp} {i j:Nat} {l:List Zap},Zcp c G i=some (j,l)->∃ j',j=i+j'/\G[j']?=some (c,l)/\ZbI G c s=G.set j' (c,l++[s])
 | [],i,j,l,h=>by simp [Zcp] at h
 | (k,m)::r,i,j,l,h=>by
  simp only [Zcp] at h
  split at h
  ·rename_i e;subst e
   simp only [Xa,Xb] at h
   obtain ⟨rfl,rfl⟩:=h
   exact ⟨0,rfl,rfl,by simp [ZbI]⟩
  ·rename_i e
   obtain ⟨j',h1,h2,h3⟩:=ZgO (s:=s) h
   exact ⟨j'+1,by omega,by simpa using h2,by simp only [ZbI,if_neg e,h3,W5]⟩
theorem Zmx (c:ZC) (v:AVal):∀ {G:Grp} {i j:Nat} {l:List Zap},Zcp c G i=some (i+j,l)->Zcs (.str c) ((gE G).set j (.str c,.inr v)) i=some (some (i+j,.inr v))
 | [],i,j,l,h=>by simp [Zcp] at h
 | (k,m)::r,i,j,l,h=>by
  simp only [Zcp] at h
  split at h
  ·rename_i e;subst e
   simp only [Xa,Xb] at h
   obtain ⟨h1,rfl⟩:=h
   have hj:j=0:=by omega
   subst hj
   simp [gE,Zcs,ZcT]
  ·rename_i e
   cases j with
   | zero =>
    obtain ⟨j',h1,_⟩:=ZgO (s:=⟨[],0,false,false,0,0⟩) h
    omega
   | succ j =>
    have ih:=Zmx c v (G:=r) (i:=i+1) (j:=j) (l:=l) (by rw [h];congr 2;omega)
    have hne:(c == k)=false:=by simpa using e
    simp only [gE,Xu,W5,Zcs,ZcT,hne] at ih ⊢
    rw [ih]
    congr 3
    omega
def plT (i:Int) (N:Nat) (S:AVal):Tms:=[(14,.int .i64 i),(13,.int .i64 N),(12,S),(5,.map 0),(2,.ref 1 0)]
theorem Zjq (n:Z3) (hits:List Zan) (hN:hits.length<=1000000000):∀ (r:List Zan) (i:Nat) (G:Grp),hits.drop i=r->(∀ p ∈ G,p.2.length<=i) ->
  ∃ tm',evL FC PR BY 0 [14,13,12,5,2] ZjQ (plT i hits.length (.lst false (hits.map ZU))) [.gmap 6 (gE G),.var (Zab n)]=some (.exit 0,tm',[.gmap 6 (gE (Zcr n G r)),.var (Zab n)])/\keepL [8,5,2] tm'=[(8,.top),(5,.map 0),(2,.ref 1 0)]
 | [],i,G,h,_=>by
  have h1:=Zjy h
  have hr:=Zjp G
  have hn:=fun ρ=>ZiP ρ G
  rw [show Zcr n G []=G from rfl]
  unfold plT Zab Zl Zo
  generalize gE G=M at *
  generalize hits.map ZU=S at *
  generalize n.payload.map Zr=L1 at *
  generalize n.props.map Zc=L2 at *
  refine ⟨[(15,.bool false),(14,.int .i64 i),(13,.int .i64 hits.length),(12,.lst false S),(5,.map 0),(2,.ref 1 0)],?_,rfl⟩
  rw [Za6]
  simp -implicitDefEqProofs only [EQA,ZG,ZF,ZK,ZH,ZJ,ZD,ZQ,ZR,ZP,ZS,ZM,ZL,ZO,ZT,ZN,implies_true,forall_const,Xp,Xq,Xt,Xf,Xg,Xr,Xm,ZA,ZI,unA,Zt,Zx,unG,reduceCtorEq,Zk,decide_eq_true_eq,Xh,Xc,ite_self,↓reduceIte,Zv,ZB,gcT,gcA,Zj,Zf,Zd,Zg,Zm,Zb,Zn,Zh,Zp,Xe,Zbc,Za9,Zbh,Zbj,Zbb,Zbd,Za8,Zw,Zl,Zo,Zc,Zz,ZE,h1,hr,hn,ZdA,Zdi]
 | s::r,i,G,h,hG=>by
  have hd:=ZcI h
  have h1:(i:Int) < (hits.length:Int):=by have:=hd.2.2;omega
  have e1:∀ (σ:Za) (b:Bool) (kk:IntKind),ZaN σ 7 (.lst b (hits.map ZU)) (.int kk (i:Int))=some (.iptr [.str s.client,.str s.sub.filter,.int .i64 s.sub.qos,.bool s.sub.noLocal,.bool s.sub.asPublished,.int .i64 s.sub.handling,.int .i64 s.sub.id] 0,σ,{}):=fun σ b kk=>iad hd.1 ZU (k:=7) rfl σ b kk
  have hw:IntKind.i64.wrap ((i:Int)+1)=((i+1:Nat):Int):=by rw [ZcZ (by omega) (by omega)];rfl
  have hr:=Zjp G
  have hn:=fun ρ=>ZiP ρ G
  have hil:i < hits.length:=hd.2.2
  by_cases hwn:ZbB n s=true
  ·have ih:=Zjq n hits hN r (i+1) (ZbI G s.client s.sub) hd.2.1 (by
    intro p hp
    cases hg:Zcp s.client G 0 with
    | none =>
     rw [Zif hg] at hp
     rcases Xv.1 hp with hp | hp
     ·have:=hG p hp;omega
     ·rw [XZ] at hp;subst hp;simp
    | some q =>
     obtain ⟨j',_,h2,h3⟩:=ZgO (s:=s.sub) (l:=q.2) (j:=q.1) hg
     rw [h3] at hp
     rcases X5 hp with hp | rfl
     ·have:=hG p hp;omega
     ·have:=hG _ (Xs h2);simp at this ⊢;omega)
   rw [show Zcr n G (s::r)=Zcr n (ZbI G s.client s.sub) r by simp [Zcr,hwn]]
   generalize gE (Zcr n (ZbI G s.client s.sub) r)=RES at *
   have hr2:=Zjp (ZbI G s.client s.sub)
   have hn2:=fun ρ=>ZiP ρ (ZbI G s.client s.sub)
   have hg0:=ZkC s.client G 0
   have hkd:Zaq (.str s.client)=2:=rfl
   cases hg:Zcp s.client G 0 with
   | none =>
    rw [hg,Option.map_none] at hg0
    have e2:gE (ZbI G s.client s.sub)=gE G++[(.str s.client,.inl [.agg [.str s.sub.filter,.int .i64 s.sub.qos,.bool s.sub.noLocal,.bool s.sub.asPublished,.int .i64 s.sub.handling,.int .i64 s.sub.id]])]:=by rw [Zif hg];simp [gE,Zbi]
    rw [e2] at hr2 hn2 ih
    clear hd h hG hg e2
    unfold plT Zab Zl Zo at ih ⊢
    generalize gE G=M at *
    generalize hits.map ZU=S at *
    generalize hits.length=N at *
    generalize n.payload.map Zr=L1 at *
    generalize n.props.map Zc=L2 at *
    obtain ⟨tm',ih1,ih2⟩:=ih
    refine ⟨tm',?_,ih2⟩
    rw [Za6]
    unfold ZbB at hwn
    cases hnl:s.sub.noLocal with
    | false =>
     rw [hnl] at e1 ih1 hr2 hn2
     simp -implicitDefEqProofs only [EQA,ZG,ZF,ZK,ZH,ZJ,ZD,ZQ,ZR,ZP,ZS,ZM,ZL,ZO,ZT,ZN,implies_true,forall_const,Xp,Xq,Xt,Xf,Xg,Xr,Xm,ZA,ZI,unA,Zt,Zx,unG,reduceCtorEq,Zk,decide_eq_true_eq,Xh,Xc,ite_self,↓reduceIte,Zv,ZB,gcT,gcA,Zj,Zf,Zd,Zg,Zm,Zb,Zn,Zh,Zp,Xe,Zbc,Za9,Zbh,Zbj,Zbb,Zbd,Za8,Zw,Zl,Zo,Zc,Zz,ZE,h1,e1,hw,hr,hn,hr2,hn2,hg0,hkd,ZdA,Zdi,Zdv,Z6,AVal.cells,Zy,Xi,Xo,Zcy,Zc0,ZcQ,ZcJ,ZbJ,Zae,kOk,viewAs,Zar,Zai,Zal,Zs,XN,Wl,ZaE]
     rw [ZaK _ _ _ _ _ _ _ (by rfl)]
     simp -implicitDefEqProofs only [EQA,ZG,ZF,ZK,ZH,ZJ,ZD,ZQ,ZR,ZP,ZS,ZM,ZL,ZO,ZT,ZN,implies_true,forall_const,Xp,Xq,Xt,Xf,Xg,Xr,Xm,ZA,ZI,unA,Zt,Zx,unG,reduceCtorEq,Zk,decide_eq_true_eq,Xh,Xc,ite_self,↓reduceIte,Zv,ZB,gcT,gcA,Zj,Zf,Zd,Zg,Zm,Zb,Zn,Zh,Zp,Xe,Zbc,Za9,Zbh,Zbj,Zbb,Zbd,Za8,Zw,Zl,Zo,Zc,Zz,ZE,h1,e1,hw,hr,hn,hr2,hn2,hg0,hkd,ZdA,Zdi,Zdv,Z6,AVal.cells,Zy,Xi,Xo,Zcy,Zc0,ZcQ,ZcJ,ZbJ,Zae,kOk,viewAs,Zar,Zai,Zal,Zs,XN,Wl,ZaE]
     exact ih1
    | true =>
     rw [hnl] at e1 ih1 hwn hr2 hn2
     have hc:(!s.client == n.sender || n.sender == [])=true:=by simpa [bne] using hwn
     simp -implicitDefEqProofs only [EQA,ZG,ZF,ZK,ZH,ZJ,ZD,ZQ,ZR,ZP,ZS,ZM,ZL,ZO,ZT,ZN,implies_true,forall_const,Xp,Xq,Xt,Xf,Xg,Xr,Xm,ZA,ZI,unA,Zt,Zx,unG,reduceCtorEq,Zk,decide_eq_true_eq,Xh,Xc,ite_self,↓reduceIte,Zv,ZB,gcT,gcA,Zj,Zf,Zd,Zg,Zm,Zb,Zn,Zh,Zp,Xe,Zbc,Za9,Zbh,Zbj,Zbb,Zbd,Za8,Zw,Zl,Zo,Zc,Zz,ZE,h1,e1,hw,hc,hr,hn,hr2,hn2,hg0,hkd,ZdA,Zdi,Zdv,Z6,AVal.cells,Zy,Xi,Xo,Zcy,Zc0,ZcQ,ZcJ,ZbJ,Zae,kOk,viewAs,Zar,Zai,Zal,Zs,XN,Wl,ZaE]
     rw [ZaK _ _ _ _ _ _ _ (by rfl)]
     simp -implicitDefEqProofs only [EQA,ZG,ZF,ZK,ZH,ZJ,ZD,ZQ,ZR,ZP,ZS,ZM,ZL,ZO,ZT,ZN,implies_true,forall_const,Xp,Xq,Xt,Xf,Xg,Xr,Xm,ZA,ZI,unA,Zt,Zx,unG,reduceCtorEq,Zk,decide_eq_true_eq,Xh,Xc,ite_self,↓reduceIte,Zv,ZB,gcT,gcA,Zj,Zf,Zd,Zg,Zm,Zb,Zn,Zh,Zp,Xe,Zbc,Za9,Zbh,Zbj,Zbb,Zbd,Za8,Zw,Zl,Zo,Zc,Zz,ZE,h1,e1,hw,hc,hr,hn,hr2,hn2,hg0,hkd,ZdA,Zdi,Zdv,Z6,AVal.cells,Zy,Xi,Xo,Zcy,Zc0,ZcQ,ZcJ,ZbJ,Zae,kOk,viewAs,Zar,Zai,Zal,Zs,XN,Wl,ZaE]
     exact ih1
   | some q =>
    obtain ⟨j,l⟩:=q
    rw [hg,XU] at hg0
    obtain ⟨j',hj,hq2,hq3⟩:=ZgO (s:=s.sub) hg
    have hj':j'=j:=by omega
    subst hj'
    have hll:=hG _ (Xs hq2)
    simp only at hll hg0
    have hg1:=fun v=>Zmx s.client v (G:=G) (i:=0) (j:=j') (l:=l) (by rw [hg,XF])
    rw [XF] at hg1
    have hgd:∀ d:AVal×(List AVal ⊕ AVal),((gE G).getD j' d).1=.str s.client:=by
     intro d
     simp [gE,Xj,hq2]
    have e2:gE (ZbI G s.client s.sub)=(gE G).set j' (.str s.client,.inl (l.map Zbi++[.agg [.str s.sub.filter,.int .i64 s.sub.qos,.bool s.sub.noLocal,.bool s.sub.asPublished,.int .i64 s.sub.handling,.int .i64 s.sub.id]])):=by rw [hq3];simp [gE,XaT,Zbi]
    rw [e2] at hr2 hn2 ih
    have hXl:(l.map Zbi).length=l.length:=XP ..
    have hb:(l.length+1)*48<=140737488355328:=by omega
    have hlt:l.length < l.length+1:=by omega
    clear hd h hG hg e2 hq2 hq3 hj
    generalize l.map Zbi=L at *
    have hXl2:∀ x:AVal,(L++[x]).length=l.length+1:=fun x=>by rw [Xy,hXl];rfl
    have htk:∀ x:AVal,(L++[x]).take (l.length+1)=L++[x]:=fun x=>by rw [<-hXl2 x,List.take_length]
    unfold plT Zab Zl Zo at ih ⊢
    generalize gE G=M at *
    generalize hits.map ZU=S at *
    generalize hits.length=N at *
    generalize n.payload.map Zr=L1 at *
    generalize n.props.map Zc=L2 at *
    obtain ⟨tm',ih1,ih2⟩:=ih
    refine ⟨tm',?_,ih2⟩
    rw [Za6]
    unfold ZbB at hwn
    cases hnl:s.sub.noLocal with
    | false =>
     rw [hnl] at e1 ih1 hr2 hn2
     simp -implicitDefEqProofs only [EQA,ZG,ZF,ZK,ZH,ZJ,ZD,ZQ,ZR,ZP,ZS,ZM,ZL,ZO,ZT,ZN,implies_true,forall_const,Xp,Xq,Xt,Xf,Xg,Xr,Xm,ZA,ZI,unA,Zt,Zx,unG,reduceCtorEq,Zk,decide_eq_true_eq,Xh,Xc,ite_self,↓reduceIte,Zv,ZB,gcT,gcA,Zj,Zf,Zd,Zg,Zm,Zb,Zn,Zh,Zp,Xe,Zbc,Za9,Zbh,Zbj,Zbb,Zbd,Za8,Zw,Zl,Zo,Zc,Zz,ZE,h1,e1,hw,hr,hn,hr2,hn2,hg0,hkd,ZdA,Zdi,Zdv,Z6,AVal.cells,Zy,Xi,Xo,Zcy,Zc0,ZcQ,ZcJ,ZbJ,Zae,kOk,viewAs,Zar,Zai,Zal,Zs,XN,Wl,ZaE,hg1,hgd,hXl,hXl2,hb,htk,XaH,XR]
     rw [ZaK _ _ _ _ _ _ _ (by rfl)]
     simp -implicitDefEqProofs only [EQA,ZG,ZF,ZK,ZH,ZJ,ZD,ZQ,ZR,ZP,ZS,ZM,ZL,ZO,ZT,ZN,implies_true,forall_const,Xp,Xq,Xt,Xf,Xg,Xr,Xm,ZA,ZI,unA,Zt,Zx,unG,reduceCtorEq,Zk,decide_eq_true_eq,Xh,Xc,ite_self,↓reduceIte,Zv,ZB,gcT,gcA,Zj,Zf,Zd,Zg,Zm,Zb,Zn,Zh,Zp,Xe,Zbc,Za9,Zbh,Zbj,Zbb,Zbd,Za8,Zw,Zl,Zo,Zc,Zz,ZE,h1,e1,hw,hr,hn,hr2,hn2,hg0,hkd,ZdA,Zdi,Zdv,Z6,AVal.cells,Zy,Xi,Xo,Zcy,Zc0,ZcQ,ZcJ,ZbJ,Zae,kOk,viewAs,Zar,Zai,Zal,Zs,XN,Wl,ZaE,hg1,hgd,hXl,hXl2,hb,htk,XaH,XR]
     exact ih1
    | true =>
     rw [hnl] at e1 ih1 hwn hr2 hn2
     have hc:(!s.client == n.sender || n.sender == [])=true:=by simpa [bne] using hwn
     simp -implicitDefEqProofs only [EQA,ZG,ZF,ZK,ZH,ZJ,ZD,ZQ,ZR,ZP,ZS,ZM,ZL,ZO,ZT,ZN,implies_true,forall_const,Xp,Xq,Xt,Xf,Xg,Xr,Xm,ZA,ZI,unA,Zt,Zx,unG,reduceCtorEq,Zk,decide_eq_true_eq,Xh,Xc,ite_self,↓reduceIte,Zv,ZB,gcT,gcA,Zj,Zf,Zd,Zg,Zm,Zb,Zn,Zh,Zp,Xe,Zbc,Za9,Zbh,Zbj,Zbb,Zbd,Za8,Zw,Zl,Zo,Zc,Zz,ZE,h1,e1,hw,hc,hr,hn,hr2,hn2,hg0,hkd,ZdA,Zdi,Zdv,Z6,AVal.cells,Zy,Xi,Xo,Zcy,Zc0,ZcQ,ZcJ,ZbJ,Zae,kOk,viewAs,Zar,Zai,Zal,Zs,XN,Wl,ZaE,hg1,hgd,hXl,hXl2,hb,htk,XaH,XR]
     rw [ZaK _ _ _ _ _ _ _ (by rfl)]
     simp -implicitDefEqProofs only [EQA,ZG,ZF,ZK,ZH,ZJ,ZD,ZQ,ZR,ZP,ZS,ZM,ZL,ZO,ZT,ZN,implies_true,forall_const,Xp,Xq,Xt,Xf,Xg,Xr,Xm,ZA,ZI,unA,Zt,Zx,unG,reduceCtorEq,Zk,decide_eq_true_eq,Xh,Xc,ite_self,↓reduceIte,Zv,ZB,gcT,gcA,Zj,Zf,Zd,Zg,Zm,Zb,Zn,Zh,Zp,Xe,Zbc,Za9,Zbh,Zbj,Zbb,Zbd,Za8,Zw,Zl,Zo,Zc,Zz,ZE,h1,e1,hw,hc,hr,hn,hr2,hn2,hg0,hkd,ZdA,Zdi,Zdv,Z6,AVal.cells,Zy,Xi,Xo,Zcy,Zc0,ZcQ,ZcJ,ZbJ,Zae,kOk,viewAs,Zar,Zai,Zal,Zs,XN,Wl,ZaE,hg1,hgd,hXl,hXl2,hb,htk,XaH,XR]
     exact ih1
  ·have ih:=Zjq n hits hN r (i+1) G hd.2.1 (fun p hp=>by have:=hG p hp;omega)
   rw [show Zcr n G (s::r)=Zcr n G r by simp [Zcr,hwn]]
   generalize gE (Zcr n G r)=RES at *
   clear hd h hG
   unfold plT Zab Zl Zo at ih ⊢
   generalize gE G=M at *
   generalize hits.map ZU=S at *
   generalize hits.length=N at *
   generalize n.payload.map Zr=L1 at *
   generalize n.props.map Zc=L2 at *
   obtain ⟨tm',ih1,ih2⟩:=ih
   refine ⟨tm',?_,ih2⟩
   rw [Za6]
   unfold ZbB at hwn
   have c0:s.sub.noLocal=true:=by cases hh:s.sub.noLocal <;> simp_all
   rw [c0] at e1 hwn
   have c1:(!s.client == n.sender || n.sender == [])=false:=by simpa [bne] using hwn
   simp -implicitDefEqProofs only [EQA,ZG,ZF,ZK,ZH,ZJ,ZD,ZQ,ZR,ZP,ZS,ZM,ZL,ZO,ZT,ZN,implies_true,forall_const,Xp,Xq,Xt,Xf,Xg,Xr,Xm,ZA,ZI,unA,Zt,Zx,unG,reduceCtorEq,Zk,decide_eq_true_eq,Xh,Xc,ite_self,↓reduceIte,Zv,ZB,gcT,gcA,Zj,Zf,Zd,Zg,Zm,Zb,Zn,Zh,Zp,Xe,Zbc,Za9,Zbh,Zbj,Zbb,Zbd,Za8,Zw,Zl,Zo,Zc,Zz,ZE,h1,e1,hw,c1,hr,hn,ZdA,Zdi,Zdv,Z6,AVal.cells,Zy,Xi,Xo]
   exact ih1
end
section
def fE (p:ZC×List Zap):AVal×AVal:=(.str p.1,.lst false (p.2.map Zbi))
def Z2 (n:Z3) (p:ZC×List Zap):AVal:=.agg (.str p.1::ZcO (byI n p.2))
theorem ZkI:∀ G:Grp,ZdW (gE G)=some (G.map fE)
 | []=>rfl
 | p::G=>by
  have ih:=ZkI G
  simp only [gE,Xu,ZdW] at ih ⊢
  rw [ih]
  rfl
theorem Zjb (G:Grp):ZX ((G.map fE).map (·.2))=[]:=by
 induction G with
 | nil=>rfl
 | cons p G ih=>simp only [Xu,fE,ZX,Z5,Wa] at ih ⊢;exact ih
theorem ZiX (ρ:Rho) (G:Grp):(G.map fE).map (fun p=>(p.1,Zi ρ p.2))=G.map fE:=by
 rw [WB]
 apply WS
 intro p _
 rfl
theorem Zmb (G:Grp) (n:Nat):∀ p ∈ G.map fE,Zg3 n p.2=true:=by
 intro p hp
 obtain ⟨x,_,rfl⟩:=XJ.1 hp
 rfl
theorem ZAf (n:Z3) (hn:ZdK n) (G:Grp) (c:ZC) (s:Zap) (r:List Zap) (hN:(s::r).length<=1000000000) (tm:Tms) (σ:Za) (h:gcT 0 (keepL [46,8,2] tm) σ=([(46,.map 0),(8,.lst true []),(2,.ref 1 0)],[.map (G.map fE),.var (Zab n)])) :
  Zem FC PR BY 0 [46,8,2] 46 50 3 Zc8 c2P (G.map fE) (fE (c,s::r)) tm σ=some ([(46,.map 0),(8,.sl 2 0 0 1),(2,.ref 1 0)],[.map (G.map fE),.var (Zab n),.row 0 15 [Z2 n (c,s::r)]]):=by
 have hk:=eq_true (Zmb G 2)
 have hC:=fun σ sq own=>Zlm n hn s r hN σ sq own
 have hfe:fE (c,s::r)=(.str c,.lst false ((s::r).map Zbi)):=rfl
 unfold Zem
 rw [h]
 unfold Z2
 rw [hfe]
 simp only
 generalize byI n (s::r)=it at *
 generalize (s::r).map Zbi=S at *
 generalize G.map fE=M at *
 unfold Zab Zfu ZcO Zl Zo Zw at *
 generalize n.payload.map Zr=L1 at *
 generalize n.props.map Zc=L2 at *
 generalize it.note.payload.map Zr=L3 at *
 generalize it.note.props.map Zc=L4 at *
 generalize it.ids.map (AVal.int .i64)=L5 at *
 simp -implicitDefEqProofs only [EQA,ZG,ZF,ZK,ZH,ZJ,ZD,ZQ,ZR,ZP,ZS,ZM,ZL,ZO,ZT,ZN,implies_true,forall_const,Xp,Xq,Xt,Xf,Xg,Xr,Xm,ZA,ZI,unA,Zt,Zx,unG,reduceCtorEq,Zk,decide_eq_true_eq,Xh,Xc,ite_self,↓reduceIte,Zv,ZB,gcT,gcA,Zj,Zf,Zd,Zg,Zm,Zb,Zn,Zh,Zp,Xe,Zbc,Za9,Zbh,Zbj,Zbb,Zbd,Za8,Zw,Zl,Zo,Zc,Zz,ZE,hk,hC,ZeE,Zc8,c2P,ZhC,Z6,Zbe,AVal.cells,ZdM,ZdH,Zae,kOk,viewAs,Zar,Zai,Zal,Zs,XN,Wl,ZaN,Ze3]
theorem ZqU (n:Z3) (hn:ZdK n) (G:Grp) (c:ZC) (s:Zap) (r:List Zap) (hN:(s::r).length<=1000000000) (tm:Tms) (σ:Za) (k:Nat) (xs:List AVal) (hx:xs.length=k) (hb:(k+1)*200<=140737488355328) (h:gcT 0 (keepL [46,8,2] tm) σ=([(46,.map 0),(8,.sl 1 0 0 k),(2,.ref 2 0)],[.map (G.map fE),.row 0 15 xs,.var (Zab n)])) :
  Zem FC PR BY 0 [46,8,2] 46 50 3 Zc8 c2P (G.map fE) (fE (c,s::r)) tm σ=some ([(46,.map 0),(8,.sl 1 1 0 (k+1)),(2,.ref 2 0)],[.map (G.map fE),.row 1 15 (xs++[Z2 n (c,s::r)]),.var (Zab n),.free]):=by
 have hk:=eq_true (Zmb G 3)
 have hC:=fun σ sq own=>Zlm n hn s r hN σ sq own
 have hfe:fE (c,s::r)=(.str c,.lst false ((s::r).map Zbi)):=rfl
 unfold Zem
 rw [h]
 unfold Z2
 rw [hfe]
 simp only
 generalize byI n (s::r)=it at *
 generalize (s::r).map Zbi=S at *
 generalize G.map fE=M at *
 unfold Zab Zfu ZcO Zl Zo Zw at *
 generalize n.payload.map Zr=L1 at *
 generalize n.props.map Zc=L2 at *
 generalize it.note.payload.map Zr=L3 at *
 generalize it.note.props.map Zc=L4 at *
 generalize it.ids.map (AVal.int .i64)=L5 at *
 simp -implicitDefEqProofs only [EQA,ZG,ZF,ZK,ZH,ZJ,ZD,ZQ,ZR,ZP,ZS,ZM,ZL,ZO,ZT,ZN,implies_true,forall_const,Xp,Xq,Xt,Xf,Xg,Xr,Xm,ZA,ZI,unA,Zt,Zx,unG,reduceCtorEq,Zk,decide_eq_true_eq,Xh,Xc,ite_self,↓reduceIte,Zv,ZB,gcT,gcA,Zj,Zf,Zd,Zg,Zm,Zb,Zn,Zh,Zp,Xe,Zbc,Za9,Zbh,Zbj,Zbb,Zbd,Za8,Zw,Zl,Zo,Zc,Zz,ZE,hk,hC,hx,hb,ZeE,Zc8,c2P,ZhC,Z6,Zbe,AVal.cells,ZdM,ZdH,Zae,kOk,viewAs,Zar,Zai,Zal,Zs,XN,Wl,ZaN,Ze3]
theorem Zze (n:Z3) (G:Grp) (g k:Nat) (xs:List AVal):gcT 0 (keepL [46,8,2] [(46,.map 0),(8,.sl 1 g 0 k),(2,.ref 2 0)]) [.map (G.map fE),.row g 15 xs,.var (Zab n),.free]=([(46,.map 0),(8,.sl 1 0 0 k),(2,.ref 2 0)],[.map (G.map fE),.row 0 15 xs,.var (Zab n)]):=by
 have hr:=Zjb G
 have hm:=fun ρ=>ZiX ρ G
 generalize G.map fE=M at *
 unfold Zab Zl Zo
 generalize n.payload.map Zr=L1 at *
 generalize n.props.map Zc=L2 at *
 simp -implicitDefEqProofs only [EQA,ZG,ZF,ZK,ZH,ZJ,ZD,ZQ,ZR,ZP,ZS,ZM,ZL,ZO,ZT,ZN,implies_true,forall_const,Xp,Xq,Xt,Xf,Xg,Xr,Xm,ZA,ZI,unA,Zt,Zx,unG,reduceCtorEq,Zk,decide_eq_true_eq,Xh,Xc,ite_self,↓reduceIte,Zv,ZB,gcT,gcA,Zj,Zf,Zd,Zg,Zm,Zb,Zn,Zh,Zp,Xe,Zbc,Za9,Zbh,Zbj,Zbb,Zbd,Za8,Zw,Zl,Zo,Zc,Zz,ZE,hr,hm]
theorem Zr1 (n:Z3) (G:Grp) (k:Nat) (xs:List AVal):gcT 0 (keepL [46,8,2] [(46,.map 0),(8,.sl 2 0 0 k),(2,.ref 1 0)]) [.map (G.map fE),.var (Zab n),.row 0 15 xs]=([(46,.map 0),(8,.sl 1 0 0 k),(2,.ref 2 0)],[.map (G.map fE),.row 0 15 xs,.var (Zab n)]):=by
 have hr:=Zjb G
 have hm:=fun ρ=>ZiX ρ G
 generalize G.map fE=M at *
 unfold Zab Zl Zo
 generalize n.payload.map Zr=L1 at *
 generalize n.props.map Zc=L2 at *
 simp -implicitDefEqProofs only [EQA,ZG,ZF,ZK,ZH,ZJ,ZD,ZQ,ZR,ZP,ZS,ZM,ZL,ZO,ZT,ZN,implies_true,forall_const,Xp,Xq,Xt,Xf,Xg,Xr,Xm,ZA,ZI,unA,Zt,Zx,unG,reduceCtorEq,Zk,decide_eq_true_eq,Xh,Xc,ite_self,↓reduceIte,Zv,ZB,gcT,gcA,Zj,Zf,Zd,Zg,Zm,Zb,Zn,Zh,Zp,Xe,Zbc,Za9,Zbh,Zbj,Zbb,Zbd,Za8,Zw,Zl,Zo,Zc,Zz,ZE,hr,hm]
theorem Zyo (n:Z3) (G:Grp) {tm:Tms} (h1:tget tm 46=.map 0) (h2:tget tm 8=.lst true []) (h3:tget tm 2=.ref 1 0):gcT 0 (keepL [46,8,2] tm) [.map (G.map fE),.var (Zab n)]=([(46,.map 0),(8,.lst true []),(2,.ref 1 0)],[.map (G.map fE),.var (Zab n)]):=by
 have hr:=Zjb G
 have hm:=fun ρ=>ZiX ρ G
 generalize G.map fE=M at *
 unfold Zab Zl Zo
 generalize n.payload.map Zr=L1 at *
 generalize n.props.map Zc=L2 at *
 simp -implicitDefEqProofs only [EQA,ZG,ZF,ZK,ZH,ZJ,ZD,ZQ,ZR,ZP,ZS,ZM,ZL,ZO,ZT,ZN,implies_true,forall_const,Xp,Xq,Xt,Xf,Xg,Xr,Xm,ZA,ZI,unA,Zt,Zx,unG,reduceCtorEq,Zk,decide_eq_true_eq,Xh,Xc,ite_self,↓reduceIte,Zv,ZB,gcT,gcA,Zj,Zf,Zd,Zg,Zm,Zb,Zn,Zh,Zp,Xe,Zbc,Za9,Zbh,Zbj,Zbb,Zbd,Za8,Zw,Zl,Zo,Zc,Zz,ZE,hr,hm,h1,h2,h3]
theorem Znv (n:Z3) (hn:ZdK n) (G:Grp) (hG:∀ p ∈ G,p.2.length<=1000000000):∀ (r d:Grp) (tm:Tms) (σ:Za),(∀ p ∈ r,p.2≠[]/\p.2.length<=1000000000)->d.length+r.length<=700000000->gcT 0 (keepL [46,8,2] tm) σ=([(46,.map 0),(8,.sl 1 0 0 d.length),(2,.ref 2 0)],[.map (G.map fE),.row 0 15 (d.map (Z2 n)),.var (Zab n)]) ->
  ∃ tm' σ',ZcB FC PR BY 0 [46,8,2] 46 50 3 Zc8 c2P (G.map fE) (r.map fE) tm σ=some (tm',σ')/\gcT 0 (keepL [46,8,2] tm') σ'=([(46,.map 0),(8,.sl 1 0 0 (d++r).length),(2,.ref 2 0)],[.map (G.map fE),.row 0 15 ((d++r).map (Z2 n)),.var (Zab n)])
 | [],d,tm,σ,_,hb,h=>⟨tm,σ,rfl,by rw [X6];exact h⟩
 | (c,l)::r,d,tm,σ,hr,hb,h=>by
  obtain ⟨hl,hN⟩:=hr (c,l) (by simp)
  cases l with
  | nil=>exact absurd rfl hl
  | cons s l =>
  have hb1:(d.length+1)*200<=140737488355328:=by simp only [Xx] at hb;omega
  have e:=ZqU n hn G c s l hN tm σ d.length (d.map (Z2 n)) (by simp) hb1 h
  show ∃ tm' σ',(match Zem FC PR BY 0 [46,8,2] 46 50 3 Zc8 c2P (G.map fE) (fE (c,s::l)) tm σ with
   | some (tm',σ')=>ZcB FC PR BY 0 [46,8,2] 46 50 3 Zc8 c2P (G.map fE) (r.map fE) tm' σ'
   | none=>none)=some (tm',σ')/\_
  rw [e]
  have ih:=Znv n hn G hG r (d++[(c,s::l)]) _ _ (fun p hp=>hr p (by simp [hp])) (by simp only [Xy,Xx,XA] at hb ⊢;omega)
   (by
    have:=Zze n G 1 (d.length+1) (d.map (Z2 n)++[Z2 n (c,s::l)])
    rw [this];simp)
  rw [Ww,WF] at ih
  exact ih
end
section
abbrev ZfE:=Go.Lib.compareBytes
theorem ZfC (a b:ZC):leC ZfE a b=true↔a<=b:=by
 unfold leC
 rw [Bool.not_eq_true',decide_eq_false_iff_not,ZhM,Xba]
def Zdo (l:List ZC):List ZC:=l.mergeSort (leC ZfE)
theorem ZjK (l:List ZC):(Zdo l).Pairwise (·<=·):=by
 have h:=Xai (le:=leC ZfE) (fun a b c h1 h2=>(ZfC a c).2 (List.le_trans ((ZfC a b).1 h1) ((ZfC b c).1 h2))) (fun a b=>by
  rw [Wv,ZfC,ZfC];exact List.le_total a b) l
 exact h.imp fun h=>(ZfC _ _).1 h
theorem Zeq (l:List ZC):(Zdo l).Perm l:=W2 l _
theorem Zrh {d l:List ZC} (h:d.Perm l):Zdo d=Zdo l :=
 (((Zeq d).trans h).trans (Zeq l).symm).eq_of_pairwise (fun a b _ _ h1 h2=>Xa4 h1 h2) (ZjK d) (ZjK l)
def ZcU (G:Grp):Grp:=(Zdo (G.map (·.1))).map fun c=>(c,(G.lookup c).getD [])
theorem Zl7 {β:Type}:∀ {G:List (ZC×β)} {c:ZC} {l:β},(G.map (·.1)).Nodup->(c,l) ∈ G->G.lookup c=some l
 | [],c,l,_,h=>by simp at h
 | (k,m)::G,c,l,hn,h=>by
  rw [Xu,Wi] at hn
  rw [XK]
  rcases XL.1 h with e | h'
  ·injection e with e1 e2
   subst e1 e2
   simp
  ·have : (c == k)=false:=by
    rw [beq_eq_false_iff_ne]
    rintro rfl
    exact hn.1 (XJ.2 ⟨(c,l),h',rfl⟩)
   rw [this]
   exact Zl7 hn.2 h'
theorem Zlk (n:Z3):∀ d:Grp,Zb3 Ze2 (d.map (Z2 n))=some (d.map (·.1))
 | []=>rfl
 | p::d=>by
  show (Zb3 Ze2 (d.map (Z2 n))).map (p.1::·)=_
  rw [Zlk n d];rfl
theorem Zxu (n:Z3) {d G:Grp} (hp:d.Perm G) (hn:(G.map (·.1)).Nodup):ZdX ZfE (d.map (Z2 n)) (d.map (·.1))=(ZcU G).map (Z2 n):=by
 have hnd:(d.map (·.1)).Nodup:=(hp.map (·.1)).nodup_iff.2 hn
 unfold ZdX ZcU
 rw [WB]
 have e:(d.map (·.1)).mergeSort (leC ZfE)=Zdo (G.map (·.1)):=Zrh (hp.map _)
 rw [e]
 apply WS
 intro c hc
 have hc:=(Zeq _).mem_iff.1 hc
 obtain ⟨⟨c',l⟩,hm,rfl⟩:=XJ.1 hc
 have hd:=hp.mem_iff.2 hm
 obtain ⟨i,hi⟩:=WN.1 hd
 have h1:(d.map (·.1))[i]?=some c':=by rw [XX,hi];rfl
 have h2:(d.map (Z2 n))[i]?=some (Z2 n (c',l)):=by rw [XX,hi];rfl
 rw [Zgo hnd h1 h2]
 simp only [Function.comp,Zl7 hn hm,Wu]
theorem Zi5 (G:Grp):(ZcU G).length=G.length:=by
 unfold ZcU;rw [XP,(Zeq _).length_eq,XP]
theorem Zv4 (n:Z3) {d G:Grp} (hp:d.Perm G) (hn:(G.map (·.1)).Nodup) (h:d.length < 4611686018427387904):E 23 [.sl 0 0 0 d.length,.fn 24 []] [.row 0 15 (d.map (Z2 n))]=some (.tup [],[.row 0 15 ((ZcU G).map (Z2 n))]):=by
 refine ZcH.2 ⟨1,?_⟩
 show ZfW 15 24 Ze2 ZfE [.sl 0 0 0 d.length,.fn 24 []] [.row 0 15 (d.map (Z2 n))]=_
 have hnd:(d.map (·.1)).Nodup:=(hp.map (·.1)).nodup_iff.2 hn
 simp only [ZfW,Zlk,XP,h,hnd,and_self,if_true,Zxu n hp hn]
theorem Zpp (n:Z3) {d G:Grp} (hp:d.Perm G) (hn:(G.map (·.1)).Nodup) (h:d.length < 4611686018427387904) {σ:Za} {t sq:Nat} (hs:σ[t]?=some (.row 0 15 (d.map (Z2 n)))):Z7 E BY σ sq 23 0 true [.sl t 0 0 d.length,.fn 24 []]=some (.tup [],σ.set t (.row 0 15 ((ZcU G).map (Z2 n))),{ any:=true }):=by
 refine ZmJ (args':=[.sl 0 0 0 d.length,.fn 24 []]) hs (by kernel_rfl) rfl rfl (fun ρ h=>by simp only [ZW,Zi,h]) (fun ρ=>rfl) (Xw rfl) ?_
 rw [Zv4 n hp hn h]
 rfl
theorem Zo1 (σ:Za) (sq:Nat):Z7 E BY σ sq 23 0 true [.lst true [],.fn 24 []]=some (.tup [],σ,{}):=by
 have h:E 23 [.lst true [],.fn 24 []] []=some (.tup [],[]):=ZcH.2 ⟨1,rfl⟩
 unfold Z7 Zc6
 rw [show BY 23=true by kernel_rfl]
 simp only [if_true,show ZX [AVal.lst true [],.fn 24 []]=[] from rfl,show Zs σ []=σ from rfl]
 rw [show Zf σ 1000 [] []=[] from rfl]
 unfold Zcj
 rw [if_pos (by rfl),show ZW (Zd σ 0 []) [AVal.lst true [],.fn 24 []]=[.lst true [],.fn 24 []] from rfl,show Zg σ 0 [] (Zd σ 0 []) [] 0=[] from rfl,h]
 rfl
theorem Zuf (n:Z3) {d G:Grp} (hp:d.Perm G) (hn:(G.map (·.1)).Nodup) (hd:d.length < 4611686018427387904) (tm:Tms) (σ:Za) (h:gcT 0 (keepL [46,8,2] tm) σ=([(46,.map 0),(8,.sl 1 0 0 d.length),(2,.ref 2 0)],[.map (G.map fE),.row 0 15 (d.map (Z2 n)),.var (Zab n)])) :
  ZeB FC PR BY 0 [46,8,2] c3P [.tmp 4] tm σ=some (.sl 0 0 0 d.length,[.row 0 15 ((ZcU G).map (Z2 n))]):=by
 have hs:=fun {σ:Za} {sq:Nat} hs=>Zpp n hp hn hd (σ:=σ) (t:=1) (sq:=sq) hs
 unfold ZeB
 rw [h]
 generalize G.map fE=M at *
 generalize (ZcU G).map (Z2 n)=S at *
 generalize d.map (Z2 n)=D at *
 unfold Zab Zl Zo
 generalize n.payload.map Zr=L1 at *
 generalize n.props.map Zc=L2 at *
 simp -implicitDefEqProofs only [EQA,ZG,ZF,ZK,ZH,ZJ,ZD,ZQ,ZR,ZP,ZS,ZM,ZL,ZO,ZT,ZN,implies_true,forall_const,Xp,Xq,Xt,Xf,Xg,Xr,Xm,ZA,ZI,unA,Zt,Zx,unG,reduceCtorEq,Zk,decide_eq_true_eq,Xh,Xc,ite_self,↓reduceIte,Zv,ZB,gcT,gcA,Zj,Zf,Zd,Zg,Zm,Zb,Zn,Zh,Zp,Xe,Zbc,Za9,Zbh,Zbj,Zbb,Zbd,Za8,Zw,Zl,Zo,Zc,Zz,ZE,hs,c3P]
 try (simp [ZaD,gcA,Zj,Zf,ZX,Z5,Zd,Zg,Zm,Zb,Zn,ZW,Zi,Zh,Zp,Xe])
theorem Zxz (n:Z3) (G:Grp) (tm:Tms) (σ:Za) (h:gcT 0 (keepL [46,8,2] tm) σ=([(46,.map 0),(8,.lst true []),(2,.ref 1 0)],[.map (G.map fE),.var (Zab n)])) :
  ZeB FC PR BY 0 [46,8,2] c3P [.tmp 4] tm σ=some (.lst true [],[]):=by
 have hs:=Zo1
 unfold ZeB
 rw [h]
 generalize G.map fE=M at *
 unfold Zab Zl Zo
 generalize n.payload.map Zr=L1 at *
 generalize n.props.map Zc=L2 at *
 simp -implicitDefEqProofs only [EQA,ZG,ZF,ZK,ZH,ZJ,ZD,ZQ,ZR,ZP,ZS,ZM,ZL,ZO,ZT,ZN,implies_true,forall_const,Xp,Xq,Xt,Xf,Xg,Xr,Xm,ZA,ZI,unA,Zt,Zx,unG,reduceCtorEq,Zk,decide_eq_true_eq,Xh,Xc,ite_self,↓reduceIte,Zv,ZB,gcT,gcA,Zj,Zf,Zd,Zg,Zm,Zb,Zn,Zh,Zp,Xe,Zbc,Za9,Zbh,Zbj,Zbb,Zbd,Za8,Zw,Zl,Zo,Zc,Zz,ZE,hs,c3P]
 try (simp [ZaD,gcA,Zj,Zf,ZX,Z5,Zd,Zg,Zm,Zb,Zn,ZW,Zi,Zh,Zp,Xe])
theorem ZvN {α:Type} {p:α->Prop} (h:∃ x,p x) {a:α} (hu:∀ x,p x->x=a):h.choose=a:=hu _ h.choose_spec
theorem ZtF {es:List (AVal×AVal)} {tm:Tms} {σ:Za} {out:AVal×Za} {m ms en b1:Nat} {live:List Nat} {aslE:List AOp} {c2 c3:Zq} {rs:List ZcC} (h:∀ es':List (AVal×AVal),es'.Perm es->Zfn FC PR BY m live ms en b1 aslE c2 c3 rs es es' tm σ=some out):ZgF FC PR BY m live ms en b1 aslE c2 c3 rs es tm σ=some out:=by
 have h':∃ out,∀ es':List (AVal×AVal),es'.Perm es->Zfn FC PR BY m live ms en b1 aslE c2 c3 rs es es' tm σ=some out:=⟨out,h⟩
 unfold ZgF
 rw [dif_pos h']
 refine congrArg some (ZvN h' fun x hx=>?_)
 have:=(hx es (XaV _)).symm.trans (h es (XaV _))
 injection this
theorem Zpz {α β:Type} {f:α->β}:∀ {l:List α} {es:List β},es.Perm (l.map f)->∃ d:List α,d.Perm l/\es=d.map f:=by
 intro l es h
 have key:∀ {xs ys:List β},xs.Perm ys->∀ l:List α,ys=l.map f->∃ d:List α,d.Perm l/\xs=d.map f:=by
  intro xs ys h
  induction h with
  | nil=>intro l e;exact ⟨l,XaV _,e⟩
  | cons x _ ih =>
   intro l e
   cases l with
   | nil=>simp at e
   | cons a l =>
    simp only [Xu,Xae] at e
    obtain ⟨d,h1,h2⟩:=ih l e.2
    exact ⟨a::d,h1.cons a,by rw [Xu,<-h2,e.1]⟩
  | swap x y r =>
   intro l e
   match l,e with
   | a::b::l,e =>
    simp only [Xu,Xae] at e
    refine ⟨b::a::l,List.Perm.swap a b l,?_⟩
    simp only [Xu,e.1,e.2.1,e.2.2]
  | trans _ _ ih1 ih2 =>
   intro l e
   obtain ⟨d,h1,h2⟩:=ih2 l e
   obtain ⟨d',h3,h4⟩:=ih1 d h2
   exact ⟨d',h3.trans h1,h4⟩
 exact key h l rfl
structure OkG (n:Nat) (G:Grp):Prop where
 nd:(G.map (·.1)).Nodup
 ne:∀ p ∈ G,p.2≠[]/\p.2.length<=n
 len:G.length<=n
theorem ZuM {n:Nat} {G:Grp} (h:OkG n G) (c:ZC) (s:Zap):OkG (n+1) (ZbI G c s):=by
 cases hg:Zcp c G 0 with
 | none =>
  rw [Zif hg]
  have hc:c ∉ G.map (·.1):=by
   have key:∀ (G:Grp) (i:Nat),Zcp c G i=none->c ∉ G.map (·.1):=by
    intro G
    induction G with
    | nil=>intro i _ h;simp at h
    | cons p G ih =>
     intro i h
     obtain ⟨k,l⟩:=p
     simp only [Zcp] at h
     split at h
     ·cases h
     ·rename_i e
      rw [Xu,XL]
      rintro (h' | h')
      ·exact e h'
      ·exact ih _ h h'
   exact key G 0 hg
  refine ⟨?_,?_,by rw [Xy];have:=h.len;simp;omega⟩
  ·rw [Wc,List.nodup_append]
   refine ⟨h.nd,by simp,?_⟩
   intro a ha b hb e
   simp only [Xu,X0,XZ] at hb
   subst e hb
   exact hc ha
  ·intro p hp
   rcases Xv.1 hp with hp | hp
   ·have:=h.ne p hp;exact ⟨this.1,by omega⟩
   ·rw [XZ] at hp;subst hp;simp
 | some q =>
  obtain ⟨j',_,h2,h3⟩:=ZgO (s:=s) (l:=q.2) (j:=q.1) hg
  rw [h3]
  refine ⟨?_,?_,by rw [List.length_set];have:=h.len;omega⟩
  ·have : (G.set j' (c,q.2++[s])).map (·.1)=G.map (·.1):=by
    rw [XaT]
    apply X7
    intro i
    rw [Xk]
    split
    ·rename_i e;subst e
     simp [h2]
     have:=(Xd.1 h2).1
     omega
    ·rfl
   rw [this];exact h.nd
  ·intro p hp
   rcases X5 hp with hp | rfl
   ·have:=h.ne p hp;exact ⟨this.1,by omega⟩
   ·have:=h.ne _ (Xs h2)
    simp at this ⊢
    omega
theorem Zht (n:Z3):∀ (hits:List Zan) (G:Grp) (k:Nat),OkG k G->OkG (k+hits.length) (Zcr n G hits)
 | [],G,k,h=>h
 | x::r,G,k,h=>by
  have h2:OkG (k+1) (if ZbB n x then ZbI G x.client x.sub else G):=by
   split
   ·exact ZuM h _ _
   ·exact ⟨h.nd,fun p hp=>⟨(h.ne p hp).1,by have:=(h.ne p hp).2;omega⟩,by have:=h.len;omega⟩
  have:=Zht n r _ (k+1) h2
  rw [Xx,show k+(r.length+1)=k+1+r.length by omega]
  exact this
def Zb2 (n:Z3) (hits:List Zan):Grp:=ZcU (Zcr n [] hits)
theorem Zwe (n:Z3) (hn:ZdK n) (hits:List Zan) (hN:hits.length<=600000000):ER 8 [ZdE n,.lst false (hits.map ZU)] []=some (ZcD ((Zb2 n hits).map (Z2 n)),Zci 15 ((Zb2 n hits).map (Z2 n))):=by
 rw [ZrW]
 unfold Zb2
 obtain ⟨tm',e1,e2⟩:=Zjq n hits (by omega) hits 0 [] rfl (by simp)
 have hok:=Zht n hits [] 0 ⟨by simp,by simp,by simp⟩
 rw [XF] at hok
 have h5:tget tm' 5=.map 0:=by
  have:=congrArg (fun t=>tget t 5) e2
  simpa [ZfZ,tget] using this
 have h2:tget tm' 2=.ref 1 0:=by
  have:=congrArg (fun t=>tget t 2) e2
  simpa [ZfZ,tget] using this
 generalize Zcr n [] hits=G at *
 have z:((0:Nat):Int)=0:=rfl
 rw [z] at e1
 have s1:evC FC PR BY 0 c1P (enterA 0 [ZdE n,.lst false (hits.map ZU)] []) []=some (.normal,[(8,.lst true []),(5,.map 0),(2,.ref 1 0)],[.gmap 6 (gE G),.var (Zab n)]):=by
  have hl:(hits.map ZU).length=hits.length:=XP ..
  have h0:gE []=[]:=rfl
  rw [h0] at e1
  unfold plT at e1
  generalize gE G=M at *
  generalize hits.map ZU=S at *
  unfold ZdE Zab Zl Zo at *
  generalize n.payload.map Zr=L1 at *
  generalize n.props.map Zc=L2 at *
  simp -implicitDefEqProofs only [EQA,ZG,ZF,ZK,ZH,ZJ,ZD,ZQ,ZR,ZP,ZS,ZM,ZL,ZO,ZT,ZN,implies_true,forall_const,Xp,Xq,Xt,Xf,Xg,Xr,Xm,ZA,ZI,unA,Zt,Zx,unG,reduceCtorEq,Zk,decide_eq_true_eq,Xh,Xc,ite_self,↓reduceIte,Zv,ZB,gcT,gcA,Zj,Zf,Zd,Zg,Zm,Zb,Zn,Zh,Zp,Xe,Zbc,Za9,Zbh,Zbj,Zbb,Zbd,Za8,Zw,Zl,Zo,Zc,Zz,ZE,e1,hl,c1P]
  simp [ZfU,h5,h2]
 have s2:ZeE BY ZhB [(8,.lst true []),(5,.map 0),(2,.ref 1 0)] [.gmap 6 (gE G),.var (Zab n)]=some ([(46,.map 0),(8,.lst true []),(5,.map 0),(2,.ref 1 0)],[.gmap 6 (gE G),.var (Zab n)]):=by
  generalize gE G=M
  generalize Zab n=C
  rfl
 have s3:Zf5 [.gmap 6 (gE G),.var (Zab n)] 0=some (G.map fE,[.map (G.map fE),.var (Zab n)]):=by
  unfold Zf5
  rw [XI]
  simp only [ZkI,List.set_cons_zero]
 show (match evC FC PR BY 0 c1P (enterA 0 [ZdE n,.lst false (hits.map ZU)] []) [] with
  | some (.normal,tm1,σ1)=>match ZeE BY ZhB tm1 σ1 with
   | some (tm2,σ2)=>match tget tm2 46 with
    | .map t=>match Zf5 σ2 t with
     | some (es,σ3)=>ZgF FC PR BY 0 [46,8,2] 46 50 3 Zc8 c2P c3P [.tmp 4] es tm2 σ3
     | none=>none
    | _=>none
   | none=>none
  | _=>none)=_
 rw [s1]
 simp only [s2,tget,if_true,s3]
 refine ZtF fun es' hp=>?_
 obtain ⟨d,hd,rfl⟩:=Zpz hp
 have hlen:=hd.length_eq
 have hg:=Zyo n G (tm:=[(46,.map 0),(8,.lst true []),(5,.map 0),(2,.ref 1 0)]) rfl rfl rfl
 cases d with
 | nil =>
  have e:G=[]:=List.nil_perm.1 hd
  subst e
  show ZeB FC PR BY 0 [46,8,2] c3P [.tmp 4] _ _=_
  rw [Zxz n [] _ _ hg,show ZcU []=[] from by simp [ZcU,Zdo]]
  rfl
 | cons p r =>
  have hmem:=fun q hq=>hok.ne q (hd.mem_iff.1 hq)
  have hp0:=hmem p (by simp)
  obtain ⟨c,l⟩:=p
  cases l with
  | nil=>exact absurd rfl hp0.1
  | cons s l =>
  have hb:(s::l).length<=1000000000:=by have:=hp0.2;simp only at this;omega
  have e:=ZAf n hn G c s l hb _ _ hg
  obtain ⟨tm2,σ2,f1,f2⟩:=Znv n hn G (fun q hq=>by have:=(hok.ne q hq).2;omega) r [(c,s::l)] _ _ (fun q hq=>by have:=hmem q (by simp [hq]);exact ⟨this.1,by have:=this.2;omega⟩) (by have:=hok.len;simp only [Xx,XA] at hlen ⊢;omega) (Zr1 n G 1 [Z2 n (c,s::l)])
  unfold Zfn
  have e3:ZcB FC PR BY 0 [46,8,2] 46 50 3 Zc8 c2P (G.map fE) (((c,s::l)::r).map fE) [(46,.map 0),(8,.lst true []),(5,.map 0),(2,.ref 1 0)] [.map (G.map fE),.var (Zab n)]=some (tm2,σ2):=by
   show (match Zem FC PR BY 0 [46,8,2] 46 50 3 Zc8 c2P (G.map fE) (fE (c,s::l)) [(46,.map 0),(8,.lst true []),(5,.map 0),(2,.ref 1 0)] [.map (G.map fE),.var (Zab n)] with
    | some (tm',σ')=>ZcB FC PR BY 0 [46,8,2] 46 50 3 Zc8 c2P (G.map fE) (r.map fE) tm' σ'
    | none=>none)=_
   rw [e]
   exact f1
  rw [e3]
  rw [WF] at f2
  simp only
  rw [Zuf n hd hok.nd (by have:=hok.len;omega) tm2 σ2 f2]
  have hpl:0 < ((ZcU G).map (Z2 n)).length:=by rw [XP,Zi5,<-hlen];simp
  rw [Zhh hpl,ZfH hpl,XP,Zi5,hlen]
end
end Go.Proofs.Ytfpahnkbjfimdaa
