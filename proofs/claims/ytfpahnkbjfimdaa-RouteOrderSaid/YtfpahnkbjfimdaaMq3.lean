/- packed -/
import Derived.Test.YtfpahnkbjfimdaaMq2
import Derived.Sort.Row
import Derived.Sort.Grow
import Derived.Shelf.SlSortCmp.NoneTotal
import Derived.Lib.Bytealg
import Derived.Test.YtfpahnkbjfimdaaProg
import Derived.Deep.Slices
import Derived.ChangeArms
import Derived.WideShapes
import GoSem.ClaimChange
import Derived.Shelf.Small.Strs
import Derived.Test.YtfpahnkbjfimdaaChecked
import Derived.Deep.RegionHeld3
import Derived.Shelf.Sort.Plain
import Derived.Shelf.Slices.In.SortNone
import Derived.Lib.TrimUEq
import Derived.Lib.MapLaws
import Derived.Lib.ValidLaws
set_option linter.defProp false
set_option linter.unusedSectionVars false
set_option linter.unusedSimpArgs false
set_option linter.unusedVariables false
open Option.some renaming injEq→Xa
open Prod.mk renaming injEq→Xb
open Bool renaming decide_eq_true→Xc,not_eq_true→Xh,and_eq_true→Xl,false_eq_true→Xw,or_eq_true→Wu,and_self→W7,true_or→Xah,false_and→Xan,true_and→XaC,or_false→XaD,or_true→XaI,not_true→XaQ,and_true→Xa6,not_false→Xbe
open List renaming getElem?_eq_some_iff→Xd,range_succ→Xe,getD_eq_getElem?_getD→Xi,mem_of_getElem?→Xr,map_cons→Xs,all_cons→Xt,length_append→Xx,getElem?_eq_getElem→Xy,length_cons→Xz,all_nil→XA,getElem?_cons_zero→XE,length_nil→XF,length_singleton→XG,length_map→XH,all_eq_true→XI,mem_cons→XJ,mem_map→XK,replicate→XL,getD_cons_zero→XM,getElem?_cons_succ→XO,getElem?_take→XP,flatMap_cons→XS,getElem?_eq_none→XT,getD_cons_succ→XU,map_nil→XV,mem_singleton→XW,getElem?_map→XX,eq_nil_of_length_eq_zero→XY,lookup_cons→XZ,contains_nil→X0,nil_append→X1,append_nil→X2,length_take→X3,ext_getElem?→X6,map_append→X9,zip_cons_cons→Wa,lookup_nil→Wi,take_of_length_le→Wj,map_map→Wn,drop_eq_nil_iff→Wo,cons_append→Wp,append_assoc→Wq,any_cons→WA,singleton_append→WD,any_nil→WG,range→WH,set_cons_succ→WP,drop_eq_getElem_cons→WS,set_cons_zero→WU,isEmpty_nil→WY,mergeSort_perm→W4,getElem?_take_of_lt→Xag,pairwise_mergeSort→Xaj,flatMap_nil→Xav,drop_succ_cons→Xax,take_succ_cons→Xay,drop_zero→XaF,take_append_drop→XaJ,length_mergeSort→XaK,replicate_succ→XaT,take_zero→XaY,flatten_cons→Xa2,isEmpty_cons→Xa4,map_take→Xa5,headD_cons→Xbb,not_lt→Xbg
open Nat renaming reduceLeDiff→Xf,reduceEqDiff→Xg,reduceMul→Xk,reduceAdd→Xn,reduceSub→Xo,reduceBEq→Xp,reduceLT→Xq,zero_add→XC,le_refl→XN,one_mul→We,add_zero→Wf,add_assoc→WE,zero_mul→XaW,succ_mul→Xba
open Option renaming map_eq_some_iff→Xm,map_some→XQ,getD_some→Wt,map→WW,isSome_none→W6,map_none→XaV
open Or renaming inl→Xv,inr→XD
open Array renaming getElem?_eq_some_iff→XB,length_toList→XR,getElem?_toList→Wm,getElem?_modify→WN,getElem?_eq_getElem→Xaa
open BitVec renaming ofInt→WL
open Int renaming toNat_natCast→Xa3
namespace Go.Proofs.Ytfpahnkbjfimdaa
set_option maxHeartbeats 16000000
set_option maxRecDepth 10000
section
open Go.RowKit Go.Sort
def Zbv {α:Type} (g:AVal->Option α):List AVal->Option (List α)
 | []=>some []
 | x::r=>match g x with
  | some a=>(Zbv g r).map (a::·)
  | none=>none
def Ze1:AVal->Option Int
 | .int .i64 n=>some n
 | _=>none
def Ziv {α:Type} (g:AVal->Option α) (h:α->AVal) (le:α->α->Bool) (args:List AVal) (σ:Za):Option (AVal×Za):=match args,σ with
 | [.sl 0 0 0 n],[.row 0 1 xs]=>match Zbv g xs with
  | some zs=>if n=xs.length/\n < 4611686018427387904 then some (.tup [],[.row 0 1 ((zs.mergeSort le).map h)]) else none
  | none=>none
 | [.lst b []],[]=>some (.tup [],[])
 | _,_=>none
def Zin:=Ziv Ze1 (AVal.int .i64) (fun x y=>decide (x<=y))
section
variable {P:Program} {base:Nat->Prop} {w0 w w':World} {I0 I:Imm} {β:Bmap} {σ:Za}
theorem Rel.putAt (R:Rel base w0 I0 I β σ w) (hbl:KLt base w) {t b:Nat} {x x':ZU} (ht:σ[t]?=some x) (hx:Zd w β t x b) (hx':∀ b',Zd w' β t x' b'->b'=b) (hg:Zb x'=Zb x)
  (hos:w'.os=w.os) (hta:w'.tape=w.tape) (hou:w'.output=w.output) (hs:w.heap.size<=w'.heap.size) (hh:∀ k,k≠b->k < w.heap.size->w'.heap[k]?=w.heap[k]?) (hblk:BR I β w' t x') (hnf:x'≠.free:=by simp) (hns:∀ b',¬Zbi β t x' b':=by intro b h;cases h) :
  Rel base w0 I0 I β (σ.set t x') w':=by
 have hsl:t < σ.length:=(Xd.1 ht).1
 have ho:=R.own t x b ht hx
 refine R.upd (Imm.le.refl I) (Bmap.le.refl β) ⟨hos,hta,hou,hs,fun k hk=>hh k (by rintro rfl;exact ho.1 hk) (hbl k hk)⟩ (fun _ _ _=>rfl) ?_ t x' rfl hsl (fun _ _ _=>rfl) ?_ hblk ?_ ?_ ?_ (fun b h=>absurd h (hns b))
 ·intro b' o u h
  have hne:b'≠b:=by rintro rfl;rw [ho.2 o] at h;cases h
  have h1:=R.imm b' o u h
  have hlt:=ZcT h1
  rw [<-h1]
  simp only [World.cell?,hh b' hne hlt]
 ·intro t' y b' hne hy hb'
  have hbb:b'≠b:=by rintro rfl;exact hne (R.apart t' y t x b' hy ht hb' hx)
  exact ⟨hh b' hbb ((R.blk t' y hy).owns_lt hb'),(R.own t' y b' hy hb').2,fun e=>hbb (hx' _ e)⟩
 ·intro b' e
  obtain rfl:=hx' _ e
  exact ho
 ·intro g hlt
  exact R.gen t x g ht (by rw [<-hg];exact hlt)
 ·rintro rfl
  exact hnf rfl
theorem ZvL {α:Type} {g:AVal->Option α} {enc:α->Value} (hg:∀ x a v,g x=some a->VR I β x v->v=enc a) (hc:∀ x a,g x=some a->x.cells=[x]):∀ {xs:List AVal} {zs:List α} {vs:List Value},Zbv g xs=some zs->VRs I β (xs.flatMap AVal.cells) vs->vs=zs.map enc
 | [],zs,vs,h,hv=>by
  simp only [Zbv,Xa] at h;subst h
  simpa [VRs] using hv
 | x::xs,zs,vs,h,hv=>by
  simp only [Zbv] at h
  split at h
  ·rename_i a ha
   simp only [Xm] at h
   obtain ⟨zs',h,rfl⟩:=h
   rw [XS,hc x a ha] at hv
   simp only [WD,VRs] at hv
   obtain ⟨v,vs',rfl,h1,h2⟩:=hv
   rw [hg x a v ha h1,ZvL hg hc h h2];rfl
  ·cases h
theorem ZkN {α:Type} {g:AVal->Option α}:∀ {xs:List AVal} {zs:List α},Zbv g xs=some zs->zs.length=xs.length
 | [],zs,h=>by simp only [Zbv,Xa] at h;subst h;rfl
 | x::xs,zs,h=>by
  simp only [Zbv] at h
  split at h
  ·simp only [Xm] at h
   obtain ⟨zs',h,rfl⟩:=h
   simp [ZkN h]
  ·cases h
theorem Zxk {α:Type} [Inhabited α] {g:AVal->Option α} {h:α->AVal} {le:α->α->Bool} {enc:α->Value} {f:Nat} (hf:∃ fn,P.funcs[f]?=some fn/\fn.body.isSome=true/\(fn.name == "runtime.NumGoroutine")=false)
  (hg:∀ {I:Imm} {β:Bmap} (x:AVal) (a:α) (v:Value),g x=some a->VR I β x v->v=enc a) (hc:∀ x a,g x=some a->x.cells=[x]) (hh:∀ {I:Imm} {β:Bmap} (x:AVal) (a:α) (v:Value),g x=some a->VR I β x v->VR I β (h a) v) (hhc:∀ a,(h a).cells=[h a]/\Zal (h a)=true)
  (hsort:∀ (blk off cap:Nat) (zs:List α) (w:World),Holds enc w blk off zs.toArray->blk < w.heap.size->zs.length < 4611686018427387904->Calls P f #[.slice (some ⟨blk,off,none⟩) zs.length cap] w fun e w'=>e=.returned (.tuple #[])/\∃ n os,w'=grow (putRow enc (Sort.ahead w n) blk off (zs.mergeSort le).toArray) os)
  (hnone:∀ (p:Option Addr) (cap:Nat) (w:World),Calls P f #[.slice p 0 cap] w fun e w'=>e=.returned (.tuple #[])/\w'=w)
  {args:List AVal} {σ σ':Za} {r:AVal} (hp:Ziv g h le args σ=some (r,σ')) :
  (∃ fn,P.funcs[f]?=some fn/\fn.body.isSome=true/\(fn.name == "runtime.NumGoroutine")=false) /\
  ∀ base w0 I0 I β w (vs:Array Value),KLt base w0->Rel base w0 I0 I β σ w->VRs I β args vs.toList ->
   Calls P f vs w (fun e w'=>∃ u,Ends r e u/\Zbj σ.length base w0 I0 I β r σ' u w'):=by
 refine ⟨hf,fun base w0 I0 I β w vs hb R hv=>?_⟩
 unfold Ziv at hp
 obtain ⟨vs⟩:=vs
 split at hp
 ·rename_i n xs
  split at hp
  case h_2=>cases hp
  rename_i zs hz
  split at hp
  case isFalse=>cases hp
  rename_i hn
  obtain ⟨rfl,hn⟩:=hn
  simp only [Xa,Xb] at hp
  obtain ⟨rfl,rfl⟩:=hp
  simp only [VRs] at hv
  obtain ⟨v,vs',rfl,hv,rfl⟩:=hv
  have hzl:=ZkN hz
  have hB:=R.blk 0 _ rfl
  obtain ⟨bi,e1,e2,e3,e4,e5,e6,e7,e8⟩:=hB
  rw [ZbA] at hv
  obtain ⟨bi',f1,f2,f3,f4⟩:=hv
  rw [e1] at f1
  injection f1 with f1
  subst f1
  rcases f4 with ⟨b,hb',rfl⟩ | ⟨hbn,hc0,A,rfl⟩
  ·rcases e8 with ⟨e8,_⟩ | ⟨b2,us,ty,q1,q2,q3,q4⟩
   ·rw [e8] at hb';cases hb'
   rw [hb'] at q1;injection q1 with q1;subst q1
   rw [Nat.mul_one] at q3 q4
   have hus:=ZvL (fun x a v=>hg x a v) hc hz q4
   have hxl:xs.length<=us.size:=by omega
   have hH:Holds enc w b 0 zs.toArray:=by
    intro j hj
    have hj':j < zs.length:=by simpa using hj
    refine ⟨?_,by simp [World.frozen?,q2]⟩
    have h1:(us.toList.take xs.length)[j]?=(zs.map enc)[j]?:=by rw [hus]
    rw [Xag (by omega)] at h1
    simp only [World.cell?,q2,XC]
    simp only [W6,Xw,if_false]
    rw [<-Wm,h1]
    simp [hj']
   have hvr:∀ a ∈ zs,VR I β (h a) (enc a):=by
    have key:∀ {ys:List AVal} {zs:List α} {vs:List Value},Zbv g ys=some zs->VRs I β (ys.flatMap AVal.cells) vs->∀ a ∈ zs,VR I β (h a) (enc a):=by
     intro ys
     induction ys with
     | nil=>intro zs vs hz _ a ha;simp only [Zbv,Xa] at hz;subst hz;simp at ha
     | cons y ys ih =>
      intro zs vs hz hv a ha
      simp only [Zbv] at hz
      split at hz
      ·rename_i a0 ha0
       simp only [Xm] at hz
       obtain ⟨zs',hz,rfl⟩:=hz
       rw [XS,hc y a0 ha0] at hv
       simp only [WD,VRs] at hv
       obtain ⟨v,vs',_,h1,h2⟩:=hv
       rcases XJ.1 ha with rfl | ha
       ·rw [<-hg y a v ha0 h1];exact hh y a v ha0 h1
       ·exact ih hz h2 a ha
      ·cases hz
    exact key hz q4
   have hlt:b < w.heap.size:=(XB.1 q2).1
   rw [<-hzl]
   refine (hsort b 0 bi.cap zs w hH hlt (by omega)).mono ?_
   rintro e w' ⟨rfl,nn,os,rfl⟩
   have hml:(zs.mergeSort le).length=zs.length:=XaK zs
   have hheap:(grow (putRow enc (Sort.ahead w nn) b 0 (zs.mergeSort le).toArray) os).heap[b]?=some (.cells (putCells enc 0 (zs.mergeSort le).toArray us) ty (0,0)):=by
    rw [heap_grow_old _ _ (by simpa using hlt)]
    simp [putRow,mapBlock,Sort.ahead,WN,q2,onCells]
   have htake:(putCells enc 0 (zs.mergeSort le).toArray us).toList.take zs.length=(zs.mergeSort le).map enc:=by
    apply X6
    intro j
    by_cases hj:j < zs.length
    ·rw [Xag hj,Wm]
     have hj2:j < us.size:=by omega
     have hj3:j < (zs.mergeSort le).length:=by omega
     simp [putCells,hj2,hj]
    ·rw [List.getElem?_take_eq_none (by omega),XT (by simp;omega)]
   have hperm:∀ a,a ∈ zs.mergeSort le->a ∈ zs:=fun a ha=>(W4 zs le).mem_iff.1 ha
   have hcells:∀ l:List α,(l.map h).flatMap AVal.cells=l.map h:=by
    intro l
    induction l with
    | nil=>rfl
    | cons a l ih=>rw [Xs,XS,(hhc a).1,ih];rfl
   have hown:Zd w β 0 (.row 0 1 xs) b:=by simp [Zd,e1,hb']
   refine ⟨.tuple #[],rfl,I,β,Imm.le.refl I,KeptE.refl _ β,?_,by simp [Zam,VR,VRs]⟩
   have:=R.putAt (R.base_le hb) (t:=0) (b:=b) (x:=.row 0 1 xs) (x':=.row 0 1 ((zs.mergeSort le).map h)) (w':=grow (putRow enc (Sort.ahead w nn) b 0 (zs.mergeSort le).toArray) os) rfl hown (by simp [Zd,e1,hb']) rfl rfl rfl rfl (by simp) (fun k hk hkl=>by
    rw [heap_grow_old _ _ (by simpa using hkl)]
    have : b≠k:=fun e=>hk e.symm
    simp [putRow,mapBlock,Sort.ahead,WN,this])
    ⟨bi,e1,e2,by decide,e4,by rw [XH,hml];omega,?_,?_,XD ⟨b,_,ty,hb',hheap,by simp [putCells];omega,?_⟩⟩
   ·exact this
   ·rw [ZbH]
    intro x hx
    obtain ⟨a,_,rfl⟩:=XK.1 hx
    have:=(hhc a)
    rw [Zch,this.1]
    intro c hc
    rw [XW] at hc;subst hc
    exact this.2
   ·intro x hx
    obtain ⟨a,_,rfl⟩:=XK.1 hx
    rw [(hhc a).1];rfl
   ·rw [hcells,XH,hml,Nat.mul_one,htake]
    have key:∀ l:List α,(∀ a ∈ l,VR I β (h a) (enc a))->VRs I β (l.map h) (l.map enc):=by
     intro l
     induction l with
     | nil=>intro _;simp [VRs]
     | cons a l ih =>
      intro hl
      simp only [Xs,VRs]
      exact ⟨_,_,rfl,hl a (by simp),ih fun c hc=>hl c (by simp [hc])⟩
    exact key _ fun a ha=>hvr a (hperm a ha)
  ·have hx0:xs=[]:=XY (by omega)
   subst hx0
   simp only [Zbv,Xa] at hz
   subst hz
   refine (hnone A 0 w).mono ?_
   rintro e w' ⟨rfl,rfl⟩
   exact ⟨.tuple #[],rfl,I,β,Imm.le.refl I,KeptE.refl _ β,by simpa using R,by simp [Zam,VR,VRs]⟩
 ·simp only [Xa,Xb] at hp
  obtain ⟨rfl,rfl⟩:=hp
  simp only [VRs,VR] at hv
  obtain ⟨v,vs',rfl,⟨A,cap,rfl,_⟩,rfl⟩:=hv
  refine (hnone A cap w).mono ?_
  rintro e w' ⟨rfl,rfl⟩
  exact ⟨.tuple #[],rfl,I,β,Imm.le.refl I,KeptE.refl _ β,R,by simp [Zam,VR,VRs]⟩
 ·cases hp
theorem Zwv {f:Nat} (hf:∃ fn,P.funcs[f]?=some fn/\fn.body.isSome=true/\(fn.name == "runtime.NumGoroutine")=false)
  (hsort:∀ (blk off cap:Nat) (zs:List Int) (w:World),Holds (Value.int .i64) w blk off zs.toArray->blk < w.heap.size->zs.length < 4611686018427387904->Calls P f #[.slice (some ⟨blk,off,none⟩) zs.length cap] w fun e w'=>e=.returned (.tuple #[])/\∃ n os,w'=grow (putRow (Value.int .i64) (Sort.ahead w n) blk off (zs.mergeSort fun x y=>decide (x<=y)).toArray) os)
  (hnone:∀ (p:Option Addr) (cap:Nat) (w:World),Calls P f #[.slice p 0 cap] w fun e w'=>e=.returned (.tuple #[])/\w'=w)
  {args:List AVal} {σ σ':Za} {r:AVal} (hp:Zin args σ=some (r,σ')) :
  (∃ fn,P.funcs[f]?=some fn/\fn.body.isSome=true/\(fn.name == "runtime.NumGoroutine")=false) /\
  ∀ base w0 I0 I β w (vs:Array Value),KLt base w0->Rel base w0 I0 I β σ w->VRs I β args vs.toList ->
   Calls P f vs w (fun e w'=>∃ u,Ends r e u/\Zbj σ.length base w0 I0 I β r σ' u w'):=by
 refine Zxk (g:=Ze1) (h:=AVal.int .i64) hf ?_ ?_ ?_ (fun a=>⟨rfl,rfl⟩) hsort hnone hp
 ·intro I β x a v hx hv
  unfold Ze1 at hx
  split at hx
  ·injection hx with hx;subst hx;simpa [VR] using hv
  ·cases hx
 ·intro x a hx
  unfold Ze1 at hx
  split at hx
  ·rfl
  ·cases hx
 ·intro I β x a v hx hv
  unfold Ze1 at hx
  split at hx
  ·injection hx with hx;subst hx;exact hv
  ·cases hx
end
end
section
open Go.RowKit Go.Sort
def leC {κ:Type} (cf:κ->κ->Int) (x y:κ):Bool:=!decide (cf y x < 0)
def ZdJ {κ:Type} [DecidableEq κ] (cf:κ->κ->Int) (xs:List AVal) (ks:List κ):List AVal:=(ks.mergeSort (leC cf)).map fun a=>((ks.zip xs).lookup a).getD .nilp
def ZfQ {κ:Type} [DecidableEq κ] (k f:Nat) (key:AVal->Option κ) (cf:κ->κ->Int) (args:List AVal) (σ:Za):Option (AVal×Za):=match args,σ with
 | [.sl 0 0 0 n,.fn f' []],[.row 0 k' xs]=>match Zbv key xs with
  | some ks=>if n=xs.length/\n < 4611686018427387904/\k'=k/\f'=f/\ks.Nodup then some (.tup [],[.row 0 k (ZdJ cf xs ks)]) else none
  | none=>none
 | [.lst b [],.fn f' []],[]=>some (.tup [],[])
 | _,_=>none
def Ze8:AVal->Option (List UInt8)
 | .agg (.str l::_)=>some l
 | _=>none
section
variable {P:Program} {base:Nat->Prop} {w0 w w':World} {I0 I:Imm} {β:Bmap} {σ:Za}
theorem ZtP {k:Nat}:∀ {xs:List AVal} {vs:List Value},(∀ x ∈ xs,x.cells.length=k)->VRs I β (xs.flatMap AVal.cells) vs->∃ VS:List (List Value),vs=VS.flatten/\VS.length=xs.length/\(∀ l ∈ VS,l.length=k)/\∀ (i:Nat) (x:AVal),xs[i]?=some x->∃ l,VS[i]?=some l/\VRs I β x.cells l
 | [],vs,_,h=>by
  simp only [Xav,VRs] at h
  subst h
  exact ⟨[],rfl,rfl,by simp,by simp⟩
 | x::xs,vs,hk,h=>by
  rw [XS] at h
  have hl:=Z9 h
  have h1:=Zda h x.cells.length
  have h2:=Zdk h x.cells.length
  rw [List.take_left] at h1
  rw [List.drop_left] at h2
  obtain ⟨VS,e1,e2,e3,e4⟩:=ZtP (fun y hy=>hk y (by simp [hy])) h2
  refine ⟨vs.take x.cells.length::VS,by rw [Xa2,<-e1,XaJ],by simp [e2],?_,?_⟩
  ·intro l hl'
   rcases XJ.1 hl' with rfl | hl'
   ·rw [<-Z9 h1];exact hk x (by simp)
   ·exact e3 l hl'
  ·intro i y hy
   cases i with
   | zero=>simp only [XE,Xa] at hy;subst hy;exact ⟨_,rfl,h1⟩
   | succ i=>simp only [XO] at hy ⊢;exact e4 i y hy
theorem Zf9 {κ β':Type} [DecidableEq κ]:∀ {ks:List κ} {ys:List β'} {i:Nat} {a:κ} {y:β'},ks.Nodup->ks[i]?=some a->ys[i]?=some y->(ks.zip ys).lookup a=some y
 | [],ys,i,a,y,_,h,_=>by simp at h
 | b::ks,[],i,a,y,_,_,h=>by simp at h
 | b::ks,z::ys,0,a,y,_,h,h'=>by
  simp only [XE,Xa] at h h'
  subst h h'
  simp [List.lookup]
 | b::ks,z::ys,i+1,a,y,hn,h,h'=>by
  simp only [XO] at h h'
  obtain ⟨n1,n2⟩:=List.nodup_cons.1 hn
  have hne:a≠b:=by rintro rfl;exact n1 (Xr h)
  rw [Wa,XZ]
  have : (a == b)=false:=by simpa using hne
  rw [this]
  exact Zf9 n2 h h'
theorem ZtM {k:Nat}:∀ {L:List (List Value)} {i c:Nat},(∀ l ∈ L,l.length=k)->c < k->(L.flatten)[i*k+c]?=(L[i]?).bind (·[c]?)
 | [],i,c,_,_=>by simp
 | l::L,0,c,h,hc=>by
  have:=h l (by simp)
  rw [XaW,XC,Xa2,List.getElem?_append_left (by omega)]
  rfl
 | l::L,i+1,c,h,hc=>by
  have hl:=h l (by simp)
  rw [Xa2,List.getElem?_append_right (by rw [hl,Xba];omega)]
  have : (i+1)*k+c - l.length=i*k+c:=by rw [hl,Xba];omega
  rw [this,ZtM (fun m hm=>h m (by simp [hm])) hc]
  rfl
theorem ZsT {α:Type} [Inhabited α] {enc:α->List Value} {k:Nat} (hk:∀ x,(enc x).length=k) (hk0:0 < k) (d:List α):(flatK enc k d.toArray).toList=d.flatMap enc:=by
 have hL:∀ l ∈ d.map enc,l.length=k:=fun l hl=>by obtain ⟨a,_,rfl⟩:=XK.1 hl;exact hk a
 apply X6
 intro t
 rw [List.flatMap_def]
 have e:t=t / k*k+t % k:=by rw [Nat.mul_comm];exact (Nat.div_add_mod t k).symm
 have hm:=Nat.mod_lt t hk0
 have h2:((d.map enc).flatten)[t]?=((d.map enc)[t / k]?).bind (·[t % k]?):=by
  have:=ZtM (i:=t / k) (c:=t % k) hL hm
  rwa [<-e] at this
 rw [h2]
 by_cases ht:t < d.length*k
 ·have hi:t / k < d.length:=Nat.div_lt_of_lt_mul (by rwa [Nat.mul_comm] at ht)
  have hz:(flatK enc k d.toArray).size=d.length*k:=by rw [size_flatK];rfl
  have hg:=get_flatK enc k d.toArray t (by simpa using ht)
  rw [Wm,Xaa (by rw [hz];exact ht)]
  rw [getElem!_pos _ t (by rw [hz];exact ht)] at hg
  rw [hg,XX,Xy hi]
  have e2:(d.toArray[t / k]!)=d[t / k]:=by simp [hi]
  rw [e2]
  simp only [XQ,Option.bind_some]
  have hl:=hk d[t / k]
  rw [getElem!_pos _ _ (by omega),Xy (by omega)]
 ·have hd:d.length<=t / k:=(Nat.le_div_iff_mul_le hk0).2 (by omega)
  rw [XT (by rw [XR,size_flatK];simpa using ht),XT (by simpa using hd)]
  rfl
theorem ZuW {α:Type} {g:AVal->Option α}:∀ {xs:List AVal} {zs:List α} {i:Nat} {x:AVal},Zbv g xs=some zs->xs[i]?=some x->∃ a,zs[i]?=some a/\g x=some a
 | [],zs,i,x,_,hx=>by simp at hx
 | y::xs,zs,i,x,h,hx=>by
  simp only [Zbv] at h
  split at h
  ·rename_i a ha
   simp only [Xm] at h
   obtain ⟨zs',h,rfl⟩:=h
   cases i with
   | zero=>simp only [XE,Xa] at hx;subst hx;exact ⟨a,rfl,ha⟩
   | succ i=>simp only [XO] at hx ⊢;exact ZuW h hx
  ·cases h
theorem Zv3 {κ:Type} [DecidableEq κ] [Inhabited κ] {k g f:Nat} {key:AVal->Option κ} {cf:κ->κ->Int} {pre:κ->List Value} {m:Nat} (hf:∃ fn,P.funcs[f]?=some fn/\fn.body.isSome=true/\(fn.name == "runtime.NumGoroutine")=false)
  (hm:m<=k) (hk0:0 < k) (hg0:g < 1000000) (hpre:∀ a,(pre a).length=m/\∀ v ∈ pre a,v.oneCell'=true)
  (hkey:∀ {I:Imm} {β:Bmap} (x:AVal) (a:κ) (l:List Value),key x=some a->VRs I β x.cells l->∃ t,l=pre a++t)
  (hcmp:∀ (a b:κ) (us vs:List Value) (W:World),m+us.length=k->m+vs.length=k->Calls P g #[.agg (pre a++us).toArray,.agg (pre b++vs).toArray] W fun e w'=>e=.returned (.int .i64 (cf a b))/\∃ q os',w'=grow (W.drewN q) os')
  (hsort:∀ (enc:κ->List Value),(∀ x,(enc x).length=k)->(∀ x,∀ v ∈ enc x,v.oneCell'=true)->∀ (blk off cap:Nat) (d:Array κ) (w:World),CmpLays P g #[] enc k cf blk off d.size w->HoldsK enc k w blk off d->blk < w.heap.size->d.size < 4611686018427387904 ->
   Calls P f #[.slice (some ⟨blk,off,none⟩) d.size cap,.func (.func g) #[] #[]] w fun e w'=>e=.returned (.tuple #[])/\∃ n os,w'=sortWorldK enc k w blk off n (d.toList.mergeSort (leC cf)).toArray os)
  (hnone:∀ (p:Option Addr) (cap:Nat) (fv:Value) (w:World),Calls P f #[.slice p 0 cap,fv] w fun e w'=>e=.returned (.tuple #[])/\w'=w)
  {args:List AVal} {σ σ':Za} {r:AVal} (hp:ZfQ k g key cf args σ=some (r,σ')) :
  (∃ fn,P.funcs[f]?=some fn/\fn.body.isSome=true/\(fn.name == "runtime.NumGoroutine")=false) /\
  ∀ base w0 I0 I β w (vs:Array Value),KLt base w0->Rel base w0 I0 I β σ w->VRs I β args vs.toList ->
   Calls P f vs w (fun e w'=>∃ u,Ends r e u/\Zbj σ.length base w0 I0 I β r σ' u w'):=by
 refine ⟨hf,fun base w0 I0 I β w vs hb R hv=>?_⟩
 unfold ZfQ at hp
 obtain ⟨vs⟩:=vs
 split at hp
 ·rename_i n f' k' xs
  split at hp
  case h_2=>cases hp
  rename_i ks hz
  split at hp
  case isFalse=>cases hp
  rename_i hn
  obtain ⟨rfl,hn,rfl,rfl,hnd⟩:=hn
  simp only [Xa,Xb] at hp
  obtain ⟨rfl,rfl⟩:=hp
  simp only [VRs] at hv
  obtain ⟨v,vs',rfl,hv,fv,vs'',rfl,hfv,rfl⟩:=hv
  have hfv':fv=.func (.func f') #[] #[]:=by
   simp only [VR,if_pos hg0,VRs] at hfv
   obtain ⟨fs,us,rfl,rfl,h⟩:=hfv
   have : us=#[]:=by
    have:=congrArg List.length h
    simp at this
    exact this
   rw [this]
  subst hfv'
  have hzl:=ZkN hz
  have hB:=R.blk 0 _ rfl
  obtain ⟨bi,e1,e2,e3,e4,e5,e6,e7,e8⟩:=hB
  rw [ZbA] at hv
  obtain ⟨bi',f1,f2,f3,f4⟩:=hv
  rw [e1] at f1
  injection f1 with f1
  subst f1
  rcases f4 with ⟨b,hb',rfl⟩ | ⟨hbn,hc0,A,rfl⟩
  ·rcases e8 with ⟨e8,_⟩ | ⟨b2,us,ty,q1,q2,q3,q4⟩
   ·rw [e8] at hb';cases hb'
   rw [hb'] at q1;injection q1 with q1;subst q1
   obtain ⟨VS,v1,v2,v3,v4⟩:=ZtP e7 q4
   let enc:κ->List Value:=fun a=>((ks.zip VS).lookup a).getD (pre a++XL (k' - m) (.int .i64 0))
   have hmem:∀ a l,(ks.zip VS).lookup a=some l->l ∈ VS/\∃ (i:Nat) (x:AVal),xs[i]?=some x/\ks[i]?=some a/\VS[i]?=some l:=by
    have key:∀ (ks:List κ) (VS:List (List Value)) a l,(ks.zip VS).lookup a=some l->∃ i:Nat,ks[i]?=some a/\VS[i]?=some l:=by
     intro ks
     induction ks with
     | nil=>intro VS a l h;simp at h
     | cons b ks ih =>
      intro VS a l h
      cases VS with
      | nil=>simp at h
      | cons y VS =>
       rw [Wa,XZ] at h
       by_cases e:a=b
       ·subst e;simp only [beq_self_eq_true,Xa] at h;subst h;exact ⟨0,rfl,rfl⟩
       ·have : (a == b)=false:=by simpa using e
        rw [this] at h
        obtain ⟨i,h1,h2⟩:=ih VS a l h
        exact ⟨i+1,by simpa using h1,by simpa using h2⟩
    intro a l h
    obtain ⟨i,h1,h2⟩:=key ks VS a l h
    have hi:i < xs.length:=by have:=(Xd.1 h2).1;omega
    exact ⟨Xr h2,i,xs[i],Xy hi,h1,h2⟩
   have henc:∀ a,(∃ (i:Nat) (x:AVal),xs[i]?=some x/\ks[i]?=some a/\VS[i]?=some (enc a)/\(ks.zip VS).lookup a=some (enc a))\/enc a=pre a++XL (k' - m) (.int .i64 0):=by
    intro a
    cases h:(ks.zip VS).lookup a with
    | none=>exact XD (by simp only [enc,h];rfl)
    | some l =>
     obtain ⟨_,i,x,h1,h2,h3⟩:=hmem a l h
     refine Xv ⟨i,x,h1,h2,?_,?_⟩ <;> simp only [enc,h,Wt] <;> assumption
   have hpr:∀ a,∃ t,enc a=pre a++t:=by
    intro a
    rcases henc a with ⟨i,x,h1,h2,h3,_⟩ | h
    ·obtain ⟨a',k1,k2⟩:=ZuW hz h1
     rw [h2] at k1;injection k1 with k1;subst k1
     obtain ⟨l,l1,l2⟩:=v4 i x h1
     rw [h3] at l1;injection l1 with l1;subst l1
     exact hkey x _ _ k2 l2
    ·exact ⟨_,h⟩
   have hk:∀ a,(enc a).length=k':=by
    intro a
    rcases henc a with ⟨i,x,h1,h2,h3,_⟩ | h
    ·exact v3 _ (Xr h3)
    ·rw [h,Xx,(hpre a).1,List.length_replicate];omega
   have h1c:∀ a,∀ v ∈ enc a,v.oneCell'=true:=by
    intro a v hv
    rcases henc a with ⟨i,x,h1,h2,h3,_⟩ | h
    ·obtain ⟨l,l1,l2⟩:=v4 i x h1
     rw [h3] at l1;injection l1 with l1;subst l1
     refine Zf2 (fun c hc=>?_) l2 v hv
     have:=(ZbH.1 e6) x (Xr h1)
     exact Zg8 ((Zch.1 this) c hc)
    ·rw [h] at hv
     rcases List.mem_append.1 hv with hv | hv
     ·exact (hpre a).2 v hv
     ·rw [List.mem_replicate] at hv;rw [hv.2];rfl
   have hall:ks.map enc=VS:=by
    apply X6
    intro i
    rw [XX]
    by_cases hi:i < xs.length
    ·obtain ⟨a,ha⟩:∃ a,ks[i]?=some a:=⟨_,Xy (by omega)⟩
     obtain ⟨l,hl⟩:∃ l,VS[i]?=some l:=⟨_,Xy (by omega)⟩
     rw [ha,hl,XQ]
     congr 1
     simp only [enc,Zf9 hnd ha hl,Wt]
    ·rw [XT (by omega),XT (by omega)];rfl
   have hflat:(flatK enc k' ks.toArray).toList=us.toList.take (xs.length*k'):=by
    rw [ZsT hk hk0,List.flatMap_def,hall,<-v1]
   have hH:HoldsK enc k' w b 0 ks.toArray:=by
    intro j hj
    refine ⟨?_,by simp [World.frozen?,q2]⟩
    have hj':j < ks.length*k':=by simpa using hj
    rw [hzl] at hj'
    have h1:(us.toList.take (xs.length*k'))[j]?=(flatK enc k' ks.toArray).toList[j]?:=by rw [hflat]
    rw [Xag hj'] at h1
    simp only [World.cell?,q2,XC]
    simp only [W6,Xw,if_false]
    rw [<-Wm,h1,Wm,Xaa hj]
    have e:=getElem!_pos (flatK enc k' ks.toArray) j hj
    rw [e];rfl
   have hlt:b < w.heap.size:=(XB.1 q2).1
   have hcl:CmpLays P f' #[] enc k' cf b 0 ks.toArray.size w:=by
    intro q os dk _ x y
    obtain ⟨t1,ht1⟩:=hpr x
    obtain ⟨t2,ht2⟩:=hpr y
    have l1:=hk x
    have l2:=hk y
    rw [ht1,Xx,(hpre x).1] at l1
    rw [ht2,Xx,(hpre y).1] at l2
    rw [ht1,ht2]
    simpa using hcmp x y t1 t2 _ l1 l2
   have hS:=hsort enc hk h1c b 0 bi.cap ks.toArray w hcl hH hlt (by simp;omega)
   rw [show ks.toArray.size=xs.length by simp [hzl]] at hS
   refine hS.mono ?_
   rintro e w' ⟨rfl,nn,os,rfl⟩
   simp only [List.toList_toArray] at *
   have hml:(ks.mergeSort (leC cf)).length=ks.length:=XaK ks
   unfold sortWorldK putRowK
   have hsz:(flatK enc k' (ks.mergeSort (leC cf)).toArray).size=xs.length*k':=by rw [size_flatK];simp [hml,hzl]
   have hcap:xs.length*k'<=us.size:=by rw [q3];exact Nat.mul_le_mul_right k' e5
   generalize hfl:flatK enc k' (ks.mergeSort (leC cf)).toArray=FL at *
   have hfll:FL.toList=(ks.mergeSort (leC cf)).flatMap enc:=by rw [<-hfl,ZsT hk hk0]
   have hheap:(grow (putRow id (Sort.ahead w nn) b 0 FL) os).heap[b]?=some (.cells (putCells id 0 FL us) ty (0,0)):=by
    rw [heap_grow_old _ _ (by simpa using hlt)]
    simp [putRow,mapBlock,Sort.ahead,WN,q2,onCells]
   have htake:(putCells id 0 FL us).toList.take (xs.length*k')=(ks.mergeSort (leC cf)).flatMap enc:=by
    rw [<-hfll]
    apply X6
    intro j
    by_cases hj:j < xs.length*k'
    ·rw [Xag hj,Wm,Wm]
     have hj2:j < us.size:=by omega
     have hj3:j < FL.size:=by omega
     simp [putCells,hj2,hj3]
    ·rw [List.getElem?_take_eq_none (by omega),XT (by simp;omega)]
   have hperm:∀ a,a ∈ ks.mergeSort (leC cf)->a ∈ ks:=fun a ha=>(W4 ks _).mem_iff.1 ha
   have hown:Zd w β 0 (.row 0 k' xs) b:=by simp [Zd,e1,hb']
   have hlk:∀ a ∈ ks,∃ x ∈ xs,((ks.zip xs).lookup a).getD .nilp=x/\VRs I β x.cells (enc a):=by
    intro a ha
    obtain ⟨i,hi⟩:=List.mem_iff_getElem?.1 ha
    have hix:i < xs.length:=by have:=(Xd.1 hi).1;omega
    obtain ⟨x,hx⟩:∃ x,xs[i]?=some x:=⟨_,Xy hix⟩
    obtain ⟨l,l1,l2⟩:=v4 i x hx
    refine ⟨x,Xr hx,by rw [Zf9 hnd hi hx];rfl,?_⟩
    simp only [enc,Zf9 hnd hi l1,Wt]
    exact l2
   refine ⟨.tuple #[],rfl,I,β,Imm.le.refl I,KeptE.refl _ β,?_,by simp [Zam,VR,VRs]⟩
   have:=R.putAt (R.base_le hb) (t:=0) (b:=b) (x:=.row 0 k' xs) (x':=.row 0 k' (ZdJ cf xs ks)) (w':=grow (putRow id (Sort.ahead w nn) b 0 FL) os) rfl hown (by simp [Zd,e1,hb']) rfl rfl rfl rfl (by simp) (fun c hc hcl=>by
    rw [heap_grow_old _ _ (by simpa using hcl)]
    have : b≠c:=fun e=>hc e.symm
    simp [putRow,mapBlock,Sort.ahead,WN,this])
    ⟨bi,e1,e2,hk0,e4,by simp only [ZdJ,XH,hml];omega,?_,?_,XD ⟨b,_,ty,hb',hheap,by simp [putCells];omega,?_⟩⟩
   ·exact this
   ·rw [ZbH]
    intro x hx
    obtain ⟨a,ha,rfl⟩:=XK.1 hx
    obtain ⟨y,hy,e,_⟩:=hlk a (hperm a ha)
    rw [e]
    exact (ZbH.1 e6) y hy
   ·intro x hx
    obtain ⟨a,ha,rfl⟩:=XK.1 hx
    obtain ⟨y,hy,e,_⟩:=hlk a (hperm a ha)
    rw [e]
    exact e7 y hy
   ·have e9:(ZdJ cf xs ks).length=xs.length:=by simp only [ZdJ,XH,hml];omega
    rw [e9,htake]
    unfold ZdJ
    have key:∀ l:List κ,(∀ a ∈ l,a ∈ ks)->VRs I β ((l.map fun a=>((ks.zip xs).lookup a).getD .nilp).flatMap AVal.cells) (l.flatMap enc):=by
     intro l
     induction l with
     | nil=>intro _;simp [VRs]
     | cons a l ih =>
      intro hl
      rw [Xs,XS,XS]
      obtain ⟨y,hy,e,h⟩:=hlk a (hl a (by simp))
      rw [e]
      exact ZbB h (ih fun c hc=>hl c (by simp [hc]))
    exact key _ hperm
  ·have hx0:xs=[]:=XY (by omega)
   subst hx0
   simp only [Zbv,Xa] at hz
   subst hz
   refine (hnone A 0 _ w).mono ?_
   rintro e w' ⟨rfl,rfl⟩
   exact ⟨.tuple #[],rfl,I,β,Imm.le.refl I,KeptE.refl _ β,by simpa [ZdJ] using R,by simp [Zam,VR,VRs]⟩
 ·simp only [Xa,Xb] at hp
  obtain ⟨rfl,rfl⟩:=hp
  simp only [VRs] at hv
  obtain ⟨v,vs',rfl,hv,fv,vs'',rfl,hfv,rfl⟩:=hv
  simp only [VR] at hv
  obtain ⟨A,cap,rfl,_⟩:=hv
  refine (hnone A cap fv w).mono ?_
  rintro e w' ⟨rfl,rfl⟩
  exact ⟨.tuple #[],rfl,I,β,Imm.le.refl I,KeptE.refl _ β,R,by simp [Zam,VR,VRs]⟩
 ·cases hp
end
end
section
def Zdl {α:Type} (d:α):List (Nat×α)->Nat->α
 | [],_=>d
 | (k,v)::r,n=>if k=n then v else Zdl d r n
def ZaJ (own raw:List Nat) (cfg cfg2:List (Nat×Nat×Bool)) (lr ll:List (Nat×List Nat)):Ann:={ own:=fun n=>if own.contains n then 1 else if raw.contains n then 2 else if raw.contains (n+1000000) then 3 else if raw.contains (n+2000000) then 4 else if raw.contains (n+3000000) then 5 else 0,cfg:=Zdl (0,true) cfg,cfg2:=Zdl (0,true) cfg2,lr:=Zdl [] lr,ll:=Zdl [] ll }
def ZAr:List (Nat×Ann):=[
 (6,ZaJ [] [] [] [] [(0,[2,1]),(1,[3,2,1]),(2,[33,3,2,1]),(3,[3,2,1]),(4,[4,2,1]),(5,[5,4,2,1]),(6,[53,5,4,2,1]),(7,[5,4,2,1]),(8,[5,4,2,1]),(9,[71,4,2,1]),(10,[4,2]),(11,[2])] [(6,[5,4,2,1])]),
 (21,ZaJ [] [] [] [] [(0,[1]),(1,[3,1]),(2,[7,3,1]),(3,[3,1]),(4,[18,3,1]),(5,[3,1]),(6,[29,3,1]),(7,[3,1]),(8,[4,3,1]),(9,[45,4,3,1]),(10,[4,3,1]),(11,[4,3,1]),(12,[2])] [(9,[4,3,1])]),
 (33,ZaJ [] [] [] [] [(0,[0]),(1,[2]),(2,[2])] []),
 (47,ZaJ [] [] [] [] [(0,[2,0]),(1,[4,2,0]),(2,[0]),(3,[2,0]),(4,[8,2,0]),(5,[2,0]),(6,[2,0]),(7,[2])] []),
 (48,ZaJ [] [] [] [] [(0,[2,0]),(1,[4,2,0]),(2,[0]),(3,[2,0]),(4,[8,2,0]),(5,[2,0]),(6,[2,0]),(7,[14,2,0]),(8,[2,0]),(9,[2,0]),(10,[2])] []),
 (14,ZaJ [] [] [] [] [(0,[6,5,3,1]),(1,[7,6,5,3,1]),(2,[7,6,1]),(3,[7,6]),(4,[6])] []),
 (16,ZaJ [] [] [] [] [(0,[4,3,2]),(1,[5,4]),(2,[5,4]),(3,[4])] []),
 (8,ZaJ [] [3000011,3000040] [] [] [(0,[2,1]),(1,[5,2,1]),(2,[14,13,12,5,2]),(3,[15,14,13,12,5,2]),(4,[14,13,12,7,5,2]),(5,[33,14,13,12,7,5,2]),(6,[14,13,12,5,2]),(7,[14,13,12,5,2]),(8,[]),(12,[]),(13,[8]),(14,[4])] [(3,[14,13,12,5,2]),(10,[])]),
 (24,ZaJ [] [] [] [] [(0,[3,2]),(1,[4])] []),
 (22,ZaJ [] [] [] [] [(0,[4,2,1]),(1,[5,4,2,1]),(2,[6,5,4,2,1]),(3,[18,17,16,6,5,4,2]),(4,[19,18,17,16,6,5,4,2]),(5,[18,17,16,8,6,5,4,2]),(6,[18,17,16,8,6,5,4,2]),(7,[18,17,16,8,6,5,4,2]),(8,[39,18,17,16,8,6,5,4,2]),(9,[18,17,16,6,5,4,2]),(10,[18,17,16,6,5,4,2]),(11,[5,4]),(12,[5,4]),(13,[4])] [(4,[18,17,16,6,5,4,2])]),
 (30,ZaJ [] [] [(37,1,false)] [] [(0,[2,1]),(1,[2,1]),(2,[2,1]),(3,[15,14,2,1]),(4,[16,15,14,2,1]),(5,[15,14,3,2,1]),(6,[15,14,2,1]),(7,[15,14,2,1]),(8,[2])] [(4,[15,14,2,1])]),
 (60,ZaJ [] [] [] [] [(0,[0]),(1,[2])] []),
 (19,ZaJ [] [] [] [] [(0,[1,0]),(1,[8,1,0]),(2,[4]),(3,[4])] []),
 (20,ZaJ [] [] [] [] [(0,[2,1,0]),(1,[7,1,0]),(2,[7,1,0]),(3,[16,7,1,0]),(4,[1,0]),(5,[6])] []),
 (18,ZaJ [] [] [] [] [(0,[0]),(1,[3,0]),(2,[4,3,0]),(3,[12,4,3,0]),(4,[4,3,0]),(5,[4,3,0]),(6,[2])] [(3,[4,3,0])]),
 (3,ZaJ [] [] [] [] [(0,[2,1]),(1,[5,1]),(2,[5,1]),(3,[6,5,1]),(4,[7,6,5,1]),(5,[25,7,6,5,1]),(6,[7,6,5,1]),(7,[76,7,6,5,1]),(8,[4]),(9,[9,8,7,6,5,1]),(10,[10,9,8,7,6,5,1]),(11,[80,10,9,8,7,6,5,1]),(12,[10,9,8,7,6,5,1]),(13,[117,10,9,8,7,6,5,1]),(14,[10,9,8,7,6,5,1]),(15,[136,10,9,8,7,6,5,1]),(16,[10,9,8,7,6,5,1]),(17,[157,7,6,5,1]),(18,[4]),(19,[11,6,5,1]),(20,[161,11,6,5,1]),(21,[11,6,5,1]),(22,[12,11,6,5,1]),(23,[13,12,11,6,5,1]),(24,[188,13,12,11,6,5,1]),(25,[13,12,11,6,5,1]),(26,[13,12,11,6,5,1]),(27,[206,11,6,5,1]),(28,[4]),(29,[4])] [(5,[7,6,5,1]),(11,[10,9,8,7,6,5,1]),(20,[11,6,5,1]),(24,[13,12,11,6,5,1])]),
 (4,ZaJ [] [] [] [] [(0,[2,1]),(1,[5,1]),(2,[5,1]),(3,[6,5,1]),(4,[7,6,5,1]),(5,[20,7,6,5,1]),(6,[7,6,5,1]),(7,[7,6,5,1]),(8,[9,8]),(9,[40,9,8]),(10,[4]),(11,[10,9,8]),(12,[44,10,9,8]),(13,[10,9,8]),(14,[71,10,9,8]),(15,[4]),(16,[4])] [(5,[7,6,5,1]),(12,[10,9,8])]),
 (5,ZaJ [] [] [] [] [(0,[5,3,1]),(1,[7,5,3,1]),(2,[7,5,3,1]),(3,[8,7,5,3,1]),(4,[9,7,5,3,1]),(5,[10,9,7,5,3,1]),(6,[28,9,7,5,3,1]),(7,[10,9,7,5,3,1]),(9,[6]),(10,[47,9,7,5,3]),(11,[6]),(12,[11,9,7,5,3]),(13,[51,11,9,7,5,3]),(14,[11,9,7,5,3]),(15,[12,11,9,7,5,3]),(16,[63,12,11,9,7,5,3]),(17,[12,11,9,7,5,3]),(18,[12,11,9,7,5,3]),(19,[13,11,9,7,5,3]),(20,[83,13,11,9,7,5,3]),(21,[13,11,9,7,5,3]),(22,[96,13,11,9,7,5,3]),(23,[6]),(24,[6])] [(6,[10,9,7,5,3,1]),(13,[11,9,7,5,3]),(16,[12,11,9,7,5,3]),(20,[13,11,9,7,5,3])]),
 (11,ZaJ [] [] [] [] [(0,[1,0]),(1,[10,1,0]),(2,[4]),(3,[5,1,0]),(4,[14,5,1,0]),(5,[5,1,0]),(6,[41,5,1,0]),(7,[4]),(8,[4])] [(4,[5,1,0])]),
 (7,ZaJ [] [] [] [] [(0,[0]),(1,[3,0]),(2,[4,3,0]),(3,[13,4,3,0]),(4,[4,3,0]),(5,[5,4,3,0]),(6,[5,4,3,0]),(7,[4,3,0]),(8,[2])] [(3,[4,3,0])]),
 (9,ZaJ [] [] [] [] [(0,[]),(1,[1]),(2,[0])] []),
 (35,ZaJ [] [] [] [] [(0,[3,2]),(1,[4])] []),
 (29,ZaJ [] [] [] [] [(0,[1,0]),(1,[10,1,0]),(2,[4]),(3,[5,1,0]),(4,[14,5,1,0]),(5,[5,1,0]),(6,[26,5,1,0]),(7,[4]),(8,[4])] [(4,[5,1,0])]),
 (26,ZaJ [] [] [] [] [(0,[1,0]),(1,[5,1,0]),(2,[18,5,1,0]),(3,[5,1,0]),(4,[32,5,1,0]),(5,[4]),(6,[6,5,1,0]),(7,[4])] [(2,[5,1,0])]),
 (13,ZaJ [] [] [] [] [(0,[3,2]),(1,[4])] []),
 (10,ZaJ [] [] [] [] [(0,[3,2]),(1,[41,3,2]),(2,[4]),(3,[5,3,2]),(4,[46,5,3,2]),(5,[5,3,2]),(6,[59,5,3,2]),(7,[4]),(8,[4])] [(4,[5,3,2])]),
 (15,ZaJ [] [] [] [] [(0,[6,5,3,1]),(1,[7,6,5]),(2,[24,7,6,5]),(3,[7,6]),(4,[6])] []),
 (17,ZaJ [] [] [] [] [(0,[4,3,2]),(1,[5,4]),(2,[5,4]),(3,[4])] []),
 (12,ZaJ [] [] [] [] [(0,[2,1]),(1,[5,2,1]),(2,[6,5,2,1]),(3,[17,6,5,2,1]),(4,[6,5,2,1]),(5,[41,6,5,2,1]),(6,[6,5,2,1]),(7,[7,5,2,1]),(8,[8,7,5,2,1]),(9,[52,8,7,5,2,1]),(10,[8,7,5,2,1]),(11,[9,8,7,5,2,1]),(12,[11,10,9,8,7,5,2,1]),(13,[12,11,10,9,8,7,5,2,1]),(14,[60,12,11,10,9,8,7,5,2,1]),(15,[12,11,10,9,8,7,5,2,1]),(16,[13,12,11,10,9,8,7,5,2,1]),(17,[90,13,12,11,10,9,8,7,5,2,1]),(18,[95,13,12,11,10,9,8,7,5,2,1]),(19,[13,12,11,10,9,8,7,5,2,1]),(20,[13,12,11,10,9,8,7,5,2,1]),(21,[108,13,12,11,10,9,8,7,5,2,1]),(22,[12,11,10,9,8,7,5,2,1]),(23,[11,9,8,7,5,2,1]),(24,[9,8,7,5,2,1]),(25,[8,7,5,2,1]),(26,[4])] [(3,[6,5,2,1]),(9,[8,7,5,2,1]),(14,[12,11,10,9,8,7,5,2,1])]),
 (28,ZaJ [] [] [] [] [(0,[1,0]),(1,[7,1,0]),(2,[4]),(3,[4])] []),
 (27,ZaJ [] [] [] [] [(0,[1,0]),(1,[5,1,0]),(2,[18,5,1,0]),(3,[5,1,0]),(4,[6,5,1,0]),(5,[4])] [(2,[5,1,0])]),
 (1000000,{})]
def ann:Nat->Ann:=Zdl {} ZAr
def ZzP:List (Nat×Bool):=[
 (31,true),
 (23,true),
 (1000000,false)]
def BY:Nat->Bool:=Zdl false ZzP
noncomputable def CF:Nat->Option Zan:=ZgF Try.prog ann
noncomputable def FC:Nat->Option Zan:=fun f=>(CF f).map ZhW
def Ztl:List (Nat×Option (List AVal->Za->Option (AVal×Za))):=[
 (36,some (Zen 1 1)),
 (37,some (Zen 5 72)),
 (31,some (Zin)),
 (23,some (ZfQ 15 24 Ze8 Go.Lib.compareBytes)),
 (8,some (Zqa)),
 (1000000,none)]
def PR:Zbu:=Zdl none Ztl
theorem xw (c d:Zq) (h:c=d) (m:Nat) (tm:Tms) (σ:Za):evC FC PR BY m c tm σ=evC FC PR BY m d tm σ:=by rw [h]
noncomputable abbrev E:ZY:=EV FC PR BY
theorem ZcQ {f:Nat} {fn:Zan} (hp:PR f=none) (hf:FC f=some fn) (args:List AVal) (σ:Za):E f args σ=ZaF σ.length fn (evC FC PR BY σ.length fn.body (enterA 0 args []) σ):=Zvo hp hf args σ
end
section
open Go.RowKit
inductive Ty where
 | bool
 | int (k:IntKind)
 | str
 | slice (s:Bool) (e:Ty)
 | struct (fs:List Ty)
 deriving Inhabited
def ZcK:Option TypeDesc->Bool
 | some (.struct _)=>true
 | some (.array _ _)=>true
 | _=>false
def Zgm (P:Program):Nat->List Field->Nat->Bool
 | at',[],n=>at' == n
 | at',f::fs,n=>f.offset == at' && Zgm P (at'+P.cellsOf f.type) fs n
def Zcx (P:Program):Nat->TypeId->Option Ty
 | 0,_=>none
 | n+1,t=>match P.underlying t with
  | some .bool=>some .bool
  | some (.int k)=>some (.int k)
  | some .string=>some .str
  | some (.slice e)=>if 0 < P.cellsOf e then (Zcx P n e).map (.slice (ZcK (P.underlying e))) else none
  | some (.struct fs)=>if Zgm P 0 fs.toList (P.cellsOf t) then (fs.toList.mapM fun f=>Zcx P n f.type).map .struct else none
  | _=>none
def Zbp (s:Bool) (y:List AVal):AVal:=if s then .agg y else y.headD .nilp
mutual
def TyC:Ty->List AVal->Prop
 | .bool,xs=>∃ b,xs=[.bool b]
 | .int k,xs=>∃ n,(Lit.int k n).wf=true/\xs=[.int k n]
 | .str,xs=>∃ l:List UInt8,l.length<=9223372036854775807/\xs=[.str l]
 | .slice s e,xs=>∃ ys:List (List AVal),xs=[.lst false (ys.map (Zbp s))]/\ys.length<=9223372036854775807/\∀ y ∈ ys,TyC e y
 | .struct fs,xs=>Zdi fs xs
def Zdi:List Ty->List AVal->Prop
 | [],xs=>xs=[]
 | f::fs,xs=>∃ a b,xs=a++b/\TyC f a/\Zdi fs b
end
def Imm.of (w:World):Imm:=fun b o=>w.cell? ⟨b,o,none⟩
section
variable {H:Type} {enc:TypeId×Value->H} {P:Program} {w:World} {spare:Nat->Bool} {held:Bool}
theorem Zwl {b off:Nat} {s:Option Nat} {u:Value} (h:w.cell? ⟨b,off,s⟩=some u):s=none:=by
 unfold World.cell? at h
 split at h
 ·rcases s with _ | s
  ·rfl
  ·simp at h
 ·cases h
theorem Zzf {s:Bool} {y:List AVal} (h:s=false->y.length=1) (h1:s=false->∀ x ∈ y,ZT x=true):(Zbp s y).cells=y:=by
 cases s with
 | true=>rfl
 | false =>
  match y,h rfl with
  | [x],_ =>
   have:=h1 rfl x (by simp)
   cases x <;> simp_all [Zbp,AVal.cells,ZT]
theorem ZzL {a:Addr} (h:a.spot=none) (n:Nat):a.add n=⟨a.block,a.off+n,none⟩:=by
 unfold Addr.add
 split
 ·rename_i e;subst e;cases a;simp_all
 ·rfl
theorem ZzC {I:Imm} {β:Bmap} {xs:List AVal} {vs:List Value} {n:Nat} (h:VRs I β xs (vs.take n)) {ys:List AVal} (h':VRs I β ys (vs.drop n)):VRs I β (xs++ys) vs:=by
 have:=ZbB h h'
 rwa [XaJ] at this
theorem Zun {α β:Type} {f:α->Option β} {a:α} {l:List α} {r:List β} (h:(a::l).mapM f=some r):∃ b r',f a=some b/\l.mapM f=some r'/\r=b::r':=by
 rw [List.mapM_cons] at h
 simp only [Option.bind_eq_bind,Option.bind_eq_some_iff,Option.pure_def,Xa] at h
 obtain ⟨b,h1,r',h2,h3⟩:=h
 exact ⟨b,r',h1,h2,h3.symm⟩
theorem ZzB {a b:List AVal} (ha:Zak a=true) (hb:Zak b=true):Zak (a++b)=true:=by
 induction a with
 | nil=>exact hb
 | cons x a ih=>simp only [Wp,Zak,Xl] at ha ⊢;exact ⟨ha.1,ih ha.2⟩
theorem Ztm {n fuel:Nat} {cs:List Value} (ih:∀ (t:TypeId) (cs:List Value) (x:DataW H×List MemPlace) (T:Ty),Zcx P n t=some T->DataW.trod enc P w 0 spare held fuel t cs=some x->∃ xs,TyC T xs/\VRs (Imm.of w) B0 xs cs/\Zak xs=true) :
  ∀ (fs:List Field) (at':Nat) (Ts:List Ty) (ys:List (DataW H×List MemPlace)),Zgm P at' fs cs.length=true->fs.mapM (fun f=>Zcx P n f.type)=some Ts ->
   fs.mapM (fun f=>DataW.trod enc P w 0 spare held fuel f.type ((cs.drop f.offset).take (P.cellsOf f.type)))=some ys->∃ xs,Zdi Ts xs/\VRs (Imm.of w) B0 xs (cs.drop at')/\Zak xs=true
 | [],at',Ts,ys,ho,hT,_=>by
  simp only [Zgm,beq_iff_eq] at ho
  simp only [List.mapM_nil,Option.pure_def,Xa] at hT
  subst hT ho
  exact ⟨[],by simp only [Zdi],by simp [VRs],rfl⟩
 | f::fs,at',Ts,ys,ho,hT,h=>by
  simp only [Zgm,Xl,beq_iff_eq] at ho
  obtain ⟨T,Ts',h1,h2,rfl⟩:=Zun hT
  obtain ⟨y,ys',h3,h4,rfl⟩:=Zun h
  obtain ⟨a,a1,a2,a3⟩:=ih _ _ _ _ h1 h3
  obtain ⟨b,b1,b2,b3⟩:=Ztm ih fs _ _ _ ho.2 h2 h4
  rw [ho.1] at a2
  refine ⟨a++b,by simp only [Zdi];exact ⟨a,b,rfl,a1,b1⟩,ZzC a2 (by rw [List.drop_drop];exact b2),ZzB a3 b3⟩
theorem Ztu {I:Imm} {β:Bmap} {s:Bool} {k b:Nat}:∀ (n off:Nat) (Y:Nat->List AVal),(∀ i,i < n->(Zbp s (Y i)).cells.length=k/\CR I β (Zbp s (Y i)).cells b (off+i*k))->LR I β k ((WH n).map fun i=>Zbp s (Y i)) b off
 | 0,off,Y,_=>by simp [LR]
 | n+1,off,Y,h=>by
  rw [List.range_succ_eq_map,Xs,Ze2]
  have h0:=h 0 (by omega)
  simp only [XaW,Wf] at h0
  refine ⟨h0,?_⟩
  rw [Wn]
  exact Ztu n (off+k) (fun i=>Y (i+1)) (fun i hi=>by
   have:=h (i+1) (by omega)
   rw [show off+k+i*k=off+(i+1)*k by rw [Xba];omega]
   exact this)
theorem Zty {I:Imm} {β:Bmap} {b:Nat}:∀ (xs:List AVal) (cs:List Value) (off:Nat),VRs I β xs cs->(∀ i,i < cs.length->I b (off+i)=cs[i]?)->CR I β xs b off
 | [],_,_,_,_=>by simp only [CR]
 | x::xs,cs,off,h,hI=>by
  simp only [VRs] at h
  obtain ⟨v,vs',rfl,h1,h2⟩:=h
  simp only [CR]
  refine ⟨⟨v,by have:=hI 0 (by simp);simpa using this,h1⟩,Zty xs vs' (off+1) h2 fun i hi=>?_⟩
  have:=hI (i+1) (by simp;omega)
  rw [show off+1+i=off+(i+1) by omega,this]
  simp
theorem ZnO {s:Bool}:∀ (n:Nat) (Y:Nat->List AVal),(∀ i,i < n->Zak (Zbp s (Y i)).cells=true)->Z4 ((WH n).map fun i=>Zbp s (Y i))=true
 | 0,Y,_=>by simp [Z4]
 | n+1,Y,h=>by
  rw [List.range_succ_eq_map,Xs,Zvc,h 0 (by omega),Wn]
  simp only [XaC]
  exact ZnO n (fun i=>Y (i+1)) (fun i hi=>h (i+1) (by omega))
theorem ZsM {xs:List AVal} (h:Zak xs=true):∀ x ∈ xs,ZT x=true:=by
 induction xs with
 | nil=>intro x hx;simp at hx
 | cons y ys ih =>
  simp only [Zak,Xl] at h
  intro x hx
  rcases XJ.1 hx with rfl | hx
  ·cases x <;> simp_all [Zal,ZT]
  ·exact ih h.2 x hx
theorem Zvt {n:Nat} {e:TypeId} {T:Ty} (hT:Zcx P n e=some T) (hs:ZcK (P.underlying e)=false) {xs:List AVal} (h:TyC T xs):xs.length=1:=by
 cases n with
 | zero=>simp [Zcx] at hT
 | succ n =>
  simp only [Zcx] at hT
  split at hT
  ·injection hT with hT;subst hT;simp only [TyC] at h;obtain ⟨_,rfl⟩:=h;rfl
  ·injection hT with hT;subst hT;simp only [TyC] at h;obtain ⟨_,_,rfl⟩:=h;rfl
  ·injection hT with hT;subst hT;simp only [TyC] at h;obtain ⟨_,_,rfl⟩:=h;rfl
  ·split at hT
   ·simp only [Xm] at hT
    obtain ⟨T',_,rfl⟩:=hT
    simp only [TyC] at h;obtain ⟨_,rfl,_⟩:=h;rfl
   ·cases hT
  ·rename_i hu;rw [hu] at hs;simp [ZcK] at hs
  ·cases hT
theorem Zr1:∀ (n fuel:Nat) (t:TypeId) (cs:List Value) (x:DataW H×List MemPlace) (T:Ty),Zcx P n t=some T->DataW.trod enc P w 0 spare held fuel t cs=some x ->
  ∃ xs,TyC T xs/\VRs (Imm.of w) B0 xs cs/\Zak xs=true
 | 0,fuel,t,cs,x,T,hT,_=>by simp [Zcx] at hT
 | n+1,0,t,cs,x,T,_,h=>by simp [DataW.trod] at h
 | n+1,fuel+1,t,cs,x,T,hT,h=>by
  have h0:=h
  simp only [Zcx] at hT
  unfold DataW.trod at h
  split at hT
  ·rename_i hu
   injection hT with hT;subst hT
   obtain ⟨b,rfl,_⟩:=DataW.trod_bool hu h0
   exact ⟨[.bool b],by simp only [TyC];exact ⟨b,rfl⟩,by simp [VRs,VR],rfl⟩
  ·rename_i k hu
   injection hT with hT;subst hT
   obtain ⟨n',rfl,_,hk⟩:=DataW.trod_int hu h0
   exact ⟨[.int k n'],by simp only [TyC];exact ⟨n',hk,rfl⟩,by simp [VRs,VR],rfl⟩
  ·rename_i hu
   injection hT with hT;subst hT
   obtain ⟨s,rfl,_,hs⟩:=DataW.trod_string hu h0
   have hs':s.data.toList.length<=9223372036854775807:=by
    rw [XR];exact Nat.le_trans hs (by simp [maxLen])
   exact ⟨[.str s.data.toList],by simp only [TyC];exact ⟨_,hs',rfl⟩,by simp only [VRs,VR];exact ⟨_,_,rfl,⟨by simp,hs'⟩,rfl⟩,rfl⟩
  ·rename_i e hu
   split at hT
   case isFalse=>cases hT
   rename_i hc
   simp only [Xm] at hT
   obtain ⟨T,hT,rfl⟩:=hT
   rcases Go.Deep.open_slice hu h0 with ⟨hcs,_⟩ | ⟨a,len,cap,m,n',D,Pl,hcs,_,hl,hm,hmm,_,hi⟩
   ·subst hcs
    exact ⟨[.lst false []],by simp only [TyC];exact ⟨[],by simp,by simp,by simp⟩,by simp only [VRs,VR];exact ⟨_,_,rfl,⟨none,0,rfl,by simp,by simp,by simp,by simp,by simp [Z4]⟩,rfl⟩,rfl⟩
   ·have hlm:len<=m:=by split at hmm <;> omega
    have hspot:0 < len->a.spot=none:=by
     intro h0
     obtain ⟨cs',h1,h2⟩:=hi 0 (by omega)
     obtain ⟨_,h6,h7⟩:=World.cells?_some h1
     have h8:=h7 0 hc
     obtain ⟨u,hu⟩:∃ u,cs'[0]?=some u:=⟨cs'[0]'(by omega),by simp⟩
     rw [hu] at h8
     simp only [XaW,Addr.add,if_true] at h8
     exact Zwl (b:=a.block) (off:=a.off) (s:=a.spot) (u:=u) h8
    have hall:∀ i,∃ xs,i < len->TyC T xs/\(Zbp (ZcK (P.underlying e)) xs).cells=xs/\xs.length=P.cellsOf e/\CR (Imm.of w) B0 xs a.block (a.off+i*P.cellsOf e)/\Zak xs=true:=by
     intro i
     by_cases hlt:i < len
     ·obtain ⟨cs',h1,h2⟩:=hi i (by omega)
      obtain ⟨xs,h3,h4,h5⟩:=Zr1 n n' e cs' _ T hT h2
      obtain ⟨_,h6,h7⟩:=World.cells?_some h1
      have hlen:=Z9 h4
      refine ⟨xs,fun _=>⟨h3,Zzf (fun hs=>Zvt hT hs h3) (fun _=>ZsM h5),by omega,Zty xs cs' _ h4 (fun j hj=>?_),h5⟩⟩
      have h8:=h7 j (by omega)
      rw [Go.Deep.add_add,ZzL (hspot (by omega)),<-WE] at h8
      exact h8
     ·exact ⟨[],fun h=>absurd h hlt⟩
    obtain ⟨Y,hY⟩:=Classical.axiomOfChoice hall
    subst hcs
    have hmx:maxLen=9223372036854775807:=by simp [maxLen]
    rw [hmx] at hm
    refine ⟨[.lst false ((WH len).map fun i=>Zbp (ZcK (P.underlying e)) (Y i))],?_,?_,?_⟩
    ·simp only [TyC]
     refine ⟨(WH len).map Y,by rw [Wn];rfl,by simp;omega,?_⟩
     intro y hy
     obtain ⟨i,hi',rfl⟩:=XK.1 hy
     exact (hY i (List.mem_range.1 hi')).1
    ·simp only [VRs,VR,XH,List.length_range]
     refine ⟨_,_,rfl,⟨some a,cap,rfl,hl,hm,by simp,?_,ZnO len Y fun i hlt=>by rw [(hY i hlt).2.1];exact (hY i hlt).2.2.2.2⟩,rfl⟩
     cases len with
     | zero=>exact Xv (by simp)
     | succ len =>
      refine XD ⟨a.block,a.off,P.cellsOf e,?_,hc,Ztu (len+1) a.off Y fun i hlt=>?_⟩
      ·have:=hspot (by omega)
       cases a;simp_all
      ·rw [(hY i hlt).2.1];exact ⟨(hY i hlt).2.2.1,(hY i hlt).2.2.2.1⟩
    ·simp only [Zak,Zal,Xa6]
     exact ZnO len Y fun i hlt=>by rw [(hY i hlt).2.1];exact (hY i hlt).2.2.2.2
  ·rename_i fs hu
   split at hT
   case isFalse=>cases hT
   rename_i ho
   simp only [Xm] at hT
   obtain ⟨Ts,hT,rfl⟩:=hT
   rw [hu] at h
   simp only at h
   split at h
   ·rename_i hl
    simp only [Xm] at h
    obtain ⟨ys,hy,rfl⟩:=h
    obtain ⟨xs,h1,h2,h3⟩:=Ztm (fun t cs x T h h'=>Zr1 n fuel t cs x T h h') fs.toList 0 Ts ys (by rw [hl];exact ho) hT hy
    exact ⟨xs,by simp only [TyC];exact h1,h2,h3⟩
   ·cases h
  ·cases hT
def ZoX (s:Bool) (T:Ty) (x:AVal):Prop:=∃ xs,TyC T xs/\x=Zbp s xs
theorem ZuB {n:Nat} {t:TypeId} {v:Value} {d:DataW H} {ps:List MemPlace} {T:Ty} {r:Reach} {b0:Nat} (hT:Zcx P n t=some T) (hv:Value.okWide P w r b0 t v) (h:DataW.Trod enc P w 0 spare held t v d ps) :
  ∃ x,ZoX (ZcK (P.underlying t)) T x/\VR (Imm.of w) B0 x v/\Zak x.cells=true:=by
 obtain ⟨fuel,h⟩:=h
 obtain ⟨xs,h1,h2,h3⟩:=Zr1 n fuel t _ _ T hT h
 refine ⟨Zbp (ZcK (P.underlying t)) xs,⟨xs,h1,rfl⟩,?_⟩
 by_cases hs:ZcK (P.underlying t)=true
 ·have : ∃ cs,v=.agg cs:=by
   unfold Value.okWide at hv
   cases hu:P.underlying t with
   | none=>rw [hu] at hs;simp [ZcK] at hs
   | some dd =>
    rw [hu] at hv hs
    cases dd <;> first | (simp [ZcK] at hs;done) | (obtain ⟨cs,e,_⟩:=hv;exact ⟨cs,e⟩)
  obtain ⟨cs,rfl⟩:=this
  rw [hs]
  exact ⟨by simp only [Zbp,if_true,VR];exact ⟨cs,rfl,h2⟩,h3⟩
 ·have hs':ZcK (P.underlying t)=false:=by simpa using hs
  have hl:=Zvt hT hs' h1
  have hlen:=Z9 h2
  rw [hs']
  match xs,hl with
  | [x],_ =>
   simp only [Zbp,Xw,if_false,Xbb]
   have hvc:v.cells=#[v]:=by
    cases n with
    | zero=>simp [Zcx] at hT
    | succ n =>
     simp only [Zcx] at hT
     split at hT
     ·rename_i hu;obtain ⟨b,rfl⟩:=Go.WideShapes.okWide_bool hu hv;rfl
     ·rename_i k hu;obtain ⟨b,rfl⟩:=Go.WideShapes.okWide_int hu hv;rfl
     ·rename_i hu;obtain ⟨b,rfl⟩:=Go.WideShapes.okWide_string hu hv;rfl
     ·rename_i e hu;obtain ⟨a,l,c,rfl⟩:=Go.WideShapes.okWide_slice hu hv;rfl
     ·rename_i fs hu;rw [hu] at hs';simp [ZcK] at hs'
     ·cases hT
   rw [hvc] at h2
   simp only [VRs] at h2
   obtain ⟨v',vs',e,h2,_⟩:=h2
   simp only [List.cons.injEq] at e
   rw [e.1]
   refine ⟨h2,?_⟩
   have hok:=ZsM h3 x (by simp)
   have hx:x.cells=[x]:=by cases x <;> first | rfl | (simp [ZT] at hok;done)
   rw [hx];exact h3
theorem Rel.start (w:World) (hG:Gl.le (Imm.of w)):Rel (fun b=>b < w.heap.size) w (Imm.of w) (Imm.of w) B0 [] w where
 below:=KB.refl _ w
 old:=fun _ _ _=>rfl
 imm:=fun _ _ _ h=>h
 blk:=fun t x h=>by simp at h
 own:=fun t x b h=>by simp at h
 apart:=fun t x t' x' b h=>by simp at h
 fresh:=fun _ _ _=>rfl
 free:=fun t g h=>by simp at h
 gen:=fun t b g h=>by simp at h
 glob:=hG
 ro:=fun t x b h=>by simp at h
theorem Zv4 {O:ZY} (hO:Zaf P O) {f:Nat} {args:List AVal} {vs:Array Value} {σ':Za} (hG:Gl.le (Imm.of w)) (hargs:VRs (Imm.of w) B0 args vs.toList) (h:O f args []=some (.bool true,σ')) :
  Calls P f vs w (fun e w'=>e=.returned (.bool true)/\Below w.heap.size w w'):=by
 refine ((hO f args [] _ _ h).2 _ w _ _ B0 w vs (fun b hb=>hb) (Rel.start w hG) hargs).mono ?_
 rintro e w' ⟨u,he,I',β',_,_,R,hv⟩
 simp only [Zam,VR] at hv
 subst hv
 exact ⟨he,R.below.os,R.below.tape,R.below.output,R.below.size,R.below.block⟩
end
end
section
open Go.Shelf
def ZxZ:Ren:=⟨fun | 106=>25 | 213=>34 | 265=>49 | n=>n,fun | 9=>9 | 3=>3 | n=>n,fun | n=>n⟩
theorem Zww:Go.Proofs.Lays.n106 Try.prog ZxZ:={ mixed:=by kernel_rfl,f106:=Try.func25.trans (congrArg some (by kernel_rfl)),f213:=Try.func34.trans (congrArg some (by kernel_rfl)),f265:=Try.func49.trans (congrArg some (by kernel_rfl)),t3:=Try.underlying3,a3:=Try.isAgg3,z3:=Try.sizeOf3,v3:=Try.zeroValue3,t9:=Try.underlying9,a9:=Try.isAgg9,z9:=Try.sizeOf9,v9:=Try.zeroValue9 }
def ZzH:Ren:=⟨fun | 6=>23 | 15=>33 | 14=>32 | 28=>47 | 29=>48 | 20=>39 | 21=>40 | 22=>41 | 23=>42 | 24=>43 | 25=>44 | 26=>45 | 27=>46 | 46=>59 | 47=>60 | 48=>61 | 49=>62 | 50=>63 | 57=>68 | n=>n,fun | 22=>36 | 24=>39 | 25=>63 | 3=>3 | 39=>76 | 0=>0 | 53=>90 | 55=>92 | 4=>4 | 46=>83 | 45=>82 | 50=>87 | 5=>5 | 9=>9 | 66=>99 | 70=>103 | 76=>108 | 77=>109 | n=>n,fun | n=>n⟩
theorem ZsJ:Go.Proofs.SlLaysF0.n6 Try.prog ZzH:={ mixed:=by kernel_rfl,f6:=⟨"slices.SortFunc[[]tidings/route.Give,tidings/route.Give]",by kernel_rfl,Try.func23.trans (congrArg some (by kernel_rfl))⟩,f14:=⟨"slices.pdqsortCmpFunc[tidings/route.Give]",by kernel_rfl,Try.func32.trans (congrArg some (by kernel_rfl))⟩,f15:=Try.func33.trans (congrArg some (by kernel_rfl)),f20:=⟨"slices.insertionSortCmpFunc[tidings/route.Give]",by kernel_rfl,Try.func39.trans (congrArg some (by kernel_rfl))⟩,f21:=⟨"slices.heapSortCmpFunc[tidings/route.Give]",by kernel_rfl,Try.func40.trans (congrArg some (by kernel_rfl))⟩,f22:=⟨"slices.breakPatternsCmpFunc[tidings/route.Give]",by kernel_rfl,Try.func41.trans (congrArg some (by kernel_rfl))⟩,f23:=⟨"slices.choosePivotCmpFunc[tidings/route.Give]",by kernel_rfl,Try.func42.trans (congrArg some (by kernel_rfl))⟩,f24:=⟨"slices.reverseRangeCmpFunc[tidings/route.Give]",by kernel_rfl,Try.func43.trans (congrArg some (by kernel_rfl))⟩,f25:=⟨"slices.partialInsertionSortCmpFunc[tidings/route.Give]",by kernel_rfl,Try.func44.trans (congrArg some (by kernel_rfl))⟩,f26:=⟨"slices.partitionEqualCmpFunc[tidings/route.Give]",by kernel_rfl,Try.func45.trans (congrArg some (by kernel_rfl))⟩,f27:=⟨"slices.partitionCmpFunc[tidings/route.Give]",by kernel_rfl,Try.func46.trans (congrArg some (by kernel_rfl))⟩,f28:=Try.func47.trans (congrArg some (by kernel_rfl)),f29:=Try.func48.trans (congrArg some (by kernel_rfl)),f46:=⟨"slices.siftDownCmpFunc[tidings/route.Give]",by kernel_rfl,Try.func59.trans (congrArg some (by kernel_rfl))⟩,f47:=Try.func60.trans (congrArg some (by kernel_rfl)),f48:=Try.func61.trans (congrArg some (by kernel_rfl)),f49:=⟨"slices.medianAdjacentCmpFunc[tidings/route.Give]",by kernel_rfl,Try.func62.trans (congrArg some (by kernel_rfl))⟩,f50:=⟨"slices.medianCmpFunc[tidings/route.Give]",by kernel_rfl,Try.func63.trans (congrArg some (by kernel_rfl))⟩,f57:=⟨"slices.order2CmpFunc[tidings/route.Give]",by kernel_rfl,Try.func68.trans (congrArg some (by kernel_rfl))⟩,t0:=Try.underlying0,a0:=Try.isAgg0,z0:=Try.sizeOf0,v0:=Try.zeroValue0,t3:=Try.underlying3,a3:=Try.isAgg3,z3:=Try.sizeOf3,v3:=Try.zeroValue3,t4:=Try.underlying4,a4:=Try.isAgg4,z4:=Try.sizeOf4,v4:=Try.zeroValue4,t5:=Try.underlying5,a5:=Try.isAgg5,z5:=Try.sizeOf5,v5:=Try.zeroValue5,t9:=Try.underlying9,a9:=Try.isAgg9,z9:=Try.sizeOf9,v9:=Try.zeroValue9,t22:=Try.underlying36,a22:=Try.isAgg36,z22:=Try.sizeOf36,v22:=Try.zeroValue36,t25:=Try.underlying63,a25:=Try.isAgg63,z25:=Try.sizeOf63,v25:=Try.zeroValue63,t39:=Try.underlying76,a39:=Try.isAgg76,z39:=Try.sizeOf76,v39:=Try.zeroValue76,t45:=Try.underlying82,a45:=Try.isAgg82,z45:=Try.sizeOf82,v45:=Try.zeroValue82,t46:=Try.underlying83,a46:=Try.isAgg83,z46:=Try.sizeOf83,v46:=Try.zeroValue83,t50:=Try.underlying87,a50:=Try.isAgg87,z50:=Try.sizeOf87,v50:=Try.zeroValue87,t53:=Try.underlying90,a53:=Try.isAgg90,z53:=Try.sizeOf90,v53:=Try.zeroValue90,t55:=Try.underlying92,a55:=Try.isAgg92,z55:=Try.sizeOf92,v55:=Try.zeroValue92,t66:=Try.underlying99,a66:=Try.isAgg99,z66:=Try.sizeOf99,v66:=Try.zeroValue99,t70:=Try.underlying103,a70:=Try.isAgg103,z70:=Try.sizeOf103,v70:=Try.zeroValue103,t76:=Try.underlying108,a76:=Try.isAgg108,z76:=Try.sizeOf108,v76:=Try.zeroValue108,t77:=Try.underlying109,a77:=Try.isAgg109,z77:=Try.sizeOf109,v77:=Try.zeroValue109 }
end
section
open Go.RowKit Go.Sort Go.Lib
set_option maxRecDepth 100000
theorem Zwj (a b:List UInt8) (us vs:List Value) (W:World) (hu:1+us.length=15) (hv:1+vs.length=15):Calls Try.prog 24 #[.agg ([Value.string ⟨a.toArray⟩]++us).toArray,.agg ([Value.string ⟨b.toArray⟩]++vs).toArray] W fun e w'=>e=.returned (.int .i64 (Lib.compareBytes a b))/\∃ q os',w'=grow (W.drewN q) os':=by
 have hcon:=fun W'=>Any.strings_Compare Zww ⟨a.toArray⟩ ⟨b.toArray⟩ W'
 change ∀ W',Calls Try.prog 25 _ _ _ at hcon
 simp only [List.toList_toArray] at hcon
 generalize Lib.compareBytes a b=r at hcon ⊢
 generalize (⟨a.toArray⟩:ByteArray)=A1 at *
 generalize (⟨b.toArray⟩:ByteArray)=B1 at *
 obtain ⟨u1,u2,u3,u4,u5,u6,u7,u8,u9,u10,u11,u12,u13,u14,rfl⟩:∃ u1 u2 u3 u4 u5 u6 u7 u8 u9 u10 u11 u12 u13 u14,us=[u1,u2,u3,u4,u5,u6,u7,u8,u9,u10,u11,u12,u13,u14]:=by
  match us,hu with
  | [u1,u2,u3,u4,u5,u6,u7,u8,u9,u10,u11,u12,u13,u14],_=>exact ⟨u1,u2,u3,u4,u5,u6,u7,u8,u9,u10,u11,u12,u13,u14,rfl⟩
  | _::_::_::_::_::_::_::_::_::_::_::_::_::_::_::_,h=>simp at h;omega
 obtain ⟨v1,v2,v3,v4,v5,v6,v7,v8,v9,v10,v11,v12,v13,v14,rfl⟩:∃ u1 u2 u3 u4 u5 u6 u7 u8 u9 u10 u11 u12 u13 u14,vs=[u1,u2,u3,u4,u5,u6,u7,u8,u9,u10,u11,u12,u13,u14]:=by
  match vs,hv with
  | [u1,u2,u3,u4,u5,u6,u7,u8,u9,u10,u11,u12,u13,u14],_=>exact ⟨u1,u2,u3,u4,u5,u6,u7,u8,u9,u10,u11,u12,u13,u14,rfl⟩
  | _::_::_::_::_::_::_::_::_::_::_::_::_::_::_::_,h=>simp at h;omega
 clear hu hv
 go_enter Try.func24,Try.ntmps24
 go_wp2_with (go_at_call 25;refine (hcon _).mono ?_;rintro e w' ⟨rfl,rfl⟩)
 go_ret
 exact ⟨rfl,0,_,by rw [alloc_eq_grow,alloc_eq_grow,grow_grow];rfl⟩
theorem Zha:∀ (a b:List UInt8),(Lib.compareBytes a b < 0)↔a < b
 | [],[]=>by simp [Lib.compareBytes]
 | [],b::bs=>by simp [Lib.compareBytes]
 | a::l,[]=>by simp [Lib.compareBytes]
 | a::l,b::bs=>by
  have ih:=Zha l bs
  simp only [Lib.compareBytes,List.cons_lt_cons_iff]
  split
  ·rename_i h;simp [h]
  ·rename_i h
   split
   ·rename_i h'
    have : a≠b:=by rintro rfl;exact h h'
    simp [h,this]
   ·rename_i h'
    have e:a=b:=by
     have h1:=UInt8.not_lt.1 h
     have h2:=UInt8.not_lt.1 h'
     exact UInt8.le_antisymm h2 h1
    subst e
    simp [ih]
theorem Zhw (a b:List UInt8):ltOf Lib.compareBytes a b=decide (a < b):=by
 unfold ltOf
 by_cases h:a < b
 ·rw [decide_eq_true ((Zha a b).2 h),decide_eq_true h]
 ·rw [decide_eq_false (fun h'=>h ((Zha a b).1 h')),decide_eq_false h]
theorem ZyZ:SWO (ltOf Lib.compareBytes) where
 irrefl x:=by rw [Zhw];simp [List.lt_irrefl]
 trans x y z h1 h2:=by
  rw [Zhw] at *
  simp only [decide_eq_true_eq] at *
  exact List.lt_trans h1 h2
 ntrans x y z h1 h2:=by
  rw [Zhw] at *
  simp only [decide_eq_false_iff_not,Xbg] at *
  exact List.le_trans h2 h1
theorem ZxJ (x y:List UInt8) (h1:ltOf Lib.compareBytes x y=false) (h2:ltOf Lib.compareBytes y x=false):x=y:=by
 rw [Zhw] at *
 simp only [decide_eq_false_iff_not,Xbg] at *
 exact List.le_antisymm h2 h1
theorem ZxB {I:Imm} {β:Bmap} (x:AVal) (a:List UInt8) (l:List Value) (h:Ze8 x=some a) (hv:VRs I β x.cells l):∃ t,l=[Value.string ⟨a.toArray⟩]++t:=by
 unfold Ze8 at h
 split at h
 ·injection h with h;subst h
  simp only [AVal.cells,VRs] at hv
  obtain ⟨v,vs,rfl,h1,_⟩:=hv
  simp only [VR] at h1
  exact ⟨vs,by rw [h1.1];rfl⟩
 ·cases h
theorem Zxb {args:List AVal} {σ σ':Za} {r:AVal} (hp:ZfQ 15 24 Ze8 Lib.compareBytes args σ=some (r,σ')) :
  (∃ fn,Try.prog.funcs[23]?=some fn/\fn.body.isSome=true/\(fn.name == "runtime.NumGoroutine")=false) /\
  ∀ base w0 I0 I β w (vs:Array Value),KLt base w0->Rel base w0 I0 I β σ w->VRs I β args vs.toList ->
   Calls Try.prog 23 vs w (fun e w'=>∃ u,Ends r e u/\Zbj σ.length base w0 I0 I β r σ' u w') :=
 Zv3 (κ:=List UInt8) (k:=15) (g:=24) (m:=1) (pre:=fun a=>[Value.string ⟨a.toArray⟩]) ⟨_,Try.func23,by kernel_rfl,by kernel_rfl⟩ (by decide) (by decide) (by decide)
  (fun a=>⟨rfl,fun v hv=>by rw [XW] at hv;subst hv;rfl⟩) ZxB Zwj
  (fun enc hk h1 blk off cap d w hcl hH hb hs=>AnyQ.slices_SortFunc_total ZsJ 15 Try.isAgg39 Try.sizeOf39 enc hk h1 Lib.compareBytes ZyZ 24 #[] blk off cap d w (enters_of Try.func24 (by kernel_rfl) rfl) hcl hH hb hs ZxJ)
  (fun p cap fv w=>AnyF.slices_SortFunc_none ZsJ p cap fv w) hp
end
section
open Go.Shelf
def Zzr:Ren:=⟨fun | 189=>31 | 125=>33 | 257=>38 | 128=>47 | 129=>48 | 294=>50 | 295=>51 | 296=>52 | 297=>53 | 298=>54 | 299=>55 | 216=>56 | 300=>57 | 301=>58 | 328=>64 | 329=>60 | 330=>61 | 331=>65 | 332=>66 | 215=>67 | 343=>69 | n=>n,fun | 28=>25 | 3=>3 | 46=>76 | 0=>0 | 51=>90 | 53=>92 | 4=>4 | 183=>83 | 182=>82 | 131=>87 | 5=>5 | 9=>9 | 218=>99 | 222=>103 | 228=>108 | 229=>109 | n=>n,fun | n=>n⟩
theorem Zui:Go.Proofs.Lays.n189 Try.prog Zzr:={ mixed:=by kernel_rfl,f125:=Try.func33.trans (congrArg some (by kernel_rfl)),f128:=Try.func47.trans (congrArg some (by kernel_rfl)),f129:=Try.func48.trans (congrArg some (by kernel_rfl)),f189:=Try.func31.trans (congrArg some (by kernel_rfl)),f215:=Try.func67.trans (congrArg some (by kernel_rfl)),f216:=Try.func56.trans (congrArg some (by kernel_rfl)),f257:=Try.func38.trans (congrArg some (by kernel_rfl)),f294:=Try.func50.trans (congrArg some (by kernel_rfl)),f295:=Try.func51.trans (congrArg some (by kernel_rfl)),f296:=Try.func52.trans (congrArg some (by kernel_rfl)),f297:=Try.func53.trans (congrArg some (by kernel_rfl)),f298:=Try.func54.trans (congrArg some (by kernel_rfl)),f299:=Try.func55.trans (congrArg some (by kernel_rfl)),f300:=Try.func57.trans (congrArg some (by kernel_rfl)),f301:=Try.func58.trans (congrArg some (by kernel_rfl)),f328:=Try.func64.trans (congrArg some (by kernel_rfl)),f329:=Try.func60.trans (congrArg some (by kernel_rfl)),f330:=Try.func61.trans (congrArg some (by kernel_rfl)),f331:=Try.func65.trans (congrArg some (by kernel_rfl)),f332:=Try.func66.trans (congrArg some (by kernel_rfl)),f343:=Try.func69.trans (congrArg some (by kernel_rfl)),t0:=Try.underlying0,a0:=Try.isAgg0,z0:=Try.sizeOf0,v0:=Try.zeroValue0,t3:=Try.underlying3,a3:=Try.isAgg3,z3:=Try.sizeOf3,v3:=Try.zeroValue3,t4:=Try.underlying4,a4:=Try.isAgg4,z4:=Try.sizeOf4,v4:=Try.zeroValue4,t5:=Try.underlying5,a5:=Try.isAgg5,z5:=Try.sizeOf5,v5:=Try.zeroValue5,t9:=Try.underlying9,a9:=Try.isAgg9,z9:=Try.sizeOf9,v9:=Try.zeroValue9,t28:=Try.underlying25,a28:=Try.isAgg25,z28:=Try.sizeOf25,v28:=Try.zeroValue25,t46:=Try.underlying76,a46:=Try.isAgg76,z46:=Try.sizeOf76,v46:=Try.zeroValue76,t51:=Try.underlying90,a51:=Try.isAgg90,z51:=Try.sizeOf90,v51:=Try.zeroValue90,t53:=Try.underlying92,a53:=Try.isAgg92,z53:=Try.sizeOf92,v53:=Try.zeroValue92,t131:=Try.underlying87,a131:=Try.isAgg87,z131:=Try.sizeOf87,v131:=Try.zeroValue87,t182:=Try.underlying82,a182:=Try.isAgg82,z182:=Try.sizeOf82,v182:=Try.zeroValue82,t183:=Try.underlying83,a183:=Try.isAgg83,z183:=Try.sizeOf83,v183:=Try.zeroValue83,t218:=Try.underlying99,a218:=Try.isAgg99,z218:=Try.sizeOf99,v218:=Try.zeroValue99,t222:=Try.underlying103,a222:=Try.isAgg103,z222:=Try.sizeOf103,v222:=Try.zeroValue103,t228:=Try.underlying108,a228:=Try.isAgg108,z228:=Try.sizeOf108,v228:=Try.zeroValue108,t229:=Try.underlying109,a229:=Try.isAgg109,z229:=Try.sizeOf109,v229:=Try.zeroValue109 }
end
section
set_option maxRecDepth 100000
theorem ZgV:Try.prog.follows .mixedOrders=true:=by kernel_rfl
theorem ZAC:Zri Try.prog 22 1 1 (.int .u8 0) 36:=⟨_,_,_,_,_,_,_,_,_,_,_,rfl,rfl,rfl,by kernel_rfl,rfl,rfl,rfl,rfl,rfl,rfl,rfl,rfl,by kernel_rfl,by kernel_rfl,⟨_,_,_,_,rfl⟩,rfl,by decide⟩
theorem ZyY:Zri Try.prog 29 5 72 (.agg [.int .i64 0,.int .i64 0,.str [],.str [],.lst true []]) 37:=⟨_,_,_,_,_,_,_,_,_,_,_,rfl,rfl,rfl,by kernel_rfl,rfl,rfl,rfl,rfl,rfl,rfl,rfl,rfl,by kernel_rfl,by kernel_rfl,⟨_,_,_,_,rfl⟩,rfl,by decide⟩
theorem ZtT {α:Type} {d v:α}:∀ {l:List (Nat×α)} {n:Nat},Zdl d l n=v->v=d\/(n,v) ∈ l
 | [],n,h=>Xv h.symm
 | (k,w)::r,n,h=>by
  simp only [Zdl] at h
  split at h
  ·rename_i e;subst e h;exact XD (by simp)
  ·rcases ZtT h with h | h
   ·exact Xv h
   ·exact XD (by simp [h])
theorem ZsO:Zg5 Try.prog PR:=by
 intro f g h args σ r σ' hg
 rcases ZtT h with h | h
 ·cases h
 unfold Ztl at h
 simp only [XJ,Xb,Xa,List.not_mem_nil,or_false] at h
 rcases h with ⟨rfl,rfl⟩ | h
 ·exact ZtI ZgV ZAC hg
 rcases h with ⟨rfl,rfl⟩ | h
 ·exact ZtI ZgV ZyY hg
 rcases h with ⟨rfl,rfl⟩ | h
 ·exact Zwv ⟨Try.f31,Try.func31,by kernel_rfl,by kernel_rfl⟩ (fun blk off cap zs w=>Any.slices_Sort_int Zui blk off cap zs w) (fun p cap w=>Any.slices_Sort_int_none Zui p cap w) hg
 rcases h with ⟨rfl,rfl⟩ | h
 ·exact Zxb hg
 rcases h with ⟨rfl,rfl⟩ | h
 ·exact Zzx hg
 exact absurd h.2 (by simp)
end
section
def ZaW:Zq:=(.seq (.region [oF 48 2 2,oL 49 48,oM 50 6,oI 51 (.mm false [(.t 49),(.t 50)]),oF 52 10 5,oN (.st 1 (.t 52) (.t 51))] none [5,4]) (.seq (.region [oF 53 12 5,oL 54 53,oI 55 (.call 31 0 true [(.t 54)])] none [5,4]) (.seq (.region [oI 56 (.ld (some 14) (.t 5)),oN (.st 14 (.t 4) (.t 56))] none [4]) .ret)))
def Zns:Zq:=ZaW
def Za1:=xw Zns ZaW rfl
def ZaV:Zq:=(.seq (.region [oI 19 (.bin .lss (.t 18) (.t 17))] none [19,18,17,16,6,5,4,2]) (.seq (.cond (.t 19) .skip (.exit 0)) (.seq (.block 1 (.seq (.region [oI 20 (.iaddr 6 (.t 16) (.t 18)),oI 21 (.ld (some 6) (.t 20)),oI 8 (.alloc [(.str []),(.int .i64 0),(.bool false),(.bool false),(.int .i64 0),(.int .i64 0)]),oN (.st 6 (.t 8) (.t 21))] none [18,17,16,8,6,5,4,2]) (.seq (.region [oM 22 6,oF 23 1 8,oL 24 23,oI 25 (.mm true [(.t 22),(.t 24)]),oM 6 25] none [18,17,16,8,6,5,4,2]) (.seq (.region [oF 26 11 5,oL 27 26,oM 28 27,⟨(some 29),(.faddr 3 (.t 2)),(some (28,false)),[]⟩,⟨(some 30),(.ld none (.t 29)),(some (28,false)),[]⟩,⟨(some 31),(.mov (.t 30)),(some (28,false)),[]⟩,⟨(some 32),(.faddr 3 (.t 8)),(some (31,true)),[]⟩,⟨(some 33),(.ld none (.t 32)),(some (31,true)),[]⟩,⟨(some 34),(.pick (.t 31) (.t 33) (.c (.bool false))),(some (28,false)),[]⟩,oI 35 (.pick (.t 28) (.c (.bool true)) (.t 34)),oF 36 11 5,oN (.st 1 (.t 36) (.t 35))] none [18,17,16,8,6,5,4,2]) (.seq (.region [oF 37 5 8,oL 38 37,oI 39 (.bin .neq (.t 38) (.c (.int .i64 0)))] none [39,18,17,16,8,6,5,4,2]) (.cond (.t 39) (.region [oF 40 12 5,oL 41 40,oF 42 5 8,oL 43 42,oI 44 (.bslice false 1 1 (.int .i64 0) [(0,(.t 43))]),oI 45 (.app 1 8 (.int .i64 0) (.t 41) (.t 44)),oF 46 12 5,oN (.st 1 (.t 46) (.t 45))] none [18,17,16,6,5,4,2]) .skip)))))) (.region [oI 47 (.bin .add (.t 18) (.c (.int .i64 1))),oM 18 47] none [18,17,16,6,5,4,2]))))
def ZqK:Zq:=ZaV
def Za6:=xw ZqK ZaV rfl
def ZaU:Zq:=(.seq (.region [oI 2 (.box (.t 0)),oI 4 (.alloc [(.str []),(.lst true []),(.int .i64 0),(.bool false),(.str []),(.int .i64 0),(.lst true []),(.int .i64 0),(.int .i64 0),(.int .i64 0),(.int .i64 0),(.bool false),(.lst true []),(.str [])])] none [4,2,1]) (.seq (.region [oI 9 (.ld (some 10) (.t 2)),oI 10 (.call 30 0 true [(.t 9)]),oI 11 (.build [(.str []),(.lst true []),(.int .i64 0),(.bool false),(.str []),(.int .i64 0),(.lst true []),(.int .i64 0),(.int .i64 0),(.int .i64 0),(.int .i64 0),(.bool false),(.lst true []),(.str [])] [(0,10,(.t 10))]),oI 5 (.alloc [(.str []),(.lst true []),(.int .i64 0),(.bool false),(.str []),(.int .i64 0),(.lst true []),(.int .i64 0),(.int .i64 0),(.int .i64 0),(.int .i64 0),(.bool false),(.lst true []),(.str [])]),oN (.st 14 (.t 5) (.t 11))] none [5,4,2,1]) (.seq (.region [oM 12 1,oI 13 (.iaddr 6 (.t 12) (.c (.int .i64 0))),oF 14 1 13,oL 15 14,oM 6 15] none [6,5,4,2,1]) (.seq (.seq (.region [oM 16 1,oI 17 (.len (.t 16)),oI 18 (.mov (.c (.int .i64 0)))] none [18,17,16,6,5,4,2]) (.block 0 (.loop [18,17,16,6,5,4,2] ZqK))) Zns))))
def Zis:Zan:=⟨[(.cell 4 (some 14))],ZaU⟩
theorem ZxN:FC 22=some Zis:=by kernel_rfl
theorem Za4:Zis.body=ZaU:=rfl
theorem Za0:Zis.res=[(.cell 4 (some 14))]:=rfl
noncomputable def Zfn (m:Nat) (tm:Tms) (σ:Za):Option (AVal×Za):=(ZaF m Zis (ZbY FC PR BY m Zns (WW (Zbb 0) (evL FC PR BY m [18,17,16,6,5,4,2] ZqK tm σ))))
def ZgC:Zq:=(.seq (.region [oI 31 (.ld (some 10) (.t 1)),oN (.st 10 (.t 2) (.t 31))] none [2]) .ret)
def Zmv:Zq:=ZgC
def Zj4:=xw Zmv ZgC rfl
def ZgL:Zq:=(.seq (.region [oI 16 (.bin .lss (.t 15) (.t 14))] none [16,15,14,2,1]) (.seq (.cond (.t 16) .skip (.exit 0)) (.seq (.block 1 (.seq (.region [oM 17 15,oM 3 17] none [15,14,3,2,1]) (.region [oF 18 6 1,oL 19 18,oM 20 3,oF 21 6 1,oL 22 21,oM 23 3,oI 24 (.iaddr 5 (.t 22) (.t 23)),oF 25 4 24,oL 26 25,oI 27 (.call 36 0 true [(.t 26)]),oI 28 (.iaddr 5 (.t 19) (.t 20)),oF 29 4 28,oN (.st 1 (.t 29) (.t 27))] (some [(1,4),(1,6),(1,8),(1,9),(9,9)]) [15,14,2,1]))) (.region [oI 30 (.bin .add (.t 15) (.c (.int .i64 1))),oM 15 30] none [15,14,2,1]))))
def ZjJ:Zq:=ZgL
def Zjm:=xw ZjJ ZgL rfl
def ZgP:Zq:=(.seq (.region [oI 1 (.box (.t 0)),oI 2 (.alloc [(.str []),(.lst true []),(.int .i64 0),(.bool false),(.str []),(.int .i64 0),(.lst true []),(.int .i64 0),(.int .i64 0),(.int .i64 0)])] none [2,1]) (.seq (.region [oF 4 1 1,oL 5 4,oI 6 (.call 36 0 true [(.t 5)]),oF 7 1 1,oN (.st 1 (.t 7) (.t 6))] none [2,1]) (.seq (.region [oF 8 6 1,oL 9 8,oI 10 (.call 37 1 false [(.t 9)]),oF 11 6 1,oN (.st 1 (.t 11) (.t 10))] none [2,1]) (.seq (.seq (.region [oF 12 6 1,oL 13 12,oI 14 (.len (.t 13)),oI 15 (.mov (.c (.int .i64 0)))] none [15,14,2,1]) (.block 0 (.loop [15,14,2,1] ZjJ))) Zmv))))
def Zg2:Zan:=⟨[(.cell 2 (some 10))],ZgP⟩
theorem Zv2:FC 30=some Zg2:=by kernel_rfl
theorem Zlt:Zg2.body=ZgP:=rfl
theorem ZmI:Zg2.res=[(.cell 2 (some 10))]:=rfl
noncomputable def ZhM (m:Nat) (tm:Tms) (σ:Za):Option (AVal×Za):=(ZaF m Zg2 (ZbY FC PR BY m Zmv (WW (Zbb 0) (evL FC PR BY m [15,14,2,1] ZjJ tm σ))))
end
section
set_option maxRecDepth 100000
def Zc6:AVal:=.agg [.str [],.int .i64 0,.bool false,.bool false,.int .i64 0,.int .i64 0]
def Zhv:AVal:=.agg [.str [],.str [],.lst true [],.int .i64 0,.bool false,.str [],.int .i64 0,.lst true [],.int .i64 0,.int .i64 0,.int .i64 0,.int .i64 0,.bool false,.lst true [],.str []]
def ZwU:Ann:={ nt:=64,own:=fun n=>if n=11\/n=40 then 5 else 0,lr:=fun i=>if i=0 then [2,1] else if i=1 then [5,2,1] else if i=2 then [14,13,12,5,2] else if i=3 then [15,14,13,12,5,2] else if i=4 then [14,13,12,7,5,2] else if i=5 then [33,14,13,12,7,5,2] else if i=6 then [14,13,12,5,2] else if i=7 then [14,13,12,5,2] else if i=8 then [8,5,2] else if i=13 then [8] else [4],ll:=fun _=>[14,13,12,5,2] }
def Zzh:Ann:={ nt:=64,keep:=[47,46],lr:=fun _=>[46,8,2] }
def ZcL:Zq:=(.seq (.region [oI 15 (.bin .lss (.t 14) (.t 13))] none [15,14,13,12,5,2]) (.seq (.cond (.t 15) .skip (.exit 0)) (.seq (.block 1 (.seq (.region [oI 16 (.iaddr 7 (.t 12) (.t 14)),oI 17 (.ld (some 7) (.t 16)),oI 7 (.alloc [(.str []),(.str []),(.int .i64 0),(.bool false),(.bool false),(.int .i64 0),(.int .i64 0)]),oN (.st 7 (.t 7) (.t 17))] none [14,13,12,7,5,2]) (.seq (.region [oF 18 1 7,oF 19 2 18,oL 20 19,oI 21 (.un .not (.t 20)),oM 22 21,⟨some 23,.faddr 0 (.t 7),some (22,false),[]⟩,⟨some 24,.ld none (.t 23),some (22,false),[]⟩,⟨some 25,.faddr 4 (.t 2),some (22,false),[]⟩,⟨some 26,.ld none (.t 25),some (22,false),[]⟩,⟨some 27,.bin .neq (.t 24) (.t 26),some (22,false),[]⟩,oI 28 (.pick (.t 22) (.c (.bool true)) (.t 27)),oM 29 28,⟨some 30,.faddr 4 (.t 2),some (29,false),[]⟩,⟨some 31,.ld none (.t 30),some (29,false),[]⟩,⟨some 32,.bin .eql (.t 31) (.c (.str [])),some (29,false),[]⟩,oI 33 (.pick (.t 29) (.c (.bool true)) (.t 32))] none [33,14,13,12,7,5,2]) (.cond (.t 33) (.region [oM 34 5,oF 35 0 7,oL 36 35,oM 37 5,oF 38 0 7,oL 39 38,oI 40 (.glook 2 (.lst true []) (.t 37) (.t 39)),oF 41 1 7,oI 42 (.ld (some 6) (.t 41)),oI 43 (.bslice false 6 1 Zc6 [(0,(.t 42))]),oI 44 (.app 6 48 Zc6 (.t 40) (.t 43)),oN (.mset 2 (.t 34) (.t 36) (.t 44))] (some [(2,5),(2,6),(2,8),(5,8),(6,8),(2,9),(5,9),(6,9),(2,10)]) [14,13,12,5,2]) .skip)))) (.region [oI 45 (.bin .add (.t 14) (.c (.int .i64 1))),oM 14 45] none [14,13,12,5,2]))))
def ZrJ:Zq:=ZcL
theorem Zdu (m:Nat) (tm:Tms) (σ:Za):evC FC PR BY m ZrJ tm σ=evC FC PR BY m ZcL tm σ:=rfl
def c1P:Zq:=.seq (.region [oI 2 (.box (.t 0)),oI 4 (.mov (.c (.lst true [])))] none [2,1]) (.seq (.region [oI 11 (.mkgmap 6),oM 5 11] none [5,2,1]) (.seq (.seq (.region [oM 12 1,oI 13 (.len (.t 12)),oI 14 (.mov (.c (.int .i64 0)))] none [14,13,12,5,2]) (.block 0 (.loop [14,13,12,5,2] ZrJ))) (.seq (.region [oI 8 (.mov (.c (.lst true [])))] none [8,5,2]) .skip)))
def Zhe:List AOp:=[⟨some 46,.mov (.t 5),none,[]⟩]
def ZcG:List AOp:=[⟨some 51,.ext (.t 50) 0,none,[0]⟩,⟨some 52,.ext (.t 50) 1,none,[0]⟩,⟨some 9,.mov (.t 51),none,[1,0,1]⟩,⟨some 10,.mov (.t 52),none,[2,3,0,1,2,3]⟩]
def c2P:Zq:=.region [oM 53 8,oM 54 9,oI 55 (.ld (some 10) (.t 2)),oM 56 10,oI 57 (.call 22 0 true [(.t 55),(.t 56)]),oI 58 (.build [(.str []),(.str []),(.lst true []),(.int .i64 0),(.bool false),(.str []),(.int .i64 0),(.lst true []),(.int .i64 0),(.int .i64 0),(.int .i64 0),(.int .i64 0),(.bool false),(.lst true []),(.str [])] [(0,1,(.t 54)),(1,14,(.t 57))]),oI 59 (.bslice false 15 1 Zhv [(0,(.t 58))]),oI 60 (.app 15 200 Zhv (.t 53) (.t 59)),oM 8 60] none [46,8,2]
def c3P:Zq:=.seq (.region [oM 61 8,oI 62 (.call 23 0 true [(.t 61),(.c (.fn 24 []))])] none [8]) (.seq (.region [oM 63 8,oM 4 63] none [4]) .ret)
theorem ZxF:ZuM Try.prog 8 ZwU Zzh 64 4 1 46 47 48 49 50 2 3 [46,8,2] Zhe ZcG c1P c2P c3P [.tmp 4] :=
 ⟨_,_,_,_,_,_,_,_,_,_,_,_,_,_,_,_,_,_,_,Try.func8,by kernel_rfl,rfl,by kernel_rfl,rfl,rfl,rfl,rfl,rfl,rfl,rfl,rfl,Try.underlying58,rfl,rfl,rfl,rfl,rfl,rfl,rfl,rfl,rfl,by kernel_rfl,by kernel_rfl,by kernel_rfl,by kernel_rfl,by kernel_rfl,rfl,rfl,rfl,by decide⟩
noncomputable def Zlq:List AVal->Za->Option (AVal×Za):=Zj0 FC PR BY [46,8,2] 46 50 3 Zhe ZcG c1P c2P c3P [.tmp 4]
noncomputable def PRR:Zbu:=fun f=>if f=8 then some Zlq else PR f
noncomputable abbrev ER:ZY:=EV FC PRR BY
theorem Zy1:OLe E ER:=by
 refine ZzU (fun f hf=>?_) (fun f g hg=>?_)
 ·unfold PRR
  rw [if_neg (by rintro rfl;revert hf;decide)]
  exact hf
 ·by_cases h1:f=8
  ·subst h1
   have : PR 8=some Zqa:=by rfl
   rw [this] at hg;injection hg with hg;subst hg
   exact XD fun _ _=>rfl
  refine Xv ?_
  unfold PRR
  rw [if_neg h1]
  exact hg
theorem Zjc {f:Nat} {fn:Zan} (hp:PRR f=none) (hf:FC f=some fn) (args:List AVal) (σ:Za):ER f args σ=ZaF σ.length fn (evC FC PRR BY σ.length fn.body (enterA 0 args []) σ):=Zvo hp hf args σ
theorem Zxa (args:List AVal) (σ:Za):ER 8 args σ=Zlq args σ:=Zwb (by rfl) args σ
theorem Zyp {args:List AVal} {σ σ':Za} {r:AVal} (hg:Zlq args σ=some (r,σ')) :
  (∃ fn,Try.prog.funcs[8]?=some fn/\fn.body.isSome=true/\(fn.name == "runtime.NumGoroutine")=false) /\
  ∀ base w0 I0 I β w (vs:Array Value),KLt base w0->Rel base w0 I0 I β σ w->VRs I β args vs.toList ->
   Calls Try.prog 8 vs w (fun e w'=>∃ u,Ends r e u/\Zbj σ.length base w0 I0 I β r σ' u w') :=
 ZwY ZgV (fun n=>by
  have h:Zad FC PR BY n=Zad CF PR BY n:=Zpg CF PR BY n
  rw [h]
  exact Zqz ZgV ZsO ann BY n) ZxF hg
theorem ZzY:Zg5 Try.prog PRR:=by
 intro f g h args σ r σ' hg
 unfold PRR at h
 split at h
 ·rename_i e;subst e
  injection h with h;subst h
  exact Zyp hg
 ·exact ZsO f g h args σ r σ' hg
theorem Zz1:Zaf Try.prog ER:=by
 have h:ER=EV CF PRR BY:=ZxD CF PRR BY
 rw [h]
 exact ZAK ZgV ZzY ann BY
theorem ZoE {σ:Za} {sq f own:Nat} {view:Bool} {args:List AVal} {r:AVal×Za×Cls} (h:ZZ E BY σ sq f own view args=some r):ZZ ER BY σ sq f own view args=some r:=ZiL Zy1 h
theorem xwR (c d:Zq) (h:c=d) (m:Nat) (tm:Tms) (σ:Za):evC FC PRR BY m c tm σ=evC FC PRR BY m d tm σ:=by rw [h]
end
section
def ZmK:Zq:=(.seq (.region [oI 2 (.box (.t 0)),oI 3 (.box (.t 1)),oI 4 (.mov (.c (.bool false)))] none [3,2]) (.seq (.region [oF 5 0 2,oL 6 5,oF 7 0 3,oL 8 7,oI 9 (.bin .eql (.t 6) (.t 8)),oM 10 9,⟨(some 11),(.faddr 1 (.t 2)),(some (10,true)),[]⟩,⟨(some 12),(.ld none (.t 11)),(some (10,true)),[]⟩,⟨(some 13),(.b2s (.t 12)),(some (10,true)),[]⟩,⟨(some 14),(.faddr 1 (.t 3)),(some (10,true)),[]⟩,⟨(some 15),(.ld none (.t 14)),(some (10,true)),[]⟩,⟨(some 16),(.b2s (.t 15)),(some (10,true)),[]⟩,⟨(some 17),(.bin .eql (.t 13) (.t 16)),(some (10,true)),[]⟩,oI 18 (.pick (.t 10) (.t 17) (.c (.bool false))),oM 19 18,⟨(some 20),(.faddr 2 (.t 2)),(some (19,true)),[]⟩,⟨(some 21),(.ld none (.t 20)),(some (19,true)),[]⟩,⟨(some 22),(.faddr 2 (.t 3)),(some (19,true)),[]⟩,⟨(some 23),(.ld none (.t 22)),(some (19,true)),[]⟩,⟨(some 24),(.bin .eql (.t 21) (.t 23)),(some (19,true)),[]⟩,oI 25 (.pick (.t 19) (.t 24) (.c (.bool false))),oM 26 25,⟨(some 27),(.faddr 3 (.t 2)),(some (26,true)),[]⟩,⟨(some 28),(.ld none (.t 27)),(some (26,true)),[]⟩,⟨(some 29),(.faddr 3 (.t 3)),(some (26,true)),[]⟩,⟨(some 30),(.ld none (.t 29)),(some (26,true)),[]⟩,⟨(some 31),(.beq false (.t 28) (.t 30)),(some (26,true)),[]⟩,oI 32 (.pick (.t 26) (.t 31) (.c (.bool false))),oM 33 32,⟨(some 34),(.faddr 4 (.t 2)),(some (33,true)),[]⟩,⟨(some 35),(.ld none (.t 34)),(some (33,true)),[]⟩,⟨(some 36),(.faddr 4 (.t 3)),(some (33,true)),[]⟩,⟨(some 37),(.ld none (.t 36)),(some (33,true)),[]⟩,⟨(some 38),(.bin .eql (.t 35) (.t 37)),(some (33,true)),[]⟩,oI 39 (.pick (.t 33) (.t 38) (.c (.bool false))),oM 40 39,⟨(some 41),(.faddr 5 (.t 2)),(some (40,true)),[]⟩,⟨(some 42),(.ld none (.t 41)),(some (40,true)),[]⟩,⟨(some 43),(.faddr 5 (.t 3)),(some (40,true)),[]⟩,⟨(some 44),(.ld none (.t 43)),(some (40,true)),[]⟩,⟨(some 45),(.bin .eql (.t 42) (.t 44)),(some (40,true)),[]⟩,oI 46 (.pick (.t 40) (.t 45) (.c (.bool false))),oM 47 46,⟨(some 48),(.faddr 6 (.t 2)),(some (47,true)),[]⟩,⟨(some 49),(.ld none (.t 48)),(some (47,true)),[]⟩,⟨(some 50),(.faddr 6 (.t 3)),(some (47,true)),[]⟩,⟨(some 51),(.ld none (.t 50)),(some (47,true)),[]⟩,⟨(some 52),(.call 29 0 true [(.t 49),(.t 51)]),(some (47,true)),[]⟩,oI 53 (.pick (.t 47) (.t 52) (.c (.bool false))),oM 54 53,⟨(some 55),(.faddr 7 (.t 2)),(some (54,true)),[]⟩,⟨(some 56),(.ld none (.t 55)),(some (54,true)),[]⟩,⟨(some 57),(.faddr 7 (.t 3)),(some (54,true)),[]⟩,⟨(some 58),(.ld none (.t 57)),(some (54,true)),[]⟩,⟨(some 59),(.bin .eql (.t 56) (.t 58)),(some (54,true)),[]⟩,oI 60 (.pick (.t 54) (.t 59) (.c (.bool false))),oM 61 60,⟨(some 62),(.faddr 8 (.t 2)),(some (61,true)),[]⟩,⟨(some 63),(.ld none (.t 62)),(some (61,true)),[]⟩,⟨(some 64),(.faddr 8 (.t 3)),(some (61,true)),[]⟩,⟨(some 65),(.ld none (.t 64)),(some (61,true)),[]⟩,⟨(some 66),(.bin .eql (.t 63) (.t 65)),(some (61,true)),[]⟩,oI 67 (.pick (.t 61) (.t 66) (.c (.bool false))),oM 68 67,⟨(some 69),(.faddr 9 (.t 2)),(some (68,true)),[]⟩,⟨(some 70),(.ld none (.t 69)),(some (68,true)),[]⟩,⟨(some 71),(.faddr 9 (.t 3)),(some (68,true)),[]⟩,⟨(some 72),(.ld none (.t 71)),(some (68,true)),[]⟩,⟨(some 73),(.bin .eql (.t 70) (.t 72)),(some (68,true)),[]⟩,oI 74 (.pick (.t 68) (.t 73) (.c (.bool false))),oM 4 74] none [4]) .ret))
def Zre:Zan:=⟨[(.tmp 4)],ZmK⟩
theorem ZxC:FC 13=some Zre:=by kernel_rfl
theorem Zxm:Zre.body=ZmK:=rfl
theorem ZxQ:Zre.res=[(.tmp 4)]:=rfl
def Zf3:Zq:=(.seq (.region [oI 4 (.mov (.c (.bool true)))] none [4]) .ret)
def Zpk:Zq:=Zf3
def ZhX:=xw Zpk Zf3 rfl
def ZfY:Zq:=(.seq (.seq (.region [oM 42 5,oF 43 12 2,oL 44 43,oI 45 (.len (.t 44)),oI 46 (.bin .lss (.t 42) (.t 45))] none [46,5,3,2]) (.cond (.t 46) .skip (.exit 0))) (.seq (.block 1 (.seq (.region [oF 49 12 2,oL 50 49,oM 51 5,oI 52 (.iaddr 1 (.t 50) (.t 51)),oL 53 52,oF 54 12 3,oL 55 54,oM 56 5,oI 57 (.iaddr 1 (.t 55) (.t 56)),oL 58 57,oI 59 (.bin .neq (.t 53) (.t 58))] (some [(1,6),(3,6),(4,6),(1,8),(3,8),(4,8),(1,9),(3,9),(4,9)]) [59,5,3,2]) (.cond (.t 59) (.seq (.region [oI 4 (.mov (.c (.bool false)))] none [4]) .ret) .skip))) (.region [oM 47 5,oI 48 (.bin .add (.t 47) (.c (.int .i64 1))),oM 5 48] none [5,3,2])))
def ZrL:Zq:=ZfY
def Zit:=xw ZrL ZfY rfl
def ZfN:Zq:=(.seq (.region [oI 2 (.box (.t 0)),oI 3 (.box (.t 1)),oI 4 (.mov (.c (.bool false)))] none [3,2]) (.seq (.seq (.region [oF 6 0 2,oI 7 (.ld (some 10) (.t 6)),oF 8 0 3,oI 9 (.ld (some 10) (.t 8)),oI 10 (.call 13 0 true [(.t 7),(.t 9)]),oI 11 (.un .not (.t 10)),oM 12 11,⟨(some 13),(.faddr 10 (.t 2)),(some (12,false)),[]⟩,⟨(some 14),(.ld none (.t 13)),(some (12,false)),[]⟩,⟨(some 15),(.faddr 10 (.t 3)),(some (12,false)),[]⟩,⟨(some 16),(.ld none (.t 15)),(some (12,false)),[]⟩,⟨(some 17),(.bin .neq (.t 14) (.t 16)),(some (12,false)),[]⟩,oI 18 (.pick (.t 12) (.c (.bool true)) (.t 17)),oM 19 18,⟨(some 20),(.faddr 11 (.t 2)),(some (19,false)),[]⟩,⟨(some 21),(.ld none (.t 20)),(some (19,false)),[]⟩,⟨(some 22),(.faddr 11 (.t 3)),(some (19,false)),[]⟩,⟨(some 23),(.ld none (.t 22)),(some (19,false)),[]⟩,⟨(some 24),(.beq true (.t 21) (.t 23)),(some (19,false)),[]⟩,oI 25 (.pick (.t 19) (.c (.bool true)) (.t 24)),oM 26 25,⟨(some 27),(.faddr 13 (.t 2)),(some (26,false)),[]⟩,⟨(some 28),(.ld none (.t 27)),(some (26,false)),[]⟩,⟨(some 29),(.faddr 13 (.t 3)),(some (26,false)),[]⟩,⟨(some 30),(.ld none (.t 29)),(some (26,false)),[]⟩,⟨(some 31),(.bin .neq (.t 28) (.t 30)),(some (26,false)),[]⟩,oI 32 (.pick (.t 26) (.c (.bool true)) (.t 31)),oM 33 32,⟨(some 34),(.faddr 12 (.t 2)),(some (33,false)),[]⟩,⟨(some 35),(.ld none (.t 34)),(some (33,false)),[]⟩,⟨(some 36),(.len (.t 35)),(some (33,false)),[]⟩,⟨(some 37),(.faddr 12 (.t 3)),(some (33,false)),[]⟩,⟨(some 38),(.ld none (.t 37)),(some (33,false)),[]⟩,⟨(some 39),(.len (.t 38)),(some (33,false)),[]⟩,⟨(some 40),(.bin .neq (.t 36) (.t 39)),(some (33,false)),[]⟩,oI 41 (.pick (.t 33) (.c (.bool true)) (.t 40))] none [41,3,2]) (.cond (.t 41) (.seq (.region [oI 4 (.mov (.c (.bool false)))] none [4]) .ret) .skip)) (.seq (.seq (.region [oI 5 (.mov (.c (.int .i64 0)))] none [5,3,2]) (.block 0 (.loop [5,3,2] ZrL))) Zpk)))
def Ziu:Zan:=⟨[(.tmp 4)],ZfN⟩
theorem ZzR:FC 10=some Ziu:=by kernel_rfl
theorem ZhS:Ziu.body=ZfN:=rfl
theorem Zht:Ziu.res=[(.tmp 4)]:=rfl
noncomputable def Zhj (m:Nat) (tm:Tms) (σ:Za):Option (AVal×Za):=(ZaF m Ziu (ZbY FC PR BY m Zpk (WW (Zbb 0) (evL FC PR BY m [5,3,2] ZrL tm σ))))
end
section
def Zir:Zq:=(.seq (.region [oI 4 (.mov (.c (.lst true [])))] none [1,0]) (.seq (.seq (.region [oM 5 0,oI 6 (.len (.t 5)),oM 7 1,oI 8 (.bin .gtr (.t 6) (.t 7))] none [8,1,0]) (.cond (.t 8) (.seq (.region [oM 9 0,oM 10 1,oI 11 (.slice 1 (.t 9) none (some (.t 10)) none),oM 4 11] none [4]) .ret) .skip)) (.seq (.region [oM 12 0,oM 4 12] none [4]) .ret)))
def Zkm:Zan:=⟨[(.tmp 4)],Zir⟩
theorem ZwW:FC 19=some Zkm:=by kernel_rfl
theorem ZtR:Zkm.body=Zir:=rfl
theorem Zs7:Zkm.res=[(.tmp 4)]:=rfl
def ZhF:Zq:=(.seq (.region [oI 6 (.mov (.c (.int .i64 0)))] none [2,1,0]) (.seq (.region [oM 8 2,oM 9 1,oI 10 (.bin .sub (.t 8) (.t 9)),oI 11 (.bin .add (.t 10) (.c (.int .i64 1))),oM 7 11] none [7,1,0]) (.seq (.region [oM 12 0,oM 13 7,oI 14 (.bin .rem (.t 12) (.t 13)),oM 0 14] none [7,1,0]) (.seq (.seq (.region [oM 15 0,oI 16 (.bin .lss (.t 15) (.c (.int .i64 0)))] none [16,7,1,0]) (.cond (.t 16) (.region [oM 17 0,oM 18 7,oI 19 (.bin .add (.t 17) (.t 18)),oM 0 19] none [1,0]) .skip)) (.seq (.region [oM 20 1,oM 21 0,oI 22 (.bin .add (.t 20) (.t 21)),oM 6 22] none [6]) .ret)))))
def Zlk:Zan:=⟨[(.tmp 6)],ZhF⟩
theorem Zw9:FC 20=some Zlk:=by kernel_rfl
theorem Zvy:Zlk.body=ZhF:=rfl
theorem Zu7:Zlk.res=[(.tmp 6)]:=rfl
end
section
def Zle:Zq:=(.seq (.region [oI 2 (.box (.t 0)),oI 3 (.box (.t 1)),oI 4 (.mov (.c (.bool false)))] none [3,2]) (.seq (.region [oF 5 0 2,oL 6 5,oF 7 0 3,oL 8 7,oI 9 (.bin .eql (.t 6) (.t 8)),oM 10 9,⟨(some 11),(.faddr 1 (.t 2)),(some (10,true)),[]⟩,⟨(some 12),(.ld none (.t 11)),(some (10,true)),[]⟩,⟨(some 13),(.faddr 1 (.t 3)),(some (10,true)),[]⟩,⟨(some 14),(.ld none (.t 13)),(some (10,true)),[]⟩,⟨(some 15),(.bin .eql (.t 12) (.t 14)),(some (10,true)),[]⟩,oI 16 (.pick (.t 10) (.t 15) (.c (.bool false))),oM 17 16,⟨(some 18),(.faddr 2 (.t 2)),(some (17,true)),[]⟩,⟨(some 19),(.ld none (.t 18)),(some (17,true)),[]⟩,⟨(some 20),(.faddr 2 (.t 3)),(some (17,true)),[]⟩,⟨(some 21),(.ld none (.t 20)),(some (17,true)),[]⟩,⟨(some 22),(.bin .eql (.t 19) (.t 21)),(some (17,true)),[]⟩,oI 23 (.pick (.t 17) (.t 22) (.c (.bool false))),oM 24 23,⟨(some 25),(.faddr 3 (.t 2)),(some (24,true)),[]⟩,⟨(some 26),(.ld none (.t 25)),(some (24,true)),[]⟩,⟨(some 27),(.faddr 3 (.t 3)),(some (24,true)),[]⟩,⟨(some 28),(.ld none (.t 27)),(some (24,true)),[]⟩,⟨(some 29),(.bin .eql (.t 26) (.t 28)),(some (24,true)),[]⟩,oI 30 (.pick (.t 24) (.t 29) (.c (.bool false))),oM 31 30,⟨(some 32),(.faddr 4 (.t 2)),(some (31,true)),[]⟩,⟨(some 33),(.ld none (.t 32)),(some (31,true)),[]⟩,⟨(some 34),(.b2s (.t 33)),(some (31,true)),[]⟩,⟨(some 35),(.faddr 4 (.t 3)),(some (31,true)),[]⟩,⟨(some 36),(.ld none (.t 35)),(some (31,true)),[]⟩,⟨(some 37),(.b2s (.t 36)),(some (31,true)),[]⟩,⟨(some 38),(.bin .eql (.t 34) (.t 37)),(some (31,true)),[]⟩,oI 39 (.pick (.t 31) (.t 38) (.c (.bool false))),oM 4 39] none [4]) .ret))
def Zmf:Zan:=⟨[(.tmp 4)],Zle⟩
theorem ZwP:FC 35=some Zmf:=by kernel_rfl
theorem ZwJ:Zmf.body=Zle:=rfl
theorem Zyo:Zmf.res=[(.tmp 4)]:=rfl
def Zfs:Zq:=(.seq (.region [oI 4 (.mov (.c (.bool true)))] none [4]) .ret)
def ZqL:Zq:=Zfs
def Zie:=xw ZqL Zfs rfl
def Zfl:Zq:=(.seq (.seq (.region [oM 11 5,oM 12 0,oI 13 (.len (.t 12)),oI 14 (.bin .lss (.t 11) (.t 13))] none [14,5,1,0]) (.cond (.t 14) .skip (.exit 0))) (.seq (.block 1 (.seq (.region [oM 17 0,oM 18 5,oI 19 (.iaddr 5 (.t 17) (.t 18)),oI 20 (.ld (some 5) (.t 19)),oM 21 1,oM 22 5,oI 23 (.iaddr 5 (.t 21) (.t 22)),oI 24 (.ld (some 5) (.t 23)),oI 25 (.call 35 0 true [(.t 20),(.t 24)]),oI 26 (.un .not (.t 25))] (some [(2,6),(3,6),(2,7),(3,7),(8,8)]) [26,5,1,0]) (.cond (.t 26) (.seq (.region [oI 4 (.mov (.c (.bool false)))] none [4]) .ret) .skip))) (.region [oM 15 5,oI 16 (.bin .add (.t 15) (.c (.int .i64 1))),oM 5 16] none [5,1,0])))
def Zji:Zq:=Zfl
def Zib:=xw Zji Zfl rfl
def ZfZ:Zq:=(.seq (.region [oI 4 (.mov (.c (.bool false)))] none [1,0]) (.seq (.seq (.region [oM 6 0,oI 7 (.len (.t 6)),oM 8 1,oI 9 (.len (.t 8)),oI 10 (.bin .neq (.t 7) (.t 9))] none [10,1,0]) (.cond (.t 10) (.seq (.region [oI 4 (.mov (.c (.bool false)))] none [4]) .ret) .skip)) (.seq (.seq (.region [oI 5 (.mov (.c (.int .i64 0)))] none [5,1,0]) (.block 0 (.loop [5,1,0] Zji))) ZqL)))
def Ziy:Zan:=⟨[(.tmp 4)],ZfZ⟩
theorem Zy7:FC 29=some Ziy:=by kernel_rfl
theorem Zid:Ziy.body=ZfZ:=rfl
theorem Zhy:Ziy.res=[(.tmp 4)]:=rfl
noncomputable def ZhU (m:Nat) (tm:Tms) (σ:Za):Option (AVal×Za):=(ZaF m Ziy (ZbY FC PR BY m ZqL (WW (Zbb 0) (evL FC PR BY m [5,1,0] Zji tm σ))))
end
section
end
section
open Go.RowKit
theorem ZiW (id:Nat) (tm:Tms) (σ:Za):Zbb id (.normal,tm,σ)=(.normal,tm,σ):=rfl
theorem ZmQ (id i:Nat) (tm:Tms) (σ:Za):Zbb id (.exit i,tm,σ)=if i=id then (.normal,tm,σ) else (.exit i,tm,σ):=by simp only [Zbb]
theorem Zlo (id:Nat) (tm:Tms) (σ:Za):Zbb id (.ret,tm,σ)=(.ret,tm,σ):=rfl
theorem ZrW (id:Nat) (x:AVal) (tm:Tms) (σ:Za):Zbb id (.panic x,tm,σ)=(.panic x,tm,σ):=rfl
section
variable (O:ZY) (bf:Nat->Bool)
def ZcR (c:Cls):Option (Tms×Za×List Cls×Option AVal)->Option (Tms×Za×List Cls×Option AVal)
 | none=>none
 | some (tm,σ,cs,p)=>some (tm,σ,c::cs,p)
def Ze5 (c:List Cls):Option (Tms×Za×List Cls×Option AVal)->Option (Tms×Za×List Cls×Option AVal)
 | none=>none
 | some (tm,σ,cs,p)=>some (tm,σ,c++cs,p)
def kC (d:Option Nat) (os:List AOp) (s:Nat) (tm:Tms):Option (AVal×Za×Cls)->Option (Tms×Za×List Cls×Option AVal)
 | none=>none
 | some (v,σ,c)=>if Zat v then some (tput tm d v,σ,[c],some (Zam v)) else ZcR c (ZX O bf os s (tput tm d v) σ)
def Zdq (ops:List AOp) (L:Nat) (l:List (Nat×Nat)) (live:List Nat):Option (Tms×Za×List Cls×Option AVal)->Option (Zau×Tms×Za)
 | none=>none
 | some (_,σ,cs,some x)=>if Zbk ops L l cs then some (.panic x,[],σ) else none
 | some (tm,σ,cs,none)=>if ZcF ops L l cs then some (.normal,keepL live tm,σ) else none
variable {O bf}
theorem Zhz (s:Nat) (tm:Tms) (σ:Za):ZX O bf [] s tm σ=some (tm,σ,[],none):=rfl
theorem Zkc (c:Cls) (tm:Tms) (σ:Za) (cs:List Cls) (p:Option AVal):ZcR c (some (tm,σ,cs,p))=some (tm,σ,c::cs,p):=rfl
theorem Zoy (c:Cls):ZcR c none=none:=rfl
theorem Zpo (c:Cls) (q:Prop) [Decidable q] (x y:Option (Tms×Za×List Cls×Option AVal)):ZcR c (if q then x else y)=if q then ZcR c x else ZcR c y:=by split <;> rfl
theorem ZoM (c:List Cls) (tm:Tms) (σ:Za) (cs:List Cls) (p:Option AVal):Ze5 c (some (tm,σ,cs,p))=some (tm,σ,c++cs,p):=rfl
theorem Zsf (c:List Cls):Ze5 c none=none:=rfl
theorem Zi4 (c:List Cls) (q:Prop) [Decidable q] (x y:Option (Tms×Za×List Cls×Option AVal)):Ze5 c (if q then x else y)=if q then Ze5 c x else Ze5 c y:=by split <;> rfl
theorem ZhE {o:AOp} {os:List AOp} {s:Nat} {tm tm1:Tms} {σ σ1:Za} {v:AVal} {c:Cls} (h:Zv O bf o s tm σ=some (v,tm1,σ1,c)) (hn:Zat v=false):ZX O bf (o::os) s tm σ=ZcR c (ZX O bf os (s+nsite o.ins) tm1 σ1):=by
 rw [ZsW h hn]
 cases ZX O bf os (s+nsite o.ins) tm1 σ1 <;> rfl
theorem ZgE (d:Option Nat) (i:Ins) (af:List Nat) (os:List AOp) (s:Nat) (tm:Tms) (σ:Za):ZX O bf (⟨d,i,none,af⟩::os) s tm σ=kC O bf d os (s+nsite i) tm (exI O bf i s tm σ):=by
 cases h:exI O bf i s tm σ with
 | none=>exact ZgD (by rw [Zhr,h];rfl)
 | some q =>
  obtain ⟨v,σ1,c⟩:=q
  have hs:Zv O bf ⟨d,i,none,af⟩ s tm σ=some (v,tput tm d v,σ1,c):=by rw [Zhr,h];rfl
  cases hp:Zat v with
  | true =>
   obtain ⟨x,rfl⟩:=Zhd hp
   exact Zhx hs
  | false =>
   rw [ZhE hs hp]
   simp only [kC,hp,Xw,if_false]
theorem ZgN (d:Option Nat) (os:List AOp) (s:Nat) (tm:Tms) (v:AVal) (σ:Za) (c:Cls) (h:Zat v=false):kC O bf d os s tm (some (v,σ,c))=ZcR c (ZX O bf os s (tput tm d v) σ):=by
 simp only [kC,h,Xw,if_false]
theorem ZmH (d:Option Nat) (os:List AOp) (s:Nat) (tm:Tms) (x:AVal) (σ:Za) (c:Cls):kC O bf d os s tm (some (.pan x,σ,c))=some (tput tm d (.pan x),σ,[c],some x):=rfl
theorem Zrt (d:Option Nat) (os:List AOp) (s:Nat) (tm:Tms):kC O bf d os s tm none=none:=rfl
theorem Zkb (d:Option Nat) (os:List AOp) (s:Nat) (tm:Tms) (q:Prop) [Decidable q] (x y:Option (AVal×Za×Cls)):kC O bf d os s tm (if q then x else y)=if q then kC O bf d os s tm x else kC O bf d os s tm y:=by split <;> rfl
theorem ZaS (ops:List AOp) (l:List (Nat×Nat)) (live:List Nat) (tm:Tms) (σ:Za):Zbm O bf ops (some l) live tm σ=Zdq ops σ.length l live (ZX O bf ops σ.length tm (σ++XL (sitesOf ops) .free)):=by
 unfold Zbm
 cases ZX O bf ops σ.length tm (σ++XL (sitesOf ops) .free) with
 | none=>rfl
 | some q =>
  obtain ⟨tm',σ',cs,p⟩:=q
  cases p <;> rfl
theorem Za9 (ops:List AOp) (L:Nat) (l:List (Nat×Nat)) (live:List Nat) (tm:Tms) (σ:Za) (cs:List Cls) (h:ZcF ops L l cs=true):Zdq ops L l live (some (tm,σ,cs,none))=some (.normal,keepL live tm,σ):=by
 simp only [Zdq,h,if_true]
theorem Zcn (ops:List AOp) (L:Nat) (l:List (Nat×Nat)) (live:List Nat) (tm:Tms) (σ:Za) (cs:List Cls) (x:AVal) (h:Zbk ops L l cs=true):Zdq ops L l live (some (tm,σ,cs,some x))=some (.panic x,[],σ):=by
 simp only [Zdq,h,if_true]
theorem Zrh (ops:List AOp) (L:Nat) (l:List (Nat×Nat)) (live:List Nat):Zdq ops L l live none=none:=rfl
theorem Zl7 (ops:List AOp) (L:Nat) (l:List (Nat×Nat)) (live:List Nat) (q:Prop) [Decidable q] (x y:Option (Tms×Za×List Cls×Option AVal)):Zdq ops L l live (if q then x else y)=if q then Zdq ops L l live x else Zdq ops L l live y:=by split <;> rfl
theorem ZAF (ops:List AOp) (L:Nat) (l:List (Nat×Nat)) (cs:List Cls) (h:(cs.all fun c=>c.wr.isEmpty && !c.any)=true) (hs:(l.all fun p=>p.1 == p.2 || nsite (ops.getD p.1 default).ins == 0)=true):ZcF ops L l cs=true:=by
 have hd:∀ i,Zco (cs.getD i {})=true:=by
  intro i
  rw [XI] at h
  rw [Xi]
  cases hi:cs[i]? with
  | none=>rfl
  | some c=>exact h c (Xr hi)
 unfold ZcF
 rw [XI] at hs ⊢
 intro p hp
 have:=hs p hp
 rw [Wu] at this ⊢
 rcases this with this | this
 ·exact Xv this
 ·refine XD ?_
  unfold Zb1
  simp only [hd,this,Xa6,XaC,Xah,XaI]
theorem ZmJ (ops:List AOp) (L:Nat) (l:List (Nat×Nat)) (live:List Nat) (tm:Tms) (σ:Za) (cs:List Cls) (h:(cs.all fun c=>c.wr.isEmpty && !c.any)=true) (hs:(l.all fun p=>p.1 == p.2 || nsite (ops.getD p.1 default).ins == 0)=true):Zdq ops L l live (some (tm,σ,cs,none))=some (.normal,keepL live tm,σ) :=
 Za9 _ _ _ _ _ _ _ (ZAF _ _ _ _ h hs)
variable (O bf) in
def gKC (os:List AOp) (s:Nat):Option (Tms×Za×List Cls×Option AVal)->Option (Tms×Za×List Cls×Option AVal)
 | none=>none
 | some (tm,σ,cs,some x)=>some (tm,σ,cs,some x)
 | some (tm,σ,cs,none)=>Ze5 cs (ZX O bf os s tm σ)
theorem Zod (os:List AOp) (s:Nat) (tm:Tms) (σ:Za) (cs:List Cls):gKC O bf os s (some (tm,σ,cs,none))=Ze5 cs (ZX O bf os s tm σ):=rfl
theorem ZoR (os:List AOp) (s:Nat) (q:Prop) [Decidable q] (x y:Option (Tms×Za×List Cls×Option AVal)):gKC O bf os s (if q then x else y)=if q then gKC O bf os s x else gKC O bf os s y:=by split <;> rfl
theorem Zyc (os:List AOp) (s:Nat) (c:Cls) (r:Option (Tms×Za×List Cls×Option AVal)):gKC O bf os s (ZcR c r)=ZcR c (gKC O bf os s r):=by
 cases r with
 | none=>rfl
 | some q =>
  obtain ⟨tm,σ,cs,p⟩:=q
  cases p with
  | some x=>rfl
  | none =>
   simp only [ZcR,gKC]
   cases ZX O bf os s tm σ <;> rfl
theorem Zuy:∀ (a b:List AOp) (s:Nat) (tm:Tms) (σ:Za),ZX O bf (a++b) s tm σ=gKC O bf b (s+sitesOf a) (ZX O bf a s tm σ)
 | [],b,s,tm,σ=>by
  simp only [X1,Zhz,gKC,sitesOf,XV,List.sum_nil,Wf]
  cases ZX O bf b s tm σ <;> rfl
 | o::a,b,s,tm,σ=>by
  have ih:=Zuy a b
  simp only [Wp]
  have hs:s+nsite o.ins+sitesOf a=s+sitesOf (o::a):=by simp [sitesOf,WE]
  cases hst:Zv O bf o s tm σ with
  | none=>rw [ZgD hst,ZgD hst];rfl
  | some q =>
   obtain ⟨v,tm1,σ1,c⟩:=q
   cases hp:Zat v with
   | true =>
    obtain ⟨x,rfl⟩:=Zhd hp
    rw [Zhx hst,Zhx hst];rfl
   | false=>rw [ZhE hst hp,ZhE hst hp,ih,hs,Zyc]
variable (O bf) in
def Zdh (j:Nat) (w:Bool) (g:List AOp) (s:Nat) (tm:Tms) (σ:Za):Option (Tms×Za×List Cls×Option AVal):=match ZaR (some (j,w)) tm with
 | none=>none
 | some false=>some (Zy g tm,σ,g.map fun _=>{},none)
 | some true=>ZX O bf (g.map unG) s tm σ
theorem Zvl (j:Nat) (w:Bool):∀ (g:List AOp),(∀ o ∈ g,o.guard=some (j,w)/\o.dst≠some j)->∀ (s:Nat) (tm:Tms) (σ:Za),g≠[]->ZX O bf g s tm σ=Zdh O bf j w g s tm σ
 | [],_,_,_,_,h=>absurd rfl h
 | o::g,hall,s,tm,σ,_=>by
  obtain ⟨hg,hd⟩:=hall o (by simp)
  have ih:∀ (tm:Tms) (σ:Za) (s:Nat),ZaR (some (j,w)) tm≠none->ZX O bf g s tm σ=Zdh O bf j w g s tm σ:=by
   intro tm σ s hw
   by_cases he:g=[]
   ·subst he
    unfold Zdh
    cases hx:ZaR (some (j,w)) tm with
    | none=>exact absurd hx hw
    | some b=>cases b <;> rfl
   ·exact Zvl j w g (fun o ho=>hall o (by simp [ho])) s tm σ he
  cases hx:ZaR (some (j,w)) tm with
  | none =>
   rw [ZgD (by simp only [Zv,hg,hx])]
   simp only [Zdh,hx]
  | some b =>
   cases b with
   | false =>
    have h1:ZX O bf (o::g) s tm σ=ZcR {} (ZX O bf g (s+nsite o.ins) (tput tm o.dst (.tup [])) σ) :=
     ZhE (v:=.tup []) (c:={}) (by simp only [Zv,hg,hx]) rfl
    rw [h1,ih _ _ _ (by rw [Zey hd,hx];simp)]
    unfold Zdh
    rw [Zey hd,hx]
    rfl
   | true =>
    have key:∀ r:Option (AVal×Za×Cls),(∀ v σ' c,r=some (v,σ',c)->Zat v=false->ZX O bf g (s+nsite o.ins) (tput tm o.dst v) σ'=ZX O bf (g.map unG) (s+nsite o.ins) (tput tm o.dst v) σ')->kC O bf o.dst g (s+nsite o.ins) tm r=kC O bf o.dst (g.map unG) (s+nsite o.ins) tm r:=by
     intro r hr
     cases r with
     | none=>rfl
     | some q =>
      obtain ⟨v,σ',c⟩:=q
      cases hp:Zat v with
      | true=>simp only [kC,hp,if_true]
      | false=>rw [ZgN _ _ _ _ _ _ _ hp,ZgN _ _ _ _ _ _ _ hp,hr v σ' c rfl hp]
    have h1:ZX O bf (o::g) s tm σ=kC O bf o.dst g (s+nsite o.ins) tm (exI O bf o.ins s tm σ):=by
     have h0:ZX O bf (o::g) s tm σ=ZX O bf (⟨o.dst,o.ins,none,o.after⟩::g) s tm σ:=by
      have hst:Zv O bf o s tm σ=Zv O bf ⟨o.dst,o.ins,none,o.after⟩ s tm σ:=by
       unfold Zv
       simp only [hg,hx]
       rfl
      simp only [ZX,hst]
     rw [h0,ZgE]
    rw [h1]
    unfold Zdh
    rw [hx]
    simp only [Xs]
    rw [show unG o=⟨o.dst,o.ins,none,o.after⟩ from rfl,ZgE]
    refine key _ fun v σ' c _ _=>?_
    rw [ih _ _ _ (by rw [Zey hd,hx];simp)]
    unfold Zdh
    rw [Zey hd,hx]
theorem Zsd (d:Option Nat) (i:Ins) (j:Nat) (w:Bool) (af:List Nat) (os:List AOp) (s:Nat) (tm:Tms) (σ:Za) (hd:decide (d=some j)=false) :
  ZX O bf (⟨d,i,some (j,w),af⟩::os) s tm σ=gKC O bf (Zu j w os).2 (s+sitesOf (⟨d,i,some (j,w),af⟩::(Zu j w os).1)) (Zdh O bf j w (⟨d,i,some (j,w),af⟩::(Zu j w os).1) s tm σ):=by
 have h:=ZrV j w os
 have hall:∀ o ∈ (⟨d,i,some (j,w),af⟩::(Zu j w os).1:List AOp),o.guard=some (j,w)/\o.dst≠some j:=by
  intro o ho
  rcases XJ.1 ho with rfl | ho
  ·exact ⟨rfl,by simpa using hd⟩
  ·exact ZoZ j w os o ho
 rw [<-Zvl j w _ hall s tm σ (by simp),<-Zuy,Wp,h]
variable (O bf) in
def gWC (w:Bool) (g:List AOp) (s:Nat) (tm:Tms) (σ:Za):AVal->Option (Tms×Za×List Cls×Option AVal)
 | .bool b=>if b=w then ZX O bf (g.map unG) s tm σ else some (Zy g tm,σ,g.map fun _=>{},none)
 | .tup []=>some (Zy g tm,σ,g.map fun _=>{},none)
 | _=>none
theorem Zov (j:Nat) (w:Bool) (g:List AOp) (s:Nat) (tm:Tms) (σ:Za):Zdh O bf j w g s tm σ=gWC O bf w g s tm σ (tget tm j):=by
 unfold Zdh ZaR
 simp only
 generalize tget tm j=v
 cases v
 case bool b=>cases b <;> cases w <;> rfl
 case tup vs=>cases vs <;> rfl
 all_goals rfl
theorem ZlI (w:Bool) (g:List AOp) (s:Nat) (tm:Tms) (σ:Za) (b:Bool):gWC O bf w g s tm σ (.bool b)=if b=w then ZX O bf (g.map unG) s tm σ else some (Zy g tm,σ,g.map fun _=>{},none):=rfl
theorem Zrd (w:Bool) (g:List AOp) (s:Nat) (tm:Tms) (σ:Za):gWC O bf w g s tm σ (.tup [])=some (Zy g tm,σ,g.map fun _=>{},none):=rfl
theorem Zlm (q:Prop) [Decidable q] (t1 t2:Tms) (σ1 σ2:Za) (cs:List Cls):(if q then some (t1,σ1,cs,(none:Option AVal)) else some (t2,σ2,cs,none))=some ((if q then t1 else t2),(if q then σ1 else σ2),cs,none):=by split <;> rfl
end
section
theorem ZA7 {r:AVal} {cs:List AVal} {σ:Za} (hr:Zaw r=true) (hc:Zw cs=true):gcA 1 [r] (.var cs::σ)=([r],[.var cs]):=by
 have e1:=(Zgf (Ze (.var cs::σ) 1 [0]) r hr)
 have e2:=(ZgB (Ze (.var cs::σ) 1 [0]) cs hc)
 have h1:Zl 1 [r] (.var cs::σ)=[0]:=by
  have : ZW [r]=[]:=by simp only [ZW,e1.2,X2]
  simp only [Zl,this,X1,List.range_one,XS,Xav,X2,XM,Zp,e2.2]
  rfl
 simp only [gcA,h1,ZV,e1.1,Zg,XM,Zo,Zb,Zh,e2.1]
theorem ZmB {r:AVal} {cs:List AVal} {σ:Za} (hr:Zaw r=true) (hc:Zw cs=true):Zaz 1 (.var cs::σ) r=some (r,[.var cs]):=by
 simp only [Zaz,ZA7 hr hc]
end
end
section
section
variable (c:Prop) [Decidable c]
theorem Zsb (t1 t2:Tms) (σ1 σ2:Za):(if c then some (Zau.normal,t1,σ1) else some (Zau.normal,t2,σ2))=some (Zau.normal,(if c then t1 else t2),(if c then σ1 else σ2)):=by split <;> rfl
theorem ZqW (t1 t2:Tms) (σ1 σ2:Za):(if c then some (Zau.ret,t1,σ1) else some (Zau.ret,t2,σ2))=some (Zau.ret,(if c then t1 else t2),(if c then σ1 else σ2)):=by split <;> rfl
theorem Zqy (t1 t2:Tms) (σ1 σ2:Za):(if c then some (t1,σ1,(none:Option AVal)) else some (t2,σ2,none))=some ((if c then t1 else t2),(if c then σ1 else σ2),none):=by split <;> rfl
theorem Zjp (n:Nat) (a b:AVal):(if c then (n,a) else (n,b))=(n,if c then a else b):=by split <;> rfl
theorem Zkf (a b:AVal) (σ1 σ2:Za):(if c then some (a,σ1) else some (b,σ2))=some ((if c then a else b),(if c then σ1 else σ2)):=by split <;> rfl
theorem ZpL (a b:AVal) (σ1 σ2:Za) (x y:Cls):(if c then some (a,σ1,x) else some (b,σ2,y))=some ((if c then a else b),(if c then σ1 else σ2),if c then x else y):=by split <;> rfl
end
theorem ZO {α:Type} (p:Bool) (x y z:α):(if p=true then x else (if p=false then y else z))=if p=true then x else y:=by cases p <;> rfl
theorem ZP {α:Type} (p:Bool) (x y z:α):(if p=false then x else (if p=true then y else z))=if p=false then x else y:=by cases p <;> rfl
theorem ZL {α:Type} (p:Bool) (x y z:α):(if p=true then (if p=false then x else y) else z)=if p=true then y else z:=by cases p <;> rfl
theorem ZQ {α:Type} (p:Bool) (x y z:α):(if p=false then (if p=true then x else y) else z)=if p=false then y else z:=by cases p <;> rfl
theorem ZbK (ops:List AOp) (b:Nat) (cs:List Cls):ZcF ops b [] cs=true:=rfl
theorem ZbP (ops:List AOp) (b:Nat) (p:Nat×Nat) (l:List (Nat×Nat)) (cs:List Cls):ZcF ops b (p::l) cs=((p.1 == p.2 || Zb1 (ops.getD p.1 default) (ops.getD p.2 default) (cs.getD p.1 {}) (cs.getD p.2 {}) (b+sitesOf (ops.take p.1))) && ZcF ops b l cs):=by
 simp only [ZcF,Xt]
theorem ZbT (oj oi:AOp) (cj ci:Cls) (sj:Nat):Zb1 oj oi cj ci sj=(Zbz oj cj || Zbz oi ci || (Zco cj && Zco ci && (nsite oj.ins == 0 || !ci.rd.contains sj)) || ((ZaI oj.ins || (ZaP oj.ins && !cj.any)) && (Zco ci && ci.rd.isEmpty)) || (ZaQ oj.ins && ZaI oi.ins && ci.any && ZaY cj ci) || (ZaQ oj.ins && (ZaP oi.ins || (Zbe oi.ins && ZbU cj ci)) && ZaY cj ci) || (ZbE oj.ins && Zbq oi.ins) || (ZaI oj.ins && ZaQ oi.ins && cj.any && ZbR cj ci sj) || (((ZaP oj.ins && !cj.any) || Zbe oj.ins) && Zco ci && nsite oi.ins == 0 && ci.rd.all fun t=>!cj.wr.contains t && t != sj)):=rfl
theorem ZbO (o:AOp) (rd wr:List Nat) (any:Bool) (got:List (Nat×Option Nat×Nat×AVal)) (upd:List (Nat×List AVal)):Zbz o ⟨rd,wr,any,got,upd⟩=(nsite o.ins == 0 && rd.isEmpty && wr.isEmpty && !any):=rfl
theorem ZbN (rd wr:List Nat) (any:Bool) (got:List (Nat×Option Nat×Nat×AVal)) (upd:List (Nat×List AVal)):Zco ⟨rd,wr,any,got,upd⟩=(wr.isEmpty && !any):=rfl
theorem Zba {α:Type} {l:List α} {i:Nat} {x:α} {r:List α} (h:l.drop i=x::r):l[i]?=some x/\l.drop (i+1)=r/\i < l.length:=by
 have h1:i < l.length:=by
  rcases Nat.lt_or_ge i l.length with h1 | h1
  ·exact h1
  ·rw [List.drop_eq_nil_of_le h1] at h;cases h
 rw [WS h1] at h
 injection h with h2 h3
 exact ⟨by rw [Xy h1,h2],h3,h1⟩
theorem ZgR {α:Type} {l:List α} {i:Nat} (h:l.drop i=[]):¬(i:Int) < l.length:=by
 have:=Wo.1 h;omega
theorem iad {α:Type} {l:List α} {i:Nat} {x:α} (h:l[i]?=some x) (f:α->AVal) {k:Nat} (hk:(f x).cells.length=k) (σ:Za) (n:Bool) (kk:IntKind):ZaT σ k (.lst n (l.map f)) (.int kk (i:Int))=some (.iptr (f x).cells 0,σ,{}):=by
 have h0:(0:Int)<=(i:Int):=Int.natCast_nonneg i
 unfold ZaT
 simp only [h0,if_true,Xa3,XX,h,XQ,hk]
theorem Zcv {n:Int} (h0:-9223372036854775808<=n) (h:n<=9223372036854775807):IntKind.i64.wrap n=n:=by
 rw [IntKind.wrap_i64];omega
theorem ZuY {α β:Type} {a:List α} {b:List β} (h:a.length=b.length):((a.length:Int) != (b.length:Int))=false:=by simp [h]
theorem Zub {α β:Type} {a:List α} {b:List β} (h:a.length≠b.length):((a.length:Int) != (b.length:Int))=true:=by
 simp only [bne_iff_ne,ne_eq];omega
theorem ZuP {α:Type} [BEq α] [LawfulBEq α] {a b:List α} (h:a.length≠b.length):(a == b)=false:=by
 simp only [beq_eq_false_iff_ne,ne_eq];rintro rfl;exact h rfl
theorem ZkQ {i n:Nat} (h:(i:Int) < n) (hn:n<=9223372036854775807):IntKind.i64.wrap ((i:Int)+1)=((i+1:Nat):Int):=by
 rw [Zcv (by omega) (by omega)];rfl
theorem ZeQ {O:ZY} {bf:Nat->Bool} {f:Nat} {args:List AVal} {r:AVal} (h:O f args []=some (r,[])) (hb:bf f=false) (hp:args.all Zaq=true) (hn:args.map Zag=args) (hv:Zcb 0 (some (r,[]))=some (r,[])) (hr:∀ sq,Zj (Za2 [] [] sq) r=r) (σ:Za) (sq own:Nat) (view:Bool):ZZ O bf σ sq f own view args=some (r,σ,{}):=by
 rw [ZdX hb hp,hn,h]
 have : ZaA view 0 (some (r,[]))=some (r,[]):=by
  unfold ZaA
  split
  ·exact hv
  ·rfl
 rw [this,Zgn _ _ _ _ (hr sq)]
theorem ZyO {α:Type} (σ:Za) (k:Nat) (l:List α) (f:α->AVal) (kk:IntKind) (n:Int) (h0:0<=n) (h:n<=(l.length:Int)):Zb5 σ k (.lst false (l.map f)) none (some (.int kk n)) none=some (.lst false ((l.take n.toNat).map f),σ,{}):=by
 simp only [Zb5,ZaM,Zeb,XH,h0,h,and_self,if_true,beq_self_eq_true,Xah,W6,Xw,if_false,Xan,XaF,Xa5]
abbrev ZF:=List UInt8
def Zi (b:ZF):AVal:=.lst false (b.map Zt)
structure Zbf where
 id:Int
 num:Int
 text:ZF
 pair:ZF
 data:ZF
 deriving DecidableEq
def Zx (p:Zbf):List AVal:=[.int .i64 p.id,.int .i64 p.num,.str p.text,.str p.pair,Zi p.data]
def Zc (p:Zbf):AVal:=.agg (Zx p)
def Zk (l:List Zbf):AVal:=.lst false (l.map Zc)
def Zs (l:List Int):AVal:=.lst false (l.map (.int .i64 ·))
theorem ZI (l:ZF):Zec (l.map Zt)=some l:=by
 induction l with
 | nil=>rfl
 | cons b l ih =>
  simp only [Xs,Zec,ih,Zt,ZnJ,Xa3,UInt8.ofNat_toNat]
end
section
def Zed:=(aI (aI (aI (aI (aI (aI @ZkW @Zou) (aI @ZmC @ZmX)) (aI (aI @Zkv @ZoN) (aI @Zqk @Zr2))) (aI (aI (aI @ZhR @Zgr) (aI @ZiI @Zgd)) (aI (aI @Zpq @Zi3) (aI @Zjl @ZjC)))) (aI (aI (aI (aI @Zl9 @ZpX) (aI @Zi8 @Zje)) (aI (aI @ZnX @Zr0) (aI @Zk1 @Zrb))) (aI (aI (aI @ZoW @ZsE) (aI @ZoV @ZqP)) (aI (aI @ZmZ @ZI) (aI @Zsb @ZqW))))) (aI (aI (aI (aI (aI @Zqy @Zjp) (aI @Zkf @ZpL)) (aI (aI @ZlV @Zjt) (aI @Zlv @ZoD))) (aI (aI (aI @ZkM @Zql) (aI @Zrl @ZaS)) (aI (aI @Zhz @ZgE) (aI @Zsd @Zkc)))) (aI (aI (aI (aI @Zoy @Zpo) (aI @ZoM @Zsf)) (aI (aI @Zi4 @ZgN) (aI @ZmH @Zrt))) (aI (aI (aI @Zkb @ZmJ) (aI @Zrh @Zl7)) (aI (aI @Zod @ZoR) (aI @Zov @ZlI))))))
def Zd2:=(aI (aI (aI (aI (aI (aI @Zrd @Zlm) (aI @ZiW @ZmQ)) (aI (aI @Zlo @ZrW) (aI @ZbK @ZbP))) (aI (aI (aI @ZbT @ZbO) (aI @ZbN @Za9)) (aI (aI @ZqH @Zko) (aI @ZpT @ZpW)))) (aI (aI (aI (aI @Zr6 @Zpn) (aI @ZqS @Zlg)) (aI (aI @Zia @ZkC) (aI @Zqb @Zlz))) (aI (aI (aI @Zof @Zj6) (aI @ZlD @ZpU)) (aI (aI @ZjA @Zmp) (aI @ZlF @Zmi))))) (aI (aI (aI (aI (aI @ZpH @Zp5) (aI @ZoG @ZjB)) (aI (aI @Zqe @ZpK) (aI @ZoJ @Zp3))) (aI (aI (aI @ZpS @Zqf) (aI @ZpG @ZiF)) (aI (aI @Zo2 @ZoK) (aI @ZkT @ZpA)))) (aI (aI (aI (aI @ZrH @ZiH) (aI @ZoC @Zsr)) (aI (aI @ZjX @ZrK) (aI @Zj5 @Zr3))) (aI (aI (aI @ZmG @Zmk) (aI @Zi0 @ZsA)) (aI (aI @ZmY @Zqs) (aI @Znq @Zn2))))))
def ZA:=(aI (aI (aI (aI (aI (aI @Zl1 @ZiC) (aI @ZjI @Znn)) (aI (aI @ZiG @ZrN) (aI @Zqh @Zo4))) (aI (aI (aI @ZiE @ZmM) (aI @ZqC @Zqw)) (aI (aI @Zqm @Zop) (aI @Zpz @ZnM)))) (aI (aI (aI (aI @ZnE @Zo1) (aI @Zrj @Znp)) (aI (aI @Zp6 @ZoP) (aI @ZlA @ZnY))) (aI (aI (aI @Zi7 @Zor) (aI @ZpY @Zmr)) (aI (aI @Zpt @ZkS) (aI @Zjv @Zk5))))) (aI (aI (aI (aI (aI @ZqM @Zpp) (aI @Zk7 @Zn3)) (aI (aI @Zq8 @Zj9) (aI @Zq4 @ZqD))) (aI (aI (aI @ZiN @Znu) (aI @Zmy @Zjo)) (aI (aI @Zm2 @Zsj) (aI @ZnW @ZiJ)))) (aI (aI (aI (aI @ZlB @Zke) (aI @ZmV @Znd)) (aI (aI @ZkF @Zkt) (aI @ZpI @ZsD))) (aI (aI (aI @Zl4 @Zp9) (aI @Zoj @Zkl)) (aI (aI @ZpZ @Zlh) (aI @ZjY @Znx))))))
def ZD:=(aI (aI (aI (aI (aI (aI @ZqN @Zso) (aI @Zm7 @ZiB)) (aI (aI @Zpi @Zl5) (aI @Zjx @Zpj))) (aI (aI (aI @Zjb @Zlx) (aI @Zne @ZnB)) (aI (aI @Zqr @Zlj) (aI @Zqx @Zom)))) (aI (aI (aI (aI @Zjr @Zi5) (aI @ZqX @Zmd)) (aI (aI @Zkp @ZrM) (aI @Zo3 @ZlH))) (aI (aI (aI @Zq9 @Zrg) (aI @ZrG @ZjU)) (aI (aI @Zm3 @Zsi) (aI @Znv @Zsw))))) (aI (aI (aI (aI (aI @Zi2 @ZrS) (aI @ZjR @ZpC)) (aI (aI @Zoa @ZjD) (aI @ZnU @Zro))) (aI (aI (aI @ZkJ @ZnQ) (aI @ZpN @Zmu)) (aI (aI @ZmR @Zsz) (aI @Zky @ZlZ)))) (aI (aI (aI (aI @Zkw @Zrc) (aI @Zmx @Zra)) (aI (aI @Zjg @ZpV) (aI @ZjZ @Zk2))) (aI (aI (aI @Zny @ZoA) (aI @Zlu @Zob)) (aI (aI @Zkn @ZpP) (aI @Zss @Zk3))))))
def ZC:=(aI (aI (aI (aI (aI (aI @ZpF @Zkk) (aI @Zi1 @Zlw)) (aI (aI @ZnF @Zk0) (aI @Zrm @Zp7))) (aI (aI (aI @ZlP @ZmO) (aI @ZkX @Zl6)) (aI (aI @Zsq @ZoF) (aI @Zon @Zse)))) (aI (aI (aI (aI @Zrq @Zku) (aI @ZrR @Zqp)) (aI (aI @ZlX @ZrQ) (aI @ZrD @ZkV))) (aI (aI (aI @ZrZ @Zj2) (aI @Zpv @ZjL)) (aI (aI @Zl0 @ZmL) (aI @Zrn @Zqv))))) (aI (aI (aI (aI (aI @Zmj @Zls) (aI @Zsa @Zr7)) (aI (aI @ZjW @ZiM) (aI @Zr5 @Zr9))) (aI (aI (aI @ZmT @Zjq) (aI @ZrY @Zml)) (aI (aI @Zp8 @Znf) (aI @Zlc @ZqF)))) (aI (aI (aI (aI @Zlf @ZrC) (aI @ZkK @Zmz)) (aI (aI @Zm1 @ZqO) (aI @ZlR @ZqQ))) (aI (aI (aI @ZmD @ZoQ) (aI @Zrv @Zjy)) (aI (aI @ZlK @Zox) (aI @ZnS @ZqI))))))
def ZdV:=(aI (aI (aI (aI (aI (aI @Zos @Zn9) (aI @ZnR @Zjh)) (aI (aI @ZiU @Zqt) (aI @Znj @Zst))) (aI (aI (aI @Zk8 @ZmA) (aI @ZkE @ZnD)) (aI (aI @Zog @ZjN) (aI @Zo6 @Zsh)))) (aI (aI (aI (aI @ZkP @Zkg) (aI @ZoH @Zpl)) (aI (aI @Zn4 @Zo7) (aI @ZoO @ZmP))) (aI (aI (aI @Zi6 @Zsl) (aI @ZoL @Zm9)) (aI (aI @Znt @ZoS) (aI @Zqo @ZoB))))) (aI (aI (aI (aI (aI @Zkx @Znh) (aI @ZqA @Zj1)) (aI (aI @Zk4 @ZlG) (aI @Zkq @ZmW))) (aI (aI (aI @ZlS @Zqn) (aI @Zrr @Zoq)) (aI (aI @Zrz @ZnV) (aI @Zpc @Zrs)))) (aI (aI (aI (aI @Zmh @ZrB) (aI @ZlU @ZlT)) (aI (aI @Zqj @ZjP) (aI @ZnC @Zm4))) (aI (aI (aI @Zo5 @ZiR) (aI @Zj3 @ZoI)) (aI (aI @ZlJ @ZmN) (aI @ZkD @Zks))))))
def Zz:=(aI (aI (aI (aI (aI (aI @Zma @Zp4) (aI @ZqJ @Zpe)) (aI (aI @ZjV @ZkZ) (aI @Zmn @ZnL))) (aI (aI (aI @Zjd @ZqG) (aI @Znk @Zsu)) (aI (aI @Zmm @ZkY) (aI @ZrX @Zmw)))) (aI (aI (aI (aI @ZlL @Zo8) (aI @ZmF @Zot)) (aI (aI @Zp2 @Zlb) (aI @Zqg @ZiT))) (aI (aI (aI @Zow @ZpQ) (aI @Zoh @Zn0)) (aI (aI @Zno @Zn5) (aI @ZlM @ZiO))))) (aI (aI (aI (aI (aI @Zm8 @Znz) (aI @ZlN @ZrU)) (aI (aI @ZnN @Zn7) (aI @Zps @ZiS))) (aI (aI (aI @Zjn @ZpJ) (aI @Zni @ZpR)) (aI (aI @ZlO @ZpB) (aI @Zsg @ZiQ)))) (aI (aI (aI (aI @ZpE @ZnI) (aI @Zqi @ZkI)) (aI (aI @Zkd @Zng) (aI @Zl3 @ZkH))) (aI (aI (aI @ZiA @Zkz) (aI @ZpM @ZoY)) (aI (aI @Zms @ZkL) (aI @Zrx @Zoe))))))
def ZE:=(aI (aI (aI (aI (aI @Zjz (aI @ZqY @ZqZ)) (aI (aI @Zmt @Zli) (aI @Zlp @ZiP))) (aI (aI @Zsp (aI @Zk6 @Zln)) (aI (aI @ZqR @Zsc) (aI @ZnH @ZiY)))) (aI (aI (aI @Zpw (aI @ZiX @Zpu)) (aI (aI @ZrI @Zjw) (aI @ZrP @Zq6))) (aI (aI (aI @Zn8 @Zsk) (aI @Zn1 @Zsm)) (aI (aI @Zkh @Zjj) (aI @Zn6 @ZmS))))) (aI (aI (aI (aI @Zry (aI @Zol @Zja)) (aI (aI @ZjT @Zll) (aI @Zoz @ZpO))) (aI (aI (aI @Zpx @Zph) (aI @Zpr @ZrE)) (aI (aI @Zpm @Zki) (aI @Zj7 @ZnZ)))) (aI (aI (aI @Zp0 (aI @Zq0 @Zqq)) (aI (aI @ZiD @ZjK) (aI @ZnP @Zq5))) (aI (aI (aI @Zjs @ZsB) (aI @ZrT @ZiK)) (aI (aI @Znr @ZmB) (aI @Zy2 @Zt1))))))
def Zd7:=(aI (aI (aI (aI (aI (aI @List.map_cons.{0,0} @List.map_nil.{0,0}) (aI @List.length_cons.{0} @List.length_nil.{0})) (aI (aI @List.replicate_zero.{0} @List.replicate_succ.{0}) (aI @List.append_nil.{0} @List.nil_append.{0}))) (aI (aI (aI @List.cons_append.{0} @List.getElem?_cons_zero.{0}) (aI @List.getElem?_cons_succ.{0} @List.set_cons_zero.{0})) (aI (aI @List.set_cons_succ.{0} @Nat.add_zero) (aI @Nat.zero_add @Bool.true_or)))) (aI (aI (aI (aI @Bool.false_or @Bool.or_true) (aI @Bool.or_false @Bool.and_true)) (aI (aI @Bool.true_and @Bool.and_self) (aI @Bool.and_false @Bool.false_and))) (aI (aI (aI @if_true.{1} @if_false.{1}) (aI @ite_true.{1} @ite_false.{1})) (aI (aI @Option.map_some.{0,0} @Option.map_none.{0,0}) (aI @and_self @and_true))))) (aI (aI (aI (aI (aI @true_and @and_false) (aI @false_and @true_or)) (aI (aI @or_true @false_or) (aI @or_false @not_true_eq_false))) (aI (aI (aI @not_false_eq_true @List.drop_zero.{0}) (aI @List.drop_succ_cons.{0} @List.take_succ_cons.{0})) (aI (aI @List.take_zero.{0} @List.all_cons.{0}) (aI @List.all_nil.{0} @List.isEmpty_nil.{0})))) (aI (aI (aI (aI @Bool.not_false @Bool.not_true) (aI @List.length_map.{0,0} @Bool.bne_false)) (aI (aI @Bool.bne_true @List.isEmpty_cons.{0}) (aI @List.getD_cons_zero.{0} @List.getD_cons_succ.{0}))) (aI (aI (aI @List.getD_nil.{0} @List.contains_nil.{0}) (aI @List.range_zero @List.flatMap_cons.{0,0})) (aI (aI @List.flatMap_nil.{0,0} @List.zip_cons_cons.{0,0}) (aI @List.zip_nil_left.{0,0} @List.zip_nil_right.{0,0}))))))
def ZB:=@Nat.not_lt_zero
def EQA := (aI (aI (aI (aI (aI (aI (aI Zed Zd2) (aI ZdV Zd7)) (aI (aI @exI.eq_1 @nsite.eq_1) (aI @nsite.eq_2 @nsite.eq_3))) (aI (aI (aI @nsite.eq_4 @nsite.eq_5) (aI @nsite.eq_6 @nsite.eq_7)) (aI (aI @nsite.eq_8 @nsite.eq_9) (aI @nsite.eq_10 (aI @nsite.eq_11 @nsite.eq_12))))) (aI (aI (aI (aI @nsite.eq_13 @nsite.eq_14) (aI @nsite.eq_15 @freeAt.eq_1)) (aI (aI @execI.eq_1 @execI.eq_2) (aI @execI.eq_3 (aI @execI.eq_4 @execI.eq_5)))) (aI (aI (aI @execI.eq_6 @execI.eq_7) (aI @execI.eq_8 @execI.eq_9)) (aI (aI @execI.eq_10 @execI.eq_11) (aI @execI.eq_12 (aI @execI.eq_13 @execI.eq_14)))))) (aI (aI (aI (aI (aI @execI.eq_15 @execI.eq_16) (aI @execI.eq_17 @execI.eq_18)) (aI (aI @execI.eq_19 @execI.eq_20) (aI @execI.eq_21 (aI @execI.eq_22 @execI.eq_23)))) (aI (aI (aI @execI.eq_24 @execI.eq_25) (aI @execI.eq_26 @execI.eq_27)) (aI (aI @execI.eq_28 @execI.eq_29) (aI @execI.eq_30 (aI @execI.eq_31 @execI.eq_32))))) (aI (aI (aI (aI @execI.eq_33 @execI.eq_34) (aI @execI.eq_35 @execI.eq_36)) (aI (aI @execI.eq_37 @execI.eq_38) (aI @execI.eq_39 (aI @execI.eq_40 @execI.eq_41)))) (aI (aI (aI @execI.eq_42 @execI.eq_43) (aI @execI.eq_44 @execI.eq_45)) (aI (aI @execI.eq_46 @execI.eq_47) (aI @execI.eq_48 (aI @execI.eq_49 @execI.eq_50))))))) (aI (aI (aI (aI (aI (aI @execI.eq_51 @execI.eq_52) (aI @execI.eq_53 @Opd.ev.eq_1)) (aI (aI @Opd.ev.eq_2 @tget.eq_1) (aI @tget.eq_2 (aI @tins.eq_1 @tins.eq_2)))) (aI (aI (aI @tput.eq_1 @tput.eq_2) (aI @keepL.eq_1 @sitesOf.eq_1)) (aI (aI @resA.eq_1 @resAll.eq_1) (aI @resAll.eq_2 (aI @resOne.eq_1 @resOne.eq_2))))) (aI (aI (aI (aI @enterA.eq_1 @enterA.eq_2) (aI @partA.eq_1 @partA.eq_2)) (aI (aI @faddrA.eq_1 @faddrA.eq_2) (aI @faddrA.eq_3 (aI @faddrA.eq_4 @setAt.eq_1)))) (aI (aI (aI @binA.eq_1 @binA.eq_2) (aI @binA.eq_3 @binA.eq_4)) (aI (aI @binA.eq_5 @arithA.eq_1) (aI @arithA.eq_2 (aI @arithA.eq_3 @arithA.eq_4)))))) (aI (aI (aI (aI (aI @arithA.eq_5 @arithA.eq_6) (aI @arithA.eq_7 @arithA.eq_8)) (aI (aI @arithA.eq_9 @arithA.eq_10) (aI @arithA.eq_11 (aI @arithA.eq_12 @arithA.eq_13)))) (aI (aI (aI @arithA.eq_14 @arithA.eq_15) (aI @arithA.eq_16 @ldA.eq_1)) (aI (aI @ldA.eq_2 @ldA.eq_3) (aI @ldA.eq_4 (aI @stA.eq_1 @stA.eq_2))))) (aI (aI (aI (aI @stA.eq_3 @oI.eq_1) (aI @oN.eq_1 @oM.eq_1)) (aI (aI @oF.eq_1 @oL.eq_1) (aI @List.sum_cons.{0} (aI @List.sum_nil.{0} @eq_self.{1})))) (aI (aI (aI @beq_self_eq_true.{0} @Bool.false_eq_true) (aI @Option.some.injEq.{0} @decide_true)) (aI (aI @decide_false @List.foldl_cons.{0, 0}) (aI @List.foldl_nil.{0, 0} (aI @List.contains_cons.{0} @ne_eq.{1}))))))))
end
section
theorem Zwy (a b:Zbf):E 35 [Zc a,Zc b] []=some (.bool (a.id == b.id && a.num == b.num && a.text == b.text && a.pair == b.pair && a.data == b.data),[]):=by
 rw [ZcQ (by rfl) ZwP]
 simp -implicitDefEqProofs only [EQA,ZA,ZD,ZC,Zz,ZE,ZB,ZO,ZP,ZL,ZQ,ZN,ZR,ZS,ZK,ZM,implies_true,forall_const,Xn,Xo,Xq,Xf,Xg,Xp,Xk,ZH,ZJ,unA,Zu,Zy,unG,reduceCtorEq,Zm,decide_eq_true_eq,Xh,Xc,ite_self,↓reduceIte,Zw,ZG,gcT,gcA,Zl,Zf,Ze,Zg,Zn,Zb,Zo,Zh,Zp,Xe,ZwJ,Zle,Zyo,Zs,Zi,Zk,Zc,Zx,ZI,ZI]
theorem Zwo (a b:Zbf):(a.id == b.id && a.num == b.num && a.text == b.text && a.pair == b.pair && a.data == b.data)=(a == b):=by
 obtain ⟨i,n,t,p,d⟩:=a
 obtain ⟨i',n',t',p',d'⟩:=b
 rw [Bool.eq_iff_iff]
 simp [and_assoc]
theorem Zy6 (a:Zbf):Zaq (Zc a)=true:=by
 simp -implicitDefEqProofs only [EQA,implies_true,forall_const,ZkW,Zou,ZmC,ZmX,Zkv,ZoN,Zqk,Zr2,ZhR,Zgr,ZiI,Zgd,Zpq,Zi3,Zjl,Xs,XV,Xz,XF,List.replicate_zero,XaT,X2,X1,Wp,XE,XO,WU,WP,Wf,XC,Xn,Xo,Xq,Xf,Xg,Xp,Xk,Xah,Bool.false_or,XaI,XaD,Xa6,XaC,W7,Bool.and_false,Xan,if_true,if_false,ite_true,ite_false,XQ,XaV,and_self,and_true,true_and,and_false,false_and,true_or,or_true,false_or,or_false,not_true_eq_false,not_false_eq_true,XaF,Xax,Xay,XaY,Xt,XA,ZH,ZJ,unA,ZjC,Zl9,ZpX,Zi8,Zje,ZnX,Zr0,Zk1,Zrb,ZoW,ZsE,ZoV,ZqP,ZmZ,Zu,Zy,unG,reduceCtorEq,Zm,ZI,decide_eq_true_eq,Xh,Xc,Zsb,ZqW,Zqy,Zjp,Zkf,ZpL,ZlV,Zjt,Zlv,ZoD,ZkM,Zql,Zrl,ZaS,Zhz,ZgE,Zsd,Zkc,Zoy,Zpo,ZoM,Zsf,Zi4,ZgN,ZmH,Zrt,Zkb,ZmJ,Zrh,Zl7,Zod,ZoR,Zov,ZlI,Zrd,Zlm,ZiW,ZmQ,Zlo,ZrW,WY,Xbe,XaQ,XH,Bool.bne_false,Bool.bne_true,ZO,ZP,ZL,ZQ,ZbK,ZbP,ZbT,ZbO,ZbN,Za9,Xa4,XM,XU,List.getD_nil,ZN,ZqH,Zko,ZpT,ZpW,Zr6,Zpn,ZqS,Zlg,ZR,ZS,ZK,ZM,ite_self,Zia,ZkC,Zqb,Zlz,Zof,Zj6,ZlD,ZpU,ZjA,Zmp,ZlF,Zmi,ZpH,Zp5,ZoG,ZjB,Zqe,ZpK,ZoJ,Zp3,ZpS,Zqf,ZpG,ZiF,Zo2,ZoK,ZkT,ZpA,ZrH,ZiH,ZoC,Zsr,ZjX,ZrK,Zj5,Zr3,ZmG,Zmk,Zi0,ZsA,ZmY,Zqs,Znq,Zn2,Zl1,ZiC,ZjI,Znn,ZiG,ZrN,Zqh,Zo4,ZiE,ZmM,ZqC,Zqw,Zqm,Zop,Zpz,ZnM,ZnE,Zo1,Zrj,Znp,Zp6,ZoP,ZlA,ZnY,Zi7,Zor,ZpY,Zmr,Zpt,ZkS,Zjv,Zk5,ZqM,Zpp,Zk7,Zn3,Zq8,Zj9,Zq4,ZqD,ZiN,Znu,Zmy,Zjo,Zm2,Zsj,ZnW,ZiJ,ZlB,Zke,ZmV,Znd,ZkF,Zkt,ZpI,ZsD,Zl4,Zp9,Zoj,Zkl,ZpZ,Zlh,ZjY,Znx,ZqN,Zso,Zm7,ZiB,Zpi,Zl5,Zjx,Zpj,Zjb,Zlx,Zne,ZnB,Zqr,Zlj,Zqx,Zom,Zjr,Zi5,ZqX,Zmd,Zkp,ZrM,Zo3,ZlH,Zq9,Zrg,ZrG,ZjU,Zm3,Zsi,Znv,Zsw,Zi2,ZrS,ZjR,ZpC,Zoa,ZjD,ZnU,Zro,ZkJ,ZnQ,ZpN,Zmu,ZmR,Zsz,Zky,ZlZ,Zkw,Zrc,Zmx,Zra,Zjg,ZpV,ZjZ,Zk2,Zny,ZoA,Zlu,Zob,Zkn,ZpP,Zss,Zk3,ZpF,Zkk,Zi1,Zlw,ZnF,Zk0,Zrm,Zp7,ZlP,ZmO,ZkX,Zl6,Zsq,ZoF,Zon,Zse,Zrq,Zku,ZrR,Zqp,ZlX,ZrQ,ZrD,ZkV,ZrZ,Zj2,Zpv,ZjL,Zl0,ZmL,Zrn,Zqv,Zmj,Zls,Zsa,Zr7,ZjW,ZiM,Zr5,Zr9,ZmT,Zjq,ZrY,Zml,Zp8,Znf,Zlc,ZqF,Zlf,ZrC,ZkK,Zmz,Zm1,ZqO,ZlR,ZqQ,ZmD,ZoQ,Zrv,Zjy,ZlK,Zox,ZnS,ZqI,Zos,Zn9,ZnR,Zjh,ZiU,Zqt,Znj,Zst,Zk8,ZmA,ZkE,ZnD,Zog,ZjN,Zo6,Zsh,ZkP,Zkg,ZoH,Zpl,Zn4,Zo7,ZoO,ZmP,Zi6,Zsl,ZoL,Zm9,Znt,ZoS,Zqo,ZoB,Zkx,Znh,ZqA,Zj1,Zk4,ZlG,Zkq,ZmW,ZlS,Zqn,Zrr,Zoq,Zrz,ZnV,Zpc,Zrs,Zmh,ZrB,ZlU,ZlT,Zqj,ZjP,ZnC,Zm4,Zo5,ZiR,Zj3,ZoI,ZlJ,ZmN,ZkD,Zks,Zma,Zp4,ZqJ,Zpe,ZjV,ZkZ,Zmn,ZnL,Zjd,ZqG,Znk,Zsu,Zmm,ZkY,ZrX,Zmw,ZlL,Zo8,ZmF,Zot,Zp2,Zlb,Zqg,ZiT,Zow,ZpQ,Zoh,Zn0,Zno,Zn5,ZlM,ZiO,Zm8,Znz,ZlN,ZrU,ZnN,Zn7,Zps,ZiS,Zjn,ZpJ,Zni,ZpR,ZlO,ZpB,Zsg,ZiQ,ZpE,ZnI,Zqi,ZkI,Zkd,Zng,Zl3,ZkH,ZiA,Zkz,ZpM,ZoY,Zms,ZkL,Zrx,Zoe,Zjz,ZqY,ZqZ,Zmt,Zli,Zlp,ZiP,Zsp,Zk6,Zln,ZqR,Zsc,ZnH,ZiY,Zpw,ZiX,Zpu,ZrI,Zjw,ZrP,Zq6,Zn8,Zsk,Zn1,Zsm,Zkh,Zjj,Zn6,ZmS,Zry,Zol,Zja,ZjT,Zll,Zoz,ZpO,Zpx,Zph,Zpr,ZrE,Zpm,Zki,Zj7,ZnZ,Zp0,Zq0,Zqq,ZiD,ZjK,ZnP,Zq5,Zjs,ZsB,ZrT,ZiK,Znr,↓reduceIte,ZmB,Zw,ZG,Zc,Zx,Zi]
theorem Zyr (a:Zbf):Zag (Zc a)=Zc a:=by
 simp -implicitDefEqProofs only [EQA,implies_true,forall_const,ZkW,Zou,ZmC,ZmX,Zkv,ZoN,Zqk,Zr2,ZhR,Zgr,ZiI,Zgd,Zpq,Zi3,Zjl,Xs,XV,Xz,XF,List.replicate_zero,XaT,X2,X1,Wp,XE,XO,WU,WP,Wf,XC,Xn,Xo,Xq,Xf,Xg,Xp,Xk,Xah,Bool.false_or,XaI,XaD,Xa6,XaC,W7,Bool.and_false,Xan,if_true,if_false,ite_true,ite_false,XQ,XaV,and_self,and_true,true_and,and_false,false_and,true_or,or_true,false_or,or_false,not_true_eq_false,not_false_eq_true,XaF,Xax,Xay,XaY,Xt,XA,ZH,ZJ,unA,ZjC,Zl9,ZpX,Zi8,Zje,ZnX,Zr0,Zk1,Zrb,ZoW,ZsE,ZoV,ZqP,ZmZ,Zu,Zy,unG,reduceCtorEq,Zm,ZI,decide_eq_true_eq,Xh,Xc,Zsb,ZqW,Zqy,Zjp,Zkf,ZpL,ZlV,Zjt,Zlv,ZoD,ZkM,Zql,Zrl,ZaS,Zhz,ZgE,Zsd,Zkc,Zoy,Zpo,ZoM,Zsf,Zi4,ZgN,ZmH,Zrt,Zkb,ZmJ,Zrh,Zl7,Zod,ZoR,Zov,ZlI,Zrd,Zlm,ZiW,ZmQ,Zlo,ZrW,WY,Xbe,XaQ,XH,Bool.bne_false,Bool.bne_true,ZO,ZP,ZL,ZQ,ZbK,ZbP,ZbT,ZbO,ZbN,Za9,Xa4,XM,XU,List.getD_nil,ZN,ZqH,Zko,ZpT,ZpW,Zr6,Zpn,ZqS,Zlg,ZR,ZS,ZK,ZM,ite_self,Zia,ZkC,Zqb,Zlz,Zof,Zj6,ZlD,ZpU,ZjA,Zmp,ZlF,Zmi,ZpH,Zp5,ZoG,ZjB,Zqe,ZpK,ZoJ,Zp3,ZpS,Zqf,ZpG,ZiF,Zo2,ZoK,ZkT,ZpA,ZrH,ZiH,ZoC,Zsr,ZjX,ZrK,Zj5,Zr3,ZmG,Zmk,Zi0,ZsA,ZmY,Zqs,Znq,Zn2,Zl1,ZiC,ZjI,Znn,ZiG,ZrN,Zqh,Zo4,ZiE,ZmM,ZqC,Zqw,Zqm,Zop,Zpz,ZnM,ZnE,Zo1,Zrj,Znp,Zp6,ZoP,ZlA,ZnY,Zi7,Zor,ZpY,Zmr,Zpt,ZkS,Zjv,Zk5,ZqM,Zpp,Zk7,Zn3,Zq8,Zj9,Zq4,ZqD,ZiN,Znu,Zmy,Zjo,Zm2,Zsj,ZnW,ZiJ,ZlB,Zke,ZmV,Znd,ZkF,Zkt,ZpI,ZsD,Zl4,Zp9,Zoj,Zkl,ZpZ,Zlh,ZjY,Znx,ZqN,Zso,Zm7,ZiB,Zpi,Zl5,Zjx,Zpj,Zjb,Zlx,Zne,ZnB,Zqr,Zlj,Zqx,Zom,Zjr,Zi5,ZqX,Zmd,Zkp,ZrM,Zo3,ZlH,Zq9,Zrg,ZrG,ZjU,Zm3,Zsi,Znv,Zsw,Zi2,ZrS,ZjR,ZpC,Zoa,ZjD,ZnU,Zro,ZkJ,ZnQ,ZpN,Zmu,ZmR,Zsz,Zky,ZlZ,Zkw,Zrc,Zmx,Zra,Zjg,ZpV,ZjZ,Zk2,Zny,ZoA,Zlu,Zob,Zkn,ZpP,Zss,Zk3,ZpF,Zkk,Zi1,Zlw,ZnF,Zk0,Zrm,Zp7,ZlP,ZmO,ZkX,Zl6,Zsq,ZoF,Zon,Zse,Zrq,Zku,ZrR,Zqp,ZlX,ZrQ,ZrD,ZkV,ZrZ,Zj2,Zpv,ZjL,Zl0,ZmL,Zrn,Zqv,Zmj,Zls,Zsa,Zr7,ZjW,ZiM,Zr5,Zr9,ZmT,Zjq,ZrY,Zml,Zp8,Znf,Zlc,ZqF,Zlf,ZrC,ZkK,Zmz,Zm1,ZqO,ZlR,ZqQ,ZmD,ZoQ,Zrv,Zjy,ZlK,Zox,ZnS,ZqI,Zos,Zn9,ZnR,Zjh,ZiU,Zqt,Znj,Zst,Zk8,ZmA,ZkE,ZnD,Zog,ZjN,Zo6,Zsh,ZkP,Zkg,ZoH,Zpl,Zn4,Zo7,ZoO,ZmP,Zi6,Zsl,ZoL,Zm9,Znt,ZoS,Zqo,ZoB,Zkx,Znh,ZqA,Zj1,Zk4,ZlG,Zkq,ZmW,ZlS,Zqn,Zrr,Zoq,Zrz,ZnV,Zpc,Zrs,Zmh,ZrB,ZlU,ZlT,Zqj,ZjP,ZnC,Zm4,Zo5,ZiR,Zj3,ZoI,ZlJ,ZmN,ZkD,Zks,Zma,Zp4,ZqJ,Zpe,ZjV,ZkZ,Zmn,ZnL,Zjd,ZqG,Znk,Zsu,Zmm,ZkY,ZrX,Zmw,ZlL,Zo8,ZmF,Zot,Zp2,Zlb,Zqg,ZiT,Zow,ZpQ,Zoh,Zn0,Zno,Zn5,ZlM,ZiO,Zm8,Znz,ZlN,ZrU,ZnN,Zn7,Zps,ZiS,Zjn,ZpJ,Zni,ZpR,ZlO,ZpB,Zsg,ZiQ,ZpE,ZnI,Zqi,ZkI,Zkd,Zng,Zl3,ZkH,ZiA,Zkz,ZpM,ZoY,Zms,ZkL,Zrx,Zoe,Zjz,ZqY,ZqZ,Zmt,Zli,Zlp,ZiP,Zsp,Zk6,Zln,ZqR,Zsc,ZnH,ZiY,Zpw,ZiX,Zpu,ZrI,Zjw,ZrP,Zq6,Zn8,Zsk,Zn1,Zsm,Zkh,Zjj,Zn6,ZmS,Zry,Zol,Zja,ZjT,Zll,Zoz,ZpO,Zpx,Zph,Zpr,ZrE,Zpm,Zki,Zj7,ZnZ,Zp0,Zq0,Zqq,ZiD,ZjK,ZnP,Zq5,Zjs,ZsB,ZrT,ZiK,Znr,↓reduceIte,ZmB,Zw,ZG,Zc,Zx,Zi]
theorem Zzg (σ:Za) (sq own:Nat) (view:Bool) (i n:Int) (t p d:ZF) (i' n':Int) (t' p' d':ZF):ZZ E BY σ sq 35 own view [.agg [.int .i64 i,.int .i64 n,.str t,.str p,.lst false (d.map Zt)],.agg [.int .i64 i',.int .i64 n',.str t',.str p',.lst false (d'.map Zt)]]=some (.bool (i == i' && n == n' && t == t' && p == p' && d == d'),σ,{}) :=
 ZeQ (Zwy ⟨i,n,t,p,d⟩ ⟨i',n',t',p',d'⟩) (by kernel_rfl) (by simp only [Xt,Zy6];rfl) (by simp only [Xs,Zyr];rfl) rfl (fun _=>rfl) _ _ _ _
theorem Zvf (a b:List Zbf) (h:a.length=b.length) (hl:a.length<=9223372036854775807):∀ (r s:List Zbf) (i:Nat),a.drop i=r->b.drop i=s->ZhU 0 [(5,.int .i64 i),(1,Zk b),(0,Zk a)] []=some (.bool (r == s),[])
 | [],s,i,ha,hb=>by
  have hs:s=[]:=by
   subst hb;rw [Wo] at ha ⊢;omega
  subst hs
  have h1:=ZgR ha
  unfold ZhU
  rw [ZaZ]
  simp -implicitDefEqProofs only [EQA,ZA,ZD,ZC,Zz,ZE,ZB,ZO,ZP,ZL,ZQ,ZN,ZR,ZS,ZK,ZM,implies_true,forall_const,Xn,Xo,Xq,Xf,Xg,Xp,Xk,ZH,ZJ,unA,Zu,Zy,unG,reduceCtorEq,Zm,decide_eq_true_eq,Xh,Xc,ite_self,↓reduceIte,Zw,ZG,gcT,gcA,Zl,Zf,Ze,Zg,Zn,Zb,Zo,Zh,Zp,Xe,Zid,ZfZ,Zhy,Zie,Zfs,Zib,Zfl,Zs,Zi,Zk,Zc,Zx,ZI,h1]
 | x::r,[],i,ha,hb=>by
  have:=(Zba ha).2.2;rw [Wo] at hb;omega
 | x::r,y::s,i,ha,hb=>by
  have ih:=Zvf a b h hl r s (i+1) (Zba ha).2.1 (Zba hb).2.1
  have h1:(i:Int) < a.length:=by have:=(Zba ha).2.2;omega
  have e1:=iad (Zba ha).1 Zc (k:=5) rfl
  have e2:=iad (Zba hb).1 Zc (k:=5) rfl
  have e3:=ZkQ h1 hl
  unfold ZhU at ih ⊢
  rw [ZaZ]
  simp -implicitDefEqProofs only [EQA,ZA,ZD,ZC,Zz,ZE,ZB,ZO,ZP,ZL,ZQ,ZN,ZR,ZS,ZK,ZM,implies_true,forall_const,Xn,Xo,Xq,Xf,Xg,Xp,Xk,ZH,ZJ,unA,Zu,Zy,unG,reduceCtorEq,Zm,decide_eq_true_eq,Xh,Xc,ite_self,↓reduceIte,Zw,ZG,gcT,gcA,Zl,Zf,Ze,Zg,Zn,Zb,Zo,Zh,Zp,Xe,Zid,ZfZ,Zhy,Zie,Zfs,Zib,Zfl,Zs,Zi,Zk,Zc,Zx,ZI,h1,e1,e2,e3,Zzg]
  simp only [Zk] at ih
  rw [ih,Zwo]
  by_cases hx:x=y <;> simp [hx]
theorem Zyg (a b:List Zbf) (hl:a.length<=9223372036854775807):E 29 [Zk a,Zk b] []=some (.bool (a == b),[]):=by
 rw [ZcQ (by rfl) Zy7]
 by_cases h:a.length=b.length
 ·have:=Zvf a b h hl a b 0 rfl rfl
  unfold ZhU at this
  simp only [Zk] at this
  have e:=ZuY h
  simp -implicitDefEqProofs only [EQA,ZA,ZD,ZC,Zz,ZE,ZB,ZO,ZP,ZL,ZQ,ZN,ZR,ZS,ZK,ZM,implies_true,forall_const,Xn,Xo,Xq,Xf,Xg,Xp,Xk,ZH,ZJ,unA,Zu,Zy,unG,reduceCtorEq,Zm,decide_eq_true_eq,Xh,Xc,ite_self,↓reduceIte,Zw,ZG,gcT,gcA,Zl,Zf,Ze,Zg,Zn,Zb,Zo,Zh,Zp,Xe,Zid,ZfZ,Zhy,Zie,Zfs,Zib,Zfl,Zs,Zi,Zk,Zc,Zx,ZI,e]
  exact this
 ·have e:=Zub h
  simp -implicitDefEqProofs only [EQA,ZA,ZD,ZC,Zz,ZE,ZB,ZO,ZP,ZL,ZQ,ZN,ZR,ZS,ZK,ZM,implies_true,forall_const,Xn,Xo,Xq,Xf,Xg,Xp,Xk,ZH,ZJ,unA,Zu,Zy,unG,reduceCtorEq,Zm,decide_eq_true_eq,Xh,Xc,ite_self,↓reduceIte,Zw,ZG,gcT,gcA,Zl,Zf,Ze,Zg,Zn,Zb,Zo,Zh,Zp,Xe,Zid,ZfZ,Zhy,Zie,Zfs,Zib,Zfl,Zs,Zi,Zk,Zc,Zx,ZI,e,ZuP h]
theorem ZAm (σ:Za) (sq own:Nat) (view:Bool) (a b:List Zbf) (hl:a.length<=9223372036854775807):ZZ E BY σ sq 29 own view [.lst false (a.map Zc),.lst false (b.map Zc)]=some (.bool (a == b),σ,{}) :=
 ZeQ (Zyg a b hl) (by kernel_rfl) (by simp -implicitDefEqProofs only [Zed,Zd2,ZA,ZD,ZC,ZdV,Zz,ZE,Zd7,ZB,eq_self,implies_true,Xw,Zs,Zi,Zk,Zc,Zx,Zs]) (by simp -implicitDefEqProofs only [Zed,Zd2,ZA,ZD,ZC,ZdV,Zz,ZE,Zd7,ZB,eq_self,implies_true,Xw,Zs,Zi,Zk,Zc,Zx,Zs]) rfl (fun _=>rfl) _ _ _ _
end
section
end
section
structure Z2 where
 topic:ZF
 payload:ZF
 qos:Int
 retain:Bool
 sender:ZF
 expires:Int
 props:List Zbf
 origin:Int
 number:Int
 hops:Int
 deriving DecidableEq
structure Zc9 where
 note:Z2
 qos:Int
 retain:Bool
 ids:List Int
 share:ZF
 deriving DecidableEq
def Z6 (n:Z2):List AVal:=[.str n.topic,Zi n.payload,.int .i64 n.qos,.bool n.retain,.str n.sender,.int .i64 n.expires,Zk n.props,.int .i64 n.origin,.int .i64 n.number,.int .i64 n.hops]
def Zck (n:Z2):AVal:=.agg (Z6 n)
def ZbS (n:Zc9):List AVal:=[.str n.note.topic,Zi n.note.payload,.int .i64 n.note.qos,.bool n.note.retain,.str n.note.sender,.int .i64 n.note.expires,Zk n.note.props,.int .i64 n.note.origin,.int .i64 n.note.number,.int .i64 n.note.hops,.int .i64 n.qos,.bool n.retain,Zs n.ids,.str n.share]
def ZcO (n:Zc9):AVal:=.agg (ZbS n)
def Zfx (a b:Z2):Bool:=a.topic == b.topic && a.payload == b.payload && a.qos == b.qos && a.retain == b.retain && a.sender == b.sender && a.expires == b.expires && a.props == b.props && a.origin == b.origin && a.number == b.number && a.hops == b.hops
theorem ZAp (a b:Z2) (hl:a.props.length<=9223372036854775807):E 13 [Zck a,Zck b] []=some (.bool (Zfx a b),[]):=by
 rw [ZcQ (by rfl) ZxC]
 simp -implicitDefEqProofs only [EQA,ZA,ZD,ZC,Zz,ZE,ZB,ZO,ZP,ZL,ZQ,ZN,ZR,ZS,ZK,ZM,implies_true,forall_const,Xn,Xo,Xq,Xf,Xg,Xp,Xk,ZH,ZJ,unA,Zu,Zy,unG,reduceCtorEq,Zm,decide_eq_true_eq,Xh,Xc,ite_self,↓reduceIte,Zw,ZG,gcT,gcA,Zl,Zf,Ze,Zg,Zn,Zb,Zo,Zh,Zp,Xe,Zxm,ZmK,ZxQ,Zs,Zi,Zk,Zc,Zx,ZI,Zck,Z6,ZAm,hl,Zfx]
theorem Zt6 (σ:Za) (sq own:Nat) (view:Bool) (a b:Z2) (hl:a.props.length<=9223372036854775807):ZZ E BY σ sq 13 own view [.agg [.str a.topic,.lst false (a.payload.map Zt),.int .i64 a.qos,.bool a.retain,.str a.sender,.int .i64 a.expires,.lst false (a.props.map Zc),.int .i64 a.origin,.int .i64 a.number,.int .i64 a.hops],.agg [.str b.topic,.lst false (b.payload.map Zt),.int .i64 b.qos,.bool b.retain,.str b.sender,.int .i64 b.expires,.lst false (b.props.map Zc),.int .i64 b.origin,.int .i64 b.number,.int .i64 b.hops]]=some (.bool (Zfx a b),σ,{}) :=
 ZeQ (ZAp a b hl) (by kernel_rfl) (by simp -implicitDefEqProofs only [Zed,Zd2,ZA,ZD,ZC,ZdV,Zz,ZE,Zd7,ZB,eq_self,implies_true,Xw,Zs,Zi,Zk,Zc,Zx,Zck,Z6]) (by simp -implicitDefEqProofs only [Zed,Zd2,ZA,ZD,ZC,ZdV,Zz,ZE,Zd7,ZB,eq_self,implies_true,Xw,Zs,Zi,Zk,Zc,Zx,Zck,Z6]) rfl (fun _=>rfl) _ _ _ _
end
section
theorem ZtX {O:ZY} {bf:Nat->Bool} {σ:Za} {sq f own:Nat} {view:Bool} {args:List AVal} (h:args.all Zaq=true) (hm:args.map Zag=args) :
  ZZ O bf σ sq f own view args=Zay σ σ [] [] sq own (ZaA view 0 (O f args [])):=by
 cases hb:bf f
 ·rw [ZdX hb h,hm]
 ·have hr:=Zil h
  have hn:=fun ρ=>Zhg (ρ:=ρ) h
  rw [hm] at hr
  simp only [hm] at hn
  unfold ZZ Zcu
  rw [hb]
  simp only [if_true]
  have h1:Zr σ []=σ:=rfl
  rw [h1,hr]
  have h2:Zf σ 1000 [] []=[]:=rfl
  rw [h2]
  unfold ZbJ
  simp only [XA,if_true,hn,Zg,XF]
theorem Zyf {O:ZY} {bf:Nat->Bool} {f:Nat} {args:List AVal} {k n:Nat} {xs:List AVal} (h:O f args []=some (.sl 0 0 0 n,[.row 0 k xs])) (hn:xs.length=n) (hp:args.all Zaq=true) (hm:args.map Zag=args) (σ:Za) (sq own:Nat):ZZ O bf σ sq f own true args=some (.lst false xs,σ,{}):=by
 rw [ZtX hp hm,h]
 have : ZaA true 0 (some (.sl 0 0 0 n,[.row 0 k xs]))=some (.lst false xs,[]):=by
  unfold ZaA
  rw [if_pos rfl,ZqV (k:=k) (g:=0) (t:=0) (xs:=xs) rfl (by omega),Wj (by omega)]
 rw [this,Zgn _ _ _ _ rfl]
theorem Zw0 {O:ZY} {bf:Nat->Bool} {f:Nat} {args:List AVal} {k n:Nat} {xs:List AVal} (h:O f args []=some (.sl 0 0 0 n,[.row 0 k xs])) (hp:args.all Zaq=true) (hm:args.map Zag=args) (σ:Za) (sq:Nat) (hs:freeAt σ sq=true):ZZ O bf σ sq f 1 false args=some (.sl sq 0 0 n,σ.set sq (.row 0 k xs),if xs.all ZaL then {} else { any:=true }):=by
 rw [ZtX hp hm,h]
 cases hx:xs.all ZaL <;> simp [ZaA,Zay,Zf7,hx,ZcA,okB,Zb,Zc8,hs,Zj,Za2,Zbo,Zcw,Zcw,ZaG,Zb8,Zh]
theorem ZsH {O:ZY} {bf:Nat->Bool} {f:Nat} {args args':List AVal} {r r':AVal} (h:O f args' []=some (r,[])) (hb:bf f=false) (hp:args.all Zaq=true) (hn:args.map Zag=args') (hv:Zcb 0 (some (r,[]))=some (r',[])) (hr:∀ sq,Zj (Za2 [] [] sq) r'=r') (σ:Za) (sq own:Nat):ZZ O bf σ sq f own true args=some (r',σ,{}):=by
 rw [ZdX hb hp,hn,h]
 have : ZaA true 0 (some (r,[]))=some (r',[]):=by
  unfold ZaA
  rw [if_pos rfl];exact hv
 rw [this,Zgn _ _ _ _ (hr sq)]
def ZbM:List AVal->AVal
 | []=>.lst true []
 | x::xs=>.sl 0 0 0 (x::xs).length
def Zbt (k:Nat):List AVal->Za
 | []=>[]
 | x::xs=>[.row 0 k (x::xs)]
theorem Zgs:ZbM []=.lst true []:=rfl
theorem Zgt (x:AVal) (xs:List AVal):ZbM (x::xs)=.sl 0 0 0 (x::xs).length:=rfl
theorem ZeW (k:Nat):Zbt k []=[]:=rfl
theorem ZfO (k:Nat) (x:AVal) (xs:List AVal):Zbt k (x::xs)=[.row 0 k (x::xs)]:=rfl
theorem ZiV {O:ZY} {bf:Nat->Bool} {f k:Nat} {args args':List AVal} {full:List AVal} (h:O f args' []=some (ZbM full,Zbt k full)) (hb:bf f=false) (hp:args.all Zaq=true) (hn:args.map Zag=args') (σ:Za) (sq own:Nat):ZZ O bf σ sq f own true args=some (.lst false full,σ,{}):=by
 cases full with
 | nil=>exact ZsH h hb hp hn rfl (fun _=>rfl) σ sq own
 | cons x xs =>
  rw [Zgt,ZfO] at h
  rw [ZdX hb hp,hn,h]
  have : ZaA true 0 (some (.sl 0 0 0 (x::xs).length,[.row 0 k (x::xs)]))=some (.lst false (x::xs),[]):=by
   unfold ZaA
   rw [if_pos rfl,ZqV (k:=k) (g:=0) (t:=0) (xs:=x::xs) rfl (by omega),Wj (by omega)]
  rw [this,Zgn _ _ _ _ rfl]
theorem Zwe (l:ZF):kOk 1 (l.map Zt)=true:=by cases l <;> rfl
end
section
theorem ZxE (l:ZF):kOk 1 (l.map Zt)=true:=by cases l <;> rfl
theorem Zv5 (l:ZF) (h:l.length<=140737488355328):E 36 [.lst false (l.map Zt)] []=some (.sl 0 0 0 (l.map Zt).length,[.row 0 1 (l.map Zt)]):=by
 refine Zcm.2 ⟨1,?_⟩
 show Zen 1 1 [.lst false (l.map Zt)] []=_
 have h1:(l.map Zt).length*1<=140737488355328/\kOk 1 (l.map Zt)=true:=⟨by simpa using h,ZxE l⟩
 simp only [Zen,Zm]
 rw [if_pos h1];rfl
theorem ZuX (σ:Za) (sq own:Nat) (l:ZF) (h:l.length<=140737488355328):ZZ E BY σ sq 36 own true [.lst false (l.map Zt)]=some (.lst false (l.map Zt),σ,{}) :=
 Zyf (bf:=BY) (Zv5 l h) rfl rfl rfl σ sq own
end
section
structure Zas where
 filter:ZF
 qos:Int
 noLocal:Bool
 asPublished:Bool
 handling:Int
 id:Int
 deriving DecidableEq
def Za5 (s:Zas):AVal:=.agg [.str s.filter,.int .i64 s.qos,.bool s.noLocal,.bool s.asPublished,.int .i64 s.handling,.int .i64 s.id]
structure Zzs where
 topic:ZF
 data:ZF
 qos:Int
 retain:Bool
 props:List Zbf
 deriving DecidableEq
structure ZBn where
 type:Int
 dup:Bool
 qos:Int
 retain:Bool
 id:Int
 topic:ZF
 payload:ZF
 code:Int
 codes:List Int
 props:List Zbf
 subs:List Zas
 filters:List ZF
 clean:Bool
 keep:Int
 client:ZF
 hasWill:Bool
 will:Zzs
 hasUser:Bool
 user:ZF
 hasPassword:Bool
 password:ZF
 present:Bool
 deriving DecidableEq
end
section
theorem Zx4 (l:List Zbf):kOk 5 (l.map Zc)=true:=by cases l <;> rfl
theorem Zyw (l:List Zbf) (h:l.length<=700000000):E 37 [.lst false (l.map Zc)] []=some (.sl 0 0 0 (l.map Zc).length,[.row 0 5 (l.map Zc)]):=by
 refine Zcm.2 ⟨1,?_⟩
 show Zen 5 72 [.lst false (l.map Zc)] []=_
 have h1:(l.map Zc).length*72<=140737488355328/\kOk 5 (l.map Zc)=true:=⟨by simp;omega,Zx4 l⟩
 simp only [Zen,Zm]
 rw [if_pos h1];rfl
def ZdK (n:Z2) (b:Nat):List AVal:=[.str n.topic,.lst false (n.payload.map Zt),.int .i64 n.qos,.bool n.retain,.str n.sender,.int .i64 n.expires,.sl b 0 0 n.props.length,.int .i64 n.origin,.int .i64 n.number,.int .i64 n.hops]
def ZhH:List AVal:=[.str [],.lst true [],.int .i64 0,.bool false,.str [],.int .i64 0,.lst true [],.int .i64 0,.int .i64 0,.int .i64 0]
structure Zdp (n:Z2):Prop where
 pay:n.payload.length<=140737488355328
 len:n.props.length<=700000000
 data:∀ p ∈ n.props,p.data.length<=140737488355328
theorem ZtW (n:Z2) (hl:n.props.length<=700000000) (hd:∀ p ∈ n.props,p.data.length<=140737488355328):∀ (r:List Zbf) (i:Nat),n.props.drop i=r ->
  ZhM 0 [(15,.int .i64 i),(14,.int .i64 n.props.length),(2,.ref 0 0),(1,.ref 1 0)] [.var ZhH,.var (ZdK n 2),.row 0 5 (n.props.map Zc)] =
  some (.agg (ZdK n 0),[.row 0 5 (n.props.map Zc)])
 | [],i,h=>by
  have h1:=ZgR h
  generalize n.props.map Zc=R at *
  unfold ZhM ZdK ZhH
  generalize n.payload.map Zt=L at *
  rw [ZaZ]
  simp -implicitDefEqProofs only [EQA,ZA,ZD,ZC,Zz,ZE,ZB,ZO,ZP,ZL,ZQ,ZN,ZR,ZS,ZK,ZM,implies_true,forall_const,Xn,Xo,Xq,Xf,Xg,Xp,Xk,ZH,ZJ,unA,Zu,Zy,unG,reduceCtorEq,Zm,decide_eq_true_eq,Xh,Xc,ite_self,↓reduceIte,Zw,ZG,gcT,gcA,Zl,Zf,Ze,Zg,Zn,Zb,Zo,Zh,Zp,Xe,Zlt,ZgP,ZmI,Zj4,ZgC,Zjm,ZgL,Zs,Zi,Zk,Zc,Zx,ZI,h1,Zab,ZT,Xt,XA,AVal.cells,ZaS,Za9,Zcn,Zbk,WA,WG,Xt,XA,Xz,XF,ZbP,ZbK,ZbT,ZbO,ZbN,XM,XU,ZaI,ZaQ,ZaP,Zbe,ZbE,Zbq,ZbU,ZbR,ZaY,ZbL,XZ,Wi,Xt,XA,X0]
  simp [Zaz,gcA,Zl,Zf,ZW,Z5,Ze,Zg,Zn,Zb,Zo,ZV,Zj,Zh,Zp,Xe]
 | p::r,i,h=>by
  have ih:=ZtW n hl hd r (i+1) (Zba h).2.1
  have hp:=hd p (Xr (Zba h).1)
  have hC:=fun σ sq own=>ZuX σ sq own p.data hp
  have h1:(i:Int) < n.props.length:=by have:=(Zba h).2.2;omega
  have h2:i < n.props.length:=(Zba h).2.2
  have h0:(0:Int)<=(i:Int):=by omega
  have hg:(n.props.map Zc)[i]?=some (.agg [.int .i64 p.id,.int .i64 p.num,.str p.text,.str p.pair,.lst false (p.data.map Zt)]):=by
   rw [XX,(Zba h).1];rfl
  have hset:(n.props.map Zc).set i (.agg [.int .i64 p.id,.int .i64 p.num,.str p.text,.str p.pair,.lst false (p.data.map Zt)])=n.props.map Zc:=by
   apply X6
   intro j
   rw [List.getElem?_set]
   by_cases e:i=j
   ·subst e;rw [if_pos rfl,if_pos (by simpa using h2),hg]
   ·simp [e]
  have hw:IntKind.i64.wrap ((i:Int)+1)=((i+1:Nat):Int):=by rw [Zcv (by omega) (by omega)];rfl
  have hn:((i:Nat):Int).toNat=i:=Xa3 i
  generalize n.props.map Zc=R at *
  generalize p.data.map Zt=D at *
  unfold ZhM ZdK ZhH at *
  generalize n.payload.map Zt=L at *
  rw [ZaZ]
  simp -implicitDefEqProofs only [EQA,ZA,ZD,ZC,Zz,ZE,ZB,ZO,ZP,ZL,ZQ,ZN,ZR,ZS,ZK,ZM,implies_true,forall_const,Xn,Xo,Xq,Xf,Xg,Xp,Xk,ZH,ZJ,unA,Zu,Zy,unG,reduceCtorEq,Zm,decide_eq_true_eq,Xh,Xc,ite_self,↓reduceIte,Zw,ZG,gcT,gcA,Zl,Zf,Ze,Zg,Zn,Zb,Zo,Zh,Zp,Xe,Zlt,ZgP,ZmI,Zj4,ZgC,Zjm,ZgL,Zs,Zi,Zk,Zc,Zx,ZI,h1,h0,h2,hg,hset,hC,hw,hn,ZaT,ZeO,Zah,Zae,Zr,Zab,ZT,Xt,XA,AVal.cells,XC,ZaS,Za9,Zcn,Zbk,WA,WG,Xt,XA,Xz,XF,ZbP,ZbK,ZbT,ZbO,ZbN,XM,XU,ZaI,ZaQ,ZaP,Zbe,ZbE,Zbq,ZbU,ZbR,ZaY,ZbL,XZ,Wi,Xt,XA,X0]
  exact ih
theorem Zyj (n:Z2) (hn:Zdp n):E 30 [Zck n] []=some (.agg (ZdK n 0),[.row 0 5 (n.props.map Zc)]):=by
 have h:=ZtW n hn.len hn.data n.props 0 rfl
 have z:((0:Nat):Int)=0:=rfl
 rw [z] at h
 have c1:=fun σ sq own=>ZuX σ sq own n.payload hn.pay
 have c2:=fun σ sq hs=>Zw0 (bf:=BY) (Zyw n.props hn.len) rfl rfl σ sq hs
 rw [XH] at c2
 unfold ZdK ZhH at h
 unfold ZdK Zck Z6 Zi Zk
 generalize n.payload.map Zt=P at *
 generalize n.props.map Zc=R at *
 unfold ZhM at h
 rw [ZcQ (by rfl) Zv2]
 simp -implicitDefEqProofs only [EQA,ZA,ZD,ZC,Zz,ZE,ZB,ZO,ZP,ZL,ZQ,ZN,ZR,ZS,ZK,ZM,implies_true,forall_const,Xn,Xo,Xq,Xf,Xg,Xp,Xk,ZH,ZJ,unA,Zu,Zy,unG,reduceCtorEq,Zm,decide_eq_true_eq,Xh,Xc,ite_self,↓reduceIte,Zw,ZG,gcT,gcA,Zl,Zf,Ze,Zg,Zn,Zb,Zo,Zh,Zp,Xe,Zlt,ZgP,ZmI,Zj4,ZgC,Zjm,ZgL,Zs,Zi,Zk,Zc,Zx,ZI,c1,c2,Zab,ZT,Xt,XA,AVal.cells]
 exact h
theorem ZyH (n:Z2) (hn:Zdp n) (σ:Za) (sq own:Nat):ZZ E BY σ sq 30 own true [.agg [.str n.topic,.lst false (n.payload.map Zt),.int .i64 n.qos,.bool n.retain,.str n.sender,.int .i64 n.expires,.lst false (n.props.map Zc),.int .i64 n.origin,.int .i64 n.number,.int .i64 n.hops]]=some (.agg [.str n.topic,.lst false (n.payload.map Zt),.int .i64 n.qos,.bool n.retain,.str n.sender,.int .i64 n.expires,.lst false (n.props.map Zc),.int .i64 n.origin,.int .i64 n.number,.int .i64 n.hops],σ,{}):=by
 rw [ZdX (by kernel_rfl) rfl]
 simp only [Xs,XV,Zag,ZaE]
 have h:=Zyj n hn
 unfold Zck Z6 Zi Zk at h
 rw [h]
 have : ZaA true 0 (some (.agg (ZdK n 0),[.row 0 5 (n.props.map Zc)]))=some (.agg [.str n.topic,.lst false (n.payload.map Zt),.int .i64 n.qos,.bool n.retain,.str n.sender,.int .i64 n.expires,.lst false (n.props.map Zc),.int .i64 n.origin,.int .i64 n.number,.int .i64 n.hops],[]):=by
  unfold ZdK
  have e:(List.map Zc n.props).take n.props.length=n.props.map Zc:=by rw [<-XH (f:=Zc),List.take_length]
  simp [ZaA,Zcb,viewR,Zao,Zah,Zae,Zm,e,Zr,gcA,Zl,Zf,ZW,Z5,Ze,Zg,Zn,ZV,Zj]
 rw [this]
 simp [Zay,ZaX,ZaL,ZaD,Zcq,Zj,ZV]
end
section
theorem Zvg {O:ZY} {bf:Nat->Bool} {σ:Za} {t sq f own k:Nat} {view:Bool} {args args' xs xs':List AVal} {r:AVal} {b':ZU} (hs:σ[t]?=some (.row 0 k xs)) (hb:bf f=true) (hff:Zc8 σ sq own=true)
  (href:ZW args=[t]) (hren:∀ ρ:Rho,ρ t 0=some (0,0)->ZV ρ args=args') (hr:∀ ρ:Rho,Zj ρ r=r) (hb':b'=.row 0 k xs'\/b'=.frow 0 k xs')
  (h:ZaA view 1 (O f args' [.row 0 k xs])=some (r,[b'])):ZZ O bf σ sq f own view args=some (r,σ.set t b',{ any:=true }):=by
 have hd:σ.getD t .free=.row 0 k xs:=by simp [Xi,hs]
 have hf0:Zr σ []=σ:=rfl
 unfold ZZ Zcu
 rw [hb]
 simp only [if_true,hf0,href]
 have hreach:Zf σ 1000 [t] []=[t]:=by
  simp only [Zf,X0,Xw,if_false,hd,Zp,X1]
 rw [hreach]
 unfold ZbJ
 have hall:([t].all fun t=>okB (σ.getD t .free))=true:=by simp [Xt,XA,hs,okB]
 rw [if_pos hall]
 have hρ:Ze σ 0 [t] t 0=some (0,0):=by simp [Ze,Zn,hs,Zb,Zo]
 have hheap:Zg σ 0 [t] (Ze σ 0 [t]) [t] 0=[.row 0 k xs]:=by
  simp only [Zg,hd,Zo,Zb,Zh,Nat.not_lt_zero,false_and,if_false]
 rw [hren _ hρ,hheap]
 simp only [Xz,XF,XC]
 rw [h]
 have hk:ZcA σ [t] [b'] 0=true:=by
  rcases hb' with rfl | rfl <;> simp [ZcA,okB,hs,ZeI,Zb]
 have hren':∀ ρ,Zh ρ (Zb8 σ [t] 0 b') b'=b':=by
  intro ρ
  rcases hb' with rfl | rfl <;> simp [Zb8,hs,Zb,Zh]
 simp only [Zay,Xa4,Xan,Xw,if_false,Xz,XF,XC,Nat.le_add_right,XN,decide_true,hk,hff,W7,if_true,Zbo,Zcw,ZaG,XM,hr,hren']
 have htl:t < σ.length:=(Xd.1 hs).1
 have hg:(σ.set t b')[t]?=some b':=by simp [htl]
 simp only [XS,Xav,X2,hg]
 rcases hb' with rfl | rfl <;> rfl
end
section
def ZbD (l:List Int):List Int:=l.mergeSort fun x y=>decide (x<=y)
theorem Zvw {d l:List Int} (h:d.Perm l):ZbD d=ZbD l:=by
 unfold ZbD
 have ht:∀ a b c:Int,decide (a<=b)=true->decide (b<=c)=true->decide (a<=c)=true:=by intro a b c;simp only [decide_eq_true_eq];omega
 have hto:∀ a b:Int,(decide (a<=b) || decide (b<=a))=true:=by intro a b;simp only [Wu,decide_eq_true_eq];omega
 have h1:=Xaj ht hto d
 have h2:=Xaj ht hto l
 have hp:(d.mergeSort fun x y=>decide (x<=y)).Perm (l.mergeSort fun x y=>decide (x<=y)):=((W4 d _).trans h).trans (W4 l _).symm
 exact hp.eq_of_pairwise (fun a b _ _ h1 h2=>by simp only [decide_eq_true_eq] at h1 h2;omega) h1 h2
theorem ZvE:∀ d:List Int,Zbv Ze1 (d.map (AVal.int .i64))=some d
 | []=>rfl
 | x::d=>by
  show (Zbv Ze1 (d.map (AVal.int .i64))).map (x::·)=_
  rw [ZvE d];rfl
theorem Zx1 (d:List Int) (h:d.length < 4611686018427387904):E 31 [.sl 0 0 0 d.length] [.row 0 1 (d.map (AVal.int .i64))]=some (.tup [],[.row 0 1 ((ZbD d).map (AVal.int .i64))]):=by
 refine Zcm.2 ⟨1,?_⟩
 show Zin [.sl 0 0 0 d.length] [.row 0 1 (d.map (AVal.int .i64))]=_
 simp only [Zin,Ziv,ZvE,XH,h,and_self,if_true]
 rfl
theorem Zw5 (d:List Int) (h:d.length < 4611686018427387904) {σ:Za} {t sq:Nat} (hs:σ[t]?=some (.row 0 1 (d.map (AVal.int .i64)))):ZZ E BY σ sq 31 0 true [.sl t 0 0 d.length]=some (.tup [],σ.set t (.row 0 1 ((ZbD d).map (AVal.int .i64))),{ any:=true }):=by
 refine Zvg (args':=[.sl 0 0 0 d.length]) hs (by kernel_rfl) rfl rfl (fun ρ h=>by simp only [ZV,Zj,h]) (fun ρ=>rfl) (Xv rfl) ?_
 rw [Zx1 d h]
 rfl
theorem Zwz (σ:Za) (sq:Nat):ZZ E BY σ sq 31 0 true [.lst true []]=some (.tup [],σ,{}):=by
 have h:E 31 [.lst true []] []=some (.tup [],[]):=Zcm.2 ⟨1,rfl⟩
 unfold ZZ Zcu
 rw [show BY 31=true by kernel_rfl]
 simp only [if_true,show ZW [AVal.lst true []]=[] from rfl,show Zr σ []=σ from rfl]
 rw [show Zf σ 1000 [] []=[] from rfl]
 unfold ZbJ
 rw [if_pos (by rfl),show ZV (Ze σ 0 []) [AVal.lst true []]=[.lst true []] from rfl,show Zg σ 0 [] (Ze σ 0 []) [] 0=[] from rfl,h]
 rfl
end
section
def Zcz:Zq:=(.seq (.seq (.region [oF 68 2 1,oL 69 68,oI 70 (.len (.t 69)),oI 71 (.bin .gtr (.t 70) (.c (.int .i64 0)))] none [71,4,2,1]) (.cond (.t 71) (.region [oF 72 2 1,oL 73 72,oI 74 (.call 18 0 true [(.t 73)]),oI 75 (.bin .add (.c (.str [36,115,104,97,114,101,47,103,47])) (.t 74)),oF 76 13 4,oN (.st 1 (.t 76) (.t 75))] none [4,2]) .skip)) (.seq (.region [oI 77 (.ld (some 14) (.t 4)),oN (.st 14 (.t 2) (.t 77))] none [2]) .ret))
def Zl8:Zq:=Zcz
def Zc4:=xw Zl8 Zcz rfl
def Zcp:Zq:=(.seq (.seq (.region [oM 45 5,oF 46 13 1,oL 47 46,oI 48 (.len (.t 47)),oI 49 (.bin .lss (.t 45) (.t 48)),oM 50 49,⟨(some 51),(.mov (.t 5)),(some (50,true)),[]⟩,⟨(some 52),(.bin .lss (.t 51) (.c (.int .i64 4))),(some (50,true)),[]⟩,oI 53 (.pick (.t 50) (.t 52) (.c (.bool false)))] none [53,5,4,2,1]) (.cond (.t 53) .skip (.exit 0))) (.seq (.block 1 (.region [oF 56 12 4,oL 57 56,oF 58 13 1,oL 59 58,oM 60 5,oI 61 (.iaddr 1 (.t 59) (.t 60)),oL 62 61,oI 63 (.bin .and (.t 62) (.c (.int .i64 16777215))),oI 64 (.bin .add (.c (.int .i64 1)) (.t 63)),oI 65 (.bslice false 1 1 (.int .i64 0) [(0,(.t 64))]),oI 66 (.app 1 8 (.int .i64 0) (.t 57) (.t 65)),oF 67 12 4,oN (.st 1 (.t 67) (.t 66))] (some [(1,3),(1,5),(1,6),(1,9)]) [5,4,2,1])) (.region [oM 54 5,oI 55 (.bin .add (.t 54) (.c (.int .i64 1))),oM 5 55] none [5,4,2,1])))
def Zkr:Zq:=Zcp
def ZcX:=xw Zkr Zcp rfl
def Zcs:Zq:=(.seq (.region [oI 1 (.box (.t 0)),oI 2 (.alloc [(.str []),(.lst true []),(.int .i64 0),(.bool false),(.str []),(.int .i64 0),(.lst true []),(.int .i64 0),(.int .i64 0),(.int .i64 0),(.int .i64 0),(.bool false),(.lst true []),(.str [])])] none [2,1]) (.seq (.region [oF 6 0 1,oL 7 6,oI 8 (.call 18 0 true [(.t 7)]),oI 9 (.bin .add (.c (.str [116])) (.t 8)),oF 10 3 1,oL 11 10,oI 12 (.call 19 0 true [(.t 11),(.c (.int .i64 300))]),oF 13 4 1,oL 14 13,oI 15 (.call 20 0 true [(.t 14),(.c (.int .i64 0)),(.c (.int .i64 2))]),oF 16 6 1,oL 17 16,oF 18 1 1,oL 19 18,oI 20 (.call 18 0 true [(.t 19)]),oF 21 9 1,oI 22 (.ld (some 4) (.t 21)),oI 23 (.call 21 0 true [(.t 22)]),oF 24 14 1,oL 25 24,oI 26 (.bin .and (.t 25) (.c (.int .i64 255))),oF 27 15 1,oL 28 27,oI 29 (.bin .and (.t 28) (.c (.int .i64 16777215))),oI 30 (.build [(.str []),(.lst true []),(.int .i64 0),(.bool false),(.str []),(.int .i64 0),(.lst true []),(.int .i64 0),(.int .i64 0),(.int .i64 0)] [(0,1,(.t 9)),(1,1,(.t 12)),(2,1,(.t 15)),(3,1,(.t 17)),(4,1,(.t 20)),(6,1,(.t 23)),(7,1,(.t 26)),(8,1,(.t 29))]),oI 3 (.alloc [(.str []),(.lst true []),(.int .i64 0),(.bool false),(.str []),(.int .i64 0),(.lst true []),(.int .i64 0),(.int .i64 0),(.int .i64 0)]),oN (.st 10 (.t 3) (.t 30))] (some [(1,5),(2,5),(1,8),(2,8),(5,8),(6,8),(1,11),(2,11),(5,11),(6,11),(8,11),(9,11),(1,13),(2,13),(5,13),(6,13),(8,13),(9,13),(11,13),(11,14),(1,16),(2,16),(5,16),(6,16),(8,16),(9,16),(11,16),(13,16),(14,16),(11,17),(1,19),(2,19),(5,19),(6,19),(8,19),(9,19),(11,19),(13,19),(14,19),(16,19),(17,19),(1,22),(2,22),(5,22),(6,22),(8,22),(9,22),(11,22),(13,22),(14,22),(16,22),(17,22),(19,22),(1,25),(2,25),(5,25),(6,25),(8,25),(9,25),(11,25),(13,25),(14,25),(16,25),(17,25),(19,25),(22,25)]) [3,2,1]) (.seq (.seq (.region [oF 31 8 1,oL 32 31,oI 33 (.bin .gtr (.t 32) (.c (.int .i64 0)))] none [33,3,2,1]) (.cond (.t 33) (.region [oF 34 8 1,oL 35 34,oI 36 (.bin .and (.t 35) (.c (.int .i64 65535))),oF 37 5 3,oN (.st 1 (.t 37) (.t 36))] none [3,2,1]) .skip)) (.seq (.region [oI 38 (.ld (some 10) (.t 3)),oF 39 5 1,oL 40 39,oI 41 (.call 20 0 true [(.t 40),(.c (.int .i64 0)),(.c (.int .i64 2))]),oF 42 7 1,oL 43 42,oI 44 (.build [(.str []),(.lst true []),(.int .i64 0),(.bool false),(.str []),(.int .i64 0),(.lst true []),(.int .i64 0),(.int .i64 0),(.int .i64 0),(.int .i64 0),(.bool false),(.lst true []),(.str [])] [(0,10,(.t 38)),(10,1,(.t 41)),(11,1,(.t 43))]),oI 4 (.alloc [(.str []),(.lst true []),(.int .i64 0),(.bool false),(.str []),(.int .i64 0),(.lst true []),(.int .i64 0),(.int .i64 0),(.int .i64 0),(.int .i64 0),(.bool false),(.lst true []),(.str [])]),oN (.st 14 (.t 4) (.t 44))] (some [(0,2),(0,3),(0,5),(2,5),(3,5),(0,7),(2,7),(3,7),(5,7)]) [4,2,1]) (.seq (.seq (.region [oI 5 (.mov (.c (.int .i64 0)))] none [5,4,2,1]) (.block 0 (.loop [5,4,2,1] Zkr))) Zl8)))))
def Zh4:Zan:=⟨[(.cell 2 (some 14))],Zcs⟩
theorem Zw4:FC 6=some Zh4:=by kernel_rfl
theorem ZcW:Zh4.body=Zcs:=rfl
theorem Zc3:Zh4.res=[(.cell 2 (some 14))]:=rfl
noncomputable def Zgz (m:Nat) (tm:Tms) (σ:Za):Option (AVal×Za):=(ZaF m Zh4 (ZbY FC PR BY m Zl8 (WW (Zbb 0) (evL FC PR BY m [5,4,2,1] Zkr tm σ))))
def ZdG:Zq:=(.seq (.region [oM 62 3,oM 2 62] none [2]) .ret)
def ZmE:Zq:=ZdG
def ZeM:=xw ZmE ZdG rfl
def ZdI:Zq:=(.seq (.seq (.region [oM 37 4,oF 38 3 1,oL 39 38,oI 40 (.len (.t 39)),oI 41 (.bin .lss (.t 37) (.t 40)),oM 42 41,⟨(some 43),(.mov (.t 4)),(some (42,true)),[]⟩,⟨(some 44),(.bin .lss (.t 43) (.c (.int .i64 4))),(some (42,true)),[]⟩,oI 45 (.pick (.t 42) (.t 44) (.c (.bool false)))] none [45,4,3,1]) (.cond (.t 45) .skip (.exit 0))) (.seq (.block 1 (.region [oM 48 3,oF 49 3 1,oL 50 49,oM 51 4,oM 52 4,oI 53 (.bin .add (.t 52) (.c (.int .i64 1))),oI 54 (.slice 1 (.t 50) (some (.t 51)) (some (.t 53)) none),oI 55 (.call 18 0 true [(.t 54)]),oF 56 3 1,oL 57 56,oI 58 (.call 18 0 true [(.t 57)]),oI 59 (.build [(.int .i64 0),(.int .i64 0),(.str []),(.str []),(.lst true [])] [(0,1,(.c (.int .i64 38))),(2,1,(.t 55)),(3,1,(.t 58))]),oI 60 (.bslice false 5 1 (.agg [(.int .i64 0),(.int .i64 0),(.str []),(.str []),(.lst true [])]) [(0,(.t 59))]),oI 61 (.app 5 72 (.agg [(.int .i64 0),(.int .i64 0),(.str []),(.str []),(.lst true [])]) (.t 48) (.t 60)),oM 3 61] (some [(2,9),(6,9),(7,9),(10,10)]) [4,3,1])) (.region [oM 46 4,oI 47 (.bin .add (.t 46) (.c (.int .i64 1))),oM 4 47] none [4,3,1])))
def ZnK:Zq:=ZdI
def ZeH:=xw ZnK ZdI rfl
def Zd9:Zq:=(.seq (.region [oI 1 (.box (.t 0)),oI 2 (.mov (.c (.lst true [])))] none [1]) (.seq (.region [oI 3 (.mov (.c (.lst true [])))] none [3,1]) (.seq (.seq (.region [oF 5 0 1,oL 6 5,oI 7 (.bin .geq (.t 6) (.c (.int .i64 0)))] none [7,3,1]) (.cond (.t 7) (.region [oM 8 3,oF 9 0 1,oL 10 9,oI 11 (.bin .and (.t 10) (.c (.int .i64 1))),oI 12 (.build [(.int .i64 0),(.int .i64 0),(.str []),(.str []),(.lst true [])] [(0,1,(.c (.int .i64 1))),(1,1,(.t 11))]),oI 13 (.bslice false 5 1 (.agg [(.int .i64 0),(.int .i64 0),(.str []),(.str []),(.lst true [])]) [(0,(.t 12))]),oI 14 (.app 5 72 (.agg [(.int .i64 0),(.int .i64 0),(.str []),(.str []),(.lst true [])]) (.t 8) (.t 13)),oM 3 14] none [3,1]) .skip)) (.seq (.seq (.region [oF 15 1 1,oL 16 15,oI 17 (.len (.t 16)),oI 18 (.bin .gtr (.t 17) (.c (.int .i64 0)))] none [18,3,1]) (.cond (.t 18) (.region [oM 19 3,oF 20 1 1,oL 21 20,oI 22 (.call 18 0 true [(.t 21)]),oI 23 (.build [(.int .i64 0),(.int .i64 0),(.str []),(.str []),(.lst true [])] [(0,1,(.c (.int .i64 3))),(2,1,(.t 22))]),oI 24 (.bslice false 5 1 (.agg [(.int .i64 0),(.int .i64 0),(.str []),(.str []),(.lst true [])]) [(0,(.t 23))]),oI 25 (.app 5 72 (.agg [(.int .i64 0),(.int .i64 0),(.str []),(.str []),(.lst true [])]) (.t 19) (.t 24)),oM 3 25] none [3,1]) .skip)) (.seq (.seq (.region [oF 26 2 1,oL 27 26,oI 28 (.len (.t 27)),oI 29 (.bin .gtr (.t 28) (.c (.int .i64 0)))] none [29,3,1]) (.cond (.t 29) (.region [oM 30 3,oF 31 2 1,oL 32 31,oI 33 (.call 19 0 true [(.t 32),(.c (.int .i64 30))]),oI 34 (.build [(.int .i64 0),(.int .i64 0),(.str []),(.str []),(.lst true [])] [(0,1,(.c (.int .i64 9))),(4,1,(.t 33))]),oI 35 (.bslice false 5 1 (.agg [(.int .i64 0),(.int .i64 0),(.str []),(.str []),(.lst true [])]) [(0,(.t 34))]),oI 36 (.app 5 72 (.agg [(.int .i64 0),(.int .i64 0),(.str []),(.str []),(.lst true [])]) (.t 30) (.t 35)),oM 3 36] none [3,1]) .skip)) (.seq (.seq (.region [oI 4 (.mov (.c (.int .i64 0)))] none [4,3,1]) (.block 0 (.loop [4,3,1] ZnK))) ZmE))))))
def ZhV:Zan:=⟨[(.tmp 2)],Zd9⟩
theorem ZyV:FC 21=some ZhV:=by kernel_rfl
theorem Zfc:ZhV.body=Zd9:=rfl
theorem Ze4:ZhV.res=[(.tmp 2)]:=rfl
noncomputable def ZhA (m:Nat) (tm:Tms) (σ:Za):Option (AVal×Za):=(ZaF m ZhV (ZbY FC PR BY m ZmE (WW (Zbb 0) (evL FC PR BY m [4,3,1] ZnK tm σ))))
def ZfS:Zq:=(.seq (.region [oM 25 3,oM 2 25] none [2]) .ret)
def Zq3:Zq:=ZfS
def Zhm:=xw Zq3 ZfS rfl
def Zfi:Zq:=(.seq (.seq (.region [oM 5 4,oM 6 0,oI 7 (.len (.t 6)),oI 8 (.bin .lss (.t 5) (.t 7)),oM 9 8,⟨(some 10),(.mov (.t 4)),(some (9,true)),[]⟩,⟨(some 11),(.bin .lss (.t 10) (.c (.int .i64 30))),(some (9,true)),[]⟩,oI 12 (.pick (.t 9) (.t 11) (.c (.bool false)))] none [12,4,3,0]) (.cond (.t 12) .skip (.exit 0))) (.seq (.block 1 (.region [oM 15 3,oM 16 0,oM 17 4,oI 18 (.iaddr 1 (.t 16) (.t 17)),oL 19 18,oI 20 (.bin .rem (.t 19) (.c (.int .u8 26))),oI 21 (.bin .add (.c (.int .u8 97)) (.t 20)),oI 22 (.bslice false 1 1 (.int .u8 0) [(0,(.t 21))]),oI 23 (.b2s (.t 22)),oI 24 (.bin .add (.t 15) (.t 23)),oM 3 24] none [4,3,0])) (.region [oM 13 4,oI 14 (.bin .add (.t 13) (.c (.int .i64 1))),oM 4 14] none [4,3,0])))
def Zj8:Zq:=Zfi
def Zhf:=xw Zj8 Zfi rfl
def ZfI:Zq:=(.seq (.region [oI 2 (.mov (.c (.str [])))] none [0]) (.seq (.region [oI 3 (.mov (.c (.str [])))] none [3,0]) (.seq (.seq (.region [oI 4 (.mov (.c (.int .i64 0)))] none [4,3,0]) (.block 0 (.loop [4,3,0] Zj8))) Zq3)))
def Zhb:Zan:=⟨[(.tmp 2)],ZfI⟩
theorem Zy9:FC 18=some Zhb:=by kernel_rfl
theorem Zho:Zhb.body=ZfI:=rfl
theorem Zhn:Zhb.res=[(.tmp 2)]:=rfl
noncomputable def Zg3 (m:Nat) (tm:Tms) (σ:Za):Option (AVal×Za):=(ZaF m Zhb (ZbY FC PR BY m Zq3 (WW (Zbb 0) (evL FC PR BY m [4,3,0] Zj8 tm σ))))
end
section
end
section
def Zs3 (id:Int):Prop:=id=1\/id=2\/id=3\/id=8\/id=9\/id=11\/id=17\/id=18\/id=26\/id=19\/id=21\/id=22\/id=23\/id=25\/id=24\/id=28\/id=31\/id=33\/id=34\/id=35\/id=39\/id=36\/id=37\/id=40\/id=41\/id=42\/id=38
instance (id:Int):Decidable (Zs3 id):=by unfold Zs3;infer_instance
end
section
end
section
end
section
end
section
end
section
end
section
theorem wrap_i64 {n:Int} (h0:-9223372036854775808<=n) (h:n<=9223372036854775807):IntKind.i64.wrap n=n:=Zcv h0 h
end
section
theorem Zxd (σ:Za) (l:ZF) (k1 k2:IntKind) (lo hi:Int) (h0:0<=lo) (h1:lo<=hi) (h2:hi<=(l.length:Int)):Zb5 σ 1 (.lst false (l.map Zt)) (some (.int k1 lo)) (some (.int k2 hi)) none=some (.lst false (((l.take hi.toNat).drop lo.toNat).map Zt),σ,{}):=by
 have hh:0<=hi:=by omega
 have h3:lo<=((hi.toNat:Nat):Int):=by omega
 have hk:=Zwe l
 simp only [Zb5,ZaM,Zeb,XH,hh,h2,and_self,if_true,h0,h3,hk,XaI,W6,Xw,if_false,Xan,Xa5,List.map_drop]
end
section
end
section
end
section
end
section
end
section
end
section
theorem ZhG {xs:List AVal} (h:0 < xs.length):ZbM xs=.sl 0 0 0 xs.length:=by
 cases xs with
 | nil=>simp at h
 | cons x xs=>rfl
theorem Zfr {k:Nat} {xs:List AVal} (h:0 < xs.length):Zbt k xs=[.row 0 k xs]:=by
 cases xs with
 | nil=>simp at h
 | cons x xs=>rfl
end
section
theorem ZAQ (b:ZF) (n:Int) (h0:0<=n):E 19 [Zi b,.int .i64 n] []=some (Zi (b.take n.toNat),[]):=by
 rw [ZcQ (by rfl) ZwW]
 by_cases h:n < (b.length:Int)
 ·have hl:n<=(b.length:Int):=by omega
  simp -implicitDefEqProofs only [EQA,ZA,ZD,ZC,Zz,ZE,ZB,ZO,ZP,ZL,ZQ,ZN,ZR,ZS,ZK,ZM,implies_true,forall_const,Xn,Xo,Xq,Xf,Xg,Xp,Xk,ZH,ZJ,unA,Zu,Zy,unG,reduceCtorEq,Zm,decide_eq_true_eq,Xh,Xc,ite_self,↓reduceIte,Zw,ZG,gcT,gcA,Zl,Zf,Ze,Zg,Zn,Zb,Zo,Zh,Zp,Xe,ZtR,Zir,Zs7,Zs,Zi,Zk,Zc,Zx,ZI,h0,h,hl,gt_iff_lt,ZyO]
 ·have hl:b.take n.toNat=b:=Wj (by omega)
  simp -implicitDefEqProofs only [EQA,ZA,ZD,ZC,Zz,ZE,ZB,ZO,ZP,ZL,ZQ,ZN,ZR,ZS,ZK,ZM,implies_true,forall_const,Xn,Xo,Xq,Xf,Xg,Xp,Xk,ZH,ZJ,unA,Zu,Zy,unG,reduceCtorEq,Zm,decide_eq_true_eq,Xh,Xc,ite_self,↓reduceIte,Zw,ZG,gcT,gcA,Zl,Zf,Ze,Zg,Zn,Zb,Zo,Zh,Zp,Xe,ZtR,Zir,Zs7,Zs,Zi,Zk,Zc,Zx,ZI,h,hl,gt_iff_lt]
theorem ZsY (σ:Za) (sq own:Nat) (view:Bool) (b:ZF) (n:Int) (h0:0<=n):ZZ E BY σ sq 19 own view [.lst false (b.map Zt),.int .i64 n]=some (.lst false ((b.take n.toNat).map Zt),σ,{}) :=
 ZeQ (ZAQ b n h0) (by kernel_rfl) (by simp -implicitDefEqProofs only [Zed,Zd2,ZA,ZD,ZC,ZdV,Zz,ZE,Zd7,ZB,eq_self,implies_true,Xw,Zs,Zi,Zk,Zc,Zx,Zs]) (by simp -implicitDefEqProofs only [Zed,Zd2,ZA,ZD,ZC,ZdV,Zz,ZE,Zd7,ZB,eq_self,implies_true,Xw,Zs,Zi,Zk,Zc,Zx,Zs]) rfl (fun _=>rfl) _ _ _ _
def ZcM (n lo hi:Int):Int:=lo+(if n.tmod (hi - lo+1) < 0 then n.tmod (hi - lo+1)+(hi - lo+1) else n.tmod (hi - lo+1))
theorem Zwc (n:Int):E 20 [.int .i64 n,.int .i64 0,.int .i64 2] []=some (.int .i64 (ZcM n 0 2),[]):=by
 have w1:IntKind.i64.wrap (2 - 0)=2:=rfl
 have w2:IntKind.i64.wrap (2+1)=3:=rfl
 have hz:((3:Int)=0)=False:=by simp
 have hb:-3 < n.tmod 3/\n.tmod 3 < 3:=by
  have h1:=Int.tmod_lt_of_pos n (show (0:Int) < 3 by decide)
  have h2:=Int.lt_tmod_of_pos n (show (0:Int) < 3 by decide)
  omega
 unfold ZcM
 rw [show (2:Int) - 0+1=3 from rfl]
 rw [ZcQ (by rfl) Zw9]
 by_cases h:n.tmod 3 < 0
 ·have w3:IntKind.i64.wrap (n.tmod 3+3)=n.tmod 3+3:=Zcv (by omega) (by omega)
  have w4:IntKind.i64.wrap (0+(n.tmod 3+3))=0+(n.tmod 3+3):=Zcv (by omega) (by omega)
  simp -implicitDefEqProofs only [EQA,ZA,ZD,ZC,Zz,ZE,ZB,ZO,ZP,ZL,ZQ,ZN,ZR,ZS,ZK,ZM,implies_true,forall_const,Xn,Xo,Xq,Xf,Xg,Xp,Xk,ZH,ZJ,unA,Zu,Zy,unG,reduceCtorEq,Zm,decide_eq_true_eq,Xh,Xc,ite_self,↓reduceIte,Zw,ZG,gcT,gcA,Zl,Zf,Ze,Zg,Zn,Zb,Zo,Zh,Zp,Xe,Zvy,ZhF,Zu7,Zs,Zi,Zk,Zc,Zx,ZI,w1,w2,w3,w4,hz,h]
 ·have w4:IntKind.i64.wrap (0+n.tmod 3)=0+n.tmod 3:=Zcv (by omega) (by omega)
  simp -implicitDefEqProofs only [EQA,ZA,ZD,ZC,Zz,ZE,ZB,ZO,ZP,ZL,ZQ,ZN,ZR,ZS,ZK,ZM,implies_true,forall_const,Xn,Xo,Xq,Xf,Xg,Xp,Xk,ZH,ZJ,unA,Zu,Zy,unG,reduceCtorEq,Zm,decide_eq_true_eq,Xh,Xc,ite_self,↓reduceIte,Zw,ZG,gcT,gcA,Zl,Zf,Ze,Zg,Zn,Zb,Zo,Zh,Zp,Xe,Zvy,ZhF,Zu7,Zs,Zi,Zk,Zc,Zx,ZI,w1,w2,w4,hz,h]
theorem Zla (σ:Za) (sq own:Nat) (view:Bool) (n:Int):ZZ E BY σ sq 20 own view [.int .i64 n,.int .i64 0,.int .i64 2]=some (.int .i64 (ZcM n 0 2),σ,{}) :=
 ZeQ (Zwc n) (by kernel_rfl) rfl rfl rfl (fun _=>rfl) _ _ _ _
end
section
def ZeA (c:UInt8):UInt8:=UInt8.ofNat (97+c.toNat % 26)
def ZbW (b:ZF):ZF:=(b.take 30).map ZeA
theorem ZzX (c:UInt8):IntKind.u8.wrap (97+(c.toNat:Int).tmod 26)=((ZeA c).toNat:Int):=by
 have h:(c.toNat:Int).tmod 26=((c.toNat % 26:Nat):Int):=by rw [Int.tmod_eq_emod_of_nonneg (by omega)];omega
 rw [h,IntKind.wrap_u8,ZeA,UInt8.toNat_ofNat']
 omega
theorem ZsX (b:ZF) (hb:b.length<=9223372036854775807):∀ (r:ZF) (i:Nat) (acc:ZF),(b.take 30).drop i=r->acc.length<=i->i<=30 ->
  Zg3 0 [(4,.int .i64 i),(3,.str acc),(0,.lst false (b.map Zt))] []=some (.str (acc++r.map ZeA),[])
 | [],i,acc,h,ha,hi=>by
  rw [Wo,X3] at h
  unfold Zg3
  rw [ZaZ]
  by_cases h1:(i:Int) < (b.length:Int)
  ·have h2:¬(i:Int) < 30:=by omega
   simp -implicitDefEqProofs only [EQA,ZA,ZD,ZC,Zz,ZE,ZB,ZO,ZP,ZL,ZQ,ZN,ZR,ZS,ZK,ZM,implies_true,forall_const,Xn,Xo,Xq,Xf,Xg,Xp,Xk,ZH,ZJ,unA,Zu,Zy,unG,reduceCtorEq,Zm,decide_eq_true_eq,Xh,Xc,ite_self,↓reduceIte,Zw,ZG,gcT,gcA,Zl,Zf,Ze,Zg,Zn,Zb,Zo,Zh,Zp,Xe,Zho,ZfI,Zhn,Zhm,ZfS,Zhf,Zfi,Zs,Zi,Zk,Zc,Zx,ZI,h1,h2]
  ·simp -implicitDefEqProofs only [EQA,ZA,ZD,ZC,Zz,ZE,ZB,ZO,ZP,ZL,ZQ,ZN,ZR,ZS,ZK,ZM,implies_true,forall_const,Xn,Xo,Xq,Xf,Xg,Xp,Xk,ZH,ZJ,unA,Zu,Zy,unG,reduceCtorEq,Zm,decide_eq_true_eq,Xh,Xc,ite_self,↓reduceIte,Zw,ZG,gcT,gcA,Zl,Zf,Ze,Zg,Zn,Zb,Zo,Zh,Zp,Xe,Zho,ZfI,Zhn,Zhm,ZfS,Zhf,Zfi,Zs,Zi,Zk,Zc,Zx,ZI,h1]
 | c::r,i,acc,h,ha,hi=>by
  have hd:=Zba h
  have hlt:i < min 30 b.length:=by have:=hd.2.2;rwa [X3] at this
  have ih:=ZsX b hb r (i+1) (acc++[ZeA c]) hd.2.1 (by simp;omega) (by omega)
  have hat:b[i]?=some c:=by
   have:=hd.1
   rw [XP] at this
   rw [if_pos (by omega)] at this
   exact this
  have h1:(i:Int) < (b.length:Int):=by omega
  have h2:(i:Int) < 30:=by omega
  have e1:=iad hat Zt (k:=1) rfl
  have hw:IntKind.i64.wrap ((i:Int)+1)=((i+1:Nat):Int):=by rw [Zcv (by omega) (by omega)];rfl
  have hl:=ZzX c
  have hz:((26:Int)=0)=False:=by simp
  have k1:acc.length+1<=9223372036854775807:=by omega
  have hb2:Zec [AVal.int .u8 ((ZeA c).toNat:Int)]=some [ZeA c]:=by
   have:=ZI [ZeA c];exact this
  rw [Wq,WD,<-Xs] at ih
  unfold Zg3 at ih ⊢
  rw [ZaZ]
  simp -implicitDefEqProofs only [EQA,ZA,ZD,ZC,Zz,ZE,ZB,ZO,ZP,ZL,ZQ,ZN,ZR,ZS,ZK,ZM,implies_true,forall_const,Xn,Xo,Xq,Xf,Xg,Xp,Xk,ZH,ZJ,unA,Zu,Zy,unG,reduceCtorEq,Zm,decide_eq_true_eq,Xh,Xc,ite_self,↓reduceIte,Zw,ZG,gcT,gcA,Zl,Zf,Ze,Zg,Zn,Zb,Zo,Zh,Zp,Xe,Zho,ZfI,Zhn,Zhm,ZfS,Zhf,Zfi,Zs,Zi,Zk,Zc,Zx,ZI,h1,h2,e1,hw,hl,hz,k1,hb2,Zt,AVal.cells,Zac,viewAs,Zao,Zae,Zah,Zr,XG,We,XN]
  exact ih
theorem Zv6 (b:ZF) (hb:b.length<=9223372036854775807):E 18 [Zi b] []=some (.str (ZbW b),[]):=by
 have key:=ZsX b hb (b.take 30) 0 [] rfl (XN _) (by omega)
 have z0:((0:Nat):Int)=0:=rfl
 rw [z0] at key
 unfold Zg3 at key
 rw [ZcQ (by rfl) Zy9]
 simp -implicitDefEqProofs only [EQA,ZA,ZD,ZC,Zz,ZE,ZB,ZO,ZP,ZL,ZQ,ZN,ZR,ZS,ZK,ZM,implies_true,forall_const,Xn,Xo,Xq,Xf,Xg,Xp,Xk,ZH,ZJ,unA,Zu,Zy,unG,reduceCtorEq,Zm,decide_eq_true_eq,Xh,Xc,ite_self,↓reduceIte,Zw,ZG,gcT,gcA,Zl,Zf,Ze,Zg,Zn,Zb,Zo,Zh,Zp,Xe,Zho,ZfI,Zhn,Zhm,ZfS,Zhf,Zfi,Zs,Zi,Zk,Zc,Zx,ZI,Zs]
 exact key
theorem Zf4 (σ:Za) (sq own:Nat) (f:Bool) (b:ZF) (hb:b.length<=9223372036854775807):ZZ E BY σ sq 18 own true [.lst f (b.map Zt)]=some (.str (ZbW b),σ,{}) :=
 ZsH (Zv6 b hb) (by kernel_rfl) rfl rfl rfl (fun _=>rfl) _ _ _
structure Zeu where
 fmt:Int
 content:ZF
 corr:ZF
 users:ZF
def Zvu (x:Int):Int:=IntKind.i64.wrap (((WL IntKind.i64.bits x &&& WL IntKind.i64.bits 1).toNat:Nat):Int)
def ZdY (u:ZF) (c:UInt8):Zbf:=⟨38,0,ZbW [c],ZbW u,[]⟩
def ZeB (p:Zeu):List Zbf :=
 (if p.fmt>=0 then [⟨1,Zvu p.fmt,[],[],[]⟩] else [])++((if p.content.length > 0 then [⟨3,0,ZbW p.content,[],[]⟩] else [])++(if p.corr.length > 0 then [⟨9,0,[],[],p.corr.take 30⟩] else []))
def Zdo (p:Zeu):List Zbf:=ZeB p++(p.users.take 4).map (ZdY p.users)
def lsT (i:Int):List AVal->Tms
 | []=>[(4,.int .i64 i),(3,.lst true []),(1,.ref 0 0)]
 | x::xs=>[(4,.int .i64 i),(3,.sl 0 0 0 (x::xs).length),(1,.ref 1 0)]
def lsH (b:ZU):List AVal->Za
 | []=>[b]
 | x::xs=>[.row 0 5 (x::xs),b]
def pC (p:Zeu):List AVal:=[.int .i64 p.fmt,.lst false (p.content.map Zt),.lst false (p.corr.map Zt),.lst false (p.users.map Zt)]
theorem ZkB (i:Int) {X:List AVal} (h:0 < X.length):lsT i X=[(4,.int .i64 i),(3,.sl 0 0 0 X.length),(1,.ref 1 0)]:=by
 cases X with
 | nil=>simp at h
 | cons x xs=>rfl
theorem Zru (b:ZU) {X:List AVal} (h:0 < X.length):lsH b X=[.row 0 5 X,b]:=by
 cases X with
 | nil=>simp at h
 | cons x xs=>rfl
theorem Zuq (p:Zeu) (hu:p.users.length<=9223372036854775807):∀ (r:ZF) (i:Nat) (acc:List Zbf),(p.users.take 4).drop i=r->acc.length<=3+i->i<=4 ->
  ZhA 0 (lsT i (acc.map Zc)) (lsH (.var (pC p)) (acc.map Zc))=some (ZbM ((acc++r.map (ZdY p.users)).map Zc),Zbt 5 ((acc++r.map (ZdY p.users)).map Zc))
 | [],i,acc,h,ha,hi=>by
  rw [Wo,X3] at h
  simp only [XV,X2]
  unfold ZhA pC
  rw [ZaZ]
  cases acc with
  | nil =>
   simp only [XV,Zgs,ZeW,lsT,lsH]
   by_cases h1:(i:Int) < (p.users.length:Int)
   ·have h2:¬(i:Int) < 4:=by omega
    simp -implicitDefEqProofs only [EQA,ZA,ZD,ZC,Zz,ZE,ZB,ZO,ZP,ZL,ZQ,ZN,ZR,ZS,ZK,ZM,implies_true,forall_const,Xn,Xo,Xq,Xf,Xg,Xp,Xk,ZH,ZJ,unA,Zu,Zy,unG,reduceCtorEq,Zm,decide_eq_true_eq,Xh,Xc,ite_self,↓reduceIte,Zw,ZG,gcT,gcA,Zl,Zf,Ze,Zg,Zn,Zb,Zo,Zh,Zp,Xe,Zfc,Zd9,Ze4,ZeM,ZdG,ZeH,ZdI,Zs,Zi,Zk,Zc,Zx,ZI,h1,h2]
    try (simp [Zaz,gcA,Zl,Zf,ZW,Z5,Ze,Zg,Zn,Zb,Zo,ZV,Zj,Zh,Zp,Xe])
   ·simp -implicitDefEqProofs only [EQA,ZA,ZD,ZC,Zz,ZE,ZB,ZO,ZP,ZL,ZQ,ZN,ZR,ZS,ZK,ZM,implies_true,forall_const,Xn,Xo,Xq,Xf,Xg,Xp,Xk,ZH,ZJ,unA,Zu,Zy,unG,reduceCtorEq,Zm,decide_eq_true_eq,Xh,Xc,ite_self,↓reduceIte,Zw,ZG,gcT,gcA,Zl,Zf,Ze,Zg,Zn,Zb,Zo,Zh,Zp,Xe,Zfc,Zd9,Ze4,ZeM,ZdG,ZeH,ZdI,Zs,Zi,Zk,Zc,Zx,ZI,h1]
    try (simp [Zaz,gcA,Zl,Zf,ZW,Z5,Ze,Zg,Zn,Zb,Zo,ZV,Zj,Zh,Zp,Xe])
  | cons a acc =>
   generalize hX:(a::acc).map Zc=X
   have hXp:0 < X.length:=by rw [<-hX];simp
   rw [ZhG hXp,Zfr hXp,ZkB _ hXp,Zru _ hXp]
   by_cases h1:(i:Int) < (p.users.length:Int)
   ·have h2:¬(i:Int) < 4:=by omega
    simp -implicitDefEqProofs only [EQA,ZA,ZD,ZC,Zz,ZE,ZB,ZO,ZP,ZL,ZQ,ZN,ZR,ZS,ZK,ZM,implies_true,forall_const,Xn,Xo,Xq,Xf,Xg,Xp,Xk,ZH,ZJ,unA,Zu,Zy,unG,reduceCtorEq,Zm,decide_eq_true_eq,Xh,Xc,ite_self,↓reduceIte,Zw,ZG,gcT,gcA,Zl,Zf,Ze,Zg,Zn,Zb,Zo,Zh,Zp,Xe,Zfc,Zd9,Ze4,ZeM,ZdG,ZeH,ZdI,Zs,Zi,Zk,Zc,Zx,ZI,h1,h2]
    try (simp [Zaz,gcA,Zl,Zf,ZW,Z5,Ze,Zg,Zn,Zb,Zo,ZV,Zj,Zh,Zp,Xe])
   ·simp -implicitDefEqProofs only [EQA,ZA,ZD,ZC,Zz,ZE,ZB,ZO,ZP,ZL,ZQ,ZN,ZR,ZS,ZK,ZM,implies_true,forall_const,Xn,Xo,Xq,Xf,Xg,Xp,Xk,ZH,ZJ,unA,Zu,Zy,unG,reduceCtorEq,Zm,decide_eq_true_eq,Xh,Xc,ite_self,↓reduceIte,Zw,ZG,gcT,gcA,Zl,Zf,Ze,Zg,Zn,Zb,Zo,Zh,Zp,Xe,Zfc,Zd9,Ze4,ZeM,ZdG,ZeH,ZdI,Zs,Zi,Zk,Zc,Zx,ZI,h1]
    try (simp [Zaz,gcA,Zl,Zf,ZW,Z5,Ze,Zg,Zn,Zb,Zo,ZV,Zj,Zh,Zp,Xe])
 | c::r,i,acc,h,ha,hi=>by
  have hd:=Zba h
  have hlt:i < min 4 p.users.length:=by have:=hd.2.2;rwa [X3] at this
  have ih:=Zuq p hu r (i+1) (acc++[ZdY p.users c]) hd.2.1 (by simp;omega) (by omega)
  have hat:p.users[i]?=some c:=by
   have:=hd.1
   rw [XP] at this
   rw [if_pos (by omega)] at this
   exact this
  have hsl:(p.users.take (i+1)).drop i=[c]:=by
   rw [List.drop_take]
   have : i+1 - i=1:=by omega
   rw [this]
   obtain ⟨hl,he⟩:=Xd.1 hat
   rw [WS hl,he]
   rfl
  have h1:(i:Int) < (p.users.length:Int):=by omega
  have h2:(i:Int) < 4:=by omega
  have hw:IntKind.i64.wrap ((i:Int)+1)=((i+1:Nat):Int):=by rw [Zcv (by omega) (by omega)];rfl
  have hs:=fun σ k1 k2=>Zxd σ p.users k1 k2 (i:Int) ((i+1:Nat):Int) (by omega) (by omega) (by omega)
  have t1:((i:Int)).toNat=i:=rfl
  have t2:(((i+1:Nat):Int)).toNat=i+1:=rfl
  rw [t1,t2,hsl] at hs
  have hP1:=fun σ sq own f=>Zf4 σ sq own f [c] (by simp)
  have hP2:=fun σ sq own f=>Zf4 σ sq own f p.users hu
  simp only [Xs,XV] at hP1 hs
  rw [Wq,WD,<-Xs] at ih
  generalize hR:acc++(c::r).map (ZdY p.users)=R at *
  unfold ZdY at ih
  unfold pC at ih ⊢
  generalize ZbW [c]=U1 at *
  generalize ZbW p.users=U2 at *
  unfold ZhA at ih ⊢
  rw [ZaZ]
  cases acc with
  | nil =>
   simp only [X1,XV,Xs,lsT,lsH,Zc,Zx,Zi,Xz,XF,XC] at ih ⊢
   have hk:kOk 5 [AVal.agg [.int .i64 38,.int .i64 0,.str U1,.str U2,.lst false []]]=true:=rfl
   simp -implicitDefEqProofs only [EQA,ZA,ZD,ZC,Zz,ZE,ZB,ZO,ZP,ZL,ZQ,ZN,ZR,ZS,ZK,ZM,implies_true,forall_const,Xn,Xo,Xq,Xf,Xg,Xp,Xk,ZH,ZJ,unA,Zu,Zy,unG,reduceCtorEq,Zm,decide_eq_true_eq,Xh,Xc,ite_self,↓reduceIte,Zw,ZG,gcT,gcA,Zl,Zf,Ze,Zg,Zn,Zb,Zo,Zh,Zp,Xe,Zfc,Zd9,Ze4,ZeM,ZdG,ZeH,ZdI,Zs,Zi,Zk,Zc,Zx,ZI,h1,h2,hw,hs,hP1,hP2,hk,Zab,AVal.cells,ZaS,Za9,Zcn,Zbk,WA,WG,Xt,XA,Xz,XF,ZbP,ZbK,ZbT,ZbO,ZbN,XM,XU,ZaI,ZaQ,ZaP,Zbe,ZbE,Zbq,ZbU,ZbR,ZaY,ZbL,XZ,Wi,Xt,XA,X0,Zac,viewAs,Zao,Zae,Zah,Zr,XG,We,XN,Xk,Xf]
   exact ih
  | cons a acc =>
   rw [X9] at ih
   have hXl:((a::acc).map Zc).length=acc.length+1:=by simp
   simp only [Xz] at ha
   generalize hX:(a::acc).map Zc=X at *
   have hXp:0 < X.length:=by omega
   have hXq:0 < (X++[(⟨38,0,U1,U2,[]⟩:Zbf)].map Zc).length:=by rw [Xx];omega
   rw [ZkB _ hXq,Zru _ hXq] at ih
   rw [ZkB _ hXp,Zru _ hXp]
   simp only [Xs,XV,Zc,Zx,Zi,Xx,Xz,XF,XC] at ih
   have hk:kOk 5 [AVal.agg [.int .i64 38,.int .i64 0,.str U1,.str U2,.lst false []]]=true:=rfl
   have k2:(X.length+1)*72<=140737488355328:=by omega
   simp -implicitDefEqProofs only [EQA,ZA,ZD,ZC,Zz,ZE,ZB,ZO,ZP,ZL,ZQ,ZN,ZR,ZS,ZK,ZM,implies_true,forall_const,Xn,Xo,Xq,Xf,Xg,Xp,Xk,ZH,ZJ,unA,Zu,Zy,unG,reduceCtorEq,Zm,decide_eq_true_eq,Xh,Xc,ite_self,↓reduceIte,Zw,ZG,gcT,gcA,Zl,Zf,Ze,Zg,Zn,Zb,Zo,Zh,Zp,Xe,Zfc,Zd9,Ze4,ZeM,ZdG,ZeH,ZdI,Zs,Zi,Zk,Zc,Zx,ZI,h1,h2,hw,hs,hP1,hP2,hk,k2,Zab,AVal.cells,ZaS,Za9,Zcn,Zbk,WA,WG,Xt,XA,Xz,XF,ZbP,ZbK,ZbT,ZbO,ZbN,XM,XU,ZaI,ZaQ,ZaP,Zbe,ZbE,Zbq,ZbU,ZbR,ZaY,ZbL,XZ,Wi,Xt,XA,X0,Zac,viewAs,Zao,Zae,Zah,Zr,XG,We,XN]
   exact ih
theorem Zym (p:Zeu) (h1:p.content.length<=9223372036854775807) (h3:p.users.length<=9223372036854775807):E 21 [.agg (pC p)] []=some (ZbM ((Zdo p).map Zc),Zbt 5 ((Zdo p).map Zc)):=by
 have hlen:(ZeB p).length<=3:=by
  unfold ZeB
  repeat' split
  all_goals simp
 have key:=Zuq p h3 (p.users.take 4) 0 (ZeB p) rfl (by omega) (by omega)
 have hP:=fun σ sq own f=>Zf4 σ sq own f p.content h1
 have hC:=fun σ sq own=>ZsY σ sq own true p.corr 30 (by omega)
 have z0:((0:Nat):Int)=0:=rfl
 have z30:(30:Int).toNat=30:=rfl
 rw [z30] at hC
 rw [z0] at key
 rw [show Zdo p=ZeB p++(p.users.take 4).map (ZdY p.users) from rfl]
 generalize hR:ZeB p++(p.users.take 4).map (ZdY p.users)=R at *
 unfold ZeB Zvu at key
 unfold pC at key ⊢
 generalize ZbW p.content=U1 at *
 generalize p.corr.take 30=U2 at *
 unfold ZhA at key
 have w1:kOk 5 [AVal.agg [.int .i64 1,.int .i64 (IntKind.i64.wrap (((WL IntKind.i64.bits p.fmt &&& WL IntKind.i64.bits 1).toNat:Nat):Int)),.str [],.str [],.lst false []]]=true:=rfl
 have w2:kOk 5 [AVal.agg [.int .i64 3,.int .i64 0,.str U1,.str [],.lst false []]]=true:=rfl
 have w3:kOk 5 [AVal.agg [.int .i64 9,.int .i64 0,.str [],.str [],.lst false (U2.map Zt)]]=true:=rfl
 by_cases c1:p.fmt>=0 <;> by_cases c2:(p.content.length:Int) > 0 <;> by_cases c3:(p.corr.length:Int) > 0
 all_goals (have d2:(p.content.length > 0)=((p.content.length:Int) > 0):=by simp)
 all_goals (have d3:(p.corr.length > 0)=((p.corr.length:Int) > 0):=by simp)
 all_goals simp only [c1,d2,c2,d3,c3,if_true,if_false,X1,X2,Wp,Xs,XV,lsT,lsH,Zc,Zx,Zi,Xz,XF,XC] at key
 all_goals clear d2 d3
 all_goals rw [ZcQ (by rfl) ZyV]
 all_goals simp -implicitDefEqProofs only [EQA,ZA,ZD,ZC,Zz,ZE,ZB,ZO,ZP,ZL,ZQ,ZN,ZR,ZS,ZK,ZM,implies_true,forall_const,Xn,Xo,Xq,Xf,Xg,Xp,Xk,ZH,ZJ,unA,Zu,Zy,unG,reduceCtorEq,Zm,decide_eq_true_eq,Xh,Xc,ite_self,↓reduceIte,Zw,ZG,gcT,gcA,Zl,Zf,Ze,Zg,Zn,Zb,Zo,Zh,Zp,Xe,Zfc,Zd9,Ze4,ZeM,ZdG,ZeH,ZdI,Zs,Zi,Zk,Zc,Zx,ZI,c1,c2,c3,hP,hC,w1,w2,w3,Zab,AVal.cells,ZaS,Za9,Zcn,Zbk,WA,WG,Xt,XA,Xz,XF,ZbP,ZbK,ZbT,ZbO,ZbN,XM,XU,ZaI,ZaQ,ZaP,Zbe,ZbE,Zbq,ZbU,ZbR,ZaY,ZbL,XZ,Wi,Xt,XA,X0,Zac,viewAs,Zao,Zae,Zah,Zr,XG,We,XN,Xk,Xf]
 all_goals exact key
theorem Zw7 (σ:Za) (sq own:Nat) (p:Zeu) (h1:p.content.length<=9223372036854775807) (h3:p.users.length<=9223372036854775807):ZZ E BY σ sq 21 own true [.agg [.int .i64 p.fmt,.lst false (p.content.map Zt),.lst false (p.corr.map Zt),.lst false (p.users.map Zt)]]=some (.lst false ((Zdo p).map Zc),σ,{}) :=
 ZiV (k:=5) (Zym p h1 h3) (by kernel_rfl) rfl rfl _ _ _
end
section
def ZAT (p:Zbf):Prop:=p.text.length<=9223372036854775807/\p.pair.length<=9223372036854775807/\p.data.length<=9223372036854775807
end
section
end
section
end
section
end
section
structure ZzF (n:Z2):Prop where
 topic:n.topic.length<=9223372036854775807
 payload:n.payload.length<=9223372036854775807
 sender:n.sender.length<=9223372036854775807
 props:n.props.length<=700000000
 tx:∀ p ∈ n.props,ZAT p
 dat:∀ p ∈ n.props,p.data.length<=140737488355328
end
section
end
section
structure Zes where
 b:ZF
 short:Bool
end
section
end
section
structure ZBm where
 r1:ZF×Zes
 r2:ZF×Zes
 r3:ZF×Zes
 r4:ZF×Zes
 r5:ZF×Zes
 r6:ZF×Zes
 r7:ZF×Zes
 r8:ZF×Zes
end
section
end
section
structure ZBk (it:Zc9):Prop where
 note:ZzF it.note
 ids:it.ids.length<=1000000
 share:it.share.length<=9223372036854775807
end
section
def itC (n:Z2) (q:Int) (rt:Bool) (ids:AVal) (sh:ZF):List AVal:=[.str n.topic,.lst false (n.payload.map Zt),.int .i64 n.qos,.bool n.retain,.str n.sender,.int .i64 n.expires,.lst false (n.props.map Zc),.int .i64 n.origin,.int .i64 n.number,.int .i64 n.hops,.int .i64 q,.bool rt,ids,.str sh]
def itZ:List AVal:=[.str [],.lst true [],.int .i64 0,.bool false,.str [],.int .i64 0,.lst true [],.int .i64 0,.int .i64 0,.int .i64 0,.int .i64 0,.bool false,.lst true [],.str []]
end
section
def Zfy (x k:Int):Int:=IntKind.i64.wrap (((WL IntKind.i64.bits x &&& WL IntKind.i64.bits k).toNat:Nat):Int)
structure Zdd where
 topic:ZF
 sender:ZF
 share:ZF
 payload:ZF
 qos:Int
 sub:Int
 retain:Bool
 keep:Bool
 life:Int
 p:Zeu
 ids:List Int
 origin:Int
 number:Int
def mC (m:Zdd):List AVal:=[.lst false (m.topic.map Zt),.lst false (m.sender.map Zt),.lst false (m.share.map Zt),.lst false (m.payload.map Zt),.int .i64 m.qos,.int .i64 m.sub,.bool m.retain,.bool m.keep,.int .i64 m.life,.int .i64 m.p.fmt,.lst false (m.p.content.map Zt),.lst false (m.p.corr.map Zt),.lst false (m.p.users.map Zt),.lst false (m.ids.map (AVal.int .i64)),.int .i64 m.origin,.int .i64 m.number]
structure Zf0 (m:Zdd):Prop where
 topic:m.topic.length<=9223372036854775807
 sender:m.sender.length<=9223372036854775807
 share:m.share.length<=9223372036854775807
 content:m.p.content.length<=9223372036854775807
 users:m.p.users.length<=9223372036854775807
 ids:m.ids.length<=9223372036854775807
def Zek (x:Int):Int:=IntKind.i64.wrap (1+Zfy x 16777215)
def ZgT (m:Zdd):Z2:=⟨116::ZbW m.topic,m.payload.take 300,ZcM m.qos 0 2,m.retain,ZbW m.sender,if m.life > 0 then Zfy m.life 65535 else 0,Zdo m.p,Zfy m.origin 255,Zfy m.number 16777215,0⟩
def Ze3 (m:Zdd):ZF:=if (m.share.length:Int) > 0 then [36,115,104,97,114,101,47,103,47]++ZbW m.share else []
def ZaB (m:Zdd):Zc9:=⟨ZgT m,ZcM m.sub 0 2,m.keep,(m.ids.take 4).map Zek,Ze3 m⟩
def itO (it:Zc9):AVal×Za:=(.agg (itC it.note it.qos it.retain (ZbM (it.ids.map (AVal.int .i64))) it.share),Zbt 1 (it.ids.map (AVal.int .i64)))
def miT (i:Int):List AVal->Tms
 | []=>[(5,.int .i64 i),(4,.ref 0 0),(2,.ref 1 0),(1,.ref 2 0)]
 | _::_=>[(5,.int .i64 i),(4,.ref 0 0),(2,.ref 2 0),(1,.ref 3 0)]
def miH (n:Z2) (q:Int) (rt:Bool) (z b:ZU):List AVal->Za
 | []=>[.var (itC n q rt (.lst true []) []),z,b]
 | x::xs=>[.var (itC n q rt (.sl 1 0 0 (x::xs).length) []),.row 0 1 (x::xs),z,b]
theorem Zmq (i:Int) {X:List AVal} (h:0 < X.length):miT i X=[(5,.int .i64 i),(4,.ref 0 0),(2,.ref 2 0),(1,.ref 3 0)]:=by
 cases X with
 | nil=>simp at h
 | cons x xs=>rfl
theorem ZlQ (n:Z2) (q:Int) (rt:Bool) (z b:ZU) {X:List AVal} (h:0 < X.length):miH n q rt z b X=[.var (itC n q rt (.sl 1 0 0 X.length) []),.row 0 1 X,z,b]:=by
 cases X with
 | nil=>simp at h
 | cons x xs=>rfl
theorem ZvS (b:ZF):(ZbW b).length<=30:=by simp [ZbW];omega
theorem ZAO (m:Zdd) (hm:Zf0 m) (n:Z2) (q:Int) (rt:Bool) (ids:List Int) (i:Int) (h:¬i < (m.ids.length:Int)\/¬i < 4) :
  Zgz 0 (miT i (ids.map (AVal.int .i64))) (miH n q rt (.var itZ) (.var (mC m)) (ids.map (AVal.int .i64)))=some (itO ⟨n,q,rt,ids,Ze3 m⟩):=by
 have hP:=fun σ sq own f=>Zf4 σ sq own f m.share hm.share
 have hl:=ZvS m.share
 have k1:9+(ZbW m.share).length<=9223372036854775807:=by omega
 unfold itO Ze3
 simp only
 have hh:(if i < (m.ids.length:Int) then decide (i < 4) else false)=false:=by
  split
  ·rename_i h1
   have : ¬i < 4:=h.resolve_left (by simpa using h1)
   simp [this]
  ·rfl
 unfold Zgz
 rw [ZaZ]
 cases hids:ids.map (AVal.int .i64) with
 | nil =>
  rw [Zgs,ZeW]
  unfold miT miH itC itZ mC
  by_cases c0:i < (m.ids.length:Int)
  ·have c1:¬i < 4:=h.resolve_left (by simpa using c0)
   by_cases c2:(m.share.length:Int) > 0
   ·rw [if_pos c2]
    simp -implicitDefEqProofs only [EQA,ZA,ZD,ZC,Zz,ZE,ZB,ZO,ZP,ZL,ZQ,ZN,ZR,ZS,ZK,ZM,implies_true,forall_const,Xn,Xo,Xq,Xf,Xg,Xp,Xk,ZH,ZJ,unA,Zu,Zy,unG,reduceCtorEq,Zm,decide_eq_true_eq,Xh,Xc,ite_self,↓reduceIte,Zw,ZG,gcT,gcA,Zl,Zf,Ze,Zg,Zn,Zb,Zo,Zh,Zp,Xe,ZcW,Zcs,Zc3,Zc4,Zcz,ZcX,Zcp,Zs,Zi,Zk,Zc,Zx,ZI,c0,c1,c2,hP,k1,Zab,AVal.cells]
    try (simp [Zaz,gcA,Zl,Zf,ZW,Z5,Ze,Zg,Zn,Zb,Zo,ZV,Zj,Zh,Zp,Xe])
   ·rw [if_neg c2]
    simp -implicitDefEqProofs only [EQA,ZA,ZD,ZC,Zz,ZE,ZB,ZO,ZP,ZL,ZQ,ZN,ZR,ZS,ZK,ZM,implies_true,forall_const,Xn,Xo,Xq,Xf,Xg,Xp,Xk,ZH,ZJ,unA,Zu,Zy,unG,reduceCtorEq,Zm,decide_eq_true_eq,Xh,Xc,ite_self,↓reduceIte,Zw,ZG,gcT,gcA,Zl,Zf,Ze,Zg,Zn,Zb,Zo,Zh,Zp,Xe,ZcW,Zcs,Zc3,Zc4,Zcz,ZcX,Zcp,Zs,Zi,Zk,Zc,Zx,ZI,c0,c1,c2,Zab,AVal.cells]
    try (simp [Zaz,gcA,Zl,Zf,ZW,Z5,Ze,Zg,Zn,Zb,Zo,ZV,Zj,Zh,Zp,Xe])
  ·by_cases c2:(m.share.length:Int) > 0
   ·rw [if_pos c2]
    simp -implicitDefEqProofs only [EQA,ZA,ZD,ZC,Zz,ZE,ZB,ZO,ZP,ZL,ZQ,ZN,ZR,ZS,ZK,ZM,implies_true,forall_const,Xn,Xo,Xq,Xf,Xg,Xp,Xk,ZH,ZJ,unA,Zu,Zy,unG,reduceCtorEq,Zm,decide_eq_true_eq,Xh,Xc,ite_self,↓reduceIte,Zw,ZG,gcT,gcA,Zl,Zf,Ze,Zg,Zn,Zb,Zo,Zh,Zp,Xe,ZcW,Zcs,Zc3,Zc4,Zcz,ZcX,Zcp,Zs,Zi,Zk,Zc,Zx,ZI,c0,c2,hP,k1,Zab,AVal.cells]
    try (simp [Zaz,gcA,Zl,Zf,ZW,Z5,Ze,Zg,Zn,Zb,Zo,ZV,Zj,Zh,Zp,Xe])
   ·rw [if_neg c2]
    simp -implicitDefEqProofs only [EQA,ZA,ZD,ZC,Zz,ZE,ZB,ZO,ZP,ZL,ZQ,ZN,ZR,ZS,ZK,ZM,implies_true,forall_const,Xn,Xo,Xq,Xf,Xg,Xp,Xk,ZH,ZJ,unA,Zu,Zy,unG,reduceCtorEq,Zm,decide_eq_true_eq,Xh,Xc,ite_self,↓reduceIte,Zw,ZG,gcT,gcA,Zl,Zf,Ze,Zg,Zn,Zb,Zo,Zh,Zp,Xe,ZcW,Zcs,Zc3,Zc4,Zcz,ZcX,Zcp,Zs,Zi,Zk,Zc,Zx,ZI,c0,c2,Zab,AVal.cells]
    try (simp [Zaz,gcA,Zl,Zf,ZW,Z5,Ze,Zg,Zn,Zb,Zo,ZV,Zj,Zh,Zp,Xe])
 | cons x xs =>
  have hXp:0 < (x::xs).length:=by simp
  rw [ZhG hXp,Zfr hXp,Zmq _ hXp,ZlQ _ _ _ _ _ hXp]
  generalize x::xs=X at *
  unfold itC itZ mC
  by_cases c0:i < (m.ids.length:Int)
  ·have c1:¬i < 4:=h.resolve_left (by simpa using c0)
   by_cases c2:(m.share.length:Int) > 0
   ·rw [if_pos c2]
    simp -implicitDefEqProofs only [EQA,ZA,ZD,ZC,Zz,ZE,ZB,ZO,ZP,ZL,ZQ,ZN,ZR,ZS,ZK,ZM,implies_true,forall_const,Xn,Xo,Xq,Xf,Xg,Xp,Xk,ZH,ZJ,unA,Zu,Zy,unG,reduceCtorEq,Zm,decide_eq_true_eq,Xh,Xc,ite_self,↓reduceIte,Zw,ZG,gcT,gcA,Zl,Zf,Ze,Zg,Zn,Zb,Zo,Zh,Zp,Xe,ZcW,Zcs,Zc3,Zc4,Zcz,ZcX,Zcp,Zs,Zi,Zk,Zc,Zx,ZI,c0,c1,c2,hP,k1,Zab,AVal.cells]
    try (simp [Zaz,gcA,Zl,Zf,ZW,Z5,Ze,Zg,Zn,Zb,Zo,ZV,Zj,Zh,Zp,Xe])
   ·rw [if_neg c2]
    simp -implicitDefEqProofs only [EQA,ZA,ZD,ZC,Zz,ZE,ZB,ZO,ZP,ZL,ZQ,ZN,ZR,ZS,ZK,ZM,implies_true,forall_const,Xn,Xo,Xq,Xf,Xg,Xp,Xk,ZH,ZJ,unA,Zu,Zy,unG,reduceCtorEq,Zm,decide_eq_true_eq,Xh,Xc,ite_self,↓reduceIte,Zw,ZG,gcT,gcA,Zl,Zf,Ze,Zg,Zn,Zb,Zo,Zh,Zp,Xe,ZcW,Zcs,Zc3,Zc4,Zcz,ZcX,Zcp,Zs,Zi,Zk,Zc,Zx,ZI,c0,c1,c2,Zab,AVal.cells]
    try (simp [Zaz,gcA,Zl,Zf,ZW,Z5,Ze,Zg,Zn,Zb,Zo,ZV,Zj,Zh,Zp,Xe])
  ·by_cases c2:(m.share.length:Int) > 0
   ·rw [if_pos c2]
    simp -implicitDefEqProofs only [EQA,ZA,ZD,ZC,Zz,ZE,ZB,ZO,ZP,ZL,ZQ,ZN,ZR,ZS,ZK,ZM,implies_true,forall_const,Xn,Xo,Xq,Xf,Xg,Xp,Xk,ZH,ZJ,unA,Zu,Zy,unG,reduceCtorEq,Zm,decide_eq_true_eq,Xh,Xc,ite_self,↓reduceIte,Zw,ZG,gcT,gcA,Zl,Zf,Ze,Zg,Zn,Zb,Zo,Zh,Zp,Xe,ZcW,Zcs,Zc3,Zc4,Zcz,ZcX,Zcp,Zs,Zi,Zk,Zc,Zx,ZI,c0,c2,hP,k1,Zab,AVal.cells]
    try (simp [Zaz,gcA,Zl,Zf,ZW,Z5,Ze,Zg,Zn,Zb,Zo,ZV,Zj,Zh,Zp,Xe])
   ·rw [if_neg c2]
    simp -implicitDefEqProofs only [EQA,ZA,ZD,ZC,Zz,ZE,ZB,ZO,ZP,ZL,ZQ,ZN,ZR,ZS,ZK,ZM,implies_true,forall_const,Xn,Xo,Xq,Xf,Xg,Xp,Xk,ZH,ZJ,unA,Zu,Zy,unG,reduceCtorEq,Zm,decide_eq_true_eq,Xh,Xc,ite_self,↓reduceIte,Zw,ZG,gcT,gcA,Zl,Zf,Ze,Zg,Zn,Zb,Zo,Zh,Zp,Xe,ZcW,Zcs,Zc3,Zc4,Zcz,ZcX,Zcp,Zs,Zi,Zk,Zc,Zx,ZI,c0,c2,Zab,AVal.cells]
    try (simp [Zaz,gcA,Zl,Zf,ZW,Z5,Ze,Zg,Zn,Zb,Zo,ZV,Zj,Zh,Zp,Xe])
theorem ZsZ (m:Zdd) (hm:Zf0 m) (n:Z2) (q:Int) (rt:Bool):∀ (r:List Int) (i:Nat) (ids:List Int),(m.ids.take 4).drop i=r->ids.length<=i->i<=4 ->
  Zgz 0 (miT i (ids.map (AVal.int .i64))) (miH n q rt (.var itZ) (.var (mC m)) (ids.map (AVal.int .i64)))=some (itO ⟨n,q,rt,ids++r.map Zek,Ze3 m⟩)
 | [],i,ids,h,ha,hi=>by
  rw [Wo,X3] at h
  rw [XV,X2]
  exact ZAO m hm n q rt ids i (by omega)
 | x::r,i,ids,h,ha,hi=>by
  have hd:=Zba h
  have hlt:i < min 4 m.ids.length:=by have:=hd.2.2;rwa [X3] at this
  have ih:=ZsZ m hm n q rt r (i+1) (ids++[Zek x]) hd.2.1 (by simp;omega) (by omega)
  have hat:m.ids[i]?=some x:=by
   have:=hd.1
   rw [XP] at this
   rw [if_pos (by omega)] at this
   exact this
  have h1:(i:Int) < (m.ids.length:Int):=by omega
  have h2:(i:Int) < 4:=by omega
  have e1:=iad hat (AVal.int .i64) (k:=1) rfl
  have hw:IntKind.i64.wrap ((i:Int)+1)=((i+1:Nat):Int):=by rw [Zcv (by omega) (by omega)];rfl
  have hk:kOk 1 [AVal.int .i64 (Zek x)]=true:=rfl
  rw [Wq,WD,<-Xs] at ih
  generalize hR:itO ⟨n,q,rt,ids++(x::r).map Zek,Ze3 m⟩=R at *
  have hXl:(ids.map (AVal.int .i64)).length=ids.length:=by simp
  rw [X9,Xs,XV] at ih
  unfold Zek Zfy at ih hk
  unfold Zgz at ih ⊢
  rw [ZaZ]
  cases hids:ids.map (AVal.int .i64) with
  | nil =>
   rw [hids] at ih
   rw [X1] at ih
   unfold miT miH itC itZ mC at ih ⊢
   simp only [Xz,XF,XC] at ih
   simp -implicitDefEqProofs only [EQA,ZA,ZD,ZC,Zz,ZE,ZB,ZO,ZP,ZL,ZQ,ZN,ZR,ZS,ZK,ZM,implies_true,forall_const,Xn,Xo,Xq,Xf,Xg,Xp,Xk,ZH,ZJ,unA,Zu,Zy,unG,reduceCtorEq,Zm,decide_eq_true_eq,Xh,Xc,ite_self,↓reduceIte,Zw,ZG,gcT,gcA,Zl,Zf,Ze,Zg,Zn,Zb,Zo,Zh,Zp,Xe,ZcW,Zcs,Zc3,Zc4,Zcz,ZcX,Zcp,Zs,Zi,Zk,Zc,Zx,ZI,h1,h2,e1,hw,hk,Zab,AVal.cells,ZaS,Za9,Zcn,Zbk,WA,WG,Xt,XA,Xz,XF,ZbP,ZbK,ZbT,ZbO,ZbN,XM,XU,ZaI,ZaQ,ZaP,Zbe,ZbE,Zbq,ZbU,ZbR,ZaY,ZbL,XZ,Wi,Xt,XA,X0,Zac,viewAs,Zao,Zae,Zah,Zr,XG,We,XN,Xk,Xf]
   exact ih
  | cons y ys =>
   rw [hids] at ih hXl
   have hXp:0 < (y::ys).length:=by simp
   rw [Zmq _ hXp,ZlQ _ _ _ _ _ hXp]
   have hXq:∀ z:AVal,0 < (y::ys++[z]).length:=fun z=>by simp
   rw [Zmq _ (hXq _),ZlQ _ _ _ _ _ (hXq _)] at ih
   generalize y::ys=X at *
   have k2:(X.length+1)*8<=140737488355328:=by omega
   unfold itC itZ mC at ih ⊢
   simp only [Xx,Xz,XF,XC] at ih
   simp -implicitDefEqProofs only [EQA,ZA,ZD,ZC,Zz,ZE,ZB,ZO,ZP,ZL,ZQ,ZN,ZR,ZS,ZK,ZM,implies_true,forall_const,Xn,Xo,Xq,Xf,Xg,Xp,Xk,ZH,ZJ,unA,Zu,Zy,unG,reduceCtorEq,Zm,decide_eq_true_eq,Xh,Xc,ite_self,↓reduceIte,Zw,ZG,gcT,gcA,Zl,Zf,Ze,Zg,Zn,Zb,Zo,Zh,Zp,Xe,ZcW,Zcs,Zc3,Zc4,Zcz,ZcX,Zcp,Zs,Zi,Zk,Zc,Zx,ZI,h1,h2,e1,hw,hk,k2,Zab,AVal.cells,ZaS,Za9,Zcn,Zbk,WA,WG,Xt,XA,Xz,XF,ZbP,ZbK,ZbT,ZbO,ZbN,XM,XU,ZaI,ZaQ,ZaP,Zbe,ZbE,Zbq,ZbU,ZbR,ZaY,ZbL,XZ,Wi,Xt,XA,X0,Zac,viewAs,Zao,Zae,Zah,Zr,XG,We,XN]
   exact ih
theorem ZyJ (m:Zdd) (hm:Zf0 m):E 6 [.agg (mC m)] []=some (itO (ZaB m)):=by
 have key:=ZsZ m hm (ZgT m) (ZcM m.sub 0 2) m.keep (m.ids.take 4) 0 [] rfl (XN _) (by omega)
 rw [X1] at key
 rw [show ZaB m=⟨ZgT m,ZcM m.sub 0 2,m.keep,(m.ids.take 4).map Zek,Ze3 m⟩ from rfl]
 generalize hR:itO ⟨ZgT m,ZcM m.sub 0 2,m.keep,(m.ids.take 4).map Zek,Ze3 m⟩=R at *
 have h1:=fun σ sq own f=>Zf4 σ sq own f m.topic hm.topic
 have h2:=fun σ sq own=>ZsY σ sq own true m.payload 300 (by omega)
 have h3:=fun σ sq own=>Zla σ sq own true m.qos
 have h4:=fun σ sq own f=>Zf4 σ sq own f m.sender hm.sender
 have h5:=fun σ sq own=>Zw7 σ sq own m.p hm.content hm.users
 have h6:=fun σ sq own=>Zla σ sq own true m.sub
 have z0:((0:Nat):Int)=0:=rfl
 have z300:(300:Int).toNat=300:=rfl
 rw [z300] at h2
 have hl:=ZvS m.topic
 have k1:1+(ZbW m.topic).length<=9223372036854775807:=by omega
 rw [z0] at key
 simp only [XV] at key
 unfold miT miH ZgT Zfy at key
 unfold itC itZ mC at key
 unfold mC
 unfold Zgz at key
 generalize ZbW m.topic=U1 at *
 generalize ZbW m.sender=U2 at *
 generalize m.payload.take 300=U3 at *
 generalize Zdo m.p=U4 at *
 generalize ZcM m.qos 0 2=U5 at *
 generalize ZcM m.sub 0 2=U6 at *
 rw [ZcQ (by rfl) Zw4]
 by_cases c:m.life > 0
 ·simp only [c,if_true] at key
  simp -implicitDefEqProofs only [EQA,ZA,ZD,ZC,Zz,ZE,ZB,ZO,ZP,ZL,ZQ,ZN,ZR,ZS,ZK,ZM,implies_true,forall_const,Xn,Xo,Xq,Xf,Xg,Xp,Xk,ZH,ZJ,unA,Zu,Zy,unG,reduceCtorEq,Zm,decide_eq_true_eq,Xh,Xc,ite_self,↓reduceIte,Zw,ZG,gcT,gcA,Zl,Zf,Ze,Zg,Zn,Zb,Zo,Zh,Zp,Xe,ZcW,Zcs,Zc3,Zc4,Zcz,ZcX,Zcp,Zs,Zi,Zk,Zc,Zx,ZI,h1,h2,h3,h4,h5,h6,k1,c,Zab,AVal.cells,ZaS,Za9,Zcn,Zbk,WA,WG,Xt,XA,Xz,XF,ZbP,ZbK,ZbT,ZbO,ZbN,XM,XU,ZaI,ZaQ,ZaP,Zbe,ZbE,Zbq,ZbU,ZbR,ZaY,ZbL,XZ,Wi,Xt,XA,X0,Zac,viewAs,Zao,Zae,Zah,Zr,XG,We,XN]
  exact key
 ·simp only [c,if_false] at key
  simp -implicitDefEqProofs only [EQA,ZA,ZD,ZC,Zz,ZE,ZB,ZO,ZP,ZL,ZQ,ZN,ZR,ZS,ZK,ZM,implies_true,forall_const,Xn,Xo,Xq,Xf,Xg,Xp,Xk,ZH,ZJ,unA,Zu,Zy,unG,reduceCtorEq,Zm,decide_eq_true_eq,Xh,Xc,ite_self,↓reduceIte,Zw,ZG,gcT,gcA,Zl,Zf,Ze,Zg,Zn,Zb,Zo,Zh,Zp,Xe,ZcW,Zcs,Zc3,Zc4,Zcz,ZcX,Zcp,Zs,Zi,Zk,Zc,Zx,ZI,h1,h2,h3,h4,h5,h6,k1,c,Zab,AVal.cells,ZaS,Za9,Zcn,Zbk,WA,WG,Xt,XA,Xz,XF,ZbP,ZbK,ZbT,ZbO,ZbN,XM,XU,ZaI,ZaQ,ZaP,Zbe,ZbE,Zbq,ZbU,ZbR,ZaY,ZbL,XZ,Wi,Xt,XA,X0,Zac,viewAs,Zao,Zae,Zah,Zr,XG,We,XN]
  exact key
theorem Zxu (it:Zc9):Zcb 0 (some (itO it))=some (.agg (itC it.note it.qos it.retain (.lst false (it.ids.map (AVal.int .i64))) it.share),[]):=by
 unfold itO
 cases it.ids with
 | nil =>
  simp [ZbM,Zbt,itC,Zcb,viewR,Zao,Zah,Zae,Zr,gcA,Zl,Zf,ZW,Z5,ZV,Zj,Zg]
 | cons a l =>
  simp only [Xs,Zgt,ZfO]
  generalize AVal.int .i64 a::l.map (AVal.int .i64)=X
  simp [itC,Zcb,viewR,Zao,Zah,Zae,Zm,Zr,gcA,Zl,Zf,ZW,Z5,ZV,Zj,Zg]
theorem Zy3 (σ:Za) (sq own:Nat) (m:Zdd) (hm:Zf0 m):ZZ E BY σ sq 6 own true [.agg (mC m)]=some (.agg [.str (ZaB m).note.topic,.lst false ((ZaB m).note.payload.map Zt),.int .i64 (ZaB m).note.qos,.bool (ZaB m).note.retain,.str (ZaB m).note.sender,.int .i64 (ZaB m).note.expires,.lst false ((ZaB m).note.props.map Zc),.int .i64 (ZaB m).note.origin,.int .i64 (ZaB m).note.number,.int .i64 (ZaB m).note.hops,.int .i64 (ZaB m).qos,.bool (ZaB m).retain,.lst false ((ZaB m).ids.map (.int .i64 ·)),.str (ZaB m).share],σ,{}):=by
 rw [ZdX (by kernel_rfl) rfl]
 have hn:[AVal.agg (mC m)].map Zag=[.agg (mC m)]:=rfl
 rw [hn,ZyJ m hm]
 have : ZaA true 0 (some (itO (ZaB m)))=_:=(if_pos rfl).trans (Zxu _)
 rw [this]
 rw [Zgn _ _ _ _ rfl]
 rfl
end
section
def Zdf (a b:Int):Int:=if b > a then b else a
def ZhL (a b:Int):Int:=if b < a then b else a
def Zfo (n:Z2) (k:Bool) (s:Zas):Bool:=if k then true else if n.retain then s.asPublished else false
def ZbF (subs:List Zas):List Int:=(subs.filter fun s=>s.id != 0).map (·.id)
def rbT (i:Int) (N:Nat) (S:AVal) (q:Int):List AVal->Tms
 | []=>[(18,.int .i64 i),(17,.int .i64 N),(16,S),(6,.int .i64 q),(5,.ref 0 0),(4,.ref 1 0),(2,.ref 2 0)]
 | _::_=>[(18,.int .i64 i),(17,.int .i64 N),(16,S),(6,.int .i64 q),(5,.ref 0 0),(4,.ref 2 0),(2,.ref 3 0)]
def rbI (n:Z2) (q:Int) (k:Bool) (x:AVal):List AVal:=[.str n.topic,.lst false (n.payload.map Zt),.int .i64 n.qos,.bool n.retain,.str n.sender,.int .i64 n.expires,.lst false (n.props.map Zc),.int .i64 n.origin,.int .i64 n.number,.int .i64 n.hops,.int .i64 q,.bool k,x,.str []]
def rbH (n:Z2) (k:Bool) (z:ZU):List AVal->Za
 | []=>[.var (rbI n 0 k (.lst true [])),z,.var (Z6 n)]
 | x::xs=>[.var (rbI n 0 k (.sl 1 0 0 (x::xs).length)),.row 0 1 (x::xs),z,.var (Z6 n)]
theorem Zhi (i:Int) (N:Nat) (S:AVal) (q:Int) {X:List AVal} (h:0 < X.length):rbT i N S q X=[(18,.int .i64 i),(17,.int .i64 N),(16,S),(6,.int .i64 q),(5,.ref 0 0),(4,.ref 2 0),(2,.ref 3 0)]:=by
 cases X with
 | nil=>simp at h
 | cons x xs=>rfl
theorem Zh5 (n:Z2) (k:Bool) (z:ZU) {X:List AVal} (h:0 < X.length):rbH n k z X=[.var (rbI n 0 k (.sl 1 0 0 X.length)),.row 0 1 X,z,.var (Z6 n)]:=by
 cases X with
 | nil=>simp at h
 | cons x xs=>rfl
def rbZ:List AVal:=[.str [],.lst true [],.int .i64 0,.bool false,.str [],.int .i64 0,.lst true [],.int .i64 0,.int .i64 0,.int .i64 0,.int .i64 0,.bool false,.lst true [],.str []]
def rbO (n:Z2) (q:Int) (k:Bool) (ids:List Int):AVal×Za:=(.agg (rbI n (ZhL n.qos q) k (ZbM ((ZbD ids).map (AVal.int .i64)))),Zbt 1 ((ZbD ids).map (AVal.int .i64)))
theorem Ztn (l:List Int):(ZbD l).length=l.length:=XaK l
theorem ZzS (n:Z2) (S:AVal) (N:Nat) (i q:Int) (k:Bool) (ids:List Int) (hi:ids.length < 4611686018427387904) (h:¬i < (N:Int)) :
  Zfn 0 (rbT i N S q (ids.map (AVal.int .i64))) (rbH n k (.var rbZ) (ids.map (AVal.int .i64)))=some (rbO n q k ids):=by
 unfold rbO
 have hsl:=Ztn ids
 have hS:=fun {σ:Za} {t sq:Nat} hs=>Zw5 ids hi (σ:=σ) (t:=t) (sq:=sq) hs
 unfold Zfn
 rw [ZaZ]
 cases hids:ids.map (AVal.int .i64) with
 | nil =>
  have h0:ids=[]:=by simpa using hids
  subst h0
  rw [show ZbD []=[] from List.mergeSort_nil,XV,Zgs,ZeW]
  have hS0:=Zwz
  unfold rbT rbH rbI rbZ Z6 ZhL
  generalize Zi n.payload=B1
  generalize Zk n.props=B2
  generalize n.payload.map Zt=L1
  generalize n.props.map Zc=L2
  simp -implicitDefEqProofs only [EQA,ZA,ZD,ZC,Zz,ZE,ZB,ZO,ZP,ZL,ZQ,ZN,ZR,ZS,ZK,ZM,implies_true,forall_const,Xn,Xo,Xq,Xf,Xg,Xp,Xk,ZH,ZJ,unA,Zu,Zy,unG,reduceCtorEq,Zm,decide_eq_true_eq,Xh,Xc,ite_self,↓reduceIte,Zw,ZG,gcT,gcA,Zl,Zf,Ze,Zg,Zn,Zb,Zo,Zh,Zp,Xe,Za4,ZaU,Za0,Za1,ZaW,Za6,ZaV,Zs,Zi,Zk,Zc,Zx,ZI,h,hS0,Zab,AVal.cells,ZT,Xt,XA]
  try (simp [Zaz,gcA,Zl,Zf,ZW,Z5,Ze,Zg,Zn,Zb,Zo,ZV,Zj,Zh,Zp,Xe])
 | cons x xs =>
  have hXp:0 < (x::xs).length:=by simp
  have hXs:0 < ((ZbD ids).map (AVal.int .i64)).length:=by rw [XH,hsl,<-XH (f:=AVal.int .i64),hids];exact hXp
  rw [ZhG hXs,Zfr hXs,Zhi _ _ _ _ hXp,Zh5 _ _ _ hXp]
  have hl:(x::xs).length=ids.length:=by rw [<-hids,XH]
  rw [hids] at hS
  rw [XH,hsl,hl]
  generalize x::xs=X at *
  generalize (ZbD ids).map (AVal.int .i64)=Y at *
  unfold rbI rbZ Z6 ZhL
  generalize Zi n.payload=B1
  generalize Zk n.props=B2
  generalize n.payload.map Zt=L1
  generalize n.props.map Zc=L2
  simp -implicitDefEqProofs only [EQA,ZA,ZD,ZC,Zz,ZE,ZB,ZO,ZP,ZL,ZQ,ZN,ZR,ZS,ZK,ZM,implies_true,forall_const,Xn,Xo,Xq,Xf,Xg,Xp,Xk,ZH,ZJ,unA,Zu,Zy,unG,reduceCtorEq,Zm,decide_eq_true_eq,Xh,Xc,ite_self,↓reduceIte,Zw,ZG,gcT,gcA,Zl,Zf,Ze,Zg,Zn,Zb,Zo,Zh,Zp,Xe,Za4,ZaU,Za0,Za1,ZaW,Za6,ZaV,Zs,Zi,Zk,Zc,Zx,ZI,h,hS,Zab,AVal.cells,ZT,Xt,XA]
  try (simp [Zaz,gcA,Zl,Zf,ZW,Z5,Ze,Zg,Zn,Zb,Zo,ZV,Zj,Zh,Zp,Xe])
def byQ (q:Int) (r:List Zas):Int:=r.foldl (fun q s=>Zdf q s.qos) q
def byK (n:Z2) (k:Bool) (r:List Zas):Bool:=r.foldl (Zfo n) k
theorem ZyE (s:Zas) (r:List Zas):ZbF (s::r)=(if s.id != 0 then [s.id] else [])++ZbF r:=by
 unfold ZbF
 rw [List.filter_cons]
 split
 ·rename_i h;simp
 ·rename_i h;simp
theorem ZvG (n:Z2) (subs:List Zas) (hN:subs.length<=1000000000):∀ (r:List Zas) (i:Nat) (q:Int) (k:Bool) (ids:List Int),subs.drop i=r->ids.length<=i->i<=subs.length ->
  Zfn 0 (rbT i subs.length (.lst false (subs.map Za5)) q (ids.map (AVal.int .i64))) (rbH n k (.var rbZ) (ids.map (AVal.int .i64)))=some (rbO n (byQ q r) (byK n k r) (ids++ZbF r))
 | [],i,q,k,ids,h,hl,hi=>by
  have h1:=ZgR h
  rw [show ZbF []=[] from rfl,X2]
  have hb:ids.length < 4611686018427387904:=by omega
  exact ZzS n _ subs.length i q k ids hb h1
 | s::r,i,q,k,ids,h,hl,_=>by
  have hd:=Zba h
  have ih:=ZvG n subs hN r (i+1) (Zdf q s.qos) (Zfo n k s) (ids++if s.id != 0 then [s.id] else []) hd.2.1 (by rw [Xx];split <;> simp <;> omega) (by have:=hd.2.2;omega)
  rw [Wq,<-ZyE] at ih
  change _=some (rbO n (byQ q (s::r)) (byK n k (s::r)) (ids++ZbF (s::r))) at ih
  generalize hR:rbO n (byQ q (s::r)) (byK n k (s::r)) (ids++ZbF (s::r))=R at *
  have h1:(i:Int) < (subs.length:Int):=by have:=hd.2.2;omega
  have e1:∀ (σ:Za) (b:Bool) (kk:IntKind),ZaT σ 6 (.lst b (subs.map Za5)) (.int kk (i:Int))=some (.iptr [.str s.filter,.int .i64 s.qos,.bool s.noLocal,.bool s.asPublished,.int .i64 s.handling,.int .i64 s.id] 0,σ,{}):=fun σ b kk=>iad hd.1 Za5 (k:=6) rfl σ b kk
  have hw:IntKind.i64.wrap ((i:Int)+1)=((i+1:Nat):Int):=by rw [Zcv (by omega) (by omega)];rfl
  have hXl:(ids.map (AVal.int .i64)).length=ids.length:=by simp
  have hk:∀ x:Int,kOk 1 [AVal.int .i64 x]=true:=fun _=>rfl
  unfold Zfo Zdf at ih
  have hil:i < subs.length:=hd.2.2
  clear hd h hR
  by_cases c:s.id=0
  ·have c1:(s.id != 0)=false:=by simp [c]
   simp only [c1,Xw,if_false,X2] at ih
   unfold Zfn at ih ⊢
   rw [ZaZ]
   cases hids:ids.map (AVal.int .i64) with
   | nil =>
    rw [hids] at ih
    unfold rbT rbH rbI rbZ Z6 Zi Zk at ih ⊢
    generalize n.payload.map Zt=L1 at *
    generalize n.props.map Zc=L2 at *
    generalize subs.map Za5=S at *
    generalize n.retain=rt at *
    cases k <;> cases rt
    all_goals
     simp only [if_true,Xw,if_false] at ih
     simp -implicitDefEqProofs only [EQA,ZA,ZD,ZC,Zz,ZE,ZB,ZO,ZP,ZL,ZQ,ZN,ZR,ZS,ZK,ZM,implies_true,forall_const,Xn,Xo,Xq,Xf,Xg,Xp,Xk,ZH,ZJ,unA,Zu,Zy,unG,reduceCtorEq,Zm,decide_eq_true_eq,Xh,Xc,ite_self,↓reduceIte,Zw,ZG,gcT,gcA,Zl,Zf,Ze,Zg,Zn,Zb,Zo,Zh,Zp,Xe,Za4,ZaU,Za0,Za1,ZaW,Za6,ZaV,Zs,Zi,Zk,Zc,Zx,ZI,h1,e1,hw,c1,Zab,AVal.cells,ZT,Xt,XA,gt_iff_lt]
     exact ih
   | cons y ys =>
    rw [hids] at ih hXl
    have hXp:0 < (y::ys).length:=by simp
    rw [Zhi _ _ _ _ hXp,Zh5 _ _ _ hXp] at ih ⊢
    generalize y::ys=X at *
    unfold rbI rbZ Z6 Zi Zk at ih ⊢
    generalize n.payload.map Zt=L1 at *
    generalize n.props.map Zc=L2 at *
    generalize subs.map Za5=S at *
    generalize n.retain=rt at *
    cases k <;> cases rt
    all_goals
     simp only [if_true,Xw,if_false] at ih
     simp -implicitDefEqProofs only [EQA,ZA,ZD,ZC,Zz,ZE,ZB,ZO,ZP,ZL,ZQ,ZN,ZR,ZS,ZK,ZM,implies_true,forall_const,Xn,Xo,Xq,Xf,Xg,Xp,Xk,ZH,ZJ,unA,Zu,Zy,unG,reduceCtorEq,Zm,decide_eq_true_eq,Xh,Xc,ite_self,↓reduceIte,Zw,ZG,gcT,gcA,Zl,Zf,Ze,Zg,Zn,Zb,Zo,Zh,Zp,Xe,Za4,ZaU,Za0,Za1,ZaW,Za6,ZaV,Zs,Zi,Zk,Zc,Zx,ZI,h1,e1,hw,c1,Zab,AVal.cells,ZT,Xt,XA,gt_iff_lt]
     exact ih
  ·have c1:(s.id != 0)=true:=by simp [c]
   simp only [c1,if_true,X9,Xs,XV] at ih
   unfold Zfn at ih ⊢
   rw [ZaZ]
   cases hids:ids.map (AVal.int .i64) with
   | nil =>
    rw [hids,X1] at ih
    unfold rbT rbH rbI rbZ Z6 Zi Zk at ih ⊢
    simp only [Xz,XF,XC] at ih
    generalize n.payload.map Zt=L1 at *
    generalize n.props.map Zc=L2 at *
    generalize subs.map Za5=S at *
    generalize n.retain=rt at *
    cases k <;> cases rt
    all_goals
     simp only [if_true,Xw,if_false] at ih
     simp -implicitDefEqProofs only [EQA,ZA,ZD,ZC,Zz,ZE,ZB,ZO,ZP,ZL,ZQ,ZN,ZR,ZS,ZK,ZM,implies_true,forall_const,Xn,Xo,Xq,Xf,Xg,Xp,Xk,ZH,ZJ,unA,Zu,Zy,unG,reduceCtorEq,Zm,decide_eq_true_eq,Xh,Xc,ite_self,↓reduceIte,Zw,ZG,gcT,gcA,Zl,Zf,Ze,Zg,Zn,Zb,Zo,Zh,Zp,Xe,Za4,ZaU,Za0,Za1,ZaW,Za6,ZaV,Zs,Zi,Zk,Zc,Zx,ZI,h1,e1,hw,c1,hk,Zac,viewAs,Zao,Zae,Zah,Zr,XG,We,XN,Xk,Xf,Zab,AVal.cells,ZT,Xt,XA,gt_iff_lt]
     exact ih
   | cons y ys =>
    rw [hids] at ih hXl
    have hXp:0 < (y::ys).length:=by simp
    have hXq:∀ z:AVal,0 < (y::ys++[z]).length:=fun z=>by simp
    rw [Zhi _ _ _ _ (hXq _),Zh5 _ _ _ (hXq _)] at ih
    rw [Zhi _ _ _ _ hXp,Zh5 _ _ _ hXp]
    generalize y::ys=X at *
    have k2:(X.length+1)*8<=140737488355328:=by omega
    unfold rbI rbZ Z6 Zi Zk at ih ⊢
    simp only [Xx,Xz,XF,XC] at ih
    generalize n.payload.map Zt=L1 at *
    generalize n.props.map Zc=L2 at *
    generalize subs.map Za5=S at *
    generalize n.retain=rt at *
    cases k <;> cases rt
    all_goals
     simp only [if_true,Xw,if_false] at ih
     simp -implicitDefEqProofs only [EQA,ZA,ZD,ZC,Zz,ZE,ZB,ZO,ZP,ZL,ZQ,ZN,ZR,ZS,ZK,ZM,implies_true,forall_const,Xn,Xo,Xq,Xf,Xg,Xp,Xk,ZH,ZJ,unA,Zu,Zy,unG,reduceCtorEq,Zm,decide_eq_true_eq,Xh,Xc,ite_self,↓reduceIte,Zw,ZG,gcT,gcA,Zl,Zf,Ze,Zg,Zn,Zb,Zo,Zh,Zp,Xe,Za4,ZaU,Za0,Za1,ZaW,Za6,ZaV,Zs,Zi,Zk,Zc,Zx,ZI,h1,e1,hw,c1,hk,k2,Zac,viewAs,Zao,Zae,Zah,Zr,XG,We,XN,Zab,AVal.cells,ZT,Xt,XA,gt_iff_lt]
     exact ih
def byI (n:Z2) (subs:List Zas):Zc9:=⟨n,ZhL n.qos (byQ ((subs.map (·.qos)).headD 0) subs),byK n false subs,ZbD (ZbF subs),[]⟩
theorem ZwN (n:Z2) (hn:Zdp n) (s:Zas) (r:List Zas) (hN:(s::r).length<=1000000000):E 22 [Zck n,.lst false ((s::r).map Za5)] []=some (rbO n (byQ s.qos (s::r)) (byK n false (s::r)) (ZbF (s::r))):=by
 have h:=ZvG n (s::r) hN (s::r) 0 s.qos false [] rfl (by simp) (by simp)
 have z:((0:Nat):Int)=0:=rfl
 rw [z,X1,XV] at h
 have hC:=fun σ sq own=>ZyH n hn σ sq own
 have e1:∀ (σ:Za) (b:Bool) (kk:IntKind),ZaT σ 6 (.lst b ((s::r).map Za5)) (.int kk 0)=some (.iptr [.str s.filter,.int .i64 s.qos,.bool s.noLocal,.bool s.asPublished,.int .i64 s.handling,.int .i64 s.id] 0,σ,{}):=fun σ b kk=>iad (l:=s::r) (i:=0) rfl Za5 (k:=6) rfl σ b kk
 have hl:((s::r).map Za5).length=(s::r).length:=XH ..
 generalize hR:rbO n (byQ s.qos (s::r)) (byK n false (s::r)) (ZbF (s::r))=R at *
 generalize (s::r).map Za5=S at *
 generalize (s::r).length=N at *
 unfold rbT rbH rbI rbZ Z6 Zi Zk at h
 unfold Zck Z6 Zi Zk
 generalize n.payload.map Zt=L1 at *
 generalize n.props.map Zc=L2 at *
 unfold Zfn at h
 rw [ZcQ (by rfl) ZxN]
 simp -implicitDefEqProofs only [EQA,ZA,ZD,ZC,Zz,ZE,ZB,ZO,ZP,ZL,ZQ,ZN,ZR,ZS,ZK,ZM,implies_true,forall_const,Xn,Xo,Xq,Xf,Xg,Xp,Xk,ZH,ZJ,unA,Zu,Zy,unG,reduceCtorEq,Zm,decide_eq_true_eq,Xh,Xc,ite_self,↓reduceIte,Zw,ZG,gcT,gcA,Zl,Zf,Ze,Zg,Zn,Zb,Zo,Zh,Zp,Xe,Za4,ZaU,Za0,Za1,ZaW,Za6,ZaV,Zs,Zi,Zk,Zc,Zx,ZI,hC,e1,hl,Zab,AVal.cells,ZT,Xt,XA]
 exact h
theorem ZtO (n:Z2) (hn:Zdp n) (s:Zas) (r:List Zas) (hN:(s::r).length<=1000000000) (σ:Za) (sq own:Nat):ZZ E BY σ sq 22 own true [.agg [.str n.topic,.lst false (n.payload.map Zt),.int .i64 n.qos,.bool n.retain,.str n.sender,.int .i64 n.expires,.lst false (n.props.map Zc),.int .i64 n.origin,.int .i64 n.number,.int .i64 n.hops],.lst false ((s::r).map Za5)]=some (ZcO (byI n (s::r)),σ,{}):=by
 rw [ZdX (by kernel_rfl) rfl]
 simp only [Xs,XV,Zag,ZaE]
 have h:=ZwN n hn s r hN
 unfold Zck Z6 Zi Zk at h
 rw [Xs] at h
 rw [h]
 have : ZaA true 0 (some (rbO n (byQ s.qos (s::r)) (byK n false (s::r)) (ZbF (s::r))))=some (ZcO (byI n (s::r)),[]):=by
  unfold rbO ZcO ZbS byI Zi Zk Zs
  simp only [Xs,Xbb]
  generalize ZbD (ZbF (s::r))=ids
  cases hi:ids.map (AVal.int .i64) with
  | nil =>
   rw [Zgs,ZeW]
   simp [ZaA,Zcb,viewR,Zao,Zah,Zae,Zm,rbI,Zr,gcA,Zl,Zf,ZW,Z5,Ze,Zg,Zn,ZV,Zj]
  | cons x xs =>
   rw [Zgt,ZfO]
   simp [ZaA,Zcb,viewR,Zao,Zah,Zae,Zm,rbI,Zr,gcA,Zl,Zf,ZW,Z5,Ze,Zg,Zn,ZV,Zj]
 rw [this]
 simp [Zay,ZcO,ZbS,Zi,Zk,Zs,ZaX,ZaL,ZaD,Zcq,Zj,ZV]
end
end Go.Proofs.Ytfpahnkbjfimdaa
