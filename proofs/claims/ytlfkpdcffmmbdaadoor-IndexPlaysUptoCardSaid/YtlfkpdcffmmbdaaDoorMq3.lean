/- packed -/
import Derived.Test.YtlfkpdcffmmbdaaDoorMq2
import Derived.Sort.Row
import Derived.Sort.Grow
import Derived.Shelf.SlSortCmp.NoneTotal
import Derived.Lib.Bytealg
import Derived.Test.YtlfkpdcffmmbdaaDoorProg
import Derived.Deep.Slices
import Derived.ChangeArms
import Derived.WideShapes
import GoSem.ClaimChange
import Derived.Lib.TrimUEq
import Derived.Lib.MapLaws
import Derived.Lib.ValidLaws
import Derived.Sort.Walk0
set_option linter.defProp false
set_option linter.unusedSectionVars false
set_option linter.unusedSimpArgs false
set_option linter.unusedVariables false
open Option.some renaming injEq→Xa
open Prod.mk renaming injEq→Xb
open Bool renaming decide_eq_true→Xc,not_eq_true→Xf,false_eq_true→Xm,and_eq_true→Xp,false_and→WJ,or_eq_true→WO,and_self→WV,true_or→WZ,not_false→W3,eq_iff_iff→Xal,or_true→XaB,true_and→XaE,false_or→Xbx
open Nat renaming reduceLeDiff→Xd,reduceEqDiff→Xe,reduceAdd→Xh,reduceSub→Xi,reduceBEq→Xj,reduceMul→Xk,reduceLT→Xl,zero_add→XD,le_refl→X3,add_zero→Wf,lt_or_ge→XaA,zero_mul→Xba,succ_mul→Xbm
open List renaming range_succ→Xg,getElem?_eq_some_iff→Xn,getD_eq_getElem?_getD→Xo,mem_of_getElem?→Xt,getD_cons_zero→Xv,length_cons→Xw,replicate→Xx,getElem?_eq_getElem→Xz,mem_cons→XA,getD_cons_succ→XC,all_cons→XE,length_nil→XF,getElem?_cons_zero→XG,all_eq_true→XH,length_append→XI,map_cons→XJ,contains_nil→XK,mem_map→XL,flatMap_cons→XM,all_nil→XN,append_nil→XO,getElem?_eq_none→XQ,getElem?_cons_succ→XR,nil_append→XT,zip_cons_cons→XU,getElem?_map→XW,lookup_cons→X1,take_of_length_le→X5,drop_eq_nil_iff→X7,length_map→X9,ext_getElem?→Wb,any_cons→Wc,map_map→Wg,lookup_nil→Wl,flatMap_nil→Wn,cons_append→Wt,range→Wu,any_nil→WF,length_drop→WG,mem_iff_getElem?→WR,flatMap_append→W1,range_zero→Xad,zip_nil_left→XaF,drop_zero→XaI,not_lt→XaM,pairwise_map→XaU,drop_drop→XaV,take_append_drop→XaX,le_antisymm→Xa2,lt_irrefl→Xbc,flatten_cons→Xbe,isEmpty_cons→Xbf
open Option renaming map_eq_some_iff→Xq,map_some→XS,map→Wx,getD_some→WI,isSome_none→Xaw
open Or renaming inl→Xs,inr→Xy
open Int renaming toNat_natCast→X0,toNat_zero→Wh,le_refl→Wz
open Array renaming getElem?_toList→WS,getElem?_modify→Xaf,getElem?_eq_getElem→Xah
open UInt8 renaming toNat_inj→Xam
namespace Go.Proofs.YtlfkpdcffmmbdaaDoor
set_option maxHeartbeats 16000000
set_option maxRecDepth 10000
section
open Go.RowKit Go.Sort
def Zd0 {α:Type} (g:AVal->Option α):List AVal->Option (List α)
 | []=>some []
 | x::r=>match g x with
  | some a=>(Zd0 g r).map (a::·)
  | none=>none
section
variable {P:Program} {base:Nat->Prop} {w0 w w':World} {I0 I:Imm} {β:Bmap} {σ:Za}
theorem Rel.putAt (R:Rel base w0 I0 I β σ w) (hbl:KLt base w) {t b:Nat} {x x':ZU} (ht:σ[t]?=some x) (hx:ZO w β t x b) (hx':∀ b',ZO w' β t x' b'->b'=b) (hg:Zb x'=Zb x)
  (hos:w'.os=w.os) (hta:w'.tape=w.tape) (hou:w'.output=w.output) (hs:w.heap.size<=w'.heap.size) (hh:∀ k,k≠b->k < w.heap.size->w'.heap[k]?=w.heap[k]?) (hblk:BR I β w' t x') (hnf:x'≠.free:=by simp) (hns:∀ b',¬ZaZ β t x' b':=by intro b h;cases h) :
  Rel base w0 I0 I β (σ.set t x') w':=by
 have hsl:t < σ.length:=(Xn.1 ht).1
 have ho:=R.own t x b ht hx
 refine R.upd (Imm.le.refl I) (Bmap.le.refl β) ⟨hos,hta,hou,hs,fun k hk=>hh k (by rintro rfl;exact ho.1 hk) (hbl k hk)⟩ (fun _ _ _=>rfl) ?_ t x' rfl hsl (fun _ _ _=>rfl) ?_ hblk ?_ ?_ ?_ (fun b h=>absurd h (hns b))
 ·intro b' o u h
  have hne:b'≠b:=by rintro rfl;rw [ho.2 o] at h;cases h
  have h1:=R.imm b' o u h
  have hlt:=Zc5 h1
  rw [<-h1]
  simp only [World.cell?,hh b' hne hlt]
 ·intro t' y b' hne hy hb'
  have hbb:b'≠b:=by rintro rfl;exact hne (R.apart t' y t x b' hy ht hb' hx)
  exact ⟨hh b' hbb ((R.blk t' y hy).owns_lt hb'),(R.own t' y b' hy hb').2,fun e=>hbb (hx' _ e)⟩
 ·intro b' e
  obtain rfl:=hx' _ e
  exact ho
 ·intro g hlt
  exact R.gen t x g ht (by rw [<-hg];exact hlt)
 ·rintro rfl
  exact hnf rfl
theorem Zqx {α:Type} {g:AVal->Option α}:∀ {xs:List AVal} {zs:List α},Zd0 g xs=some zs->zs.length=xs.length
 | [],zs,h=>by simp only [Zd0,Xa] at h;subst h;rfl
 | x::xs,zs,h=>by
  simp only [Zd0] at h
  split at h
  ·simp only [Xq] at h
   obtain ⟨zs',h,rfl⟩:=h
   simp [Zqx h]
  ·cases h
end
end
section
open Go.RowKit Go.Sort
def leC {κ:Type} (cf:κ->κ->Int) (x y:κ):Bool:=!decide (cf y x < 0)
def Zht {κ:Type} (le:κ->κ->Bool):List κ->List κ
 | []=>[]
 | [a]=>[a]
 | l=>l.mergeSort le
theorem ZgT {κ:Type} (le:κ->κ->Bool):∀ l:List κ,Zht le l=l.mergeSort le
 | []=>by simp [Zht]
 | [a]=>by simp [Zht]
 | _::_::_=>rfl
def Zen {κ:Type} [DecidableEq κ] (cf:κ->κ->Int) (xs:List AVal) (ks:List κ):List AVal:=(Zht (leC cf) ks).map fun a=>((ks.zip xs).lookup a).getD .nilp
def Zg0 {κ:Type} [DecidableEq κ] (k f:Nat) (key:AVal->Option κ) (cf:κ->κ->Int) (args:List AVal) (σ:Za):Option (AVal×Za):=match args,σ with
 | [.sl 0 0 0 n,.fn f' []],[.row 0 k' xs]=>match Zd0 key xs with
  | some ks=>if n=xs.length/\n < 4611686018427387904/\k'=k/\f'=f/\ks.Nodup then some (.tup [],[.row 0 k (Zen cf xs ks)]) else none
  | none=>none
 | [.lst b [],.fn f' []],[]=>some (.tup [],[])
 | _,_=>none
section
variable {P:Program} {base:Nat->Prop} {w0 w w':World} {I0 I:Imm} {β:Bmap} {σ:Za}
theorem Zpb {k:Nat}:∀ {xs:List AVal} {vs:List Value},(∀ x ∈ xs,x.cells.length=k)->VRs I β (xs.flatMap AVal.cells) vs->∃ VS:List (List Value),vs=VS.flatten/\VS.length=xs.length/\(∀ l ∈ VS,l.length=k)/\∀ (i:Nat) (x:AVal),xs[i]?=some x->∃ l,VS[i]?=some l/\VRs I β x.cells l
 | [],vs,_,h=>by
  simp only [Wn,VRs] at h
  subst h
  exact ⟨[],rfl,rfl,by simp,by simp⟩
 | x::xs,vs,hk,h=>by
  rw [XM] at h
  have hl:=Zag h
  have h1:=Zdx h x.cells.length
  have h2:=ZdS h x.cells.length
  rw [List.take_left] at h1
  rw [List.drop_left] at h2
  obtain ⟨VS,e1,e2,e3,e4⟩:=Zpb (fun y hy=>hk y (by simp [hy])) h2
  refine ⟨vs.take x.cells.length::VS,by rw [Xbe,<-e1,XaX],by simp [e2],?_,?_⟩
  ·intro l hl'
   rcases XA.1 hl' with rfl | hl'
   ·rw [<-Zag h1];exact hk x (by simp)
   ·exact e3 l hl'
  ·intro i y hy
   cases i with
   | zero=>simp only [XG,Xa] at hy;subst hy;exact ⟨_,rfl,h1⟩
   | succ i=>simp only [XR] at hy ⊢;exact e4 i y hy
theorem ZhB {κ β':Type} [DecidableEq κ]:∀ {ks:List κ} {ys:List β'} {i:Nat} {a:κ} {y:β'},ks.Nodup->ks[i]?=some a->ys[i]?=some y->(ks.zip ys).lookup a=some y
 | [],ys,i,a,y,_,h,_=>by simp at h
 | b::ks,[],i,a,y,_,_,h=>by simp at h
 | b::ks,z::ys,0,a,y,_,h,h'=>by
  simp only [XG,Xa] at h h'
  subst h h'
  simp [List.lookup]
 | b::ks,z::ys,i+1,a,y,hn,h,h'=>by
  simp only [XR] at h h'
  obtain ⟨n1,n2⟩:=List.nodup_cons.1 hn
  have hne:a≠b:=by rintro rfl;exact n1 (Xt h)
  rw [XU,X1]
  have : (a == b)=false:=by simpa using hne
  rw [this]
  exact ZhB n2 h h'
theorem ZqZ {k:Nat}:∀ {L:List (List Value)} {i c:Nat},(∀ l ∈ L,l.length=k)->c < k->(L.flatten)[i*k+c]?=(L[i]?).bind (·[c]?)
 | [],i,c,_,_=>by simp
 | l::L,0,c,h,hc=>by
  have:=h l (by simp)
  rw [Xba,XD,Xbe,List.getElem?_append_left (by omega)]
  rfl
 | l::L,i+1,c,h,hc=>by
  have hl:=h l (by simp)
  rw [Xbe,List.getElem?_append_right (by rw [hl,Xbm];omega)]
  have : (i+1)*k+c - l.length=i*k+c:=by rw [hl,Xbm];omega
  rw [this,ZqZ (fun m hm=>h m (by simp [hm])) hc]
  rfl
theorem Zqq {α:Type} [Inhabited α] {enc:α->List Value} {k:Nat} (hk:∀ x,(enc x).length=k) (hk0:0 < k) (d:List α):(flatK enc k d.toArray).toList=d.flatMap enc:=by
 have hL:∀ l ∈ d.map enc,l.length=k:=fun l hl=>by obtain ⟨a,_,rfl⟩:=XL.1 hl;exact hk a
 apply Wb
 intro t
 rw [List.flatMap_def]
 have e:t=t / k*k+t % k:=by rw [Nat.mul_comm];exact (Nat.div_add_mod t k).symm
 have hm:=Nat.mod_lt t hk0
 have h2:((d.map enc).flatten)[t]?=((d.map enc)[t / k]?).bind (·[t % k]?):=by
  have:=ZqZ (i:=t / k) (c:=t % k) hL hm
  rwa [<-e] at this
 rw [h2]
 by_cases ht:t < d.length*k
 ·have hi:t / k < d.length:=Nat.div_lt_of_lt_mul (by rwa [Nat.mul_comm] at ht)
  have hz:(flatK enc k d.toArray).size=d.length*k:=by rw [size_flatK];rfl
  have hg:=get_flatK enc k d.toArray t (by simpa using ht)
  rw [WS,Xah (by rw [hz];exact ht)]
  rw [getElem!_pos _ t (by rw [hz];exact ht)] at hg
  rw [hg,XW,Xz hi]
  have e2:(d.toArray[t / k]!)=d[t / k]:=by simp [hi]
  rw [e2]
  simp only [XS,Option.bind_some]
  have hl:=hk d[t / k]
  rw [getElem!_pos _ _ (by omega),Xz (by omega)]
 ·have hd:d.length<=t / k:=(Nat.le_div_iff_mul_le hk0).2 (by omega)
  rw [XQ (by rw [Array.length_toList,size_flatK];simpa using ht),XQ (by simpa using hd)]
  rfl
theorem ZnW {α:Type} {g:AVal->Option α}:∀ {xs:List AVal} {zs:List α} {i:Nat} {x:AVal},Zd0 g xs=some zs->xs[i]?=some x->∃ a,zs[i]?=some a/\g x=some a
 | [],zs,i,x,_,hx=>by simp at hx
 | y::xs,zs,i,x,h,hx=>by
  simp only [Zd0] at h
  split at h
  ·rename_i a ha
   simp only [Xq] at h
   obtain ⟨zs',h,rfl⟩:=h
   cases i with
   | zero=>simp only [XG,Xa] at hx;subst hx;exact ⟨a,rfl,ha⟩
   | succ i=>simp only [XR] at hx ⊢;exact ZnW h hx
  ·cases h
theorem ZFb {κ:Type} [DecidableEq κ] [Inhabited κ] {k g f:Nat} {key:AVal->Option κ} {cf:κ->κ->Int} {pre:κ->List Value} {m:Nat} (hf:∃ fn,P.funcs[f]?=some fn/\fn.body.isSome=true/\(fn.name == "runtime.NumGoroutine")=false)
  (hm:m<=k) (hk0:0 < k) (hg0:g < 1000000) (hpre:∀ a,(pre a).length=m/\∀ v ∈ pre a,v.oneCell'=true)
  (hkey:∀ {I:Imm} {β:Bmap} (x:AVal) (a:κ) (l:List Value),key x=some a->VRs I β x.cells l->∃ t,l=pre a++t)
  (hcmp:∀ (a b:κ) (us vs:List Value) (W:World),m+us.length=k->m+vs.length=k->Calls P g #[.agg (pre a++us).toArray,.agg (pre b++vs).toArray] W fun e w'=>e=.returned (.int .i64 (cf a b))/\∃ q os',w'=grow (W.drewN q) os')
  (hsort:∀ (enc:κ->List Value),(∀ x,(enc x).length=k)->(∀ x,∀ v ∈ enc x,v.oneCell'=true)->∀ (blk off cap:Nat) (d:Array κ) (w:World),CmpLays P g #[] enc k cf blk off d.size w->HoldsK enc k w blk off d->blk < w.heap.size->d.size < 4611686018427387904 ->
   Calls P f #[.slice (some ⟨blk,off,none⟩) d.size cap,.func (.func g) #[] #[]] w fun e w'=>e=.returned (.tuple #[])/\∃ n os,w'=sortWorldK enc k w blk off n (d.toList.mergeSort (leC cf)).toArray os)
  (hnone:∀ (p:Option Addr) (cap:Nat) (fv:Value) (w:World),Calls P f #[.slice p 0 cap,fv] w fun e w'=>e=.returned (.tuple #[])/\w'=w)
  {args:List AVal} {σ σ':Za} {r:AVal} (hp:Zg0 k g key cf args σ=some (r,σ')) :
  (∃ fn,P.funcs[f]?=some fn/\fn.body.isSome=true/\(fn.name == "runtime.NumGoroutine")=false) /\
  ∀ base w0 I0 I β w (vs:Array Value),KLt base w0->Rel base w0 I0 I β σ w->VRs I β args vs.toList ->
   Calls P f vs w (fun e w'=>∃ u,Ends r e u/\Zcg σ.length base w0 I0 I β r σ' u w'):=by
 refine ⟨hf,fun base w0 I0 I β w vs hb R hv=>?_⟩
 unfold Zg0 at hp
 obtain ⟨vs⟩:=vs
 split at hp
 ·rename_i n f' k' xs
  split at hp
  case h_2=>cases hp
  rename_i ks hz
  split at hp
  case isFalse=>cases hp
  rename_i hn
  obtain ⟨rfl,hn,rfl,rfl,hnd⟩:=hn
  simp only [Xa,Xb] at hp
  obtain ⟨rfl,rfl⟩:=hp
  simp only [VRs] at hv
  obtain ⟨v,vs',rfl,hv,fv,vs'',rfl,hfv,rfl⟩:=hv
  have hfv':fv=.func (.func f') #[] #[]:=by
   simp only [VR,if_pos hg0,VRs] at hfv
   obtain ⟨fs,us,rfl,rfl,h⟩:=hfv
   have : us=#[]:=by
    have:=congrArg List.length h
    simp at this
    exact this
   rw [this]
  subst hfv'
  have hzl:=Zqx hz
  have hB:=R.blk 0 _ rfl
  obtain ⟨bi,e1,e2,e3,e4,e5,e6,e7,e8⟩:=hB
  rw [Zb8] at hv
  obtain ⟨bi',f1,f2,f3,f4⟩:=hv
  rw [e1] at f1
  injection f1 with f1
  subst f1
  rcases f4 with ⟨b,hb',rfl⟩ | ⟨hbn,hc0,A,rfl⟩
  ·rcases e8 with ⟨e8,_⟩ | ⟨b2,us,ty,q1,q2,q3,q4⟩
   ·rw [e8] at hb';cases hb'
   rw [hb'] at q1;injection q1 with q1;subst q1
   obtain ⟨VS,v1,v2,v3,v4⟩:=Zpb e7 q4
   let enc:κ->List Value:=fun a=>((ks.zip VS).lookup a).getD (pre a++Xx (k' - m) (.int .i64 0))
   have hmem:∀ a l,(ks.zip VS).lookup a=some l->l ∈ VS/\∃ (i:Nat) (x:AVal),xs[i]?=some x/\ks[i]?=some a/\VS[i]?=some l:=by
    have key:∀ (ks:List κ) (VS:List (List Value)) a l,(ks.zip VS).lookup a=some l->∃ i:Nat,ks[i]?=some a/\VS[i]?=some l:=by
     intro ks
     induction ks with
     | nil=>intro VS a l h;simp at h
     | cons b ks ih =>
      intro VS a l h
      cases VS with
      | nil=>simp at h
      | cons y VS =>
       rw [XU,X1] at h
       by_cases e:a=b
       ·subst e;simp only [beq_self_eq_true,Xa] at h;subst h;exact ⟨0,rfl,rfl⟩
       ·have : (a == b)=false:=by simpa using e
        rw [this] at h
        obtain ⟨i,h1,h2⟩:=ih VS a l h
        exact ⟨i+1,by simpa using h1,by simpa using h2⟩
    intro a l h
    obtain ⟨i,h1,h2⟩:=key ks VS a l h
    have hi:i < xs.length:=by have:=(Xn.1 h2).1;omega
    exact ⟨Xt h2,i,xs[i],Xz hi,h1,h2⟩
   have henc:∀ a,(∃ (i:Nat) (x:AVal),xs[i]?=some x/\ks[i]?=some a/\VS[i]?=some (enc a)/\(ks.zip VS).lookup a=some (enc a))\/enc a=pre a++Xx (k' - m) (.int .i64 0):=by
    intro a
    cases h:(ks.zip VS).lookup a with
    | none=>exact Xy (by simp only [enc,h];rfl)
    | some l =>
     obtain ⟨_,i,x,h1,h2,h3⟩:=hmem a l h
     refine Xs ⟨i,x,h1,h2,?_,?_⟩ <;> simp only [enc,h,WI] <;> assumption
   have hpr:∀ a,∃ t,enc a=pre a++t:=by
    intro a
    rcases henc a with ⟨i,x,h1,h2,h3,_⟩ | h
    ·obtain ⟨a',k1,k2⟩:=ZnW hz h1
     rw [h2] at k1;injection k1 with k1;subst k1
     obtain ⟨l,l1,l2⟩:=v4 i x h1
     rw [h3] at l1;injection l1 with l1;subst l1
     exact hkey x _ _ k2 l2
    ·exact ⟨_,h⟩
   have hk:∀ a,(enc a).length=k':=by
    intro a
    rcases henc a with ⟨i,x,h1,h2,h3,_⟩ | h
    ·exact v3 _ (Xt h3)
    ·rw [h,XI,(hpre a).1,List.length_replicate];omega
   have h1c:∀ a,∀ v ∈ enc a,v.oneCell'=true:=by
    intro a v hv
    rcases henc a with ⟨i,x,h1,h2,h3,_⟩ | h
    ·obtain ⟨l,l1,l2⟩:=v4 i x h1
     rw [h3] at l1;injection l1 with l1;subst l1
     refine Zg9 (fun c hc=>?_) l2 v hv
     have:=(ZbW.1 e6) x (Xt h1)
     exact ZiQ ((ZcO.1 this) c hc)
    ·rw [h] at hv
     rcases List.mem_append.1 hv with hv | hv
     ·exact (hpre a).2 v hv
     ·rw [List.mem_replicate] at hv;rw [hv.2];rfl
   have hall:ks.map enc=VS:=by
    apply Wb
    intro i
    rw [XW]
    by_cases hi:i < xs.length
    ·obtain ⟨a,ha⟩:∃ a,ks[i]?=some a:=⟨_,Xz (by omega)⟩
     obtain ⟨l,hl⟩:∃ l,VS[i]?=some l:=⟨_,Xz (by omega)⟩
     rw [ha,hl,XS]
     congr 1
     simp only [enc,ZhB hnd ha hl,WI]
    ·rw [XQ (by omega),XQ (by omega)];rfl
   have hflat:(flatK enc k' ks.toArray).toList=us.toList.take (xs.length*k'):=by
    rw [Zqq hk hk0,List.flatMap_def,hall,<-v1]
   have hH:HoldsK enc k' w b 0 ks.toArray:=by
    intro j hj
    refine ⟨?_,by simp [World.frozen?,q2]⟩
    have hj':j < ks.length*k':=by simpa using hj
    rw [hzl] at hj'
    have h1:(us.toList.take (xs.length*k'))[j]?=(flatK enc k' ks.toArray).toList[j]?:=by rw [hflat]
    rw [List.getElem?_take_of_lt hj'] at h1
    simp only [World.cell?,q2,XD]
    simp only [Xaw,Xm,if_false]
    rw [<-WS,h1,WS,Xah hj]
    have e:=getElem!_pos (flatK enc k' ks.toArray) j hj
    rw [e];rfl
   have hlt:b < w.heap.size:=(Array.getElem?_eq_some_iff.1 q2).1
   have hcl:CmpLays P f' #[] enc k' cf b 0 ks.toArray.size w:=by
    intro q os dk _ x y
    obtain ⟨t1,ht1⟩:=hpr x
    obtain ⟨t2,ht2⟩:=hpr y
    have l1:=hk x
    have l2:=hk y
    rw [ht1,XI,(hpre x).1] at l1
    rw [ht2,XI,(hpre y).1] at l2
    rw [ht1,ht2]
    simpa using hcmp x y t1 t2 _ l1 l2
   have hS:=hsort enc hk h1c b 0 bi.cap ks.toArray w hcl hH hlt (by simp;omega)
   rw [show ks.toArray.size=xs.length by simp [hzl]] at hS
   refine hS.mono ?_
   rintro e w' ⟨rfl,nn,os,rfl⟩
   simp only [List.toList_toArray] at *
   have hml:(ks.mergeSort (leC cf)).length=ks.length:=List.length_mergeSort ks
   unfold sortWorldK putRowK
   have hsz:(flatK enc k' (ks.mergeSort (leC cf)).toArray).size=xs.length*k':=by rw [size_flatK];simp [hml,hzl]
   have hcap:xs.length*k'<=us.size:=by rw [q3];exact Nat.mul_le_mul_right k' e5
   generalize hfl:flatK enc k' (ks.mergeSort (leC cf)).toArray=FL at *
   have hfll:FL.toList=(ks.mergeSort (leC cf)).flatMap enc:=by rw [<-hfl,Zqq hk hk0]
   have hheap:(grow (putRow id (Sort.ahead w nn) b 0 FL) os).heap[b]?=some (.cells (putCells id 0 FL us) ty (0,0)):=by
    rw [heap_grow_old _ _ (by simpa using hlt)]
    simp [putRow,mapBlock,Sort.ahead,Xaf,q2,onCells]
   have htake:(putCells id 0 FL us).toList.take (xs.length*k')=(ks.mergeSort (leC cf)).flatMap enc:=by
    rw [<-hfll]
    apply Wb
    intro j
    by_cases hj:j < xs.length*k'
    ·rw [List.getElem?_take_of_lt hj,WS,WS]
     have hj2:j < us.size:=by omega
     have hj3:j < FL.size:=by omega
     simp [putCells,hj2,hj3]
    ·rw [List.getElem?_take_eq_none (by omega),XQ (by simp;omega)]
   have hperm:∀ a,a ∈ ks.mergeSort (leC cf)->a ∈ ks:=fun a ha=>(List.mergeSort_perm ks _).mem_iff.1 ha
   have hown:ZO w β 0 (.row 0 k' xs) b:=by simp [ZO,e1,hb']
   have hlk:∀ a ∈ ks,∃ x ∈ xs,((ks.zip xs).lookup a).getD .nilp=x/\VRs I β x.cells (enc a):=by
    intro a ha
    obtain ⟨i,hi⟩:=WR.1 ha
    have hix:i < xs.length:=by have:=(Xn.1 hi).1;omega
    obtain ⟨x,hx⟩:∃ x,xs[i]?=some x:=⟨_,Xz hix⟩
    obtain ⟨l,l1,l2⟩:=v4 i x hx
    refine ⟨x,Xt hx,by rw [ZhB hnd hi hx];rfl,?_⟩
    simp only [enc,ZhB hnd hi l1,WI]
    exact l2
   refine ⟨.tuple #[],rfl,I,β,Imm.le.refl I,KeptE.refl _ β,?_,by simp [Zav,VR,VRs]⟩
   have:=R.putAt (R.base_le hb) (t:=0) (b:=b) (x:=.row 0 k' xs) (x':=.row 0 k' (Zen cf xs ks)) (w':=grow (putRow id (Sort.ahead w nn) b 0 FL) os) rfl hown (by simp [ZO,e1,hb']) rfl rfl rfl rfl (by simp) (fun c hc hcl=>by
    rw [heap_grow_old _ _ (by simpa using hcl)]
    have : b≠c:=fun e=>hc e.symm
    simp [putRow,mapBlock,Sort.ahead,Xaf,this])
    ⟨bi,e1,e2,hk0,e4,by simp only [Zen,ZgT,X9,hml];omega,?_,?_,Xy ⟨b,_,ty,hb',hheap,by simp [putCells];omega,?_⟩⟩
   ·exact this
   ·rw [ZbW]
    intro x hx
    obtain ⟨a,ha,rfl⟩:=XL.1 hx
    rw [ZgT] at ha
    obtain ⟨y,hy,e,_⟩:=hlk a (hperm a ha)
    rw [e]
    exact (ZbW.1 e6) y hy
   ·intro x hx
    obtain ⟨a,ha,rfl⟩:=XL.1 hx
    rw [ZgT] at ha
    obtain ⟨y,hy,e,_⟩:=hlk a (hperm a ha)
    rw [e]
    exact e7 y hy
   ·have e9:(Zen cf xs ks).length=xs.length:=by simp only [Zen,ZgT,X9,hml];omega
    rw [e9,htake]
    unfold Zen
    rw [ZgT]
    have key:∀ l:List κ,(∀ a ∈ l,a ∈ ks)->VRs I β ((l.map fun a=>((ks.zip xs).lookup a).getD .nilp).flatMap AVal.cells) (l.flatMap enc):=by
     intro l
     induction l with
     | nil=>intro _;simp [VRs]
     | cons a l ih =>
      intro hl
      rw [XJ,XM,XM]
      obtain ⟨y,hy,e,h⟩:=hlk a (hl a (by simp))
      rw [e]
      exact ZbE h (ih fun c hc=>hl c (by simp [hc]))
    exact key _ hperm
  ·have hx0:xs=[]:=List.eq_nil_of_length_eq_zero (by omega)
   subst hx0
   simp only [Zd0,Xa] at hz
   subst hz
   refine (hnone A 0 _ w).mono ?_
   rintro e w' ⟨rfl,rfl⟩
   exact ⟨.tuple #[],rfl,I,β,Imm.le.refl I,KeptE.refl _ β,by simpa [Zen,Zht] using R,by simp [Zav,VR,VRs]⟩
 ·simp only [Xa,Xb] at hp
  obtain ⟨rfl,rfl⟩:=hp
  simp only [VRs] at hv
  obtain ⟨v,vs',rfl,hv,fv,vs'',rfl,hfv,rfl⟩:=hv
  simp only [VR] at hv
  obtain ⟨A,cap,rfl,_⟩:=hv
  refine (hnone A cap fv w).mono ?_
  rintro e w' ⟨rfl,rfl⟩
  exact ⟨.tuple #[],rfl,I,β,Imm.le.refl I,KeptE.refl _ β,R,by simp [Zav,VR,VRs]⟩
 ·cases hp
end
end
section
open Go.RowKit Go.Sort Go.Lib
def Zcq (a b:List UInt8):Int:=if a < b then -1 else if b < a then 1 else 0
def Zbd (x y:List UInt8×List UInt8):Int:=if Zcq x.1 y.1≠0 then Zcq x.1 y.1 else Zcq x.2 y.2
def lt2 (x y:List UInt8×List UInt8):Prop:=x.1 < y.1\/x.1=y.1/\x.2 < y.2
theorem ZoO (a b:List UInt8):Zcq a b < 0↔a < b:=by
 unfold Zcq;split
 ·simp [*]
 ·split <;> simp [*]
theorem ZoW (a b:List UInt8):Zcq a b=0↔a=b:=by
 unfold Zcq
 constructor
 ·intro h
  split at h
  ·cases h
  ·rename_i h1
   split at h
   ·cases h
   ·rename_i h2
    exact Xa2 (XaM.1 h2) (XaM.1 h1)
 ·rintro rfl
  simp [Xbc]
theorem Zgh (x y:List UInt8×List UInt8):Zbd x y < 0↔lt2 x y:=by
 unfold Zbd lt2
 by_cases h:Zcq x.1 y.1=0
 ·have e:=(ZoW _ _).1 h
  rw [if_neg (by simp [h]),ZoO]
  constructor
  ·exact fun h'=>Xy ⟨e,h'⟩
  ·rintro (h' | ⟨_,h'⟩)
   ·rw [e] at h';exact absurd h' (Xbc _)
   ·exact h'
 ·rw [if_pos h,ZoO]
  constructor
  ·exact Xs
  ·rintro (h' | ⟨e,_⟩)
   ·exact h'
   ·exact absurd ((ZoW _ _).2 e) h
theorem ZfC {x y z:List UInt8×List UInt8} (h:lt2 x y) (h':lt2 y z):lt2 x z:=by
 unfold lt2 at *
 rcases h with h | ⟨e,h⟩ <;> rcases h' with h' | ⟨e',h'⟩
 ·exact Xs (List.lt_trans h h')
 ·exact Xs (e' ▸ h)
 ·exact Xs (e ▸ h')
 ·exact Xy ⟨e.trans e',List.lt_trans h h'⟩
theorem Ze3 (x:List UInt8×List UInt8):¬lt2 x x:=by
 rintro (h | ⟨_,h⟩) <;> exact Xbc _ h
theorem ZfF {x y:List UInt8×List UInt8} (h:¬lt2 x y) (h':¬lt2 y x):x=y:=by
 unfold lt2 at *
 have e1:x.1=y.1:=Xa2 (XaM.1 fun h2=>h' (Xs h2)) (XaM.1 fun h2=>h (Xs h2))
 have e2:x.2=y.2:=Xa2 (XaM.1 fun h2=>h' (Xy ⟨e1.symm,h2⟩)) (XaM.1 fun h2=>h (Xy ⟨e1,h2⟩))
 exact Prod.ext e1 e2
instance:DecidableRel lt2:=fun x y=>by unfold lt2;infer_instance
theorem Zj6 (x y:List UInt8×List UInt8):ltOf Zbd x y=decide (lt2 x y):=by
 unfold ltOf
 by_cases h:lt2 x y
 ·rw [decide_eq_true ((Zgh x y).2 h),decide_eq_true h]
 ·rw [decide_eq_false (fun h'=>h ((Zgh x y).1 h')),decide_eq_false h]
theorem ZCg:SWO (ltOf Zbd) where
 irrefl x:=by rw [Zj6];simpa using Ze3 x
 trans x y z h1 h2:=by
  rw [Zj6] at *
  simp only [decide_eq_true_eq] at *
  exact ZfC h1 h2
 ntrans x y z h1 h2:=by
  rw [Zj6] at *
  simp only [decide_eq_false_iff_not] at *
  intro h
  by_cases e:lt2 y x
  ·exact h2 (by
    by_cases e2:lt2 z y
    ·exact absurd (ZfC (ZfC h e2) e) (Ze3 _)
    ·by_cases e3:lt2 y z
     ·exact e3
     ·have:=ZfF e2 e3;subst this;exact absurd (ZfC h e) (Ze3 _))
  ·have:=ZfF h1 e;subst this;exact h2 h
theorem ZDe (x y:List UInt8×List UInt8) (h1:ltOf Zbd x y=false) (h2:ltOf Zbd y x=false):x=y:=by
 rw [Zj6] at *
 simp only [decide_eq_false_iff_not] at *
 exact ZfF h1 h2
def ZfT:AVal->Option (List UInt8×List UInt8)
 | .agg (.str a::.str b::_)=>some (a,b)
 | _=>none
end
section
def ZdW {α:Type} (d:α):List (Nat×α)->Nat->α
 | [],_=>d
 | (k,v)::r,n=>if k=n then v else ZdW d r n
def Z3 (own raw:List Nat) (cfg cfg2:List (Nat×Nat×Bool)) (lr ll:List (Nat×List Nat)):Ann:={ own:=fun n=>if own.contains n then 1 else if raw.contains n then 2 else if raw.contains (n+1000000) then 3 else if raw.contains (n+2000000) then 4 else if raw.contains (n+3000000) then 5 else if raw.contains (n+4000000) then 6 else 0,cfg:=ZdW (0,true) cfg,cfg2:=ZdW (0,true) cfg2,lr:=ZdW [] lr,ll:=ZdW [] ll }
def ZwN:List (Nat×Ann):=[
 (63,Z3 [] [] [] [] [(0,[1,0]),(1,[4])] []),
 (20,Z3 [] [] [] [] [(0,[1,0]),(1,[6,1,0]),(2,[6]),(3,[4])] []),
 (21,Z3 [] [] [] [] [(0,[1,0]),(1,[7,6]),(2,[5,4])] []),
 (24,Z3 [] [] [] [] [(0,[0]),(1,[2])] []),
 (15,Z3 [] [] [(36,0,false)] [] [(0,[1,0]),(1,[5,1,0]),(5,[20,11,7,6,5,1]),(6,[11,5,1]),(7,[4])] [(3,[11,5,1])]),
 (14,Z3 [] [] [] [] [(0,[2,1,0]),(1,[9,2,1,0]),(2,[6]),(3,[]),(4,[6])] []),
 (10,Z3 [] [] [] [] [(0,[2,1,0]),(1,[7,0]),(2,[16,7,0]),(3,[7]),(4,[6])] []),
 (26,Z3 [] [] [] [] [(0,[2,1,0]),(1,[8,2,1,0]),(2,[9,8,2]),(3,[20,9,8,2]),(4,[7,6]),(5,[11,10]),(6,[7,6])] []),
 (12,Z3 [] [] [] [] [(0,[0]),(1,[2])] []),
 (11,Z3 [] [] [(34,1,true),(36,0,false)] [] [(0,[1,0]),(1,[8,1,0]),(2,[4]),(3,[5,1,0]),(4,[5]),(5,[4])] []),
 (35,Z3 [] [] [] [] [(0,[])] []),
 (9,Z3 [] [] [(30,6,true)] [] [(0,[3,2,1,0]),(1,[11,3,2,1,0]),(2,[8]),(3,[21,0]),(4,[]),(5,[8])] []),
 (27,Z3 [] [] [(43,1,true),(36,0,false)] [] [(0,[3,0]),(1,[5,3,0]),(2,[5]),(3,[4])] []),
 (44,Z3 [] [] [] [] [(0,[10,4,2,1,0]),(1,[])] []),
 (43,Z3 [] [] [(43,1,true)] [] [(3,[13,2,1,0]),(7,[28,2,1])] [(1,[13,2,1,0]),(5,[28,2,1])]),
 (32,Z3 [] [] [] [] [(0,[2,1,0]),(1,[12,2,1,0]),(2,[8,2,0]),(3,[8]),(4,[6]),(5,[9,2,1,0]),(6,[45,9,1,0]),(7,[6]),(8,[57,1,0]),(9,[]),(10,[6])] []),
 (42,Z3 [] [] [] [] [(0,[1,0]),(1,[9,8,7,0]),(2,[10,9,8,7,0]),(3,[9,8,7,6,0]),(4,[9,8,7,0]),(5,[20,9,8,7,0]),(6,[4]),(7,[9,8,7,0]),(8,[4])] [(2,[9,8,7,0])]),
 (34,Z3 [] [] [(34,1,true)] [] [(0,[10,4,3,2,1,0]),(1,[27,10,4,3,2,1,0]),(5,[31,4,3,2,1,0]),(6,[46,4,3,2,1,0]),(10,[50,4,1]),(11,[15,4,3,2,1,0]),(12,[71,15,4,3,2,1,0]),(13,[4,3,2,1,0]),(14,[16,4,3,2,1]),(15,[92,16,4,2,1]),(16,[])] [(3,[31,4,3,2,1,0]),(8,[50,4,1])]),
 (30,Z3 [] [] [(28,3,false)] [] [(0,[3,2,1,0]),(1,[15,14,13,3,2,0]),(2,[16,15,14,13,3,2,0]),(3,[15,14,13,10,3,2,0]),(4,[25,15,14,13,10,3,2,0]),(5,[15,14,13,10,3,2,0]),(6,[15,14,13,3,2,0]),(7,[15,14,13,3,2,0]),(8,[12,3,2,0]),(9,[12]),(10,[8])] [(2,[15,14,13,3,2,0])]),
 (51,Z3 [] [] [] [] [(0,[1,0]),(1,[5,1,0]),(2,[6,5,1,0]),(3,[11,6,1,0]),(4,[12]),(5,[4]),(6,[4]),(7,[13,1,0]),(8,[4]),(9,[16,1,0]),(10,[4]),(11,[19]),(12,[4]),(13,[4])] []),
 (58,Z3 [] [] [] [] [(0,[0]),(1,[2])] []),
 (86,Z3 [] [] [] [] [(0,[1,0]),(1,[5,1,0]),(2,[16,5,1,0]),(3,[4]),(4,[24,5,1,0]),(5,[4]),(6,[31]),(7,[4]),(9,[4]),(10,[6,5,1,0]),(11,[7,6,5,1,0]),(12,[8,7,6,5,1,0]),(13,[9,8,7,6,5,1,0]),(14,[10,9,8,7,6,5,1,0]),(15,[59,10,9,8,7,6,5,1,0]),(16,[64,10,9,8,7,6,5,1,0]),(17,[11,10,8,7,5,1,0]),(18,[73,11,10,8,7,5,1,0]),(19,[4]),(20,[10,8,7,5,1,0]),(21,[93,10,8]),(22,[4]),(23,[10]),(24,[]),(26,[12,8]),(27,[114,12,8]),(28,[4]),(29,[4]),(31,[13,8]),(32,[139,13,8]),(33,[4]),(34,[4]),(35,[4])] [(15,[10,9,8,7,6,5,1,0])]),
 (57,Z3 [] [] [] [] [(0,[0]),(1,[2]),(2,[2])] []),
 (76,Z3 [] [] [] [] [(0,[2,0]),(1,[4,2,0]),(2,[0]),(3,[2,0]),(4,[8,2,0]),(5,[2,0]),(6,[2,0]),(7,[2])] []),
 (77,Z3 [] [] [] [] [(0,[2,0]),(1,[4,2,0]),(2,[0]),(3,[2,0]),(4,[8,2,0]),(5,[2,0]),(6,[2,0]),(7,[14,2,0]),(8,[2,0]),(9,[2,0]),(10,[2])] []),
 (54,Z3 [] [] [] [] [(0,[0]),(1,[6,0]),(2,[8,7,6,0]),(3,[6,4,0]),(4,[11,6,0]),(5,[2]),(6,[2])] [(2,[6,0])]),
 (45,Z3 [] [] [] [] [(0,[1,0]),(1,[4])] []),
 (67,Z3 [] [] [] [] [(0,[1,0]),(1,[4])] []),
 (53,Z3 [] [] [] [] [(0,[1,0]),(1,[12,1,0]),(2,[4]),(3,[15,1,0]),(4,[5,0]),(5,[20,5,0]),(6,[5,0]),(7,[4]),(8,[26,1,0]),(9,[7,6,1,0]),(10,[32,6,1,0]),(11,[8,6,0]),(12,[36,8,6,0]),(13,[8,6,0]),(14,[42,8,6,0]),(15,[4]),(16,[4]),(17,[45,1]),(18,[47,46,45,1]),(19,[45,10,9,1]),(20,[53,45,9,1]),(21,[4]),(22,[4])] [(12,[8,6,0]),(18,[45,1])]),
 (60,Z3 [] [] [] [] [(0,[1,0]),(1,[7,0]),(2,[8,7,0]),(3,[9,8,7,0]),(4,[9,8,7,0]),(5,[26,9,8,7,0]),(6,[33,9,8,7,0]),(7,[11,9,8,7,0]),(8,[43,11,9,8,7,0]),(9,[4]),(10,[9,8,7,0]),(11,[12,9,8,7,0]),(12,[51,12,9,8,7,0]),(13,[12,9,8,7,0]),(14,[64,12,9,8,7,0]),(15,[4]),(16,[10,9,8,7,0]),(17,[10,9,8,7,0]),(18,[98,9,8,7,0]),(19,[4]),(20,[13,9,8]),(21,[108,13,9,8]),(22,[4]),(23,[14,9,8,7,0]),(24,[15,14,9,8,7,0]),(25,[124,15,14,9,8,7,0]),(26,[15,14,9,8,7,0]),(27,[139,15,14,9,8,7,0]),(28,[16,15,14,9,8,7,0]),(29,[143,16,15,14,9,8,7,0]),(30,[16,15,14,9,8,7,0]),(31,[156,16,15,14,9,8,7,0]),(32,[4]),(33,[4]),(34,[160,1,0]),(35,[4]),(36,[171,1,0]),(37,[175]),(38,[177,176,175]),(39,[175,6,5]),(40,[181,175,5]),(41,[4]),(42,[4]),(43,[183,1,0]),(44,[4])] [(5,[9,8,7,0]),(12,[12,9,8,7,0]),(25,[15,14,9,8,7,0]),(29,[16,15,14,9,8,7,0]),(38,[175])]),
 (47,Z3 [] [] [] [] [(0,[1,0]),(1,[4])] []),
 (55,Z3 [] [] [] [] [(0,[3,2,1,0]),(1,[13,3,2,1,0]),(2,[8]),(3,[15,3,2,1,0]),(4,[8]),(5,[20,3,2,1,0]),(6,[3,2,1,0]),(7,[3,2,1,0]),(8,[9,3,2,1,0]),(9,[9,3,2,1,0]),(10,[10,9,3,2,1,0]),(11,[36,10,9,3,2,1,0]),(12,[11,10,9,3,2,1,0]),(13,[41,11,10,9,3,2,1,0]),(14,[11,10,9,3,2,1,0]),(15,[10,9,3,2,1,0]),(16,[10,9,3,2,1,0]),(17,[10,9]),(18,[8])] [(11,[10,9,3,2,1,0])]),
 (62,Z3 [] [] [] [] [(0,[2,0]),(1,[4,2,0]),(2,[9,4,2,0]),(3,[4,2,0]),(4,[5,4,2,0]),(5,[16,5,4,2,0]),(6,[3,2]),(7,[4,2,0]),(8,[3,2])] [(2,[4,2,0])]),
 (61,Z3 [] [] [] [] [(0,[0]),(1,[2])] []),
 (5,Z3 [] [] [(13,2,false)] [] [(0,[0]),(1,[3,0]),(2,[23,3,0]),(3,[2]),(4,[4,3,0]),(5,[5,4,3,0]),(6,[31,5,4,3,0]),(7,[5,4,3,0]),(8,[6,5,4,3,0]),(9,[40,6,5,4,3,0]),(10,[15,6,5,4,3,0]),(11,[16,15,6,5,4,3,0]),(12,[47,16,15,6,5,4,3,0]),(13,[16,15,6,5,4,3,0]),(14,[16,15,6,5,4,3,0]),(15,[68,5,4,3,0]),(16,[2]),(17,[69,40,6,5,4,3,0]),(18,[7,6,5,4,3,0]),(19,[74,7,6,5,4,3,0]),(20,[7,6,5,4,3,0]),(21,[7,6,5,4,3,0]),(22,[90,5,4,3,0]),(23,[2]),(24,[91,40,6,5,4,3,0]),(25,[9,8,6,5,3,0]),(26,[9,6,5,4,3,0]),(27,[106,5,4,3,0]),(28,[2]),(29,[107,6,5,4,3,0]),(30,[11,10,6,5,4,3,0]),(31,[13,12,11,10,6,5,4,3,0]),(32,[14,13,12,11,10,6,5,4,3,0]),(33,[119,14,13,12,11,10,6,5,4,3,0]),(34,[14,13,12,11,10,6,5,4,3,0]),(35,[129,14,13,12,11,10,6,5,4,3,0]),(36,[14,13,12,11,10,6,5,4,3,0]),(37,[142,5,4,3,0]),(38,[2]),(39,[147,5,4,3,0]),(40,[2]),(41,[2])] [(6,[5,4,3,0]),(12,[16,15,6,5,4,3,0]),(33,[14,13,12,11,10,6,5,4,3,0])]),
 (4,Z3 [] [] [(9,6,true),(13,2,false),(7,4,false)] [] [(0,[1,0]),(1,[6,5,1,0]),(2,[27,6,5,1,0]),(3,[4]),(4,[30,6,5,1,0]),(5,[6,5,1,0]),(6,[35,6,5,1,0]),(7,[6,5,1,0]),(8,[7,6,5,1,0]),(9,[41,7,6,5,1,0]),(10,[7,6,5,1,0]),(11,[7,6,5,1,0]),(12,[8,6,5,1,0]),(13,[54,8,6,5,1,0]),(14,[8,6,5,1,0]),(15,[8,6,5,1,0]),(16,[9,6,5,1,0]),(17,[67,9,6,5,1,0]),(18,[9,6,5,1,0]),(19,[10,9,6,5,1,0]),(20,[73,10,9,6,5,1,0]),(21,[10,9,6,5,1,0]),(22,[12,11,10,9,6,5,1,0]),(23,[13,12,11,10,9,6,5,1,0]),(24,[14,13,12,11,10,9,6,5,1,0]),(25,[85,14,13,12,11,10,9,6,5,1,0]),(26,[14,13,12,11,10,9,6,5,1,0]),(27,[14,13,12,11,10,9,6,5,1,0]),(28,[13,12,11,10,9,6,5,1,0]),(29,[15,13,12,11,10,9,6,5,1,0]),(30,[110,15,13,12,11,10,9,6,5,1,0]),(31,[15,13,12,11,10,9,6,5,1,0]),(32,[15,13,12,11,10,9,6,5,1,0]),(33,[128,10,9,6,5,1,0]),(34,[4]),(35,[4])] [(9,[7,6,5,1,0]),(13,[8,6,5,1,0]),(17,[9,6,5,1,0]),(20,[10,9,6,5,1,0]),(25,[14,13,12,11,10,9,6,5,1,0]),(30,[15,13,12,11,10,9,6,5,1,0])]),
 (3,Z3 [] [] [(9,6,true),(7,4,false)] [] [(0,[2,1,0]),(1,[8,7,2,1,0]),(2,[27,8,7,2,1,0]),(3,[6]),(4,[30,8,7,2,1,0]),(5,[8,7,2,1,0]),(6,[35,8,7,2,1,0]),(7,[8,7,2,1,0]),(8,[9,8,7,2,1,0]),(9,[41,9,8,7,2,1,0]),(10,[9,8,7,2,1,0]),(11,[9,8,7,2,1,0]),(12,[10,8,7,2,1,0]),(13,[65,10,8,7,2,1,0]),(14,[10,8,7,2,1,0]),(15,[10,8,7,2,1,0]),(16,[11,8,7,2,1,0]),(17,[79,11,8,7,2,1,0]),(18,[11,8,7,2,1,0]),(19,[11,8,7,2,1,0]),(20,[12,8,7,2,1]),(21,[103,12,8,7,2,1]),(22,[12,8,7,2,1]),(23,[12,8,7,2,1]),(24,[12,8,7,2,1]),(25,[14,13,8,7]),(26,[137,14,13]),(27,[6]),(28,[15,14,13]),(29,[141,15,14,13]),(30,[15,14,13]),(31,[152,15,14,13]),(32,[6]),(33,[6])] [(9,[9,8,7,2,1,0]),(13,[10,8,7,2,1,0]),(17,[11,8,7,2,1,0]),(21,[12,8,7,2,1]),(29,[15,14,13])]),
 (6,Z3 [] [] [(9,6,true),(7,4,false)] [] [(0,[0]),(1,[3,0]),(2,[25,3,0]),(3,[2]),(4,[4,3,0]),(5,[5,4,3,0]),(6,[33,5,4,3,0]),(7,[5,4,3,0]),(8,[6,5,4,3,0]),(9,[42,6,5,4,3,0]),(10,[17,6,5,4,3,0]),(11,[18,17,6,5,4,3,0]),(12,[49,18,17,6,5,4,3,0]),(13,[18,17,6,5,4,3,0]),(14,[18,17,6,5,4,3,0]),(15,[70,5,4,3,0]),(16,[2]),(17,[71,42,6,5,4,3,0]),(18,[7,6,5,4,3,0]),(19,[76,7,6,5,4,3,0]),(20,[7,6,5,4,3,0]),(21,[7,6,5,4,3,0]),(22,[96,5,4,3,0]),(23,[2]),(24,[97,42,6,5,4,3,0]),(25,[9,8,6,5,3,0]),(26,[9,6,5,4,3,0]),(27,[116,5,4,3,0]),(28,[2]),(29,[117,42,6,5,4,3,0]),(30,[11,10,6,5,4,3,0]),(31,[13,12,11,10,6,5,4,3,0]),(32,[14,13,12,11,10,6,5,4,3,0]),(33,[131,14,13,12,11,10,6,5,4,3,0]),(34,[14,13,12,11,10,6,5,4,3,0]),(35,[151,14,13,12,11,10,6,5,4,3,0]),(36,[14,13,12,11,10,6,5,4,3,0]),(37,[164,5,4,3,0]),(38,[2]),(39,[165,6,5,4,3,0]),(40,[15,6,5,4,3,0]),(41,[16,15,6,5,4,3,0]),(42,[173,16,15,6,5,4,3,0]),(43,[16,15,6,5,4,3,0]),(44,[16,15,6,5,4,3,0]),(45,[194,5,4,3,0]),(46,[2]),(47,[199,5,4,3,0]),(48,[2]),(49,[2])] [(6,[5,4,3,0]),(12,[18,17,6,5,4,3,0]),(33,[14,13,12,11,10,6,5,4,3,0]),(42,[16,15,6,5,4,3,0])]),
 (23,Z3 [] [] [] [] [(0,[2,1,0]),(1,[7,2,1,0]),(2,[8,7,2,1,0]),(3,[12,8,7,2,1,0]),(4,[8,7,2,1,0]),(5,[19,8,7,2,1,0]),(6,[46,8,7,2,1,0]),(7,[6]),(8,[8,7,2,1,0]),(9,[6])] [(3,[8,7,2,1,0])]),
 (40,Z3 [] [] [] [] [(0,[3,2]),(1,[4])] []),
 (18,Z3 [] [] [] [] [(0,[0]),(1,[2])] []),
 (17,Z3 [] [] [] [] [(0,[3,0]),(1,[5,3,0]),(2,[18,5,3,0]),(3,[5,3,0]),(4,[6,5,3,0]),(5,[6,5,3,0]),(6,[52,6,5,0]),(7,[6,5,0]),(8,[4])] [(2,[5,3,0])]),
 (8,Z3 [] [] [(9,6,true),(7,4,false)] [] [(0,[]),(1,[1]),(2,[7,1]),(3,[0]),(4,[2,1]),(5,[3,2,1]),(6,[4,3,2]),(7,[0])] []),
 (19,Z3 [] [] [] [] [(0,[2,1,0]),(1,[8,2,1,0]),(2,[13,8,2,1,0]),(3,[8,2,1,0]),(4,[31,8,2,1,0]),(5,[9,8,0]),(6,[7,6]),(7,[7,6])] [(2,[8,2,1,0])]),
 (52,Z3 [] [] [] [] [(0,[0]),(1,[6,0]),(2,[4,3,0]),(3,[17,4,0]),(4,[2]),(5,[0]),(6,[2])] [(1,[0])]),
 (59,Z3 [] [] [] [] [(0,[0]),(1,[4,0]),(2,[4,0]),(3,[3,2]),(4,[11,4,0]),(5,[3,2]),(6,[15,4,0]),(7,[6,5,4,0]),(8,[24,4,0]),(9,[6,5,4,0]),(10,[33,4,0]),(11,[6,5,4,0]),(12,[45,6,5,4,0]),(13,[3,2]),(14,[7,6,5,4,0]),(15,[48,7,6,5,4,0]),(16,[7,6,5,4,0]),(17,[60,7,6,5,4,0]),(18,[3,2]),(19,[7,6,5,4,0]),(20,[83,5,4]),(21,[3,2]),(22,[3,2])] [(15,[7,6,5,4,0])]),
 (25,Z3 [] [] [] [] [(0,[0]),(1,[7,0]),(2,[2]),(3,[3]),(4,[4,3]),(5,[13,4,3]),(6,[4,3]),(7,[48,4,3]),(8,[2]),(9,[2])] [(5,[4,3])]),
 (41,Z3 [] [] [] [] [(0,[0]),(1,[3,0]),(2,[4,3,0]),(3,[5,4,3,0]),(4,[9,5,4,3,0]),(5,[5,4,3,0]),(6,[15,5,4,3,0]),(7,[5,3,0]),(8,[5,4,3,0]),(9,[5,4,3,0]),(10,[2])] [(4,[5,4,3,0])]),
 (22,Z3 [] [] [] [] [(0,[1,0]),(1,[15,1,0]),(2,[4]),(3,[6,5,1]),(4,[34,6,5]),(5,[4]),(6,[7,6,5]),(7,[38,7,6,5]),(8,[7,6,5]),(9,[45,7,6,5]),(10,[4]),(11,[71,7,6,5]),(12,[4]),(13,[4])] [(7,[7,6,5])]),
 (16,Z3 [] [] [] [] [(0,[0]),(1,[2])] []),
 (39,Z3 [] [] [] [] [(0,[1,0]),(1,[5,1,0]),(2,[9,5,1,0]),(3,[5,1,0]),(4,[16,5,1,0]),(5,[4]),(6,[4])] [(2,[5,1,0])]),
 (38,Z3 [] [] [] [] [(0,[0]),(1,[2])] []),
 (29,Z3 [] [] [] [] [(0,[0]),(1,[3,0]),(2,[11,10,9,3,0]),(3,[12,11,10,9,3,0]),(4,[11,10,9,5,4,3,0]),(5,[11,10,9,6,5,3,0]),(6,[34,11,10,9,3,0]),(7,[2]),(8,[11,10,9,3,0]),(9,[2])] [(3,[11,10,9,3,0])]),
 (31,Z3 [] [] [] [] [(0,[0]),(1,[2])] []),
 (37,Z3 [] [] [] [] [(0,[1,0]),(1,[16,1,0]),(2,[4]),(3,[6,5,1]),(4,[35,6,5]),(5,[4]),(6,[38,37,36,6,5]),(7,[39,38,37,36,6,5]),(8,[38,37,36,8,7,6,5]),(9,[43,38,37,36,8,7,6,5]),(10,[4]),(11,[46,38,37,36,6,5]),(12,[4]),(13,[38,37,36,6,5]),(14,[4])] [(7,[38,37,36,6,5])]),
 (33,Z3 [] [] [] [] [(0,[0]),(1,[2])] []),
 (46,Z3 [] [] [] [] [(0,[0]),(1,[2])] []),
 (13,Z3 [] [] [] [] [(0,[]),(1,[0])] []),
 (7,Z3 [] [] [(28,3,false)] [] [(0,[]),(1,[0])] []),
 (48,Z3 [] [] [] [] [(0,[1,0]),(1,[6,1,0]),(2,[4]),(3,[4])] []),
 (28,Z3 [] [] [] [] [(0,[]),(1,[0])] []),
 (36,Z3 [] [] [] [] [(0,[0]),(1,[0]),(2,[2])] []),
 (50,Z3 [] [] [] [] [(0,[3,2]),(1,[5,3,2]),(2,[12,5,3,2]),(3,[4]),(4,[4])] []),
 (79,Z3 [] [] [] [] [(0,[0]),(1,[3,0]),(2,[2]),(3,[10]),(4,[2]),(5,[2])] []),
 (1000000,{})]
def ann:Nat->Ann:=ZdW {} ZwN
def ZCo:List (Nat×Bool):=[
 (36,true),
 (49,true),
 (1000000,false)]
def BY:Nat->Bool:=ZdW false ZCo
noncomputable def CF:Nat->Option Z8:=Zhn Tryd.prog ann
noncomputable def FC:Nat->Option Z8:=fun f=>(CF f).map Zi3
def Zo0:List (Nat×Option (List AVal->Za->Option (AVal×Za))):=[
 (78,some (ZiB)),
 (92,some (ZiB)),
 (66,some (ZkC)),
 (64,some (ZlJ)),
 (49,some (Zg0 3 50 ZfT Zbd)),
 (1000000,none)]
def PR:Zdt:=ZdW none Zo0
theorem xw (c d:Zo) (h:c=d) (m:Nat) (tm:Tms) (σ:Za):evC FC PR BY m c tm σ=evC FC PR BY m d tm σ:=by rw [h]
noncomputable abbrev E:ZW:=EV FC PR BY
theorem Zar {f:Nat} {fn:Z8} (hp:PR f=none) (hf:FC f=some fn) (args:List AVal) (σ:Za):E f args σ=ZaD σ.length fn (evC FC PR BY σ.length fn.body (enterA 0 args []) σ):=ZsY hp hf args σ
end
section
def ZeB:Zo:=(.seq (.region [oI 2 (.mov (.c (.bool true)))] none [2]) .ret)
def ZmZ:Zo:=ZeB
def ZfO:=xw ZmZ ZeB rfl
def Zed:Zo:=(.region [oM 32 5,oI 33 (.bin .add (.t 32) (.c (.int .i64 1))),oM 5 33] none [5,4,3,0])
def Zrm:Zo:=Zed
def ZfI:=xw Zrm Zed rfl
def Zes:Zo:=(.seq (.region [oM 143 3,oI 144 (.call 24 0 true [(.t 143)]),oM 145 4,oI 146 (.len (.t 145)),oI 147 (.bin .neq (.t 144) (.t 146))] none [147,5,4,3,0]) (.cond (.t 147) (.seq (.region [oI 2 (.mov (.c (.bool false)))] none [2]) .ret) .skip))
def Zor:Zo:=Zes
def Zfp:=xw Zor Zes rfl
def ZeH:Zo:=(.seq (.region [oM 135 10,oM 136 12,oI 137 (.bin .neq (.t 135) (.t 136)),oM 138 137,⟨(some 139),(.mov (.t 11)),(some (138,false)),[]⟩,⟨(some 140),(.mov (.t 13)),(some (138,false)),[]⟩,⟨(some 141),(.beq true (.t 139) (.t 140)),(some (138,false)),[]⟩,oI 142 (.pick (.t 138) (.c (.bool true)) (.t 141))] none [142,5,4,3,0]) (.cond (.t 142) (.seq (.region [oI 2 (.mov (.c (.bool false)))] none [2]) .ret) .skip))
def ZqG:Zo:=ZeH
def ZfA:=xw ZqG ZeH rfl
def Zde:Zo:=(.seq (.seq (.region [oM 116 14,oM 117 4,oI 118 (.len (.t 117)),oI 119 (.bin .lss (.t 116) (.t 118))] none [119,14,13,12,11,10,6,5,4,3,0]) (.cond (.t 119) .skip (.exit 5))) (.seq (.block 6 (.seq (.region [oM 122 4,oM 123 14,oI 124 (.iaddr 3 (.t 122) (.t 123)),oF 125 0 124,oL 126 125,oF 127 2 6,oL 128 127,oI 129 (.bin .eql (.t 126) (.t 128))] (some [(2,6),(4,6)]) [129,14,13,12,11,10,6,5,4,3,0]) (.cond (.t 129) (.region [oM 130 4,oM 131 14,oI 132 (.iaddr 3 (.t 130) (.t 131)),oF 133 2 132,oL 134 133,oM 12 134,oI 13 (.mov (.c (.bool true)))] none [14,13,12,11,10,6,5,4,3,0]) .skip))) (.region [oM 120 14,oI 121 (.bin .add (.t 120) (.c (.int .i64 1))),oM 14 121] none [14,13,12,11,10,6,5,4,3,0])))
def ZkU:Zo:=Zde
def Zd1:=xw ZkU Zde rfl
def Zex:Zo:=(.seq (.region [oM 61 3,oF 62 2 6,oL 63 62,oI 64 (.call 15 0 true [(.t 61),(.t 63)]),oM 65 4,oM 66 15,oI 67 (.call 23 0 true [(.t 64),(.t 65),(.t 66)]),oI 68 (.un .not (.t 67))] none [68,5,4,3,0]) (.cond (.t 68) (.seq (.region [oI 2 (.mov (.c (.bool false)))] none [2]) .ret) .skip))
def ZoE:Zo:=Zex
def ZfE:=xw ZoE Zex rfl
def ZdC:Zo:=(.seq (.seq (.region [oM 44 16,oM 45 4,oI 46 (.len (.t 45)),oI 47 (.bin .lss (.t 44) (.t 46))] none [47,16,15,6,5,4,3,0]) (.cond (.t 47) .skip (.exit 3))) (.seq (.block 4 (.region [oM 50 15,oM 51 16,oF 52 2 6,oL 53 52,oM 54 4,oM 55 16,oI 56 (.iaddr 3 (.t 54) (.t 55)),oF 57 0 56,oL 58 57,oI 59 (.call 22 0 true [(.t 53),(.t 58)]),oI 60 (.iaddr 1 (.t 50) (.t 51)),oN (.st 1 (.t 60) (.t 59))] (some [(3,6),(3,8),(9,9)]) [16,15,6,5,4,3,0])) (.region [oM 48 16,oI 49 (.bin .add (.t 48) (.c (.int .i64 1))),oM 16 49] none [16,15,6,5,4,3,0])))
def Zla:Zo:=ZdC
def Zee:=xw Zla ZdC rfl
def ZeC:Zo:=(.seq (.seq (.region [oM 24 5,oM 25 0,oI 26 (.len (.t 25)),oI 27 (.bin .lss (.t 24) (.t 26)),oM 28 27,⟨(some 29),(.mov (.t 5)),(some (28,true)),[]⟩,⟨(some 30),(.bin .lss (.t 29) (.c (.int .i64 120))),(some (28,true)),[]⟩,oI 31 (.pick (.t 28) (.t 30) (.c (.bool false)))] none [31,5,4,3,0]) (.cond (.t 31) .skip (.exit 0))) (.seq (.block 1 (.seq (.region [oM 34 0,oM 35 5,oI 36 (.iaddr 4 (.t 34) (.t 35)),oI 37 (.ld (some 4) (.t 36)),oI 6 (.alloc [(.int .i64 0),(.int .i64 0),(.str []),(.str [])]),oN (.st 4 (.t 6) (.t 37))] none [6,5,4,3,0]) (.seq (.seq (.region [oF 38 0 6,oL 39 38,oI 40 (.bin .rem (.t 39) (.c (.int .i64 4)))] none [40,6,5,4,3,0]) (.block 2 (.seq (.region [oI 70 (.bin .eql (.t 40) (.c (.int .i64 0))),oM 69 70] none [69,40,6,5,4,3,0]) (.cond (.t 69) (.seq (.region [oI 7 (.mov (.c (.int .i64 0)))] none [7,6,5,4,3,0]) (.seq (.seq (.region [oF 71 2 6,oL 72 71,oI 73 (.call 16 0 true [(.t 72)]),oI 74 (.un .not (.t 73))] none [74,7,6,5,4,3,0]) (.cond (.t 74) (.region [oI 7 (.mov (.c (.int .i64 150)))] none [7,6,5,4,3,0]) (.region [oM 75 4,oF 76 2 6,oL 77 76,oF 78 1 6,oL 79 78,oI 80 (.build [(.str []),(.str []),(.int .i64 0)] [(0,1,(.t 77)),(1,1,(.c (.str []))),(2,1,(.t 79))]),oI 81 (.call 17 0 true [(.t 75),(.t 80)]),oM 4 81] none [7,6,5,4,3,0]))) (.seq (.region [oM 82 3,oF 83 2 6,oL 84 83,oF 85 1 6,oL 86 85,oI 87 (.call 14 0 true [(.t 82),(.t 84),(.t 86)]),oI 88 (.call 18 0 true [(.t 87)]),oM 89 7,oI 90 (.bin .neq (.t 88) (.t 89))] none [90,5,4,3,0]) (.cond (.t 90) (.seq (.region [oI 2 (.mov (.c (.bool false)))] none [2]) .ret) .skip)))) (.seq (.region [oI 92 (.bin .eql (.t 40) (.c (.int .i64 1))),oM 91 92] none [91,40,6,5,4,3,0]) (.cond (.t 91) (.seq (.region [oM 94 4,oF 95 2 6,oL 96 95,oI 97 (.call 19 0 true [(.t 94),(.t 96),(.c (.str []))]),oM 93 97,oI 98 (.ext (.t 93) 0),oI 99 (.ext (.t 93) 1),oM 8 98,oM 9 99] none [9,8,6,5,3,0]) (.seq (.region [oM 100 8,oM 4 100] none [9,6,5,4,3,0]) (.seq (.region [oM 101 3,oF 102 2 6,oL 103 102,oI 104 (.call 20 0 true [(.t 101),(.t 103)]),oM 105 9,oI 106 (.beq true (.t 104) (.t 105))] none [106,5,4,3,0]) (.cond (.t 106) (.seq (.region [oI 2 (.mov (.c (.bool false)))] none [2]) .ret) .skip)))) (.seq (.region [oI 108 (.bin .eql (.t 40) (.c (.int .i64 2))),oM 107 108] none [107,6,5,4,3,0]) (.cond (.t 107) (.seq (.region [oM 110 3,oF 111 2 6,oL 112 111,oI 113 (.call 21 0 true [(.t 110),(.t 112)]),oM 109 113,oI 114 (.ext (.t 109) 0),oI 115 (.ext (.t 109) 1),oM 10 114,oM 11 115] none [11,10,6,5,4,3,0]) (.seq (.region [oI 12 (.mov (.c (.int .i64 0))),oI 13 (.mov (.c (.bool false)))] none [13,12,11,10,6,5,4,3,0]) (.seq (.seq (.region [oI 14 (.mov (.c (.int .i64 0)))] none [14,13,12,11,10,6,5,4,3,0]) (.block 5 (.loop [14,13,12,11,10,6,5,4,3,0] ZkU))) ZqG))) (.seq (.region [oM 41 4,oI 42 (.len (.t 41)),oI 43 (.mkslice 1 1 (.bool false) (.t 42) (.t 42)),oM 15 43] none [15,6,5,4,3,0]) (.seq (.seq (.region [oI 16 (.mov (.c (.int .i64 0)))] none [16,15,6,5,4,3,0]) (.block 3 (.loop [16,15,6,5,4,3,0] Zla))) ZoE)))))))))) Zor))) Zrm))
def Zmo:Zo:=ZeC
def Zf1:=xw Zmo ZeC rfl
def Zeb:Zo:=(.seq (.region [oI 2 (.mov (.c (.bool false)))] none [0]) (.seq (.region [oI 17 (.call 13 2 false []),oM 3 17] none [3,0]) (.seq (.seq (.region [oM 18 3,oI 19 (.peq false (.t 18) (.c .nilp)),oM 20 19,⟨(some 21),(.call 8 0 true []),(some (20,false)),[]⟩,⟨(some 22),(.un .not (.t 21)),(some (20,false)),[]⟩,oI 23 (.pick (.t 20) (.c (.bool true)) (.t 22))] none [23,3,0]) (.cond (.t 23) (.seq (.region [oI 2 (.mov (.c (.bool false)))] none [2]) .ret) .skip)) (.seq (.region [oI 4 (.mov (.c (.lst true [])))] none [4,3,0]) (.seq (.seq (.region [oI 5 (.mov (.c (.int .i64 0)))] none [5,4,3,0]) (.block 0 (.loop [5,4,3,0] Zmo))) ZmZ)))))
def Ziw:Z8:=⟨[(.tmp 2)],Zeb⟩
theorem Ztj:FC 5=some Ziw:=by kernel_rfl
theorem Zfb:Ziw.body=Zeb:=rfl
theorem Zff:Ziw.res=[(.tmp 2)]:=rfl
noncomputable def ZeY (m:Nat) (tm:Tms) (σ:Za):Option (AVal×Za):=(ZaD m Ziw (Za0 FC PR BY m ZmZ (Wx (ZaG 0) (evL FC PR BY m [5,4,3,0] Zmo tm σ))))
def Zm2:Zo:=(.seq (.region [oM 49 7,oM 50 0,oI 51 (.len (.t 50)),oI 52 (.bin .eql (.t 49) (.t 51)),oM 6 52] none [6]) .ret)
def Zmc:Zo:=Zm2
def Zz6:=xw Zmc Zm2 rfl
def Zey:Zo:=(.seq (.seq (.region [oM 9 8,oM 10 1,oI 11 (.len (.t 10)),oI 12 (.bin .lss (.t 9) (.t 11))] none [12,8,7,2,1,0]) (.cond (.t 12) .skip (.exit 0))) (.seq (.block 1 (.seq (.seq (.region [oM 15 2,oM 16 8,oI 17 (.iaddr 1 (.t 15) (.t 16)),oL 18 17,oI 19 (.un .not (.t 18))] none [19,8,7,2,1,0]) (.cond (.t 19) (.exit 1) .skip)) (.seq (.seq (.region [oM 20 7,oM 21 0,oI 22 (.len (.t 21)),oI 23 (.bin .geq (.t 20) (.t 22)),oM 24 23,⟨(some 25),(.mov (.t 0)),(some (24,false)),[]⟩,⟨(some 26),(.mov (.t 7)),(some (24,false)),[]⟩,⟨(some 27),(.iaddr 3 (.t 25) (.t 26)),(some (24,false)),[]⟩,⟨(some 28),(.ld (some 3) (.t 27)),(some (24,false)),[]⟩,⟨(some 29),(.mov (.t 1)),(some (24,false)),[]⟩,⟨(some 30),(.mov (.t 8)),(some (24,false)),[]⟩,⟨(some 31),(.iaddr 3 (.t 29) (.t 30)),(some (24,false)),[]⟩,⟨(some 32),(.faddr 0 (.t 31)),(some (24,false)),[]⟩,⟨(some 33),(.ld none (.t 32)),(some (24,false)),[]⟩,⟨(some 34),(.mov (.t 1)),(some (24,false)),[]⟩,⟨(some 35),(.mov (.t 8)),(some (24,false)),[]⟩,⟨(some 36),(.iaddr 3 (.t 34) (.t 35)),(some (24,false)),[]⟩,⟨(some 37),(.faddr 1 (.t 36)),(some (24,false)),[]⟩,⟨(some 38),(.ld none (.t 37)),(some (24,false)),[]⟩,⟨(some 39),(.mov (.t 1)),(some (24,false)),[]⟩,⟨(some 40),(.mov (.t 8)),(some (24,false)),[]⟩,⟨(some 41),(.iaddr 3 (.t 39) (.t 40)),(some (24,false)),[]⟩,⟨(some 42),(.faddr 2 (.t 41)),(some (24,false)),[]⟩,⟨(some 43),(.ld none (.t 42)),(some (24,false)),[]⟩,⟨(some 44),(.build [(.str []),(.str []),(.int .i64 0)] [(0,1,(.t 33)),(1,1,(.t 38)),(2,1,(.t 43))]),(some (24,false)),[]⟩,⟨(some 45),(.eqv true [2,2,0] (.t 28) (.t 44)),(some (24,false)),[]⟩,oI 46 (.pick (.t 24) (.c (.bool true)) (.t 45))] (some [(7,11),(8,11),(7,13),(8,13),(7,16),(8,16),(11,16),(13,16),(7,18),(8,18),(11,18),(13,18),(7,21),(8,21),(11,21),(13,21),(16,21),(18,21),(7,23),(8,23),(11,23),(13,23),(16,23),(18,23)]) [46,8,7,2,1,0]) (.cond (.t 46) (.seq (.region [oI 6 (.mov (.c (.bool false)))] none [6]) .ret) .skip)) (.region [oM 47 7,oI 48 (.bin .add (.t 47) (.c (.int .i64 1))),oM 7 48] none [8,7,2,1,0])))) (.region [oM 13 8,oI 14 (.bin .add (.t 13) (.c (.int .i64 1))),oM 8 14] none [8,7,2,1,0])))
def Zkb:Zo:=Zey
def ZfG:=xw Zkb Zey rfl
def Zi1:Zo:=(.seq (.region [oI 6 (.mov (.c (.bool false)))] none [2,1,0]) (.seq (.region [oI 7 (.mov (.c (.int .i64 0)))] none [7,2,1,0]) (.seq (.seq (.region [oI 8 (.mov (.c (.int .i64 0)))] none [8,7,2,1,0]) (.block 0 (.loop [8,7,2,1,0] Zkb))) Zmc)))
def Zir:Z8:=⟨[(.tmp 6)],Zi1⟩
theorem Ztz:FC 23=some Zir:=by kernel_rfl
theorem ZnN:Zir.body=Zi1:=rfl
theorem Zg2:Zir.res=[(.tmp 6)]:=rfl
noncomputable def Zg7 (m:Nat) (tm:Tms) (σ:Za):Option (AVal×Za):=(ZaD m Zir (Za0 FC PR BY m Zmc (Wx (ZaG 0) (evL FC PR BY m [8,7,2,1,0] Zkb tm σ))))
def Zh5:Zo:=(.seq (.region [oI 2 (.box (.t 0)),oI 3 (.box (.t 1)),oI 4 (.mov (.c (.bool false)))] none [3,2]) (.seq (.region [oF 5 0 2,oL 6 5,oF 7 0 3,oL 8 7,oI 9 (.bin .lss (.t 6) (.t 8)),oM 10 9,⟨(some 11),(.faddr 0 (.t 2)),(some (10,false)),[]⟩,⟨(some 12),(.ld none (.t 11)),(some (10,false)),[]⟩,⟨(some 13),(.faddr 0 (.t 3)),(some (10,false)),[]⟩,⟨(some 14),(.ld none (.t 13)),(some (10,false)),[]⟩,⟨(some 15),(.bin .eql (.t 12) (.t 14)),(some (10,false)),[]⟩,⟨(some 16),(.mov (.t 15)),(some (10,false)),[]⟩,⟨(some 17),(.faddr 1 (.t 2)),(some (16,true)),[]⟩,⟨(some 18),(.ld none (.t 17)),(some (16,true)),[]⟩,⟨(some 19),(.faddr 1 (.t 3)),(some (16,true)),[]⟩,⟨(some 20),(.ld none (.t 19)),(some (16,true)),[]⟩,⟨(some 21),(.bin .lss (.t 18) (.t 20)),(some (16,true)),[]⟩,⟨(some 22),(.pick (.t 16) (.t 21) (.c (.bool false))),(some (10,false)),[]⟩,oI 23 (.pick (.t 10) (.c (.bool true)) (.t 22)),oM 4 23] none [4]) .ret))
def Zly:Z8:=⟨[(.tmp 4)],Zh5⟩
theorem ZlU:FC 40=some Zly:=by kernel_rfl
theorem Zkx:Zly.body=Zh5:=rfl
theorem Zmk:Zly.res=[(.tmp 4)]:=rfl
def ZlP:Zo:=(.seq (.region [oI 2 (.mov (.c (.int .i64 0)))] none [0]) (.seq (.region [oM 3 0,oM 2 3] none [2]) .ret))
def ZkY:Z8:=⟨[(.tmp 2)],ZlP⟩
theorem ZDX:FC 18=some ZkY:=by kernel_rfl
theorem ZBj:ZkY.body=ZlP:=rfl
theorem ZFP:ZkY.res=[(.tmp 2)]:=rfl
def ZgL:Zo:=(.seq (.region [oI 6 (.mov (.c (.lst true [])))] none [6,5,3,0]) (.seq (.region [oM 21 6,oM 22 0,oM 23 5,oI 24 (.slice 3 (.t 22) none (some (.t 23)) none),oI 25 (.app 3 40 (.agg [(.str []),(.str []),(.int .i64 0)]) (.t 21) (.t 24)),oI 26 (.ld (some 3) (.t 3)),oI 27 (.bslice false 3 1 (.agg [(.str []),(.str []),(.int .i64 0)]) [(0,(.t 26))]),oI 28 (.app 3 40 (.agg [(.str []),(.str []),(.int .i64 0)]) (.t 25) (.t 27)),oM 6 28] (some [(3,5),(4,5),(3,6),(4,6)]) [6,5,3,0]) (.seq (.seq (.region [oM 29 5,oM 30 0,oI 31 (.len (.t 30)),oI 32 (.bin .lss (.t 29) (.t 31)),oM 33 32,⟨(some 34),(.mov (.t 0)),(some (33,true)),[]⟩,⟨(some 35),(.mov (.t 5)),(some (33,true)),[]⟩,⟨(some 36),(.iaddr 3 (.t 34) (.t 35)),(some (33,true)),[]⟩,⟨(some 37),(.faddr 0 (.t 36)),(some (33,true)),[]⟩,⟨(some 38),(.ld none (.t 37)),(some (33,true)),[]⟩,⟨(some 39),(.faddr 0 (.t 3)),(some (33,true)),[]⟩,⟨(some 40),(.ld none (.t 39)),(some (33,true)),[]⟩,⟨(some 41),(.bin .eql (.t 38) (.t 40)),(some (33,true)),[]⟩,oI 42 (.pick (.t 33) (.t 41) (.c (.bool false))),oM 43 42,⟨(some 44),(.mov (.t 0)),(some (43,true)),[]⟩,⟨(some 45),(.mov (.t 5)),(some (43,true)),[]⟩,⟨(some 46),(.iaddr 3 (.t 44) (.t 45)),(some (43,true)),[]⟩,⟨(some 47),(.faddr 1 (.t 46)),(some (43,true)),[]⟩,⟨(some 48),(.ld none (.t 47)),(some (43,true)),[]⟩,⟨(some 49),(.faddr 1 (.t 3)),(some (43,true)),[]⟩,⟨(some 50),(.ld none (.t 49)),(some (43,true)),[]⟩,⟨(some 51),(.bin .eql (.t 48) (.t 50)),(some (43,true)),[]⟩,oI 52 (.pick (.t 43) (.t 51) (.c (.bool false)))] (some [(7,11),(9,11),(17,21),(19,21)]) [52,6,5,0]) (.cond (.t 52) (.region [oM 53 5,oI 54 (.bin .add (.t 53) (.c (.int .i64 1))),oM 5 54] none [6,5,0]) .skip)) (.seq (.region [oM 55 6,oM 56 0,oM 57 5,oI 58 (.slice 3 (.t 56) (some (.t 57)) none none),oI 59 (.app 3 40 (.agg [(.str []),(.str []),(.int .i64 0)]) (.t 55) (.t 58)),oM 4 59] none [4]) .ret))))
def ZiG:Zo:=ZgL
def Zjx:=xw ZiG ZgL rfl
def Zez:Zo:=(.seq (.seq (.region [oM 7 5,oM 8 0,oI 9 (.len (.t 8)),oI 10 (.bin .lss (.t 7) (.t 9)),oM 11 10,⟨(some 12),(.mov (.t 0)),(some (11,true)),[]⟩,⟨(some 13),(.mov (.t 5)),(some (11,true)),[]⟩,⟨(some 14),(.iaddr 3 (.t 12) (.t 13)),(some (11,true)),[]⟩,⟨(some 15),(.ld (some 3) (.t 14)),(some (11,true)),[]⟩,⟨(some 16),(.ld (some 3) (.t 3)),(some (11,true)),[]⟩,⟨(some 17),(.call 40 0 true [(.t 15),(.t 16)]),(some (11,true)),[]⟩,oI 18 (.pick (.t 11) (.t 17) (.c (.bool false)))] (some [(7,9),(8,9),(10,10)]) [18,5,3,0]) (.cond (.t 18) .skip (.exit 0))) (.block 1 (.region [oM 19 5,oI 20 (.bin .add (.t 19) (.c (.int .i64 1))),oM 5 20] none [5,3,0])))
def Zka:Zo:=Zez
def ZfQ:=xw Zka Zez rfl
def ZfP:Zo:=(.seq (.region [oI 3 (.box (.t 1)),oI 4 (.mov (.c (.lst true [])))] none [3,0]) (.seq (.region [oI 5 (.mov (.c (.int .i64 0)))] none [5,3,0]) (.seq (.block 0 (.loop [5,3,0] Zka)) ZiG)))
def ZhU:Z8:=⟨[(.tmp 4)],ZfP⟩
theorem ZrO:FC 17=some ZhU:=by kernel_rfl
theorem ZhQ:ZhU.body=ZfP:=rfl
theorem ZhE:ZhU.res=[(.tmp 4)]:=rfl
noncomputable def Zhe (m:Nat) (tm:Tms) (σ:Za):Option (AVal×Za):=(ZaD m ZhU (Za0 FC PR BY m ZiG (Wx (ZaG 0) (evL FC PR BY m [5,3,0] Zka tm σ))))
def Zge:Zo:=(.seq (.region [oM 42 0,oM 6 42,oI 7 (.mov (.c (.bool false)))] none [7,6]) .ret)
def Zks:Zo:=Zge
def Zjn:=xw Zks Zge rfl
def Zgw:Zo:=(.seq (.seq (.region [oM 10 8,oM 11 0,oI 12 (.len (.t 11)),oI 13 (.bin .lss (.t 10) (.t 12))] none [13,8,2,1,0]) (.cond (.t 13) .skip (.exit 0))) (.seq (.block 1 (.seq (.region [oM 16 0,oM 17 8,oI 18 (.iaddr 3 (.t 16) (.t 17)),oF 19 0 18,oL 20 19,oM 21 1,oI 22 (.bin .eql (.t 20) (.t 21)),oM 23 22,⟨(some 24),(.mov (.t 0)),(some (23,true)),[]⟩,⟨(some 25),(.mov (.t 8)),(some (23,true)),[]⟩,⟨(some 26),(.iaddr 3 (.t 24) (.t 25)),(some (23,true)),[]⟩,⟨(some 27),(.faddr 1 (.t 26)),(some (23,true)),[]⟩,⟨(some 28),(.ld none (.t 27)),(some (23,true)),[]⟩,⟨(some 29),(.mov (.t 2)),(some (23,true)),[]⟩,⟨(some 30),(.bin .eql (.t 28) (.t 29)),(some (23,true)),[]⟩,oI 31 (.pick (.t 23) (.t 30) (.c (.bool false)))] none [31,8,2,1,0]) (.cond (.t 31) (.seq (.region [oI 9 (.mov (.c (.lst true [])))] none [9,8,0]) (.seq (.region [oM 32 9,oM 33 0,oM 34 8,oI 35 (.slice 3 (.t 33) none (some (.t 34)) none),oI 36 (.app 3 40 (.agg [(.str []),(.str []),(.int .i64 0)]) (.t 32) (.t 35)),oM 37 0,oM 38 8,oI 39 (.bin .add (.t 38) (.c (.int .i64 1))),oI 40 (.slice 3 (.t 37) (some (.t 39)) none none),oI 41 (.app 3 40 (.agg [(.str []),(.str []),(.int .i64 0)]) (.t 36) (.t 40)),oM 6 41,oI 7 (.mov (.c (.bool true)))] (some [(3,8),(4,8)]) [7,6]) .ret)) .skip))) (.region [oM 14 8,oI 15 (.bin .add (.t 14) (.c (.int .i64 1))),oM 8 15] none [8,2,1,0])))
def ZkO:Zo:=Zgw
def Ziq:=xw ZkO Zgw rfl
def ZfJ:Zo:=(.seq (.region [oI 6 (.mov (.c (.lst true []))),oI 7 (.mov (.c (.bool false)))] none [2,1,0]) (.seq (.seq (.region [oI 8 (.mov (.c (.int .i64 0)))] none [8,2,1,0]) (.block 0 (.loop [8,2,1,0] ZkO))) Zks))
def Zil:Z8:=⟨[(.tmp 6),(.tmp 7)],ZfJ⟩
theorem ZBY:FC 19=some Zil:=by kernel_rfl
theorem Zie:Zil.body=ZfJ:=rfl
theorem Zhm:Zil.res=[(.tmp 6),(.tmp 7)]:=rfl
noncomputable def ZhL (m:Nat) (tm:Tms) (σ:Za):Option (AVal×Za):=(ZaD m Zil (Za0 FC PR BY m Zks (Wx (ZaG 0) (evL FC PR BY m [8,2,1,0] ZkO tm σ))))
end
section
open Go.RowKit
inductive Ty where
 | bool
 | int (k:IntKind)
 | str
 | slice (s:Bool) (e:Ty)
 | struct (fs:List Ty)
 deriving Inhabited
def Zdr:Option TypeDesc->Bool
 | some (.struct _)=>true
 | some (.array _ _)=>true
 | _=>false
def Zif (P:Program):Nat->List Field->Nat->Bool
 | at',[],n=>at' == n
 | at',f::fs,n=>f.offset == at' && Zif P (at'+P.cellsOf f.type) fs n
def ZcZ (P:Program):Nat->TypeId->Option Ty
 | 0,_=>none
 | n+1,t=>match P.underlying t with
  | some .bool=>some .bool
  | some (.int k)=>some (.int k)
  | some .string=>some .str
  | some (.slice e)=>if 0 < P.cellsOf e then (ZcZ P n e).map (.slice (Zdr (P.underlying e))) else none
  | some (.struct fs)=>if Zif P 0 fs.toList (P.cellsOf t) then (fs.toList.mapM fun f=>ZcZ P n f.type).map .struct else none
  | _=>none
def Zb3 (s:Bool) (y:List AVal):AVal:=if s then .agg y else y.headD .nilp
def Imm.of (w:World):Imm:=fun b o=>w.cell? ⟨b,o,none⟩
section
variable {H:Type} {enc:TypeId×Value->H} {P:Program} {w:World} {spare:Nat->Bool} {held:Bool}
theorem Zr3 {b off:Nat} {s:Option Nat} {u:Value} (h:w.cell? ⟨b,off,s⟩=some u):s=none:=by
 unfold World.cell? at h
 split at h
 ·rcases s with _ | s
  ·rfl
  ·simp at h
 ·cases h
theorem Zx9 {s:Bool} {y:List AVal} (h:s=false->y.length=1) (h1:s=false->∀ x ∈ y,Z1 x=true):(Zb3 s y).cells=y:=by
 cases s with
 | true=>rfl
 | false =>
  match y,h rfl with
  | [x],_ =>
   have:=h1 rfl x (by simp)
   cases x <;> simp_all [Zb3,AVal.cells,Z1]
theorem ZrI {a:Addr} (h:a.spot=none) (n:Nat):a.add n=⟨a.block,a.off+n,none⟩:=by
 unfold Addr.add
 split
 ·rename_i e;subst e;cases a;simp_all
 ·rfl
theorem Zxn {I:Imm} {β:Bmap} {xs:List AVal} {vs:List Value} {n:Nat} (h:VRs I β xs (vs.take n)) {ys:List AVal} (h':VRs I β ys (vs.drop n)):VRs I β (xs++ys) vs:=by
 have:=ZbE h h'
 rwa [XaX] at this
theorem Zos {α β:Type} {f:α->Option β} {a:α} {l:List α} {r:List β} (h:(a::l).mapM f=some r):∃ b r',f a=some b/\l.mapM f=some r'/\r=b::r':=by
 rw [List.mapM_cons] at h
 simp only [Option.bind_eq_bind,Option.bind_eq_some_iff,Option.pure_def,Xa] at h
 obtain ⟨b,h1,r',h2,h3⟩:=h
 exact ⟨b,r',h1,h2,h3.symm⟩
theorem Zw3 {a b:List AVal} (ha:Zaj a=true) (hb:Zaj b=true):Zaj (a++b)=true:=by
 induction a with
 | nil=>exact hb
 | cons x a ih=>simp only [Wt,Zaj,Xp] at ha ⊢;exact ⟨ha.1,ih ha.2⟩
theorem ZoH {I:Imm} {β:Bmap} {s:Bool} {k b:Nat}:∀ (n off:Nat) (Y:Nat->List AVal),(∀ i,i < n->(Zb3 s (Y i)).cells.length=k/\CR I β (Zb3 s (Y i)).cells b (off+i*k))->LR I β k ((Wu n).map fun i=>Zb3 s (Y i)) b off
 | 0,off,Y,_=>by simp [LR]
 | n+1,off,Y,h=>by
  rw [List.range_succ_eq_map,XJ,ZfD]
  have h0:=h 0 (by omega)
  simp only [Xba,Wf] at h0
  refine ⟨h0,?_⟩
  rw [Wg]
  exact ZoH n (off+k) (fun i=>Y (i+1)) (fun i hi=>by
   have:=h (i+1) (by omega)
   rw [show off+k+i*k=off+(i+1)*k by rw [Xbm];omega]
   exact this)
theorem Znq {I:Imm} {β:Bmap} {b:Nat}:∀ (xs:List AVal) (cs:List Value) (off:Nat),VRs I β xs cs->(∀ i,i < cs.length->I b (off+i)=cs[i]?)->CR I β xs b off
 | [],_,_,_,_=>by simp only [CR]
 | x::xs,cs,off,h,hI=>by
  simp only [VRs] at h
  obtain ⟨v,vs',rfl,h1,h2⟩:=h
  simp only [CR]
  refine ⟨⟨v,by have:=hI 0 (by simp);simpa using this,h1⟩,Znq xs vs' (off+1) h2 fun i hi=>?_⟩
  have:=hI (i+1) (by simp;omega)
  rw [show off+1+i=off+(i+1) by omega,this]
  simp
theorem Zl6 {s:Bool}:∀ (n:Nat) (Y:Nat->List AVal),(∀ i,i < n->Zaj (Zb3 s (Y i)).cells=true)->Z5 ((Wu n).map fun i=>Zb3 s (Y i))=true
 | 0,Y,_=>by simp [Z5]
 | n+1,Y,h=>by
  rw [List.range_succ_eq_map,XJ,Zq8,h 0 (by omega),Wg]
  simp only [XaE]
  exact Zl6 n (fun i=>Y (i+1)) (fun i hi=>h (i+1) (by omega))
theorem Zpi {xs:List AVal} (h:Zaj xs=true):∀ x ∈ xs,Z1 x=true:=by
 induction xs with
 | nil=>intro x hx;simp at hx
 | cons y ys ih =>
  simp only [Zaj,Xp] at h
  intro x hx
  rcases XA.1 hx with rfl | hx
  ·cases x <;> simp_all [Zap,Z1]
  ·exact ih h.2 x hx
theorem Rel.start (w:World) (hG:Gl.le (Imm.of w)):Rel (fun b=>b < w.heap.size) w (Imm.of w) (Imm.of w) B0 [] w where
 below:=KB.refl _ w
 old:=fun _ _ _=>rfl
 imm:=fun _ _ _ h=>h
 blk:=fun t x h=>by simp at h
 own:=fun t x b h=>by simp at h
 apart:=fun t x t' x' b h=>by simp at h
 fresh:=fun _ _ _=>rfl
 free:=fun t g h=>by simp at h
 gen:=fun t b g h=>by simp at h
 glob:=hG
 ro:=fun t x b h=>by simp at h
theorem ZDM {O:ZW} (hO:Zak P O) {f:Nat} {args:List AVal} {vs:Array Value} {σ':Za} (hG:Gl.le (Imm.of w)) (hargs:VRs (Imm.of w) B0 args vs.toList) (h:O f args []=some (.bool true,σ')) :
  Calls P f vs w (fun e w'=>e=.returned (.bool true)/\Below w.heap.size w w'):=by
 refine ((hO f args [] _ _ h).2 _ w _ _ B0 w vs (fun b hb=>hb) (Rel.start w hG) hargs).mono ?_
 rintro e w' ⟨u,he,I',β',_,_,R,hv⟩
 simp only [Zav,VR] at hv
 subst hv
 exact ⟨he,R.below.os,R.below.tape,R.below.output,R.below.size,R.below.block⟩
end
end
section
open Go.RowKit
theorem Zxm (id:Nat) (tm:Tms) (σ:Za):ZaG id (.normal,tm,σ)=(.normal,tm,σ):=rfl
theorem ZsS (id i:Nat) (tm:Tms) (σ:Za):ZaG id (.exit i,tm,σ)=if i=id then (.normal,tm,σ) else (.exit i,tm,σ):=by simp only [ZaG]
theorem ZCY (id:Nat) (tm:Tms) (σ:Za):ZaG id (.ret,tm,σ)=(.ret,tm,σ):=rfl
theorem ZE2 (id:Nat) (x:AVal) (tm:Tms) (σ:Za):ZaG id (.panic x,tm,σ)=(.panic x,tm,σ):=rfl
section
variable (O:ZW) (bf:Nat->Bool)
def Zdk (c:Cls):Option (Tms×Za×List Cls×Option AVal)->Option (Tms×Za×List Cls×Option AVal)
 | none=>none
 | some (tm,σ,cs,p)=>some (tm,σ,c::cs,p)
def Zf2 (c:List Cls):Option (Tms×Za×List Cls×Option AVal)->Option (Tms×Za×List Cls×Option AVal)
 | none=>none
 | some (tm,σ,cs,p)=>some (tm,σ,c++cs,p)
def kC (d:Option Nat) (os:List AOp) (s:Nat) (tm:Tms):Option (AVal×Za×Cls)->Option (Tms×Za×List Cls×Option AVal)
 | none=>none
 | some (v,σ,c)=>if Zas v then some (tput tm d v,σ,[c],some (Zav v)) else Zdk c (ZX O bf os s (tput tm d v) σ)
def ZdZ (ops:List AOp) (L:Nat) (l:List (Nat×Nat)) (live:List Nat):Option (Tms×Za×List Cls×Option AVal)->Option (ZY×Tms×Za)
 | none=>none
 | some (_,σ,cs,some x)=>if Zbg ops L l cs then some (.panic x,[],σ) else none
 | some (tm,σ,cs,none)=>if Zc9 ops L l cs then some (.normal,keepL live tm,σ) else none
variable {O bf}
theorem ZnJ (s:Nat) (tm:Tms) (σ:Za):ZX O bf [] s tm σ=some (tm,σ,[],none):=rfl
theorem ZB0 (c:Cls) (tm:Tms) (σ:Za) (cs:List Cls) (p:Option AVal):Zdk c (some (tm,σ,cs,p))=some (tm,σ,c::cs,p):=rfl
theorem ZzV (c:Cls):Zdk c none=none:=rfl
theorem ZGr (c:Cls) (q:Prop) [Decidable q] (x y:Option (Tms×Za×List Cls×Option AVal)):Zdk c (if q then x else y)=if q then Zdk c x else Zdk c y:=by split <;> rfl
theorem Zsx (c:List Cls) (tm:Tms) (σ:Za) (cs:List Cls) (p:Option AVal):Zf2 c (some (tm,σ,cs,p))=some (tm,σ,c++cs,p):=rfl
theorem Zzv (c:List Cls):Zf2 c none=none:=rfl
theorem Zvx (c:List Cls) (q:Prop) [Decidable q] (x y:Option (Tms×Za×List Cls×Option AVal)):Zf2 c (if q then x else y)=if q then Zf2 c x else Zf2 c y:=by split <;> rfl
theorem Zjl {o:AOp} {os:List AOp} {s:Nat} {tm tm1:Tms} {σ σ1:Za} {v:AVal} {c:Cls} (h:ZS O bf o s tm σ=some (v,tm1,σ1,c)) (hn:Zas v=false):ZX O bf (o::os) s tm σ=Zdk c (ZX O bf os (s+nsite o.ins) tm1 σ1):=by
 rw [Zot h hn]
 cases ZX O bf os (s+nsite o.ins) tm1 σ1 <;> rfl
theorem Zkr (d:Option Nat) (i:Ins) (af:List Nat) (os:List AOp) (s:Nat) (tm:Tms) (σ:Za):ZX O bf (⟨d,i,none,af⟩::os) s tm σ=kC O bf d os (s+nsite i) tm (exI O bf i s tm σ):=by
 cases h:exI O bf i s tm σ with
 | none=>exact Zh1 (by rw [ZiF,h];rfl)
 | some q =>
  obtain ⟨v,σ1,c⟩:=q
  have hs:ZS O bf ⟨d,i,none,af⟩ s tm σ=some (v,tput tm d v,σ1,c):=by rw [ZiF,h];rfl
  cases hp:Zas v with
  | true =>
   obtain ⟨x,rfl⟩:=ZjW hp
   exact ZjX hs
  | false =>
   rw [Zjl hs hp]
   simp only [kC,hp,Xm,if_false]
theorem Zmg (d:Option Nat) (os:List AOp) (s:Nat) (tm:Tms) (v:AVal) (σ:Za) (c:Cls) (h:Zas v=false):kC O bf d os s tm (some (v,σ,c))=Zdk c (ZX O bf os s (tput tm d v) σ):=by
 simp only [kC,h,Xm,if_false]
theorem ZCD (d:Option Nat) (os:List AOp) (s:Nat) (tm:Tms) (x:AVal) (σ:Za) (c:Cls):kC O bf d os s tm (some (.pan x,σ,c))=some (tput tm d (.pan x),σ,[c],some x):=rfl
theorem ZvK (d:Option Nat) (os:List AOp) (s:Nat) (tm:Tms):kC O bf d os s tm none=none:=rfl
theorem ZsJ (d:Option Nat) (os:List AOp) (s:Nat) (tm:Tms) (q:Prop) [Decidable q] (x y:Option (AVal×Za×Cls)):kC O bf d os s tm (if q then x else y)=if q then kC O bf d os s tm x else kC O bf d os s tm y:=by split <;> rfl
theorem ZbX (ops:List AOp) (l:List (Nat×Nat)) (live:List Nat) (tm:Tms) (σ:Za):ZbZ O bf ops (some l) live tm σ=ZdZ ops σ.length l live (ZX O bf ops σ.length tm (σ++Xx (sitesOf ops) .free)):=by
 unfold ZbZ
 cases ZX O bf ops σ.length tm (σ++Xx (sitesOf ops) .free) with
 | none=>rfl
 | some q =>
  obtain ⟨tm',σ',cs,p⟩:=q
  cases p <;> rfl
theorem ZbV (ops:List AOp) (L:Nat) (l:List (Nat×Nat)) (live:List Nat) (tm:Tms) (σ:Za) (cs:List Cls) (h:Zc9 ops L l cs=true):ZdZ ops L l live (some (tm,σ,cs,none))=some (.normal,keepL live tm,σ):=by
 simp only [ZdZ,h,if_true]
theorem Zco (ops:List AOp) (L:Nat) (l:List (Nat×Nat)) (live:List Nat) (tm:Tms) (σ:Za) (cs:List Cls) (x:AVal) (h:Zbg ops L l cs=true):ZdZ ops L l live (some (tm,σ,cs,some x))=some (.panic x,[],σ):=by
 simp only [ZdZ,h,if_true]
theorem Zz0 (ops:List AOp) (L:Nat) (l:List (Nat×Nat)) (live:List Nat):ZdZ ops L l live none=none:=rfl
theorem ZrL (ops:List AOp) (L:Nat) (l:List (Nat×Nat)) (live:List Nat) (q:Prop) [Decidable q] (x y:Option (Tms×Za×List Cls×Option AVal)):ZdZ ops L l live (if q then x else y)=if q then ZdZ ops L l live x else ZdZ ops L l live y:=by split <;> rfl
theorem Zzp (ops:List AOp) (L:Nat) (l:List (Nat×Nat)) (cs:List Cls) (h:(cs.all fun c=>c.wr.isEmpty && !c.any)=true) (hs:(l.all fun p=>p.1 == p.2 || nsite (ops.getD p.1 default).ins == 0)=true):Zc9 ops L l cs=true:=by
 have hd:∀ i,ZcT (cs.getD i {})=true:=by
  intro i
  rw [XH] at h
  rw [Xo]
  cases hi:cs[i]? with
  | none=>rfl
  | some c=>exact h c (Xt hi)
 unfold Zc9
 rw [XH] at hs ⊢
 intro p hp
 have:=hs p hp
 rw [WO] at this ⊢
 rcases this with this | this
 ·exact Xs this
 ·refine Xy ?_
  unfold Zca
  simp only [hd,this,Bool.and_true,XaE,WZ,XaB]
theorem ZCz (ops:List AOp) (L:Nat) (l:List (Nat×Nat)) (live:List Nat) (tm:Tms) (σ:Za) (cs:List Cls) (h:(cs.all fun c=>c.wr.isEmpty && !c.any)=true) (hs:(l.all fun p=>p.1 == p.2 || nsite (ops.getD p.1 default).ins == 0)=true):ZdZ ops L l live (some (tm,σ,cs,none))=some (.normal,keepL live tm,σ) :=
 ZbV _ _ _ _ _ _ _ (Zzp _ _ _ _ h hs)
variable (O bf) in
def gKC (os:List AOp) (s:Nat):Option (Tms×Za×List Cls×Option AVal)->Option (Tms×Za×List Cls×Option AVal)
 | none=>none
 | some (tm,σ,cs,some x)=>some (tm,σ,cs,some x)
 | some (tm,σ,cs,none)=>Zf2 cs (ZX O bf os s tm σ)
theorem Zya (os:List AOp) (s:Nat) (tm:Tms) (σ:Za) (cs:List Cls):gKC O bf os s (some (tm,σ,cs,none))=Zf2 cs (ZX O bf os s tm σ):=rfl
theorem Zub (os:List AOp) (s:Nat) (q:Prop) [Decidable q] (x y:Option (Tms×Za×List Cls×Option AVal)):gKC O bf os s (if q then x else y)=if q then gKC O bf os s x else gKC O bf os s y:=by split <;> rfl
theorem ZAu (os:List AOp) (s:Nat) (c:Cls) (r:Option (Tms×Za×List Cls×Option AVal)):gKC O bf os s (Zdk c r)=Zdk c (gKC O bf os s r):=by
 cases r with
 | none=>rfl
 | some q =>
  obtain ⟨tm,σ,cs,p⟩:=q
  cases p with
  | some x=>rfl
  | none =>
   simp only [Zdk,gKC]
   cases ZX O bf os s tm σ <;> rfl
theorem ZnM:∀ (a b:List AOp) (s:Nat) (tm:Tms) (σ:Za),ZX O bf (a++b) s tm σ=gKC O bf b (s+sitesOf a) (ZX O bf a s tm σ)
 | [],b,s,tm,σ=>by
  simp only [XT,ZnJ,gKC,sitesOf,List.map_nil,List.sum_nil,Wf]
  cases ZX O bf b s tm σ <;> rfl
 | o::a,b,s,tm,σ=>by
  have ih:=ZnM a b
  simp only [Wt]
  have hs:s+nsite o.ins+sitesOf a=s+sitesOf (o::a):=by simp [sitesOf,Nat.add_assoc]
  cases hst:ZS O bf o s tm σ with
  | none=>rw [Zh1 hst,Zh1 hst];rfl
  | some q =>
   obtain ⟨v,tm1,σ1,c⟩:=q
   cases hp:Zas v with
   | true =>
    obtain ⟨x,rfl⟩:=ZjW hp
    rw [ZjX hst,ZjX hst];rfl
   | false=>rw [Zjl hst hp,Zjl hst hp,ih,hs,ZAu]
variable (O bf) in
def Zd7 (j:Nat) (w:Bool) (g:List AOp) (s:Nat) (tm:Tms) (σ:Za):Option (Tms×Za×List Cls×Option AVal):=match Za9 (some (j,w)) tm with
 | none=>none
 | some false=>some (Zz g tm,σ,g.map fun _=>{},none)
 | some true=>ZX O bf (g.map unG) s tm σ
theorem ZpL (j:Nat) (w:Bool):∀ (g:List AOp),(∀ o ∈ g,o.guard=some (j,w)/\o.dst≠some j)->∀ (s:Nat) (tm:Tms) (σ:Za),g≠[]->ZX O bf g s tm σ=Zd7 O bf j w g s tm σ
 | [],_,_,_,_,h=>absurd rfl h
 | o::g,hall,s,tm,σ,_=>by
  obtain ⟨hg,hd⟩:=hall o (by simp)
  have ih:∀ (tm:Tms) (σ:Za) (s:Nat),Za9 (some (j,w)) tm≠none->ZX O bf g s tm σ=Zd7 O bf j w g s tm σ:=by
   intro tm σ s hw
   by_cases he:g=[]
   ·subst he
    unfold Zd7
    cases hx:Za9 (some (j,w)) tm with
    | none=>exact absurd hx hw
    | some b=>cases b <;> rfl
   ·exact ZpL j w g (fun o ho=>hall o (by simp [ho])) s tm σ he
  cases hx:Za9 (some (j,w)) tm with
  | none =>
   rw [Zh1 (by simp only [ZS,hg,hx])]
   simp only [Zd7,hx]
  | some b =>
   cases b with
   | false =>
    have h1:ZX O bf (o::g) s tm σ=Zdk {} (ZX O bf g (s+nsite o.ins) (tput tm o.dst (.tup [])) σ) :=
     Zjl (v:=.tup []) (c:={}) (by simp only [ZS,hg,hx]) rfl
    rw [h1,ih _ _ _ (by rw [Ze6 hd,hx];simp)]
    unfold Zd7
    rw [Ze6 hd,hx]
    rfl
   | true =>
    have key:∀ r:Option (AVal×Za×Cls),(∀ v σ' c,r=some (v,σ',c)->Zas v=false->ZX O bf g (s+nsite o.ins) (tput tm o.dst v) σ'=ZX O bf (g.map unG) (s+nsite o.ins) (tput tm o.dst v) σ')->kC O bf o.dst g (s+nsite o.ins) tm r=kC O bf o.dst (g.map unG) (s+nsite o.ins) tm r:=by
     intro r hr
     cases r with
     | none=>rfl
     | some q =>
      obtain ⟨v,σ',c⟩:=q
      cases hp:Zas v with
      | true=>simp only [kC,hp,if_true]
      | false=>rw [Zmg _ _ _ _ _ _ _ hp,Zmg _ _ _ _ _ _ _ hp,hr v σ' c rfl hp]
    have h1:ZX O bf (o::g) s tm σ=kC O bf o.dst g (s+nsite o.ins) tm (exI O bf o.ins s tm σ):=by
     have h0:ZX O bf (o::g) s tm σ=ZX O bf (⟨o.dst,o.ins,none,o.after⟩::g) s tm σ:=by
      have hst:ZS O bf o s tm σ=ZS O bf ⟨o.dst,o.ins,none,o.after⟩ s tm σ:=by
       unfold ZS
       simp only [hg,hx]
       rfl
      simp only [ZX,hst]
     rw [h0,Zkr]
    rw [h1]
    unfold Zd7
    rw [hx]
    simp only [XJ]
    rw [show unG o=⟨o.dst,o.ins,none,o.after⟩ from rfl,Zkr]
    refine key _ fun v σ' c _ _=>?_
    rw [ih _ _ _ (by rw [Ze6 hd,hx];simp)]
    unfold Zd7
    rw [Ze6 hd,hx]
theorem ZDn (d:Option Nat) (i:Ins) (j:Nat) (w:Bool) (af:List Nat) (os:List AOp) (s:Nat) (tm:Tms) (σ:Za) (hd:decide (d=some j)=false) :
  ZX O bf (⟨d,i,some (j,w),af⟩::os) s tm σ=gKC O bf (Zy j w os).2 (s+sitesOf (⟨d,i,some (j,w),af⟩::(Zy j w os).1)) (Zd7 O bf j w (⟨d,i,some (j,w),af⟩::(Zy j w os).1) s tm σ):=by
 have h:=ZkI j w os
 have hall:∀ o ∈ (⟨d,i,some (j,w),af⟩::(Zy j w os).1:List AOp),o.guard=some (j,w)/\o.dst≠some j:=by
  intro o ho
  rcases XA.1 ho with rfl | ho
  ·exact ⟨rfl,by simpa using hd⟩
  ·exact Zlm j w os o ho
 rw [<-ZpL j w _ hall s tm σ (by simp),<-ZnM,Wt,h]
variable (O bf) in
def gWC (w:Bool) (g:List AOp) (s:Nat) (tm:Tms) (σ:Za):AVal->Option (Tms×Za×List Cls×Option AVal)
 | .bool b=>if b=w then ZX O bf (g.map unG) s tm σ else some (Zz g tm,σ,g.map fun _=>{},none)
 | .tup []=>some (Zz g tm,σ,g.map fun _=>{},none)
 | _=>none
theorem Zxe (j:Nat) (w:Bool) (g:List AOp) (s:Nat) (tm:Tms) (σ:Za):Zd7 O bf j w g s tm σ=gWC O bf w g s tm σ (tget tm j):=by
 unfold Zd7 Za9
 simp only
 generalize tget tm j=v
 cases v
 case bool b=>cases b <;> cases w <;> rfl
 case tup vs=>cases vs <;> rfl
 all_goals rfl
theorem ZBp (w:Bool) (g:List AOp) (s:Nat) (tm:Tms) (σ:Za) (b:Bool):gWC O bf w g s tm σ (.bool b)=if b=w then ZX O bf (g.map unG) s tm σ else some (Zz g tm,σ,g.map fun _=>{},none):=rfl
theorem ZwY (w:Bool) (g:List AOp) (s:Nat) (tm:Tms) (σ:Za):gWC O bf w g s tm σ (.tup [])=some (Zz g tm,σ,g.map fun _=>{},none):=rfl
theorem Zxa (q:Prop) [Decidable q] (t1 t2:Tms) (σ1 σ2:Za) (cs:List Cls):(if q then some (t1,σ1,cs,(none:Option AVal)) else some (t2,σ2,cs,none))=some ((if q then t1 else t2),(if q then σ1 else σ2),cs,none):=by split <;> rfl
end
section
theorem Zpa {r:AVal} {cs:List AVal} {σ:Za} (hr:Zam r=true) (hc:Zx cs=true):gcA 1 [r] (.var cs::σ)=([r],[.var cs]):=by
 have e1:=(ZeJ (Zd (.var cs::σ) 1 [0]) r hr)
 have e2:=(ZdL (Zd (.var cs::σ) 1 [0]) cs hc)
 have h1:Zv 1 [r] (.var cs::σ)=[0]:=by
  have : Z4 [r]=[]:=by simp only [Z4,e1.2,XO]
  simp only [Zv,this,XT,List.range_one,XM,Wn,XO,Xv,Zw,e2.2]
  rfl
 simp only [gcA,h1,ZZ,e1.1,Zl,Xv,Zt,Zb,Zk,e2.1]
theorem ZEt {r:AVal} {cs:List AVal} {σ:Za} (hr:Zam r=true) (hc:Zx cs=true):ZaV 1 (.var cs::σ) r=some (r,[.var cs]):=by
 simp only [ZaV,Zpa hr hc]
theorem Zws {σ:Za} {t:Nat} {cs:List AVal} (hs:σ[t]?=some (.var cs)) (hc:Zx cs=true):Zm σ 1000 [t] []=[t]:=by
 have hd:σ.getD t .free=.var cs:=by simp [Xo,hs]
 have e2:=(ZdL (fun _ _=>none) cs hc).2
 show Zm σ (999+1) [t] []=[t]
 simp only [Zm,XK,Xm,if_false,hd,Zw,e2,XT]
theorem ZrH {O:ZW} {bf:Nat->Bool} {σ:Za} {t sq f:Nat} {view:Bool} {rest:List AVal} {cs cs':List AVal} {r:AVal} (hs:σ[t]?=some (.var cs)) (hc:Zx cs=true) (hc':Zx cs'=true) (hb:bf f=false) (hp:rest.all Zaq=true) (hr:ZaW r=true) (hn:Zam r=true) (hv:viewR [.var cs'] r=some (r,[]))
  (h:O f (.ref 0 0::rest.map Zaf) [.var cs]=some (r,[.var cs'])):ZT O bf σ sq f 0 view (.ref t 0::rest)=some (r,σ.set t (.var cs'),{ any:=true,upd:=[(t,cs')] }):=by
 have htl:t < σ.length:=by
  rcases XaA t σ.length with h | h
  ·exact h
  ·rw [XQ h] at hs;cases hs
 have hup:ZbQ (σ.set t (.var cs')) [t]=[(t,cs')]:=by
  simp only [ZbQ,List.getElem?_set,if_pos htl,if_true]
 have hd:σ.getD t .free=.var cs:=by simp [Xo,hs]
 have hf0:ZR σ []=σ:=rfl
 have hsh:showAs σ (.ref t 0::rest)=some (.ref t 0::rest.map Zaf,[]):=by
  rw [showAs,show showA σ (.ref t 0)=some (.ref t 0,[]) from rfl,Zjp hp]
  rfl
 have href:Z4 (.ref t 0::rest.map Zaf)=[t]:=by
  rw [Z4,Zg1 hp];rfl
 unfold ZT Zcm
 rw [hb]
 simp only [Xm,if_false,hsh,hf0,href,Zws hs hc]
 unfold Zbv
 have hall:([t].all fun t=>okB (σ.getD t .free))=true:=by simp [XE,XN,hs,okB]
 rw [if_pos hall]
 have hρ:Zd σ 0 [t] t 0=some (0,0):=by simp [Zd,Zu,hs,Zb,Zt]
 have hheap:Zl σ 0 [t] (Zd σ 0 [t]) [t] 0=[.var cs]:=by
  simp only [Zl,hd,Zt,Zb,Zk,(ZdL _ cs hc).1]
 have hargs:ZZ (Zd σ 0 [t]) (.ref t 0::rest.map Zaf)=.ref 0 0::rest.map Zaf:=by
  rw [ZZ,Zha hp]
  simp only [ZP,hρ]
 rw [hargs,hheap,h]
 have hask:Zau view [t].length (some (r,[.var cs']))=some (r,[.var cs']):=by
  unfold Zau
  split
  ·have hnp:∀ x,r≠.pan x:=by rintro x rfl;simp [viewR,Zbc,ZaO] at hv
   rw [show ZcN [t].length (some (r,[.var cs']))=(match viewR [.var cs'] r with
    | some (r',ts)=>match gcA [t].length [r'] (ZR [.var cs'] ts) with
     | ([r''],σ')=>some (r'',σ')
     | _=>none
    | none=>none) from by cases r <;> first | rfl | exact absurd rfl (hnp _)]
   rw [hv]
   simp only [Xw,XF,XD,show ZR [ZU.var cs'] []=[.var cs'] from rfl,Zpa hn hc']
  ·rfl
 rw [hask]
 have hk:Zbq σ [t] [.var cs'] 0=true:=by
  simp [Zbq,okB,hs,ZdX,Zb]
 simp only [Zay,Xbf,WJ,Xm,if_false,Xw,XF,XD,Wf,X3,decide_true,hk,ZbF,WV,if_true,ZaX,ZaA,Xv,Zbt,XG,hd,Zb,Zk,(ZeJ _ r hn).1,(ZdL _ cs' hc').1,hup]
end
end
section
section
variable (c:Prop) [Decidable c]
theorem Zwb (t1 t2:Tms) (σ1 σ2:Za):(if c then some (ZY.normal,t1,σ1) else some (ZY.normal,t2,σ2))=some (ZY.normal,(if c then t1 else t2),(if c then σ1 else σ2)):=by split <;> rfl
theorem Zyi (t1 t2:Tms) (σ1 σ2:Za):(if c then some (ZY.ret,t1,σ1) else some (ZY.ret,t2,σ2))=some (ZY.ret,(if c then t1 else t2),(if c then σ1 else σ2)):=by split <;> rfl
theorem ZFt (t1 t2:Tms) (σ1 σ2:Za):(if c then some (t1,σ1,(none:Option AVal)) else some (t2,σ2,none))=some ((if c then t1 else t2),(if c then σ1 else σ2),none):=by split <;> rfl
theorem Zxb (n:Nat) (a b:AVal):(if c then (n,a) else (n,b))=(n,if c then a else b):=by split <;> rfl
theorem Ztd (a b:AVal) (σ1 σ2:Za):(if c then some (a,σ1) else some (b,σ2))=some ((if c then a else b),(if c then σ1 else σ2)):=by split <;> rfl
theorem ZA6 (a b:AVal) (σ1 σ2:Za) (x y:Cls):(if c then some (a,σ1,x) else some (b,σ2,y))=some ((if c then a else b),(if c then σ1 else σ2),if c then x else y):=by split <;> rfl
end
theorem ZF {α:Type} (p:Bool) (x y z:α):(if p=true then x else (if p=false then y else z))=if p=true then x else y:=by cases p <;> rfl
theorem ZE {α:Type} (p:Bool) (x y z:α):(if p=false then x else (if p=true then y else z))=if p=false then x else y:=by cases p <;> rfl
theorem ZH {α:Type} (p:Bool) (x y z:α):(if p=true then (if p=false then x else y) else z)=if p=true then y else z:=by cases p <;> rfl
theorem ZG {α:Type} (p:Bool) (x y z:α):(if p=false then (if p=true then x else y) else z)=if p=false then y else z:=by cases p <;> rfl
theorem Zb0 (ops:List AOp) (b:Nat) (cs:List Cls):Zc9 ops b [] cs=true:=rfl
theorem Zb4 (ops:List AOp) (b:Nat) (p:Nat×Nat) (l:List (Nat×Nat)) (cs:List Cls):Zc9 ops b (p::l) cs=((p.1 == p.2 || Zca (ops.getD p.1 default) (ops.getD p.2 default) (cs.getD p.1 {}) (cs.getD p.2 {}) (b+sitesOf (ops.take p.1))) && Zc9 ops b l cs):=by
 simp only [Zc9,XE]
theorem Zb1 (oj oi:AOp) (cj ci:Cls) (sj:Nat):Zca oj oi cj ci sj=(ZbN oj cj || ZbN oi ci || (ZcT cj && ZcT ci && (nsite oj.ins == 0 || !ci.rd.contains sj)) || ((ZaK oj.ins || (ZaR oj.ins && !cj.any)) && (ZcT ci && ci.rd.isEmpty)) || (ZaQ oj.ins && ZaK oi.ins && ci.any && ZaT cj ci) || (ZaQ oj.ins && (ZaR oi.ins || (Za5 oi.ins && ZbH cj ci)) && ZaT cj ci) || (Zbu oj.ins && Zbn oi.ins) || (ZaK oj.ins && ZaQ oi.ins && cj.any && Zbx cj ci sj) || (((ZaR oj.ins && !cj.any) || Za5 oj.ins) && ZcT ci && nsite oi.ins == 0 && ci.rd.all fun t=>!cj.wr.contains t && t != sj)):=rfl
theorem Zb9 (o:AOp) (rd wr:List Nat) (any:Bool) (got:List (Nat×Option Nat×Nat×AVal)) (upd:List (Nat×List AVal)):ZbN o ⟨rd,wr,any,got,upd⟩=(nsite o.ins == 0 && rd.isEmpty && wr.isEmpty && !any):=rfl
theorem Zb5 (rd wr:List Nat) (any:Bool) (got:List (Nat×Option Nat×Nat×AVal)) (upd:List (Nat×List AVal)):ZcT ⟨rd,wr,any,got,upd⟩=(wr.isEmpty && !any):=rfl
theorem Zao {α:Type} {l:List α} {i:Nat} {x:α} {r:List α} (h:l.drop i=x::r):l[i]?=some x/\l.drop (i+1)=r/\i < l.length:=by
 have h1:i < l.length:=by
  rcases XaA i l.length with h1 | h1
  ·exact h1
  ·rw [List.drop_eq_nil_of_le h1] at h;cases h
 rw [List.drop_eq_getElem_cons h1] at h
 injection h with h2 h3
 exact ⟨by rw [Xz h1,h2],h3,h1⟩
theorem Zdq {α:Type} {l:List α} {i:Nat} (h:l.drop i=[]):¬(i:Int) < l.length:=by
 have:=X7.1 h;omega
theorem iad {α:Type} {l:List α} {i:Nat} {x:α} (h:l[i]?=some x) (f:α->AVal) {k:Nat} (hk:(f x).cells.length=k) (σ:Za) (n:Bool) (kk:IntKind):Za6 σ k (.lst n (l.map f)) (.int kk (i:Int))=some (.iptr (f x).cells 0,σ,{}):=by
 have h0:(0:Int)<=(i:Int):=Int.natCast_nonneg i
 unfold Za6
 simp only [h0,if_true,X0,XW,h,XS,hk]
theorem Zbp {n:Int} (h0:-9223372036854775808<=n) (h:n<=9223372036854775807):IntKind.i64.wrap n=n:=by
 rw [IntKind.wrap_i64];omega
theorem ZbG {i n:Nat} (h:(i:Int) < n) (hn:n<=9223372036854775807):IntKind.i64.wrap ((i:Int)+1)=((i+1:Nat):Int):=by
 rw [Zbp (by omega) (by omega)];rfl
theorem ZaP {O:ZW} {bf:Nat->Bool} {f:Nat} {args:List AVal} {r:AVal} (h:O f args []=some (r,[])) (hb:bf f=false) (hp:args.all Zaq=true) (hn:args.map Zaf=args) (hv:ZcN 0 (some (r,[]))=some (r,[])) (hr:∀ sq,ZP (ZaS [] [] sq) r=r) (σ:Za) (sq own:Nat) (view:Bool):ZT O bf σ sq f own view args=some (r,σ,{}):=by
 rw [Zm6 hb hp,hn,h]
 have : Zau view 0 (some (r,[]))=some (r,[]):=by
  unfold Zau
  split
  ·exact hv
  ·rfl
 rw [this,ZlH _ _ _ _ (hr sq)]
abbrev Zhr:=List UInt8
def Zr (b:Zhr):AVal:=.lst false (b.map Zae)
structure ZlL where
 id:Int
 num:Int
 text:Zhr
 pair:Zhr
 data:Zhr
 deriving DecidableEq
def Zq (p:ZlL):List AVal:=[.int .i64 p.id,.int .i64 p.num,.str p.text,.str p.pair,Zr p.data]
def Zp (p:ZlL):AVal:=.agg (Zq p)
def Zs (l:List ZlL):AVal:=.lst false (l.map Zp)
def Zc (l:List Int):AVal:=.lst false (l.map (.int .i64 ·))
theorem ZN (l:Zhr):Zfg (l.map Zae)=some l:=by
 induction l with
 | nil=>rfl
 | cons b l ih =>
  simp only [XJ,Zfg,ih,Zae,ZmO,X0,UInt8.ofNat_toNat]
end
section
def Zac:=(aI (aI (aI (aI (aI (aI @ZBW @ZEG) (aI @Zvc @ZtA)) (aI (aI @ZFL @ZBs) (aI @Zy6 @ZFi))) (aI (aI (aI @ZqX @ZlK) (aI @ZCb @Zj9)) (aI (aI @ZBk @ZFa) (aI @Ztl @ZB8)))) (aI (aI (aI (aI @Zwh @ZGe) (aI @ZzU @ZFQ)) (aI (aI @Zs7 @ZCk) (aI @Zy4 @ZBG))) (aI (aI (aI @ZwQ @ZtR) (aI @ZA1 @ZBl)) (aI (aI @Zrr @ZN) (aI @Zwb @Zyi))))) (aI (aI (aI (aI (aI @ZFt @Zxb) (aI @Ztd @ZA6)) (aI (aI @Ztv @ZvR) (aI @ZEg @ZA0))) (aI (aI (aI @ZvA @ZzD) (aI @ZFe @ZbX)) (aI (aI @ZnJ @Zkr) (aI @ZDn @ZB0)))) (aI (aI (aI (aI @ZzV @ZGr) (aI @Zsx @Zzv)) (aI (aI @Zvx @Zmg) (aI @ZCD @ZvK))) (aI (aI (aI @ZsJ @ZCz) (aI @Zz0 @ZrL)) (aI (aI @Zya @Zub) (aI @Zxe @ZBp))))))
def Zab:=(aI (aI (aI (aI (aI (aI @ZwY @Zxa) (aI @Zxm @ZsS)) (aI (aI @ZCY @ZE2) (aI @Zb0 @Zb4))) (aI (aI (aI @Zb1 @Zb9) (aI @Zb5 @ZbV)) (aI (aI @ZE1 @ZAq) (aI @ZwI @ZC9)))) (aI (aI (aI (aI @ZyE @ZuC) (aI @ZsB @Zxv)) (aI (aI @Zrl @ZAF) (aI @Zsf @ZwF))) (aI (aI (aI @ZDV @Zzj) (aI @ZAn @ZAQ)) (aI (aI @ZxU @ZEi) (aI @ZzM @ZAW))))) (aI (aI (aI (aI (aI @Zv6 @ZEr) (aI @Zsl @ZEQ)) (aI (aI @ZDC @ZEw) (aI @Zzu @ZDl))) (aI (aI (aI @Zua @ZFY) (aI @Zr0 @Zxs)) (aI (aI @ZFf @ZFK) (aI @ZAM @Zu9)))) (aI (aI (aI (aI @Zum @ZBM) (aI @ZBo @ZDZ)) (aI (aI @Zzt @ZBm) (aI @ZzL @ZDz))) (aI (aI (aI @ZF4 @Zwr) (aI @Zt7 @ZAL)) (aI (aI @ZuQ @ZB7) (aI @ZGq @Zwm))))))
def Zg:=(aI (aI (aI (aI (aI (aI @Zxi @Zwi) (aI @Zsk @ZFR)) (aI (aI @ZAT @Zvd) (aI @Ztf @Zvq))) (aI (aI (aI @ZGn @ZrX) (aI @Zse @ZEM)) (aI (aI @Zs3 @ZBr) (aI @ZxC @ZuK)))) (aI (aI (aI (aI @Zyn @ZtH) (aI @ZCa @ZF9)) (aI (aI @ZsZ @ZBa) (aI @ZCX @Zv5))) (aI (aI (aI @ZAx @Zvh) (aI @ZFG @ZwV)) (aI (aI @ZFz @Zt5) (aI @Zzc @ZsL))))) (aI (aI (aI (aI (aI @ZEI @ZC3) (aI @Zy0 @Zsz)) (aI (aI @Zrx @ZBz) (aI @ZF1 @ZvU))) (aI (aI (aI @ZEc @ZvB) (aI @ZDK @ZwS)) (aI (aI @Zx6 @Zwd) (aI @ZFg @Zy5)))) (aI (aI (aI (aI @ZCm @Zyd) (aI @Zsr @ZCr)) (aI (aI @Zti @Zun) (aI @ZFs @ZDG))) (aI (aI (aI @ZyJ @Zu8) (aI @ZE9 @ZxK)) (aI (aI @ZFd @ZuZ) (aI @ZBK @Zw8))))))
def Zh:=(aI (aI (aI (aI (aI (aI @ZDv @ZBn) (aI @ZsM @Zsy)) (aI (aI @ZEo @Zwf) (aI @ZzI @ZAK))) (aI (aI (aI @Zur @Zvf) (aI @ZuS @Zrz)) (aI (aI @ZwE @ZAP) (aI @ZBt @ZtL)))) (aI (aI (aI (aI @ZzY @Zx7) (aI @ZGg @Zyv)) (aI (aI @ZDw @ZzB) (aI @Zv1 @Ztu))) (aI (aI (aI @ZF7 @Zwx) (aI @ZAE @Zyb)) (aI (aI @ZBA @ZFo) (aI @ZxM @ZGo))))) (aI (aI (aI (aI (aI @ZtI @Zz1) (aI @Zu7 @ZFB)) (aI (aI @ZES @Zsu) (aI @ZtM @ZCv))) (aI (aI (aI @Zs2 @ZB1) (aI @ZzC @ZCu)) (aI (aI @ZwO @ZBf) (aI @Zvr @ZDi)))) (aI (aI (aI (aI @ZvP @Ztn) (aI @ZrF @ZxL)) (aI (aI @ZtP @ZCy) (aI @Zvv @ZxF))) (aI (aI (aI @Zyy @Zuq) (aI @Zwt @Zvs)) (aI (aI @Zy3 @ZBL) (aI @ZFX @Zzs))))))
def Ze:=(aI (aI (aI (aI (aI (aI @ZvL @ZDT) (aI @ZwM @ZDs)) (aI (aI @ZyC @ZCQ) (aI @Zx0 @Zuy))) (aI (aI (aI @Zwj @ZAr) (aI @ZFU @ZxN)) (aI (aI @Zrq @ZwR) (aI @Zvk @ZD7)))) (aI (aI (aI (aI @Zyo @ZEx) (aI @ZD8 @Zs4)) (aI (aI @ZDP @Zsw) (aI @ZDr @Zu5))) (aI (aI (aI @ZuR @Zwo) (aI @ZtF @Ztq)) (aI (aI @Zys @ZuA) (aI @Zt6 @ZwC))))) (aI (aI (aI (aI (aI @ZxW @ZAo) (aI @Zyr @Zs8)) (aI (aI @ZFk @Zxx) (aI @ZCd @Zuk))) (aI (aI (aI @ZzK @ZCx) (aI @ZEX @ZFn)) (aI (aI @ZvZ @ZFE) (aI @ZEu @Zv7)))) (aI (aI (aI (aI @ZAp @ZCt) (aI @Zzm @ZyK)) (aI (aI @ZEB @ZDA) (aI @Zz2 @Zyl))) (aI (aI (aI @ZE5 @Zst) (aI @Zru @ZEO)) (aI (aI @Zwg @ZyO) (aI @Zue @Zxc))))))
def Zaa:=(aI (aI (aI (aI (aI (aI @Zz5 @ZvM) (aI @Zsg @ZGi)) (aI (aI @ZtS @ZBF) (aI @ZtE @ZGc))) (aI (aI (aI @ZD2 @ZCF) (aI @ZCs @ZyD)) (aI (aI @ZwH @Ztk) (aI @ZFW @Zul)))) (aI (aI (aI (aI @ZB2 @Zyj) (aI @Zvj @ZzR)) (aI (aI @ZwP @ZEW) (aI @ZwJ @ZvI))) (aI (aI (aI @ZtG @ZCG) (aI @ZFA @ZvX)) (aI (aI @ZEs @ZzE) (aI @Zvy @ZAX))))) (aI (aI (aI (aI (aI @Ztm @ZsI) (aI @Zyh @ZrC)) (aI (aI @ZEJ @ZCM) (aI @ZvE @ZrQ))) (aI (aI (aI @ZFC @Zwn) (aI @ZDm @Zt9)) (aI (aI @ZDR @ZCc) (aI @ZDH @ZFp)))) (aI (aI (aI (aI @ZvV @ZEp) (aI @Zuo @ZBi)) (aI (aI @ZtV @Zuz) (aI @Zxh @ZD9))) (aI (aI (aI @ZEz @ZvJ) (aI @Zte @ZAU)) (aI (aI @Zyp @ZuP) (aI @ZB4 @Zwq))))))
def Zj:=(aI (aI (aI (aI (aI (aI @ZCj @ZAb) (aI @Zu0 @Zty)) (aI (aI @Zvu @Zu3) (aI @Zv2 @Zvt))) (aI (aI (aI @ZBO @ZEk) (aI @Zwe @ZAR)) (aI (aI @ZBB @Zz9) (aI @ZAt @ZuM)))) (aI (aI (aI (aI @ZEf @ZEa) (aI @Zx1 @ZBd)) (aI (aI @ZrE @ZF0) (aI @ZtB @Zr7))) (aI (aI (aI @ZrR @Zuf) (aI @ZCA @Zxz)) (aI (aI @ZFJ @Zva) (aI @ZyR @ZzO))))) (aI (aI (aI (aI (aI @ZCn @ZAa) (aI @Zup @ZAj)) (aI (aI @ZsA @ZxX) (aI @ZC5 @Zvw))) (aI (aI (aI @ZBS @ZCi) (aI @ZD0 @ZzZ)) (aI (aI @ZC2 @ZC8) (aI @ZEZ @ZBw)))) (aI (aI (aI (aI @Zzw @Zrw) (aI @ZGj @ZyA)) (aI (aI @ZDF @Zyw) (aI @Ztp @ZEl))) (aI (aI (aI @Zzy @Ztx) (aI @ZyB @ZCB)) (aI (aI @ZF6 @Zz4) (aI @Zry @ZE8))))))
def Zi:=(aI (aI (aI (aI (aI @Zvb (aI @Zyu @ZFV)) (aI (aI @Ztc @Zsh) (aI @ZyP @ZsO))) (aI (aI @ZBg (aI @ZAY @ZET)) (aI (aI @Zuu @ZsN) (aI @ZEn @ZuN)))) (aI (aI (aI @ZAD (aI @Zy7 @ZD6)) (aI (aI @ZsC @ZuG) (aI @ZxA @Zuw))) (aI (aI (aI @ZyZ @Zto) (aI @ZAh @Zui)) (aI (aI @ZAI @ZwX) (aI @ZvG @ZsP))))) (aI (aI (aI (aI @ZEL (aI @ZyS @ZrV)) (aI (aI @Zxu @ZzJ) (aI @Zxw @ZDf))) (aI (aI (aI @ZFH @ZyT) (aI @Zwk @ZzS)) (aI (aI @ZFM @ZFj) (aI @ZDQ @ZtQ)))) (aI (aI (aI @ZBV (aI @ZAk @ZzN)) (aI (aI @Zr8 @Zsj) (aI @ZCe @Zzn))) (aI (aI (aI @ZBJ @Zsp) (aI @ZE0 @Zs1)) (aI (aI @ZCL @ZEt) (aI @ZE7 @Zo2))))))
def Z9:=(aI (aI (aI (aI (aI (aI @List.map_cons.{0,0} @List.map_nil.{0,0}) (aI @List.length_cons.{0} @List.length_nil.{0})) (aI (aI @List.replicate_zero.{0} @List.replicate_succ.{0}) (aI @List.append_nil.{0} @List.nil_append.{0}))) (aI (aI (aI @List.cons_append.{0} @List.getElem?_cons_zero.{0}) (aI @List.getElem?_cons_succ.{0} @List.set_cons_zero.{0})) (aI (aI @List.set_cons_succ.{0} @Nat.add_zero) (aI @Nat.zero_add @Bool.true_or)))) (aI (aI (aI (aI @Bool.false_or @Bool.or_true) (aI @Bool.or_false @Bool.and_true)) (aI (aI @Bool.true_and @Bool.and_self) (aI @Bool.and_false @Bool.false_and))) (aI (aI (aI @if_true.{1} @if_false.{1}) (aI @ite_true.{1} @ite_false.{1})) (aI (aI @Option.map_some.{0,0} @Option.map_none.{0,0}) (aI @and_self @and_true))))) (aI (aI (aI (aI (aI @true_and @and_false) (aI @false_and @true_or)) (aI (aI @or_true @false_or) (aI @or_false @not_true_eq_false))) (aI (aI (aI @not_false_eq_true @List.drop_zero.{0}) (aI @List.drop_succ_cons.{0} @List.take_succ_cons.{0})) (aI (aI @List.take_zero.{0} @List.all_cons.{0}) (aI @List.all_nil.{0} @List.isEmpty_nil.{0})))) (aI (aI (aI (aI @Bool.not_false @Bool.not_true) (aI @List.length_map.{0,0} @Bool.bne_false)) (aI (aI @Bool.bne_true @List.isEmpty_cons.{0}) (aI @List.getD_cons_zero.{0} @List.getD_cons_succ.{0}))) (aI (aI (aI @List.getD_nil.{0} @List.contains_nil.{0}) (aI @List.range_zero @List.flatMap_cons.{0,0})) (aI (aI @List.flatMap_nil.{0,0} @List.zip_cons_cons.{0,0}) (aI @List.zip_nil_left.{0,0} @List.zip_nil_right.{0,0}))))))
def Zf:=@Nat.not_lt_zero
def EQA := (aI (aI (aI (aI (aI (aI (aI Zac Zab) (aI Zaa Z9)) (aI (aI @exI.eq_1 @nsite.eq_1) (aI @nsite.eq_2 @nsite.eq_3))) (aI (aI (aI @nsite.eq_4 @nsite.eq_5) (aI @nsite.eq_6 @nsite.eq_7)) (aI (aI @nsite.eq_8 @nsite.eq_9) (aI @nsite.eq_10 (aI @nsite.eq_11 @nsite.eq_12))))) (aI (aI (aI (aI @nsite.eq_13 @nsite.eq_14) (aI @nsite.eq_15 @freeAt.eq_1)) (aI (aI @execI.eq_1 @execI.eq_2) (aI @execI.eq_3 (aI @execI.eq_4 @execI.eq_5)))) (aI (aI (aI @execI.eq_6 @execI.eq_7) (aI @execI.eq_8 @execI.eq_9)) (aI (aI @execI.eq_10 @execI.eq_11) (aI @execI.eq_12 (aI @execI.eq_13 @execI.eq_14)))))) (aI (aI (aI (aI (aI @execI.eq_15 @execI.eq_16) (aI @execI.eq_17 @execI.eq_18)) (aI (aI @execI.eq_19 @execI.eq_20) (aI @execI.eq_21 (aI @execI.eq_22 @execI.eq_23)))) (aI (aI (aI @execI.eq_24 @execI.eq_25) (aI @execI.eq_26 @execI.eq_27)) (aI (aI @execI.eq_28 @execI.eq_29) (aI @execI.eq_30 (aI @execI.eq_31 @execI.eq_32))))) (aI (aI (aI (aI @execI.eq_33 @execI.eq_34) (aI @execI.eq_35 @execI.eq_36)) (aI (aI @execI.eq_37 @execI.eq_38) (aI @execI.eq_39 (aI @execI.eq_40 @execI.eq_41)))) (aI (aI (aI @execI.eq_42 @execI.eq_43) (aI @execI.eq_44 @execI.eq_45)) (aI (aI @execI.eq_46 @execI.eq_47) (aI @execI.eq_48 (aI @execI.eq_49 @execI.eq_50))))))) (aI (aI (aI (aI (aI (aI @execI.eq_51 @execI.eq_52) (aI @execI.eq_53 @Opd.ev.eq_1)) (aI (aI @Opd.ev.eq_2 @tget.eq_1) (aI @tget.eq_2 (aI @tins.eq_1 @tins.eq_2)))) (aI (aI (aI @tput.eq_1 @tput.eq_2) (aI @keepL.eq_1 @sitesOf.eq_1)) (aI (aI @resA.eq_1 @resAll.eq_1) (aI @resAll.eq_2 (aI @resOne.eq_1 @resOne.eq_2))))) (aI (aI (aI (aI @enterA.eq_1 @enterA.eq_2) (aI @partA.eq_1 @partA.eq_2)) (aI (aI @faddrA.eq_1 @faddrA.eq_2) (aI @faddrA.eq_3 (aI @faddrA.eq_4 @setAt.eq_1)))) (aI (aI (aI @binA.eq_1 @binA.eq_2) (aI @binA.eq_3 @binA.eq_4)) (aI (aI @binA.eq_5 @arithA.eq_1) (aI @arithA.eq_2 (aI @arithA.eq_3 @arithA.eq_4)))))) (aI (aI (aI (aI (aI @arithA.eq_5 @arithA.eq_6) (aI @arithA.eq_7 @arithA.eq_8)) (aI (aI @arithA.eq_9 @arithA.eq_10) (aI @arithA.eq_11 (aI @arithA.eq_12 @arithA.eq_13)))) (aI (aI (aI @arithA.eq_14 @arithA.eq_15) (aI @arithA.eq_16 @ldA.eq_1)) (aI (aI @ldA.eq_2 @ldA.eq_3) (aI @ldA.eq_4 (aI @stA.eq_1 @stA.eq_2))))) (aI (aI (aI (aI @stA.eq_3 @oI.eq_1) (aI @oN.eq_1 @oM.eq_1)) (aI (aI @oF.eq_1 @oL.eq_1) (aI @List.sum_cons.{0} (aI @List.sum_nil.{0} @eq_self.{1})))) (aI (aI (aI @beq_self_eq_true.{0} @Bool.false_eq_true) (aI @Option.some.injEq.{0} @decide_true)) (aI (aI @decide_false @List.foldl_cons.{0, 0}) (aI @List.foldl_nil.{0, 0} (aI @List.contains_cons.{0} @ne_eq.{1}))))))))
end
section
theorem ZEq {O:ZW} {bf:Nat->Bool} {σ:Za} {sq f own:Nat} {view:Bool} {args vs vs':List AVal} {ids:List Nat} {h0 h:Za} {r0 r:AVal} (hb:bf f=false) (hsh:showAs σ args=some (vs,[])) (hre:Zm σ 1000 (Z4 vs) []=ids) (hne:ids.isEmpty=false)
  (hall:(ids.all fun t=>okB (σ.getD t .free))=true) (hvs:ZZ (Zd σ 0 ids) vs=vs') (hh:Zl σ 0 ids (Zd σ 0 ids) ids 0=h0) {hh0:Za} (hO:O f vs' h0=some (r0,hh0)) (hv:Zau view ids.length (some (r0,hh0))=some (r,h))
  (hl1:h.length<=ids.length+own) (hl2:ids.length<=h.length) (hk:Zbq σ ids h 0=true) (hff:ZbF σ sq own=true) {r':AVal} (hr:ZP (ZaS σ ids sq) r=r') {σ':Za} (hlay:ZaX σ ids sq h 0 σ=σ') {u:List (Nat×List AVal)} (hu:ZbQ σ' ids=u) :
  ZT O bf σ sq f own view args=some (r',σ',{ any:=true,upd:=u }):=by
 subst hr hlay hu
 unfold ZT Zcm
 rw [hb]
 simp only [Xm,if_false,hsh,show ZR σ []=σ from rfl,hre]
 unfold Zbv
 rw [if_pos hall,hvs,hh,hO,hv]
 simp only [Zay,hne,WJ,Xm,if_false,hl1,hl2,decide_true,hk,hff,WV,if_true]
theorem Zyx {O:ZW} {bf:Nat->Bool} {σ:Za} {t sq f own k:Nat} {view:Bool} {args args' xs xs':List AVal} {r:AVal} {b':ZU} (hs:σ[t]?=some (.row 0 k xs)) (hb:bf f=true) (hff:ZbF σ sq own=true)
  (href:Z4 args=[t]) (hren:∀ ρ:Rho,ρ t 0=some (0,0)->ZZ ρ args=args') (hr:∀ ρ:Rho,ZP ρ r=r) (hb':b'=.row 0 k xs'\/b'=.frow 0 k xs')
  (h:Zau view 1 (O f args' [.row 0 k xs])=some (r,[b'])):ZT O bf σ sq f own view args=some (r,σ.set t b',{ any:=true }):=by
 have hd:σ.getD t .free=.row 0 k xs:=by simp [Xo,hs]
 have hf0:ZR σ []=σ:=rfl
 unfold ZT Zcm
 rw [hb]
 simp only [if_true,hf0,href]
 have hreach:Zm σ 1000 [t] []=[t]:=by
  simp only [Zm,XK,Xm,if_false,hd,Zw,XT]
 rw [hreach]
 unfold Zbv
 have hall:([t].all fun t=>okB (σ.getD t .free))=true:=by simp [XE,XN,hs,okB]
 rw [if_pos hall]
 have hρ:Zd σ 0 [t] t 0=some (0,0):=by simp [Zd,Zu,hs,Zb,Zt]
 have hheap:Zl σ 0 [t] (Zd σ 0 [t]) [t] 0=[.row 0 k xs]:=by
  simp only [Zl,hd,Zt,Zb,Zk,Nat.not_lt_zero,false_and,if_false]
 rw [hren _ hρ,hheap]
 simp only [Xw,XF,XD]
 rw [h]
 have hk:Zbq σ [t] [b'] 0=true:=by
  rcases hb' with rfl | rfl <;> simp [Zbq,okB,hs,ZdX,Zb]
 have hren':∀ ρ,Zk ρ (Zbt σ [t] 0 b') b'=b':=by
  intro ρ
  rcases hb' with rfl | rfl <;> simp [Zbt,hs,Zb,Zk]
 simp only [Zay,Xbf,WJ,Xm,if_false,Xw,XF,XD,Nat.le_add_right,X3,decide_true,hk,hff,WV,if_true,ZaX,ZbQ,ZaA,Xv,hr,hren']
 have htl:t < σ.length:=(Xn.1 hs).1
 have hg:(σ.set t b')[t]?=some b':=by simp [htl]
 simp only [XM,Wn,XO,hg]
 rcases hb' with rfl | rfl <;> rfl
end
section
theorem ZDb {O:ZW} {bf:Nat->Bool} {σ:Za} {f:Nat} {args vs:List AVal} {ts:List Nat} {r r':AVal} (hb:bf f=false) (hsh:showAs σ args=some (vs,ts)) (hp:vs.all Zaq=true) (hm:vs.map Zaf=vs) (h:O f vs []=some (r,[])) (hv:ZcN 0 (some (r,[]))=some (r',[])) (sq own:Nat) :
  ZT O bf σ sq f own true args=if ZaW r' then some (r',σ,{ rd:=ts }) else if Zdw σ ts r' then some (r',σ,{ rd:=ts }) else some (ZP (ZaS [] [] sq) r',ZR σ ts,{ rd:=ts,wr:=ts }):=by
 have hr:=Zg1 hp
 have hn:=fun ρ=>Zha (ρ:=ρ) hp
 rw [hm] at hr
 simp only [hm] at hn
 unfold ZT Zcm
 rw [hb]
 simp only [Xm,if_false,hsh]
 rw [hr]
 have h2:∀ σ,Zm σ 1000 [] []=[]:=fun _=>rfl
 rw [h2]
 unfold Zbv
 simp only [XN,if_true,hn,Zl,XF,h]
 have : Zau true 0 (some (r,[]))=some (r',[]):=by unfold Zau;rw [if_pos rfl,hv]
 rw [this]
 simp only [Zay,List.isEmpty_nil,WV,if_true]
theorem ZsR {O:ZW} {bf:Nat->Bool} {σ:Za} {f:Nat} {args vs:List AVal} {ts:List Nat} {r r':AVal} (hb:bf f=false) (hsh:showAs σ args=some (vs,ts)) (hp:vs.all Zaq=true) (hm:vs.map Zaf=vs) (h:O f vs []=some (r,[])) (hv:ZcN 0 (some (r,[]))=some (r',[])) (hf:ZaW r'=true) (sq own:Nat) :
  ZT O bf σ sq f own true args=some (r',σ,{ rd:=ts }):=by
 rw [ZDb hb hsh hp hm h hv,if_pos hf]
end
section
def ZgQ:Zo:=(.seq (.region [oM 12 0,oI 13 (.call 64 0 true [(.t 12)]),oM 2 13] none [2]) .ret)
def Zlx:Zo:=ZgQ
def ZiN:=xw Zlx ZgQ rfl
def Zgo:Zo:=(.seq (.region [oI 7 (.nxt (.t 6)),oI 8 (.ext (.t 7) 0)] none [8,7,6,0]) (.seq (.cond (.t 8) .skip (.exit 0)) (.block 1 (.seq (.region [oI 9 (.ext (.t 7) 2),oM 4 9] none [6,4,0]) (.seq (.region [oM 10 4,oI 11 (.bin .eql (.t 10) (.c (.int .i32 0)))] none [11,6,0]) (.cond (.t 11) (.seq (.region [oI 2 (.mov (.c (.bool false)))] none [2]) .ret) .skip))))))
def ZmA:Zo:=Zgo
def ZjZ:=xw ZmA Zgo rfl
def ZgC:Zo:=(.seq (.region [oI 2 (.mov (.c (.bool false)))] none [0]) (.seq (.seq (.region [oM 5 0,oI 6 (.rng (.t 5))] none [6,0]) (.block 0 (.loop [6,0] ZmA))) Zlx))
def Ziu:Z8:=⟨[(.tmp 2)],ZgC⟩
theorem ZAm:FC 54=some Ziu:=by kernel_rfl
theorem Zjk:Ziu.body=ZgC:=rfl
theorem Zjo:Ziu.res=[(.tmp 2)]:=rfl
noncomputable def ZjK (m:Nat) (tm:Tms) (σ:Za):Option (AVal×Za):=(ZaD m Ziu (Za0 FC PR BY m Zlx (Wx (ZaG 0) (evL FC PR BY m [6,0] ZmA tm σ))))
def Zfu:Zo:=(.seq (.region [oI 2 (.mov (.c (.bool true)))] none [2]) .ret)
def ZkS:Zo:=Zfu
def Zh6:=xw ZkS Zfu rfl
def ZfZ:Zo:=(.seq (.seq (.region [oM 5 0,oI 6 (.bin .neq (.t 5) (.c (.str [])))] none [6,0]) (.cond (.t 6) .skip (.exit 0))) (.block 1 (.seq (.region [oM 8 0,oI 9 (.call 59 0 true [(.t 8)]),oM 7 9,oI 10 (.ext (.t 7) 0),oI 11 (.ext (.t 7) 1),oM 3 10,oM 4 11] none [4,3,0]) (.seq (.seq (.region [oM 12 4,oI 13 (.bin .eql (.t 12) (.c (.int .i64 0))),oM 14 13,⟨(some 15),(.mov (.t 3)),(some (14,false)),[]⟩,⟨(some 16),(.bin .eql (.t 15) (.c (.int .i64 0))),(some (14,false)),[]⟩,oI 17 (.pick (.t 14) (.c (.bool true)) (.t 16))] none [17,4,0]) (.cond (.t 17) (.seq (.region [oI 2 (.mov (.c (.bool false)))] none [2]) .ret) .skip)) (.region [oM 18 0,oM 19 4,oI 20 (.sslice (.t 18) (some (.t 19)) none),oM 0 20] none [0])))))
def ZkV:Zo:=ZfZ
def Zh4:=xw ZkV ZfZ rfl
def ZfR:Zo:=(.seq (.region [oI 2 (.mov (.c (.bool false)))] none [0]) (.seq (.block 0 (.loop [0] ZkV)) ZkS))
def Zj3:Z8:=⟨[(.tmp 2)],ZfR⟩
theorem Zsn:FC 52=some Zj3:=by kernel_rfl
theorem ZhH:Zj3.body=ZfR:=rfl
theorem ZhK:Zj3.res=[(.tmp 2)]:=rfl
noncomputable def ZhZ (m:Nat) (tm:Tms) (σ:Za):Option (AVal×Za):=(ZaD m Zj3 (Za0 FC PR BY m ZkS (Wx (ZaG 0) (evL FC PR BY m [0] ZkV tm σ))))
def ZbM:Zo:=(.seq (.seq (.region [oM 69 4,oM 70 6,oI 71 (.bin .lss (.t 69) (.t 70)),oM 72 71,⟨(some 73),(.mov (.t 4)),(some (72,false)),[]⟩,⟨(some 74),(.bin .gtr (.t 73) (.c (.int .i64 1114111))),(some (72,false)),[]⟩,oI 75 (.pick (.t 72) (.c (.bool true)) (.t 74)),oM 76 75,⟨(some 77),(.mov (.t 4)),(some (76,false)),[]⟩,⟨(some 78),(.bin .geq (.t 77) (.c (.int .i64 55296))),(some (76,false)),[]⟩,⟨(some 79),(.mov (.t 78)),(some (76,false)),[]⟩,⟨(some 80),(.mov (.t 4)),(some (79,true)),[]⟩,⟨(some 81),(.bin .lss (.t 80) (.c (.int .i64 57344))),(some (79,true)),[]⟩,⟨(some 82),(.pick (.t 79) (.t 81) (.c (.bool false))),(some (76,false)),[]⟩,oI 83 (.pick (.t 76) (.c (.bool true)) (.t 82))] none [83,5,4]) (.cond (.t 83) (.seq (.region [oI 2 (.mov (.c (.int .i64 0))),oI 3 (.mov (.c (.int .i64 0)))] none [3,2]) .ret) .skip)) (.seq (.region [oM 84 4,oM 85 5,oI 86 (.bin .add (.t 85) (.c (.int .i64 1))),oM 2 84,oM 3 86] none [3,2]) .ret))
def Zlr:Zo:=ZbM
def Zb2:=xw Zlr ZbM rfl
def ZbL:Zo:=(.seq (.seq (.region [oM 46 7,oM 47 5,oI 48 (.bin .leq (.t 46) (.t 47))] none [48,7,6,5,4,0]) (.cond (.t 48) .skip (.exit 1))) (.seq (.block 2 (.seq (.seq (.region [oM 51 0,oM 52 7,oI 53 (.sindex (.t 51) (.t 52)),oI 54 (.bin .lss (.t 53) (.c (.int .u8 128))),oM 55 54,⟨(some 56),(.mov (.t 0)),(some (55,false)),[]⟩,⟨(some 57),(.mov (.t 7)),(some (55,false)),[]⟩,⟨(some 58),(.sindex (.t 56) (.t 57)),(some (55,false)),[]⟩,⟨(some 59),(.bin .geq (.t 58) (.c (.int .u8 192))),(some (55,false)),[]⟩,oI 60 (.pick (.t 55) (.c (.bool true)) (.t 59))] none [60,7,6,5,4,0]) (.cond (.t 60) (.seq (.region [oI 2 (.mov (.c (.int .i64 0))),oI 3 (.mov (.c (.int .i64 0)))] none [3,2]) .ret) .skip)) (.region [oM 61 4,oI 62 (.bin .mul (.t 61) (.c (.int .i64 64))),oM 63 0,oM 64 7,oI 65 (.sindex (.t 63) (.t 64)),oI 66 (.i2i .i64 (.t 65)),oI 67 (.bin .add (.t 62) (.t 66)),oI 68 (.bin .sub (.t 67) (.c (.int .i64 128))),oM 4 68] none [7,6,5,4,0]))) (.region [oM 49 7,oI 50 (.bin .add (.t 49) (.c (.int .i64 1))),oM 7 50] none [7,6,5,4,0])))
def Zme:Zo:=ZbL
def Zcf:=xw Zme ZbL rfl
def Zbw:Zo:=(.seq (.region [oI 2 (.mov (.c (.int .i64 0))),oI 3 (.mov (.c (.int .i64 0)))] none [0]) (.seq (.region [oM 8 0,oI 9 (.sindex (.t 8) (.c (.int .i64 0))),oI 10 (.i2i .i64 (.t 9)),oM 4 10] none [4,0]) (.seq (.region [oI 5 (.mov (.c (.int .i64 0))),oI 6 (.mov (.c (.int .i64 0)))] none [4,0]) (.seq (.block 0 (.seq (.region [oM 12 4,oI 13 (.bin .lss (.t 12) (.c (.int .i64 128))),oM 11 13] none [11,4,0]) (.cond (.t 11) (.seq (.region [oM 14 4,oM 2 14,oI 3 (.mov (.c (.int .i64 1)))] none [3,2]) .ret) (.seq (.region [oM 16 4,oI 17 (.bin .geq (.t 16) (.c (.int .i64 192))),oM 18 17,⟨(some 19),(.mov (.t 4)),(some (18,true)),[]⟩,⟨(some 20),(.bin .lss (.t 19) (.c (.int .i64 224))),(some (18,true)),[]⟩,oI 21 (.pick (.t 18) (.t 20) (.c (.bool false))),oM 15 21] none [15,4,0]) (.cond (.t 15) (.region [oM 22 4,oI 23 (.bin .sub (.t 22) (.c (.int .i64 192))),oI 5 (.mov (.c (.int .i64 1))),oI 6 (.mov (.c (.int .i64 128))),oM 4 23] none [6,5,4,0]) (.seq (.region [oM 25 4,oI 26 (.bin .geq (.t 25) (.c (.int .i64 224))),oM 27 26,⟨(some 28),(.mov (.t 4)),(some (27,true)),[]⟩,⟨(some 29),(.bin .lss (.t 28) (.c (.int .i64 240))),(some (27,true)),[]⟩,oI 30 (.pick (.t 27) (.t 29) (.c (.bool false))),oM 24 30] none [24,4,0]) (.cond (.t 24) (.region [oM 31 4,oI 32 (.bin .sub (.t 31) (.c (.int .i64 224))),oI 5 (.mov (.c (.int .i64 2))),oI 6 (.mov (.c (.int .i64 2048))),oM 4 32] none [6,5,4,0]) (.seq (.region [oM 34 4,oI 35 (.bin .geq (.t 34) (.c (.int .i64 240))),oM 36 35,⟨(some 37),(.mov (.t 4)),(some (36,true)),[]⟩,⟨(some 38),(.bin .lss (.t 37) (.c (.int .i64 248))),(some (36,true)),[]⟩,oI 39 (.pick (.t 36) (.t 38) (.c (.bool false))),oM 33 39] none [33,4,0]) (.cond (.t 33) (.region [oM 40 4,oI 41 (.bin .sub (.t 40) (.c (.int .i64 240))),oI 5 (.mov (.c (.int .i64 3))),oI 6 (.mov (.c (.int .i64 65536))),oM 4 41] none [6,5,4,0]) (.seq (.region [oI 2 (.mov (.c (.int .i64 0))),oI 3 (.mov (.c (.int .i64 0)))] none [3,2]) .ret)))))))))) (.seq (.seq (.region [oM 42 0,oI 43 (.slen (.t 42)),oM 44 5,oI 45 (.bin .leq (.t 43) (.t 44))] none [45,6,5,4,0]) (.cond (.t 45) (.seq (.region [oI 2 (.mov (.c (.int .i64 0))),oI 3 (.mov (.c (.int .i64 0)))] none [3,2]) .ret) .skip)) (.seq (.seq (.region [oI 7 (.mov (.c (.int .i64 1)))] none [7,6,5,4,0]) (.block 1 (.loop [7,6,5,4,0] Zme))) Zlr))))))
def ZiH:Z8:=⟨[(.tmp 2),(.tmp 3)],Zbw⟩
theorem ZxH:FC 59=some ZiH:=by kernel_rfl
theorem Zb6:ZiH.body=Zbw:=rfl
theorem Zcb:ZiH.res=[(.tmp 2),(.tmp 3)]:=rfl
noncomputable def Ze5 (m:Nat) (tm:Tms) (σ:Za):Option (AVal×Za):=(ZaD m ZiH (Za0 FC PR BY m Zlr (Wx (ZaG 1) (evL FC PR BY m [7,6,5,4,0] Zme tm σ))))
end
section
theorem Zjw (l:List UInt8) (p:Nat):ZeA l p=Lib.decodeL (l.drop p):=by
 have:=Lib.decodeL_drop ⟨l.toArray⟩ p
 simpa [ZeA] using this.symm
def zfG:Nat->List UInt8->Bool
 | 0,_=>true
 | n+1,l=>if l=[] then true else if (Lib.decodeL l).1=0 then false else zfG n (l.drop (Lib.decodeL l).2)
def ZgB (l:List UInt8):Bool:=zfG l.length l && Lib.validD l
theorem ZEh (l:List UInt8):E 64 [.str l] []=some (.bool (Lib.validD l),[]):=Zct.2 ⟨1,rfl⟩
theorem Zms (σ:Za) (sq own:Nat) (view:Bool) (l:List UInt8):ZT E BY σ sq 64 own view [.str l]=some (.bool (Lib.validD l),σ,{}) :=
 ZaP (ZEh l) (by kernel_rfl) (by simp -implicitDefEqProofs only [Zac,Zab,Zg,Zh,Ze,Zaa,Zj,Zi,Z9,Zf,eq_self,implies_true,Xm,Zc,Zr,Zs,Zp,Zq,Zc]) (by simp -implicitDefEqProofs only [Zac,Zab,Zg,Zh,Ze,Zaa,Zj,Zi,Z9,Zf,eq_self,implies_true,Xm,Zc,Zr,Zs,Zp,Zq,Zc]) rfl (fun _=>rfl) _ _ _ _
theorem Zo7 (s:List UInt8):∀ (n p:Nat),s.length - p<=n->p<=s.length->ZjK 0 [(6,.ref 0 0),(0,.str s)] [.siter s p]=some (.bool (zfG n (s.drop p) && Lib.validD s),[])
 | n,p,hn,hp=>by
  by_cases h:p < s.length
  ·obtain ⟨n,rfl⟩:∃ m,n=m+1:=⟨n - 1,by omega⟩
   have hw:=Lib.decodeL_width (s.drop p)
   have hne:s.drop p≠[]:=by rw [ne_eq,X7];omega
   have hle:=Lib.decodeL_le (s.drop p) hne
   rw [WG] at hle
   have ih:=Zo7 s n (p+(Lib.decodeL (s.drop p)).2) (by omega) (by omega)
   rw [<-XaV] at ih
   unfold ZjK at ih ⊢
   rw [Z7]
   by_cases hz:(Lib.decodeL (s.drop p)).1=0
   ·have hz':((Lib.decodeL (s.drop p)).1:Int)=0:=by omega
    simp -implicitDefEqProofs only [EQA,Zg,Zh,Ze,Zj,Zi,Zf,ZF,ZE,ZH,ZG,ZL,ZI,ZJ,ZM,ZK,implies_true,forall_const,Xh,Xi,Xl,Xd,Xe,Xj,Xk,ZC,ZD,unA,Zy,Zz,unG,reduceCtorEq,Zn,decide_eq_true_eq,Xf,Xc,ite_self,↓reduceIte,Zx,ZB,gcT,gcA,Zv,Zm,Zd,Zl,Zu,Zb,Zt,Zk,Zw,Xg,Zjk,ZgC,Zjo,ZiN,ZgQ,ZjZ,Zgo,Zc,Zr,Zs,Zp,Zq,ZN,h,Zjw,hz',Zms]
    rw [zfG,if_neg hne,if_pos hz];rfl
   ·have hz':(((Lib.decodeL (s.drop p)).1:Int) == 0)=false:=by rw [beq_eq_false_iff_ne];omega
    simp -implicitDefEqProofs only [EQA,Zg,Zh,Ze,Zj,Zi,Zf,ZF,ZE,ZH,ZG,ZL,ZI,ZJ,ZM,ZK,implies_true,forall_const,Xh,Xi,Xl,Xd,Xe,Xj,Xk,ZC,ZD,unA,Zy,Zz,unG,reduceCtorEq,Zn,decide_eq_true_eq,Xf,Xc,ite_self,↓reduceIte,Zx,ZB,gcT,gcA,Zv,Zm,Zd,Zl,Zu,Zb,Zt,Zk,Zw,Xg,Zjk,ZgC,Zjo,ZiN,ZgQ,ZjZ,Zgo,Zc,Zr,Zs,Zp,Zq,ZN,h,Zjw,hz',Zms]
    rw [ih,zfG,if_neg hne,if_neg hz]
  ·have he:s.drop p=[]:=by rw [X7];omega
   unfold ZjK
   rw [Z7]
   simp -implicitDefEqProofs only [EQA,Zg,Zh,Ze,Zj,Zi,Zf,ZF,ZE,ZH,ZG,ZL,ZI,ZJ,ZM,ZK,implies_true,forall_const,Xh,Xi,Xl,Xd,Xe,Xj,Xk,ZC,ZD,unA,Zy,Zz,unG,reduceCtorEq,Zn,decide_eq_true_eq,Xf,Xc,ite_self,↓reduceIte,Zx,ZB,gcT,gcA,Zv,Zm,Zd,Zl,Zu,Zb,Zt,Zk,Zw,Xg,Zjk,ZgC,Zjo,ZiN,ZgQ,ZjZ,Zgo,Zc,Zr,Zs,Zp,Zq,ZN,h,Zms]
   rw [he]
   cases n <;> simp [zfG]
theorem ZvD (s:List UInt8):E 54 [.str s] []=some (.bool (ZgB s),[]):=by
 rw [Zar (by rfl) ZAm]
 have:=Zo7 s s.length 0 (by omega) (by omega)
 unfold ZjK at this
 simp -implicitDefEqProofs only [EQA,Zg,Zh,Ze,Zj,Zi,Zf,ZF,ZE,ZH,ZG,ZL,ZI,ZJ,ZM,ZK,implies_true,forall_const,Xh,Xi,Xl,Xd,Xe,Xj,Xk,ZC,ZD,unA,Zy,Zz,unG,reduceCtorEq,Zn,decide_eq_true_eq,Xf,Xc,ite_self,↓reduceIte,Zx,ZB,gcT,gcA,Zv,Zm,Zd,Zl,Zu,Zb,Zt,Zk,Zw,Xg,Zjk,ZgC,Zjo,ZiN,ZgQ,ZjZ,Zgo,Zc,Zr,Zs,Zp,Zq,ZN,Zc]
 rw [this,XaI];rfl
theorem Zzd (σ:Za) (sq own:Nat) (view:Bool) (l:List UInt8):ZT E BY σ sq 54 own view [.str l]=some (.bool (ZgB l),σ,{}) :=
 ZaP (ZvD l) (by kernel_rfl) (by simp -implicitDefEqProofs only [Zac,Zab,Zg,Zh,Ze,Zaa,Zj,Zi,Z9,Zf,eq_self,implies_true,Xm,Zc,Zr,Zs,Zp,Zq,Zc]) (by simp -implicitDefEqProofs only [Zac,Zab,Zg,Zh,Ze,Zaa,Zj,Zi,Z9,Zf,eq_self,implies_true,Xm,Zc,Zr,Zs,Zp,Zq,Zc]) rfl (fun _=>rfl) _ _ _ _
def Zbe:List UInt8->Int->Option Int
 | [],c=>some c
 | b::r,c=>if b.toNat < 128\/192<=b.toNat then none else Zbe r (c*64+b.toNat - 128)
def Za1 (n least:Int):Option Int->AVal
 | none=>.tup [.int .i64 0,.int .i64 0]
 | some c=>if c < least\/1114111 < c\/(55296<=c/\c < 57344) then .tup [.int .i64 0,.int .i64 0] else .tup [.int .i64 c,.int .i64 (n+1)]
theorem Zmm (b:UInt8):(b.toNat:Int) < 256:=by have:=b.toNat_lt;omega
theorem wrap_i64 {n:Int} (h0:-9223372036854775808<=n) (h:n<=9223372036854775807):IntKind.i64.wrap n=n:=Zbp h0 h
theorem ZiY (s:List UInt8) (least:Int) (n:Nat) (hn:n<=3):∀ (r:List UInt8) (i:Nat) (c:Int),1<=i->i+r.length=n+1->(∀ j,j < r.length->s[i+j]?=r[j]?)->0<=c->(c+1)*64 ^ r.length<=2 ^ 40->n < s.length ->
  Ze5 0 [(7,.int .i64 i),(6,.int .i64 least),(5,.int .i64 n),(4,.int .i64 c),(0,.str s)] []=some (Za1 n least (Zbe r c),[])
 | [],i,c,hi,hl,hs,hc,hb,hns=>by
  simp only [XF,Wf] at hl
  simp only [XF,Int.pow_zero,Int.mul_one] at hb
  have h1:¬((i:Int)<=n):=by omega
  have h2:IntKind.i64.wrap ((n:Int)+1)=n+1:=Zbp (by omega) (by omega)
  unfold Ze5
  rw [Z7]
  by_cases h4:c < least
  ·have e:Za1 n least (Zbe [] c)=.tup [.int .i64 0,.int .i64 0]:=by simp [Za1,Zbe,h4]
   rw [e]
   simp -implicitDefEqProofs only [EQA,Zg,Zh,Ze,Zj,Zi,Zf,ZF,ZE,ZH,ZG,ZL,ZI,ZJ,ZM,ZK,implies_true,forall_const,Xh,Xi,Xl,Xd,Xe,Xj,Xk,ZC,ZD,unA,Zy,Zz,unG,reduceCtorEq,Zn,decide_eq_true_eq,Xf,Xc,ite_self,↓reduceIte,Zx,ZB,gcT,gcA,Zv,Zm,Zd,Zl,Zu,Zb,Zt,Zk,Zw,Xg,Zb6,Zbw,Zcb,Zb2,ZbM,Zcf,ZbL,Zc,Zr,Zs,Zp,Zq,ZN,h1,h2,h4]
  by_cases h5:c > 1114111
  ·have e:Za1 n least (Zbe [] c)=.tup [.int .i64 0,.int .i64 0]:=by
    have h5':1114111 < c:=h5
    simp [Za1,Zbe,h5']
   rw [e]
   simp -implicitDefEqProofs only [EQA,Zg,Zh,Ze,Zj,Zi,Zf,ZF,ZE,ZH,ZG,ZL,ZI,ZJ,ZM,ZK,implies_true,forall_const,Xh,Xi,Xl,Xd,Xe,Xj,Xk,ZC,ZD,unA,Zy,Zz,unG,reduceCtorEq,Zn,decide_eq_true_eq,Xf,Xc,ite_self,↓reduceIte,Zx,ZB,gcT,gcA,Zv,Zm,Zd,Zl,Zu,Zb,Zt,Zk,Zw,Xg,Zb6,Zbw,Zcb,Zb2,ZbM,Zcf,ZbL,Zc,Zr,Zs,Zp,Zq,ZN,h1,h2,h4,h5]
  by_cases h6:c>=55296
  ·by_cases h7:c < 57344
   ·have e:Za1 n least (Zbe [] c)=.tup [.int .i64 0,.int .i64 0]:=by
     simp only [Za1,Zbe];rw [if_pos (Xy (Xy ⟨h6,h7⟩))]
    rw [e]
    simp -implicitDefEqProofs only [EQA,Zg,Zh,Ze,Zj,Zi,Zf,ZF,ZE,ZH,ZG,ZL,ZI,ZJ,ZM,ZK,implies_true,forall_const,Xh,Xi,Xl,Xd,Xe,Xj,Xk,ZC,ZD,unA,Zy,Zz,unG,reduceCtorEq,Zn,decide_eq_true_eq,Xf,Xc,ite_self,↓reduceIte,Zx,ZB,gcT,gcA,Zv,Zm,Zd,Zl,Zu,Zb,Zt,Zk,Zw,Xg,Zb6,Zbw,Zcb,Zb2,ZbM,Zcf,ZbL,Zc,Zr,Zs,Zp,Zq,ZN,h1,h2,h4,h5,h6,h7]
   ·have e:Za1 n least (Zbe [] c)=.tup [.int .i64 c,.int .i64 (n+1)]:=by
     simp only [Za1,Zbe];rw [if_neg (by omega)]
    rw [e]
    simp -implicitDefEqProofs only [EQA,Zg,Zh,Ze,Zj,Zi,Zf,ZF,ZE,ZH,ZG,ZL,ZI,ZJ,ZM,ZK,implies_true,forall_const,Xh,Xi,Xl,Xd,Xe,Xj,Xk,ZC,ZD,unA,Zy,Zz,unG,reduceCtorEq,Zn,decide_eq_true_eq,Xf,Xc,ite_self,↓reduceIte,Zx,ZB,gcT,gcA,Zv,Zm,Zd,Zl,Zu,Zb,Zt,Zk,Zw,Xg,Zb6,Zbw,Zcb,Zb2,ZbM,Zcf,ZbL,Zc,Zr,Zs,Zp,Zq,ZN,h1,h2,h4,h5,h6,h7]
  ·have e:Za1 n least (Zbe [] c)=.tup [.int .i64 c,.int .i64 (n+1)]:=by
    simp only [Za1,Zbe];rw [if_neg (by omega)]
   rw [e]
   simp -implicitDefEqProofs only [EQA,Zg,Zh,Ze,Zj,Zi,Zf,ZF,ZE,ZH,ZG,ZL,ZI,ZJ,ZM,ZK,implies_true,forall_const,Xh,Xi,Xl,Xd,Xe,Xj,Xk,ZC,ZD,unA,Zy,Zz,unG,reduceCtorEq,Zn,decide_eq_true_eq,Xf,Xc,ite_self,↓reduceIte,Zx,ZB,gcT,gcA,Zv,Zm,Zd,Zl,Zu,Zb,Zt,Zk,Zw,Xg,Zb6,Zbw,Zcb,Zb2,ZbM,Zcf,ZbL,Zc,Zr,Zs,Zp,Zq,ZN,h1,h2,h4,h5,h6]
 | b::r,i,c,hi,hl,hs,hc,hb,hns=>by
  simp only [Xw] at hl hb
  have hb0:=Zmm b
  have hs0:s[i]?=some b:=by have:=hs 0 (by simp);simpa using this
  have h1:((i:Int)<=n):=by omega
  have h3:IntKind.i64.wrap ((i:Int)+1)=((i+1:Nat):Int):=by rw [Zbp (by omega) (by omega)];rfl
  have hp:(1:Int)<=64 ^ r.length:=by
   have : (0:Int) < 64 ^ r.length:=Int.pow_pos (by omega)
   omega
  have hc2:c+1<=2 ^ 40:=by
   have : (c+1)*1<=(c+1)*64 ^ (r.length+1):=Int.mul_le_mul_of_nonneg_left (by rw [Int.pow_succ];omega) (by omega)
   omega
  have i0:(0:Int)<=(i:Int):=by omega
  have hlow:((b.toNat:Int) < 128)\/¬((b.toNat:Int) < 128):=by omega
  by_cases h4:(b.toNat:Int) < 128
  ·have e:Za1 n least (Zbe (b::r) c)=.tup [.int .i64 0,.int .i64 0]:=by simp only [Zbe];rw [if_pos (Xs (by omega))];rfl
   rw [e]
   unfold Ze5
   rw [Z7]
   simp -implicitDefEqProofs only [EQA,Zg,Zh,Ze,Zj,Zi,Zf,ZF,ZE,ZH,ZG,ZL,ZI,ZJ,ZM,ZK,implies_true,forall_const,Xh,Xi,Xl,Xd,Xe,Xj,Xk,ZC,ZD,unA,Zy,Zz,unG,reduceCtorEq,Zn,decide_eq_true_eq,Xf,Xc,ite_self,↓reduceIte,Zx,ZB,gcT,gcA,Zv,Zm,Zd,Zl,Zu,Zb,Zt,Zk,Zw,Xg,Zb6,Zbw,Zcb,Zb2,ZbM,Zcf,ZbL,Zc,Zr,Zs,Zp,Zq,ZN,h1,h3,h4,hs0,i0,X0,Zae]
  by_cases h5:(b.toNat:Int)>=192
  ·have e:Za1 n least (Zbe (b::r) c)=.tup [.int .i64 0,.int .i64 0]:=by simp only [Zbe];rw [if_pos (Xy (by omega))];rfl
   rw [e]
   unfold Ze5
   rw [Z7]
   simp -implicitDefEqProofs only [EQA,Zg,Zh,Ze,Zj,Zi,Zf,ZF,ZE,ZH,ZG,ZL,ZI,ZJ,ZM,ZK,implies_true,forall_const,Xh,Xi,Xl,Xd,Xe,Xj,Xk,ZC,ZD,unA,Zy,Zz,unG,reduceCtorEq,Zn,decide_eq_true_eq,Xf,Xc,ite_self,↓reduceIte,Zx,ZB,gcT,gcA,Zv,Zm,Zd,Zl,Zu,Zb,Zt,Zk,Zw,Xg,Zb6,Zbw,Zcb,Zb2,ZbM,Zcf,ZbL,Zc,Zr,Zs,Zp,Zq,ZN,h1,h3,h4,h5,hs0,i0,X0,Zae]
  have ih:=ZiY s least n hn r (i+1) (c*64+b.toNat - 128) (by omega) (by omega) (fun j hj=>by
   have:=hs (j+1) (by simp;omega)
   rw [show i+1+j=i+(j+1) by omega,this];simp) (by omega) (by
    have : (c*64+b.toNat - 128+1)*64 ^ r.length<=(c+1)*64*64 ^ r.length:=Int.mul_le_mul_of_nonneg_right (by omega) (by omega)
    rw [Int.pow_succ,Int.mul_comm (64 ^ r.length) 64,<-Int.mul_assoc] at hb
    omega) hns
  have w1:IntKind.i64.wrap (c*64)=c*64:=Zbp (by omega) (by omega)
  have w2:IntKind.i64.wrap (b.toNat:Int)=b.toNat:=Zbp (by omega) (by omega)
  have w3:IntKind.i64.wrap (c*64+b.toNat)=c*64+b.toNat:=Zbp (by omega) (by omega)
  have w4:IntKind.i64.wrap (c*64+b.toNat - 128)=c*64+b.toNat - 128:=Zbp (by omega) (by omega)
  unfold Ze5 at ih ⊢
  rw [Z7]
  simp -implicitDefEqProofs only [EQA,Zg,Zh,Ze,Zj,Zi,Zf,ZF,ZE,ZH,ZG,ZL,ZI,ZJ,ZM,ZK,implies_true,forall_const,Xh,Xi,Xl,Xd,Xe,Xj,Xk,ZC,ZD,unA,Zy,Zz,unG,reduceCtorEq,Zn,decide_eq_true_eq,Xf,Xc,ite_self,↓reduceIte,Zx,ZB,gcT,gcA,Zv,Zm,Zd,Zl,Zu,Zb,Zt,Zk,Zw,Xg,Zb6,Zbw,Zcb,Zb2,ZbM,Zcf,ZbL,Zc,Zr,Zs,Zp,Zq,ZN,h1,h3,h4,h5,hs0,i0,w1,w2,w3,w4,X0,Zae]
  rw [ih]
  simp only [Zbe]
  rw [if_neg (by omega)]
def Zdy (l:List UInt8):Nat×Nat:=if (Lib.decodeL l).1=65533/\(Lib.decodeL l).2=1 then (0,0) else Lib.decodeL l
def ZbA (p:Nat×Nat):AVal:=.tup [.int .i64 p.1,.int .i64 p.2]
theorem Zhi (l:List UInt8):Zdy l=if (Lib.decodeN l.length (l.getD 0 0).toNat (l.getD 1 0).toNat (l.getD 2 0).toNat (l.getD 3 0).toNat).1=65533/\(Lib.decodeN l.length (l.getD 0 0).toNat (l.getD 1 0).toNat (l.getD 2 0).toNat (l.getD 3 0).toNat).2=1 then (0,0) else Lib.decodeN l.length (l.getD 0 0).toNat (l.getD 1 0).toNat (l.getD 2 0).toNat (l.getD 3 0).toNat:=by
 unfold Zdy;rw [Lib.decodeL_N]
theorem Zmq {c n:Int} {p:Nat×Nat} (h1:c=p.1) (h2:n=p.2):(.tup [.int .i64 c,.int .i64 n]:AVal)=ZbA p:=by simp [ZbA,h1,h2]
theorem Zta (b0 b1:UInt8) (t:List UInt8) (h:192<=b0.toNat/\b0.toNat < 224):Za1 1 128 (Zbe [b1] (b0.toNat - 192))=ZbA (Zdy (b0::b1::t)):=by
 rw [Zhi]
 simp only [Xw,Xv,XC,Zbe]
 have hb1:=b1.toNat_lt
 generalize b0.toNat=x0 at *
 generalize b1.toNat=x1 at *
 generalize ((t.getD 0 0).toNat)=x2
 generalize ((t.getD 1 0).toNat)=x3
 have e1:¬x0 < 128:=by omega
 have e2:x0 / 32=6:=by omega
 have e3:1 < t.length+1+1:=by omega
 have e4:¬x0 / 16=14:=by omega
 have e5:¬x0 / 8=30:=by omega
 by_cases h1:x1 < 128\/192<=x1
 ·rw [if_pos h1]
  have e6:¬x1 / 64=2:=by omega
  simp [Lib.decodeN,e1,e2,e4,e5,e6,Za1,ZbA]
 ·rw [if_neg h1]
  have e6:x1 / 64=2:=by omega
  simp only [Lib.decodeN,e1,e2,e3,e6,if_false,and_self,if_true]
  simp only [Za1]
  by_cases h2:x0 % 32*64+x1 % 64>=128
  ·rw [if_neg (by omega),if_pos h2,if_neg (by simp)]
   exact Zmq (by simp only;omega) (by simp)
  ·rw [if_pos (by omega),if_neg h2,if_pos (by simp)]
   rfl
theorem ZBX (b0 b1 b2:UInt8) (t:List UInt8) (h:224<=b0.toNat/\b0.toNat < 240):Za1 2 2048 (Zbe [b1,b2] (b0.toNat - 224))=ZbA (Zdy (b0::b1::b2::t)):=by
 rw [Zhi]
 simp only [Xw,Xv,XC,Zbe]
 have hb1:=b1.toNat_lt
 have hb2:=b2.toNat_lt
 generalize b0.toNat=x0 at *
 generalize b1.toNat=x1 at *
 generalize b2.toNat=x2 at *
 generalize ((t.getD 0 0).toNat)=x3
 have e1:¬x0 < 128:=by omega
 have e2:¬x0 / 32=6:=by omega
 have e3:1 < t.length+1+1+1:=by omega
 have e3':2 < t.length+1+1+1:=by omega
 have e4:x0 / 16=14:=by omega
 have e5:¬x0 / 8=30:=by omega
 by_cases h1:x1 < 128\/192<=x1
 ·rw [if_pos h1]
  have e6:¬x1 / 64=2:=by omega
  simp [Lib.decodeN,e1,e2,e4,e5,e6,Za1,ZbA]
 ·rw [if_neg h1]
  have e6:x1 / 64=2:=by omega
  by_cases h2:x2 < 128\/192<=x2
  ·rw [if_pos h2]
   have e7:¬x2 / 64=2:=by omega
   simp [Lib.decodeN,e1,e2,e4,e5,e6,e7,Za1,ZbA]
  ·rw [if_neg h2]
   have e7:x2 / 64=2:=by omega
   simp only [Lib.decodeN,e1,e2,e3,e3',e4,e6,e7,if_false,and_self,if_true,false_and]
   simp only [Za1]
   by_cases h3:x0 % 16*4096+x1 % 64*64+x2 % 64>=2048/\(x0 % 16*4096+x1 % 64*64+x2 % 64 < 55296\/(57344<=x0 % 16*4096+x1 % 64*64+x2 % 64/\x0 % 16*4096+x1 % 64*64+x2 % 64<=1114111))
   ·rw [if_neg (by omega),if_pos h3,if_neg (by simp)]
    exact Zmq (by simp only;omega) (by simp)
   ·rw [if_pos (by omega),if_neg h3,if_pos (by simp)]
    rfl
theorem Zzb (b0 b1 b2 b3:UInt8) (t:List UInt8) (h:240<=b0.toNat/\b0.toNat < 248):Za1 3 65536 (Zbe [b1,b2,b3] (b0.toNat - 240))=ZbA (Zdy (b0::b1::b2::b3::t)):=by
 rw [Zhi]
 simp only [Xw,Xv,XC,Zbe]
 have hb1:=b1.toNat_lt
 have hb2:=b2.toNat_lt
 have hb3:=b3.toNat_lt
 generalize b0.toNat=x0 at *
 generalize b1.toNat=x1 at *
 generalize b2.toNat=x2 at *
 generalize b3.toNat=x3 at *
 have e1:¬x0 < 128:=by omega
 have e2:¬x0 / 32=6:=by omega
 have e3:1 < t.length+1+1+1+1:=by omega
 have e3':2 < t.length+1+1+1+1:=by omega
 have e3'':3 < t.length+1+1+1+1:=by omega
 have e4:¬x0 / 16=14:=by omega
 have e5:x0 / 8=30:=by omega
 by_cases h1:x1 < 128\/192<=x1
 ·rw [if_pos h1]
  have e6:¬x1 / 64=2:=by omega
  simp [Lib.decodeN,e1,e2,e4,e5,e6,Za1,ZbA]
 ·rw [if_neg h1]
  have e6:x1 / 64=2:=by omega
  by_cases h2:x2 < 128\/192<=x2
  ·rw [if_pos h2]
   have e7:¬x2 / 64=2:=by omega
   simp [Lib.decodeN,e1,e2,e4,e5,e6,e7,Za1,ZbA]
  ·rw [if_neg h2]
   have e7:x2 / 64=2:=by omega
   by_cases h4:x3 < 128\/192<=x3
   ·rw [if_pos h4]
    have e8:¬x3 / 64=2:=by omega
    simp [Lib.decodeN,e1,e2,e4,e5,e6,e7,e8,Za1,ZbA]
   ·rw [if_neg h4]
    have e8:x3 / 64=2:=by omega
    simp only [Lib.decodeN,e1,e2,e3,e3',e3'',e4,e5,e6,e7,e8,if_false,and_self,if_true,false_and]
    simp only [Za1]
    by_cases h3:x0 % 8*262144+x1 % 64*4096+x2 % 64*64+x3 % 64>=65536/\(x0 % 8*262144+x1 % 64*4096+x2 % 64*64+x3 % 64 < 55296\/(57344<=x0 % 8*262144+x1 % 64*4096+x2 % 64*64+x3 % 64/\x0 % 8*262144+x1 % 64*4096+x2 % 64*64+x3 % 64<=1114111))
    ·rw [if_neg (by omega),if_pos h3,if_neg (by simp)]
     exact Zmq (by simp only;omega) (by simp)
    ·rw [if_pos (by omega),if_neg h3,if_pos (by simp)]
     rfl
theorem Zhk (b0:UInt8) (t:List UInt8) (h:(192<=b0.toNat/\b0.toNat < 224/\t.length < 1)\/(224<=b0.toNat/\b0.toNat < 240/\t.length < 2)\/(240<=b0.toNat/\b0.toNat < 248/\t.length < 3)\/(128<=b0.toNat/\b0.toNat < 192)\/248<=b0.toNat):Zdy (b0::t)=(0,0):=by
 rw [Zhi,if_pos]
 simp only [Xw,Xv,XC]
 have hb:=b0.toNat_lt
 generalize b0.toNat=x0 at *
 generalize ((t.getD 0 0).toNat)=x1
 generalize ((t.getD 1 0).toNat)=x2
 generalize ((t.getD 2 0).toNat)=x3
 generalize t.length=m at *
 unfold Lib.decodeN
 repeat' split
 all_goals first | exact ⟨rfl,rfl⟩ | (exfalso;omega) | (constructor <;> omega)
theorem ZvW (b0:UInt8) (t:List UInt8) (h:b0.toNat < 128):Zdy (b0::t)=(b0.toNat,1):=by
 rw [Zhi]
 simp only [Xw,Xv,Lib.decodeN,h,if_true]
 rw [if_neg (by omega)]
theorem Zgl:ZbA (0,0)=.tup [.int .i64 0,.int .i64 0]:=rfl
theorem ZAH (n:Nat):ZbA (n,1)=.tup [.int .i64 n,.int .i64 1]:=rfl
theorem ZEy (b0:UInt8) (t:List UInt8):E 59 [.str (b0::t)] []=some (ZbA (Zdy (b0::t)),[]):=by
 rw [Zar (by rfl) ZxH]
 have hb:=Zmm b0
 have w0:IntKind.i64.wrap (b0.toNat:Int)=b0.toNat:=Zbp (by omega) (by omega)
 by_cases h1:(b0.toNat:Int) < 128
 ·rw [ZvW b0 t (by omega),ZAH]
  simp -implicitDefEqProofs only [EQA,Zg,Zh,Ze,Zj,Zi,Zf,ZF,ZE,ZH,ZG,ZL,ZI,ZJ,ZM,ZK,implies_true,forall_const,Xh,Xi,Xl,Xd,Xe,Xj,Xk,ZC,ZD,unA,Zy,Zz,unG,reduceCtorEq,Zn,decide_eq_true_eq,Xf,Xc,ite_self,↓reduceIte,Zx,ZB,gcT,gcA,Zv,Zm,Zd,Zl,Zu,Zb,Zt,Zk,Zw,Xg,Zb6,Zbw,Zcb,Zb2,ZbM,Zcf,ZbL,Zc,Zr,Zs,Zp,Zq,ZN,h1,w0,Zae,Wh,Wz]
 by_cases h2:(b0.toNat:Int)>=192
 ·by_cases h3:(b0.toNat:Int) < 224
  ·have w1:IntKind.i64.wrap ((b0.toNat:Int) - 192)=b0.toNat - 192:=Zbp (by omega) (by omega)
   by_cases h6:((t.length+1:Nat):Int)<=1
   ·rw [Zhk b0 t (Xs ⟨by omega,by omega,by omega⟩),Zgl]
    simp -implicitDefEqProofs only [EQA,Zg,Zh,Ze,Zj,Zi,Zf,ZF,ZE,ZH,ZG,ZL,ZI,ZJ,ZM,ZK,implies_true,forall_const,Xh,Xi,Xl,Xd,Xe,Xj,Xk,ZC,ZD,unA,Zy,Zz,unG,reduceCtorEq,Zn,decide_eq_true_eq,Xf,Xc,ite_self,↓reduceIte,Zx,ZB,gcT,gcA,Zv,Zm,Zd,Zl,Zu,Zb,Zt,Zk,Zw,Xg,Zb6,Zbw,Zcb,Zb2,ZbM,Zcf,ZbL,Zc,Zr,Zs,Zp,Zq,ZN,h1,h2,h3,w0,w1,h6,Zae,Wh,Wz]
   ·obtain ⟨b1,t,rfl⟩:∃ b1 t',t=b1::t':=by
     cases t with
     | nil=>simp at h6
     | cons b1 t=>exact ⟨b1,t,rfl⟩
    have key:=ZiY (b0::b1::t) 128 1 (by omega) [b1] 1 (b0.toNat - 192) (by omega) rfl (fun j hj=>by
     have : j=0:=by simpa using hj
     subst this;rfl) (by omega) (by simp only [Xw,XF];omega) (by simp)
    rw [show (((1:Nat):Int))=1 from rfl,Zta b0 b1 t (by omega)] at key
    unfold Ze5 at key
    simp -implicitDefEqProofs only [EQA,Zg,Zh,Ze,Zj,Zi,Zf,ZF,ZE,ZH,ZG,ZL,ZI,ZJ,ZM,ZK,implies_true,forall_const,Xh,Xi,Xl,Xd,Xe,Xj,Xk,ZC,ZD,unA,Zy,Zz,unG,reduceCtorEq,Zn,decide_eq_true_eq,Xf,Xc,ite_self,↓reduceIte,Zx,ZB,gcT,gcA,Zv,Zm,Zd,Zl,Zu,Zb,Zt,Zk,Zw,Xg,Zb6,Zbw,Zcb,Zb2,ZbM,Zcf,ZbL,Zc,Zr,Zs,Zp,Zq,ZN,h1,h2,h3,w0,w1,h6,Zae,Wh,Wz]
    exact key
  ·by_cases h4:(b0.toNat:Int) < 240
   ·have h3':(b0.toNat:Int)>=224:=by omega
    have w1:IntKind.i64.wrap ((b0.toNat:Int) - 224)=b0.toNat - 224:=Zbp (by omega) (by omega)
    by_cases h6:((t.length+1:Nat):Int)<=2
    ·rw [Zhk b0 t (Xy (Xs ⟨by omega,by omega,by omega⟩)),Zgl]
     simp -implicitDefEqProofs only [EQA,Zg,Zh,Ze,Zj,Zi,Zf,ZF,ZE,ZH,ZG,ZL,ZI,ZJ,ZM,ZK,implies_true,forall_const,Xh,Xi,Xl,Xd,Xe,Xj,Xk,ZC,ZD,unA,Zy,Zz,unG,reduceCtorEq,Zn,decide_eq_true_eq,Xf,Xc,ite_self,↓reduceIte,Zx,ZB,gcT,gcA,Zv,Zm,Zd,Zl,Zu,Zb,Zt,Zk,Zw,Xg,Zb6,Zbw,Zcb,Zb2,ZbM,Zcf,ZbL,Zc,Zr,Zs,Zp,Zq,ZN,h1,h2,h3,h3',h4,w0,w1,h6,Zae,Wh,Wz]
    ·obtain ⟨b1,b2,t,rfl⟩:∃ b1 b2 t',t=b1::b2::t':=by
      match t,h6 with
      | [],h6=>simp at h6
      | [_],h6=>simp at h6
      | b1::b2::t,_=>exact ⟨b1,b2,t,rfl⟩
     have key:=ZiY (b0::b1::b2::t) 2048 2 (by omega) [b1,b2] 1 (b0.toNat - 224) (by omega) rfl (fun j hj=>by
      match j,hj with
      | 0,_=>rfl
      | 1,_=>rfl
      | j+2,hj=>simp at hj;omega) (by omega) (by simp only [Xw,XF];omega) (by simp)
     rw [show (((2:Nat):Int))=2 from rfl,show (((1:Nat):Int))=1 from rfl,ZBX b0 b1 b2 t (by omega)] at key
     unfold Ze5 at key
     simp -implicitDefEqProofs only [EQA,Zg,Zh,Ze,Zj,Zi,Zf,ZF,ZE,ZH,ZG,ZL,ZI,ZJ,ZM,ZK,implies_true,forall_const,Xh,Xi,Xl,Xd,Xe,Xj,Xk,ZC,ZD,unA,Zy,Zz,unG,reduceCtorEq,Zn,decide_eq_true_eq,Xf,Xc,ite_self,↓reduceIte,Zx,ZB,gcT,gcA,Zv,Zm,Zd,Zl,Zu,Zb,Zt,Zk,Zw,Xg,Zb6,Zbw,Zcb,Zb2,ZbM,Zcf,ZbL,Zc,Zr,Zs,Zp,Zq,ZN,h1,h2,h3,h3',h4,w0,w1,h6,Zae,Wh,Wz]
     exact key
   ·by_cases h5:(b0.toNat:Int) < 248
    ·have h3':(b0.toNat:Int)>=224:=by omega
     have h4':(b0.toNat:Int)>=240:=by omega
     have w1:IntKind.i64.wrap ((b0.toNat:Int) - 240)=b0.toNat - 240:=Zbp (by omega) (by omega)
     by_cases h6:((t.length+1:Nat):Int)<=3
     ·rw [Zhk b0 t (Xy (Xy (Xs ⟨by omega,by omega,by omega⟩))),Zgl]
      simp -implicitDefEqProofs only [EQA,Zg,Zh,Ze,Zj,Zi,Zf,ZF,ZE,ZH,ZG,ZL,ZI,ZJ,ZM,ZK,implies_true,forall_const,Xh,Xi,Xl,Xd,Xe,Xj,Xk,ZC,ZD,unA,Zy,Zz,unG,reduceCtorEq,Zn,decide_eq_true_eq,Xf,Xc,ite_self,↓reduceIte,Zx,ZB,gcT,gcA,Zv,Zm,Zd,Zl,Zu,Zb,Zt,Zk,Zw,Xg,Zb6,Zbw,Zcb,Zb2,ZbM,Zcf,ZbL,Zc,Zr,Zs,Zp,Zq,ZN,h1,h2,h3,h3',h4,h4',h5,w0,w1,h6,Zae,Wh,Wz]
     ·obtain ⟨b1,b2,b3,t,rfl⟩:∃ b1 b2 b3 t',t=b1::b2::b3::t':=by
       match t,h6 with
       | [],h6=>simp at h6
       | [_],h6=>simp at h6
       | [_,_],h6=>simp at h6
       | b1::b2::b3::t,_=>exact ⟨b1,b2,b3,t,rfl⟩
      have key:=ZiY (b0::b1::b2::b3::t) 65536 3 (by omega) [b1,b2,b3] 1 (b0.toNat - 240) (by omega) rfl (fun j hj=>by
       match j,hj with
       | 0,_=>rfl
       | 1,_=>rfl
       | 2,_=>rfl
       | j+3,hj=>simp at hj;omega) (by omega) (by simp only [Xw,XF];omega) (by simp)
      rw [show (((3:Nat):Int))=3 from rfl,show (((1:Nat):Int))=1 from rfl,Zzb b0 b1 b2 b3 t (by omega)] at key
      unfold Ze5 at key
      simp -implicitDefEqProofs only [EQA,Zg,Zh,Ze,Zj,Zi,Zf,ZF,ZE,ZH,ZG,ZL,ZI,ZJ,ZM,ZK,implies_true,forall_const,Xh,Xi,Xl,Xd,Xe,Xj,Xk,ZC,ZD,unA,Zy,Zz,unG,reduceCtorEq,Zn,decide_eq_true_eq,Xf,Xc,ite_self,↓reduceIte,Zx,ZB,gcT,gcA,Zv,Zm,Zd,Zl,Zu,Zb,Zt,Zk,Zw,Xg,Zb6,Zbw,Zcb,Zb2,ZbM,Zcf,ZbL,Zc,Zr,Zs,Zp,Zq,ZN,h1,h2,h3,h3',h4,h4',h5,w0,w1,h6,Zae,Wh,Wz]
      exact key
    ·have h3':(b0.toNat:Int)>=224:=by omega
     have h4':(b0.toNat:Int)>=240:=by omega
     rw [Zhk b0 t (Xy (Xy (Xy (Xy (by omega))))),Zgl]
     simp -implicitDefEqProofs only [EQA,Zg,Zh,Ze,Zj,Zi,Zf,ZF,ZE,ZH,ZG,ZL,ZI,ZJ,ZM,ZK,implies_true,forall_const,Xh,Xi,Xl,Xd,Xe,Xj,Xk,ZC,ZD,unA,Zy,Zz,unG,reduceCtorEq,Zn,decide_eq_true_eq,Xf,Xc,ite_self,↓reduceIte,Zx,ZB,gcT,gcA,Zv,Zm,Zd,Zl,Zu,Zb,Zt,Zk,Zw,Xg,Zb6,Zbw,Zcb,Zb2,ZbM,Zcf,ZbL,Zc,Zr,Zs,Zp,Zq,ZN,h1,h2,h3,h3',h4,h4',h5,w0,Zae,Wh,Wz]
 ·have h3:¬(b0.toNat:Int)>=224:=by omega
  have h4:¬(b0.toNat:Int)>=240:=by omega
  rw [Zhk b0 t (Xy (Xy (Xy (Xs (by omega))))),Zgl]
  simp -implicitDefEqProofs only [EQA,Zg,Zh,Ze,Zj,Zi,Zf,ZF,ZE,ZH,ZG,ZL,ZI,ZJ,ZM,ZK,implies_true,forall_const,Xh,Xi,Xl,Xd,Xe,Xj,Xk,ZC,ZD,unA,Zy,Zz,unG,reduceCtorEq,Zn,decide_eq_true_eq,Xf,Xc,ite_self,↓reduceIte,Zx,ZB,gcT,gcA,Zv,Zm,Zd,Zl,Zu,Zb,Zt,Zk,Zw,Xg,Zb6,Zbw,Zcb,Zb2,ZbM,Zcf,ZbL,Zc,Zr,Zs,Zp,Zq,ZN,h1,h2,h3,h4,w0,Zae,Wh,Wz]
theorem Zl7 (σ:Za) (sq own:Nat) (view:Bool) (b0:UInt8) (t:List UInt8):ZT E BY σ sq 59 own view [.str (b0::t)]=some (ZbA (Zdy (b0::t)),σ,{}) :=
 ZaP (ZEy b0 t) (by kernel_rfl) (by simp -implicitDefEqProofs only [Zac,Zab,Zg,Zh,Ze,Zaa,Zj,Zi,Z9,Zf,eq_self,implies_true,Xm,Zc,Zr,Zs,Zp,Zq,ZbA]) (by simp -implicitDefEqProofs only [Zac,Zab,Zg,Zh,Ze,Zaa,Zj,Zi,Z9,Zf,eq_self,implies_true,Xm,Zc,Zr,Zs,Zp,Zq,ZbA]) rfl (fun _=>rfl) _ _ _ _
theorem Zoz:∀ (n:Nat) (l:List UInt8),l.length<=n->l.length<=9223372036854775807->ZhZ 0 [(0,.str l)] []=some (.bool (zfG n l && Lib.validGoD n l),[])
 | n,[],_,_=>by
  have e:(zfG n [] && Lib.validGoD n [])=true:=by cases n <;> rfl
  rw [e]
  unfold ZhZ
  rw [Z7]
  simp -implicitDefEqProofs only [EQA,Zg,Zh,Ze,Zj,Zi,Zf,ZF,ZE,ZH,ZG,ZL,ZI,ZJ,ZM,ZK,implies_true,forall_const,Xh,Xi,Xl,Xd,Xe,Xj,Xk,ZC,ZD,unA,Zy,Zz,unG,reduceCtorEq,Zn,decide_eq_true_eq,Xf,Xc,ite_self,↓reduceIte,Zx,ZB,gcT,gcA,Zv,Zm,Zd,Zl,Zu,Zb,Zt,Zk,Zw,Xg,ZhH,ZfR,ZhK,Zh6,Zfu,Zh4,ZfZ,Zc,Zr,Zs,Zp,Zq,ZN,Zc]
 | 0,b0::t,h,_=>by simp at h
 | n+1,b0::t,h,hl=>by
  have hw:=Lib.decodeL_width (b0::t)
  have hle:=Lib.decodeL_le (b0::t) (by simp)
  have e0:((b0::t) == ([]:List UInt8))=false:=by simp
  have hne:(b0::t)≠([]:List UInt8):=by simp
  unfold ZhZ
  rw [Z7]
  by_cases hb:(Lib.decodeL (b0::t)).1=65533/\(Lib.decodeL (b0::t)).2=1
  ·have hc:Zdy (b0::t)=(0,0):=if_pos hb
   have e:(zfG (n+1) (b0::t) && Lib.validGoD (n+1) (b0::t))=false:=by
    simp only [Lib.validGoD]
    rw [if_neg hne,if_pos hb,Bool.and_false]
   rw [e]
   simp -implicitDefEqProofs only [EQA,Zg,Zh,Ze,Zj,Zi,Zf,ZF,ZE,ZH,ZG,ZL,ZI,ZJ,ZM,ZK,implies_true,forall_const,Xh,Xi,Xl,Xd,Xe,Xj,Xk,ZC,ZD,unA,Zy,Zz,unG,reduceCtorEq,Zn,decide_eq_true_eq,Xf,Xc,ite_self,↓reduceIte,Zx,ZB,gcT,gcA,Zv,Zm,Zd,Zl,Zu,Zb,Zt,Zk,Zw,Xg,ZhH,ZfR,ZhK,Zh6,Zfu,Zh4,ZfZ,Zc,Zr,Zs,Zp,Zq,ZN,e0,Zl7,hc,Zgl]
  ·have hc:Zdy (b0::t)=Lib.decodeL (b0::t):=if_neg hb
   have n1:(((Lib.decodeL (b0::t)).2:Int) == 0)=false:=by rw [beq_eq_false_iff_ne];omega
   by_cases hz:(Lib.decodeL (b0::t)).1=0
   ·have z1:(((Lib.decodeL (b0::t)).1:Int) == 0)=true:=by rw [beq_iff_eq];omega
    have e:(zfG (n+1) (b0::t) && Lib.validGoD (n+1) (b0::t))=false:=by
     rw [zfG,if_neg hne,if_pos hz,WJ]
    rw [e]
    simp -implicitDefEqProofs only [EQA,Zg,Zh,Ze,Zj,Zi,Zf,ZF,ZE,ZH,ZG,ZL,ZI,ZJ,ZM,ZK,implies_true,forall_const,Xh,Xi,Xl,Xd,Xe,Xj,Xk,ZC,ZD,unA,Zy,Zz,unG,reduceCtorEq,Zn,decide_eq_true_eq,Xf,Xc,ite_self,↓reduceIte,Zx,ZB,gcT,gcA,Zv,Zm,Zd,Zl,Zu,Zb,Zt,Zk,Zw,Xg,ZhH,ZfR,ZhK,Zh6,Zfu,Zh4,ZfZ,Zc,Zr,Zs,Zp,Zq,ZN,e0,Zl7,hc,ZbA,n1,z1]
   ·have z1:(((Lib.decodeL (b0::t)).1:Int) == 0)=false:=by rw [beq_eq_false_iff_ne];omega
    have e:(zfG (n+1) (b0::t) && Lib.validGoD (n+1) (b0::t))=(zfG n ((b0::t).drop (Lib.decodeL (b0::t)).2) && Lib.validGoD n ((b0::t).drop (Lib.decodeL (b0::t)).2)):=by
     rw [zfG,if_neg hne,if_neg hz,Lib.validGoD,if_neg hne,if_neg hb]
    have ih:=Zoz n ((b0::t).drop (Lib.decodeL (b0::t)).2) (by simp only [WG] at *;omega) (by simp only [WG];omega)
    rw [e]
    unfold ZhZ at ih
    have l0:(0:Int)<=((Lib.decodeL (b0::t)).2:Int):=by omega
    have l1:((Lib.decodeL (b0::t)).2:Int)<=((t.length+1:Nat):Int):=by simp only [Xw] at hle;omega
    have l2:(b0::t).take (t.length+1)=b0::t:=X5 (by simp)
    simp -implicitDefEqProofs only [EQA,Zg,Zh,Ze,Zj,Zi,Zf,ZF,ZE,ZH,ZG,ZL,ZI,ZJ,ZM,ZK,implies_true,forall_const,Xh,Xi,Xl,Xd,Xe,Xj,Xk,ZC,ZD,unA,Zy,Zz,unG,reduceCtorEq,Zn,decide_eq_true_eq,Xf,Xc,ite_self,↓reduceIte,Zx,ZB,gcT,gcA,Zv,Zm,Zd,Zl,Zu,Zb,Zt,Zk,Zw,Xg,ZhH,ZfR,ZhK,Zh6,Zfu,Zh4,ZfZ,Zc,Zr,Zs,Zp,Zq,ZN,e0,Zl7,hc,ZbA,n1,z1,ZaC,ZcB,l0,l1,l2,X0]
    exact ih
theorem ZyX (l:List UInt8) (hl:l.length<=9223372036854775807):E 52 [.str l] []=some (.bool (ZgB l),[]):=by
 rw [Zar (by rfl) Zsn]
 have:=Zoz l.length l (X3 _) hl
 unfold ZhZ at this
 simp -implicitDefEqProofs only [EQA,Zg,Zh,Ze,Zj,Zi,Zf,ZF,ZE,ZH,ZG,ZL,ZI,ZJ,ZM,ZK,implies_true,forall_const,Xh,Xi,Xl,Xd,Xe,Xj,Xk,ZC,ZD,unA,Zy,Zz,unG,reduceCtorEq,Zn,decide_eq_true_eq,Xf,Xc,ite_self,↓reduceIte,Zx,ZB,gcT,gcA,Zv,Zm,Zd,Zl,Zu,Zb,Zt,Zk,Zw,Xg,ZhH,ZfR,ZhK,Zh6,Zfu,Zh4,ZfZ,Zc,Zr,Zs,Zp,Zq,ZN,Zc]
 rw [this];rfl
theorem ZuW (σ:Za) (sq own:Nat) (view:Bool) (l:List UInt8) (hl:l.length<=9223372036854775807):ZT E BY σ sq 52 own view [.str l]=some (.bool (ZgB l),σ,{}) :=
 ZaP (ZyX l hl) (by kernel_rfl) (by simp -implicitDefEqProofs only [Zac,Zab,Zg,Zh,Ze,Zaa,Zj,Zi,Z9,Zf,eq_self,implies_true,Xm,Zc,Zr,Zs,Zp,Zq,Zc]) (by simp -implicitDefEqProofs only [Zac,Zab,Zg,Zh,Ze,Zaa,Zj,Zi,Z9,Zf,eq_self,implies_true,Xm,Zc,Zr,Zs,Zp,Zq,Zc]) rfl (fun _=>rfl) _ _ _ _
end
section
structure ZQ where
 f:List UInt8
 k:List UInt8
 v:Int
 deriving DecidableEq,Inhabited
def ZA (r:ZQ):AVal:=.agg [.str r.f,.str r.k,.int .i64 r.v]
def Zc0 (a b:ZQ):Bool:=decide (a.f < b.f) || (decide (a.f=b.f) && decide (a.k < b.k))
theorem Zlj (a b:List UInt8):Op.bytesLess a b=decide (a < b):=Go.Proofs.bytesLess_eq a b
theorem Zvo (a b:ZQ):E 40 [ZA a,ZA b] []=some (.bool (Zc0 a b),[]):=by
 obtain ⟨f,k,v⟩:=a
 obtain ⟨f',k',v'⟩:=b
 unfold Zc0 ZA
 simp only
 cases h1:Op.bytesLess f f' with
 | true =>
  have e:=h1
  rw [Zlj] at e
  rw [e]
  rw [Zar (by rfl) ZlU]
  simp -implicitDefEqProofs only [EQA,Zg,Zh,Ze,Zj,Zi,Zf,ZF,ZE,ZH,ZG,ZL,ZI,ZJ,ZM,ZK,implies_true,forall_const,Xh,Xi,Xl,Xd,Xe,Xj,Xk,ZC,ZD,unA,Zy,Zz,unG,reduceCtorEq,Zn,decide_eq_true_eq,Xf,Xc,ite_self,↓reduceIte,Zx,ZB,gcT,gcA,Zv,Zm,Zd,Zl,Zu,Zb,Zt,Zk,Zw,Xg,Zkx,Zh5,Zmk,Zc,Zr,Zs,Zp,Zq,ZN,h1,AVal.cells,WZ]
 | false =>
  have e:=h1
  rw [Zlj] at e
  rw [e]
  cases h2:(f == f') with
  | false =>
   have e2:decide (f=f')=false:=by simpa using h2
   rw [e2]
   rw [Zar (by rfl) ZlU]
   simp -implicitDefEqProofs only [EQA,Zg,Zh,Ze,Zj,Zi,Zf,ZF,ZE,ZH,ZG,ZL,ZI,ZJ,ZM,ZK,implies_true,forall_const,Xh,Xi,Xl,Xd,Xe,Xj,Xk,ZC,ZD,unA,Zy,Zz,unG,reduceCtorEq,Zn,decide_eq_true_eq,Xf,Xc,ite_self,↓reduceIte,Zx,ZB,gcT,gcA,Zv,Zm,Zd,Zl,Zu,Zb,Zt,Zk,Zw,Xg,Zkx,Zh5,Zmk,Zc,Zr,Zs,Zp,Zq,ZN,h1,h2,AVal.cells,Xbx,WJ]
  | true =>
   have e2:decide (f=f')=true:=by simpa using h2
   rw [e2,<-Zlj]
   rw [Zar (by rfl) ZlU]
   simp -implicitDefEqProofs only [EQA,Zg,Zh,Ze,Zj,Zi,Zf,ZF,ZE,ZH,ZG,ZL,ZI,ZJ,ZM,ZK,implies_true,forall_const,Xh,Xi,Xl,Xd,Xe,Xj,Xk,ZC,ZD,unA,Zy,Zz,unG,reduceCtorEq,Zn,decide_eq_true_eq,Xf,Xc,ite_self,↓reduceIte,Zx,ZB,gcT,gcA,Zv,Zm,Zd,Zl,Zu,Zb,Zt,Zk,Zw,Xg,Zkx,Zh5,Zmk,Zc,Zr,Zs,Zp,Zq,ZN,h1,h2,AVal.cells,Xbx,XaE]
theorem ZtC (σ:Za) (sq own:Nat) (view:Bool) (a b:ZQ):ZT E BY σ sq 40 own view [.agg [.str a.f,.str a.k,.int .i64 a.v],.agg [.str b.f,.str b.k,.int .i64 b.v]]=some (.bool (Zc0 a b),σ,{}) :=
 ZaP (Zvo a b) (by kernel_rfl) (by simp -implicitDefEqProofs only [Zac,Zab,Zg,Zh,Ze,Zaa,Zj,Zi,Z9,Zf,eq_self,implies_true,Xm,Zc,Zr,Zs,Zp,Zq,ZA]) (by simp -implicitDefEqProofs only [Zac,Zab,Zg,Zh,Ze,Zaa,Zj,Zi,Z9,Zf,eq_self,implies_true,Xm,Zc,Zr,Zs,Zp,Zq,ZA]) rfl (fun _=>rfl) _ _ _ _
end
section
def Zl0:Zo:=(.seq (.region [oI 4 (.mov (.c (.bool false)))] none [1,0]) (.seq (.region [oM 8 0,oI 9 (.nilchk (.t 8)),oF 10 0 9,oL 11 10,oM 12 1,oI 13 (.look 2 (.int .i64 0) true (.t 11) (.t 12)),oM 7 13,oI 14 (.ext (.t 7) 0),oI 15 (.ext (.t 7) 1),oM 5 14,oM 6 15] none [6,1,0]) (.seq (.region [oM 16 0,oI 17 (.nilchk (.t 16)),oF 18 0 17,oL 19 18,oM 20 1,oN (.mdel 2 (.t 19) (.t 20))] none [6]) (.seq (.region [oM 21 6,oM 4 21] none [4]) .ret))))
def Zm9:Z8:=⟨[(.tmp 4)],Zl0⟩
theorem ZvT:FC 20=some Zm9:=by kernel_rfl
theorem Zxj:Zm9.body=Zl0:=rfl
theorem Zt8:Zm9.res=[(.tmp 4)]:=rfl
def Zm5:Zo:=(.seq (.region [oI 4 (.mov (.c (.int .i64 0))),oI 5 (.mov (.c (.bool false)))] none [1,0]) (.seq (.region [oM 9 0,oI 10 (.nilchk (.t 9)),oF 11 0 10,oL 12 11,oM 13 1,oI 14 (.look 2 (.int .i64 0) true (.t 12) (.t 13)),oM 8 14,oI 15 (.ext (.t 8) 0),oI 16 (.ext (.t 8) 1),oM 6 15,oM 7 16] none [7,6]) (.seq (.region [oM 17 6,oM 18 7,oM 4 17,oM 5 18] none [5,4]) .ret)))
def ZmI:Z8:=⟨[(.tmp 4),(.tmp 5)],Zm5⟩
theorem Zw6:FC 21=some ZmI:=by kernel_rfl
theorem Zsa:ZmI.body=Zm5:=rfl
theorem ZuU:ZmI.res=[(.tmp 4),(.tmp 5)]:=rfl
def Zk3:Zo:=(.seq (.region [oI 2 (.mov (.c (.int .i64 0)))] none [0]) (.seq (.region [oM 3 0,oI 4 (.nilchk (.t 3)),oF 5 0 4,oL 6 5,oI 7 (.mlen (.t 6)),oM 2 7] none [2]) .ret))
def Zlw:Z8:=⟨[(.tmp 2)],Zk3⟩
theorem ZCq:FC 24=some Zlw:=by kernel_rfl
theorem ZxY:Zlw.body=Zk3:=rfl
theorem ZrW:Zlw.res=[(.tmp 2)]:=rfl
def ZcP:Zo:=(.seq (.region [oM 18 1,oM 19 6,oI 20 (.call 37 0 true [(.t 18),(.t 19)])] none [20,11,7,6,5,1]) (.cond (.t 20) (.region [oM 21 5,oM 22 6,oM 23 7,oI 24 (.build [(.str []),(.str []),(.int .i64 0)] [(0,1,(.t 22)),(2,1,(.t 23))]),oI 25 (.bslice false 3 1 (.agg [(.str []),(.str []),(.int .i64 0)]) [(0,(.t 24))]),oI 26 (.app 3 40 (.agg [(.str []),(.str []),(.int .i64 0)]) (.t 21) (.t 25)),oM 5 26] none [11,5,1]) .skip))
def Zi2:Zo:=ZcP
def Zdm:=xw Zi2 ZcP rfl
def ZcI:Zo:=(.seq (.region [oM 27 5,oI 28 (.call 36 0 false [(.t 27)]),oM 4 28] none [4]) .ret)
def Zmd:Zo:=ZcI
def Zdh:=xw Zmd ZcI rfl
def Zcy:Zo:=(.seq (.region [oI 4 (.mov (.c (.lst true [])))] none [1,0]) (.seq (.region [oI 5 (.mov (.c (.lst true [])))] none [5,1,0]) (.range [oM 8 0,oI 9 (.nilchk (.t 8)),oF 10 0 9,oL 11 10] [11,5,1] 11 15 1 [oI 16 (.ext (.t 15) 0),oI 17 (.ext (.t 15) 1),oM 6 16,oM 7 17] Zi2 Zmd)))
def ZmP:Z8:=⟨[(.tmp 4)],Zcy⟩
theorem Zs0:FC 15=some ZmP:=by kernel_rfl
theorem Zdd:ZmP.body=Zcy:=rfl
theorem Zc6:ZmP.res=[(.tmp 4)]:=rfl
def Zjj:Zo:=(.seq (.region [oI 6 (.mov (.c (.int .i64 0)))] none [2,1,0]) (.seq (.seq (.region [oM 7 1,oI 8 (.call 33 0 true [(.t 7)]),oI 9 (.un .not (.t 8))] none [9,2,1,0]) (.cond (.t 9) (.seq (.region [oI 6 (.mov (.c (.int .i64 150)))] none [6]) .ret) .skip)) (.seq (.region [oM 10 0,oI 11 (.nilchk (.t 10)),oF 12 0 11,oL 13 12,oM 14 1,oM 15 2,oN (.mset 2 (.t 13) (.t 14) (.t 15))] none []) (.seq (.region [oI 6 (.mov (.c (.int .i64 0)))] none [6]) .ret))))
def Zkt:Z8:=⟨[(.tmp 6)],Zjj⟩
theorem Zqo:FC 14=some Zkt:=by kernel_rfl
theorem ZnD:Zkt.body=Zjj:=rfl
theorem Zqf:Zkt.res=[(.tmp 6)]:=rfl
def Zkl:Zo:=(.seq (.region [oI 2 (.mov (.c (.lst true [])))] none [0]) (.seq (.region [oM 3 0,oI 4 (.call 49 0 true [(.t 3),(.c (.fn 50 []))])] none [0]) (.seq (.region [oM 5 0,oM 2 5] none [2]) .ret)))
def ZlC:Z8:=⟨[(.tmp 2)],Zkl⟩
theorem ZDq:FC 36=some ZlC:=by kernel_rfl
theorem ZEd:ZlC.body=Zkl:=rfl
theorem Zz8:ZlC.res=[(.tmp 2)]:=rfl
end
section
def kyR (r:ZQ):List UInt8×List UInt8:=(r.f,r.k)
def ltR (a b:ZQ):Prop:=lt2 (kyR a) (kyR b)
theorem ZjA (a b:ZQ):Zc0 a b=true↔ltR a b:=by
 unfold Zc0 ltR lt2 kyR
 simp
theorem Zoh:∀ L:List ZQ,Zd0 ZfT (L.map ZA)=some (L.map kyR)
 | []=>rfl
 | x::L=>by
  show (Zd0 ZfT (L.map ZA)).map ((x.f,x.k)::·)=_
  rw [Zoh L];rfl
theorem Zl1 {x y:List UInt8×List UInt8} (h:lt2 x y):leC Zbd x y=true:=by
 unfold leC
 have : ¬lt2 y x:=fun h'=>Ze3 _ (ZfC h h')
 simp only [Zgh,this,decide_false,W3]
theorem Zj2 {x y:List UInt8×List UInt8} (h:leC Zbd x y=true):¬lt2 y x:=by
 unfold leC at h
 simpa only [Zgh,Bool.not_eq_true',decide_eq_false_iff_not] using h
theorem Zv9 {L S:List ZQ} (hp:S.Perm L) (hs:S.Pairwise ltR):Zen Zbd (L.map ZA) (L.map kyR)=S.map ZA/\(L.map kyR).Nodup:=by
 have hnd:(S.map kyR).Nodup:=by
  rw [List.Nodup,XaU]
  exact hs.imp fun h e=>by unfold ltR at h;rw [e] at h;exact Ze3 _ h
 have hndL:(L.map kyR).Nodup:=(hp.map kyR).nodup_iff.1 hnd
 refine ⟨?_,hndL⟩
 have hms:(L.map kyR).mergeSort (leC Zbd)=S.map kyR:=by
  have ht:∀ a b c,leC Zbd a b=true->leC Zbd b c=true->leC Zbd a c=true:=by
   intro a b c h1 h2
   have h1:=Zj2 h1
   have h2:=Zj2 h2
   by_cases e:lt2 a c
   ·exact Zl1 e
   ·by_cases e2:lt2 c a
    ·exfalso
     by_cases e3:lt2 a b
     ·exact h2 (ZfC e2 e3)
     ·have:=ZfF e3 h1;subst this;exact h2 e2
    ·have:=ZfF e e2;subst this
     unfold leC;simp [Zgh,Ze3]
  have hto:∀ a b,(leC Zbd a b || leC Zbd b a)=true:=by
   intro a b
   by_cases e:lt2 a b
   ·simp [Zl1 e]
   ·have : leC Zbd b a=true:=by unfold leC;simp [Zgh,e]
    simp [this]
  have h1:=List.pairwise_mergeSort ht hto (L.map kyR)
  have h2:(S.map kyR).Pairwise fun a b=>leC Zbd a b=true:=by
   rw [XaU];exact hs.imp fun h=>Zl1 h
  exact (((List.mergeSort_perm _ _).trans (hp.map kyR).symm)).eq_of_pairwise (fun a b _ _ h1 h2=>ZfF (Zj2 h2) (Zj2 h1)) h1 h2
 unfold Zen
 rw [ZgT,hms,Wg]
 apply List.map_congr_left
 intro s hsS
 have hsL:=hp.mem_iff.1 hsS
 obtain ⟨i,hi⟩:=WR.1 hsL
 simp only [Function.comp]
 rw [ZhB (i:=i) (y:=ZA s) hndL (by rw [XW,hi];rfl) (by rw [XW,hi];rfl)]
 rfl
theorem ZtN {L S:List ZQ} (hp:S.Perm L) (hs:S.Pairwise ltR) (hl:L.length < 4611686018427387904):E 49 [.sl 0 0 0 L.length,.fn 50 []] [.row 0 3 (L.map ZA)]=some (.tup [],[.row 0 3 (S.map ZA)]):=by
 obtain ⟨h1,h2⟩:=Zv9 hp hs
 refine Zct.2 ⟨1,?_⟩
 show Zg0 3 50 ZfT Zbd [.sl 0 0 0 L.length,.fn 50 []] [.row 0 3 (L.map ZA)]=_
 simp only [Zg0,Zoh,X9,hl,h2,and_self,if_true,h1]
theorem ZAc {L S:List ZQ} (hp:S.Perm L) (hs:S.Pairwise ltR) (hl:L.length < 4611686018427387904) {σ:Za} {t sq:Nat} (hσ:σ[t]?=some (.row 0 3 (L.map ZA))):ZT E BY σ sq 49 0 true [.sl t 0 0 L.length,.fn 50 []]=some (.tup [],σ.set t (.row 0 3 (S.map ZA)),{ any:=true }):=by
 refine Zyx (args':=[.sl 0 0 0 L.length,.fn 50 []]) hσ (by kernel_rfl) rfl rfl (fun ρ h=>by simp only [ZZ,ZP,h]) (fun ρ=>rfl) (Xs rfl) ?_
 rw [ZtN hp hs hl]
 rfl
theorem ZxE {L S:List ZQ} (hp:S.Perm L) (hs:S.Pairwise ltR) (hl:L.length < 4611686018427387904):E 36 [.sl 0 0 0 L.length] [.row 0 3 (L.map ZA)]=some (.sl 0 0 0 L.length,[.row 0 3 (S.map ZA)]):=by
 have h:=fun {σ:Za} {sq:Nat} hσ=>ZAc hp hs hl (σ:=σ) (t:=0) (sq:=sq) hσ
 generalize S.map ZA=X at *
 generalize L.map ZA=Y at *
 rw [Zar (by rfl) ZDq]
 simp -implicitDefEqProofs only [EQA,Zg,Zh,Ze,Zj,Zi,Zf,ZF,ZE,ZH,ZG,ZL,ZI,ZJ,ZM,ZK,implies_true,forall_const,Xh,Xi,Xl,Xd,Xe,Xj,Xk,ZC,ZD,unA,Zy,Zz,unG,reduceCtorEq,Zn,decide_eq_true_eq,Xf,Xc,ite_self,↓reduceIte,Zx,ZB,gcT,gcA,Zv,Zm,Zd,Zl,Zu,Zb,Zt,Zk,Zw,Xg,ZEd,Zkl,Zz8,Zc,Zr,Zs,Zp,Zq,ZN,h]
 simp -implicitDefEqProofs only [EQA,ZaV,gcA,Zv,Z4,XO,XT,Xg,Xad,W1,XM,Wn,Xv,XC,id_eq,ZZ,Zm,Zw,Zan,Zl,Zk,ZP,XK,Zd,Zu,Zb,Zt,Zg,Zh,Ze,Zj,Zi,Zf,ZF,ZE,ZH,ZG,ZL,ZI,ZJ,ZM,ZK,implies_true,forall_const,Xh,Xi,Xl,Xd,Xe,Xj,Xk,ZC,ZD,unA,Zy,Zz,unG,reduceCtorEq,Zn,decide_eq_true_eq,Xf,Xc,ite_self,↓reduceIte,Zx,ZB,gcT,gcA,Zv,Zm,Zd,Zl,Zu,Zb,Zt,Zk,Zw,Xg,or_false]
end
section
theorem Zm7 (l:List ZQ):kOk 3 (l.map ZA)=true:=by cases l <;> rfl
theorem Zo6 {i y:Nat} (h:i<=y):ZcB (.int .i64 (i:Int)) y=some i:=by
 simp only [ZcB]
 rw [if_pos ⟨by omega,by omega⟩]
 simp
theorem Zqu (σ:Za) (l:List ZQ) (j:Nat) (h:j<=l.length):Zby σ 3 (.lst false (l.map ZA)) none (some (.int .i64 (j:Int))) none=some (.lst false ((l.take j).map ZA),σ,{}):=by
 have hm:(l.map ZA).length=l.length:=by simp
 simp only [Zby,ZaC,hm,Zo6 h,beq_self_eq_true,WZ,if_true,Xaw,Xm,if_false,WJ,XaI,List.map_take]
theorem ZhC (σ:Za) (l:List ZQ) (j:Nat) (h:j<=l.length):Zby σ 3 (.lst false (l.map ZA)) (some (.int .i64 (j:Int))) none none=some (.lst false ((l.drop j).map ZA),σ,{}):=by
 have hm:(l.map ZA).length=l.length:=by simp
 have ht:(l.map ZA).take l.length=l.map ZA:=X5 (by simp)
 simp only [Zby,ZaC,hm,Zo6 h,Zm7,XaB,if_true,Xaw,Xm,if_false,WJ,ht,List.map_drop]
theorem ZpH {σ:Za} {sq:Nat} (P:List ZQ) (hP:P.length<=1000001):ZaE σ sq 3 40 (.lst true []) (.lst false (P.map ZA))=some (.sl sq 0 0 P.length,σ.set sq (.row 0 3 (P.map ZA)),{}):=by
 have hm:(P.map ZA).length=P.length:=by simp
 simp only [ZaE,Zn,Zm7,if_true,hm]
 rw [if_pos (by omega)]
theorem ZlI {σ:Za} {sq t g:Nat} {b:Bool} (P Q:List ZQ) (hP:P.length<=1000001) (hQ:Q.length<=1000001) (hs:σ[t]?=some (.row g 3 (P.map ZA))):ZaE σ sq 3 40 (.sl t g 0 P.length) (.lst b (Q.map ZA))=some (.sl t (g+1) 0 (P++Q).length,σ.set t (.row (g+1) 3 ((P++Q).map ZA)),{ wr:=[t] }):=by
 have hm:(P.map ZA).length=P.length:=by simp
 have hm2:(Q.map ZA).length=Q.length:=by simp
 simp only [ZaE,Zn,Zm7,if_true,hm,hm2,hs]
 rw [if_pos ⟨trivial,trivial,trivial,by omega⟩]
 simp
def ZaN (a b:ZQ):Bool:=(a.f == b.f) && (a.k == b.k)
def ZbB (s:ZQ):List ZQ->Nat
 | []=>0
 | x::r=>if Zc0 x s then ZbB s r+1 else 0
def ZcG (l:List ZQ) (s:ZQ) (j:Nat):List ZQ:=match l[j]? with
 | some x=>if ZaN x s then l.drop (j+1) else l.drop j
 | none=>l.drop j
def putAt (l:List ZQ) (s:ZQ) (j:Nat):List ZQ:=l.take j++s::ZcG l s j
theorem Zpg (l:List ZQ) (s:ZQ) (hl:l.length<=1000000) (i:Nat) (hi:i<=l.length):ZaD 0 ZhU (evC FC PR BY 0 ZiG [(5,.int .i64 (i:Int)),(3,.ref 0 0),(0,.lst false (l.map ZA))] [.var [.str s.f,.str s.k,.int .i64 s.v]])=some (.sl 0 0 0 (putAt l s i).length,[.row 0 3 ((putAt l s i).map ZA)]):=by
 have hm:(l.map ZA).length=l.length:=by simp
 have g1:=fun σ=>Zqu σ l i hi
 have k1:(l.take i).length=i:=by simp;omega
 have A1:=fun {σ:Za} {sq:Nat}=>ZpH (σ:=σ) (sq:=sq) (l.take i) (by omega)
 have A2:=fun {σ:Za} {sq t g:Nat} {b:Bool} hs=>ZlI (b:=b) (σ:=σ) (sq:=sq) (t:=t) (g:=g) (l.take i) [s] (by omega) (by simp) hs
 have k2:(l.take i++[s]).length=i+1:=by simp;omega
 have hz:(ZcG l s i).length<=1000000:=by
  unfold ZcG
  split
  ·split <;> simp <;> omega
  ·simp;omega
 have A3:=fun {σ:Za} {sq t g:Nat} hs=>ZlI (b:=false) (σ:=σ) (sq:=sq) (t:=t) (g:=g) (l.take i++[s]) (ZcG l s i) (by simp;omega) (by omega) hs
 have e2:([s]:List ZQ).map ZA=[.agg [.str s.f,.str s.k,.int .i64 s.v]]:=rfl
 have e3:l.take i++[s]++ZcG l s i=putAt l s i:=by simp [putAt]
 rw [k1] at A1 A2
 rw [k2] at A2 A3
 rw [e3] at A3
 rw [e2] at A2
 have hv:∀ σ:Za,viewAs σ [.agg [.str s.f,.str s.k,.int .i64 s.v]]=some ([.agg [.str s.f,.str s.k,.int .i64 s.v]],[]):=fun _=>rfl
 cases hx:l[i]? with
 | none =>
  have h1:¬(i:Int) < l.length:=by have:=List.getElem?_eq_none_iff.1 hx;omega
  have er:ZcG l s i=l.drop i:=by unfold ZcG;rw [hx]
  rw [er] at A3
  have g2:=fun σ=>ZhC σ l i hi
  generalize (putAt l s i).length=n at *
  generalize (putAt l s i).map ZA=W at *
  generalize (l.take i++[s]).map ZA=P2 at *
  generalize (l.take i).map ZA=P at *
  generalize (l.drop i).map ZA=Q at *
  generalize l.map ZA=S at *
  simp -implicitDefEqProofs only [EQA,Zg,Zh,Ze,Zj,Zi,Zf,ZF,ZE,ZH,ZG,ZL,ZI,ZJ,ZM,ZK,implies_true,forall_const,Xh,Xi,Xl,Xd,Xe,Xj,Xk,ZC,ZD,unA,Zy,Zz,unG,reduceCtorEq,Zn,decide_eq_true_eq,Xf,Xc,ite_self,↓reduceIte,Zx,ZB,gcT,gcA,Zv,Zm,Zd,Zl,Zu,Zb,Zt,Zk,Zw,Xg,ZhQ,ZfP,ZhE,Zjx,ZgL,ZfQ,Zez,Zc,Zr,Zs,Zp,Zq,ZN,h1,hm,g1,g2,A1,A2,A3,hv,AVal.cells,ZR,Z1,XU,XaF,ZbX,ZbV,Zco,Zbg,Wc,WF,XE,XN,Xw,XF,Zb4,Zb0,Zb1,Zb9,Zb5,Xv,XC,ZaK,ZaQ,ZaR,Za5,Zbu,Zbn,ZbH,Zbx,ZaT,ZbP,X1,Wl,XE,XN,XK]
  simp -implicitDefEqProofs only [EQA,ZaV,gcA,Zv,Z4,XO,XT,Xg,Xad,W1,XM,Wn,Xv,XC,id_eq,ZZ,Zm,Zw,Zan,Zl,Zk,ZP,XK,Zd,Zu,Zb,Zt,Zg,Zh,Ze,Zj,Zi,Zf,ZF,ZE,ZH,ZG,ZL,ZI,ZJ,ZM,ZK,implies_true,forall_const,Xh,Xi,Xl,Xd,Xe,Xj,Xk,ZC,ZD,unA,Zy,Zz,unG,reduceCtorEq,Zn,decide_eq_true_eq,Xf,Xc,ite_self,↓reduceIte,Zx,ZB,gcT,gcA,Zv,Zm,Zd,Zl,Zu,Zb,Zt,Zk,Zw,Xg,or_false]
 | some x =>
  have h1:(i:Int) < l.length:=by have:=(Xn.1 hx).1;omega
  have h1n:i < l.length:=(Xn.1 hx).1
  have e1:=iad hx ZA (k:=3) rfl
  have e5:=ZbG h1 (by omega)
  have hc:(ZA x).cells=[.str x.f,.str x.k,.int .i64 x.v]:=rfl
  rw [hc] at e1
  cases hf:(x.f == s.f) with
  | false =>
   have er:ZcG l s i=l.drop i:=by unfold ZcG ZaN;rw [hx];simp [hf]
   rw [er] at A3
   have g2:=fun σ=>ZhC σ l i hi
   generalize (putAt l s i).length=n at *
   generalize (putAt l s i).map ZA=W at *
   generalize (l.take i++[s]).map ZA=P2 at *
   generalize (l.take i).map ZA=P at *
   generalize (l.drop i).map ZA=Q at *
   generalize l.map ZA=S at *
   simp -implicitDefEqProofs only [EQA,Zg,Zh,Ze,Zj,Zi,Zf,ZF,ZE,ZH,ZG,ZL,ZI,ZJ,ZM,ZK,implies_true,forall_const,Xh,Xi,Xl,Xd,Xe,Xj,Xk,ZC,ZD,unA,Zy,Zz,unG,reduceCtorEq,Zn,decide_eq_true_eq,Xf,Xc,ite_self,↓reduceIte,Zx,ZB,gcT,gcA,Zv,Zm,Zd,Zl,Zu,Zb,Zt,Zk,Zw,Xg,ZhQ,ZfP,ZhE,Zjx,ZgL,ZfQ,Zez,Zc,Zr,Zs,Zp,Zq,ZN,h1,hm,e1,hf,g1,g2,A1,A2,A3,hv,AVal.cells,ZR,Z1,XU,XaF,ZbX,ZbV,Zco,Zbg,Wc,WF,XE,XN,Xw,XF,Zb4,Zb0,Zb1,Zb9,Zb5,Xv,XC,ZaK,ZaQ,ZaR,Za5,Zbu,Zbn,ZbH,Zbx,ZaT,ZbP,X1,Wl,XE,XN,XK]
   simp -implicitDefEqProofs only [EQA,ZaV,gcA,Zv,Z4,XO,XT,Xg,Xad,W1,XM,Wn,Xv,XC,id_eq,ZZ,Zm,Zw,Zan,Zl,Zk,ZP,XK,Zd,Zu,Zb,Zt,Zg,Zh,Ze,Zj,Zi,Zf,ZF,ZE,ZH,ZG,ZL,ZI,ZJ,ZM,ZK,implies_true,forall_const,Xh,Xi,Xl,Xd,Xe,Xj,Xk,ZC,ZD,unA,Zy,Zz,unG,reduceCtorEq,Zn,decide_eq_true_eq,Xf,Xc,ite_self,↓reduceIte,Zx,ZB,gcT,gcA,Zv,Zm,Zd,Zl,Zu,Zb,Zt,Zk,Zw,Xg,or_false]
  | true =>
   cases hk:(x.k == s.k) with
   | false =>
    have er:ZcG l s i=l.drop i:=by unfold ZcG ZaN;rw [hx];simp [hk]
    rw [er] at A3
    have g2:=fun σ=>ZhC σ l i hi
    generalize (putAt l s i).length=n at *
    generalize (putAt l s i).map ZA=W at *
    generalize (l.take i++[s]).map ZA=P2 at *
    generalize (l.take i).map ZA=P at *
    generalize (l.drop i).map ZA=Q at *
    generalize l.map ZA=S at *
    simp -implicitDefEqProofs only [EQA,Zg,Zh,Ze,Zj,Zi,Zf,ZF,ZE,ZH,ZG,ZL,ZI,ZJ,ZM,ZK,implies_true,forall_const,Xh,Xi,Xl,Xd,Xe,Xj,Xk,ZC,ZD,unA,Zy,Zz,unG,reduceCtorEq,Zn,decide_eq_true_eq,Xf,Xc,ite_self,↓reduceIte,Zx,ZB,gcT,gcA,Zv,Zm,Zd,Zl,Zu,Zb,Zt,Zk,Zw,Xg,ZhQ,ZfP,ZhE,Zjx,ZgL,ZfQ,Zez,Zc,Zr,Zs,Zp,Zq,ZN,h1,hm,e1,hf,hk,g1,g2,A1,A2,A3,hv,AVal.cells,ZR,Z1,XU,XaF,ZbX,ZbV,Zco,Zbg,Wc,WF,XE,XN,Xw,XF,Zb4,Zb0,Zb1,Zb9,Zb5,Xv,XC,ZaK,ZaQ,ZaR,Za5,Zbu,Zbn,ZbH,Zbx,ZaT,ZbP,X1,Wl,XE,XN,XK]
    simp -implicitDefEqProofs only [EQA,ZaV,gcA,Zv,Z4,XO,XT,Xg,Xad,W1,XM,Wn,Xv,XC,id_eq,ZZ,Zm,Zw,Zan,Zl,Zk,ZP,XK,Zd,Zu,Zb,Zt,Zg,Zh,Ze,Zj,Zi,Zf,ZF,ZE,ZH,ZG,ZL,ZI,ZJ,ZM,ZK,implies_true,forall_const,Xh,Xi,Xl,Xd,Xe,Xj,Xk,ZC,ZD,unA,Zy,Zz,unG,reduceCtorEq,Zn,decide_eq_true_eq,Xf,Xc,ite_self,↓reduceIte,Zx,ZB,gcT,gcA,Zv,Zm,Zd,Zl,Zu,Zb,Zt,Zk,Zw,Xg,or_false]
   | true =>
    have er:ZcG l s i=l.drop (i+1):=by unfold ZcG ZaN;rw [hx];simp [hf,hk]
    rw [er] at A3
    have g2:=fun σ=>ZhC σ l (i+1) (by omega)
    generalize (putAt l s i).length=n at *
    generalize (putAt l s i).map ZA=W at *
    generalize (l.take i++[s]).map ZA=P2 at *
    generalize (l.take i).map ZA=P at *
    generalize (l.drop (i+1)).map ZA=Q at *
    generalize l.map ZA=S at *
    simp -implicitDefEqProofs only [EQA,Zg,Zh,Ze,Zj,Zi,Zf,ZF,ZE,ZH,ZG,ZL,ZI,ZJ,ZM,ZK,implies_true,forall_const,Xh,Xi,Xl,Xd,Xe,Xj,Xk,ZC,ZD,unA,Zy,Zz,unG,reduceCtorEq,Zn,decide_eq_true_eq,Xf,Xc,ite_self,↓reduceIte,Zx,ZB,gcT,gcA,Zv,Zm,Zd,Zl,Zu,Zb,Zt,Zk,Zw,Xg,ZhQ,ZfP,ZhE,Zjx,ZgL,ZfQ,Zez,Zc,Zr,Zs,Zp,Zq,ZN,h1,hm,e1,e5,hf,hk,g1,g2,A1,A2,A3,hv,AVal.cells,ZR,Z1,XU,XaF,ZbX,ZbV,Zco,Zbg,Wc,WF,XE,XN,Xw,XF,Zb4,Zb0,Zb1,Zb9,Zb5,Xv,XC,ZaK,ZaQ,ZaR,Za5,Zbu,Zbn,ZbH,Zbx,ZaT,ZbP,X1,Wl,XE,XN,XK]
    simp -implicitDefEqProofs only [EQA,ZaV,gcA,Zv,Z4,XO,XT,Xg,Xad,W1,XM,Wn,Xv,XC,id_eq,ZZ,Zm,Zw,Zan,Zl,Zk,ZP,XK,Zd,Zu,Zb,Zt,Zg,Zh,Ze,Zj,Zi,Zf,ZF,ZE,ZH,ZG,ZL,ZI,ZJ,ZM,ZK,implies_true,forall_const,Xh,Xi,Xl,Xd,Xe,Xj,Xk,ZC,ZD,unA,Zy,Zz,unG,reduceCtorEq,Zn,decide_eq_true_eq,Xf,Xc,ite_self,↓reduceIte,Zx,ZB,gcT,gcA,Zv,Zm,Zd,Zl,Zu,Zb,Zt,Zk,Zw,Xg,or_false]
end
section
def Zf6:Zo:=(.seq (.region [oI 2 (.mov (.c (.bool true)))] none [2]) .ret)
def Zmt:Zo:=Zf6
def Zhl:=xw Zmt Zf6 rfl
def Zf3:Zo:=(.seq (.seq (.region [oM 10 4,oM 11 3,oI 12 (.len (.t 11)),oI 13 (.bin .lss (.t 10) (.t 12))] none [13,4,3]) (.cond (.t 13) .skip (.exit 0))) (.seq (.block 1 (.seq (.region [oM 16 3,oM 17 4,oI 18 (.iaddr 1 (.t 16) (.t 17)),oL 19 18,oI 20 (.call 39 0 true [(.t 19),(.c (.int .u8 35))]),oM 21 20,⟨(some 22),(.mov (.t 3)),(some (21,true)),[]⟩,⟨(some 23),(.mov (.t 4)),(some (21,true)),[]⟩,⟨(some 24),(.iaddr 1 (.t 22) (.t 23)),(some (21,true)),[]⟩,⟨(some 25),(.ld none (.t 24)),(some (21,true)),[]⟩,⟨(some 26),(.bin .neq (.t 25) (.c (.str [35]))),(some (21,true)),[]⟩,⟨(some 27),(.mov (.t 26)),(some (21,true)),[]⟩,⟨(some 28),(.mov (.t 4)),(some (27,false)),[]⟩,⟨(some 29),(.mov (.t 3)),(some (27,false)),[]⟩,⟨(some 30),(.len (.t 29)),(some (27,false)),[]⟩,⟨(some 31),(.bin .sub (.t 30) (.c (.int .i64 1))),(some (27,false)),[]⟩,⟨(some 32),(.bin .neq (.t 28) (.t 31)),(some (27,false)),[]⟩,⟨(some 33),(.pick (.t 27) (.c (.bool true)) (.t 32)),(some (21,true)),[]⟩,oI 34 (.pick (.t 21) (.t 33) (.c (.bool false))),oM 35 34,⟨(some 36),(.mov (.t 3)),(some (35,false)),[]⟩,⟨(some 37),(.mov (.t 4)),(some (35,false)),[]⟩,⟨(some 38),(.iaddr 1 (.t 36) (.t 37)),(some (35,false)),[]⟩,⟨(some 39),(.ld none (.t 38)),(some (35,false)),[]⟩,⟨(some 40),(.call 39 0 true [(.t 39),(.c (.int .u8 43))]),(some (35,false)),[]⟩,⟨(some 41),(.mov (.t 40)),(some (35,false)),[]⟩,⟨(some 42),(.mov (.t 3)),(some (41,true)),[]⟩,⟨(some 43),(.mov (.t 4)),(some (41,true)),[]⟩,⟨(some 44),(.iaddr 1 (.t 42) (.t 43)),(some (41,true)),[]⟩,⟨(some 45),(.ld none (.t 44)),(some (41,true)),[]⟩,⟨(some 46),(.bin .neq (.t 45) (.c (.str [43]))),(some (41,true)),[]⟩,⟨(some 47),(.pick (.t 41) (.t 46) (.c (.bool false))),(some (35,false)),[]⟩,oI 48 (.pick (.t 35) (.c (.bool true)) (.t 47))] none [48,4,3]) (.cond (.t 48) (.seq (.region [oI 2 (.mov (.c (.bool false)))] none [2]) .ret) .skip))) (.region [oM 14 4,oI 15 (.bin .add (.t 14) (.c (.int .i64 1))),oM 4 15] none [4,3])))
def Zkg:Zo:=Zf3
def Zhz:=xw Zkg Zf3 rfl
def ZfH:Zo:=(.seq (.region [oI 2 (.mov (.c (.bool false)))] none [0]) (.seq (.seq (.region [oM 5 0,oI 6 (.call 38 0 true [(.t 5)]),oI 7 (.un .not (.t 6))] none [7,0]) (.cond (.t 7) (.seq (.region [oI 2 (.mov (.c (.bool false)))] none [2]) .ret) .skip)) (.seq (.region [oM 8 0,oI 9 (.call 41 0 true [(.t 8)]),oM 3 9] none [3]) (.seq (.seq (.region [oI 4 (.mov (.c (.int .i64 0)))] none [4,3]) (.block 0 (.loop [4,3] Zkg))) Zmt))))
def Ziv:Z8:=⟨[(.tmp 2)],ZfH⟩
theorem ZGh:FC 25=some Ziv:=by kernel_rfl
theorem ZhT:Ziv.body=ZfH:=rfl
theorem ZhJ:Ziv.res=[(.tmp 2)]:=rfl
noncomputable def Zja (m:Nat) (tm:Tms) (σ:Za):Option (AVal×Za):=(ZaD m Ziv (Za0 FC PR BY m Zmt (Wx (ZaG 0) (evL FC PR BY m [4,3] Zkg tm σ))))
def Zeh:Zo:=(.seq (.region [oM 27 3,oM 28 4,oI 29 (.bslice false 1 1 (.str []) [(0,(.t 28))]),oI 30 (.app 1 16 (.str []) (.t 27) (.t 29)),oM 2 30] none [2]) .ret)
def ZkK:Zo:=Zeh
def Zf4:=xw ZkK Zeh rfl
def Zev:Zo:=(.seq (.seq (.region [oM 6 5,oM 7 0,oI 8 (.slen (.t 7)),oI 9 (.bin .lss (.t 6) (.t 8))] none [9,5,4,3,0]) (.cond (.t 9) .skip (.exit 0))) (.seq (.block 1 (.seq (.seq (.region [oM 12 0,oM 13 5,oI 14 (.sindex (.t 12) (.t 13)),oI 15 (.bin .eql (.t 14) (.c (.int .u8 47)))] none [15,5,4,3,0]) (.cond (.t 15) (.seq (.region [oM 16 3,oM 17 4,oI 18 (.bslice false 1 1 (.str []) [(0,(.t 17))]),oI 19 (.app 1 16 (.str []) (.t 16) (.t 18)),oM 3 19] none [5,3,0]) (.seq (.region [oI 4 (.mov (.c (.str [])))] none [5,4,3,0]) (.exit 1))) .skip)) (.region [oM 20 4,oM 21 0,oM 22 5,oM 23 5,oI 24 (.bin .add (.t 23) (.c (.int .i64 1))),oI 25 (.sslice (.t 21) (some (.t 22)) (some (.t 24))),oI 26 (.bin .add (.t 20) (.t 25)),oM 4 26] none [5,4,3,0]))) (.region [oM 10 5,oI 11 (.bin .add (.t 10) (.c (.int .i64 1))),oM 5 11] none [5,4,3,0])))
def Zj8:Zo:=Zev
def Zf8:=xw Zj8 Zev rfl
def ZeI:Zo:=(.seq (.region [oI 2 (.mov (.c (.lst true [])))] none [0]) (.seq (.region [oI 3 (.mov (.c (.lst true [])))] none [3,0]) (.seq (.region [oI 4 (.mov (.c (.str [])))] none [4,3,0]) (.seq (.seq (.region [oI 5 (.mov (.c (.int .i64 0)))] none [5,4,3,0]) (.block 0 (.loop [5,4,3,0] Zj8))) ZkK))))
def Ziz:Z8:=⟨[(.tmp 2)],ZeI⟩
theorem ZDS:FC 41=some Ziz:=by kernel_rfl
theorem ZfX:Ziz.body=ZeI:=rfl
theorem Zfz:Ziz.res=[(.tmp 2)]:=rfl
noncomputable def Zfx (m:Nat) (tm:Tms) (σ:Za):Option (AVal×Za):=(ZaD m Ziz (Za0 FC PR BY m ZkK (Wx (ZaG 0) (evL FC PR BY m [5,4,3,0] Zj8 tm σ))))
def Zcl:Zo:=(.seq (.region [oM 72 5,oI 73 (.len (.t 72)),oM 74 6,oI 75 (.len (.t 74)),oI 76 (.bin .eql (.t 73) (.t 75)),oM 4 76] none [4]) .ret)
def Zlg:Zo:=Zcl
def ZcQ:=xw Zlg Zcl rfl
def Zcj:Zo:=(.seq (.seq (.region [oM 35 7,oM 36 5,oI 37 (.len (.t 36)),oI 38 (.bin .lss (.t 35) (.t 37))] none [38,7,6,5]) (.cond (.t 38) .skip (.exit 0))) (.seq (.block 1 (.seq (.seq (.region [oM 41 5,oM 42 7,oI 43 (.iaddr 1 (.t 41) (.t 42)),oL 44 43,oI 45 (.bin .eql (.t 44) (.c (.str [35])))] none [45,7,6,5]) (.cond (.t 45) (.seq (.region [oM 46 6,oI 47 (.len (.t 46)),oM 48 7,oI 49 (.bin .geq (.t 47) (.t 48)),oM 4 49] none [4]) .ret) .skip)) (.seq (.region [oM 50 7,oM 51 6,oI 52 (.len (.t 51)),oI 53 (.bin .geq (.t 50) (.t 52)),oM 54 53,⟨(some 55),(.mov (.t 5)),(some (54,false)),[]⟩,⟨(some 56),(.mov (.t 7)),(some (54,false)),[]⟩,⟨(some 57),(.iaddr 1 (.t 55) (.t 56)),(some (54,false)),[]⟩,⟨(some 58),(.ld none (.t 57)),(some (54,false)),[]⟩,⟨(some 59),(.bin .neq (.t 58) (.c (.str [43]))),(some (54,false)),[]⟩,⟨(some 60),(.mov (.t 59)),(some (54,false)),[]⟩,⟨(some 61),(.mov (.t 5)),(some (60,true)),[]⟩,⟨(some 62),(.mov (.t 7)),(some (60,true)),[]⟩,⟨(some 63),(.iaddr 1 (.t 61) (.t 62)),(some (60,true)),[]⟩,⟨(some 64),(.ld none (.t 63)),(some (60,true)),[]⟩,⟨(some 65),(.mov (.t 6)),(some (60,true)),[]⟩,⟨(some 66),(.mov (.t 7)),(some (60,true)),[]⟩,⟨(some 67),(.iaddr 1 (.t 65) (.t 66)),(some (60,true)),[]⟩,⟨(some 68),(.ld none (.t 67)),(some (60,true)),[]⟩,⟨(some 69),(.bin .neq (.t 64) (.t 68)),(some (60,true)),[]⟩,⟨(some 70),(.pick (.t 60) (.t 69) (.c (.bool false))),(some (54,false)),[]⟩,oI 71 (.pick (.t 54) (.c (.bool true)) (.t 70))] (some [(13,17),(14,17),(13,18),(14,18)]) [71,7,6,5]) (.cond (.t 71) (.seq (.region [oI 4 (.mov (.c (.bool false)))] none [4]) .ret) .skip)))) (.region [oM 39 7,oI 40 (.bin .add (.t 39) (.c (.int .i64 1))),oM 7 40] none [7,6,5])))
def Zlb:Zo:=Zcj
def ZcV:=xw Zlb Zcj rfl
def Zcv:Zo:=(.seq (.region [oI 4 (.mov (.c (.bool false)))] none [1,0]) (.seq (.seq (.region [oM 8 0,oI 9 (.call 25 0 true [(.t 8)]),oI 10 (.un .not (.t 9)),oM 11 10,⟨(some 12),(.mov (.t 1)),(some (11,false)),[]⟩,⟨(some 13),(.call 16 0 true [(.t 12)]),(some (11,false)),[]⟩,⟨(some 14),(.un .not (.t 13)),(some (11,false)),[]⟩,oI 15 (.pick (.t 11) (.c (.bool true)) (.t 14))] none [15,1,0]) (.cond (.t 15) (.seq (.region [oI 4 (.mov (.c (.bool false)))] none [4]) .ret) .skip)) (.seq (.region [oM 16 0,oI 17 (.call 41 0 true [(.t 16)]),oM 18 1,oI 19 (.call 41 0 true [(.t 18)]),oM 5 17,oM 6 19] none [6,5,1]) (.seq (.seq (.region [oM 20 5,oI 21 (.iaddr 1 (.t 20) (.c (.int .i64 0))),oL 22 21,oI 23 (.bin .eql (.t 22) (.c (.str [43]))),oM 24 23,⟨(some 25),(.mov (.t 5)),(some (24,false)),[]⟩,⟨(some 26),(.iaddr 1 (.t 25) (.c (.int .i64 0))),(some (24,false)),[]⟩,⟨(some 27),(.ld none (.t 26)),(some (24,false)),[]⟩,⟨(some 28),(.bin .eql (.t 27) (.c (.str [35]))),(some (24,false)),[]⟩,oI 29 (.pick (.t 24) (.c (.bool true)) (.t 28)),oM 30 29,⟨(some 31),(.mov (.t 1)),(some (30,true)),[]⟩,⟨(some 32),(.sindex (.t 31) (.c (.int .i64 0))),(some (30,true)),[]⟩,⟨(some 33),(.bin .eql (.t 32) (.c (.int .u8 36))),(some (30,true)),[]⟩,oI 34 (.pick (.t 30) (.t 33) (.c (.bool false)))] none [34,6,5]) (.cond (.t 34) (.seq (.region [oI 4 (.mov (.c (.bool false)))] none [4]) .ret) .skip)) (.seq (.seq (.region [oI 7 (.mov (.c (.int .i64 0)))] none [7,6,5]) (.block 0 (.loop [7,6,5] Zlb))) Zlg)))))
def ZiT:Z8:=⟨[(.tmp 4)],Zcv⟩
theorem Zu2:FC 22=some ZiT:=by kernel_rfl
theorem ZcS:ZiT.body=Zcv:=rfl
theorem ZcM:ZiT.res=[(.tmp 4)]:=rfl
noncomputable def Zhp (m:Nat) (tm:Tms) (σ:Za):Option (AVal×Za):=(ZaD m ZiT (Za0 FC PR BY m Zlg (Wx (ZaG 0) (evL FC PR BY m [7,6,5] Zlb tm σ))))
def ZhR:Zo:=(.seq (.region [oI 2 (.mov (.c (.bool false)))] none [0]) (.seq (.region [oM 3 0,oI 4 (.call 38 0 true [(.t 3)]),oM 5 4,⟨(some 6),(.mov (.t 0)),(some (5,true)),[]⟩,⟨(some 7),(.call 39 0 true [(.t 6),(.c (.int .u8 43))]),(some (5,true)),[]⟩,⟨(some 8),(.un .not (.t 7)),(some (5,true)),[]⟩,oI 9 (.pick (.t 5) (.t 8) (.c (.bool false))),oM 10 9,⟨(some 11),(.mov (.t 0)),(some (10,true)),[]⟩,⟨(some 12),(.call 39 0 true [(.t 11),(.c (.int .u8 35))]),(some (10,true)),[]⟩,⟨(some 13),(.un .not (.t 12)),(some (10,true)),[]⟩,oI 14 (.pick (.t 10) (.t 13) (.c (.bool false))),oM 2 14] none [2]) .ret))
def Zl3:Z8:=⟨[(.tmp 2)],ZhR⟩
theorem Zzh:FC 16=some Zl3:=by kernel_rfl
theorem Zk0:Zl3.body=ZhR:=rfl
theorem ZkB:Zl3.res=[(.tmp 2)]:=rfl
def Zg4:Zo:=(.seq (.region [oI 4 (.mov (.c (.bool false)))] none [4]) .ret)
def Zkj:Zo:=Zg4
def Zjs:=xw Zkj Zg4 rfl
def Zgy:Zo:=(.seq (.seq (.region [oM 6 5,oM 7 0,oI 8 (.slen (.t 7)),oI 9 (.bin .lss (.t 6) (.t 8))] none [9,5,1,0]) (.cond (.t 9) .skip (.exit 0))) (.seq (.block 1 (.seq (.region [oM 12 0,oM 13 5,oI 14 (.sindex (.t 12) (.t 13)),oM 15 1,oI 16 (.bin .eql (.t 14) (.t 15))] none [16,5,1,0]) (.cond (.t 16) (.seq (.region [oI 4 (.mov (.c (.bool true)))] none [4]) .ret) .skip))) (.region [oM 10 5,oI 11 (.bin .add (.t 10) (.c (.int .i64 1))),oM 5 11] none [5,1,0])))
def Zkh:Zo:=Zgy
def Zit:=xw Zkh Zgy rfl
def Zhb:Zo:=(.seq (.region [oI 4 (.mov (.c (.bool false)))] none [1,0]) (.seq (.seq (.region [oI 5 (.mov (.c (.int .i64 0)))] none [5,1,0]) (.block 0 (.loop [5,1,0] Zkh))) Zkj))
def ZiJ:Z8:=⟨[(.tmp 4)],Zhb⟩
theorem ZuJ:FC 39=some ZiJ:=by kernel_rfl
theorem ZiV:ZiJ.body=Zhb:=rfl
theorem ZjI:ZiJ.res=[(.tmp 4)]:=rfl
noncomputable def Zj1 (m:Nat) (tm:Tms) (σ:Za):Option (AVal×Za):=(ZaD m ZiJ (Za0 FC PR BY m Zkj (Wx (ZaG 0) (evL FC PR BY m [5,1,0] Zkh tm σ))))
def ZjL:Zo:=(.seq (.region [oI 2 (.mov (.c (.bool false)))] none [0]) (.seq (.region [oM 3 0,oI 4 (.slen (.t 3)),oI 5 (.bin .geq (.t 4) (.c (.int .i64 1))),oM 6 5,⟨(some 7),(.mov (.t 0)),(some (6,true)),[]⟩,⟨(some 8),(.slen (.t 7)),(some (6,true)),[]⟩,⟨(some 9),(.bin .leq (.t 8) (.c (.int .i64 64))),(some (6,true)),[]⟩,oI 10 (.pick (.t 6) (.t 9) (.c (.bool false))),oM 11 10,⟨(some 12),(.mov (.t 0)),(some (11,true)),[]⟩,⟨(some 13),(.call 52 0 true [(.t 12)]),(some (11,true)),[]⟩,oI 14 (.pick (.t 11) (.t 13) (.c (.bool false))),oM 2 14] none [2]) .ret))
def ZmF:Z8:=⟨[(.tmp 2)],ZjL⟩
theorem Zt0:FC 38=some ZmF:=by kernel_rfl
theorem ZoG:ZmF.body=ZjL:=rfl
theorem Zqj:ZmF.res=[(.tmp 2)]:=rfl
def ZdN:Zo:=(.seq (.region [oM 36 0,oI 37 (.call 46 0 true [(.t 36)]),oM 2 37] none [2]) .ret)
def Zlf:Zo:=ZdN
def ZeK:=xw Zlf ZdN rfl
def Zd3:Zo:=(.seq (.region [oI 12 (.bin .lss (.t 11) (.t 10))] none [12,11,10,9,3,0]) (.seq (.cond (.t 12) .skip (.exit 0)) (.seq (.block 1 (.seq (.region [oM 13 11,oI 14 (.iaddr 1 (.t 9) (.t 11)),oL 15 14,oM 4 13,oM 5 15] none [11,10,9,5,4,3,0]) (.seq (.region [oM 16 5,oI 17 (.bin .eql (.t 16) (.c (.str [43]))),oM 18 17,⟨(some 19),(.mov (.t 5)),(some (18,false)),[]⟩,⟨(some 20),(.bin .eql (.t 19) (.c (.str [35]))),(some (18,false)),[]⟩,⟨(some 21),(.mov (.t 20)),(some (18,false)),[]⟩,⟨(some 22),(.mov (.t 4)),(some (21,true)),[]⟩,⟨(some 23),(.mov (.t 3)),(some (21,true)),[]⟩,⟨(some 24),(.len (.t 23)),(some (21,true)),[]⟩,⟨(some 25),(.bin .sub (.t 24) (.c (.int .i64 1))),(some (21,true)),[]⟩,⟨(some 26),(.bin .eql (.t 22) (.t 25)),(some (21,true)),[]⟩,⟨(some 27),(.pick (.t 21) (.t 26) (.c (.bool false))),(some (18,false)),[]⟩,oI 28 (.pick (.t 18) (.c (.bool true)) (.t 27)),oM 6 28] none [11,10,9,6,5,3,0]) (.seq (.region [oM 29 6,oI 30 (.un .not (.t 29)),oM 31 30,⟨(some 32),(.mov (.t 5)),(some (31,true)),[]⟩,⟨(some 33),(.call 45 0 true [(.t 32),(.c (.str [43,35]))]),(some (31,true)),[]⟩,oI 34 (.pick (.t 31) (.t 33) (.c (.bool false)))] none [34,11,10,9,3,0]) (.cond (.t 34) (.seq (.region [oI 2 (.mov (.c (.bool false)))] none [2]) .ret) .skip))))) (.region [oI 35 (.bin .add (.t 11) (.c (.int .i64 1))),oM 11 35] none [11,10,9,3,0]))))
def Zmn:Zo:=Zd3
def Ze8:=xw Zmn Zd3 rfl
def Zea:Zo:=(.seq (.region [oI 2 (.mov (.c (.bool false)))] none [0]) (.seq (.region [oM 7 0,oI 8 (.call 31 0 true [(.t 7)]),oM 3 8] none [3,0]) (.seq (.seq (.region [oM 9 3,oI 10 (.len (.t 9)),oI 11 (.mov (.c (.int .i64 0)))] none [11,10,9,3,0]) (.block 0 (.loop [11,10,9,3,0] Zmn))) Zlf)))
def ZjQ:Z8:=⟨[(.tmp 2)],Zea⟩
theorem Zu6:FC 29=some ZjQ:=by kernel_rfl
theorem Zfa:ZjQ.body=Zea:=rfl
theorem Zfc:ZjQ.res=[(.tmp 2)]:=rfl
noncomputable def ZjF (m:Nat) (tm:Tms) (σ:Za):Option (AVal×Za):=(ZaD m ZjQ (Za0 FC PR BY m Zlf (Wx (ZaG 0) (evL FC PR BY m [11,10,9,3,0] Zmn tm σ))))
def Zkv:Zo:=(.seq (.region [oI 2 (.mov (.c (.lst true [])))] none [0]) (.seq (.region [oM 3 0,oI 4 (.call 47 0 true [(.t 3),(.c (.str [47]))]),oM 2 4] none [2]) .ret))
def Zmy:Z8:=⟨[(.tmp 2)],Zkv⟩
theorem ZBP:FC 31=some Zmy:=by kernel_rfl
theorem ZBb:Zmy.body=Zkv:=rfl
theorem ZAG:Zmy.res=[(.tmp 2)]:=rfl
def ZcH:Zo:=(.seq (.region [oM 64 5,oI 65 (.len (.t 64)),oM 66 6,oI 67 (.len (.t 66)),oI 68 (.bin .eql (.t 65) (.t 67)),oM 4 68] none [4]) .ret)
def Zm0:Zo:=ZcH
def Zdb:=xw Zm0 ZcH rfl
def ZcC:Zo:=(.seq (.region [oI 39 (.bin .lss (.t 38) (.t 37))] none [39,38,37,36,6,5]) (.seq (.cond (.t 39) .skip (.exit 0)) (.seq (.block 1 (.seq (.region [oM 40 38,oI 41 (.iaddr 1 (.t 36) (.t 38)),oL 42 41,oM 7 40,oM 8 42] none [38,37,36,8,7,6,5]) (.block 2 (.seq (.region [oM 44 8,oI 45 (.bin .eql (.t 44) (.c (.str [35]))),oM 43 45] none [43,38,37,36,8,7,6,5]) (.cond (.t 43) (.seq (.region [oI 4 (.mov (.c (.bool true)))] none [4]) .ret) (.seq (.region [oM 47 7,oM 48 6,oI 49 (.len (.t 48)),oI 50 (.bin .eql (.t 47) (.t 49)),oM 51 50,⟨(some 52),(.mov (.t 8)),(some (51,false)),[]⟩,⟨(some 53),(.bin .neq (.t 52) (.c (.str [43]))),(some (51,false)),[]⟩,⟨(some 54),(.mov (.t 53)),(some (51,false)),[]⟩,⟨(some 55),(.mov (.t 8)),(some (54,true)),[]⟩,⟨(some 56),(.mov (.t 6)),(some (54,true)),[]⟩,⟨(some 57),(.mov (.t 7)),(some (54,true)),[]⟩,⟨(some 58),(.iaddr 1 (.t 56) (.t 57)),(some (54,true)),[]⟩,⟨(some 59),(.ld none (.t 58)),(some (54,true)),[]⟩,⟨(some 60),(.bin .neq (.t 55) (.t 59)),(some (54,true)),[]⟩,⟨(some 61),(.pick (.t 54) (.t 60) (.c (.bool false))),(some (51,false)),[]⟩,oI 62 (.pick (.t 51) (.c (.bool true)) (.t 61)),oM 46 62] none [46,38,37,36,6,5]) (.cond (.t 46) (.seq (.region [oI 4 (.mov (.c (.bool false)))] none [4]) .ret) .skip))))))) (.region [oI 63 (.bin .add (.t 38) (.c (.int .i64 1))),oM 38 63] none [38,37,36,6,5]))))
def Zma:Zo:=ZcC
def Zc4:=xw Zma ZcC rfl
def Zcx:Zo:=(.seq (.region [oI 4 (.mov (.c (.bool false)))] none [1,0]) (.seq (.seq (.region [oM 9 0,oI 10 (.call 29 0 true [(.t 9)]),oI 11 (.un .not (.t 10)),oM 12 11,⟨(some 13),(.mov (.t 1)),(some (12,false)),[]⟩,⟨(some 14),(.call 33 0 true [(.t 13)]),(some (12,false)),[]⟩,⟨(some 15),(.un .not (.t 14)),(some (12,false)),[]⟩,oI 16 (.pick (.t 12) (.c (.bool true)) (.t 15))] none [16,1,0]) (.cond (.t 16) (.seq (.region [oI 4 (.mov (.c (.bool false)))] none [4]) .ret) .skip)) (.seq (.region [oM 17 0,oI 18 (.call 31 0 true [(.t 17)]),oM 19 1,oI 20 (.call 31 0 true [(.t 19)]),oM 5 18,oM 6 20] none [6,5,1]) (.seq (.seq (.region [oM 21 1,oI 22 (.sindex (.t 21) (.c (.int .i64 0))),oI 23 (.bin .eql (.t 22) (.c (.int .u8 36))),oM 24 23,⟨(some 25),(.mov (.t 5)),(some (24,true)),[]⟩,⟨(some 26),(.iaddr 1 (.t 25) (.c (.int .i64 0))),(some (24,true)),[]⟩,⟨(some 27),(.ld none (.t 26)),(some (24,true)),[]⟩,⟨(some 28),(.bin .eql (.t 27) (.c (.str [43]))),(some (24,true)),[]⟩,⟨(some 29),(.mov (.t 28)),(some (24,true)),[]⟩,⟨(some 30),(.mov (.t 5)),(some (29,false)),[]⟩,⟨(some 31),(.iaddr 1 (.t 30) (.c (.int .i64 0))),(some (29,false)),[]⟩,⟨(some 32),(.ld none (.t 31)),(some (29,false)),[]⟩,⟨(some 33),(.bin .eql (.t 32) (.c (.str [35]))),(some (29,false)),[]⟩,⟨(some 34),(.pick (.t 29) (.c (.bool true)) (.t 33)),(some (24,true)),[]⟩,oI 35 (.pick (.t 24) (.t 34) (.c (.bool false)))] none [35,6,5]) (.cond (.t 35) (.seq (.region [oI 4 (.mov (.c (.bool false)))] none [4]) .ret) .skip)) (.seq (.seq (.region [oM 36 5,oI 37 (.len (.t 36)),oI 38 (.mov (.c (.int .i64 0)))] none [38,37,36,6,5]) (.block 0 (.loop [38,37,36,6,5] Zma))) Zm0)))))
def Zjt:Z8:=⟨[(.tmp 4)],Zcx⟩
theorem ZsT:FC 37=some Zjt:=by kernel_rfl
theorem Zdc:Zjt.body=Zcx:=rfl
theorem Zc3:Zjt.res=[(.tmp 4)]:=rfl
noncomputable def ZhN (m:Nat) (tm:Tms) (σ:Za):Option (AVal×Za):=(ZaD m Zjt (Za0 FC PR BY m Zm0 (Wx (ZaG 0) (evL FC PR BY m [38,37,36,6,5] Zma tm σ))))
def ZiM:Zo:=(.seq (.region [oI 2 (.mov (.c (.bool false)))] none [0]) (.seq (.region [oM 3 0,oI 4 (.call 46 0 true [(.t 3)]),oM 5 4,⟨(some 6),(.mov (.t 0)),(some (5,true)),[]⟩,⟨(some 7),(.call 45 0 true [(.t 6),(.c (.str [43,35]))]),(some (5,true)),[]⟩,⟨(some 8),(.un .not (.t 7)),(some (5,true)),[]⟩,oI 9 (.pick (.t 5) (.t 8) (.c (.bool false))),oM 2 9] none [2]) .ret))
def Zlq:Z8:=⟨[(.tmp 2)],ZiM⟩
theorem ZD4:FC 33=some Zlq:=by kernel_rfl
theorem ZnE:Zlq.body=ZiM:=rfl
theorem Zrb:Zlq.res=[(.tmp 2)]:=rfl
def Zm3:Zo:=(.seq (.region [oI 2 (.mov (.c (.bool false)))] none [0]) (.seq (.region [oM 3 0,oI 4 (.slen (.t 3)),oI 5 (.bin .geq (.t 4) (.c (.int .i64 1))),oM 6 5,⟨(some 7),(.mov (.t 0)),(some (6,true)),[]⟩,⟨(some 8),(.slen (.t 7)),(some (6,true)),[]⟩,⟨(some 9),(.bin .leq (.t 8) (.c (.int .i64 64))),(some (6,true)),[]⟩,oI 10 (.pick (.t 6) (.t 9) (.c (.bool false))),oM 11 10,⟨(some 12),(.mov (.t 0)),(some (11,true)),[]⟩,⟨(some 13),(.call 54 0 true [(.t 12)]),(some (11,true)),[]⟩,oI 14 (.pick (.t 11) (.t 13) (.c (.bool false))),oM 2 14] none [2]) .ret))
def Zk4:Z8:=⟨[(.tmp 2)],Zm3⟩
theorem Zv0:FC 46=some Zk4:=by kernel_rfl
theorem ZD1:Zk4.body=Zm3:=rfl
theorem ZGf:Zk4.res=[(.tmp 2)]:=rfl
end
section
def Zj7:Zo:=(.seq (.region [oI 4 (.mov (.c (.bool false)))] none [1,0]) (.seq (.region [oM 5 0,oM 6 1,oI 7 (.nilchk (.t 5)),oI 8 (.aaddr 1 256 (.t 7) (.t 6)),oL 9 8,oM 4 9] none [4]) .ret))
def Zk9:Z8:=⟨[(.tmp 4)],Zj7⟩
theorem ZD5:FC 63=some Zk9:=by kernel_rfl
theorem Zza:Zk9.body=Zj7:=rfl
theorem Zsv:Zk9.res=[(.tmp 4)]:=rfl
def Zkc:Zo:=(.seq (.region [oI 4 (.mov (.c (.bool false)))] none [1,0]) (.seq (.region [oM 5 0,oM 6 1,oI 7 (.call 53 0 true [(.t 5),(.t 6)]),oI 8 (.bin .geq (.t 7) (.c (.int .i64 0))),oM 4 8] none [4]) .ret))
def Zkf:Z8:=⟨[(.tmp 4)],Zkc⟩
theorem ZBD:FC 45=some Zkf:=by kernel_rfl
theorem ZFO:Zkf.body=Zkc:=rfl
theorem ZBC:Zkf.res=[(.tmp 4)]:=rfl
def Zd2:Zo:=(.seq (.region [oI 4 (.mov (.c (.int .i64 (-1))))] none [4]) .ret)
def Zk6:Zo:=Zd2
def ZeN:=xw Zk6 Zd2 rfl
def ZdT:Zo:=(.seq (.region [oI 46 (.nxt (.t 45)),oI 47 (.ext (.t 46) 0)] none [47,46,45,1]) (.seq (.cond (.t 47) .skip (.exit 2)) (.block 3 (.seq (.region [oI 48 (.ext (.t 46) 1),oI 49 (.ext (.t 46) 2),oM 9 48,oM 10 49] none [45,10,9,1]) (.seq (.region [oM 50 1,oM 51 10,oI 52 (.call 60 0 true [(.t 50),(.t 51)]),oI 53 (.bin .geq (.t 52) (.c (.int .i64 0)))] none [53,45,9,1]) (.cond (.t 53) (.seq (.region [oM 54 9,oM 4 54] none [4]) .ret) .skip))))))
def Zll:Zo:=ZdT
def Zfl:=xw Zll ZdT rfl
def Zd8:Zo:=(.seq (.seq (.region [oM 44 0,oI 45 (.rng (.t 44))] none [45,1]) (.block 2 (.loop [45,1] Zll))) Zk6)
def ZkG:Zo:=Zd8
def ZeS:=xw ZkG Zd8 rfl
def Zd9:Zo:=(.seq (.region [oI 4 (.mov (.c (.int .i64 (-1))))] none [4]) .ret)
def ZlR:Zo:=Zd9
def Ze9:=xw ZlR Zd9 rfl
def ZdH:Zo:=(.seq (.seq (.region [oM 33 8,oM 34 0,oI 35 (.slen (.t 34)),oI 36 (.bin .lss (.t 33) (.t 35))] none [36,8,6,0]) (.cond (.t 36) .skip (.exit 0))) (.seq (.block 1 (.seq (.region [oM 39 0,oM 40 8,oI 41 (.sindex (.t 39) (.t 40)),oI 42 (.call 63 0 true [(.t 6),(.t 41)])] none [42,8,6,0]) (.cond (.t 42) (.seq (.region [oM 43 8,oM 4 43] none [4]) .ret) .skip))) (.region [oM 37 8,oI 38 (.bin .add (.t 37) (.c (.int .i64 1))),oM 8 38] none [8,6,0])))
def Zk5:Zo:=ZdH
def ZeZ:=xw Zk5 ZdH rfl
def Zd6:Zo:=(.seq (.region [oI 4 (.mov (.c (.int .i64 0)))] none [1,0]) (.seq (.seq (.region [oM 11 1,oI 12 (.bin .eql (.t 11) (.c (.str [])))] none [12,1,0]) (.cond (.t 12) (.seq (.region [oI 4 (.mov (.c (.int .i64 (-1))))] none [4]) .ret) .skip)) (.seq (.seq (.region [oM 13 1,oI 14 (.slen (.t 13)),oI 15 (.bin .eql (.t 14) (.c (.int .i64 1)))] none [15,1,0]) (.cond (.t 15) (.seq (.region [oM 16 1,oI 17 (.sindex (.t 16) (.c (.int .i64 0))),oI 18 (.i2i .i32 (.t 17)),oM 5 18] none [5,0]) (.seq (.seq (.region [oM 19 5,oI 20 (.bin .geq (.t 19) (.c (.int .i32 128)))] none [20,5,0]) (.cond (.t 20) (.region [oI 5 (.mov (.c (.int .i32 65533)))] none [5,0]) .skip)) (.seq (.region [oM 21 0,oM 22 5,oI 23 (.call 60 0 true [(.t 21),(.t 22)]),oM 4 23] none [4]) .ret))) .skip)) (.seq (.seq (.region [oM 24 0,oI 25 (.slen (.t 24)),oI 26 (.call 61 0 true [(.t 25)])] none [26,1,0]) (.cond (.t 26) (.seq (.region [oM 28 1,oI 29 (.call 62 0 true [(.t 28)]),oM 27 29,oI 30 (.ext (.t 27) 0),oI 31 (.ext (.t 27) 1),oI 6 (.alloc [(.bool false),(.bool false),(.bool false),(.bool false),(.bool false),(.bool false),(.bool false),(.bool false),(.bool false),(.bool false),(.bool false),(.bool false),(.bool false),(.bool false),(.bool false),(.bool false),(.bool false),(.bool false),(.bool false),(.bool false),(.bool false),(.bool false),(.bool false),(.bool false),(.bool false),(.bool false),(.bool false),(.bool false),(.bool false),(.bool false),(.bool false),(.bool false),(.bool false),(.bool false),(.bool false),(.bool false),(.bool false),(.bool false),(.bool false),(.bool false),(.bool false),(.bool false),(.bool false),(.bool false),(.bool false),(.bool false),(.bool false),(.bool false),(.bool false),(.bool false),(.bool false),(.bool false),(.bool false),(.bool false),(.bool false),(.bool false),(.bool false),(.bool false),(.bool false),(.bool false),(.bool false),(.bool false),(.bool false),(.bool false),(.bool false),(.bool false),(.bool false),(.bool false),(.bool false),(.bool false),(.bool false),(.bool false),(.bool false),(.bool false),(.bool false),(.bool false),(.bool false),(.bool false),(.bool false),(.bool false),(.bool false),(.bool false),(.bool false),(.bool false),(.bool false),(.bool false),(.bool false),(.bool false),(.bool false),(.bool false),(.bool false),(.bool false),(.bool false),(.bool false),(.bool false),(.bool false),(.bool false),(.bool false),(.bool false),(.bool false),(.bool false),(.bool false),(.bool false),(.bool false),(.bool false),(.bool false),(.bool false),(.bool false),(.bool false),(.bool false),(.bool false),(.bool false),(.bool false),(.bool false),(.bool false),(.bool false),(.bool false),(.bool false),(.bool false),(.bool false),(.bool false),(.bool false),(.bool false),(.bool false),(.bool false),(.bool false),(.bool false),(.bool false),(.bool false),(.bool false),(.bool false),(.bool false),(.bool false),(.bool false),(.bool false),(.bool false),(.bool false),(.bool false),(.bool false),(.bool false),(.bool false),(.bool false),(.bool false),(.bool false),(.bool false),(.bool false),(.bool false),(.bool false),(.bool false),(.bool false),(.bool false),(.bool false),(.bool false),(.bool false),(.bool false),(.bool false),(.bool false),(.bool false),(.bool false),(.bool false),(.bool false),(.bool false),(.bool false),(.bool false),(.bool false),(.bool false),(.bool false),(.bool false),(.bool false),(.bool false),(.bool false),(.bool false),(.bool false),(.bool false),(.bool false),(.bool false),(.bool false),(.bool false),(.bool false),(.bool false),(.bool false),(.bool false),(.bool false),(.bool false),(.bool false),(.bool false),(.bool false),(.bool false),(.bool false),(.bool false),(.bool false),(.bool false),(.bool false),(.bool false),(.bool false),(.bool false),(.bool false),(.bool false),(.bool false),(.bool false),(.bool false),(.bool false),(.bool false),(.bool false),(.bool false),(.bool false),(.bool false),(.bool false),(.bool false),(.bool false),(.bool false),(.bool false),(.bool false),(.bool false),(.bool false),(.bool false),(.bool false),(.bool false),(.bool false),(.bool false),(.bool false),(.bool false),(.bool false),(.bool false),(.bool false),(.bool false),(.bool false),(.bool false),(.bool false),(.bool false),(.bool false),(.bool false),(.bool false),(.bool false),(.bool false),(.bool false),(.bool false),(.bool false),(.bool false),(.bool false),(.bool false),(.bool false),(.bool false),(.bool false),(.bool false),(.bool false),(.bool false),(.bool false),(.bool false),(.bool false),(.bool false),(.bool false),(.bool false),(.bool false),(.bool false),(.bool false)]),oN (.st 256 (.t 6) (.t 30)),oM 7 31] none [7,6,1,0]) (.seq (.region [oM 32 7] none [32,6,1,0]) (.cond (.t 32) (.seq (.seq (.region [oI 8 (.mov (.c (.int .i64 0)))] none [8,6,0]) (.block 0 (.loop [8,6,0] Zk5))) ZlR) .skip))) .skip)) ZkG))))
def ZhF:Z8:=⟨[(.tmp 4)],Zd6⟩
theorem ZpV:FC 53=some ZhF:=by kernel_rfl
theorem ZeL:ZhF.body=Zd6:=rfl
theorem Zfi:ZhF.res=[(.tmp 4)]:=rfl
noncomputable def ZjE (m:Nat) (tm:Tms) (σ:Za):Option (AVal×Za):=(ZaD m ZhF (Za0 FC PR BY m Zk6 (Wx (ZaG 2) (evL FC PR BY m [45,1] Zll tm σ))))
noncomputable def ZjT (m:Nat) (tm:Tms) (σ:Za):Option (AVal×Za):=(ZaD m ZhF (Za0 FC PR BY m ZkG (Za0 FC PR BY m ZlR (Wx (ZaG 0) (evL FC PR BY m [8,6,0] Zk5 tm σ)))))
def ZgW:Zo:=(.seq (.region [oI 4 (.mov (.c (.int .i64 (-1))))] none [4]) .ret)
def ZpU:Zo:=ZgW
def Zik:=xw ZpU ZgW rfl
def Zgb:Zo:=(.seq (.region [oI 176 (.nxt (.t 175)),oI 177 (.ext (.t 176) 0)] none [177,176,175]) (.seq (.cond (.t 177) .skip (.exit 9)) (.block 10 (.seq (.region [oI 178 (.ext (.t 176) 1),oI 179 (.ext (.t 176) 2),oM 5 178,oM 6 179] none [175,6,5]) (.seq (.region [oM 180 6,oI 181 (.bin .eql (.t 180) (.c (.int .i32 65533)))] none [181,175,5]) (.cond (.t 181) (.seq (.region [oM 182 5,oM 4 182] none [4]) .ret) .skip))))))
def Znv:Zo:=Zgb
def Zj4:=xw Znv Zgb rfl
def ZgD:Zo:=(.seq (.region [oI 4 (.mov (.c (.int .i64 (-1))))] none [4]) .ret)
def Zo3:Zo:=ZgD
def Zim:=xw Zo3 ZgD rfl
def Zg5:Zo:=(.region [oM 125 9,oI 126 (.bin .add (.t 125) (.c (.int .i64 1))),oM 9 126] none [15,14,9,8,7,0])
def ZoD:Zo:=Zg5
def Zjg:=xw ZoD Zg5 rfl
def ZgJ:Zo:=(.seq (.region [oM 157 9,oM 158 8,oI 159 (.bin .sub (.t 157) (.t 158)),oM 4 159] none [4]) .ret)
def ZnI:Zo:=ZgJ
def Zi7:=xw ZnI ZgJ rfl
def ZgM:Zo:=(.seq (.seq (.region [oM 140 16,oM 141 7,oI 142 (.slen (.t 141)),oI 143 (.bin .lss (.t 140) (.t 142))] none [143,16,15,14,9,8,7,0]) (.cond (.t 143) .skip (.exit 7))) (.seq (.block 8 (.seq (.region [oM 146 0,oM 147 9,oM 148 16,oI 149 (.bin .sub (.t 147) (.t 148)),oI 150 (.sindex (.t 146) (.t 149)),oM 151 7,oM 152 8,oM 153 16,oI 154 (.bin .sub (.t 152) (.t 153)),oI 155 (.sindex (.t 151) (.t 154)),oI 156 (.bin .neq (.t 150) (.t 155))] (some []) [156,16,15,14,9,8,7,0]) (.cond (.t 156) (.exit 6) .skip))) (.region [oM 144 16,oI 145 (.bin .add (.t 144) (.c (.int .i64 1))),oM 16 145] none [16,15,14,9,8,7,0])))
def Znk:Zo:=ZgM
def Zji:=xw Znk ZgM rfl
def Zgg:Zo:=(.seq (.seq (.region [oM 121 9,oM 122 0,oI 123 (.slen (.t 122)),oI 124 (.bin .lss (.t 121) (.t 123))] none [124,15,14,9,8,7,0]) (.cond (.t 124) .skip (.exit 5))) (.seq (.block 6 (.seq (.region [oM 127 0,oM 128 9,oI 129 (.sindex (.t 127) (.t 128)),oM 130 14,oI 131 (.bin .eql (.t 129) (.t 130)),oM 132 131,⟨(some 133),(.mov (.t 0)),(some (132,true)),[]⟩,⟨(some 134),(.mov (.t 9)),(some (132,true)),[]⟩,⟨(some 135),(.bin .sub (.t 134) (.c (.int .i64 1))),(some (132,true)),[]⟩,⟨(some 136),(.sindex (.t 133) (.t 135)),(some (132,true)),[]⟩,⟨(some 137),(.mov (.t 15)),(some (132,true)),[]⟩,⟨(some 138),(.bin .eql (.t 136) (.t 137)),(some (132,true)),[]⟩,oI 139 (.pick (.t 132) (.t 138) (.c (.bool false)))] none [139,15,14,9,8,7,0]) (.cond (.t 139) (.seq (.seq (.region [oI 16 (.mov (.c (.int .i64 2)))] none [16,15,14,9,8,7,0]) (.block 7 (.loop [16,15,14,9,8,7,0] Znk))) ZnI) .skip))) ZoD))
def Znd:Zo:=Zgg
def Zip:=xw Znd Zgg rfl
def ZgX:Zo:=(.seq (.seq (.region [oI 4 (.mov (.c (.int .i64 (-1))))] none [4]) .ret) (.seq .skip (.seq (.cond (.c (.bool true)) (.seq (.region [oM 99 0,oM 100 9,oM 101 8,oI 102 (.bin .sub (.t 100) (.t 101)),oI 103 (.sslice (.t 99) (some (.t 102)) none),oM 104 1,oI 105 (.i2s (.t 104)),oI 106 (.call 81 0 true [(.t 103),(.t 105)]),oM 13 106] none [13,9,8]) (.seq (.region [oM 107 13,oI 108 (.bin .geq (.t 107) (.c (.int .i64 0)))] none [108,13,9,8]) (.cond (.t 108) (.seq (.region [oM 109 9,oM 110 13,oI 111 (.bin .add (.t 109) (.t 110)),oM 112 8,oI 113 (.bin .sub (.t 111) (.t 112)),oM 4 113] none [4]) .ret) .skip))) (.seq (.region [oM 114 7,oM 115 8,oI 116 (.sindex (.t 114) (.t 115)),oM 14 116] none [14,9,8,7,0]) (.seq (.region [oM 117 7,oM 118 8,oI 119 (.bin .sub (.t 118) (.c (.int .i64 1))),oI 120 (.sindex (.t 117) (.t 119)),oM 15 120] none [15,14,9,8,7,0]) (.seq .skip (.block 5 (.loop [15,14,9,8,7,0] Znd)))))) Zo3)))
def ZnU:Zo:=ZgX
def ZiA:=xw ZnU ZgX rfl
def ZgE:Zo:=(.seq (.seq (.region [oM 65 9,oM 66 8,oI 67 (.bin .sub (.t 65) (.t 66)),oM 4 67] none [4]) .ret) (.seq .skip (.seq (.region [oM 68 10,oI 69 (.bin .add (.t 68) (.c (.int .i64 1))),oM 10 69] none [10,9,8,7,0]) (.seq (.region [oM 70 9,oI 71 (.bin .add (.t 70) (.c (.int .i64 1))),oM 9 71] none [10,9,8,7,0]) (.seq (.region [oI 72 (.mov (.c (.bool true))),⟨(some 73),(.mov (.t 10)),(some (72,true)),[]⟩,⟨(some 74),(.mov (.t 9)),(some (72,true)),[]⟩,⟨(some 75),(.call 80 0 true [(.t 74)]),(some (72,true)),[]⟩,⟨(some 76),(.bin .gtr (.t 73) (.t 75)),(some (72,true)),[]⟩,oI 77 (.pick (.t 72) (.t 76) (.c (.bool false))),oM 78 77,⟨(some 79),(.mov (.t 9)),(some (78,true)),[]⟩,⟨(some 80),(.mov (.t 0)),(some (78,true)),[]⟩,⟨(some 81),(.slen (.t 80)),(some (78,true)),[]⟩,⟨(some 82),(.bin .lss (.t 79) (.t 81)),(some (78,true)),[]⟩,oI 83 (.pick (.t 78) (.t 82) (.c (.bool false))),oM 84 83,⟨(some 85),(.mov (.c (.bool false))),(some (84,false)),[]⟩,⟨(some 86),(.mov (.t 10)),(some (85,true)),[]⟩,⟨(some 87),(.mov (.t 9)),(some (85,true)),[]⟩,⟨(some 88),(.bin .shr (.t 87) (.c (.int .u64 4))),(some (85,true)),[]⟩,⟨(some 89),(.bin .add (.c (.int .i64 4)) (.t 88)),(some (85,true)),[]⟩,⟨(some 90),(.bin .geq (.t 86) (.t 89)),(some (85,true)),[]⟩,⟨(some 91),(.pick (.t 85) (.t 90) (.c (.bool false))),(some (84,false)),[]⟩,⟨(some 92),(.mov (.t 91)),(some (84,false)),[]⟩,⟨(some 93),(.mov (.t 9)),(some (92,true)),[]⟩,⟨(some 94),(.mov (.t 0)),(some (92,true)),[]⟩,⟨(some 95),(.slen (.t 94)),(some (92,true)),[]⟩,⟨(some 96),(.bin .lss (.t 93) (.t 95)),(some (92,true)),[]⟩,⟨(some 97),(.pick (.t 92) (.t 96) (.c (.bool false))),(some (84,false)),[]⟩,oI 98 (.pick (.t 84) (.c (.bool true)) (.t 97))] none [98,9,8,7,0]) (.cond (.t 98) .stuck .skip))))))
def ZoC:Zo:=ZgE
def Zi6:=xw ZoC ZgE rfl
def Zg3:Zo:=(.seq (.seq (.region [oM 48 12,oM 49 7,oI 50 (.slen (.t 49)),oI 51 (.bin .lss (.t 48) (.t 50))] none [51,12,9,8,7,0]) (.cond (.t 51) .skip (.exit 3))) (.seq (.block 4 (.seq (.region [oM 54 0,oM 55 9,oM 56 12,oI 57 (.bin .sub (.t 55) (.t 56)),oI 58 (.sindex (.t 54) (.t 57)),oM 59 7,oM 60 8,oM 61 12,oI 62 (.bin .sub (.t 60) (.t 61)),oI 63 (.sindex (.t 59) (.t 62)),oI 64 (.bin .neq (.t 58) (.t 63))] (some []) [64,12,9,8,7,0]) (.cond (.t 64) .stuck .skip))) (.region [oM 52 12,oI 53 (.bin .add (.t 52) (.c (.int .i64 1))),oM 12 53] none [12,9,8,7,0])))
def ZnX:Zo:=Zg3
def ZjM:=xw ZnX Zg3 rfl
def Zgp:Zo:=(.seq (.seq (.region [oM 23 9,oM 24 0,oI 25 (.slen (.t 24)),oI 26 (.bin .lss (.t 23) (.t 25))] none [26,9,8,7,0]) (.cond (.t 26) .skip (.exit 1))) (.block 2 (.seq (.seq (.region [oM 27 0,oM 28 9,oI 29 (.sindex (.t 27) (.t 28)),oM 30 7,oM 31 8,oI 32 (.sindex (.t 30) (.t 31)),oI 33 (.bin .neq (.t 29) (.t 32))] (some []) [33,9,8,7,0]) (.cond (.t 33) (.seq (.region [oM 34 0,oM 35 9,oI 36 (.bin .add (.t 35) (.c (.int .i64 1))),oI 37 (.sslice (.t 34) (some (.t 36)) none),oM 38 7,oM 39 8,oI 40 (.sindex (.t 38) (.t 39)),oI 41 (.call 78 0 true [(.t 37),(.t 40)]),oM 11 41] (some [(7,7)]) [11,9,8,7,0]) (.seq (.seq (.region [oM 42 11,oI 43 (.bin .lss (.t 42) (.c (.int .i64 0)))] none [43,11,9,8,7,0]) (.cond (.t 43) (.seq (.region [oI 4 (.mov (.c (.int .i64 (-1))))] none [4]) .ret) .skip)) (.region [oM 44 9,oM 45 11,oI 46 (.bin .add (.t 45) (.c (.int .i64 1))),oI 47 (.bin .add (.t 44) (.t 46)),oM 9 47] none [9,8,7,0]))) .skip)) (.seq (.seq (.region [oI 12 (.mov (.c (.int .i64 1)))] none [12,9,8,7,0]) (.block 3 (.loop [12,9,8,7,0] ZnX))) ZoC))))
def ZqB:Zo:=Zgp
def Zis:=xw ZqB Zgp rfl
def Zgj:Zo:=(.seq (.region [oI 4 (.mov (.c (.int .i64 0)))] none [1,0]) (.block 0 (.seq (.region [oM 161 1,oI 162 (.bin .leq (.c (.int .i32 0)) (.t 161)),oM 163 162,⟨(some 164),(.mov (.t 1)),(some (163,true)),[]⟩,⟨(some 165),(.bin .lss (.t 164) (.c (.int .i32 128))),(some (163,true)),[]⟩,oI 166 (.pick (.t 163) (.t 165) (.c (.bool false))),oM 160 166] none [160,1,0]) (.cond (.t 160) (.seq (.region [oM 167 0,oM 168 1,oI 169 (.i2i .u8 (.t 168)),oI 170 (.call 78 0 true [(.t 167),(.t 169)]),oM 4 170] none [4]) .ret) (.seq (.region [oM 172 1,oI 173 (.bin .eql (.t 172) (.c (.int .i32 65533))),oM 171 173] none [171,1,0]) (.cond (.t 171) (.seq (.seq (.region [oM 174 0,oI 175 (.rng (.t 174))] none [175]) (.block 9 (.loop [175] Znv))) ZpU) (.seq (.region [oM 184 1,oI 185 (.call 79 0 true [(.t 184)]),oI 186 (.un .not (.t 185)),oM 183 186] none [183,1,0]) (.cond (.t 183) (.seq (.region [oI 4 (.mov (.c (.int .i64 (-1))))] none [4]) .ret) (.seq (.region [oM 17 1,oI 18 (.i2s (.t 17)),oM 7 18] none [7,0]) (.seq (.region [oM 19 7,oI 20 (.slen (.t 19)),oI 21 (.bin .sub (.t 20) (.c (.int .i64 1))),oM 8 21] none [8,7,0]) (.seq (.region [oM 22 8,oM 9 22] none [9,8,7,0]) (.seq (.region [oI 10 (.mov (.c (.int .i64 0)))] none [9,8,7,0]) (.seq (.block 1 (.loop [9,8,7,0] ZqB)) ZnU)))))))))))))
def Zkm:Z8:=⟨[(.tmp 4)],Zgj⟩
theorem Zon:FC 60=some Zkm:=by kernel_rfl
theorem Ziy:Zkm.body=Zgj:=rfl
theorem ZjB:Zkm.res=[(.tmp 4)]:=rfl
def Zln:Zo:=(.seq (.region [oI 2 (.mov (.c (.bool false)))] none [0]) (.seq (.region [oM 3 0,oI 4 (.bin .gtr (.t 3) (.c (.int .i64 8))),oM 2 4] none [2]) .ret))
def Znb:Z8:=⟨[(.tmp 2)],Zln⟩
theorem Zuh:FC 61=some Znb:=by kernel_rfl
theorem ZGa:Znb.body=Zln:=rfl
theorem ZwU:Znb.res=[(.tmp 2)]:=rfl
def ZjP:Zo:=(.seq (.region [oI 2 (.mov (.c (.bool false)))] none [0]) (.seq (.block 0 (.seq (.region [oM 4 0,oI 5 (.bin .leq (.c (.int .i32 0)) (.t 4)),oM 6 5,⟨(some 7),(.mov (.t 0)),(some (6,true)),[]⟩,⟨(some 8),(.bin .lss (.t 7) (.c (.int .i32 55296))),(some (6,true)),[]⟩,oI 9 (.pick (.t 6) (.t 8) (.c (.bool false))),oM 3 9] none [3,0]) (.cond (.t 3) (.seq (.region [oI 2 (.mov (.c (.bool true)))] none [2]) .ret) (.seq (.region [oM 11 0,oI 12 (.bin .lss (.c (.int .i32 57343)) (.t 11)),oM 13 12,⟨(some 14),(.mov (.t 0)),(some (13,true)),[]⟩,⟨(some 15),(.bin .leq (.t 14) (.c (.int .i32 1114111))),(some (13,true)),[]⟩,oI 16 (.pick (.t 13) (.t 15) (.c (.bool false))),oM 10 16] none [10]) (.cond (.t 10) (.seq (.region [oI 2 (.mov (.c (.bool true)))] none [2]) .ret) .skip))))) (.seq (.region [oI 2 (.mov (.c (.bool false)))] none [2]) .ret)))
def ZlS:Z8:=⟨[(.tmp 2)],ZjP⟩
theorem ZzW:FC 79=some ZlS:=by kernel_rfl
theorem Zrp:ZlS.body=ZjP:=rfl
theorem ZqS:ZlS.res=[(.tmp 2)]:=rfl
end
section
def Zc8 (b:UInt8):Bool:=b == 43 || b == 35
def Za4 (l:List UInt8):Bool:=l.any Zc8
def Zbi:List AVal:=(Wu 256).map fun n=>.bool (n == 43 || n == 35)
theorem ZCI:Zbi.length=256:=by simp [Zbi]
theorem Zhh:Zx Zbi=true:=by kernel_rfl
theorem ZDU:(Zbi.drop 0).take 256=Zbi:=by kernel_rfl
theorem ZwL:Zbi.take 256=Zbi:=by kernel_rfl
theorem Zsd (b:UInt8):Zbi[b.toNat]?=some (.bool (Zc8 b)):=by
 have hb:=b.toNat_lt
 have : Zc8 b=(b.toNat == 43 || b.toNat == 35):=by
  unfold Zc8
  rw [Xal]
  simp [<-Xam]
 rw [this]
 simp [Zbi,hb]
theorem Zk2:Z4 Zbi=[]:=(ZdL (fun _ _=>none) Zbi Zhh).2
theorem ZlZ (ρ:Rho):ZZ ρ Zbi=Zbi:=(ZdL ρ Zbi Zhh).1
theorem Zy1:E 62 [.str [43,35]] []=some (.tup [.agg Zbi,.bool true],[]):=Zct.2 ⟨8,by kernel_rfl⟩
theorem ZCT (σ:Za) (sq own:Nat) (view:Bool):ZT E BY σ sq 62 own view [.str [43,35]]=some (.tup [.agg Zbi,.bool true],σ,{}) :=
 ZaP Zy1 (by kernel_rfl) rfl rfl (by kernel_rfl) (fun _=>by kernel_rfl) _ _ _ _
theorem ZsU (b:UInt8):E 63 [.ref 0 0,Zae b] [.var Zbi]=some (.bool (Zc8 b),[.var Zbi]):=by
 rw [Zar (by rfl) ZD5]
 have h1:(0:Int)<=(b.toNat:Int):=by omega
 have h2:(b.toNat:Int) < ((256:Nat):Int):=by have:=Zmm b;omega
 simp -implicitDefEqProofs only [EQA,Zg,Zh,Ze,Zj,Zi,Zf,ZF,ZE,ZH,ZG,ZL,ZI,ZJ,ZM,ZK,implies_true,forall_const,Xh,Xi,Xl,Xd,Xe,Xj,Xk,ZC,ZD,unA,Zy,Zz,unG,reduceCtorEq,Zn,decide_eq_true_eq,Xf,Xc,ite_self,↓reduceIte,Zx,ZB,gcT,gcA,Zv,Zm,Zd,Zl,Zu,Zb,Zt,Zk,Zw,Xg,Zza,Zj7,Zsv,Zc,Zr,Zs,Zp,Zq,ZN,Zae,h1,h2,X0,Nat.mul_one,Zsd,Zhh]
theorem Zq1 (σ:Za) (sq t:Nat) (view:Bool) (b:UInt8) (hs:σ[t]?=some (.var Zbi)):ZT E BY σ sq 63 0 view [.ref t 0,.int .u8 b.toNat]=some (.bool (Zc8 b),σ.set t (.var Zbi),{ any:=true,upd:=[(t,Zbi)] }) :=
 ZrH hs Zhh Zhh (by kernel_rfl) rfl rfl rfl rfl (ZsU b)
theorem Zo1 (s:List UInt8) (hl:s.length<=9223372036854775807):∀ (r:List UInt8) (i:Nat),s.drop i=r->∃ z,ZjT 0 [(8,.int .i64 i),(6,.ref 0 0),(0,.str s)] [.var Zbi]=some (.int .i64 z,[])/\decide (z>=0)=Za4 r
 | [],i,h=>by
  have h1:=Zdq h
  refine ⟨-1,?_,by simp [Za4]⟩
  unfold ZjT
  rw [Z7]
  simp -implicitDefEqProofs only [EQA,Zg,Zh,Ze,Zj,Zi,Zf,ZF,ZE,ZH,ZG,ZL,ZI,ZJ,ZM,ZK,implies_true,forall_const,Xh,Xi,Xl,Xd,Xe,Xj,Xk,ZC,ZD,unA,Zy,Zz,unG,reduceCtorEq,Zn,decide_eq_true_eq,Xf,Xc,ite_self,↓reduceIte,Zx,ZB,gcT,gcA,Zv,Zm,Zd,Zl,Zu,Zb,Zt,Zk,Zw,Xg,ZeL,Zd6,Zfi,ZeN,Zd2,Zfl,ZdT,ZeS,Zd8,Ze9,Zd9,ZeZ,ZdH,Zc,Zr,Zs,Zp,Zq,ZN,h1]
 | b::r,i,h=>by
  obtain ⟨z,ih,hz⟩:=Zo1 s hl r (i+1) (Zao h).2.1
  have h1:(i:Int) < s.length:=by have:=(Zao h).2.2;omega
  have h2:=(Zao h).1
  have h3:=ZbG h1 hl
  have i0:(0:Int)<=(i:Int):=by omega
  unfold ZjT at ih ⊢
  cases hb:Zc8 b
  ·refine ⟨z,?_,by rw [hz];simp [Za4,hb]⟩
   rw [Z7]
   simp -implicitDefEqProofs only [EQA,Zg,Zh,Ze,Zj,Zi,Zf,ZF,ZE,ZH,ZG,ZL,ZI,ZJ,ZM,ZK,implies_true,forall_const,Xh,Xi,Xl,Xd,Xe,Xj,Xk,ZC,ZD,unA,Zy,Zz,unG,reduceCtorEq,Zn,decide_eq_true_eq,Xf,Xc,ite_self,↓reduceIte,Zx,ZB,gcT,gcA,Zv,Zm,Zd,Zl,Zu,Zb,Zt,Zk,Zw,Xg,ZeL,Zd6,Zfi,ZeN,Zd2,Zfl,ZdT,ZeS,Zd8,Ze9,Zd9,ZeZ,ZdH,Zc,Zr,Zs,Zp,Zq,ZN,h1,h2,h3,i0,X0,Zq1,hb,Zae,Zk2,ZlZ]
   exact ih
  ·refine ⟨i,?_,by simp [Za4,hb]⟩
   rw [Z7]
   simp -implicitDefEqProofs only [EQA,Zg,Zh,Ze,Zj,Zi,Zf,ZF,ZE,ZH,ZG,ZL,ZI,ZJ,ZM,ZK,implies_true,forall_const,Xh,Xi,Xl,Xd,Xe,Xj,Xk,ZC,ZD,unA,Zy,Zz,unG,reduceCtorEq,Zn,decide_eq_true_eq,Xf,Xc,ite_self,↓reduceIte,Zx,ZB,gcT,gcA,Zv,Zm,Zd,Zl,Zu,Zb,Zt,Zk,Zw,Xg,ZeL,Zd6,Zfi,ZeN,Zd2,Zfl,ZdT,ZeS,Zd8,Ze9,Zd9,ZeZ,ZdH,Zc,Zr,Zs,Zp,Zq,ZN,h1,h2,h3,i0,X0,Zq1,hb,Zae,Zk2,ZlZ]
def Zc2 (r:Int):Int:=if r=43 then 0 else if r=35 then 1 else -1
theorem ZxQ (l:List UInt8) (c:Int):E 78 [.str l,.int .u8 c] []=some (.int .i64 (Lib.indexByte l c.toNat.toUInt8),[]):=Zct.2 ⟨1,rfl⟩
theorem ZpZ (σ:Za) (sq own:Nat) (view:Bool) (l:List UInt8) (c:Int):ZT E BY σ sq 78 own view [.str l,.int .u8 c]=some (.int .i64 (Lib.indexByte l c.toNat.toUInt8),σ,{}) :=
 ZaP (ZxQ l c) (by kernel_rfl) (by simp -implicitDefEqProofs only [Zac,Zab,Zg,Zh,Ze,Zaa,Zj,Zi,Z9,Zf,eq_self,implies_true,Xm,Zc,Zr,Zs,Zp,Zq,Zc]) (by simp -implicitDefEqProofs only [Zac,Zab,Zg,Zh,Ze,Zaa,Zj,Zi,Z9,Zf,eq_self,implies_true,Xm,Zc,Zr,Zs,Zp,Zq,Zc]) rfl (fun _=>rfl) _ _ _ _
theorem ZyL (r:Int) (h:(0<=r/\r < 55296)\/(57344<=r/\r<=1114111)):E 79 [.int .i32 r] []=some (.bool true,[]):=by
 rw [Zar (by rfl) ZzW]
 rcases h with ⟨h1,h2⟩ | ⟨h1,h2⟩
 ·simp -implicitDefEqProofs only [EQA,Zg,Zh,Ze,Zj,Zi,Zf,ZF,ZE,ZH,ZG,ZL,ZI,ZJ,ZM,ZK,implies_true,forall_const,Xh,Xi,Xl,Xd,Xe,Xj,Xk,ZC,ZD,unA,Zy,Zz,unG,reduceCtorEq,Zn,decide_eq_true_eq,Xf,Xc,ite_self,↓reduceIte,Zx,ZB,gcT,gcA,Zv,Zm,Zd,Zl,Zu,Zb,Zt,Zk,Zw,Xg,Zrp,ZjP,ZqS,Zc,Zr,Zs,Zp,Zq,ZN,h1,h2]
 ·have h3:¬r < 55296:=by omega
  have h4:(57343:Int) < r:=by omega
  have h5:(0:Int)<=r:=by omega
  simp -implicitDefEqProofs only [EQA,Zg,Zh,Ze,Zj,Zi,Zf,ZF,ZE,ZH,ZG,ZL,ZI,ZJ,ZM,ZK,implies_true,forall_const,Xh,Xi,Xl,Xd,Xe,Xj,Xk,ZC,ZD,unA,Zy,Zz,unG,reduceCtorEq,Zn,decide_eq_true_eq,Xf,Xc,ite_self,↓reduceIte,Zx,ZB,gcT,gcA,Zv,Zm,Zd,Zl,Zu,Zb,Zt,Zk,Zw,Xg,Zrp,ZjP,ZqS,Zc,Zr,Zs,Zp,Zq,ZN,h1,h2,h3,h4,h5]
theorem Zyt:E 60 [.str [43,35],.int .i32 65533] []=some (.int .i64 (-1),[]):=Zct.2 ⟨8,by kernel_rfl⟩
theorem Zvn (σ:Za) (sq own:Nat) (view:Bool) (r:Int) (h:(0<=r/\r < 55296)\/(57344<=r/\r<=1114111)):ZT E BY σ sq 79 own view [.int .i32 r]=some (.bool true,σ,{}) :=
 ZaP (ZyL r h) (by kernel_rfl) (by simp -implicitDefEqProofs only [Zac,Zab,Zg,Zh,Ze,Zaa,Zj,Zi,Z9,Zf,eq_self,implies_true,Xm,Zc,Zr,Zs,Zp,Zq,Zc]) (by simp -implicitDefEqProofs only [Zac,Zab,Zg,Zh,Ze,Zaa,Zj,Zi,Z9,Zf,eq_self,implies_true,Xm,Zc,Zr,Zs,Zp,Zq,Zc]) rfl (fun _=>rfl) _ _ _ _
theorem ZEC (r:Int) (h0:0<=r) (h1:r < 128):Lib.indexByte [43,35] r.toNat.toUInt8=Zc2 r:=by
 obtain ⟨n,rfl⟩:∃ n:Fin 128,r=(n.val:Int):=⟨⟨r.toNat,by omega⟩,by simp;omega⟩
 clear h0 h1
 revert n
 decide
theorem ZCV (r:Int) (h0:0<=r) (h1:r < 128):E 60 [.str [43,35],.int .i32 r] []=some (.int .i64 (Zc2 r),[]):=by
 rw [Zar (by rfl) Zon]
 have w:IntKind.u8.wrap r=r:=by rw [show IntKind.u8.wrap r=r % 256 from rfl];omega
 simp -implicitDefEqProofs only [EQA,Zg,Zh,Ze,Zj,Zi,Zf,ZF,ZE,ZH,ZG,ZL,ZI,ZJ,ZM,ZK,implies_true,forall_const,Xh,Xi,Xl,Xd,Xe,Xj,Xk,ZC,ZD,unA,Zy,Zz,unG,reduceCtorEq,Zn,decide_eq_true_eq,Xf,Xc,ite_self,↓reduceIte,Zx,ZB,gcT,gcA,Zv,Zm,Zd,Zl,Zu,Zb,Zt,Zk,Zw,Xg,Ziy,Zgj,ZjB,Zik,ZgW,Zj4,Zgb,Zim,ZgD,Zjg,Zg5,Zi7,ZgJ,Zji,ZgM,Zip,Zgg,ZiA,ZgX,Zi6,ZgE,ZjM,Zg3,Zis,Zgp,Zc,Zr,Zs,Zp,Zq,ZN,h0,h1,w,ZpZ,ZEC]
theorem Zxf (r:Int) (h0:128<=r) (h1:r < 2048):∃ a b:UInt8,(Utf8.encode r).data.toList=[a,b]/\((35:Int) == (b.toNat:Int))=false:=by
 have hv:Utf8.valid r=true:=by simp [Utf8.valid];omega
 refine ⟨_,_,by unfold Utf8.encode;simp only [hv,if_true];rw [if_neg (by omega),if_pos (by omega)],?_⟩
 rw [beq_eq_false_iff_ne]
 simp
 omega
theorem Zw0 (r:Int) (h0:2048<=r) (h1:r < 65536) (hv:Utf8.valid r=true):∃ a b c:UInt8,(Utf8.encode r).data.toList=[a,b,c]:=by
 refine ⟨_,_,_,by unfold Utf8.encode;simp only [hv,if_true];rw [if_neg (by omega),if_neg (by omega),if_pos (by omega)]⟩
theorem ZuY (r:Int) (h1:65536<=r) (hv:Utf8.valid r=true):∃ a b c d:UInt8,(Utf8.encode r).data.toList=[a,b,c,d]:=by
 refine ⟨_,_,_,_,by unfold Utf8.encode;simp only [hv,if_true];rw [if_neg (by omega),if_neg (by omega),if_neg (by omega)]⟩
theorem ZEF (r:Int) (h0:128<=r) (hv:(0<=r/\r < 55296)\/(57344<=r/\r<=1114111)) (hne:r≠65533):E 60 [.str [43,35],.int .i32 r] []=some (.int .i64 (-1),[]):=by
 rw [Zar (by rfl) Zon]
 have h1:(0:Int)<=r:=by omega
 have h2:¬r < 128:=by omega
 have h3:(r == 65533)=false:=by rw [beq_eq_false_iff_ne];exact hne
 have hv':Utf8.valid r=true:=by simp [Utf8.valid];omega
 have hV:=fun σ sq own view=>Zvn σ sq own view r hv
 by_cases h4:r < 2048
 ·obtain ⟨a,b,he,hb⟩:=Zxf r h0 h4
  have hi:Lib.indexByte [] ((b.toNat:Int).toNat.toUInt8)=-1:=rfl
  have w1:IntKind.i64.wrap (((2:Nat):Int) - 1)=1:=by decide
  have w2:IntKind.i64.wrap ((1:Int)+1)=2:=by decide
  have l1:(1:Int) < ((2:Nat):Int):=by decide
  have l2:(2:Int)<=((2:Nat):Int):=by decide
  have l3:(0:Int)<=1:=by decide
  have l4:(0:Int)<=2:=by decide
  have t1:(1:Int).toNat=1:=rfl
  have t2:(2:Int).toNat=2:=rfl
  have n1:((-1:Int) < 0)=True:=by simp
  have hb':(((35:UInt8).toNat:Int) != (b.toNat:Int))=true:=by
   have : ((35:UInt8).toNat:Int)=35:=rfl
   rw [this];simp only [bne,hb,W3]
  simp -implicitDefEqProofs only [EQA,Zg,Zh,Ze,Zj,Zi,Zf,ZF,ZE,ZH,ZG,ZL,ZI,ZJ,ZM,ZK,implies_true,forall_const,Xh,Xi,Xl,Xd,Xe,Xj,Xk,ZC,ZD,unA,Zy,Zz,unG,reduceCtorEq,Zn,decide_eq_true_eq,Xf,Xc,ite_self,↓reduceIte,Zx,ZB,gcT,gcA,Zv,Zm,Zd,Zl,Zu,Zb,Zt,Zk,Zw,Xg,Ziy,Zgj,ZjB,Zik,ZgW,Zj4,Zgb,Zim,ZgD,Zjg,Zg5,Zi7,ZgJ,Zji,ZgM,Zip,Zgg,ZiA,ZgX,Zi6,ZgE,ZjM,Zg3,Zis,Zgp,Zc,Zr,Zs,Zp,Zq,ZN,h1,h2,h3,hV,he,Z7,Zae,w1,w2,l1,l2,l3,l4,t1,t2,hb',ZaC,ZcB,ZpZ,hi,n1]
 ·by_cases h5:r < 65536
  ·obtain ⟨a,b,c,he⟩:=Zw0 r (by omega) h5 hv'
   have w1:IntKind.i64.wrap (((3:Nat):Int) - 1)=2:=by decide
   have l1:¬(2:Int) < ((2:Nat):Int):=by decide
   simp -implicitDefEqProofs only [EQA,Zg,Zh,Ze,Zj,Zi,Zf,ZF,ZE,ZH,ZG,ZL,ZI,ZJ,ZM,ZK,implies_true,forall_const,Xh,Xi,Xl,Xd,Xe,Xj,Xk,ZC,ZD,unA,Zy,Zz,unG,reduceCtorEq,Zn,decide_eq_true_eq,Xf,Xc,ite_self,↓reduceIte,Zx,ZB,gcT,gcA,Zv,Zm,Zd,Zl,Zu,Zb,Zt,Zk,Zw,Xg,Ziy,Zgj,ZjB,Zik,ZgW,Zj4,Zgb,Zim,ZgD,Zjg,Zg5,Zi7,ZgJ,Zji,ZgM,Zip,Zgg,ZiA,ZgX,Zi6,ZgE,ZjM,Zg3,Zis,Zgp,Zc,Zr,Zs,Zp,Zq,ZN,h1,h2,h3,hV,he,Z7,Zae,w1,l1]
  ·obtain ⟨a,b,c,d,he⟩:=ZuY r (by omega) hv'
   have w1:IntKind.i64.wrap (((4:Nat):Int) - 1)=3:=by decide
   have l1:¬(3:Int) < ((2:Nat):Int):=by decide
   simp -implicitDefEqProofs only [EQA,Zg,Zh,Ze,Zj,Zi,Zf,ZF,ZE,ZH,ZG,ZL,ZI,ZJ,ZM,ZK,implies_true,forall_const,Xh,Xi,Xl,Xd,Xe,Xj,Xk,ZC,ZD,unA,Zy,Zz,unG,reduceCtorEq,Zn,decide_eq_true_eq,Xf,Xc,ite_self,↓reduceIte,Zx,ZB,gcT,gcA,Zv,Zm,Zd,Zl,Zu,Zb,Zt,Zk,Zw,Xg,Ziy,Zgj,ZjB,Zik,ZgW,Zj4,Zgb,Zim,ZgD,Zjg,Zg5,Zi7,ZgJ,Zji,ZgM,Zip,Zgg,ZiA,ZgX,Zi6,ZgE,ZjM,Zg3,Zis,Zgp,Zc,Zr,Zs,Zp,Zq,ZN,h1,h2,h3,hV,he,Z7,Zae,w1,l1]
theorem ZA7 (l:List UInt8):((Lib.decodeL l).1 < 55296)\/(57344<=(Lib.decodeL l).1/\(Lib.decodeL l).1<=1114111):=by
 rw [Lib.decodeL_N]
 have h0:=(l.getD 0 0).toNat_lt
 unfold Lib.decodeN
 repeat' split
 all_goals (try simp only);omega
theorem ZAs (l:List UInt8):E 60 [.str [43,35],.int .i32 (Lib.decodeL l).1] []=some (.int .i64 (Zc2 (Lib.decodeL l).1),[]):=by
 have hv:=ZA7 l
 generalize (Lib.decodeL l).1=n at hv
 by_cases h:n < 128
 ·exact ZCV n (by omega) (by omega)
 ·have e:Zc2 (n:Int)=-1:=by unfold Zc2;rw [if_neg (by omega),if_neg (by omega)]
  rw [e]
  by_cases h2:n=65533
  ·subst h2;exact Zyt
  ·exact ZEF n (by omega) (by omega) (by omega)
theorem Zqv (σ:Za) (sq own:Nat) (view:Bool) (l:List UInt8):ZT E BY σ sq 60 own view [.str [43,35],.int .i32 (Lib.decodeL l).1]=some (.int .i64 (Zc2 (Lib.decodeL l).1),σ,{}) :=
 ZaP (ZAs l) (by kernel_rfl) (by simp -implicitDefEqProofs only [Zac,Zab,Zg,Zh,Ze,Zaa,Zj,Zi,Z9,Zf,eq_self,implies_true,Xm,Zc,Zr,Zs,Zp,Zq,Zc]) (by simp -implicitDefEqProofs only [Zac,Zab,Zg,Zh,Ze,Zaa,Zj,Zi,Z9,Zf,eq_self,implies_true,Xm,Zc,Zr,Zs,Zp,Zq,Zc]) rfl (fun _=>rfl) _ _ _ _
theorem Zzz (l:List UInt8) (hne:l≠[]):Za4 l=(decide (Zc2 (Lib.decodeL l).1>=0) || Za4 (l.drop (Lib.decodeL l).2)):=by
 obtain ⟨b0,t,rfl⟩:∃ b t,l=b::t:=by
  cases l with
  | nil=>exact absurd rfl hne
  | cons b t=>exact ⟨b,t,rfl⟩
 have hc:∀ b:UInt8,b.toNat / 64=2->Zc8 b=false:=by
  intro b hb
  unfold Zc8
  simp only [Bool.or_eq_false_iff,beq_eq_false_iff_ne,ne_eq,<-Xam]
  have : (43:UInt8).toNat=43:=rfl
  have : (35:UInt8).toNat=35:=rfl
  omega
 have hi:∀ n:Nat,n≠43->n≠35->decide (Zc2 (n:Int)>=0)=false:=by
  intro n h1 h2
  unfold Zc2
  rw [if_neg (by omega),if_neg (by omega)];rfl
 have hp:∀ b:UInt8,Zc8 b=decide (Zc2 (b.toNat:Int)>=0):=by
  intro b
  unfold Zc8 Zc2
  have e1:(43:UInt8).toNat=43:=rfl
  have e2:(35:UInt8).toNat=35:=rfl
  rw [Xal]
  simp only [WO,beq_iff_eq,<-Xam,e1,e2,decide_eq_true_eq]
  constructor
  ·rintro (h | h) <;> simp [h]
  ·intro h
   by_cases h1:b.toNat=43
   ·exact Xs h1
   ·by_cases h2:b.toNat=35
    ·exact Xy h2
    ·rw [if_neg (by omega),if_neg (by omega)] at h;omega
 rw [Lib.decodeL_N]
 simp only [Xw,Xv,XC]
 have hb:=b0.toNat_lt
 have hlow:128<=b0.toNat->Zc8 b0=false:=by
  intro h;rw [hp];exact hi _ (by omega) (by omega)
 unfold Lib.decodeN
 split
 ·simp [Za4,hp]
 rename_i h0
 have hl0:=hlow (by omega)
 have eE:decide (Zc2 ((65533:Nat):Int)>=0)=false:=by decide
 split
 ·rename_i h1
  obtain ⟨b1,t,rfl⟩:∃ b t',t=b::t':=by
   cases t with
   | nil=>simp at h1
   | cons b t=>exact ⟨b,t,rfl⟩
  have h1c:=hc b1 (by simpa using h1.2.2)
  split
  ·rename_i h2
   rw [hi _ (by simp only;omega) (by simp only;omega)]
   simp [Za4,hl0,h1c]
  ·rw [eE];simp [Za4,hl0]
 split
 ·rename_i h1
  obtain ⟨b1,b2,t,rfl⟩:∃ b c t',t=b::c::t':=by
   match t,h1 with
   | [],h1=>simp at h1
   | [_],h1=>simp at h1
   | b::c::t,_=>exact ⟨b,c,t,rfl⟩
  have h1c:=hc b1 (by simpa using h1.2.1.2)
  have h2c:=hc b2 (by simpa using h1.2.2.2)
  split
  ·rename_i h2
   rw [hi _ (by simp only;omega) (by simp only;omega)]
   simp [Za4,hl0,h1c,h2c]
  ·rw [eE];simp [Za4,hl0]
 split
 ·rename_i h1
  obtain ⟨b1,b2,b3,t,rfl⟩:∃ b c d t',t=b::c::d::t':=by
   match t,h1 with
   | [],h1=>simp at h1
   | [_],h1=>simp at h1
   | [_,_],h1=>simp at h1
   | b::c::d::t,_=>exact ⟨b,c,d,t,rfl⟩
  have h1c:=hc b1 (by simpa using h1.2.1.2)
  have h2c:=hc b2 (by simpa using h1.2.2.1.2)
  have h3c:=hc b3 (by simpa using h1.2.2.2.2)
  split
  ·rename_i h2
   rw [hi _ (by simp only;omega) (by simp only;omega)]
   simp [Za4,hl0,h1c,h2c,h3c]
  ·rw [eE];simp [Za4,hl0]
 ·rw [eE];simp [Za4,hl0]
theorem Znj (s:List UInt8):∀ (n p:Nat),s.length - p<=n->p<=s.length->∃ z,ZjE 0 [(45,.ref 0 0),(1,.str [43,35])] [.siter s p]=some (.int .i64 z,[])/\decide (z>=0)=Za4 (s.drop p)
 | n,p,hn,hp=>by
  by_cases h:p < s.length
  ·obtain ⟨n,rfl⟩:∃ m,n=m+1:=⟨n - 1,by omega⟩
   have hw:=Lib.decodeL_width (s.drop p)
   have hne:s.drop p≠[]:=by rw [ne_eq,X7];omega
   have hle:=Lib.decodeL_le (s.drop p) hne
   rw [WG] at hle
   obtain ⟨z,ih,hz⟩:=Znj s n (p+(Lib.decodeL (s.drop p)).2) (by omega) (by omega)
   rw [<-XaV] at hz
   rw [Zzz _ hne,<-hz]
   unfold ZjE at ih ⊢
   by_cases hi:Zc2 (Lib.decodeL (s.drop p)).1>=0
   ·refine ⟨p,?_,by simp [hi]⟩
    rw [Z7]
    simp -implicitDefEqProofs only [EQA,Zg,Zh,Ze,Zj,Zi,Zf,ZF,ZE,ZH,ZG,ZL,ZI,ZJ,ZM,ZK,implies_true,forall_const,Xh,Xi,Xl,Xd,Xe,Xj,Xk,ZC,ZD,unA,Zy,Zz,unG,reduceCtorEq,Zn,decide_eq_true_eq,Xf,Xc,ite_self,↓reduceIte,Zx,ZB,gcT,gcA,Zv,Zm,Zd,Zl,Zu,Zb,Zt,Zk,Zw,Xg,ZeL,Zd6,Zfi,ZeN,Zd2,Zfl,ZdT,ZeS,Zd8,Ze9,Zd9,ZeZ,ZdH,Zc,Zr,Zs,Zp,Zq,ZN,h,Zjw,Zqv,hi]
   ·refine ⟨z,?_,by simp [hi]⟩
    rw [Z7]
    simp -implicitDefEqProofs only [EQA,Zg,Zh,Ze,Zj,Zi,Zf,ZF,ZE,ZH,ZG,ZL,ZI,ZJ,ZM,ZK,implies_true,forall_const,Xh,Xi,Xl,Xd,Xe,Xj,Xk,ZC,ZD,unA,Zy,Zz,unG,reduceCtorEq,Zn,decide_eq_true_eq,Xf,Xc,ite_self,↓reduceIte,Zx,ZB,gcT,gcA,Zv,Zm,Zd,Zl,Zu,Zb,Zt,Zk,Zw,Xg,ZeL,Zd6,Zfi,ZeN,Zd2,Zfl,ZdT,ZeS,Zd8,Ze9,Zd9,ZeZ,ZdH,Zc,Zr,Zs,Zp,Zq,ZN,h,Zjw,Zqv,hi]
    exact ih
  ·have he:s.drop p=[]:=by rw [X7];omega
   refine ⟨-1,?_,by rw [he];rfl⟩
   unfold ZjE
   rw [Z7]
   simp -implicitDefEqProofs only [EQA,Zg,Zh,Ze,Zj,Zi,Zf,ZF,ZE,ZH,ZG,ZL,ZI,ZJ,ZM,ZK,implies_true,forall_const,Xh,Xi,Xl,Xd,Xe,Xj,Xk,ZC,ZD,unA,Zy,Zz,unG,reduceCtorEq,Zn,decide_eq_true_eq,Xf,Xc,ite_self,↓reduceIte,Zx,ZB,gcT,gcA,Zv,Zm,Zd,Zl,Zu,Zb,Zt,Zk,Zw,Xg,ZeL,Zd6,Zfi,ZeN,Zd2,Zfl,ZdT,ZeS,Zd8,Ze9,Zd9,ZeZ,ZdH,Zc,Zr,Zs,Zp,Zq,ZN,h]
end
end Go.Proofs.YtlfkpdcffmmbdaaDoor
