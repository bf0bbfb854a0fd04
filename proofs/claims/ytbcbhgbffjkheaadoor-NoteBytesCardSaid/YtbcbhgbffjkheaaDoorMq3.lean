/- packed -/
import Derived.Test.YtbcbhgbffjkheaaDoorMq2
import Derived.Maps.RangeRun
import Derived.Scope
import Derived.Laws.Cover3
import Derived.Lib.Index
import Derived.Shelf.Unicode.ValidAny
import Derived.Shelf.Strings.Count
import Derived.Test.YtbcbhgbffjkheaaDoorProg
import Derived.Deep.Slices
import Derived.ChangeArms
import Derived.WideShapes
import GoSem.ClaimChange
set_option linter.defProp false
set_option linter.unusedSectionVars false
set_option linter.unusedSimpArgs false
set_option linter.unusedVariables false
open Option.some renaming injEq→Xa
open Prod.mk renaming injEq→Xc
open List renaming getElem?_eq_some_iff→Xh,getD_eq_getElem?_getD→Xi,map_cons→Xn,map_nil→Xo,mem_append→Xs,length_nil→Xu,mem_of_getElem?→Xx,replicate→XA,getElem?_eq_getElem→XB,append_nil→XC,getElem?_cons_zero→XE,all_eq_true→XF,mem_map→XG,map_append→XH,mem_cons→XI,length_map→XL,mem_singleton→XM,getElem?_set_ne→XS,all_cons→XW,getElem?_map→XX,getD_cons_zero→X1,getElem?_eq_none→X6,cons_append→Wm,nodup_cons→WA,mem_filter→WB,map_map→WG,range→WK,drop_zero→W2,mem_range→Xad,contains_eq_mem→Xai,nodup_append→Xak,map_take→XaQ,flatMap_nil→Xa0,nodup_range→Xa2,mapM_cons→Xbe
open Bool renaming and_eq_true→Xj,false_eq_true→Xl,false_and→X8,not_eq_true'→WC,true_and→WN,true_or→Xah,and_true→Xao
open Or renaming inl→Xp,inr→Xt
open Option renaming map_eq_some_iff→Xq,bind_some→XR,map_some→XT,map→XY
open Array renaming getElem?_eq_some_iff→Xz,getElem?_setIfInBounds_ne→XN,length_toList→XQ,getD_eq_getD_getElem?→WL,getD→Xaz,replicate→XaN
open Nat renaming le_refl→XD,add_assoc→Wf,add_zero→Wg,le_max_right→W8,le_max_left→Xae,zero_mul→Xbn
open Int renaming toNat_natCast→X3
open ByteArray renaming size→WM
open Ne renaming symm→WV
open SizeOf renaming sizeOf→XaP
open List.Perm renaming refl→Xbs
namespace Go.Proofs.YtbcbhgbffjkheaaDoor
set_option maxHeartbeats 16000000
set_option maxRecDepth 10000
section
open Go.RowKit
open Go.ChangeMaps (setBlock)
theorem Zu9:∀ (js L:List Nat),js.Nodup->(∀ j∈js,j∈L)->L.Nodup->∃ rest,L.Perm (js++rest)
 | [],L,_,_,_=>⟨L,Xbs _⟩
 |j::js,L,hn,hs,hL=>by
  have hj:j∈L:=hs j (by simp)
  have hp:L.Perm (j::L.erase j):=List.perm_cons_erase hj
  obtain⟨rest,hr⟩:=Zu9 js (L.erase j) (WA.1 hn).2 (fun k hk=>by
   have hne:k≠j:=by rintro rfl;exact(WA.1 hn).1 hk
   exact(List.mem_erase_of_ne hne).2 (hs k (by simp[hk]))) (hL.erase j)
  exact⟨rest,hp.trans (by simpa using List.Perm.cons j hr)⟩
theorem ZFx{α:Type}(es:List α)(d:α):(WK es.length).map (es.getD · d)=es:=by
 apply List.ext_getElem?
 intro i
 rw[XX]
 by_cases h:i<es.length
 ·rw[List.getElem?_range h];simp[Xi,h]
 ·rw[X6 (by simpa using h),X6 (by omega)];rfl
theorem Zll:∀ {σ σ':Za} {u:Nat} {b:Zx},Zgn σ σ'=true->σ'[u]?=some b->Zkp b=true->∃ a,σ[u]?=some a/\Znr a b=true
 |_,[],u,b,_,h,_=>by simp at h
 | [],x::r,u,b,h,hu,hb=>by
  simp only[Zgn,Xj,WC]at h
  cases u with
  |zero =>
   simp only[XE,Xa]at hu
   subst hu
   rw[h.1]at hb;cases hb
  |succ u =>
   obtain⟨a,h1,_⟩:=Zll h.2 (by simpa using hu) hb
   simp at h1
 |a::s,x::r,u,b,h,hu,hb=>by
  simp only[Zgn,Xj]at h
  cases u with
  |zero =>
   simp only[XE,Xa]at hu
   subst hu
   exact⟨a,rfl,h.1⟩
  |succ u =>
   obtain⟨a',h1,h2⟩:=Zll h.2 (by simpa using hu) hb
   exact⟨a',by simpa using h1,h2⟩
theorem ZO0{arr:Array MapEntry}{seen:Array Nat}{e:MapEntry}(h:e∈(leftOf arr seen).toList):e∈arr.toList/\seen.contains e.born=false:=by
 unfold leftOf at h
 simp only[Array.toList_filter,WB,WC]at h
 exact h
theorem ZSX{arr:Array MapEntry}{seen:Array Nat}(h:(leftOf arr seen).size=0):∀ e∈arr.toList,seen.contains e.born=true:=by
 intro e he
 cases hc:seen.contains e.born with
 |true=>rfl
 |false =>
  have hm:e∈(leftOf arr seen).toList:=by
   unfold leftOf
   simp only[Array.toList_filter,WB,WC]
   exact⟨he,hc⟩
  have : (leftOf arr seen).toList=[]:=by
   apply List.eq_nil_of_length_eq_zero
   simpa using h
  rw[this]at hm;cases hm
section
variable {P:Program}{O:ZJ}{bf:Nat->Bool}{an:Ann}{base base':Nat->Prop}{w0 w w' w1 w2:World}{I0 I I' I1 I2:Imm}{β β' β1 β2:Bmap}{σ σ' σ1 σ2:Za}{dr:Door}
theorem noO:Zar P (fun _ _ _=>none):=by intro f args σ r σ' h;cases h
theorem ZgQ{ops:Array Oper}{Q:Exit->Act->World->Prop}{o:Oper}{l:List Oper}{a:Act}{w:World}(hg:o.guard=none)(h:o.wp P a w (wpList P ops Q l) Q):wpList P ops Q (o::l) a w:=by
 unfold wpList
 have : Region.wanted o (yielded ops a.tmps)=true:=by unfold Region.wanted;rw[hg]
 rw[this]
 simp only[if_true]
 exact Xp h
theorem pgs{a:Act}{d:Nat}{u:Value}(h:d<a.tmps.size):(a.put (some d) u).tmps.getD d undef=u:=by
 simp[Act.put,Xaz,h]
theorem Zl8{m:Sem Value}{u:Value}(h:m.run P w=.ok u w):(do let q <-m;pure (Next.value q):Sem Next).run P w=.ok (.value u) w:=by
 rw[Sem.run_bind,h];rfl
theorem pgn{a:Act}{d j:Nat}{u:Value}(h:d≠j):(a.put (some d) u).tmps.getD j undef=a.tmps.getD j undef:=by
 simp only[Act.put,WL]
 rw[XN h]
def StF(dr:Door)(m nt:Nat)(base:Nat->Prop)(w0:World)(I0 I:Imm)(β:Bmap)(tm:Tms)(σ:Za)(a:Act)(w:World):Prop :=
 ∃ I' β',I.le I'/\KeptE m β β'/\TR I' β' tm a.tmps/\(dr.ok a/\nt<=a.tmps.size)/\Rel base w0 I0 I' β' σ w
def Zr4(dr:Door)(m:Nat)(an:Ann)(base:Nat->Prop)(w0:World)(I0 I:Imm)(β:Bmap)(e:ZY)(tm:Tms)(σ:Za)(Q:Exit->Act->World->Prop):Prop:=match e with
 | .normal=>∀ a w,StF dr m an.nt base w0 I0 I β tm σ a w->Q .normal a w
 | .exit id=>∀ a w,StF dr m an.nt base w0 I0 I β tm σ a w->Q (.exit id) a w
 | .ret=>∀ a w,StF dr m an.nt base w0 I0 I β tm σ a w->Q .ret a w
 | .panic x=>∀ a u w,dr.ok a->ZcY m base w0 I0 I β (.pan x) σ u w->Q (.panic [{ v:=u,recovered:=false }]) a w
theorem Zn7(hO:Zar P O)(hkp:∀ n∈dr.K,n∈an.keep)(hb:KLt base w0){ops:Array Oper}{Q:Exit->Act->World->Prop}{r:List Oper}:∀ {l:List Oper} {asl:List AOp} {sq:Nat} {I:Imm} {β:Bmap} {tm tm':Tms} {σ σ':Za} {cs:List Cls} {a:Act} {w:World},Zcs P an ops l=some asl->TR I β tm a.tmps->(dr.ok a/\an.nt<=a.tmps.size)->Rel base w0 I0 I β σ w ->
  ZN O bf asl sq tm σ=some (tm',σ',cs,none)->(∀ a' w',StR dr an.nt base w0 I0 I β tm' σ' a' w'->wpList P ops Q r a' w')->wpList P ops Q (l++r) a w
 | [],asl,sq,I,β,tm,tm',σ,σ',cs,a,w,hc,T,hd,R,h,hQ=>by
  simp only[Zcs,Xa]at hc;subst hc
  simp only[ZN,Xa,Xc]at h
  obtain⟨rfl,rfl,rfl,_⟩:=h
  exact hQ _ _ ⟨I,β,Imm.le.refl I,Bmap.le.refl β,T,hd,R⟩
 |o::l,asl,sq,I,β,tm,tm',σ,σ',cs,a,w,hc,T,hd,R,h,hQ=>by
  simp only[Zcs]at hc
  split at hc
  ·rename_i ao hao
   split at hc
   ·rename_i as' has'
    injection hc with hc;subst hc
    simp only[ZN]at h
    split at h
    ·cases h
    ·simp only[Xa,Xc]at h
     obtain⟨_,_,_,h⟩:=h
     cases h
    ·rename_i v tm1 σ1 c1 hnp h1
     split at h
     ·cases h
     rename_i tm2 σ2 cs2 p2 h2
     simp only[Xa,Xc]at h
     obtain⟨rfl,rfl,rfl,rfl⟩:=h
     have:=ZhH (dr:=dr) (K:=wpList P ops Q (l++r)) (Q:=Q) hO hkp hao T hd R hb h1 (fun _ a' w' hs=>by
      obtain⟨I',β',g1,g2,g3,g4,g5⟩:=hs
      exact Zn7 hO hkp hb has' g3 g4 g5 h2 (fun a'' w'' hs'=>hQ a'' w'' (hs'.trans g1 g2))) (fun x e=>absurd e (fun e=>hnp x e))
     rw[Wm]
     unfold wpList
     exact this
   ·cases hc
  ·cases hc
theorem Zxk{asl:List AOp}{tm tm':Tms}(h:Zgu bf asl tm σ=some (tm',σ')):∃ cs,ZN (fun _ _ _=>none) bf asl σ.length tm σ=some (tm',σ',cs,none):=by
 unfold Zgu at h
 split at h
 ·rename_i tm1 σ1 cs h1
  simp only[Xa,Xc]at h
  obtain⟨rfl,rfl⟩:=h
  exact⟨cs,h1⟩
 ·cases h
theorem ZId{m:Nat}{x:AVal}{v:Value}(hx:ZeD m x=true)(hk:KeptE m β β')(h:VR I β x v):VR I' β' x v\/(∃ a xs,x=.lst a xs):=by
 cases x with
 |int |bool |str |nilp |nilm |nili=>exact Xp h
 |lst a xs=>exact Xt ⟨a,xs,rfl⟩
 |sl t g lo n =>
  simp only[ZeD,Xj,decide_eq_true_eq]at hx
  obtain⟨rfl,ht⟩:=hx
  simp only[VR]at h⊢
  obtain⟨bi,e,h⟩:=h
  exact Xp ⟨bi,hk.zero ht e,h⟩
 |ref t o =>
  simp only[ZeD,decide_eq_true_eq]at hx
  simp only[VR]at h⊢
  obtain⟨b,k,c,e,h⟩:=h
  exact Xp ⟨b,k,c,hk.zero hx e,h⟩
 |map t =>
  simp only[ZeD,decide_eq_true_eq]at hx
  simp only[VR]at h⊢
  obtain⟨b,k,c,e,h⟩:=h
  exact Xp ⟨b,k,c,hk.zero hx e,h⟩
 |nref t j o =>
  simp only[ZeD,decide_eq_true_eq]at hx
  simp only[VR]at h⊢
  obtain⟨b,k,c,e,h⟩:=h
  exact Xp ⟨b,k,c,hk t hx _ _ (Xt (by omega)) e,h⟩
 |_=>simp[ZeD]at hx
theorem ZFr{a:Bool}{xs:List AVal}{v:Value}(hI:I.le I')(h:VR I β (.lst a xs) v):VR I' β' (.lst a xs) v:=by
 have ht:Zaf (.lst a xs)=true:=by
  simp only[VR]at h
  obtain⟨A,cap,_,_,_,_,_,ht⟩:=h
  simpa[Zaf]using ht
 exact(VR.of_tree (β':=β') ht h).mono hI (Bmap.le.refl _) _ _
theorem ZzD{m:Nat}{x:AVal}{v:Value}(hx:ZeD m x=true)(hI:I.le I')(hk:KeptE m β β')(h:VR I β x v):VR I' β' x v:=by
 rcases ZId (I':=I') hx hk h with h |⟨a,xs,rfl⟩
 ·exact h
 ·exact ZFr hI h
theorem ZvE{m:Nat}(hI:I.le I')(hk:KeptE m β β'):∀ {cs:List AVal} {vs:List Value},cs.all (ZeD m)=true->VRs I β cs vs->VRs I' β' cs vs
 | [],vs,_,h=>h
 |x::cs,vs,hx,h=>by
  rw[XW,Xj]at hx
  simp only[VRs]at h⊢
  obtain⟨v,vs',rfl,h1,h2⟩:=h
  exact⟨v,vs',rfl,ZzD hx.1 hI hk h1,ZvE hI hk hx.2 h2⟩
theorem ZDA{m:Nat}{x:AVal}{v:Value}(hx:ZjV m x=true)(hI:I.le I')(hk:KeptE m β β')(h:VR I β x v):VR I' β' x v:=by
 cases x with
 |agg cs =>
  simp only[VR]at h⊢
  obtain⟨us,rfl,h⟩:=h
  exact⟨us,rfl,ZvE hI hk hx h⟩
 |_=>exact ZzD hx hI hk h
theorem ZqZ{m:Nat}(hI:I.le I')(hk:KeptE m β β'):∀ {cs:List AVal} {vs:List Value},(∀ x∈cs,ZjV m x=true)->VRs I β cs vs->VRs I' β' cs vs
 | [],vs,_,h=>h
 |x::cs,vs,hx,h=>by
  simp only[VRs]at h⊢
  obtain⟨v,vs',rfl,h1,h2⟩:=h
  exact⟨v,vs',rfl,ZDA (hx x (by simp)) hI hk h1,ZqZ hI hk (fun y hy=>hx y (by simp[hy])) h2⟩
theorem ZkK:∀ {cs:List AVal} {vs:List Value},(∀ x∈cs,Zcn x=true)->VRs I β cs vs->VRs I' β' cs vs
 | [],vs,_,h=>h
 |x::cs,vs,hx,h=>by
  simp only[VRs]at h⊢
  obtain⟨v,vs',rfl,h1,h2⟩:=h
  refine⟨v,vs',rfl,?_,ZkK (fun y hy=>hx y (by simp[hy])) h2⟩
  have:=hx x (by simp)
  cases x<;>simp[Zcn]at this<;>exact h1
theorem Rel.rebase(R:Rel base w0 I0 I β σ w){r:Nat}(hr:∀ t x,σ[t]?=some x->¬Zo w β t x r):Rel (fun k=>base k\/k=r) w I I β σ w where
 below:=KB.refl _ _
 old:=fun _ _ _=>rfl
 imm:=R.imm
 blk:=R.blk
 own:=fun t x b hx hb=>⟨fun h=>by
  rcases h with h |rfl
  ·exact(R.own t x b hx hb).1 h
  ·exact hr t x hx hb,(R.own t x b hx hb).2⟩
 apart:=R.apart
 fresh:=R.fresh
 free:=R.free
 gen:=R.gen
 glob:=R.glob
 ro:=fun t x b h hs=>Xp (R.ro t x b h hs)
theorem Rel.unbase(R1:Rel base w0 I0 I1 β1 σ1 w1)(R2:Rel base' w1 I1 I2 β2 σ2 w2)(hs:∀ k,base k->base' k)(hro:∀ t x b,σ2[t]?=some x->Zaq β2 t x b->base b):Rel base w0 I0 I2 β2 σ2 w2 where
 below:=R1.below.trans (R2.below.mono hs)
 old:=fun b o h=>(R2.old b o (hs b h)).trans (R1.old b o h)
 imm:=R2.imm
 blk:=R2.blk
 own:=fun t x b hx hb=>⟨fun h=>(R2.own t x b hx hb).1 (hs b h),(R2.own t x b hx hb).2⟩
 apart:=R2.apart
 fresh:=R2.fresh
 free:=R2.free
 gen:=R2.gen
 glob:=R2.glob
 ro:=hro
def Zem:Zx->Bool
 | .map _=>true
 | .rmap _=>true
 | .arena _=>true
 | .rarena _=>true
 |_=>false
theorem ZD0{t:Nat}{B:Zx}(h:BR I β w t B):BR I β w t (roB B):=by cases B<;>exact h
theorem ZCq(B:Zx):genB (roB B)=genB B:=by cases B<;>rfl
theorem Zrc{t k:Nat}{B:Zx}(hm:Zem B=true):¬Zo w β t (roB B) k:=by cases B<;>simp[Zem]at hm<;>exact fun h=>h
theorem ZvY{t k:Nat}{B:Zx}(hm:Zem B=true)(h:Zo w β t B k):Zaq β t (roB B) k:=by cases B<;>simp[Zem]at hm<;>first |exact h |cases h
theorem ZrX{t k:Nat}{B:Zx}(hm:Zem B=true)(h:Zaq β t (roB B) k):Zo w β t B k\/Zaq β t B k:=by
 cases B<;>simp[Zem]at hm
 ·exact Xp h
 ·exact Xt h
 ·exact Xp h
 ·exact Xt h
theorem ZJS{B:Zx}(hm:Zem B=true):roB B≠.free:=by cases B<;>simp[Zem]at hm<;>simp[roB]
theorem Zwn{t:Nat}{x:AVal}{B:Zx}{es:List (AVal×AVal)}(h:ZlQ σ x=some (t,B,es)):σ[t]?=some B/\Zem B=true/\((x=.map t/\(B=.map es\/B=.rmap es))\/∃ j nx ns nd,x=.mapg t j nx/\(B=.arena ns\/B=.rarena ns)/\ns[j]?=some nd/\es=Zcm t nd nx):=by
 unfold ZlQ at h
 split at h
 ·split at h
  ·rename_i hs
   simp only[Xa,Xc]at h
   obtain⟨rfl,rfl,rfl⟩:=h
   exact⟨hs,rfl,Xp ⟨rfl,Xp rfl⟩⟩
  ·rename_i hs
   simp only[Xa,Xc]at h
   obtain⟨rfl,rfl,rfl⟩:=h
   exact⟨hs,rfl,Xp ⟨rfl,Xt rfl⟩⟩
  ·cases h
 ·rename_i t' j nx
  split at h
  ·rename_i ns hs
   split at h
   ·rename_i nd hj
    simp only[Xa,Xc]at h
    obtain⟨rfl,rfl,rfl⟩:=h
    exact⟨hs,rfl,Xt ⟨j,nx,ns,nd,rfl,Xp rfl,hj,rfl⟩⟩
   ·cases h
  ·rename_i ns hs
   split at h
   ·rename_i nd hj
    simp only[Xa,Xc]at h
    obtain⟨rfl,rfl,rfl⟩:=h
    exact⟨hs,rfl,Xt ⟨j,nx,ns,nd,rfl,Xt rfl,hj,rfl⟩⟩
   ·cases h
  ·cases h
 ·cases h
theorem Zx1{t b:Nat}{x:AVal}{B:Zx}{es:List (AVal×AVal)}(hB:BR I β w t B)(h:(x=.map t/\(B=.map es\/B=.rmap es))\/∃ j nx ns nd,x=.mapg t j nx/\(B=.arena ns\/B=.rarena ns)/\ns[j]?=some nd/\es=Zcm t nd nx)(hx:VR I β x (.map (some b))) :
  ∃ arr clk,w.heap[b]?=some (.map arr clk)/\MapW I β es arr clk/\Zaq β t (roB B) b:=by
 rcases h with⟨rfl,h⟩ |⟨j,nx,ns,nd,rfl,h,hj,rfl⟩
 ·simp only[VR]at hx
  obtain⟨b',k,c,e1,e2⟩:=hx
  injection e2 with e2
  injection e2 with e2
  subst e2
  have hB':BR I β w t (.map es):=by rcases h with rfl |rfl<;>exact hB
  obtain⟨b2,k2,c2,arr,clk,e3,e4,e5⟩:=hB'
  rw[e1]at e3
  simp only[Xa,BI.mk.injEq]at e3
  obtain⟨rfl,rfl,rfl⟩:=e3
  refine⟨arr,clk,e4,e5,?_⟩
  rcases h with rfl |rfl<;>simp[roB,Zaq,e1]
 ·simp only[VR]at hx
  obtain⟨b',k,c,e1,e2⟩:=hx
  injection e2 with e2
  injection e2 with e2
  subst e2
  have hA:ArenaW I β w t ns:=by rcases h with rfl |rfl<;>exact hB
  obtain⟨b2,k2,c2,arr,clk,e3,e4,e5,e6,e7,e8⟩:=(hA.1 j nd hj).mapBlk nx
  rw[e1]at e3
  simp only[Xa,BI.mk.injEq]at e3
  obtain⟨rfl,rfl,rfl⟩:=e3
  refine⟨arr,clk,e4,⟨e5,e6,e7,e8⟩,?_⟩
  have:=Zfh (Xh.1 hj).1 e1
  rcases h with rfl |rfl<;>exact this
theorem ArenaW.kind{t b:Nat}{ns:Zbg}(A:ArenaW I β w t ns)(hb:Zbr β t ns b):(∃ us ty,w.heap[b]?=some (.cells us ty (0,0)))\/∃ arr clk,w.heap[b]?=some (.map arr clk):=by
 obtain⟨g,g1,g2,hb⟩:=hb
 obtain⟨i,hi,hg⟩:=Zob g1 g2
 obtain⟨nd,hnd⟩:∃ nd,ns[i]?=some nd:=⟨_,XB hi⟩
 obtain⟨bs,k0,c0,us,ty,bv,k1,c1,arr,clk,bn,k2,c2,arr',clk',h0,h1,h2,⟨a1,a2⟩,⟨b1,_⟩,d1,_⟩:=A.1 i nd hnd
 rcases hg with rfl |rfl |rfl
 ·rw[h0]at hb;simp only[XR,Xa]at hb;subst hb;exact Xp ⟨_,_,a1⟩
 ·rw[h1]at hb;simp only[XR,Xa]at hb;subst hb;exact Xt ⟨_,_,b1⟩
 ·rw[h2]at hb;simp only[XR,Xa]at hb;subst hb;exact Xt ⟨_,_,d1⟩
theorem ZCG{t b:Nat}{x:Zx}(h:BR I β w t x)(hs:Zaq β t x b){m:Option Nat}{l:Array Nat}{c c':Nat}:w.heap[b]?≠some (.mapIter m c l c'):=by
 cases x with
 |rmap es =>
  obtain⟨b2,_,_,_,_,e1,e2,_⟩:=h
  simp only[Zaq,e1,XR,Xa]at hs
  subst hs
  intro h3;rw[e2]at h3;cases h3
 |rarena ns =>
  rcases ArenaW.kind h hs with⟨us,ty,e⟩ |⟨arr,clk,e⟩<;>(intro h3;rw[e]at h3;cases h3)
 |_=>cases hs
theorem ArenaW.keepE{m t:Nat}{ns:Zbg}(A:ArenaW I β w t ns)(ht:t<m)(hI:I.le I')(hk:KeptE m β β'):(∀ g,1001<=g->g<1001+3*ns.length->β' t g=β t g):=by
 intro g g1 g2
 obtain⟨b,k,c,e⟩:=A.somb g1 g2
 rw[e,hk t ht g _ (Xt (by omega)) e]
theorem ArenaW.keep2{m t:Nat}{ns:Zbg}(A:ArenaW I β w t ns)(ht:t<m)(hI:I.le I')(hk:KeptE m β β')(hh:∀ b,Zbr β t ns b->w'.heap[b]?=w.heap[b]?):ArenaW I' β' w' t ns:=by
 have hs:=A.keepE ht hI hk
 refine⟨fun i nd hi=>?_,fun g g' b a1 a2 a3 a4 h1 h2=>A.2 g g' b a1 a2 a3 a4 (by rw[<-hs g a1 a2];exact h1) (by rw[<-hs g' a3 a4];exact h2)⟩
 have hil:=(Xh.1 hi).1
 obtain⟨bs,k0,c0,us,ty,bv,k1,c1,arr,clk,bn,k2,c2,arr',clk',h0,h1,h2,⟨a1,a2⟩,⟨b1,b2,b3,b4,b5⟩,d1,d2,d3,d4,d5⟩:=A.1 i nd hi
 have g0:1001<=Z6 i false/\Z6 i false<1001+3*ns.length/\1001<=Z6 i true/\Z6 i true<1001+3*ns.length:=by unfold Z6;simp;omega
 refine⟨bs,k0,c0,us,ty,bv,k1,c1,arr,clk,bn,k2,c2,arr',clk',by rw[hs _ (by omega) (by omega)];exact h0,by rw[hs _ g0.1 g0.2.1];exact h1,by rw[hs _ g0.2.2.1 g0.2.2.2];exact h2,⟨by rw[hh bs (Ztn hil h0)];exact a1,a2⟩,⟨by rw[hh bv (Zfh hil h1)];exact b1,ZkK (fun y hy=>by obtain⟨p,hp,rfl⟩:=XG.1 hy;exact(b4 p hp).1) b2,?_,b4,b5⟩,by rw[hh bn (Zfh hil h2)];exact d1,ZkK (fun y hy=>by obtain⟨p,hp,rfl⟩:=XG.1 hy;exact(d4 p hp).1) d2,ZqZ (m:=m) hI hk (fun y hy=>by obtain⟨p,hp,rfl⟩:=XG.1 hy;simp[ZjV,ZeD,ht]) d3,d4,d5⟩
 refine VRs.mono hI (Bmap.le.refl β') _ _ (VRs.of_cells (β:=β) ?_ b3)
 intro x hx
 obtain⟨p,hp,rfl⟩:=XG.1 hx
 have:=Zt3 (b4 p hp).2
 generalize p.2=q at this ⊢
 cases q<;>simp_all[Zaf,AVal.cells,Zai]
theorem ZNo{m t:Nat}{B:Zx}(hB:BR I β w t B)(hm:Zem B=true)(ht:t<m)(hk:KeptE m β β')(k:Nat):Zaq β' t (roB B) k↔Zaq β t (roB B) k:=by
 have one:∀ es,BR I β w t (.map es)->(Zaq β' t (.rmap es) k↔Zaq β t (.rmap es) k):=by
  rintro es ⟨b,k',c,_,_,e,_⟩
  simp[Zaq,e,hk.zero ht e]
 have two:∀ ns,ArenaW I β w t ns->(Zbr β' t ns k↔Zbr β t ns k):=by
  intro ns A
  have hs:=A.keepE ht (Imm.le.refl I) hk
  constructor
  ·rintro⟨g,g1,g2,h⟩;exact⟨g,g1,g2,by rw[<-hs g g1 g2];exact h⟩
  ·rintro⟨g,g1,g2,h⟩;exact⟨g,g1,g2,by rw[hs g g1 g2];exact h⟩
 cases B<;>simp[Zem]at hm
 ·exact one _ hB
 ·exact one _ hB
 ·exact two _ hB
 ·exact two _ hB
theorem Rel.hide(R:Rel base w0 I0 I β σ w){t r:Nat}{B:Zx}(ht:σ[t]?=some B)(hm:Zem B=true)(hr:∀ t x,σ[t]?=some x->¬Zo w β t x r):Rel (fun k=>base k\/Zaq β t (roB B) k\/k=r) w I I β (σ.set t (roB B)) w:=by
 have htl:t<σ.length:=(Xh.1 ht).1
 have look:∀ u x,(σ.set t (roB B))[u]?=some x->(u=t/\x=roB B)\/(u≠t/\σ[u]?=some x):=fun u x h=>Zg8 htl h
 have hB:=R.blk t _ ht
 refine⟨KB.refl _ _,fun _ _ _=>rfl,R.imm,?_,?_,?_,fun u g hu=>R.fresh u g (by simpa using hu),?_,?_,R.glob,?_⟩
 ·intro u x hx
  rcases look u x hx with⟨rfl,rfl⟩ |⟨_,hx⟩
  ·exact ZD0 hB
  ·exact R.blk u x hx
 ·intro u x j hx ho
  rcases look u x hx with⟨rfl,rfl⟩ |⟨hu,hx⟩
  ·exact absurd ho (Zrc hm)
  ·refine⟨fun h=>?_,(R.own u x j hx ho).2⟩
   rcases h with h |h |rfl
   ·exact(R.own u x j hx ho).1 h
   ·rcases ZrX (w:=w) hm h with h |h
    ·exact hu (R.apart u x t _ j hx ht ho h)
    ·exact(R.own u x j hx ho).1 (R.ro t _ j ht h)
   ·exact hr u x hx ho
 ·intro u x u' x' j hx hx' ho ho'
  rcases look u x hx with⟨rfl,rfl⟩ |⟨hu,hx⟩
  ·exact absurd ho (Zrc hm)
  ·rcases look u' x' hx' with⟨rfl,rfl⟩ |⟨hu',hx'⟩
   ·exact absurd ho' (Zrc hm)
   ·exact R.apart u x u' x' j hx hx' ho ho'
 ·intro u g hx
  rcases look u _ hx with⟨_,h⟩ |⟨_,hx⟩
  ·exact absurd h.symm (ZJS hm)
  ·exact R.free u g hx
 ·intro u x g hx hg
  rcases look u x hx with⟨rfl,rfl⟩ |⟨_,hx⟩
  ·refine R.gen u _ g ht ?_
   rw[ZCq]at hg;exact hg
  ·exact R.gen u x g hx hg
 ·intro u x j hx hs
  rcases look u x hx with⟨rfl,rfl⟩ |⟨hu,hx⟩
  ·exact Xt (Xp hs)
  ·exact Xp (R.ro u x j hx hs)
theorem ZtW{t:Nat}{B:Zx}(h:ZiG σ t B=true):∃ x,σ[t]?=some x/\genB x<=genB B/\B≠.free:=by
 unfold ZiG at h
 split at h
 ·rename_i e;exact⟨_,e,by simp[genB],by simp⟩
 ·rename_i e;exact⟨_,e,by simp[genB],by simp⟩
 ·rename_i ms ns e;exact⟨_,e,by simp only[genB];simp only[decide_eq_true_eq]at h;omega,by simp⟩
 ·rename_i ms ns e;exact⟨_,e,by simp only[genB];simp only[decide_eq_true_eq]at h;omega,by simp⟩
 ·cases h
theorem Rel.unhide(R1:Rel base w0 I0 I1 β1 σ1 w1){base':Nat->Prop}{t:Nat}(hbb:∀ k,base k->base' k)(R2:Rel base' w1 I1 I2 β2 σ2 w2){B:Zx}(ht:ZiG σ2 t B=true)(hB:BR I2 β2 w2 t B)(hown:∀ k,Zo w2 β2 t B k->base' k/\¬base k/\∀ o,I2 k o=none)(hsee:∀ k,Zaq β2 t B k->base k)(hro:∀ u x b,u≠t->σ2[u]?=some x->Zaq β2 u x b->base b):Rel base w0 I0 I2 β2 (σ2.set t B) w2:=by
 obtain⟨x2,ht2,hgen,hfree⟩:=ZtW ht
 have htl:t<σ2.length:=(Xh.1 ht2).1
 have look:∀ u x,(σ2.set t B)[u]?=some x->(u=t/\x=B)\/(u≠t/\σ2[u]?=some x):=fun u x h=>Zg8 htl h
 refine⟨R1.below.trans (R2.below.mono hbb),fun k o h=>(R2.old k o (hbb k h)).trans (R1.old k o h),R2.imm,?_,?_,?_,fun u g hu=>R2.fresh u g (by simpa using hu),?_,?_,R2.glob,?_⟩
 ·intro u x hx
  rcases look u x hx with⟨rfl,rfl⟩ |⟨_,hy⟩
  ·exact hB
  ·exact R2.blk u x hy
 ·intro u x j hx ho
  rcases look u x hx with⟨rfl,rfl⟩ |⟨hu,hy⟩
  ·exact(hown j ho).2
  ·have:=R2.own u x j hy ho
   exact⟨fun h=>this.1 (hbb j h),this.2⟩
 ·intro u x u' x' j hx hx' ho ho'
  rcases look u x hx with⟨rfl,rfl⟩ |⟨hu,hy⟩
  ·rcases look u' x' hx' with⟨rfl,rfl⟩ |⟨hu',hy'⟩
   ·rfl
   ·exact absurd (hown j ho).1 (R2.own u' x' _ hy' ho').1
  ·rcases look u' x' hx' with⟨rfl,rfl⟩ |⟨hu',hy'⟩
   ·exact absurd (hown j ho').1 (R2.own u x _ hy ho).1
   ·exact R2.apart u x u' x' j hy hy' ho ho'
 ·intro u g hx
  rcases look u _ hx with⟨_,h⟩ |⟨_,hy⟩
  ·exact absurd h.symm hfree
  ·exact R2.free u g hy
 ·intro u x g hx hg
  rcases look u x hx with⟨rfl,rfl⟩ |⟨_,hy⟩
  ·exact R2.gen u x2 g ht2 (by omega)
  ·exact R2.gen u x g hy hg
 ·intro u x j hx hs
  rcases look u x hx with⟨rfl,rfl⟩ |⟨hu,hy⟩
  ·exact hsee j hs
  ·exact hro u x j hu hy hs
theorem ZyW{t k:Nat}(x:Zx):Zo w β t (ZfM x) k↔Zo w β t x k:=by cases x<;>exact Iff.rfl
theorem ZEb{t k:Nat}(x:Zx):Zaq β t (ZfM x) k↔Zaq β t x k:=by cases x<;>exact Iff.rfl
theorem ZPh(x:Zx):genB (ZfM x)=genB x:=by cases x<;>rfl
theorem ZB5{x:Zx}(h:ZfM x=.free):x=.free:=by cases x<;>simp[ZfM]at h⊢
theorem ZAE{t:Nat}{x:Zx}(h:BR I β w t x):BR I β w t (ZfM x):=by
 cases x with
 |row g k xs=>obtain⟨bi,h⟩:=h;exact⟨xs,rfl,bi,h⟩
 |_=>exact h
theorem Zgr{bg:Bool}{t:Nat}{x:Zx}(h:(Zg6 bg σ)[t]?=some x):∃ y,σ[t]?=some y/\(x=y\/x=ZfM y):=by
 unfold Zg6 at h
 split at h
 ·rw[XX,Xq]at h
  obtain⟨y,h1,rfl⟩:=h
  exact⟨y,h1,Xt rfl⟩
 ·exact⟨x,h,Xp rfl⟩
theorem Rel.bags(R:Rel base w0 I0 I β σ w)(bg:Bool):Rel base w0 I0 I β (Zg6 bg σ) w:=by
 have o:∀ {t k:Nat} {x y:Zx},(x=y\/x=ZfM y)->Zo w β t x k->Zo w β t y k:=by
  rintro t k x y (rfl |rfl) h
  ·exact h
  ·exact(ZyW y).1 h
 refine⟨R.below,R.old,R.imm,?_,?_,?_,?_,?_,?_,R.glob,?_⟩
 ·intro t x h
  obtain⟨y,hy,rfl |rfl⟩:=Zgr h
  ·exact R.blk t _ hy
  ·exact ZAE (R.blk t y hy)
 ·intro t x b h hb
  obtain⟨y,hy,e⟩:=Zgr h
  exact R.own t y b hy (o e hb)
 ·intro t x t' x' b h h' hb hb'
  obtain⟨y,hy,e⟩:=Zgr h
  obtain⟨y',hy',e'⟩:=Zgr h'
  exact R.apart t y t' y' b hy hy' (o e hb) (o e' hb')
 ·intro t g h
  refine R.fresh t g ?_
  unfold Zg6 at h
  split at h
  ·simpa using h
  ·exact h
 ·intro t g h
  obtain⟨y,hy,e⟩:=Zgr h
  have : y=.free:=by
   rcases e with e |e
   ·exact e.symm
   ·exact ZB5 e.symm
  subst this
  exact R.free t g hy
 ·intro t x g h hg
  obtain⟨y,hy,rfl |rfl⟩:=Zgr h
  ·exact R.gen t _ g hy hg
  ·exact R.gen t y g hy (by rw[ZPh]at hg;exact hg)
 ·intro t x b h hs
  obtain⟨y,hy,rfl |rfl⟩:=Zgr h
  ·exact R.ro t _ b hy hs
  ·exact R.ro t y b hy ((ZEb y).1 hs)
theorem Rel.turn(R:Rel base w0 I0 I β σ w){r:Nat}(hr:∀ t x,σ[t]?=some x->¬Zo w β t x r)(hb:¬base r)(hI:∀ o,I r o=none)(hos:w'.os=w.os)(ht:w'.tape=w.tape)(ho:w'.output=w.output)(hs:w.heap.size<=w'.heap.size)(hk:∀ k,k≠r->k<w.heap.size->w'.heap[k]?=w.heap[k]?)(hbl:KLt base w):Rel base w0 I0 I β σ w':=by
 refine R.stay (Imm.le.refl I) ⟨hos,ht,ho,hs,fun k h=>hk k (by rintro rfl;exact hb h) (hbl k h)⟩ (fun _ _ _=>rfl) ?_ ?_
 ·intro b o u hu
  have h1:=R.imm b o u hu
  have hne:b≠r:=by rintro rfl;rw[hI]at hu;cases hu
  have hlt:=ZdN h1
  rw[<-h1]
  simp only[World.cell?,hk b hne hlt]
 ·intro t x b hx hb'
  have hne:b≠r:=by rintro rfl;exact hr t x hx hb'
  exact⟨hk b hne ((R.blk t x hx).owns_lt hb'),(R.own t x b hx hb').2⟩
theorem ZIR(m:Nat)(tm:Tms)(σ:Za):m<=(gcT m tm σ).2.length:=by
 show m<=(heapOf σ m _ _ _ 0).length
 rw[ZkL]
 obtain⟨_,r,hr⟩:=ZhN (σ:=σ) 1000 (refsL (tm.map (·.2))++(WK m).flatMap fun t=>refsB (σ.getD t .free)) (WK m) Xa2
 show m<=(gcIds m (tm.map (·.2)) σ).length
 unfold gcIds
 rw[hr]
 simp
end
theorem Zke{I:Imm}{β:Bmap}{tm:Tms}{a:Act}{d:Nat}{u:Value}(T:TR I β tm a.tmps)(hd:tget tm d=.top):TR I β tm (a.put (some d) u).tmps:=by
 intro n
 by_cases e:d=n
 ·subst e;rw[hd];simp only[VR]
 ·rw[pgn e];exact T n
theorem ZIs{m:Nat}{live:List Nat}{tm:Tms}{σ:Za}{d:Nat}(hd:d∉live):tget (gcT m (keepL live tm) σ).1 d=.top:=by
 have key:∀ (l:List Nat) (xs:List AVal),d∉l->tget (l.zip xs) d=.top:=by
  intro l
  induction l with
  |nil=>intro xs _;rfl
  |cons x l ih =>
   intro xs h
   cases xs with
   |nil=>rfl
   |cons y ys =>
    simp only[List.zip_cons_cons,tget]
    rw[if_neg (by rintro rfl;exact h (by simp))]
    exact ih ys (fun hm=>h (by simp[hm]))
 have e:(keepL live tm).map (·.1)=live:=by simp[keepL,WG,Function.comp_def]
 show tget (((keepL live tm).map (·.1)).zip _) d=.top
 rw[e]
 exact key live _ hd
section
variable {P:Program}{O:ZJ}{bf:Nat->Bool}{an an3:Ann}{base:Nat->Prop}{w0:World}{I0:Imm}{dr:Door}{m:Nat}{live:List Nat}{ms it nx ok en bid b1:Nat}{bg:Bool}{ent:List AOp}{run fin:Nat->Tms->Za->Option (ZY×Tms×Za)}
def Zb8(dr:Door)(it ms:Nat)(r b:Nat):Door:=⟨dr.D,it::ms::dr.K,fun n=>if n=it then .pointer (some ⟨r,0,none⟩)else if n=ms then .map (some b)else dr.X n⟩
def ZfT(arr:Array MapEntry)(j:Nat):Nat:=(arr.toList.getD j ⟨undef,undef,0⟩).born
theorem ZjX{es:List (AVal×AVal)}:∀ (a b:List (AVal×AVal)) (tm:Tms) (σ:Za),ZcA bf m live ms en b1 bg ent run es (a++b) tm σ=match ZcA bf m live ms en b1 bg ent run es a tm σ with
  |some (tm',σ')=>ZcA bf m live ms en b1 bg ent run es b tm' σ'
  |none=>none
 | [],b,tm,σ=>rfl
 |x::a,b,tm,σ=>by
  simp only[Wm,ZcA]
  split
  ·split
   ·split
    ·exact ZjX a b _ _
    ·rfl
   ·rfl
  ·rfl
theorem Zqb{tm tm0:Tms}{σ σ0:Za}{t:Nat}{B:Zx}{es:List (AVal×AVal)}(h:ZjB m live ms tm σ=some (t,B,es,tm0,σ0)):(gcT m (keepL live tm) σ).1=tm0/\(gcT m (keepL live tm) σ).2=σ0/\ZlQ σ0 (tget tm0 ms)=some (t,B,es)/\∀ p∈es,ZjV σ0.length p.2=true:=by
 unfold ZjB at h
 split at h
 ·rename_i t' B' es' h1
  split at h
  ·rename_i h4
   simp only[Xa,Xc]at h
   obtain⟨rfl,rfl,rfl,rfl,rfl⟩:=h
   exact⟨rfl,rfl,h1,fun p hp=>XF.1 h4 p hp⟩
  ·cases h
 ·cases h
theorem ZJx{tm tm':Tms}{σ σ':Za}{t:Nat}{B:Zx}{kv:AVal×AVal}(h:ZeV bf ms en b1 bg ent run t B kv tm σ=some (tm',σ')):∃ tm1 σ1 e tm2 σ2,Zgu bf ent (tput tm (some en) (.tup [kv.1,kv.2])) (σ.set t (roB B))=some (tm1,σ1)/\run σ.length tm1 σ1=some (e,tm2,σ2)/\(e=.normal\/e=.exit b1)/\ZiG σ2 t B=true/\Zgn (σ.set t (roB B)) σ2=true/\tput tm2 (some ms) (tget tm ms)=tm'/\Zg6 bg (σ2.set t B)=σ':=by
 unfold ZeV at h
 split at h
 case h_2=>cases h
 rename_i tm1 σ1 h1
 split at h
 ·rename_i tm2 σ2 h2
  split at h
  ·rename_i h3
   simp only[Xj]at h3
   simp only[Xa,Xc]at h
   exact⟨tm1,σ1,.normal,tm2,σ2,h1,h2,Xp rfl,h3.1,h3.2,h.1,h.2⟩
  ·cases h
 ·rename_i i tm2 σ2 h2
  split at h
  ·rename_i h3
   simp only[Xj,decide_eq_true_eq]at h3
   obtain⟨rfl,h3⟩:=h3
   simp only[Xa,Xc]at h
   exact⟨tm1,σ1,.exit _,tm2,σ2,h1,h2,Xt rfl,h3.1,h3.2,h.1,h.2⟩
  ·cases h
 ·cases h
theorem ZCj(hkp:∀ n∈dr.K,n∈an.keep)(hm:P.follows .mixedOrders=true)(hb:KLt base w0){ops3 ops4:Array Oper}{i3 i4:Nat}{body:Code}{nxo exo eno:Oper}{lE:List Oper}
  (hbody:∀ (dr':Door) (base':Nat->Prop) (w0':World) (I0':Imm) (m':Nat),(∀ n∈dr'.K,n∈an3.keep)->KLt base' w0'->∀ {I:Imm} {β:Bmap} {tm tm':Tms} {σ σ':Za} {a:Act} {w:World} {e:ZY},StF dr' m' an3.nt base' w0' I0' I β tm σ a w->run m' tm σ=some (e,tm',σ')->∀ {Q:Exit->Act->World->Prop},Zr4 dr' m' an3 base' w0' I0' I β e tm' σ' Q->body.wp P Q a w)
  (h3:ops3.toList=[nxo,exo]) (h4:ops4.toList=eno::lE)
  (hn1:nxo.op=.next (.tmp it) false) (hn2:nxo.dst=some nx) (hn3:nxo.guard=none) (hx1:exo.op=.extract (.tmp nx) 0) (hx2:exo.dst=some ok) (hx3:exo.guard=none)
  (he1:eno.op=.entry (.tmp it)) (he2:eno.dst=some en) (he3:eno.guard=none) (hcE:Zcs P an3 ops4 lE=some ent) (hnt3:an3.nt=an.nt) (hk3:an3.keep=it::ms::an.keep)
  (d1:it<an.nt) (d2:nx<an.nt) (d3:ok<an.nt) (d4:en<an.nt) (d5:it≠ms) (d6:nx≠ms) (d7:ok≠ms) (d8:en≠ms) (d9:nx≠it) (d10:ok≠it) (d11:en≠it) (d12:nx≠ok) (hlv:∀ n∈live,n≠it/\n≠nx/\n≠ok/\n≠en)
  (q1:it∉an.keep) (q2:nx∉an.keep) (q3:ok∉an.keep) (q4:en∉an.keep)
  {r b clk:Nat} {arr:Array MapEntry} {es:List (AVal×AVal)} (hS:Zel arr clk) (hne:arr.size=es.length) (hrb:r≠b) (hrbase:¬base r) (hdX:ms∈dr.K->dr.X ms=.map (some b))
  {tm2:Tms} {σ2:Za} {out:ZY×Tms×Za} (hall:∀ es':List (AVal×AVal),es'.Perm es->Zdf bf m live ms en b1 bg ent run fin es es' tm2 σ2=some out)
  {I:Imm} {β:Bmap} {Q:Exit->Act->World->Prop}
  (hQ:∀ tm σ a w I' β',ZkJ m live fin tm σ=some out->I.le I'->KeptE m β β'->TR I' β' (keepL live tm) a.tmps->(dr.ok a/\an.nt<=a.tmps.size)->Rel base w0 I0 I' β' σ w->Q (.exit bid) a w) :
  ∀ (n:Nat) (js:List Nat) (tm:Tms) (σ:Za) (a:Act) (w:World),n+js.length=es.length+1->js.Nodup->(∀ j∈js,j<es.length)->ZcA bf m live ms en b1 bg ent run es (js.map fun j=>es.getD j (.top,.top)) tm2 σ2=some (tm,σ) ->
   w.heap[r]?=some (.mapIter (some b) clk (js.map (ZfT arr)).toArray clk)->w.heap[b]?=some (.map arr clk) ->
   (∃ I' β',I.le I'/\KeptE m β β'/\TR I' β' (keepL live tm) a.tmps/\((Zb8 dr it ms r b).ok a/\an.nt<=a.tmps.size)/\Rel base w0 I0 I' β' σ w/\(∀ o,I' r o=none)/\(∀ t x,σ[t]?=some x->¬Zo w β' t x r)) ->
   Code.rounds P (.seq (.region i3 ops3 false) (.seq (.cond (.tmp ok) .skip (.exit bid)) (.block b1 (.seq (.region i4 ops4 false) body)))) Q n a w:=by
 have hperm:∀ js:List Nat,js.Nodup->(∀ j∈js,j<es.length)->∃ rest:List Nat,(WK es.length).Perm (js++rest):=fun js h1 h2=>Zu9 js _ h1 (fun j hj=>Xad.2 (h2 j hj)) Xa2
 have hpm:∀ js rest:List Nat,(WK es.length).Perm (js++rest)->(js.map (fun j=>es.getD j (.top,.top))++rest.map fun j=>es.getD j (.top,.top)).Perm es:=by
  intro js rest h
  have:=h.map (fun j=>es.getD j ((.top,.top):AVal×AVal))
  rw[ZFx,XH]at this
  exact this.symm
 have kit:it∉dr.K:=fun h=>q1 (hkp _ h)
 have knx:nx∉dr.K:=fun h=>q2 (hkp _ h)
 have kok:ok∉dr.K:=fun h=>q3 (hkp _ h)
 have ken:en∉dr.K:=fun h=>q4 (hkp _ h)
 intro n
 induction n with
 |zero =>
  intro js tm σ a w hn hnd hlt _ _ _ _
  exfalso
  obtain⟨rest,hr⟩:=hperm js hnd hlt
  have:=hr.length_eq
  simp at this
  omega
 |succ n ih =>
  intro js tm σ a w hn hnd hlt hf hit hmap hst
  rw[rounds_succ]
  obtain⟨I1,β1,g1,g2,T1,⟨gd,gs⟩,R1,hIr,hown⟩:=hst
  have vit:a.tmps.getD it undef=.pointer (some ⟨r,0,none⟩):=by
   have:=gd.2 it (by simp[Zb8]);simpa[Zb8]using this
  have vms:a.tmps.getD ms undef=.map (some b):=by
   have:=gd.2 ms (by simp[Zb8]);simpa[Zb8,WV d5]using this
  refine wp_seq (wp_region_list ?_)
  rw[h3]
  refine ZgQ hn3 ?_
  unfold Oper.wp
  have hlook:=run_next_at (P:=P) w nxo.type r b clk clk _ arr clk hit hmap (fun x hx=>hS.1 x hx) (XD _)
  rcases hlook with⟨hz,hrun⟩ |⟨e,he,w1,hw1,hrun⟩
  ·
   have e1:(execOp a.eval nxo).run P w=.ok (.value (.tuple #[.bool false])) w:=by
    unfold execOp;rw[hn1]
    simp only[Act.eval]
    rw[vit]
    exact Zl8 hrun
   rw[e1,Oper.upon_value,hn2]
   refine ZgQ hx3 ?_
   unfold Oper.wp
   have e2:(execOp (a.put (some nx) (.tuple #[.bool false])).eval exo).run P w=.ok (.value (.bool false)) w:=by
    unfold execOp;rw[hx1]
    simp only[Act.eval]
    rw[pgs (by omega)]
    exact Zl8 (by simp[Instr.extract])
   rw[e2,Oper.upon_value,hx2]
   refine wpList_nil ?_
   simp only[Exit.then]
   refine wp_seq (wp_cond_false (by simp only[Act.eval];exact pgs (by rw[Zd6];omega)) (wp_exit ?_))
   simp only[Exit.then]
   obtain⟨rest,hr⟩:=hperm js hnd hlt
   have hrest:rest=[]:=by
    cases rest with
    |nil=>rfl
    |cons x rest =>
     exfalso
     have hx:x<es.length:=Xad.1 (hr.mem_iff.2 (by simp))
     obtain⟨ex,hxa⟩:∃ ex,arr.toList[x]?=some ex:=⟨_,XB (by simpa[hne]using hx)⟩
     have hs:=ZSX hz (arr.toList.getD x ⟨undef,undef,0⟩) (by
      rw[Xi,hxa];exact Xx hxa)
     have hnd2:(js++x::rest).Nodup:=hr.nodup_iff.1 Xa2
     have hxj:x∉js:=fun hm=>by
      have:=(Xak.1 hnd2).2.2 x hm x (by simp)
      exact this rfl
     simp only[List.contains_toArray,Xai,decide_eq_true_eq,XG]at hs
     obtain⟨y,hy,hyx⟩:=hs
     have hyl:y<es.length:=hlt y hy
     obtain⟨ey,hya⟩:∃ ey,arr.toList[y]?=some ey:=⟨_,XB (by simpa[hne]using hyl)⟩
     have hnb:=hS.2
     have e3:(arr.toList.map (·.born))[y]?=(arr.toList.map (·.born))[x]?:=by
      rw[XX,XX,hya,hxa]
      simp only[XT,Xa]
      unfold ZfT at hyx
      rw[Xi,Xi,hya,hxa]at hyx
      exact hyx
     have hyx2:=(List.getElem?_inj (by simpa[hne]using hyl) hnb).1 e3
     subst hyx2
     exact hxj hy
   subst hrest
   have hp:=hpm js [] hr
   have ho:=hall _ hp
   unfold Zdf at ho
   rw[ZjX,hf]at ho
   simp only[Xo,ZcA]at ho
   have okd:dr.ok ((a.put (some nx) (.tuple #[.bool false])).put (some ok) (.bool false)):=by
    refine ZhO (ZhO ⟨gd.1,fun j hj=>?_⟩ (fun n hn=>by injection hn with hn;subst hn;exact knx)) (fun n hn=>by injection hn with hn;subst hn;exact kok)
    have hji:j≠it:=by rintro rfl;exact kit hj
    have:=gd.2 j (by simp[Zb8,hj])
    rw[this]
    simp only[Zb8,hji,if_false]
    split
    ·rename_i e;subst e;exact(hdX hj).symm
    ·rfl
   refine hQ tm σ _ w I1 β1 ho g1 g2 ?_ ⟨okd,by rw[Zd6,Zd6];exact gs⟩ R1
   have t0:∀ d,d∉live->tget (keepL live tm) d=.top:=fun d hd=>by rw[Zng,if_neg hd]
   exact Zke (Zke T1 (t0 nx fun h=>(hlv nx h).2.1 rfl)) (t0 ok fun h=>(hlv ok h).2.2.1 rfl)
  ·
   obtain⟨hea,hes⟩:=ZO0 he
   obtain⟨j,hj,hje⟩:=List.getElem_of_mem hea
   have hja:arr.toList[j]?=some e:=by rw[XB hj,hje]
   have hjl:j<es.length:=by simpa[hne]using hj
   have hbj:ZfT arr j=e.born:=by unfold ZfT;rw[Xi,hja];rfl
   have hjs:j∉js:=fun hm=>by
    have : (js.map (ZfT arr)).toArray.contains e.born=true:=by
     simp only[List.contains_toArray,Xai,decide_eq_true_eq,XG]
     exact⟨j,hm,hbj⟩
    rw[this]at hes;cases hes
   have hnd':(js++[j]).Nodup:=by
    rw[Xak]
    exact⟨hnd,by simp,fun x hx y hy=>by rw[XM]at hy;subst hy;rintro rfl;exact hjs hx⟩
   have hlt':∀ k∈js++[j],k<es.length:=fun k hk=>by
    rcases Xs.1 hk with hk |hk
    ·exact hlt k hk
    ·rw[XM]at hk;subst hk;exact hjl
   obtain⟨rest,hr⟩:=hperm (js++[j]) hnd' hlt'
   have hp:=hpm (js++[j]) rest hr
   have ho:=hall _ hp
   unfold Zdf at ho
   rw[ZjX,XH,ZjX,hf]at ho
   simp only[Xn,Xo]at ho
   generalize hkv:es.getD j ((.top,.top):AVal×AVal)=kv at ho
   cases hro:ZcA bf m live ms en b1 bg ent run es [kv] tm σ with
   |none=>rw[hro]at ho;cases ho
   |some q =>
   obtain⟨tm',σ'⟩:=q
   clear ho
   have hf':ZcA bf m live ms en b1 bg ent run es ((js++[j]).map fun j=>es.getD j (.top,.top)) tm2 σ2=some (tm',σ'):=by
    rw[XH,ZjX,hf]
    simp only[Xn,Xo,hkv,hro]
   simp only[ZcA]at hro
   split at hro
   case h_2=>cases hro
   rename_i t B es' tm0 σ0 hhead
   split at hro
   case isFalse=>cases hro
   rename_i hes'
   subst hes'
   split at hro
   case h_2=>cases hro
   rename_i tmF σF hround
   simp only[Xa,Xc]at hro
   obtain⟨rfl,rfl⟩:=hro
   obtain⟨hg1,hg2,hmst,hkept⟩:=Zqb hhead
   obtain⟨hte,hml0,hwhat⟩:=Zwn hmst
   obtain⟨tmA,σA,x,tmB,σB,hstep,hev,hx,hopq,hros,htm,hσ⟩:=ZJx hround
   have hbw:=R1.base_le hb
   have Rr:=R1.rebase hown
   obtain⟨β0,q1',R0r,T0⟩:=ZmZ Rr T1 m
   have R0:=R1.unbase R0r (fun k h=>Xp h) (fun t x b hx hs=>by
    rcases R0r.ro t x b hx hs with h |rfl
    ·exact h
    ·exact absurd hit (ZCG (R0r.blk t x hx) hs))
   have hown0:∀ t x,(gcT m (keepL live tm) σ).2[t]?=some x->¬Zo w β0 t x r:=fun t x hx ho=>(R0r.own t x r hx ho).1 (Xt rfl)
   have tt:∀ d,d∉live->tget (gcT m (keepL live tm) σ).1 d=.top:=fun d hd=>ZIs hd
   have hml:=ZIR m (keepL live tm) σ
   rw[hg1]at T0 tt
   rw[hg2]at R0 hown0 hml
   have vt:=T0 ms
   rw[vms]at vt
   have hB0:=R0.blk t _ hte
   obtain⟨arr',clk',e2,⟨e3,e4,e5,e6⟩,hsb⟩:=Zx1 hB0 hwhat vt
   rw[hmap]at e2
   simp only[Xa,Obj.map.injEq]at e2
   obtain⟨rfl,rfl⟩:=e2
   have htl:t<σ0.length:=(Xh.1 hte).1
   have e1:(execOp a.eval nxo).run P w=.ok (.value (.tuple #[.bool true,e.key,e.val])) (setBlock w1 r (.mapIter (some b) clk ((js.map (ZfT arr)).toArray.push e.born) clk)):=by
    unfold execOp;rw[hn1]
    simp only[Act.eval]
    rw[vit]
    rw[Sem.run_bind,hrun];rfl
   have hw1h:w1.heap=w.heap/\w1.os=w.os/\w1.tape=w.tape/\w1.output=w.output:=by rcases hw1 with rfl |rfl<;>exact⟨rfl,rfl,rfl,rfl⟩
   obtain⟨wh,wo,wt,wu⟩:=hw1h
   have hrlt:r<w.heap.size:=(Xz.1 hit).1
   generalize hw3:setBlock w1 r (.mapIter (some b) clk ((js.map (ZfT arr)).toArray.push e.born) clk)=w3 at e1
   have w3r:w3.heap[r]?=some (.mapIter (some b) clk ((js.map (ZfT arr)).toArray.push e.born) clk):=by
    rw[<-hw3];simp only[setBlock,wh];rw[Array.getElem?_setIfInBounds_self_of_lt hrlt]
   have w3k:∀ k,k≠r->w3.heap[k]?=w.heap[k]?:=fun k hk=>by
    rw[<-hw3];simp only[setBlock,wh];rw[XN (WV hk)]
   have w3b:w3.heap[b]?=some (.map arr clk):=by rw[w3k b (WV hrb)];exact hmap
   have w3s:w3.heap.size=w.heap.size:=by rw[<-hw3];simp[setBlock,wh]
   have R3:Rel base w0 I0 I1 β0 σ0 w3:=R0.turn hown0 hrbase hIr (by rw[<-hw3];exact wo) (by rw[<-hw3];exact wt) (by rw[<-hw3];exact wu) (by omega) (fun k hk _=>w3k k hk) hbw
   have hown3:∀ t x,σ0[t]?=some x->¬Zo w3 β0 t x r:=fun t x hx ho=>hown0 t x hx (((R0.blk t x hx).owns_at (Bmap.le.refl β0) (fun b' hb'=>w3k b' (by rintro rfl;exact hown0 t x hx hb')) r).1 ho)
   have RH:=R3.hide hte hml0 hown3
   have hseeb:∀ k,Zaq β0 t (roB B) k->k<w.heap.size:=fun k hk=>by
    rcases ZrX (w:=w) hml0 hk with h |h
    ·exact(R0.blk t _ hte).owns_lt h
    ·exact hbw k (R0.ro t _ k hte h)
   rw[e1,Oper.upon_value,hn2]
   generalize hA1:a.put (some nx) (.tuple #[.bool true,e.key,e.val])=A1
   have s1:A1.tmps.size=a.tmps.size:=by rw[<-hA1,Zd6]
   have f1:∀ k,k≠nx->A1.tmps.getD k undef=a.tmps.getD k undef:=by intro k hk;rw[<-hA1];exact pgn (WV hk)
   have df1:A1.defers=dr.D:=by rw[<-hA1];exact gd.1
   have TA1:TR I1 β0 tm0 A1.tmps:=by rw[<-hA1];exact Zke T0 (tt nx fun h=>(hlv nx h).2.1 rfl)
   refine ZgQ hx3 ?_
   unfold Oper.wp
   have e2:(execOp A1.eval exo).run P w3=.ok (.value (.bool true)) w3:=by
    unfold execOp;rw[hx1]
    simp only[Act.eval]
    rw[<-hA1,pgs (by omega)]
    exact Zl8 (by simp[Instr.extract])
   rw[e2,Oper.upon_value,hx2]
   generalize hA2:A1.put (some ok) (.bool true)=A2
   have s2:A2.tmps.size=a.tmps.size:=by rw[<-hA2,Zd6,s1]
   have f2:∀ k,k≠ok->A2.tmps.getD k undef=A1.tmps.getD k undef:=by intro k hk;rw[<-hA2];exact pgn (WV hk)
   have df2:A2.defers=dr.D:=by rw[<-hA2];exact df1
   have TA2:TR I1 β0 tm0 A2.tmps:=by rw[<-hA2];exact Zke TA1 (tt ok fun h=>(hlv ok h).2.2.1 rfl)
   refine wpList_nil ?_
   simp only[Exit.then]
   refine wp_seq (wp_cond_true (by simp only[Act.eval];rw[<-hA2];exact pgs (by omega)) (wp_skip ?_))
   simp only[Exit.then]
   refine wp_block (wp_seq (wp_region_list ?_))
   rw[h4]
   refine ZgQ he3 ?_
   unfold Oper.wp
   have e3':(execOp A2.eval eno).run P w3=.ok (.value (.tuple #[e.key,e.val])) w3:=by
    unfold execOp;rw[he1]
    simp only[Act.eval]
    rw[f2 it (WV d10),f1 it (WV d9),vit]
    exact Zl8 (run_entry_at w3 r b clk _ arr clk e w3r w3b hea hS.2)
   rw[e3',Oper.upon_value,he2]
   generalize hA3:A2.put (some en) (.tuple #[e.key,e.val])=A3
   have s3:A3.tmps.size=a.tmps.size:=by rw[<-hA3,Zd6,s2]
   have f3:∀ k,k≠en->A3.tmps.getD k undef=A2.tmps.getD k undef:=by intro k hk;rw[<-hA3];exact pgn (WV hk)
   have df3:A3.defers=dr.D:=by rw[<-hA3];exact df2
   have hkve:VR I1 β0 (.tup [kv.1,kv.2]) (.tuple #[e.key,e.val]):=by
    have hej:es'[j]?=some kv:=by
     rw[<-hkv,Xi,XB hjl];rfl
    obtain⟨v1,p1,p2⟩:=Zcc e3 (i:=j) (x:=kv.1) (by rw[XX,hej];rfl)
    obtain⟨v2,p3,p4⟩:=Zcc e4 (i:=j) (x:=kv.2) (by rw[XX,hej];rfl)
    rw[XX,hja]at p1 p3
    simp only[XT,Xa]at p1 p3
    subst p1 p3
    simp only[VR]
    exact⟨_,rfl,by simp only[VRs];exact⟨_,_,rfl,p2,_,_,rfl,p4,rfl⟩⟩
   have TA3:TR I1 β0 (tput tm0 (some en) (.tup [kv.1,kv.2])) A3.tmps:=by rw[<-hA3];exact TR.put TA2 hkve (by omega)
   have ok3:(Zb8 dr it ms r b).ok A3:=by
    refine⟨df3,fun k hk=>?_⟩
    have hk':k=it\/k=ms\/k∈dr.K:=by simpa[Zb8]using hk
    have n1:k≠en/\k≠ok/\k≠nx:=by
     rcases hk' with rfl |rfl |hk'
     ·exact⟨WV d11,WV d10,WV d9⟩
     ·exact⟨WV d8,WV d7,WV d6⟩
     ·exact⟨by rintro rfl;exact ken hk',by rintro rfl;exact kok hk',by rintro rfl;exact knx hk'⟩
    rw[f3 k n1.1,f2 k n1.2.1,f1 k n1.2.2]
    exact gd.2 k hk
   have hkp':∀ n∈(Zb8 dr it ms r b).K,n∈an3.keep:=fun n hn=>by
    rw[hk3]
    simp only[Zb8,XI]at hn ⊢
    rcases hn with h |h |h
    ·exact Xp h
    ·exact Xt (Xp h)
    ·exact Xt (Xt (hkp n h))
   have hblt:b<w.heap.size:=(Xz.1 hmap).1
   have hbH:KLt (fun k=>base k\/Zaq β0 t (roB B) k\/k=r) w3:=fun k hk=>by
    rcases hk with hk |hk |rfl
    ·have:=hbw k hk;omega
    ·have:=hseeb k hk;omega
    ·omega
   obtain⟨cs,hruns⟩:=Zxk hstep
   rw[<-XC lE]
   refine Zn7 (dr:=Zb8 dr it ms r b) (O:=fun _ _ _=>none) noO hkp' hbH hcE TA3 ⟨ok3,by omega⟩ RH hruns ?_
   intro A4 w4 hst4
   refine wpList_nil ?_
   simp only[Exit.then]
   have hstF:StF (Zb8 dr it ms r b) σ0.length an3.nt (fun k=>base k\/Zaq β0 t (roB B) k\/k=r) w3 I1 I1 β0 tmA σA A4 w4:=by
    obtain⟨I4,β4,k1,k2,k3⟩:=hst4
    exact⟨I4,β4,k1,KeptE.of_le k2,k3⟩
   have next:∀ A5 w5,StF (Zb8 dr it ms r b) σ0.length an3.nt (fun k=>base k\/Zaq β0 t (roB B) k\/k=r) w3 I1 I1 β0 tmB σB A5 w5->Code.rounds P (.seq (.region i3 ops3 false) (.seq (.cond (.tmp ok) .skip (.exit bid)) (.block b1 (.seq (.region i4 ops4 false) body)))) Q n A5 w5:=by
    rintro A5 w5 ⟨I5,β5,k1,k2,k3,⟨k4,k4'⟩,k5⟩
    have w5b:w5.heap[b]?=some (.map arr clk):=by rw[k5.below.block b (Xt (Xp hsb))];exact w3b
    have w5r:w5.heap[r]?=_:=(k5.below.block r (Xt (Xt rfl))).trans w3r
    have hI5r:∀ o,I5 r o=none:=fun o=>by rw[k5.old r o (Xt (Xt rfl))];exact hIr o
    have hB3:=R3.blk t _ hte
    have hsee5:=ZNo hB3 hml0 htl k2
    have hh5:∀ k,Zaq β0 t (roB B) k->w5.heap[k]?=w3.heap[k]?:=fun k hk=>k5.below.block k (Xt (Xp hk))
    have hB5:BR I5 β5 w5 t B:=by
     rcases hwhat with⟨_,h⟩ |⟨j',nx',ns,nd,_,h,_,_⟩
     ·have hM:BR I1 β0 w3 t (.map es'):=by rcases h with rfl |rfl<;>exact hB3
      obtain⟨b3,k3',c3',arr3,clk3,f1,f2,f3,f4,f5,f6⟩:=hM
      have hsb3:Zaq β0 t (roB B) b3:=by rcases h with rfl |rfl<;>simp[roB,Zaq,f1]
      have hM5:BR I5 β5 w5 t (.map es'):=⟨b3,k3',c3',arr3,clk3,k2.zero htl f1,by rw[hh5 b3 hsb3];exact f2,ZkK (fun y hy=>by obtain⟨p,hp,rfl⟩:=XG.1 hy;exact f5 p hp) f3,ZqZ k1 k2 (fun y hy=>by obtain⟨p,hp,rfl⟩:=XG.1 hy;exact hkept p hp) f4,f5,f6⟩
      rcases h with rfl |rfl<;>exact hM5
     ·have hA:ArenaW I1 β0 w3 t ns:=by rcases h with rfl |rfl<;>exact hB3
      have hA5:ArenaW I5 β5 w5 t ns:=hA.keep2 htl k1 k2 (fun k hk=>hh5 k (by rcases h with rfl |rfl<;>exact hk))
      rcases h with rfl |rfl<;>exact hA5
    have R5:=R3.unhide (fun k hk=>Xp hk) k5 hopq hB5 (fun k hk=>by
     have h1:=(hsee5 k).1 (ZvY hml0 hk)
     have hown1:Zo w3 β0 t B k:=by
      cases hBk:B with
      |map es=>rw[hBk]at h1;exact h1
      |arena ns=>rw[hBk]at h1;exact h1
      |rmap es=>rw[hBk]at hk;cases hk
      |rarena ns=>rw[hBk]at hk;cases hk
      |_=>rw[hBk]at hml0;cases hml0
     refine⟨Xt (Xp h1),(R3.own t _ k hte hown1).1,fun o=>?_⟩
     rw[k5.old k o (Xt (Xp h1))]
     exact(R3.own t _ k hte hown1).2 o) (fun k hk=>by
     have h1:Zaq β0 t (roB B) k:=(hsee5 k).1 (by
      cases hBk:B with
      |rmap es=>rw[hBk]at hk;exact hk
      |rarena ns=>rw[hBk]at hk;exact hk
      |_=>rw[hBk]at hk;cases hk)
     refine R3.ro t _ k hte ?_
     cases hBk:B with
     |rmap es=>rw[hBk]at h1;exact h1
     |rarena ns=>rw[hBk]at h1;exact h1
     |_=>rw[hBk]at hk;cases hk) (fun u x b' hne hx hs=>by
     cases x with
     |rmap es2 =>
      obtain⟨y,h2,h1⟩:=Zll hros hx rfl
      rw[XS (WV hne)]at h2
      cases y<;>simp[Znr]at h1
      rename_i es3
      obtain⟨b2,k2',c2',_,_,e1,_⟩:=R0.blk u _ h2
      have e2:=k2.zero (Xh.1 h2).1 e1
      refine R0.ro u _ b' h2 ?_
      simp only[Zaq,e2]at hs
      simpa[Zaq,e1]using hs
     |rarena ns2 =>
      obtain⟨y,h2,h1⟩:=Zll hros hx rfl
      rw[XS (WV hne)]at h2
      cases y<;>simp[Znr]at h1
      rename_i ns3
      have hA3:ArenaW I1 β0 w u ns3:=R0.blk u _ h2
      have hs3:=hA3.keepE (Xh.1 h2).1 k1 k2
      obtain⟨g,g1,g2,g3⟩:=hs
      refine R0.ro u _ b' h2 ⟨g,g1,by omega,?_⟩
      rw[<-hs3 g g1 (by omega)]
      exact g3
     |_=>cases hs)
    replace R5:=R5.bags bg
    rw[hσ]at R5
    refine ih (js++[j]) tmF σF A5 w5 (by rw[List.length_append,List.length_singleton];omega) hnd' hlt' hf' ?_ w5b ⟨I5,β5,g1.trans k1,?_,?_,⟨k4,by omega⟩,R5,hI5r,?_⟩
    ·rw[w5r,XH,Xn,Xo,hbj,List.push_toArray]
    ·refine(g2.trans q1').trans (fun u hu g bi hg hbi=>k2 u (by omega) g bi hg hbi)
    ·refine TR.keep (fun u=>?_) live
     rw[<-htm]
     show VR I5 β5 (tget (tins ms (tget tm0 ms) tmB) u) _
     rw[Zjo]
     split
     ·rename_i e;subst e
      have : A5.tmps.getD ms undef=.map (some b):=by have:=k4.2 ms (by simp[Zb8]);simpa[Zb8,WV d5]using this
      rw[this]
      rcases hwhat with⟨h,_⟩ |⟨j',nx',ns,nd,h,_,_,_⟩
      ·rw[h]at vt ⊢
       simp only[VR]at vt ⊢
       obtain⟨b3,k3',c3',f1,f2⟩:=vt
       exact⟨b3,k3',c3',k2.zero htl f1,f2⟩
      ·rw[h]at vt ⊢
       simp only[VR]at vt ⊢
       obtain⟨b3,k3',c3',f1,f2⟩:=vt
       exact⟨b3,k3',c3',k2 t htl _ _ (Xt (by unfold Z6;omega)) f1,f2⟩
     ·exact k3 u
    ·intro u y hy hoy
     rw[<-hσ]at hy
     obtain⟨y',hy',hye⟩:=Zgr hy
     have hoy':Zo w5 β5 u y' r:=by
      rcases hye with rfl |rfl
      ·exact hoy
      ·exact(ZyW y').1 hoy
     obtain⟨x2,hx2,_,_⟩:=ZtW hopq
     rcases Zg8 (Xh.1 hx2).1 hy' with⟨rfl,rfl⟩ |⟨_,hy'⟩
     ·have h1:=(hsee5 r).1 (ZvY hml0 hoy')
      rcases ZrX (w:=w3) hml0 h1 with h |h
      ·exact hown3 u _ hte h
      ·exact hrbase (R3.ro u _ r hte h)
     ·exact(k5.own u y' r hy' hoy').1 (Xt (Xt rfl))
   refine hbody (Zb8 dr it ms r b) (fun k=>base k\/Zaq β0 t (roB B) k\/k=r) w3 I1 σ0.length hkp' hbH hstF hev ?_
   rcases hx with rfl |rfl
   ·intro A5 w5 hs
    simp only[Exit.inBlock,Exit.then]
    exact next A5 w5 hs
   ·intro A5 w5 hs
    simp only[Exit.inBlock,if_true,Exit.then]
    exact next A5 w5 hs
end
end
section
open Go.RowKit
section
variable {P:Program}{O:ZJ}{bf:Nat->Bool}{an:Ann}{base:Nat->Prop}{w0:World}{I0:Imm}{dr:Door}
theorem StF.cond{m:Nat}{I:Imm}{β:Bmap}{tm:Tms}{σ:Za}{a:Act}{w:World}(h:StF dr m an.nt base w0 I0 I β tm σ a w){c:Operand}{y:Opd}(hc:Z9 c=some y){b:Bool}(hv:y.ev tm=.bool b):a.eval c=.bool b:=by
 obtain⟨I',β',_,_,T,_,_⟩:=h
 have:=Z4 T hc
 rw[hv]at this
 simpa only[VR]using this
def Zru(P:Program)(O:ZJ)(bf:Nat->Bool)(n:Nat)(c:Code):Prop:=∀ (an:Ann) (dr:Door) (base:Nat->Prop) (w0:World) (I0:Imm) (m:Nat),(∀ n∈dr.K,n∈an.keep)->KLt base w0->∀ ⦃ac:Ze⦄,Zax P an c=ac->∀ ⦃I:Imm⦄ ⦃β:Bmap⦄ ⦃tm tm':Tms⦄ ⦃σ σ':Za⦄ ⦃a:Act⦄ ⦃w:World⦄ ⦃e:ZY⦄,StF dr m an.nt base w0 I0 I β tm σ a w->ZS O bf m n ac tm σ=some (e,tm',σ') ->
  ∀ ⦃Q:Exit->Act->World->Prop⦄,Zr4 dr m an base w0 I0 I β e tm' σ' Q->c.wp P Q a w
theorem Zyc{P:Program}{an:Ann}{a b:Code}{ck:List Nat->Ze}{r:Ze}(h:ZhR P an a b ck=some r):∃ pre live ms en b1 bg ent c2,r=.range pre live ms en b1 bg ent c2 .skip:=by
 unfold ZhR at h
 repeat' split at h
 all_goals first
  |(simp only[Xa]at h;exact⟨_,_,_,_,_,_,_,_,h.symm⟩)
  |cases h
theorem ZPT{m:Nat}{live:List Nat}{ms en b1:Nat}{bg:Bool}{ent:List AOp}{run fin:Nat->Tms->Za->Option (ZY×Tms×Za)}{tm:Tms}{σ:Za}{out:ZY×Tms×Za}(h:Zfm bf m live ms en b1 bg ent run fin tm σ=some out):∃ t B es tm0 σ0,ZjB m live ms tm σ=some (t,B,es,tm0,σ0)/\∀ es':List (AVal×AVal),es'.Perm es->Zdf bf m live ms en b1 bg ent run fin es es' tm σ=some out:=by
 unfold Zfm at h
 split at h
 ·cases h
 ·rename_i t B tm0 σ0 hh
  refine⟨t,B,[],tm0,σ0,hh,fun es' hp=>?_⟩
  rw[List.Perm.eq_nil hp]
  obtain⟨h1,h2,_⟩:=Zqb hh
  simp only[Zdf,ZcA,ZkJ,h1,h2]
  exact h
 ·rename_i t B kv tm0 σ0 hh
  refine⟨t,B,[kv],tm0,σ0,hh,fun es' hp=>?_⟩
  rw[List.perm_singleton.1 hp]
  split at h
  ·rename_i tm' σ' hr
   simp only[Zdf,ZcA,hh,if_true,hr]
   exact h
  ·cases h
 ·rename_i t B es tm0 σ0 hn1 hn2 hh
  refine⟨t,B,es,tm0,σ0,hh,?_⟩
  unfold Zhh at h
  split at h
  case isFalse=>cases h
  rename_i hex
  have hall:=hex.choose_spec
  injection h with h
  rw[h]at hall
  exact hall
theorem Zzu(hO:Zar P O)(hm:P.follows .mixedOrders=true)(n:Nat)(hkp:∀ n∈dr.K,n∈an.keep)(hb:KLt base w0){x y:Code}(IH:∀ c',XaP c'<XaP (Code.seq x y)->Zru P O bf n c'){m:Nat}{pre:List AOp}{live:List Nat}{ms en b1:Nat}{bg:Bool}{ent:List AOp}{c2 c3 rest:Ze}
  (hr:ZhR P an x y (fun K=>Zax P { an with keep:=K++an.keep } y)=some (.range pre live ms en b1 bg ent c2 c3)) {I:Imm} {β:Bmap} {tm:Tms} {σ:Za} {a:Act} {w:World} {out:ZY×Tms×Za} (hst:StF dr m an.nt base w0 I0 I β tm σ a w) (h:ZS O bf m n (.range pre live ms en b1 bg ent c2 rest) tm σ=some out)
  {Q:Exit->Act->World->Prop} (hQ:∀ tmE σE aE wE,StF dr m an.nt base w0 I0 I β tmE σE aE wE->ZS O bf m n rest tmE σE=some out->Q .normal aE wE):(Code.seq x y).wp P Q a w:=by
 unfold ZhR at hr
 split at hr
 case h_2=>cases hr
 rename_i i1 ops1 bid i3 ops3 ok bid' bb i4 ops4 body
 split at hr
 case h_2=>cases hr
 rename_i rg nxo exo eno lE hlast h3 h4
 split at hr
 case h_2=>cases hr
 rename_i t ms' it it1 nx hr1 hr2 hn1 hn2
 split at hr
 case h_2=>cases hr
 rename_i nx1 ok1 it2 en' hx1 hx2 he1 he2
 split at hr
 case h_2=>cases hr
 rename_i kt et pre' ent' i5 l5 s5 s6 b5 s7 c2' hu hpre hent hcb
 split at hr
 case isFalse=>cases hr
 rename_i hcond
 simp only[Xa,Ze.range.injEq]at hr
 obtain⟨rfl,hlive,rfl,rfl,rfl,rfl,rfl,rfl,rfl⟩:=hr
 simp only[Xj,decide_eq_true_eq,Option.isNone_iff_eq_none,WC,Xai,decide_eq_false_iff_not]at hcond
 obtain⟨⟨⟨⟨⟨⟨⟨g1,g2⟩,g3⟩,g4⟩,⟨⟨⟨⟨z1,z2⟩,z3⟩,z4⟩,z5⟩⟩,⟨⟨d1,d2⟩,d3⟩,d4⟩,⟨⟨⟨⟨⟨⟨⟨d5,d6⟩,d7⟩,d8⟩,d9⟩,d10⟩,d11⟩,d12⟩⟩,⟨⟨q1,q2⟩,q3⟩,q4⟩:=hcond
 subst z1 z2 z3 z4 z5
 have hc2:Zax P { an with keep:=it2::ms'::an.keep } body=c2':=by
  simp only[Zax,Zl9,ZhR]at hcb
  simp only[Ze.block.injEq,Ze.loop.injEq,Ze.seq.injEq]at hcb
  obtain⟨_,_,_,_,_,hcb⟩:=hcb
  split at hcb
  ·rename_i r hr
   obtain⟨_,_,_,_,_,_,_,_,rfl⟩:=Zyc (P:=P) (an:={ an with keep:=it2::ms'::an.keep }) (a:=.region i4 ops4 false) (b:=body) (ck:=fun K=>Zax P { an with keep:=K++it2::ms'::an.keep } body) hr
   cases hcb
  ·simp only[Ze.seq.injEq]at hcb
   exact hcb.2
 simp only[ZS]at h
 split at h
 case h_2=>cases h
 rename_i tm1 σ1 hst1
 obtain⟨t0,B,es,tm0,σ0,hhead,hall⟩:=ZPT h
 obtain⟨hg1,hg2,hmst,hkept⟩:=Zqb hhead
 obtain⟨hte,hml0,hwhat⟩:=Zwn hmst
 obtain⟨I1,β1,j1,j2,T1,⟨gd,gs⟩,R1⟩:=hst
 refine wp_seq (wp_region_list ?_)
 have hl1:ops1.toList=ops1.toList.dropLast++[rg]:=by
  obtain⟨ys,hys⟩:=List.getLast?_eq_some_iff.1 hlast
  rw[hys,List.dropLast_concat]
 rw[hl1]
 obtain⟨cs,hruns⟩:=Zxk hst1
 refine Zn7 (dr:=dr) (O:=fun _ _ _=>none) noO hkp hb hpre T1 ⟨gd,gs⟩ R1 hruns ?_
 rintro A2 w2 ⟨I2,β2,k1,k2,T2,⟨kd,ks⟩,R2⟩
 obtain⟨β3,p1,R3g,T3⟩:=ZmZ R2 (T2.keep live) m
 rw[hg2]at R3g
 rw[hg1]at T3
 have vt:=T3 ms'
 obtain⟨b,vms⟩:∃ b,A2.tmps.getD ms' undef=.map (some b):=by
  rcases hwhat with⟨h,_⟩ |⟨j',nx',ns,nd,h,_,_,_⟩
  ·rw[h]at vt;simp only[VR]at vt;obtain⟨b,_,_,_,e⟩:=vt;exact⟨b,e⟩
  ·rw[h]at vt;simp only[VR]at vt;obtain⟨b,_,_,_,e⟩:=vt;exact⟨b,e⟩
 rw[vms]at vt
 obtain⟨arr,clk,e2,⟨e3,e4,e5,e6⟩,_⟩:=Zx1 (R3g.blk t0 _ hte) hwhat vt
 refine ZgQ g1 ?_
 unfold Oper.wp
 have er:(execOp A2.eval rg).run P w2=.ok (.value (.pointer (some ⟨w2.heap.size,0,none⟩))) { w2 with heap:=w2.heap.push (.mapIter (some b) clk #[] clk) }:=by
  unfold execOp;rw[hr1]
  simp only[Act.eval]
  rw[vms]
  simp[Instr.range,run_underlying hu,Zdr e2]
 rw[er,Oper.upon_value,hr2]
 refine wpList_nil ?_
 simp only[Exit.then]
 have hbw:=R2.base_le hb
 have hblt:b<w2.heap.size:=(Xz.1 e2).1
 generalize hr:w2.heap.size=rr at *
 have hown:∀ t x,σ1[t]?=some x->¬Zo w2 β2 t x rr:=fun t x hx ho=>by
  have:=(R2.blk t x hx).owns_lt ho;omega
 have hrb:¬base rr:=fun h=>by have:=hbw rr h;omega
 have hIr:∀ o,I2 rr o=none:=fun o=>by
  cases hi:I2 rr o with
  |none=>rfl
  |some u =>
   have:=ZdN (R2.imm rr o u hi)
   omega
 generalize hw3:({ w2 with heap:=w2.heap.push (.mapIter (some b) clk #[] clk) }:World)=w3
 have w3k:∀ k,k<w2.heap.size->w3.heap[k]?=w2.heap[k]?:=fun k hk=>by
  rw[<-hw3];simp only;rw[Array.getElem?_push];rw[if_neg (by omega)]
 have R3:Rel base w0 I0 I2 β2 σ1 w3:=R2.turn hown hrb hIr (by rw[<-hw3]) (by rw[<-hw3]) (by rw[<-hw3]) (by rw[<-hw3];simp) (fun k _ hk=>w3k k hk) hbw
 have hown3:∀ t x,σ1[t]?=some x->¬Zo w3 β2 t x rr:=fun t x hx ho=>hown t x hx (((R2.blk t x hx).owns_at (Bmap.le.refl β2) (fun b' hb'=>w3k b' ((R2.blk t x hx).owns_lt hb')) rr).1 ho)
 refine wp_block (wp_loop_rounds (es.length+1) ?_)
 have hlen:arr.size=es.length:=by
  have:=Zae e3
  simpa using this.symm
 have hlv:∀ n∈live,n≠it2/\n≠nx1/\n≠ok1/\n≠en':=by
  intro n hn
  rw[<-hlive]at hn
  simp only[ZxJ,Xs,WB,Xj,WC,Xai,decide_eq_false_iff_not,XI,List.not_mem_nil,or_false,not_or]at hn
  rcases hn with(⟨_,_,hn⟩ |rfl) |⟨_,_,hn⟩
  ·exact⟨hn.1,hn.2.1,hn.2.2.1,hn.2.2.2⟩
  ·exact⟨WV d5,WV d6,WV d7,WV d8⟩
  ·exact⟨hn.1,hn.2.1,hn.2.2.1,hn.2.2.2⟩
 refine ZCj (an:=an) (an3:={ an with keep:=it2::ms'::an.keep }) (base:=base) (w0:=w0) (I0:=I0) (m:=m) (live:=live) (ms:=ms') (it:=it2) (nx:=nx1) (ok:=ok1) (en:=en') (dr:=dr) hkp hm hb
  (fun dr' base' w0' I0' m' hk' hb' I β tm tm' σ σ' a w e hs he Q hQ=>IH body (by simp;omega) { an with keep:=it2::ms'::an.keep } dr' base' w0' I0' m' hk' hb' hc2 hs he hQ)
  h3 h4 hn1 hn2 g2 hx1 hx2 g3 he1 he2 g4 hent rfl rfl d1 d2 d3 d4 d5 d6 d7 d8 d9 d10 d11 d12 hlv q1 q2 q3 q4
  (r:=rr) (b:=b) (arr:=arr) (clk:=clk) (es:=es) (tm2:=tm1) (σ2:=σ1) (out:=out) (I:=I2) (β:=β2) e6 hlen (by omega) hrb (fun hk=>by rw[<-vms];exact(kd.2 ms' hk).symm) hall ?_ (es.length+1) [] tm1 σ1 _ w3 (by simp) (by simp) (by simp) rfl ?_ ?_ ?_
 ·
  intro tm σx a wx I' β' hend i1 i2 jT jd jR
  simp only[Exit.inBlock,if_true]
  obtain⟨β4,o1,o2,o3⟩:=ZmZ jR jT m
  exact hQ _ _ a wx ⟨I',β4,(j1.trans k1).trans i1,((j2.trans (KeptE.of_le k2)).trans i2).trans o1,o3,jd,o2⟩ hend
 ·rw[<-hw3,<-hr];simp
 ·rw[w3k b (by omega)];exact e2
 ·refine⟨I2,β2,Imm.le.refl _,KeptE.refl _ _,?_,⟨⟨by rw[ZxH];exact kd.1,fun k hk=>?_⟩,by rw[Zd6];omega⟩,R3,hIr,hown3⟩
  ·refine Zke (T2.keep live) ?_
   rw[Zng,if_neg]
   exact fun h=>(hlv it2 h).1 rfl
  ·have hk':k=it2\/k=ms'\/k∈dr.K:=by simpa[Zb8]using hk
   by_cases hki:k=it2
   ·subst hki
    rw[pgs (Nat.lt_of_lt_of_le d1 ks)];simp[Zb8]
   ·rw[pgn (WV hki)]
    by_cases hkm:k=ms'
    ·subst hkm
     rw[vms];simp[Zb8,WV d5]
    ·rcases hk' with h |h |h
     ·exact absurd h hki
     ·exact absurd h hkm
     ·rw[kd.2 k h];simp[Zb8,hki,hkm]
theorem Zya(hO:Zar P O)(hm:P.follows .mixedOrders=true)(n:Nat):∀ (k:Nat) (c:Code),XaP c<=k->Zru P O bf n c
 |0,c,hk=>by cases c<;>simp at hk
 |k+1,c,hk=>by
  have IH:∀ c',XaP c'<XaP c->Zru P O bf n c':=fun c' h=>Zya hO hm n k c' (by omega)
  intro an dr base w0 I0 m hkp hb
  cases c with
  |skip =>
   intro ac hc I β tm tm' σ σ' a w e hst h Q hQ
   simp only[Zax]at hc;subst hc
   simp only[ZS,Xa,Xc]at h
   obtain⟨rfl,rfl,rfl⟩:=h
   exact wp_skip (hQ a w hst)
  |region id ops draw =>
   intro ac hc I β tm tm' σ σ' a w e hst h Q hQ
   obtain⟨asl,chk,live,rfl⟩:∃ asl chk live,ac=.region asl chk live:=by
    simp only[Zax]at hc
    split at hc
    ·split at hc
     ·split at hc
      ·exact⟨_,_,_,hc.symm⟩
      ·subst hc;simp only[ZS]at h;cases h
     ·exact⟨_,_,_,hc.symm⟩
    ·subst hc;simp only[ZS]at h;cases h
   simp only[ZS]at h
   obtain⟨I1,β1,g1,g2,g3,g4,g5⟩:=hst
   have up:∀ {tm:Tms} {σ:Za} {a':Act} {w':World},StR dr an.nt base w0 I0 I1 β1 tm σ a' w'->StF dr m an.nt base w0 I0 I β tm σ a' w':=by
    rintro tm σ a' w' ⟨I2,β2,k1,k2,k3⟩
    exact⟨I2,β2,g1.trans k1,g2.trans (KeptE.of_le k2),k3⟩
   refine Zmr hO hkp hm hb hc (⟨I1,β1,Imm.le.refl I1,Bmap.le.refl β1,g3,g4,g5⟩:StR dr an.nt base w0 I0 I1 β1 tm σ a w) h ?_
   cases e with
   |normal=>exact fun a' w' hs=>hQ a' w' (up hs)
   |exit id=>exact fun a' w' hs=>hQ a' w' (up hs)
   |ret=>exact fun a' w' hs=>hQ a' w' (up hs)
   |panic x =>
    rintro a' u w' hd ⟨I2,β2,k1,k2,k3,k4⟩
    exact hQ a' u w' hd ⟨I2,β2,g1.trans k1,g2.trans (KeptE.of_le k2),k3,k4⟩
  |seq x y =>
   intro ac hc I β tm tm' σ σ' a w e hst h Q hQ
   have ihx:=IH x (by simp;omega) an dr base w0 I0 m hkp hb
   have ihy:=IH y (by simp;omega) an dr base w0 I0 m hkp hb
   simp only[Zax]at hc
   unfold Zl9 at hc
   split at hc
   ·rename_i r hr
    subst hc
    obtain⟨pre,live,ms,en,b1,bg,ent,c2,rfl⟩:=Zyc hr
    exact Zzu hO hm n hkp hb (fun c' h'=>IH c' h') hr hst h (fun tmE σE aE wE hsE hfE=>by
     simp only[ZS,Xa,Xc]at hfE
     obtain⟨rfl,rfl,rfl⟩:=hfE
     exact hQ aE wE hsE)
   rename_i hnone
   split at hc
   ·rename_i i1 o1 dd1 bid1 cc1 pre live ms en b1 bg ent c2 hca
    subst hc
    refine wp_seq ?_
    have hca':=hca
    simp only[Zax]at hca'
    unfold Zl9 at hca'
    split at hca'
    ·rename_i r hr
     subst hca'
     exact Zzu hO hm n hkp hb (fun c' h'=>IH c' (Nat.lt_trans h' (by simp;omega))) hr hst h (fun tmE σE aE wE hsE hfE=>ihy rfl hsE hfE hQ)
    ·split at hca'
     ·rename_i heq _;cases heq
     ·cases hca'
   subst hc
   simp only[ZS]at h
   refine wp_seq ?_
   split at h
   ·rename_i tm1 σ1 h1
    exact ihx rfl hst h1 (fun a' w' hs=>ihy rfl hs h hQ)
   ·rename_i hne
    refine ihx rfl hst h ?_
    cases e with
    |normal=>exact absurd h (hne _ _)
    |exit id=>exact hQ
    |ret=>exact hQ
    |panic x=>exact hQ
  |cond c x y =>
   intro ac hc I β tm tm' σ σ' a w e hst h Q hQ
   have ihx:=IH x (by simp;omega) an dr base w0 I0 m hkp hb
   have ihy:=IH y (by simp;omega) an dr base w0 I0 m hkp hb
   simp only[Zax]at hc
   split at hc
   ·rename_i c' hcc
    subst hc
    simp only[ZS]at h
    split at h
    ·rename_i hv
     exact wp_cond_true (hst.cond hcc hv) (ihx rfl hst h hQ)
    ·rename_i hv
     exact wp_cond_false (hst.cond hcc hv) (ihy rfl hst h hQ)
    ·cases h
   ·subst hc;simp only[ZS]at h;cases h
  |block id x =>
   intro ac hc I β tm tm' σ σ' a w e hst h Q hQ
   have ih:=IH x (by first |(simp;omega) |simp) an dr base w0 I0 m hkp hb
   simp only[Zax]at hc
   subst hc
   have hx:Zax P an x=Zax P an x:=rfl
   simp only[ZS]at h
   refine wp_block ?_
   split at h
   ·rename_i i tm1 σ1 h1
    refine ih hx hst h1 ?_
    intro a' w' hs
    simp only[Exit.inBlock]
    split at h
    ·rename_i hid
     simp only[Xa,Xc]at h
     obtain⟨rfl,rfl,rfl⟩:=h
     rw[if_pos hid]
     exact hQ a' w' hs
    ·rename_i hid
     simp only[Xa,Xc]at h
     obtain⟨rfl,rfl,rfl⟩:=h
     rw[if_neg hid]
     exact hQ a' w' hs
   ·rename_i hne
    refine ih hx hst h ?_
    cases e with
    |normal=>exact hQ
    |exit id=>exact absurd h (hne _ _ _)
    |ret=>exact hQ
    |panic x=>exact hQ
  |loop x =>
   intro ac hc I β tm tm' σ σ' a w e hst h Q hQ
   have ih:=IH x (by first |(simp;omega) |simp) an dr base w0 I0 m hkp hb (rfl:Zax P an x=Zax P an x)
   simp only[Zax]at hc
   subst hc
   have hx:Zax P an x=Zax P an x:=rfl
   simp only[ZS]at h
   refine wp_loop_rounds n ?_
   have key:∀ k {tm:Tms} {σ:Za} {a:Act} {w:World},StF dr m an.nt base w0 I0 I β tm σ a w->ZdM m (an.ll (Zfv x)) (ZS O bf m n (Zax P an x)) k tm σ=some (e,tm',σ')->Code.rounds P x Q k a w:=by
    intro k
    induction k with
    |zero=>intro tm σ a w _ h;simp only[ZdM]at h;cases h
    |succ k ihk =>
     intro tm σ a w hst h
     rw[rounds_succ]
     simp only[ZdM]at h
     obtain⟨I1,β1,k1,k2,k3,k4,k5⟩:=hst
     obtain⟨β2,q1,q2,q3⟩:=ZmZ k5 (k3.keep (an.ll (Zfv x))) m
     have hst0:StF dr m an.nt base w0 I0 I β (gcT m (keepL (an.ll (Zfv x)) tm) σ).1 (gcT m (keepL (an.ll (Zfv x)) tm) σ).2 a w:=⟨I1,β2,k1,k2.trans q1,q3,k4,q2⟩
     split at h
     ·rename_i tm1 σ1 h1
      exact ih hst0 h1 (fun a' w' hs=>ihk hs h)
     ·rename_i hne
      refine ih hst0 h ?_
      cases e with
      |normal=>exact absurd h (hne _ _)
      |exit id=>exact hQ
      |ret=>exact hQ
      |panic x=>exact hQ
   exact key n hst h
  |exit id =>
   intro ac hc I β tm tm' σ σ' a w e hst h Q hQ
   simp only[Zax]at hc;subst hc
   simp only[ZS,Xa,Xc]at h
   obtain⟨rfl,rfl,rfl⟩:=h
   exact wp_exit (hQ a w hst)
  |ret =>
   intro ac hc I β tm tm' σ σ' a w e hst h Q hQ
   simp only[Zax]at hc;subst hc
   simp only[ZS,Xa,Xc]at h
   obtain⟨rfl,rfl,rfl⟩:=h
   exact wp_ret (hQ a w hst)
  |rangeFunc f ps x y=>intro ac hc I β tm tm' σ σ' a w e hst h;simp only[Zax]at hc;subst hc;simp only[ZS]at h;cases h
  |scope x =>
   intro ac hc I β tm tm' σ σ' a w e hst h Q hQ
   have ih:=IH x (by first |(simp;omega) |simp) an dr base w0 I0 m hkp hb
   simp only[Zax]at hc
   refine wp_scope_straight (ih hc hst h ?_)
   cases e with
   |normal=>exact hQ
   |exit id=>exact hQ
   |ret=>exact hQ
   |panic x=>exact hQ
  |label l =>
   intro ac hc I β tm tm' σ σ' a w e hst h Q hQ
   simp only[Zax]at hc;subst hc
   simp only[ZS,Xa,Xc]at h
   obtain⟨rfl,rfl,rfl⟩:=h
   exact wp_label (hQ a w hst)
  |goto l=>intro ac hc I β tm tm' σ σ' a w e hst h;simp only[Zax]at hc;subst hc;simp only[ZS]at h;cases h
  |refuse why=>intro ac hc I β tm tm' σ σ' a w e hst h;simp only[Zax]at hc;subst hc;simp only[ZS]at h;cases h
theorem ZGm(hO:Zar P O)(hkp:∀ n∈dr.K,n∈an.keep)(hm:P.follows .mixedOrders=true)(hb:KLt base w0)(m n:Nat){c:Code}{ac:Ze}(hc:Zax P an c=ac){I:Imm}{β:Bmap}{tm tm':Tms}{σ σ':Za}{a:Act}{w:World}{e:ZY}(hst:StF dr m an.nt base w0 I0 I β tm σ a w)(h:ZS O bf m n ac tm σ=some (e,tm',σ'))
  {Q:Exit->Act->World->Prop} (hQ:Zr4 dr m an base w0 I0 I β e tm' σ' Q):c.wp P Q a w :=
 Zya hO hm n (XaP c) c (XD _) an dr base w0 I0 m hkp hb hc hst h hQ
theorem ZAK{I:Imm}{β:Bmap}{σ σ':Za}{k:Option Nat}{a x:AVal}{c:Cls}{v:Value}(ha:VR I β a v)(h:ldA σ k a=some (x,σ',c)):∃ ad,v=.pointer (some ad):=by
 unfold ldA at h
 split at h
 ·simp only[VR]at ha;obtain⟨b,k,c,_,rfl⟩:=ha;exact⟨_,rfl⟩
 ·simp only[VR]at ha;obtain⟨b,k,c,_,rfl⟩:=ha;exact⟨_,rfl⟩
 ·simp only[VR]at ha;obtain⟨b,off,rfl,_⟩:=ha;exact⟨_,rfl⟩
 ·simp only[VR]at ha;obtain⟨b,k,c,_,rfl⟩:=ha;exact⟨_,rfl⟩
 ·cases h
def ZjA(tmps:Array Value):ResultVar->Sem Value
 | .tmp t=>pure (tmps.getD t undef)
 | .cell a t=>do loadVar t (<-asAddr (tmps.getD a undef))
theorem ZsK{I:Imm}{β:Bmap}{tm:Tms}{σ:Za}{w:World}{tmps:Array Value}(T:TR I β tm tmps)(R:Rel base w0 I0 I β σ w):∀ {rs:List ResultVar} {asl:List Zg4} {xs:List AVal},Zf0 P rs=some asl->resAll tm σ asl=some xs ->
  ∃ vs:List Value,(rs.mapM (ZjA tmps)).run P w=.ok vs w/\VRs I β xs vs
 | [],asl,xs,hc,h=>by
  simp only[Zf0,Xa]at hc;subst hc
  simp only[resAll,Xa]at h;subst h
  exact⟨[],by simp,by simp only[VRs]⟩
 |r::rs,asl,xs,hc,h=>by
  have getD_eq:∀ t,VR I β (tget tm t) (tmps.getD t undef):=T
  cases r with
  |tmp t =>
   simp only[Zf0,Xq]at hc
   obtain⟨as',has,rfl⟩:=hc
   simp only[resAll,resOne]at h
   split at h
   ·rename_i ys hys
    injection h with h;subst h
    obtain⟨vs,h1,h2⟩:=ZsK T R has hys
    exact⟨tmps.getD t undef::vs,by simp only[Xbe,ZjA,Sem.run_bind,Sem.run_pure,Result.andThen_ok,h1],by simp only[VRs];exact⟨_,_,rfl,getD_eq t,h2⟩⟩
   ·cases h
  |cell a t =>
   simp only[Zf0]at hc
   split at hc
   ·rename_i k as' hk has
    injection hc with hc;subst hc
    simp only[resAll,resOne]at h
    split at h
    ·rename_i v hv
     split at h
     ·rename_i ys hys
      injection h with h;subst h
      obtain⟨vs,h1,h2⟩:=ZsK T R has hys
      split at hv
      ·rename_i v' σ1 c1 hld
       injection hv with hv;subst hv
       obtain⟨u,hu1,hu2,_⟩:=Zxm hk R (getD_eq a) hld
       obtain⟨ad,had⟩:=ZAK (getD_eq a) hld
       have hlv:(loadVar t ad).run P w=.ok u w:=by
        rw[had]at hu1
        simpa[Instr.loadAt,Instr.sureAddr]using hu1
       refine⟨u::vs,?_,by simp only[VRs];exact⟨_,_,rfl,hu2,h2⟩⟩
       simp only[Xbe,ZjA,had,asAddr,Sem.run_bind,Sem.run_pure,Result.andThen_ok,hlv,h1]
      ·cases hv
     ·cases h
    ·cases h
   ·cases hc
theorem ZQX{I:Imm}{β:Bmap}{tm:Tms}{σ:Za}{w:World}{tmps:Array Value}(T:TR I β tm tmps)(R:Rel base w0 I0 I β σ w){fn:Func}{asl:List Zg4}{x:AVal}(hc:Zf0 P fn.results.toList=some asl)(h:resA tm σ asl=some x):∃ v,(results fn tmps).run P w=.ok v w/\VR I β x v:=by
 unfold resA at h
 have run:∀ {xs:List AVal},resAll tm σ asl=some xs->∃ vs:List Value,(results fn tmps).run P w=.ok (if h:vs.toArray.size=1 then vs.toArray[0]else .tuple vs.toArray) w/\VRs I β xs vs:=by
  intro xs hx
  obtain⟨vs,h1,h2⟩:=ZsK T R hc hx
  refine⟨vs,?_,h2⟩
  have hm:(fn.results.mapM (ZjA tmps)).run P w=.ok vs.toArray w:=by
   rw[Array.mapM_eq_mapM_toList,Sem.run_map,h1];rfl
  have he:results fn tmps=(do let vs <-fn.results.mapM (ZjA tmps);pure (if h:vs.size=1 then vs[0]else .tuple vs)):=by
   unfold results
   congr 1
  rw[he,Sem.run_bind,hm]
  rfl
 split at h
 ·rename_i v hv
  injection h with h;subst h
  obtain⟨vs,h1,h2⟩:=run hv
  simp only[VRs]at h2
  obtain⟨u,us,rfl,h3,rfl⟩:=h2
  exact⟨u,by rw[h1];simp,h3⟩
 ·rename_i vs' hv hne
  injection h with h;subst h
  obtain⟨vs,h1,h2⟩:=run hne
  have hl:=Zae h2
  refine⟨.tuple vs.toArray,?_,by simp only[VR];exact⟨_,rfl,by simpa using h2⟩⟩
  rw[h1,dif_neg]
  intro hs
  simp only[List.size_toArray]at hs
  match vs',hl with
  | [v],_=>exact hv v rfl
  | [],hl=>simp at hl;omega
  |_::_::_,hl=>simp at hl;omega
 ·cases h
theorem ZuS:∀ (args:List AVal) (i:Nat) (acc:Tms) (n:Nat),tget (enterA i args acc) n=if i<=n/\n<i+args.length then args.getD (n-i) .top else tget acc n
 | [],i,acc,n=>by simp only[enterA,Xu];rw[if_neg (by omega)]
 |x::xs,i,acc,n=>by
  simp only[enterA,List.length_cons]
  rw[ZuS xs (i+1) _ n]
  by_cases h:i+1<=n/\n<i+1+xs.length
  ·rw[if_pos h,if_pos (by omega),show n-i=(n-(i+1))+1 by omega,List.getD_cons_succ]
  ·rw[if_neg h]
   simp only[tget]
   by_cases h1:i=n
   ·subst h1
    rw[if_pos rfl,if_pos (by omega),Nat.sub_self,X1]
   ·rw[if_neg h1,if_neg (by omega)]
theorem Zvc{I:Imm}{β:Bmap}{args:List AVal}{vs:Array Value}(h:VRs I β args vs.toList)(n:Nat):TR I β (enterA 0 args []) (vs++XaN n undef):=by
 intro j
 rw[ZuS]
 have hl:=Zae h
 simp only[XQ]at hl
 split
 ·rename_i hj
  have hjl:j<args.length:=by omega
  obtain⟨v,h1,h2⟩:=Zcc h (XB hjl)
  have e1:args.getD (j-0) .top=args[j]:=by simp[Xi,hjl]
  have e2:(vs++XaN n undef).getD j undef=v:=by
   rw[WL,Array.getElem?_append_left (by omega)]
   have : vs[j]?=some v:=by simpa using h1
   rw[this];rfl
  rw[e1,e2];exact h2
 ·simp only[tget,VR]
def ZsH(P:Program)(prim:Zea):Prop:=∀ f g,prim f=some g->∀ args σ r σ',g args σ=some (r,σ') ->
 (∃ fn,P.funcs[f]?=some fn/\fn.body.isSome=true/\(fn.name == "runtime.NumGoroutine")=false) /\
 ∀ base w0 I0 I β w (vs:Array Value),KLt base w0->Rel base w0 I0 I β σ w->VRs I β args vs.toList ->
  Calls P f vs w (fun e w'=>∃ u,Ends r e u/\ZcY σ.length base w0 I0 I β r σ' u w')
theorem Zzc(hm:P.follows .mixedOrders=true){prim:Zea}(hP:ZsH P prim)(ann:Nat->Ann)(bf:Nat->Bool):∀ n,Zar P (ZaK (Zjn P ann) prim bf n)
 |0=>by intro f args σ r σ' h;simp only[ZaK]at h;cases h
 |n+1=>by
  have ih:=Zzc hm hP ann bf n
  intro f args σ r σ' h
  simp only[ZaK]at h
  split at h
  ·rename_i g hg
   exact hP f g hg args σ r σ' h
  split at h
  ·cases h
  rename_i fn hfn
  unfold Zjn at hfn
  split at hfn
  ·rename_i F hF
   split at hfn
   ·rename_i body hbody
    split at hfn
    ·cases hfn
    ·rename_i hname
     split at hfn
     ·rename_i rs hrs
      injection hfn with hfn;subst hfn
      refine⟨⟨F,hF,by rw[hbody];rfl,by simpa using hname⟩,?_⟩
      intro base w0 I0 I β w vs hb R hargs
      refine calls_of_wp hF hbody ?_
      have T:=Zvc hargs (F.ntmps-vs.size)
      have hst:StF ZcP σ.length F.ntmps base w0 I0 I β (enterA 0 args []) σ { tmps:=vs++XaN (F.ntmps-vs.size) undef,defers:=[] } w:=⟨I,β,Imm.le.refl I,KeptE.refl _ β,T,⟨ZjS.2 rfl,by simp;omega⟩,R⟩
      cases hx:ZS (ZaK (Zjn P ann) prim bf n) bf σ.length n (Zax P { ann f with nt:=F.ntmps } body) (enterA 0 args []) σ with
      |none=>rw[hx]at h;simp only[Zac]at h;cases h
      |some q =>
       obtain⟨e,tm',σ1⟩:=q
       rw[hx]at h
       have fin:(match resA tm' σ1 rs with |some r=>outA σ.length σ1 r |none=>none)=some (r,σ')->∀ a' w',StF ZcP σ.length F.ntmps base w0 I0 I β tm' σ1 a' w'->a'.defers=[]/\∃ v,(results F a'.tmps).run P w'=.ok v w'/\∃ u,Ends r (.returned v) u/\ZcY σ.length base w0 I0 I β r σ' u w':=by
        intro hr a' w' ⟨I1,β1,g1,g2,g3,g4,g5⟩
        split at hr
        ·rename_i x hx1
         obtain⟨v,h1,h2⟩:=ZQX g3 g5 hrs hx1
         have hnp:∀ y,x≠.pan y:=by rintro y rfl;simp only[VR]at h2
         obtain⟨q1,q2⟩:=Zpa (⟨I1,β1,g1,g2,g5,by rw[Zf7 hnp];exact h2⟩:ZcY σ.length base w0 I0 I β x σ1 v w') hr
         refine⟨ZjS.1 g4.1,v,h1,v,q2 _ ?_,q1⟩
         cases x<;>first |rfl |exact absurd rfl (hnp _)
        ·cases hr
       refine ZGm (dr:=ZcP) (an:={ ann f with nt:=F.ntmps }) ih (fun n hn=>by simp[ZcP]at hn) hm hb σ.length n rfl hst hx ?_
       cases e with
       |normal=>simp only[Zac]at h;exact fun a' w' hs=>fin h a' w' hs
       |ret=>simp only[Zac]at h;exact fun a' w' hs=>fin h a' w' hs
       |exit id=>simp only[Zac]at h;cases h
       |panic x =>
        simp only[Zac]at h
        intro a' u w' hd hp
        obtain⟨q1,q2⟩:=Zpa hp h
        exact⟨ZjS.1 hd,u,q2 _ rfl,q1⟩
     ·cases hfn
   ·cases hfn
  ·cases hfn
end
end
section
open Go.RowKit
def OLe(O O':ZJ):Prop:=∀ f a σ r,O f a σ=some r->O' f a σ=some r
section
variable {O O':ZJ}{bf:Nat->Bool}
theorem ZEA{view:Bool}{m:Nat}{x y:Option (AVal×Za)}(h:∀ r,x=some r->y=some r){r:AVal×Za}(hr:ZO view m x=some r):ZO view m y=some r:=by
 cases x with
 |none=>cases view<;>simp[ZO,ZaI]at hr
 |some q=>rw[h q rfl];exact hr
theorem ZRN{σ σf:Za}{ids ts:List Nat}{sq own:Nat}{x y:Option (AVal×Za)}(h:∀ r,x=some r->y=some r){r:AVal×Za×Cls}(hr:Z8 σ σf ids ts sq own x=some r):Z8 σ σf ids ts sq own y=some r:=by
 cases x with
 |none=>simp only[Z8]at hr;cases hr
 |some q=>rw[h q rfl];exact hr
theorem ZzO(hO:OLe O O'){σ:Za}{sq f own:Nat}{view:Bool}{args:List AVal}{r:AVal×Za×Cls}(h:Zl O bf σ sq f own view args=some r):Zl O' bf σ sq f own view args=some r:=by
 unfold Zl Zbl at h⊢
 split at h
 ·cases h
 ·rename_i vs ts hv
  split at h
  ·rename_i hc
   simp only[hc,if_true]
   exact ZRN (fun q hq=>ZEA (fun q hq=>hO _ _ _ _ hq) hq) h
  ·cases h
theorem ZDW(hO:OLe O O'){tm:Tms}{σ:Za}{sq:Nat}{ins:Ins}{r:AVal×Za×Cls}(h:execI O bf tm σ sq ins=some r):execI O' bf tm σ sq ins=some r:=by
 cases ins
 case call f own view args =>
  simp only[execI]at h⊢
  exact ZzO hO h
 case callv x args =>
  simp only[execI]at h⊢
  split at h
  ·exact ZzO hO h
  ·cases h
 all_goals exact h
theorem ZsA(hO:OLe O O'){o:AOp}{tm:Tms}{σ:Za}{sq:Nat}{r:AVal×Tms×Za×Cls}(h:ZC O bf o sq tm σ=some r):ZC O' bf o sq tm σ=some r:=by
 unfold ZC at h⊢
 split at h
 ·cases h
 ·exact h
 ·split at h
  ·rename_i hf
   rw[if_pos hf]
   split at h
   ·rename_i he;rw[ZDW hO he];exact h
   ·cases h
  ·cases h
theorem Zpj(hO:OLe O O'):∀ {ops:List AOp} {s:Nat} {tm:Tms} {σ:Za} {r:Tms×Za×List Cls×Option AVal},ZN O bf ops s tm σ=some r->ZN O' bf ops s tm σ=some r
 | [],_,_,_,_,h=>h
 |o::ops,s,tm,σ,r,h=>by
  simp only[ZN]at h⊢
  split at h
  ·cases h
  ·rename_i h1
   rw[ZsA hO h1]
   exact h
  ·rename_i v tm1 σ1 c hnp h1
   rw[ZsA hO h1]
   simp only
   split at h
   ·cases h
   rename_i h2
   rw[Zpj hO h2]
   exact h
theorem Zwo(hO:OLe O O'){ops:List AOp}{chk:Option (List (Nat×Nat))}{live:List Nat}{tm:Tms}{σ:Za}{r:ZY×Tms×Za}(h:Zb5 O bf ops chk live tm σ=some r):Zb5 O' bf ops chk live tm σ=some r:=by
 unfold Zb5 at h⊢
 cases hx:ZN O bf ops σ.length tm (σ++XA (sitesOf ops) .free)with
 |none=>rw[hx]at h;simp only[Zdn]at h;cases h
 |some q=>rw[Zpj hO hx];rw[hx]at h;exact h
theorem Zlr{m0:Nat}{live:List Nat}{f f':Tms->Za->Option (ZY×Tms×Za)}(hf:∀ tm σ r,f tm σ=some r->f' tm σ=some r):∀ {n n':Nat} {tm:Tms} {σ:Za} {r:ZY×Tms×Za},n<=n'->ZdM m0 live f n tm σ=some r->ZdM m0 live f' n' tm σ=some r
 |0,_,_,_,_,_,h=>by simp only[ZdM]at h;cases h
 |n+1,0,_,_,_,hn,_=>by omega
 |n+1,n'+1,tm,σ,r,hn,h=>by
  simp only[ZdM]at h⊢
  split at h
  ·rename_i h1
   rw[hf _ _ _ h1]
   exact Zlr hf (by omega) h
  ·rename_i hne
   rw[hf _ _ _ h]
   split
   ·rename_i e;injection e with e;subst e;exact absurd h (hne _ _)
   ·rfl
def RLe(run run':Nat->Tms->Za->Option (ZY×Tms×Za)):Prop:=∀ m tm σ r,run m tm σ=some r->run' m tm σ=some r
section
variable {m:Nat}{live:List Nat}{ms en b1:Nat}{bg:Bool}{ent:List AOp}{run run' fin fin':Nat->Tms->Za->Option (ZY×Tms×Za)}
theorem Zu1(h:RLe run run'){t:Nat}{B:Zx}{kv:AVal×AVal}{tm:Tms}{σ:Za}{r:Tms×Za}(hr:ZeV bf ms en b1 bg ent run t B kv tm σ=some r):ZeV bf ms en b1 bg ent run' t B kv tm σ=some r:=by
 unfold ZeV at hr ⊢
 split at hr
 ·rename_i tm1 σ1 h1
  cases hx:run σ.length tm1 σ1 with
  |none=>rw[hx]at hr;cases hr
  |some q=>rw[hx]at hr;simp only[h _ _ _ _ hx];exact hr
 ·cases hr
theorem ZyT(h:RLe run run'){es:List (AVal×AVal)}:∀ {l:List (AVal×AVal)} {tm:Tms} {σ:Za} {r:Tms×Za},ZcA bf m live ms en b1 bg ent run es l tm σ=some r->ZcA bf m live ms en b1 bg ent run' es l tm σ=some r
 | [],tm,σ,r,hr=>hr
 |kv::l,tm,σ,r,hr=>by
  simp only[ZcA]at hr ⊢
  split at hr
  ·rename_i t B es' tm0 σ0 hh
   split at hr
   ·rename_i he
    simp only[he,if_true]
    split at hr
    ·rename_i tm' σ' h1
     rw[Zu1 h h1]
     exact ZyT h hr
    ·cases hr
   ·cases hr
  ·cases hr
theorem ZKl(h:RLe run run')(hf:RLe fin fin'){es l:List (AVal×AVal)}{tm:Tms}{σ:Za}{r:ZY×Tms×Za}(hr:Zdf bf m live ms en b1 bg ent run fin es l tm σ=some r):Zdf bf m live ms en b1 bg ent run' fin' es l tm σ=some r:=by
 unfold Zdf at hr ⊢
 split at hr
 ·rename_i tm' σ' h1
  rw[ZyT h h1]
  exact hf _ _ _ _ hr
 ·cases hr
theorem ZGS{es:List (AVal×AVal)}{tm:Tms}{σ:Za}{r:ZY×Tms×Za}:Zhh bf m live ms en b1 bg ent run fin es tm σ=some r↔∀ es':List (AVal×AVal),es'.Perm es->Zdf bf m live ms en b1 bg ent run fin es es' tm σ=some r:=by
 unfold Zhh
 constructor
 ·intro h
  split at h
  ·rename_i hx
   injection h with h
   rw[<-h]
   exact hx.choose_spec
  ·cases h
 ·intro h
  have hx:∃ out,∀ es':List (AVal×AVal),es'.Perm es->Zdf bf m live ms en b1 bg ent run fin es es' tm σ=some out:=⟨r,h⟩
  rw[dif_pos hx]
  have h1:=hx.choose_spec es (Xbs _)
  rw[h es (Xbs _)]at h1
  injection h1 with h1
  rw[<-h1]
theorem ZE7(h:RLe run run')(hf:RLe fin fin'){tm:Tms}{σ:Za}{r:ZY×Tms×Za}(hr:Zfm bf m live ms en b1 bg ent run fin tm σ=some r):Zfm bf m live ms en b1 bg ent run' fin' tm σ=some r:=by
 unfold Zfm at hr ⊢
 split at hr
 ·cases hr
 ·exact hf _ _ _ _ hr
 ·split at hr
  ·rename_i h1
   rw[Zu1 h h1]
   exact hf _ _ _ _ hr
  ·cases hr
 ·rw[ZGS]at hr ⊢
  exact fun es' hp=>ZKl h hf (hr es' hp)
end
theorem ZeI(hO:OLe O O'):∀ {m0:Nat} {c:Ze} {n n':Nat} {tm:Tms} {σ:Za} {r:ZY×Tms×Za},n<=n'->ZS O bf m0 n c tm σ=some r->ZS O' bf m0 n' c tm σ=some r:=by
 intro m0 c
 induction c generalizing m0 with
 |skip=>intro n n' tm σ r _ h;exact h
 |exit id=>intro n n' tm σ r _ h;exact h
 |ret=>intro n n' tm σ r _ h;exact h
 |stuck=>intro n n' tm σ r _ h;exact h
 |region ops chk live =>
  intro n n' tm σ r _ h
  simp only[ZS]at h⊢
  exact Zwo hO h
 |seq a b iha ihb =>
  intro n n' tm σ r hn h
  simp only[ZS]at h⊢
  split at h
  ·rename_i h1;rw[iha hn h1];exact ihb hn h
  ·rename_i hne
   rw[iha hn h]
   split
   ·rename_i e;injection e with e;subst e;exact absurd h (hne _ _)
   ·rfl
 |cond c a b iha ihb =>
  intro n n' tm σ r hn h
  simp only[ZS]at h⊢
  split at h
  ·exact iha hn h
  ·exact ihb hn h
  ·cases h
 |block id c ih =>
  intro n n' tm σ r hn h
  simp only[ZS]at h⊢
  split at h
  ·rename_i h1;rw[ih hn h1];exact h
  ·rename_i hne
   rw[ih hn h]
   split
   ·rename_i e;injection e with e;subst e;exact absurd h (hne _ _ _)
   ·rfl
 |loop live c ih =>
  intro n n' tm σ r hn h
  simp only[ZS]at h⊢
  exact Zlr (fun tm σ r h=>ih hn h) hn h
 |range pre live ms en b1 bg ent body rest ihb ihr =>
  intro n n' tm σ r hn h
  simp only[ZS]at h⊢
  split at h
  ·exact ZE7 (fun m tm σ r h=>ihb hn h) (fun m tm σ r h=>ihr hn h) h
  ·cases h
theorem Zsm{m0:Nat}{fn:Zz}{x y:Option (ZY×Tms×Za)}(h:∀ r,x=some r->y=some r){r:AVal×Za}(hr:Zac m0 fn x=some r):Zac m0 fn y=some r:=by
 cases x with
 |none=>simp only[Zac]at hr;cases hr
 |some q=>rw[h q rfl];exact hr
theorem ZtY(fs:Nat->Option Zz)(prim:Zea):∀ n,OLe (ZaK fs prim bf n) (ZaK fs prim bf (n+1))
 |0=>by intro f a σ r h;simp only[ZaK]at h;cases h
 |n+1=>by
  intro f a σ r h
  rw[ZaK]at h⊢
  split at h
  ·rename_i g hg;exact h
  ·rename_i hg
   split at h
   ·cases h
   ·rename_i fn hfn
    exact Zsm (fun q hq=>ZeI (ZtY fs prim n) (by omega) hq) h
theorem ZiV (fs : Nat -> Option Zz) (prim : Zea) {n m : Nat} (h : n <= m) : OLe (ZaK fs prim bf n) (ZaK fs prim bf m) := by
  induction m with
  | zero => obtain rfl : n = 0 := by omega
            exact fun _ _ _ _ h => h
  | succ m ih =>
    by_cases e : n = m + 1
    . subst e; exact fun _ _ _ _ h => h
    . exact fun f a σ r hr => ZtY fs prim m f a σ r (ih (by omega) f a σ r hr)
end
section
variable (fs:Nat->Option Zz)(prim:Zea)(bf:Nat->Bool)
open Classical in
noncomputable def EV:ZJ:=fun f args σ=>if h:∃ r,∃ n,ZaK fs prim bf n f args σ=some r then some h.choose else none
open Classical in
noncomputable def evC(m:Nat)(c:Ze)(tm:Tms)(σ:Za):Option (ZY×Tms×Za):=if h:∃ r,∃ n,ZS (ZaK fs prim bf n) bf m n c tm σ=some r then some h.choose else none
variable {fs prim bf}{m0:Nat}
theorem Zei{f:Nat}{args:List AVal}{σ:Za}{r:AVal×Za}:EV fs prim bf f args σ=some r↔∃ n,ZaK fs prim bf n f args σ=some r:=by
 unfold EV
 constructor
 ·intro h
  split at h
  ·rename_i hx
   injection h with h
   rw[<-h]
   exact hx.choose_spec
  ·cases h
 ·rintro⟨n,hn⟩
  have hx:∃ r,∃ n,ZaK fs prim bf n f args σ=some r:=⟨r,n,hn⟩
  rw[dif_pos hx]
  obtain⟨m,hm⟩:=hx.choose_spec
  have h1:=ZiV (bf:=bf) fs prim (Xae n m) _ _ _ _ hn
  have h2:=ZiV (bf:=bf) fs prim (W8 n m) _ _ _ _ hm
  rw[h1]at h2
  injection h2 with h2
  rw[<-h2]
theorem Zbu{c:Ze}{tm:Tms}{σ:Za}{r:ZY×Tms×Za}:evC fs prim bf m0 c tm σ=some r↔∃ n,ZS (ZaK fs prim bf n) bf m0 n c tm σ=some r:=by
 unfold evC
 constructor
 ·intro h
  split at h
  ·rename_i hx
   injection h with h
   rw[<-h]
   exact hx.choose_spec
  ·cases h
 ·rintro⟨n,hn⟩
  have hx:∃ r,∃ n,ZS (ZaK fs prim bf n) bf m0 n c tm σ=some r:=⟨r,n,hn⟩
  rw[dif_pos hx]
  obtain⟨m,hm⟩:=hx.choose_spec
  have h1:=ZeI (ZiV (bf:=bf) fs prim (Xae n m)) (Xae n m) hn
  have h2:=ZeI (ZiV (bf:=bf) fs prim (W8 n m)) (W8 n m) hm
  rw[h1]at h2
  injection h2 with h2
  rw[<-h2]
theorem Zgj{α:Type}{x y:Option α}(h:∀ r,x=some r↔y=some r):x=y:=by
 cases x with
 |none =>
  cases y with
  |none=>rfl
  |some q=>exact absurd ((h q).2 rfl) (by simp)
 |some q=>exact((h q).1 rfl).symm
theorem ZPf(n:Nat):OLe (ZaK fs prim bf n) (EV fs prim bf):=fun _ _ _ _ h=>Zei.2 ⟨n,h⟩
theorem up{n m:Nat}(h:n<=m):OLe (ZaK fs prim bf n) (ZaK fs prim bf m):=ZiV fs prim h
theorem ZRA{f:Nat}{fn:Zz}(hp:prim f=none)(hf:fs f=some fn)(args:List AVal)(σ:Za):EV fs prim bf f args σ=Zac σ.length fn (evC fs prim bf σ.length fn.body (enterA 0 args []) σ):=by
 apply Zgj
 intro r
 rw[Zei]
 constructor
 ·rintro⟨n,h⟩
  cases n with
  |zero=>simp only[ZaK]at h;cases h
  |succ n =>
   rw[ZaK,hp,hf]at h
   exact Zsm (fun q hq=>Zbu.2 ⟨n,hq⟩) h
 ·intro h
  cases hx:evC fs prim bf σ.length fn.body (enterA 0 args []) σ with
  |none=>rw[hx]at h;simp only[Zac]at h;cases h
  |some q =>
   obtain⟨n,hn⟩:=Zbu.1 hx
   refine⟨n+1,?_⟩
   rw[ZaK,hp,hf]
   rw[hx]at h
   exact Zsm (x:=some q) (fun q' hq'=>by injection hq' with hq';subst hq';exact hn) h
theorem ZtQ{σ:Za}{sq f own:Nat}{view:Bool}{args:List AVal}{r:AVal×Za×Cls}(h:Zl (EV fs prim bf) bf σ sq f own view args=some r):∃ n,Zl (ZaK fs prim bf n) bf σ sq f own view args=some r:=by
 unfold Zl Zbl at h⊢
 split at h
 ·cases h
 ·rename_i vs ts hv
  split at h
  ·rename_i hc
   simp only[hc,if_true]
   cases hx:EV fs prim bf f (renL (rhoOf (Zj σ ts) 0 (reach (Zj σ ts) 1000 (refsL vs) [])) vs) (heapOf (Zj σ ts) 0 (reach (Zj σ ts) 1000 (refsL vs) []) (rhoOf (Zj σ ts) 0 (reach (Zj σ ts) 1000 (refsL vs) [])) (reach (Zj σ ts) 1000 (refsL vs) []) 0)with
   |none =>
    rw[hx]at h
    cases view<;>simp[ZO,ZaI,Z8]at h
   |some q =>
    obtain⟨n,hn⟩:=Zei.1 hx
    exact⟨n,by rw[hn];rw[hx]at h;exact h⟩
  ·cases h
theorem ZOH{tm:Tms}{σ:Za}{sq:Nat}{ins:Ins}{r:AVal×Za×Cls}(h:execI (EV fs prim bf) bf tm σ sq ins=some r):∃ n,execI (ZaK fs prim bf n) bf tm σ sq ins=some r:=by
 cases ins
 case call f own view args =>
  simp only[execI]at h⊢
  exact ZtQ h
 case callv x args =>
  simp only[execI]at h⊢
  split at h
  ·exact ZtQ h
  ·cases h
 all_goals exact⟨0,h⟩
theorem Zub{o:AOp}{tm:Tms}{σ:Za}{sq:Nat}{r:AVal×Tms×Za×Cls}(h:ZC (EV fs prim bf) bf o sq tm σ=some r):∃ n,ZC (ZaK fs prim bf n) bf o sq tm σ=some r:=by
 unfold ZC at h⊢
 split at h
 ·cases h
 ·exact⟨0,h⟩
 ·split at h
  ·rename_i hf
   simp only[hf,if_true]
   split at h
   ·rename_i he
    obtain⟨n,hn⟩:=ZOH he
    exact⟨n,by rw[hn];exact h⟩
   ·cases h
  ·cases h
theorem Zy0:∀ {ops:List AOp} {s:Nat} {tm:Tms} {σ:Za} {r:Tms×Za×List Cls×Option AVal},ZN (EV fs prim bf) bf ops s tm σ=some r->∃ n,ZN (ZaK fs prim bf n) bf ops s tm σ=some r
 | [],_,_,_,_,h=>⟨0,h⟩
 |o::ops,s,tm,σ,r,h=>by
  simp only[ZN]at h⊢
  split at h
  ·cases h
  ·rename_i h1
   obtain⟨n,hn⟩:=Zub h1
   exact⟨n,by rw[hn];exact h⟩
  rename_i v tm1 σ1 c hnp h1
  split at h
  ·cases h
  rename_i h2
  obtain⟨n,hn⟩:=Zub h1
  obtain⟨m,hm⟩:=Zy0 h2
  refine⟨max n m,?_⟩
  rw[ZsA (up (Xae n m)) hn]
  simp only
  rw[Zpj (up (W8 n m)) hm]
  exact h
theorem ZO7{ops:List AOp}{chk:Option (List (Nat×Nat))}{live:List Nat}{tm:Tms}{σ:Za}{r:ZY×Tms×Za}(h:Zb5 (EV fs prim bf) bf ops chk live tm σ=some r):∃ n,Zb5 (ZaK fs prim bf n) bf ops chk live tm σ=some r:=by
 unfold Zb5 at h⊢
 cases hx:ZN (EV fs prim bf) bf ops σ.length tm (σ++XA (sitesOf ops) .free)with
 |none=>rw[hx]at h;simp only[Zdn]at h;cases h
 |some q =>
  obtain⟨n,hn⟩:=Zy0 hx
  exact⟨n,by rw[hn];rw[hx]at h;exact h⟩
theorem ZEh(tm:Tms)(σ:Za):evC fs prim bf m0 .skip tm σ=some (.normal,tm,σ):=Zbu.2 ⟨0,rfl⟩
theorem ZJt(id:Nat)(tm:Tms)(σ:Za):evC fs prim bf m0 (.exit id) tm σ=some (.exit id,tm,σ):=Zbu.2 ⟨0,rfl⟩
theorem ZNk(tm:Tms)(σ:Za):evC fs prim bf m0 .ret tm σ=some (.ret,tm,σ):=Zbu.2 ⟨0,rfl⟩
theorem ZHx{ops:List AOp}{chk:Option (List (Nat×Nat))}{live:List Nat}{tm:Tms}{σ:Za}:evC fs prim bf m0 (.region ops chk live) tm σ=Zb5 (EV fs prim bf) bf ops chk live tm σ:=by
 apply Zgj
 intro r
 rw[Zbu]
 constructor
 ·rintro⟨n,hn⟩
  simp only[ZS]at hn
  exact Zwo (ZPf n) hn
 ·intro h
  obtain⟨n,hn⟩:=ZO7 h
  exact⟨n,by simp only[ZS];exact hn⟩
theorem ZCS{a b:Ze}{tm tm':Tms}{σ σ':Za}(h:evC fs prim bf m0 a tm σ=some (.normal,tm',σ')):evC fs prim bf m0 (.seq a b) tm σ=evC fs prim bf m0 b tm' σ':=by
 obtain⟨n,hn⟩:=Zbu.1 h
 apply Zgj
 intro r
 rw[Zbu,Zbu]
 constructor
 ·rintro⟨m,hm⟩
  have h1:=ZeI (up (Xae n m)) (Xae n m) hn
  have h2:=ZeI (up (W8 n m)) (W8 n m) hm
  simp only[ZS,h1]at h2
  exact⟨_,h2⟩
 ·rintro⟨m,hm⟩
  have h1:=ZeI (up (Xae n m)) (Xae n m) hn
  have h2:=ZeI (up (W8 n m)) (W8 n m) hm
  exact⟨max n m,by simp only[ZS,h1];exact h2⟩
theorem ZqF{a b:Ze}{tm tm':Tms}{σ σ':Za}{e:ZY}(he:e≠.normal)(h:evC fs prim bf m0 a tm σ=some (e,tm',σ')):evC fs prim bf m0 (.seq a b) tm σ=some (e,tm',σ'):=by
 obtain⟨n,hn⟩:=Zbu.1 h
 refine Zbu.2 ⟨n,?_⟩
 simp only[ZS,hn]
 cases e with
 |normal=>exact absurd rfl he
 |exit id=>rfl
 |ret=>rfl
 |panic x=>rfl
def Zah(id:Nat):ZY×Tms×Za->ZY×Tms×Za
 |(.exit i,tm,σ)=>if i=id then(.normal,tm,σ)else(.exit i,tm,σ)
 |r=>r
theorem ZSw{id:Nat}{c:Ze}{tm:Tms}{σ:Za}:evC fs prim bf m0 (.block id c) tm σ=(evC fs prim bf m0 c tm σ).map (Zah id):=by
 have step:∀ n,ZS (ZaK fs prim bf n) bf m0 n (.block id c) tm σ=(ZS (ZaK fs prim bf n) bf m0 n c tm σ).map (Zah id):=by
  intro n
  simp only[ZS]
  cases ZS (ZaK fs prim bf n) bf m0 n c tm σ with
  |none=>rfl
  |some q =>
   obtain⟨e,tm1,σ1⟩:=q
   cases e with
   |normal=>rfl
   |ret=>rfl
   |panic x=>rfl
   |exit i=>simp only[XT,Zah];split<;>rfl
 apply Zgj;intro r
 rw[Zbu]
 simp only[step,Xq]
 constructor
 ·rintro⟨n,q,h1,h2⟩;exact⟨q,Zbu.2 ⟨n,h1⟩,h2⟩
 ·rintro⟨q,h1,h2⟩;obtain⟨n,hn⟩:=Zbu.1 h1;exact⟨n,q,hn,h2⟩
theorem ZPu{c:Ze}{tm:Tms}{σ:Za}(h:evC fs prim bf m0 c tm σ=none)(n:Nat):ZS (ZaK fs prim bf n) bf m0 n c tm σ=none:=by
 cases hx:ZS (ZaK fs prim bf n) bf m0 n c tm σ with
 |none=>rfl
 |some r=>rw[Zbu.2 ⟨n,hx⟩]at h;cases h
variable (fs prim bf m0)in
noncomputable def Zaz(b:Ze):Option (ZY×Tms×Za)->Option (ZY×Tms×Za)
 |some (.normal,tm,σ)=>evC fs prim bf m0 b tm σ
 |r=>r
theorem ZK2{a b:Ze}{tm:Tms}{σ:Za}:evC fs prim bf m0 (.seq a b) tm σ=Zaz fs prim bf m0 b (evC fs prim bf m0 a tm σ):=by
 cases h:evC fs prim bf m0 a tm σ with
 |none =>
  simp only[Zaz]
  apply Zgj;intro r
  rw[Zbu]
  constructor
  ·rintro⟨n,hn⟩
   simp only[ZS,ZPu h n]at hn
   cases hn
  ·intro h;cases h
 |some q =>
  obtain⟨e,tm',σ'⟩:=q
  cases e with
  |normal=>exact ZCS h
  |exit id=>exact ZqF (by simp) h
  |ret=>exact ZqF (by simp) h
  |panic x=>exact ZqF (by simp) h
variable (fs prim bf m0)in
noncomputable def ZjJ(a b:Ze)(tm:Tms)(σ:Za):AVal->Option (ZY×Tms×Za)
 | .bool true=>evC fs prim bf m0 a tm σ
 | .bool false=>evC fs prim bf m0 b tm σ
 |_=>none
theorem ZKK{c:Opd}{a b:Ze}{tm:Tms}{σ:Za}:evC fs prim bf m0 (.cond c a b) tm σ=ZjJ fs prim bf m0 a b tm σ (c.ev tm):=by
 apply Zgj;intro r
 rw[Zbu]
 simp only[ZS]
 constructor
 ·rintro⟨n,hn⟩
  split at hn
  ·rename_i e;rw[e];simp only[ZjJ];exact Zbu.2 ⟨n,hn⟩
  ·rename_i e;rw[e];simp only[ZjJ];exact Zbu.2 ⟨n,hn⟩
  ·cases hn
 ·intro h
  unfold ZjJ at h
  split at h
  ·rename_i e;obtain⟨n,hn⟩:=Zbu.1 h;exact⟨n,by rw[e];exact hn⟩
  ·rename_i e;obtain⟨n,hn⟩:=Zbu.1 h;exact⟨n,by rw[e];exact hn⟩
  ·cases h
variable (fs prim bf m0)in
noncomputable def evL(live:List Nat)(c:Ze)(tm:Tms)(σ:Za):Option (ZY×Tms×Za) :=
 match evC fs prim bf m0 c tm σ with
 |some (.normal,tm',σ')=>evC fs prim bf m0 (.loop live c) tm' σ'
 |r=>r
theorem Zx5{live:List Nat}{c:Ze}{tm:Tms}{σ:Za}:evC fs prim bf m0 (.loop live c) tm σ=evL fs prim bf m0 live c (gcT m0 (keepL live tm) σ).1 (gcT m0 (keepL live tm) σ).2:=by
 apply Zgj;intro r
 rw[Zbu]
 constructor
 ·rintro⟨n,hn⟩
  simp only[ZS]at hn
  cases n with
  |zero=>simp only[ZdM]at hn;cases hn
  |succ k =>
   simp only[ZdM]at hn
   unfold evL
   cases hx:ZS (ZaK fs prim bf (k+1)) bf m0 (k+1) c (gcT m0 (keepL live tm) σ).1 (gcT m0 (keepL live tm) σ).2 with
   |none=>rw[hx]at hn;cases hn
   |some q =>
    rw[Zbu.2 ⟨_,hx⟩]
    rw[hx]at hn
    obtain⟨e,tm',σ'⟩:=q
    cases e with
    |normal =>
     simp only at hn ⊢
     exact Zbu.2 ⟨k+1,by simp only[ZS];exact Zlr (fun _ _ _ h=>h) (by omega) hn⟩
    |exit id=>exact hn
    |ret=>exact hn
    |panic x=>exact hn
 ·intro h
  unfold evL at h
  cases hx:evC fs prim bf m0 c (gcT m0 (keepL live tm) σ).1 (gcT m0 (keepL live tm) σ).2 with
  |none=>rw[hx]at h;cases h
  |some q =>
   rw[hx]at h
   obtain⟨n,hn⟩:=Zbu.1 hx
   obtain⟨e,tm',σ'⟩:=q
   have out:e≠.normal->some (e,tm',σ')=some r->∃ n,ZS (ZaK fs prim bf n) bf m0 n (.loop live c) tm σ=some r:=by
    intro he h
    refine⟨n+1,?_⟩
    have h1:=ZeI (up (show n<=n+1 by omega)) (show n<=n+1 by omega) hn
    simp only[ZS,ZdM,h1]
    cases e with
    |normal=>exact absurd rfl he
    |exit id=>exact h
    |ret=>exact h
    |panic x=>exact h
   cases e with
   |normal =>
    simp only at h
    obtain⟨m,hm⟩:=Zbu.1 h
    have h1:=ZeI (up (show n<=max n m+1 by omega)) (show n<=max n m+1 by omega) hn
    have h2:=ZeI (up (show m<=max n m+1 by omega)) (XD m) hm
    simp only[ZS]at h2
    refine⟨max n m+1,?_⟩
    simp only[ZS,ZdM,h1]
    exact Zlr (fun tm σ r h=>ZeI (fun _ _ _ _ h=>h) (by omega) h) (by omega) h2
   |exit id=>exact out (by simp) h
   |ret=>exact out (by simp) h
   |panic x=>exact out (by simp) h
section
variable {live:List Nat}{ms en b1:Nat}{bg:Bool}{ent:List AOp}{body rest:Ze}
variable (fs prim bf m0)in
end
theorem ZKc{P:Program}(hm:P.follows .mixedOrders=true){prim:Zea}(hP:ZsH P prim)(ann:Nat->Ann)(bf:Nat->Bool):Zar P (EV (Zjn P ann) prim bf):=by
 intro f args σ r σ' h
 obtain⟨n,hn⟩:=Zei.1 h
 exact Zzc hm hP ann bf n f args σ r σ' hn
end
end
section
open Go.RowKit
def ZuB:Tms×Za×List Cls×Option AVal->Tms×Za×Option AVal:=fun q=>(q.1,q.2.1,q.2.2.2)
def ZaA:AVal->Bool
 | .pan _=>true
 |_=>false
section
variable (O:ZJ)(bf:Nat->Bool)
def exI(i:Ins)(s:Nat)(tm:Tms)(σ:Za):Option (AVal×Za×Cls) :=
 if nsite i==0 ||freeAt σ s then execI O bf tm σ s i else none
def Za1(ops:List AOp)(s:Nat)(tm:Tms)(σ:Za):Option (Tms×Za×Option AVal):=(ZN O bf ops s tm σ).map ZuB
def kN(d:Option Nat)(os:List AOp)(s:Nat)(tm:Tms):Option (AVal×Za×Cls)->Option (Tms×Za×Option AVal)
 |none=>none
 |some (v,σ,_)=>if ZaA v then some (tput tm d v,σ,some (ZaC v))else Za1 O bf os s (tput tm d v) σ
def Zlc(live:List Nat):Option (Tms×Za×Option AVal)->Option (ZY×Tms×Za)
 |none=>none
 |some (_,σ,some x)=>some (.panic x,[],σ)
 |some (tm,σ,none)=>some (.normal,keepL live tm,σ)
variable {O bf}
theorem Zvr(s:Nat)(tm:Tms)(σ:Za):Za1 O bf [] s tm σ=some (tm,σ,none):=rfl
theorem ZjK{o:AOp}{os:List AOp}{s:Nat}{tm:Tms}{σ:Za}(h:ZC O bf o s tm σ=none):ZN O bf (o::os) s tm σ=none:=by simp only[ZN,h]
theorem ZlV{o:AOp}{os:List AOp}{s:Nat}{tm tm1:Tms}{σ σ1:Za}{x:AVal}{c:Cls}(h:ZC O bf o s tm σ=some (.pan x,tm1,σ1,c)):ZN O bf (o::os) s tm σ=some (tm1,σ1,[c],some x):=by simp only[ZN,h]
theorem Zuj{o:AOp}{os:List AOp}{s:Nat}{tm tm1:Tms}{σ σ1:Za}{v:AVal}{c:Cls}(h:ZC O bf o s tm σ=some (v,tm1,σ1,c))(hn:ZaA v=false):ZN O bf (o::os) s tm σ=(ZN O bf os (s+nsite o.ins) tm1 σ1).map fun q=>(q.1,q.2.1,c::q.2.2.1,q.2.2.2):=by
 simp only[ZN,h]
 cases v<;>first
  |(simp[ZaA]at hn;done)
  |(simp only;cases ZN O bf os (s+nsite o.ins) tm1 σ1<;>rfl)
theorem Zkz{o:AOp}{os:List AOp}{s:Nat}{tm:Tms}{σ:Za}(h:ZC O bf o s tm σ=none):Za1 O bf (o::os) s tm σ=none:=by simp only[Za1,ZjK h,Option.map_none]
theorem ZpK{o:AOp}{os:List AOp}{s:Nat}{tm tm1:Tms}{σ σ1:Za}{x:AVal}{c:Cls}(h:ZC O bf o s tm σ=some (.pan x,tm1,σ1,c)):Za1 O bf (o::os) s tm σ=some (tm1,σ1,some x):=by simp only[Za1,ZlV h,XT,ZuB]
theorem ZkD{o:AOp}{os:List AOp}{s:Nat}{tm tm1:Tms}{σ σ1:Za}{v:AVal}{c:Cls}(h:ZC O bf o s tm σ=some (v,tm1,σ1,c))(hn:ZaA v=false):Za1 O bf (o::os) s tm σ=Za1 O bf os (s+nsite o.ins) tm1 σ1:=by
 simp only[Za1,Zuj h hn,Option.map_map]
 rfl
theorem ZlR{v:AVal}(h:ZaA v=true):∃ x,v=.pan x:=by
 cases v<;>first |exact⟨_,rfl⟩ |(simp[ZaA]at h;done)
theorem Zly{d:Option Nat}{i:Ins}{af:List Nat}{s:Nat}{tm:Tms}{σ:Za}:ZC O bf ⟨d,i,none,af⟩ s tm σ=(exI O bf i s tm σ).map fun q=>(q.1,tput tm d q.1,q.2.1,q.2.2):=by
 unfold ZC exI
 simp only[Zbh]
 split
 ·cases execI O bf tm σ s i with
  |none=>rfl
  |some q=>rfl
 ·rfl
theorem ZoY(d:Option Nat)(i:Ins)(af:List Nat)(os:List AOp)(s:Nat)(tm:Tms)(σ:Za):Za1 O bf (⟨d,i,none,af⟩::os) s tm σ=kN O bf d os (s+nsite i) tm (exI O bf i s tm σ):=by
 cases h:exI O bf i s tm σ with
 |none=>exact Zkz (by rw[Zly,h];rfl)
 |some q =>
  obtain⟨v,σ1,c⟩:=q
  have hs:ZC O bf ⟨d,i,none,af⟩ s tm σ=some (v,tput tm d v,σ1,c):=by rw[Zly,h];rfl
  cases hp:ZaA v with
  |true =>
   obtain⟨x,rfl⟩:=ZlR hp
   exact ZpK hs
  |false =>
   rw[ZkD hs hp]
   simp only[kN,hp,Xl,if_false]
theorem ZJd(ops:List AOp)(live:List Nat)(tm:Tms)(σ:Za):Zb5 O bf ops none live tm σ=Zlc live (Za1 O bf ops σ.length tm (σ++XA (sitesOf ops) .free)):=by
 unfold Zb5 Za1
 cases ZN O bf ops σ.length tm (σ++XA (sitesOf ops) .free)with
 |none=>rfl
 |some q =>
  obtain⟨tm',σ',cs,p⟩:=q
  cases p<;>rfl
theorem Zp7(d:Option Nat)(os:List AOp)(s:Nat)(tm:Tms)(v:AVal)(σ:Za)(c:Cls)(h:ZaA v=false):kN O bf d os s tm (some (v,σ,c))=Za1 O bf os s (tput tm d v) σ:=by
 simp only[kN,h,Xl,if_false]
theorem ZPx(d:Option Nat)(os:List AOp)(s:Nat)(tm:Tms)(x:AVal)(σ:Za)(c:Cls):kN O bf d os s tm (some (.pan x,σ,c))=some (tput tm d (.pan x),σ,some x):=rfl
theorem ZCl(d:Option Nat)(os:List AOp)(s:Nat)(tm:Tms):kN O bf d os s tm none=none:=rfl
structure GOp where
 guard:Option (Nat×Bool)
 ops:List AOp
def Zw:List AOp->Tms->Tms
 | [],tm=>tm
 |o::os,tm=>Zw os (tput tm o.dst (.tup []))
def unG(o:AOp):AOp:={ o with guard:=none }
variable (O bf)in
def ZeM(j:Nat)(w:Bool)(g:List AOp)(s:Nat)(tm:Tms)(σ:Za):Option (Tms×Za×Option AVal):=match Zbh (some (j,w)) tm with
 |none=>none
 |some false=>some (Zw g tm,σ,none)
 |some true=>Za1 O bf (g.map unG) s tm σ
variable (O bf)in
def gK(os:List AOp)(s:Nat):Option (Tms×Za×Option AVal)->Option (Tms×Za×Option AVal)
 |none=>none
 |some (tm,σ,some x)=>some (tm,σ,some x)
 |some (tm,σ,none)=>Za1 O bf os s tm σ
def Zh(j:Nat)(w:Bool):List AOp->List AOp×List AOp
 | []=>([],[])
 |o::os=>match o.guard with
  |some (j',w')=>if j'=j/\w'=w/\o.dst≠some j then((o::(Zh j w os).1),(Zh j w os).2)else([],o::os)
  |none=>([],o::os)
theorem Zsy(j:Nat)(w:Bool):∀ os,(Zh j w os).1++(Zh j w os).2=os
 | []=>rfl
 |o::os=>by
  simp only[Zh]
  split
  ·split
   ·simp[Zsy j w os]
   ·rfl
  ·rfl
theorem Zra(j:Nat)(w:Bool):∀ os,∀ o∈(Zh j w os).1,o.guard=some (j,w)/\o.dst≠some j
 | []=>by simp[Zh]
 |o::os=>by
  intro o' ho
  simp only[Zh]at ho
  split at ho
  ·rename_i j' w' hg
   split at ho
   ·rename_i hc
    rcases XI.1 ho with rfl |ho
    ·exact⟨by rw[hg,hc.1,hc.2.1],hc.2.2⟩
    ·exact Zra j w os o' ho
   ·simp at ho
  ·simp at ho
theorem ZHS{d:Option Nat}{v:AVal}{n:Nat}{tm:Tms}(h:d≠some n):tget (tput tm d v) n=tget tm n:=by
 cases d with
 |none=>rfl
 |some d =>
  have : d≠n:=by rintro rfl;exact h rfl
  simp only[tput,Zjo,this,if_false]
theorem Zf9{d:Option Nat}{v:AVal}{j:Nat}{w:Bool}{tm:Tms}(h:d≠some j):Zbh (some (j,w)) (tput tm d v)=Zbh (some (j,w)) tm:=by
 simp only[Zbh,ZHS h]
theorem ZyL:∀ (a b:List AOp) (s:Nat) (tm:Tms) (σ:Za),Za1 O bf (a++b) s tm σ=gK O bf b (s+sitesOf a) (Za1 O bf a s tm σ)
 | [],b,s,tm,σ=>by simp[Zvr,gK,sitesOf]
 |o::a,b,s,tm,σ=>by
  have ih:=ZyL a b
  simp only[Wm]
  have hs:s+nsite o.ins+sitesOf a=s+sitesOf (o::a):=by simp[sitesOf,Wf]
  cases hst:ZC O bf o s tm σ with
  |none=>rw[Zkz hst,Zkz hst];rfl
  |some q =>
   obtain⟨v,tm1,σ1,c⟩:=q
   cases hp:ZaA v with
   |true =>
    obtain⟨x,rfl⟩:=ZlR hp
    rw[ZpK hst,ZpK hst];rfl
   |false=>rw[ZkD hst hp,ZkD hst hp,ih,hs]
theorem Zy3(j:Nat)(w:Bool):∀ (g:List AOp),(∀ o∈g,o.guard=some (j,w)/\o.dst≠some j)->∀ (s:Nat) (tm:Tms) (σ:Za),g≠[]->Za1 O bf g s tm σ=ZeM O bf j w g s tm σ
 | [],_,_,_,_,h=>absurd rfl h
 |o::g,hall,s,tm,σ,_=>by
  obtain⟨hg,hd⟩:=hall o (by simp)
  have ih:∀ (tm:Tms) (σ:Za) (s:Nat),Zbh (some (j,w)) tm≠none->Za1 O bf g s tm σ=ZeM O bf j w g s tm σ:=by
   intro tm σ s hw
   by_cases he:g=[]
   ·subst he
    unfold ZeM
    cases hx:Zbh (some (j,w)) tm with
    |none=>exact absurd hx hw
    |some b=>cases b<;>rfl
   ·exact Zy3 j w g (fun o ho=>hall o (by simp[ho])) s tm σ he
  cases hx:Zbh (some (j,w)) tm with
  |none =>
   rw[Zkz (by simp only[ZC,hg,hx])]
   simp only[ZeM,hx]
  |some b =>
   cases b with
   |false =>
    have h1:Za1 O bf (o::g) s tm σ=Za1 O bf g (s+nsite o.ins) (tput tm o.dst (.tup [])) σ :=
     ZkD (v:=.tup []) (c:={}) (by simp only[ZC,hg,hx]) rfl
    rw[h1,ih _ _ _ (by rw[Zf9 hd,hx];simp)]
    unfold ZeM
    rw[Zf9 hd,hx]
    rfl
   |true =>
    have key:∀ r:Option (AVal×Za×Cls),(∀ v σ' c,r=some (v,σ',c)->ZaA v=false->Za1 O bf g (s+nsite o.ins) (tput tm o.dst v) σ'=Za1 O bf (g.map unG) (s+nsite o.ins) (tput tm o.dst v) σ')->kN O bf o.dst g (s+nsite o.ins) tm r=kN O bf o.dst (g.map unG) (s+nsite o.ins) tm r:=by
     intro r hr
     cases r with
     |none=>rfl
     |some q =>
      obtain⟨v,σ',c⟩:=q
      cases hp:ZaA v with
      |true=>simp only[kN,hp,if_true]
      |false=>rw[Zp7 _ _ _ _ _ _ _ hp,Zp7 _ _ _ _ _ _ _ hp];exact hr v σ' c rfl hp
    have h1:Za1 O bf (o::g) s tm σ=kN O bf o.dst g (s+nsite o.ins) tm (exI O bf o.ins s tm σ):=by
     have h0:Za1 O bf (o::g) s tm σ=Za1 O bf (⟨o.dst,o.ins,none,o.after⟩::g) s tm σ:=by
      have hst:ZC O bf o s tm σ=ZC O bf ⟨o.dst,o.ins,none,o.after⟩ s tm σ:=by
       unfold ZC
       simp only[hg,hx]
       rfl
      unfold Za1
      simp only[ZN,hst]
     rw[h0,ZoY]
    rw[h1]
    unfold ZeM
    rw[hx]
    simp only[Xn]
    rw[show unG o=⟨o.dst,o.ins,none,o.after⟩from rfl,ZoY]
    refine key _ fun v σ' c _ _=>?_
    rw[ih _ _ _ (by rw[Zf9 hd,hx];simp)]
    unfold ZeM
    rw[Zf9 hd,hx]
theorem ZCm(d:Option Nat)(i:Ins)(j:Nat)(w:Bool)(af:List Nat)(os:List AOp)(s:Nat)(tm:Tms)(σ:Za)(hd:decide (d=some j)=false) :
  Za1 O bf (⟨d,i,some (j,w),af⟩::os) s tm σ=gK O bf (Zh j w os).2 (s+sitesOf (⟨d,i,some (j,w),af⟩::(Zh j w os).1)) (ZeM O bf j w (⟨d,i,some (j,w),af⟩::(Zh j w os).1) s tm σ):=by
 have h:=Zsy j w os
 have hall:∀ o∈(⟨d,i,some (j,w),af⟩::(Zh j w os).1:List AOp),o.guard=some (j,w)/\o.dst≠some j:=by
  intro o ho
  rcases XI.1 ho with rfl |ho
  ·exact⟨rfl,by simpa using hd⟩
  ·exact Zra j w os o ho
 rw[<-Zy3 j w _ hall s tm σ (by simp),<-ZyL,Wm,h]
variable (O bf)in
def gW(w:Bool)(g:List AOp)(s:Nat)(tm:Tms)(σ:Za):AVal->Option (Tms×Za×Option AVal)
 | .bool b=>if b=w then Za1 O bf (g.map unG) s tm σ else some (Zw g tm,σ,none)
 | .tup []=>some (Zw g tm,σ,none)
 |_=>none
theorem ZAJ(j:Nat)(w:Bool)(g:List AOp)(s:Nat)(tm:Tms)(σ:Za):ZeM O bf j w g s tm σ=gW O bf w g s tm σ (tget tm j):=by
 unfold ZeM Zbh
 simp only
 generalize tget tm j=v
 cases v
 case bool b=>cases b<;>cases w<;>rfl
 case tup vs=>cases vs<;>rfl
 all_goals rfl
theorem ZNA(w:Bool)(g:List AOp)(s:Nat)(tm:Tms)(σ:Za)(b:Bool):gW O bf w g s tm σ (.bool b)=if b=w then Za1 O bf (g.map unG) s tm σ else some (Zw g tm,σ,none):=rfl
theorem ZDQ(w:Bool)(g:List AOp)(s:Nat)(tm:Tms)(σ:Za):gW O bf w g s tm σ (.tup [])=some (Zw g tm,σ,none):=rfl
theorem ZQ5(os:List AOp)(s:Nat)(tm:Tms)(σ:Za):gK O bf os s (some (tm,σ,none))=Za1 O bf os s tm σ:=rfl
end
section
variable (c:Prop)[Decidable c]
theorem Zfw{α:Type}(a b:α)(x y:List α):(if c then a::x else b::y)=(if c then a else b)::(if c then x else y):=by split<;>rfl
theorem ZIU(k:IntKind)(a b:Int):(if c then AVal.int k a else AVal.int k b)=AVal.int k (if c then a else b):=by split<;>rfl
theorem ZDf(a b:Bool):(if c then AVal.bool a else AVal.bool b)=AVal.bool (if c then a else b):=by split<;>rfl
theorem ZHF(a b:List UInt8):(if c then AVal.str a else AVal.str b)=AVal.str (if c then a else b):=by split<;>rfl
theorem ZQK(p q:Bool)(a b:List AVal):(if c then AVal.lst p a else AVal.lst q b)=AVal.lst (if c then p else q) (if c then a else b):=by split<;>rfl
theorem ZQy(a b:List AVal):(if c then AVal.agg a else AVal.agg b)=AVal.agg (if c then a else b):=by split<;>rfl
theorem ZLR(a b:List AVal):(if c then Zx.var a else Zx.var b)=Zx.var (if c then a else b):=by split<;>rfl
theorem ZPV(g k:Nat)(a b:List AVal):(if c then Zx.row g k a else Zx.row g k b)=Zx.row g k (if c then a else b):=by split<;>rfl
theorem ZBF(t:Nat)(a b:Nat):(if c then AVal.ref t a else AVal.ref t b)=AVal.ref t (if c then a else b):=by split<;>rfl
theorem Zgc{α:Type}(x y z:α):(if c then(if c then x else y)else z)=if c then x else z:=by split<;>rfl
theorem ZMx{α:Type}(x y z:α):(if c then x else(if c then y else z))=if c then x else z:=by split<;>rfl
theorem ZB4(σ:Za)(a b:AVal)(p:Bool):ZgO σ a b (.bool p)=some (if p=true then a else b,σ,{}):=by cases p<;>rfl
theorem ZGM(a b:AVal):ZaA (if c then a else b)=if c then ZaA a else ZaA b:=by split<;>rfl
end
section
variable {fs:Nat->Option Zz}{prim:Zea}{bf:Nat->Bool}{m0:Nat}
theorem ZJ4(p:Bool)(a b:Ze)(tm:Tms)(σ:Za):ZjJ fs prim bf m0 a b tm σ (.bool p)=if p=true then evC fs prim bf m0 a tm σ else evC fs prim bf m0 b tm σ:=by
 cases p<;>rfl
theorem ZLA(b:Ze)(tm:Tms)(σ:Za):Zaz fs prim bf m0 b (some (.normal,tm,σ))=evC fs prim bf m0 b tm σ:=rfl
theorem ZKL(b:Ze)(i:Nat)(tm:Tms)(σ:Za):Zaz fs prim bf m0 b (some (.exit i,tm,σ))=some (.exit i,tm,σ):=rfl
theorem ZSE(b:Ze)(tm:Tms)(σ:Za):Zaz fs prim bf m0 b (some (.ret,tm,σ))=some (.ret,tm,σ):=rfl
theorem ZHt(b:Ze)(x:AVal)(tm:Tms)(σ:Za):Zaz fs prim bf m0 b (some (.panic x,tm,σ))=some (.panic x,tm,σ):=rfl
theorem ZGf(c:Prop)[Decidable c](b:Ze)(x y:Option (ZY×Tms×Za)):Zaz fs prim bf m0 b (if c then x else y)=if c then Zaz fs prim bf m0 b x else Zaz fs prim bf m0 b y:=by split<;>rfl
theorem ZNa(id:Nat)(tm:Tms)(σ:Za):XY (Zah id) (some (.normal,tm,σ))=some (.normal,tm,σ):=rfl
theorem ZHe(id i:Nat)(tm:Tms)(σ:Za):XY (Zah id) (some (.exit i,tm,σ))=if i=id then some (.normal,tm,σ)else some (.exit i,tm,σ):=by
 simp only[XT,Zah];split<;>rfl
theorem ZBH(id:Nat)(tm:Tms)(σ:Za):XY (Zah id) (some (.ret,tm,σ))=some (.ret,tm,σ):=rfl
theorem Zz7(id:Nat)(x:AVal)(tm:Tms)(σ:Za):XY (Zah id) (some (.panic x,tm,σ))=some (.panic x,tm,σ):=rfl
theorem ZBW(id:Nat)(c:Prop)[Decidable c](x y:Option (ZY×Tms×Za)):XY (Zah id) (if c then x else y)=if c then XY (Zah id) x else XY (Zah id) y:=by split<;>rfl
theorem ZCb(m:Nat)(fn:Zz)(c:Prop)[Decidable c](x y:Option (ZY×Tms×Za)):Zac m fn (if c then x else y)=if c then Zac m fn x else Zac m fn y:=by split<;>rfl
end
section
variable {fs:Nat->Option Zz}{prim:Zea}{bf:Nat->Bool}{m0:Nat}
theorem ZMB{live:List Nat}{c:Ze}{tm tm':Tms}{σ σ':Za}(h:evC fs prim bf m0 c tm σ=some (.normal,tm',σ')):evL fs prim bf m0 live c tm σ=evL fs prim bf m0 live c (gcT m0 (keepL live tm') σ').1 (gcT m0 (keepL live tm') σ').2:=by
 unfold evL
 rw[h]
 simp only
 rw[Zx5]
 rfl
theorem ZB2{live:List Nat}{c:Ze}{tm tm':Tms}{σ σ':Za}{i:Nat}(h:evC fs prim bf m0 c tm σ=some (.exit i,tm',σ')):evL fs prim bf m0 live c tm σ=some (.exit i,tm',σ'):=by
 unfold evL;rw[h]
theorem ZD5{live:List Nat}{c:Ze}{tm tm':Tms}{σ σ':Za}(h:evC fs prim bf m0 c tm σ=some (.ret,tm',σ')):evL fs prim bf m0 live c tm σ=some (.ret,tm',σ'):=by
 unfold evL;rw[h]
variable (fs prim bf m0)in
noncomputable def evM(live:List Nat)(c:Ze):Option (ZY×Tms×Za)->Option (ZY×Tms×Za)
 |some (.normal,tm,σ)=>evL fs prim bf m0 live c (gcT m0 (keepL live tm) σ).1 (gcT m0 (keepL live tm) σ).2
 |r=>r
theorem Zr(live:List Nat)(c:Ze)(tm:Tms)(σ:Za):evL fs prim bf m0 live c tm σ=evM fs prim bf m0 live c (evC fs prim bf m0 c tm σ):=by
 cases h:evC fs prim bf m0 c tm σ with
 |none=>unfold evL;rw[h];rfl
 |some q =>
  obtain⟨e,tm',σ'⟩:=q
  cases e with
  |normal=>exact ZMB h
  |exit i=>exact ZB2 h
  |ret=>exact ZD5 h
  |panic x=>unfold evL;rw[h];rfl
theorem ZFH(live:List Nat)(c:Ze)(tm:Tms)(σ:Za):evM fs prim bf m0 live c (some (.normal,tm,σ))=evL fs prim bf m0 live c (gcT m0 (keepL live tm) σ).1 (gcT m0 (keepL live tm) σ).2:=rfl
theorem ZRD(live:List Nat)(c:Ze)(i:Nat)(tm:Tms)(σ:Za):evM fs prim bf m0 live c (some (.exit i,tm,σ))=some (.exit i,tm,σ):=rfl
theorem ZR7(live:List Nat)(c:Ze)(tm:Tms)(σ:Za):evM fs prim bf m0 live c (some (.ret,tm,σ))=some (.ret,tm,σ):=rfl
theorem ZMm(live:List Nat)(c:Ze)(x:AVal)(tm:Tms)(σ:Za):evM fs prim bf m0 live c (some (.panic x,tm,σ))=some (.panic x,tm,σ):=rfl
theorem ZSn(live:List Nat)(b:Ze)(c:Prop)[Decidable c](x y:Option (ZY×Tms×Za)):evM fs prim bf m0 live b (if c then x else y)=if c then evM fs prim bf m0 live b x else evM fs prim bf m0 live b y:=by split<;>rfl
end
def ZaM:AVal->Bool
 | .int _ _=>true
 | .bool _=>true
 | .str _=>true
 | .nilp=>true
 | .nilm=>true
 | .nili=>true
 | .lst _ _=>true
 | .fn _ []=>true
 |_=>false
def Z2:AVal->Bool
 | .agg cs=>cs.all ZaM
 |x=>ZaM x
def ZaU:AVal->AVal
 | .lst _ xs=>.lst false xs
 |x=>x
def ZM:AVal->AVal
 | .agg cs=>.agg (cs.map ZaU)
 |x=>ZaU x
theorem ZyA{σ:Za}{x:AVal}(h:ZaM x=true):ZbX σ x=some (ZaU x,[]):=by
 cases x<;>first |(simp[ZaM]at h;done) |rfl
theorem Zuy{σ:Za}:∀ {xs:List AVal},xs.all ZaM=true->Zcr σ xs=some (xs.map ZaU,[])
 | [],_=>rfl
 |x::xs,h=>by
  simp only[XW,Xj]at h
  simp only[Zcr,ZyA h.1,Zuy h.2,Xn,XC]
theorem ZiN{x:AVal}(h:∀ cs,x≠.agg cs):Z2 x=ZaM x/\ZM x=ZaU x:=by
 cases x<;>first |exact⟨rfl,rfl⟩ |exact absurd rfl (h _)
theorem ZOp{σ:Za}{x:AVal}(h:∀ cs,x≠.agg cs):showA σ x=ZbX σ x:=by
 cases x<;>first |rfl |exact absurd rfl (h _)
theorem ZsB(x:AVal):(∃ cs,x=.agg cs)\/∀ cs,x≠.agg cs:=by
 cases x<;>first |exact Xp ⟨_,rfl⟩ |(right;intro cs;simp)
theorem ZJ1{σ:Za}{x:AVal}(h:Z2 x=true):showA σ x=some (ZM x,[]):=by
 rcases ZsB x with⟨cs,rfl⟩ |hn
 ·simp only[Z2]at h
  simp only[showA,Zuy h,ZM]
 ·rw[(ZiN hn).1]at h
  rw[ZOp hn,(ZiN hn).2]
  exact ZyA h
theorem Zm1{σ:Za}:∀ {xs:List AVal},xs.all Z2=true->showAs σ xs=some (xs.map ZM,[])
 | [],_=>rfl
 |x::xs,h=>by
  simp only[XW,Xj]at h
  simp only[showAs,ZJ1 h.1,Zm1 h.2,Xn,XC]
theorem Zvu{x:AVal}(h:ZaM x=true):refsV (ZaU x)=[]:=by
 cases x
 case fn f cs=>cases cs<;>simp[ZaM]at h;rfl
 all_goals first |(simp[ZaM]at h;done) |rfl
theorem Zwe:∀ {xs:List AVal},xs.all ZaM=true->refsL (xs.map ZaU)=[]
 | [],_=>rfl
 |x::xs,h=>by
  simp only[XW,Xj]at h
  simp only[Xn,refsL,Zvu h.1,Zwe h.2,XC]
theorem ZEN{x:AVal}(h:Z2 x=true):refsV (ZM x)=[]:=by
 rcases ZsB x with⟨cs,rfl⟩ |hn
 ·simp only[Z2]at h
  simp only[ZM,refsV];exact Zwe h
 ·rw[(ZiN hn).1]at h
  rw[(ZiN hn).2];exact Zvu h
theorem ZhE:∀ {xs:List AVal},xs.all Z2=true->refsL (xs.map ZM)=[]
 | [],_=>rfl
 |x::xs,h=>by
  simp only[XW,Xj]at h
  simp only[Xn,refsL,ZEN h.1,ZhE h.2,XC]
theorem Zzl{ρ:Rho}{x:AVal}(h:ZaM x=true):renV ρ (ZaU x)=ZaU x:=by
 cases x
 case fn f cs=>cases cs<;>simp[ZaM]at h;rfl
 all_goals first |(simp[ZaM]at h;done) |rfl
theorem ZuH{ρ:Rho}:∀ {xs:List AVal},xs.all ZaM=true->renL ρ (xs.map ZaU)=xs.map ZaU
 | [],_=>rfl
 |x::xs,h=>by
  simp only[XW,Xj]at h
  simp only[Xn,renL,Zzl h.1,ZuH h.2]
theorem ZIb{ρ:Rho}{x:AVal}(h:Z2 x=true):renV ρ (ZM x)=ZM x:=by
 rcases ZsB x with⟨cs,rfl⟩ |hn
 ·simp only[Z2]at h
  simp only[ZM,renV];rw[ZuH h]
 ·rw[(ZiN hn).1]at h
  rw[(ZiN hn).2];exact Zzl h
theorem Zia{ρ:Rho}:∀ {xs:List AVal},xs.all Z2=true->renL ρ (xs.map ZM)=xs.map ZM
 | [],_=>rfl
 |x::xs,h=>by
  simp only[XW,Xj]at h
  simp only[Xn,renL,ZIb h.1,Zia h.2]
theorem ZbK{O:ZJ}{bf:Nat->Bool}{σ:Za}{sq f own:Nat}{view:Bool}{args:List AVal}(hb:bf f=false)(h:args.all Z2=true) :
  Zl O bf σ sq f own view args=Z8 σ σ [] [] sq own (ZO view 0 (O f (args.map ZM) [])):=by
 unfold Zl Zb1
 rw[hb]
 simp only[Xl,if_false,Zm1 h]
 have h1:Zj σ []=σ:=rfl
 rw[h1,ZhE h]
 have h2:reach σ 1000 [] []=[]:=rfl
 rw[h2]
 unfold Zbl
 simp only[List.all_nil,if_true,Zia h,heapOf,Xu]
theorem ZdP(σ:Za)(sq own:Nat)(r:AVal)(h:renV (ZaR [] [] sq) r=r):Z8 σ σ [] [] sq own (some (r,[]))=some (r,σ,{}):=by
 simp only[Z8,List.isEmpty_nil,Bool.and_self,if_true,Zck,Bool.not_true,X8,Xl,if_false]
 split
 ·rfl
 ·rw[h]
end
section
section
variable (ρ:Rho)(σ:Za)
theorem ZNn  : ZaA (.top)=false:=rfl
theorem ZHP  : ZaA (.any)=false:=rfl
theorem ZFi(k:IntKind)(n:Int):ZaA (.int k n)=false:=rfl
theorem ZMb(b:Bool):ZaA (.bool b)=false:=rfl
theorem ZMd(l:List UInt8):ZaA (.str l)=false:=rfl
theorem ZI2  : ZaA (.nilp)=false:=rfl
theorem ZFv(t:Nat)(o:Nat):ZaA (.ref t o)=false:=rfl
theorem ZLV(t:Nat)(g:Nat)(i:Nat)(o:Nat):ZaA (.eref t g i o)=false:=rfl
theorem ZAj(cs:List AVal)(o:Nat):ZaA (.iptr cs o)=false:=rfl
theorem ZQW(x:Bool)(xs:List AVal):ZaA (.lst x xs)=false:=rfl
theorem ZOM(t:Nat)(g:Nat)(lo:Nat)(n:Nat):ZaA (.sl t g lo n)=false:=rfl
theorem ZCp(cs:List AVal):ZaA (.agg cs)=false:=rfl
theorem ZRu(vs:List AVal):ZaA (.tup vs)=false:=rfl
theorem ZNz(f:Nat)(caps:List AVal):ZaA (.fn f caps)=false:=rfl
theorem ZMS  : ZaA (.nilm)=false:=rfl
theorem ZP8(t:Nat):ZaA (.map t)=false:=rfl
theorem ZRY(t j o:Nat):ZaA (.nref t j o)=false:=rfl
theorem ZR0(t j:Nat)(nx:Bool):ZaA (.mapg t j nx)=false:=by cases nx<;>rfl
theorem ZCA  : ZaA (.nili)=false:=rfl
theorem ZPc(t:Nat)(x:AVal):ZaA (.iface t x)=false:=rfl
theorem ZI8(x:AVal):ZaA (.pan x)=true:=rfl
theorem ZQM  : Z7 (.top)=false:=rfl
theorem ZDB  : Z7 (.any)=true:=rfl
theorem ZN7(k:IntKind)(n:Int):Z7 (.int k n)=true:=rfl
theorem ZCT(b:Bool):Z7 (.bool b)=true:=rfl
theorem ZJB(l:List UInt8):Z7 (.str l)=true:=rfl
theorem ZDT  : Z7 (.nilp)=true:=rfl
theorem ZKY(t:Nat)(o:Nat):Z7 (.ref t o)=true:=rfl
theorem ZOK(t:Nat)(g:Nat)(i:Nat)(o:Nat):Z7 (.eref t g i o)=true:=rfl
theorem ZBg(cs:List AVal)(o:Nat):Z7 (.iptr cs o)=true:=rfl
theorem ZAH(x:Bool)(xs:List AVal):Z7 (.lst x xs)=true:=rfl
theorem ZN4(t:Nat)(g:Nat)(lo:Nat)(n:Nat):Z7 (.sl t g lo n)=true:=rfl
theorem ZAq(cs:List AVal):Z7 (.agg cs)=false:=rfl
theorem ZBl(vs:List AVal):Z7 (.tup vs)=false:=rfl
theorem ZC9(f:Nat)(caps:List AVal):Z7 (.fn f caps)=true:=rfl
theorem ZFp  : Z7 (.nilm)=true:=rfl
theorem ZEx(t:Nat):Z7 (.map t)=true:=rfl
theorem ZNl(t j o:Nat):Z7 (.nref t j o)=true:=rfl
theorem Zz4(t j:Nat)(nx:Bool):Z7 (.mapg t j nx)=true:=by cases nx<;>rfl
theorem ZEu  : Z7 (.nili)=true:=rfl
theorem ZPB(t:Nat)(x:AVal):Z7 (.iface t x)=true:=rfl
theorem ZR2(x:AVal):Z7 (.pan x)=false:=rfl
theorem ZFL  : ZbH (.top)=false:=rfl
theorem ZA4  : ZbH (.any)=true:=rfl
theorem ZDb(k:IntKind)(n:Int):ZbH (.int k n)=true:=rfl
theorem ZFY(b:Bool):ZbH (.bool b)=true:=rfl
theorem ZPa(l:List UInt8):ZbH (.str l)=true:=rfl
theorem ZRb  : ZbH (.nilp)=true:=rfl
theorem ZLf(t:Nat)(o:Nat):ZbH (.ref t o)=true:=rfl
theorem ZOi(t:Nat)(g:Nat)(i:Nat)(o:Nat):ZbH (.eref t g i o)=true:=rfl
theorem ZLU(cs:List AVal)(o:Nat):ZbH (.iptr cs o)=true:=rfl
theorem ZRS(x:Bool)(xs:List AVal):ZbH (.lst x xs)=true:=rfl
theorem ZQI(t:Nat)(g:Nat)(lo:Nat)(n:Nat):ZbH (.sl t g lo n)=true:=rfl
theorem ZIl(cs:List AVal):ZbH (.agg cs)=true:=rfl
theorem ZKu(vs:List AVal):ZbH (.tup vs)=true:=rfl
theorem ZPr(f:Nat)(caps:List AVal):ZbH (.fn f caps)=true:=rfl
theorem ZGJ  : ZbH (.nilm)=true:=rfl
theorem ZNs(t:Nat):ZbH (.map t)=true:=rfl
theorem ZLI(t j o:Nat):ZbH (.nref t j o)=true:=rfl
theorem ZKC(t j:Nat)(nx:Bool):ZbH (.mapg t j nx)=true:=by cases nx<;>rfl
theorem ZDH  : ZbH (.nili)=true:=rfl
theorem ZBd(t:Nat)(x:AVal):ZbH (.iface t x)=true:=rfl
theorem ZMM(x:AVal):ZbH (.pan x)=true:=rfl
theorem ZGC  : Z5 (.top)=false:=rfl
theorem ZMY  : Z5 (.any)=false:=rfl
theorem ZHU(k:IntKind)(n:Int):Z5 (.int k n)=true:=rfl
theorem ZPL(b:Bool):Z5 (.bool b)=true:=rfl
theorem ZHC(l:List UInt8):Z5 (.str l)=true:=rfl
theorem ZQB  : Z5 (.nilp)=true:=rfl
theorem ZRk(t:Nat)(o:Nat):Z5 (.ref t o)=false:=rfl
theorem ZEf(t:Nat)(g:Nat)(i:Nat)(o:Nat):Z5 (.eref t g i o)=false:=rfl
theorem ZBq(cs:List AVal)(o:Nat):Z5 (.iptr cs o)=false:=rfl
theorem ZLz(x:Bool)(xs:List AVal):Z5 (.lst x xs)=false:=rfl
theorem ZQ1(t:Nat)(g:Nat)(lo:Nat)(n:Nat):Z5 (.sl t g lo n)=false:=rfl
theorem ZFO(cs:List AVal):Z5 (.agg cs)=false:=rfl
theorem ZHl(vs:List AVal):Z5 (.tup vs)=false:=rfl
theorem ZMC(f:Nat)(caps:List AVal):Z5 (.fn f caps)=false:=rfl
theorem ZME  : Z5 (.nilm)=true:=rfl
theorem ZNC(t:Nat):Z5 (.map t)=false:=rfl
theorem ZLY(t j o:Nat):Z5 (.nref t j o)=false:=rfl
theorem ZKy(t j:Nat)(nx:Bool):Z5 (.mapg t j nx)=false:=by cases nx<;>rfl
theorem ZAt  : Z5 (.nili)=true:=rfl
theorem ZPm(t:Nat)(x:AVal):Z5 (.iface t x)=false:=rfl
theorem ZJK(x:AVal):Z5 (.pan x)=false:=rfl
theorem ZGB  : Zas (.top)=false:=rfl
theorem ZQw  : Zas (.any)=false:=rfl
theorem ZSW(k:IntKind)(n:Int):Zas (.int k n)=true:=rfl
theorem ZJ8(b:Bool):Zas (.bool b)=true:=rfl
theorem ZOY(l:List UInt8):Zas (.str l)=true:=rfl
theorem ZFP  : Zas (.nilp)=true:=rfl
theorem ZFj(t:Nat)(o:Nat):Zas (.ref t o)=false:=rfl
theorem ZGN(t:Nat)(g:Nat)(i:Nat)(o:Nat):Zas (.eref t g i o)=false:=rfl
theorem ZJs(cs:List AVal)(o:Nat):Zas (.iptr cs o)=false:=rfl
theorem ZQp(x:Bool)(xs:List AVal):Zas (.lst x xs)=false:=rfl
theorem ZJv(t:Nat)(g:Nat)(lo:Nat)(n:Nat):Zas (.sl t g lo n)=false:=rfl
theorem ZPN(cs:List AVal):Zas (.agg cs)=cs.all Z5:=rfl
theorem ZBi(vs:List AVal):Zas (.tup vs)=false:=rfl
theorem ZGz(f:Nat)(caps:List AVal):Zas (.fn f caps)=false:=rfl
theorem ZGd  : Zas (.nilm)=true:=rfl
theorem ZDe(t:Nat):Zas (.map t)=false:=rfl
theorem ZFN(t j o:Nat):Zas (.nref t j o)=false:=rfl
theorem ZOh(t j:Nat)(nx:Bool):Zas (.mapg t j nx)=false:=by cases nx<;>rfl
theorem ZIn  : Zas (.nili)=true:=rfl
theorem ZBr(t:Nat)(x:AVal):Zas (.iface t x)=false:=rfl
theorem ZBQ(x:AVal):Zas (.pan x)=false:=rfl
theorem ZFS  : ZaQ (.top)=false:=rfl
theorem ZGg  : ZaQ (.any)=false:=rfl
theorem ZAI(k:IntKind)(n:Int):ZaQ (.int k n)=true:=rfl
theorem ZLQ(b:Bool):ZaQ (.bool b)=true:=rfl
theorem ZSL(l:List UInt8):ZaQ (.str l)=true:=rfl
theorem ZHJ  : ZaQ (.nilp)=true:=rfl
theorem ZDN(t:Nat)(o:Nat):ZaQ (.ref t o)=false:=rfl
theorem ZQ4(t:Nat)(g:Nat)(i:Nat)(o:Nat):ZaQ (.eref t g i o)=false:=rfl
theorem ZIV(cs:List AVal)(o:Nat):ZaQ (.iptr cs o)=false:=rfl
theorem ZHH(x:Bool)(xs:List AVal):ZaQ (.lst x xs)=false:=rfl
theorem ZQU(t:Nat)(g:Nat)(lo:Nat)(n:Nat):ZaQ (.sl t g lo n)=false:=rfl
theorem ZHR(cs:List AVal):ZaQ (.agg cs)=cs.all Z5:=rfl
theorem ZGa(vs:List AVal):ZaQ (.tup vs)=vs.all Zas:=rfl
theorem ZIL(f:Nat)(caps:List AVal):ZaQ (.fn f caps)=false:=rfl
theorem ZQh  : ZaQ (.nilm)=true:=rfl
theorem ZDh(t:Nat):ZaQ (.map t)=false:=rfl
theorem ZFI(t j o:Nat):ZaQ (.nref t j o)=false:=rfl
theorem ZQn(t j:Nat)(nx:Bool):ZaQ (.mapg t j nx)=false:=by cases nx<;>rfl
theorem ZMo  : ZaQ (.nili)=true:=rfl
theorem ZOs(t:Nat)(x:AVal):ZaQ (.iface t x)=false:=rfl
theorem ZMw  : ZaM (.top)=false:=rfl
theorem ZPz  : ZaM (.any)=false:=rfl
theorem ZzV(k:IntKind)(n:Int):ZaM (.int k n)=true:=rfl
theorem ZHM(b:Bool):ZaM (.bool b)=true:=rfl
theorem Zvm(l:List UInt8):ZaM (.str l)=true:=rfl
theorem ZLC  : ZaM (.nilp)=true:=rfl
theorem ZQv(t:Nat)(o:Nat):ZaM (.ref t o)=false:=rfl
theorem ZGe(t:Nat)(g:Nat)(i:Nat)(o:Nat):ZaM (.eref t g i o)=false:=rfl
theorem ZKX(cs:List AVal)(o:Nat):ZaM (.iptr cs o)=false:=rfl
theorem Zxr(x:Bool)(xs:List AVal):ZaM (.lst x xs)=true:=rfl
theorem ZKD(t:Nat)(g:Nat)(lo:Nat)(n:Nat):ZaM (.sl t g lo n)=false:=rfl
theorem ZLv(cs:List AVal):ZaM (.agg cs)=false:=rfl
theorem ZKJ(vs:List AVal):ZaM (.tup vs)=false:=rfl
theorem ZIh  : ZaM (.nilm)=true:=rfl
theorem ZRJ(t:Nat):ZaM (.map t)=false:=rfl
theorem ZAO(t j o:Nat):ZaM (.nref t j o)=false:=rfl
theorem ZKt(t j:Nat)(nx:Bool):ZaM (.mapg t j nx)=false:=by cases nx<;>rfl
theorem ZLS  : ZaM (.nili)=true:=rfl
theorem ZO3(t:Nat)(x:AVal):ZaM (.iface t x)=false:=rfl
theorem ZDI(x:AVal):ZaM (.pan x)=false:=rfl
theorem ZCN  : Z2 (.top)=false:=rfl
theorem ZM3  : Z2 (.any)=false:=rfl
theorem ZAo(k:IntKind)(n:Int):Z2 (.int k n)=true:=rfl
theorem ZPA(b:Bool):Z2 (.bool b)=true:=rfl
theorem ZAb(l:List UInt8):Z2 (.str l)=true:=rfl
theorem ZI5  : Z2 (.nilp)=true:=rfl
theorem ZGy(t:Nat)(o:Nat):Z2 (.ref t o)=false:=rfl
theorem ZHA(t:Nat)(g:Nat)(i:Nat)(o:Nat):Z2 (.eref t g i o)=false:=rfl
theorem ZKO(cs:List AVal)(o:Nat):Z2 (.iptr cs o)=false:=rfl
theorem ZSK(x:Bool)(xs:List AVal):Z2 (.lst x xs)=true:=rfl
theorem ZJh(t:Nat)(g:Nat)(lo:Nat)(n:Nat):Z2 (.sl t g lo n)=false:=rfl
theorem Zw5(cs:List AVal):Z2 (.agg cs)=cs.all ZaM:=rfl
theorem ZIy(vs:List AVal):Z2 (.tup vs)=false:=rfl
theorem ZM1  : Z2 (.nilm)=true:=rfl
theorem ZOD(t:Nat):Z2 (.map t)=false:=rfl
theorem ZG8(t j o:Nat):Z2 (.nref t j o)=false:=rfl
theorem ZIK(t j:Nat)(nx:Bool):Z2 (.mapg t j nx)=false:=by cases nx<;>rfl
theorem ZFu  : Z2 (.nili)=true:=rfl
theorem ZED(t:Nat)(x:AVal):Z2 (.iface t x)=false:=rfl
theorem ZGL(x:AVal):Z2 (.pan x)=false:=rfl
theorem ZCI  : ZaU (.top)=(.top):=rfl
theorem ZEn  : ZaU (.any)=(.any):=rfl
theorem ZxA(k:IntKind)(n:Int):ZaU (.int k n)=(.int k n):=rfl
theorem ZH5(b:Bool):ZaU (.bool b)=(.bool b):=rfl
theorem Zv9(l:List UInt8):ZaU (.str l)=(.str l):=rfl
theorem ZEI  : ZaU (.nilp)=(.nilp):=rfl
theorem ZAA(t:Nat)(o:Nat):ZaU (.ref t o)=(.ref t o):=rfl
theorem ZFV(t:Nat)(g:Nat)(i:Nat)(o:Nat):ZaU (.eref t g i o)=(.eref t g i o):=rfl
theorem ZOB(cs:List AVal)(o:Nat):ZaU (.iptr cs o)=(.iptr cs o):=rfl
theorem ZxY(x:Bool)(xs:List AVal):ZaU (.lst x xs)=.lst false xs:=rfl
theorem ZRo(t:Nat)(g:Nat)(lo:Nat)(n:Nat):ZaU (.sl t g lo n)=(.sl t g lo n):=rfl
theorem ZHh(cs:List AVal):ZaU (.agg cs)=(.agg cs):=rfl
theorem ZNU(vs:List AVal):ZaU (.tup vs)=(.tup vs):=rfl
theorem ZFa(f:Nat)(caps:List AVal):ZaU (.fn f caps)=(.fn f caps):=rfl
theorem ZI3  : ZaU (.nilm)=(.nilm):=rfl
theorem ZBE(t:Nat):ZaU (.map t)=(.map t):=rfl
theorem ZCi(t j o:Nat):ZaU (.nref t j o)=(.nref t j o):=rfl
theorem ZPb(t j:Nat)(nx:Bool):ZaU (.mapg t j nx)=(.mapg t j nx):=by cases nx<;>rfl
theorem ZAr  : ZaU (.nili)=(.nili):=rfl
theorem ZKE(t:Nat)(x:AVal):ZaU (.iface t x)=(.iface t x):=rfl
theorem ZIX(x:AVal):ZaU (.pan x)=(.pan x):=rfl
theorem ZJD  : ZM (.top)=(.top):=rfl
theorem ZAR  : ZM (.any)=(.any):=rfl
theorem ZNN(k:IntKind)(n:Int):ZM (.int k n)=(.int k n):=rfl
theorem ZDU(b:Bool):ZM (.bool b)=(.bool b):=rfl
theorem ZDJ(l:List UInt8):ZM (.str l)=(.str l):=rfl
theorem ZPw  : ZM (.nilp)=(.nilp):=rfl
theorem ZSJ(t:Nat)(o:Nat):ZM (.ref t o)=(.ref t o):=rfl
theorem ZAN(t:Nat)(g:Nat)(i:Nat)(o:Nat):ZM (.eref t g i o)=(.eref t g i o):=rfl
theorem ZQ8(cs:List AVal)(o:Nat):ZM (.iptr cs o)=(.iptr cs o):=rfl
theorem ZJi(x:Bool)(xs:List AVal):ZM (.lst x xs)=.lst false xs:=rfl
theorem ZKT(t:Nat)(g:Nat)(lo:Nat)(n:Nat):ZM (.sl t g lo n)=(.sl t g lo n):=rfl
theorem Zyo(cs:List AVal):ZM (.agg cs)=.agg (cs.map ZaU):=rfl
theorem ZNw(vs:List AVal):ZM (.tup vs)=(.tup vs):=rfl
theorem ZNT(f:Nat)(caps:List AVal):ZM (.fn f caps)=(.fn f caps):=rfl
theorem ZMy  : ZM (.nilm)=(.nilm):=rfl
theorem ZOa(t:Nat):ZM (.map t)=(.map t):=rfl
theorem ZLx(t j o:Nat):ZM (.nref t j o)=(.nref t j o):=rfl
theorem ZCa(t j:Nat)(nx:Bool):ZM (.mapg t j nx)=(.mapg t j nx):=by cases nx<;>rfl
theorem ZFm  : ZM (.nili)=(.nili):=rfl
theorem ZC3(t:Nat)(x:AVal):ZM (.iface t x)=(.iface t x):=rfl
theorem ZGU(x:AVal):ZM (.pan x)=(.pan x):=rfl
theorem ZDx  : AVal.cells (.top)=[(.top)]:=rfl
theorem ZCo  : AVal.cells (.any)=[(.any)]:=rfl
theorem ZC0(k:IntKind)(n:Int):AVal.cells (.int k n)=[(.int k n)]:=rfl
theorem ZPo(b:Bool):AVal.cells (.bool b)=[(.bool b)]:=rfl
theorem ZID(l:List UInt8):AVal.cells (.str l)=[(.str l)]:=rfl
theorem ZBe  : AVal.cells (.nilp)=[(.nilp)]:=rfl
theorem ZCO(t:Nat)(o:Nat):AVal.cells (.ref t o)=[(.ref t o)]:=rfl
theorem ZBw(t:Nat)(g:Nat)(i:Nat)(o:Nat):AVal.cells (.eref t g i o)=[(.eref t g i o)]:=rfl
theorem ZDd(cs:List AVal)(o:Nat):AVal.cells (.iptr cs o)=[(.iptr cs o)]:=rfl
theorem ZL8(x:Bool)(xs:List AVal):AVal.cells (.lst x xs)=[(.lst x xs)]:=rfl
theorem ZL9(t:Nat)(g:Nat)(lo:Nat)(n:Nat):AVal.cells (.sl t g lo n)=[(.sl t g lo n)]:=rfl
theorem ZQV(cs:List AVal):AVal.cells (.agg cs)=cs:=rfl
theorem ZBI(vs:List AVal):AVal.cells (.tup vs)=[(.tup vs)]:=rfl
theorem ZHc(f:Nat)(caps:List AVal):AVal.cells (.fn f caps)=[(.fn f caps)]:=rfl
theorem ZAl  : AVal.cells (.nilm)=[(.nilm)]:=rfl
theorem ZCs(t:Nat):AVal.cells (.map t)=[(.map t)]:=rfl
theorem ZDt(t j o:Nat):AVal.cells (.nref t j o)=[(.nref t j o)]:=rfl
theorem ZIY(t j:Nat)(nx:Bool):AVal.cells (.mapg t j nx)=[(.mapg t j nx)]:=by cases nx<;>rfl
theorem ZSs  : AVal.cells (.nili)=[(.nili)]:=rfl
theorem ZJO(t:Nat)(x:AVal):AVal.cells (.iface t x)=[(.iface t x)]:=rfl
theorem ZHv(x:AVal):AVal.cells (.pan x)=[(.pan x)]:=rfl
theorem ZBp  : ZaC (.top)=(.top):=rfl
theorem ZLE  : ZaC (.any)=(.any):=rfl
theorem ZNj(k:IntKind)(n:Int):ZaC (.int k n)=(.int k n):=rfl
theorem ZBM(b:Bool):ZaC (.bool b)=(.bool b):=rfl
theorem ZNJ(l:List UInt8):ZaC (.str l)=(.str l):=rfl
theorem ZEe  : ZaC (.nilp)=(.nilp):=rfl
theorem ZEE(t:Nat)(o:Nat):ZaC (.ref t o)=(.ref t o):=rfl
theorem ZPQ(t:Nat)(g:Nat)(i:Nat)(o:Nat):ZaC (.eref t g i o)=(.eref t g i o):=rfl
theorem ZKA(cs:List AVal)(o:Nat):ZaC (.iptr cs o)=(.iptr cs o):=rfl
theorem ZNL(x:Bool)(xs:List AVal):ZaC (.lst x xs)=(.lst x xs):=rfl
theorem ZCx(t:Nat)(g:Nat)(lo:Nat)(n:Nat):ZaC (.sl t g lo n)=(.sl t g lo n):=rfl
theorem ZMA(cs:List AVal):ZaC (.agg cs)=(.agg cs):=rfl
theorem ZMi(vs:List AVal):ZaC (.tup vs)=(.tup vs):=rfl
theorem ZM6(f:Nat)(caps:List AVal):ZaC (.fn f caps)=(.fn f caps):=rfl
theorem ZMT  : ZaC (.nilm)=(.nilm):=rfl
theorem ZH9(t:Nat):ZaC (.map t)=(.map t):=rfl
theorem ZAG(t j o:Nat):ZaC (.nref t j o)=(.nref t j o):=rfl
theorem ZPp(t j:Nat)(nx:Bool):ZaC (.mapg t j nx)=(.mapg t j nx):=by cases nx<;>rfl
theorem ZJ3  : ZaC (.nili)=(.nili):=rfl
theorem ZKf(t:Nat)(x:AVal):ZaC (.iface t x)=(.iface t x):=rfl
theorem ZLh(x:AVal):ZaC (.pan x)=x:=rfl
theorem ZCU  : Zak (.top)=4:=rfl
theorem ZNe  : Zak (.any)=4:=rfl
theorem ZPZ(k:IntKind)(n:Int):Zak (.int k n)=0:=rfl
theorem ZEk(b:Bool):Zak (.bool b)=1:=rfl
theorem ZGn(l:List UInt8):Zak (.str l)=2:=rfl
theorem ZQr  : Zak (.nilp)=4:=rfl
theorem ZOR(t:Nat)(o:Nat):Zak (.ref t o)=4:=rfl
theorem ZL4(t:Nat)(g:Nat)(i:Nat)(o:Nat):Zak (.eref t g i o)=4:=rfl
theorem ZA8(cs:List AVal)(o:Nat):Zak (.iptr cs o)=4:=rfl
theorem ZJk(x:Bool)(xs:List AVal):Zak (.lst x xs)=4:=rfl
theorem ZGG(t:Nat)(g:Nat)(lo:Nat)(n:Nat):Zak (.sl t g lo n)=4:=rfl
theorem ZJl(cs:List AVal):Zak (.agg cs)=4:=rfl
theorem ZIw(vs:List AVal):Zak (.tup vs)=4:=rfl
theorem ZSa(f:Nat)(caps:List AVal):Zak (.fn f caps)=4:=rfl
theorem ZMg  : Zak (.nilm)=4:=rfl
theorem ZAm(t:Nat):Zak (.map t)=4:=rfl
theorem ZK9(t j o:Nat):Zak (.nref t j o)=4:=rfl
theorem ZPk(t j:Nat)(nx:Bool):Zak (.mapg t j nx)=4:=by cases nx<;>rfl
theorem ZIe  : Zak (.nili)=4:=rfl
theorem ZPn(t:Nat)(x:AVal):Zak (.iface t x)=4:=rfl
theorem ZP3(x:AVal):Zak (.pan x)=4:=rfl
theorem ZSM  : refsV (.top)=[]:=rfl
theorem ZCP  : refsV (.any)=[]:=rfl
theorem ZRK(k:IntKind)(n:Int):refsV (.int k n)=[]:=rfl
theorem ZJ2(b:Bool):refsV (.bool b)=[]:=rfl
theorem ZPy(l:List UInt8):refsV (.str l)=[]:=rfl
theorem ZOA  : refsV (.nilp)=[]:=rfl
theorem ZBb(t:Nat)(o:Nat):refsV (.ref t o)=[t]:=rfl
theorem ZEX(t:Nat)(g:Nat)(i:Nat)(o:Nat):refsV (.eref t g i o)=[t]:=rfl
theorem ZOv(cs:List AVal)(o:Nat):refsV (.iptr cs o)=[]:=rfl
theorem ZKZ(x:Bool)(xs:List AVal):refsV (.lst x xs)=[]:=rfl
theorem ZG2(t:Nat)(g:Nat)(lo:Nat)(n:Nat):refsV (.sl t g lo n)=[t]:=rfl
theorem ZCu(cs:List AVal):refsV (.agg cs)=refsL cs:=rfl
theorem ZLp(vs:List AVal):refsV (.tup vs)=refsL vs:=rfl
theorem ZI7(f:Nat)(caps:List AVal):refsV (.fn f caps)=refsL caps:=rfl
theorem ZRi  : refsV (.nilm)=[]:=rfl
theorem ZRL(t:Nat):refsV (.map t)=[t]:=rfl
theorem ZBo(t j o:Nat):refsV (.nref t j o)=[t]:=rfl
theorem ZHu(t j:Nat)(nx:Bool):refsV (.mapg t j nx)=[t]:=by cases nx<;>rfl
theorem ZMj  : refsV (.nili)=[]:=rfl
theorem ZD2(t:Nat)(x:AVal):refsV (.iface t x)=refsV x:=rfl
theorem ZKU(x:AVal):refsV (.pan x)=refsV x:=rfl
theorem ZPl  : renV ρ (.top)=(.top):=rfl
theorem ZMO  : renV ρ (.any)=(.any):=rfl
theorem ZGD(k:IntKind)(n:Int):renV ρ (.int k n)=(.int k n):=rfl
theorem ZGt(b:Bool):renV ρ (.bool b)=(.bool b):=rfl
theorem ZHX(l:List UInt8):renV ρ (.str l)=(.str l):=rfl
theorem ZMf  : renV ρ (.nilp)=(.nilp):=rfl
theorem ZLs(cs:List AVal)(o:Nat):renV ρ (.iptr cs o)=(.iptr cs o):=rfl
theorem ZO9(x:Bool)(xs:List AVal):renV ρ (.lst x xs)=(.lst x xs):=rfl
theorem ZKr(cs:List AVal):renV ρ (.agg cs)=.agg (renL ρ cs):=rfl
theorem ZLw(vs:List AVal):renV ρ (.tup vs)=.tup (renL ρ vs):=rfl
theorem ZBs(f:Nat)(caps:List AVal):renV ρ (.fn f caps)=.fn f (renL ρ caps):=rfl
theorem ZJ5  : renV ρ (.nilm)=(.nilm):=rfl
theorem ZOU  : renV ρ (.nili)=(.nili):=rfl
theorem ZIt(t:Nat)(x:AVal):renV ρ (.iface t x)=.iface t (renV ρ x):=rfl
theorem ZAz(x:AVal):renV ρ (.pan x)=.pan (renV ρ x):=rfl
theorem ZDo(f:Nat):ZaM (.fn f [])=true:=rfl
theorem ZD7(f:Nat):Z2 (.fn f [])=true:=rfl
theorem ZHb(t:Nat)(x:AVal):ZaQ (.pan (.iface t x))=Z5 x:=rfl
theorem ZGI(live:List Nat)(tm:Tms):Zlc live (some (tm,σ,none))=some (.normal,keepL live tm,σ):=rfl
theorem ZAU(live:List Nat)(tm:Tms)(x:AVal):Zlc live (some (tm,σ,some x))=some (.panic x,[],σ):=rfl
theorem ZB3(live:List Nat):Zlc live none=none:=rfl
theorem ZHV(t o:Nat):renV ρ (.ref t o)=(match ρ t 0 with |some (t',0)=>.ref t' o |_=>.any):=rfl
theorem ZSY(t:Nat):renV ρ (.map t)=(match ρ t 0 with |some (t',0)=>.map t' |_=>.any):=rfl
theorem ZAW(t j o:Nat):renV ρ (.nref t j o)=(match ρ t (1001+3*j)with |some (t',g')=>if g'=1001+3*j then .nref t' j o else .any |none=>.any):=rfl
theorem ZH0(t j:Nat)(nx:Bool):renV ρ (.mapg t j nx)=(match ρ t (Z6 j nx)with |some (t',g')=>if g'=Z6 j nx then .mapg t' j nx else .any |none=>.any):=rfl
theorem ZRd(t g lo n:Nat):renV ρ (.sl t g lo n)=(match ρ t g with |some (t',g')=>.sl t' g' lo n |none=>.any):=rfl
theorem ZDu(t g i o:Nat):renV ρ (.eref t g i o)=(match ρ t g with |some (t',g')=>.eref t' g' i o |none=>.any):=rfl
theorem ZMN:refsL []=[]:=rfl
theorem ZOo(x:AVal)(xs:List AVal):refsL (x::xs)=refsV x++refsL xs:=rfl
theorem ZSy:renL ρ []=[]:=rfl
theorem ZBm(x:AVal)(xs:List AVal):renL ρ (x::xs)=renV ρ x::renL ρ xs:=rfl
end
end
section
mutual
def Zaw:AVal->Bool
 | .ref _ _=>false
 | .eref _ _ _ _=>false
 | .sl _ _ _ _=>false
 | .map _=>false
 | .nref _ _ _=>false
 | .mapg _ _ _=>false
 | .agg cs=>Zm cs
 | .tup vs=>Zm vs
 | .fn _ vs=>Zm vs
 | .iface _ x=>Zaw x
 | .pan x=>Zaw x
 | .top=>true
 | .any=>true
 | .int _ _=>true
 | .bool _=>true
 | .str _=>true
 | .nilp=>true
 | .nilm=>true
 | .nili=>true
 | .iptr _ _=>true
 | .lst _ _=>true
def Zm:List AVal->Bool
 | []=>true
 |x::xs=>Zaw x&&Zm xs
end
mutual
theorem Zhk(ρ:Rho):∀ (x:AVal),Zaw x=true->renV ρ x=x/\refsV x=[]
 | .ref _ _,h=>by simp[Zaw]at h
 | .eref _ _ _ _,h=>by simp[Zaw]at h
 | .sl _ _ _ _,h=>by simp[Zaw]at h
 | .map _,h=>by simp[Zaw]at h
 | .nref _ _ _,h=>by simp[Zaw]at h
 | .mapg _ _ _,h=>by simp[Zaw]at h
 | .agg cs,h=>by have:=ZdL ρ cs (by simpa only[Zaw]using h);exact⟨by simp only[renV,this.1],by simp only[refsV,this.2]⟩
 | .tup cs,h=>by have:=ZdL ρ cs (by simpa only[Zaw]using h);exact⟨by simp only[renV,this.1],by simp only[refsV,this.2]⟩
 | .fn f cs,h=>by have:=ZdL ρ cs (by simpa only[Zaw]using h);exact⟨by simp only[renV,this.1],by simp only[refsV,this.2]⟩
 | .iface t x,h=>by have:=Zhk ρ x (by simpa only[Zaw]using h);exact⟨by simp only[renV,this.1],by simp only[refsV,this.2]⟩
 | .pan x,h=>by have:=Zhk ρ x (by simpa only[Zaw]using h);exact⟨by simp only[renV,this.1],by simp only[refsV,this.2]⟩
 | .top,_=>⟨rfl,rfl⟩
 | .any,_=>⟨rfl,rfl⟩
 | .int _ _,_=>⟨rfl,rfl⟩
 | .bool _,_=>⟨rfl,rfl⟩
 | .str _,_=>⟨rfl,rfl⟩
 | .nilp,_=>⟨rfl,rfl⟩
 | .nilm,_=>⟨rfl,rfl⟩
 | .nili,_=>⟨rfl,rfl⟩
 | .iptr _ _,_=>⟨rfl,rfl⟩
 | .lst _ _,_=>⟨rfl,rfl⟩
theorem ZdL(ρ:Rho):∀ (xs:List AVal),Zm xs=true->renL ρ xs=xs/\refsL xs=[]
 | [],_=>⟨rfl,rfl⟩
 |x::xs,h=>by
  simp only[Zm,Xj]at h
  have h1:=Zhk ρ x h.1
  have h2:=ZdL ρ xs h.2
  exact⟨by simp only[renL,h1.1,h2.1],by simp only[refsL,h1.2,h2.2,XC]⟩
end
theorem ZvX{σ:Za}{r:AVal}(h:Zaw r=true):outA 0 σ r=some (r,[]):=by
 have h1:=Zhk (rhoOf σ 0 []) r h
 have hids:gcIds 0 [r] σ=[]:=by
  unfold gcIds
  simp only[refsL,h1.2,XC,List.range_zero,Xa0]
  rfl
 unfold outA gcA
 simp only[hids,renL,heapOf,h1.1]
def Zca:AVal->AVal
 | .tup vs=>.tup (vs.map ZM)
 |x=>ZM x
def Zb3:AVal->Bool
 | .tup vs=>vs.all Z2
 |x=>Z2 x
def ZbA:AVal->Bool
 | .fn _ _=>false
 |_=>true
def ZbI:AVal->Bool
 | .agg cs=>cs.all ZbA
 |x=>ZbA x
def Zb9:AVal->Bool
 | .tup vs=>vs.all ZbI
 |x=>ZbI x
theorem ZxR{k g n:Nat}{xs:List AVal}{σ:Za}{t:Nat}(hs:σ[t]?=some (.row g k xs))(hn:n<=xs.length):ZaI 0 (some (.sl t g 0 n,σ))=some (.lst false (xs.take n),[]):=by
 have hv:viewR σ (.sl t g 0 n)=some (.lst false (xs.take n),[t]):=by
  simp only[viewR,Zv,Zs,Zq,hs,Nat.zero_add,hn,and_self,if_true,W2]
 have e:ZaI 0 (some (.sl t g 0 n,σ))=(match viewR σ (.sl t g 0 n)with
  |some (r',ts)=>match gcA 0 [r'] (Zj σ ts)with
   |([r''],σ')=>some (r'',σ')
   |_=>none
  |none=>none):=rfl
 rw[e,hv]
 exact ZvX rfl
theorem ZK3{m:Nat}{fn:Zz}{tm:Tms}{σ:Za}:Zac m fn (some (.ret,tm,σ))=match resA tm σ fn.res with
  |some r=>outA m σ r
  |none=>none:=rfl
theorem ZDp{m:Nat}{fn:Zz}{tm:Tms}{σ:Za}:Zac m fn (some (.normal,tm,σ))=match resA tm σ fn.res with
  |some r=>outA m σ r
  |none=>none:=rfl
theorem ZRX{m:Nat}{fn:Zz}{tm:Tms}{σ:Za}{x:AVal}:Zac m fn (some (.panic x,tm,σ))=outA m σ (.pan x):=rfl
theorem ZEO  : Zaw (.top)=true:=rfl
theorem ZOn  : Zaw (.any)=true:=rfl
theorem ZJe(k:IntKind)(n:Int):Zaw (.int k n)=true:=rfl
theorem ZMV(b:Bool):Zaw (.bool b)=true:=rfl
theorem ZSm(l:List UInt8):Zaw (.str l)=true:=rfl
theorem ZIE  : Zaw (.nilp)=true:=rfl
theorem ZCk(t:Nat)(o:Nat):Zaw (.ref t o)=false:=rfl
theorem ZL6(t:Nat)(g:Nat)(i:Nat)(o:Nat):Zaw (.eref t g i o)=false:=rfl
theorem ZRE(cs:List AVal)(o:Nat):Zaw (.iptr cs o)=true:=rfl
theorem ZRR(x:Bool)(xs:List AVal):Zaw (.lst x xs)=true:=rfl
theorem ZBB(t:Nat)(g:Nat)(lo:Nat)(n:Nat):Zaw (.sl t g lo n)=false:=rfl
theorem ZOP(cs:List AVal):Zaw (.agg cs)=Zm cs:=rfl
theorem ZOd(vs:List AVal):Zaw (.tup vs)=Zm vs:=rfl
theorem ZNf(f:Nat)(caps:List AVal):Zaw (.fn f caps)=Zm caps:=rfl
theorem ZSv  : Zaw (.nilm)=true:=rfl
theorem ZFo(t:Nat):Zaw (.map t)=false:=rfl
theorem ZJL(t j o:Nat):Zaw (.nref t j o)=false:=rfl
theorem ZF7(t j:Nat)(nx:Bool):Zaw (.mapg t j nx)=false:=by cases nx<;>rfl
theorem ZQ2  : Zaw (.nili)=true:=rfl
theorem ZOu(t:Nat)(x:AVal):Zaw (.iface t x)=Zaw x:=rfl
theorem ZM8(x:AVal):Zaw (.pan x)=Zaw x:=rfl
theorem ZD1  : ZbA (.top)=true:=rfl
theorem ZOI  : ZbA (.any)=true:=rfl
theorem ZRV(k:IntKind)(n:Int):ZbA (.int k n)=true:=rfl
theorem ZSh(b:Bool):ZbA (.bool b)=true:=rfl
theorem ZLO(l:List UInt8):ZbA (.str l)=true:=rfl
theorem ZSS  : ZbA (.nilp)=true:=rfl
theorem ZNx(t:Nat)(o:Nat):ZbA (.ref t o)=true:=rfl
theorem ZN6(t:Nat)(g:Nat)(i:Nat)(o:Nat):ZbA (.eref t g i o)=true:=rfl
theorem ZC5(cs:List AVal)(o:Nat):ZbA (.iptr cs o)=true:=rfl
theorem ZFe(x:Bool)(xs:List AVal):ZbA (.lst x xs)=true:=rfl
theorem ZLj(t:Nat)(g:Nat)(lo:Nat)(n:Nat):ZbA (.sl t g lo n)=true:=rfl
theorem ZE8(cs:List AVal):ZbA (.agg cs)=true:=rfl
theorem ZGc(vs:List AVal):ZbA (.tup vs)=true:=rfl
theorem ZFF(f:Nat)(caps:List AVal):ZbA (.fn f caps)=false:=rfl
theorem ZLD  : ZbA (.nilm)=true:=rfl
theorem ZQY(t:Nat):ZbA (.map t)=true:=rfl
theorem ZAL(t j o:Nat):ZbA (.nref t j o)=true:=rfl
theorem ZD3(t j:Nat)(nx:Bool):ZbA (.mapg t j nx)=true:=by cases nx<;>rfl
theorem ZCV  : ZbA (.nili)=true:=rfl
theorem ZRa(t:Nat)(x:AVal):ZbA (.iface t x)=true:=rfl
theorem ZAw(x:AVal):ZbA (.pan x)=true:=rfl
theorem ZRB  : ZbI (.top)=true:=rfl
theorem ZRT  : ZbI (.any)=true:=rfl
theorem ZGl(k:IntKind)(n:Int):ZbI (.int k n)=true:=rfl
theorem ZGH(b:Bool):ZbI (.bool b)=true:=rfl
theorem ZN9(l:List UInt8):ZbI (.str l)=true:=rfl
theorem ZQq  : ZbI (.nilp)=true:=rfl
theorem ZAg(t:Nat)(o:Nat):ZbI (.ref t o)=true:=rfl
theorem ZIN(t:Nat)(g:Nat)(i:Nat)(o:Nat):ZbI (.eref t g i o)=true:=rfl
theorem ZH2(cs:List AVal)(o:Nat):ZbI (.iptr cs o)=true:=rfl
theorem ZN8(x:Bool)(xs:List AVal):ZbI (.lst x xs)=true:=rfl
theorem ZSQ(t:Nat)(g:Nat)(lo:Nat)(n:Nat):ZbI (.sl t g lo n)=true:=rfl
theorem ZQm(cs:List AVal):ZbI (.agg cs)=cs.all ZbA:=rfl
theorem ZKS(vs:List AVal):ZbI (.tup vs)=true:=rfl
theorem ZBN(f:Nat)(caps:List AVal):ZbI (.fn f caps)=false:=rfl
theorem ZAM  : ZbI (.nilm)=true:=rfl
theorem ZG7(t:Nat):ZbI (.map t)=true:=rfl
theorem ZQJ(t j o:Nat):ZbI (.nref t j o)=true:=rfl
theorem ZFG(t j:Nat)(nx:Bool):ZbI (.mapg t j nx)=true:=by cases nx<;>rfl
theorem ZH1  : ZbI (.nili)=true:=rfl
theorem ZPP(t:Nat)(x:AVal):ZbI (.iface t x)=true:=rfl
theorem ZBG(x:AVal):ZbI (.pan x)=true:=rfl
theorem ZL1  : Zb9 (.top)=true:=rfl
theorem ZST  : Zb9 (.any)=true:=rfl
theorem ZA7(k:IntKind)(n:Int):Zb9 (.int k n)=true:=rfl
theorem ZF4(b:Bool):Zb9 (.bool b)=true:=rfl
theorem ZGb(l:List UInt8):Zb9 (.str l)=true:=rfl
theorem ZJu  : Zb9 (.nilp)=true:=rfl
theorem ZRj(t:Nat)(o:Nat):Zb9 (.ref t o)=true:=rfl
theorem ZPI(t:Nat)(g:Nat)(i:Nat)(o:Nat):Zb9 (.eref t g i o)=true:=rfl
theorem ZMn(cs:List AVal)(o:Nat):Zb9 (.iptr cs o)=true:=rfl
theorem ZJy(x:Bool)(xs:List AVal):Zb9 (.lst x xs)=true:=rfl
theorem ZBA(t:Nat)(g:Nat)(lo:Nat)(n:Nat):Zb9 (.sl t g lo n)=true:=rfl
theorem ZII(cs:List AVal):Zb9 (.agg cs)=cs.all ZbA:=rfl
theorem ZH4(vs:List AVal):Zb9 (.tup vs)=vs.all ZbI:=rfl
theorem ZFd(f:Nat)(caps:List AVal):Zb9 (.fn f caps)=false:=rfl
theorem ZDD  : Zb9 (.nilm)=true:=rfl
theorem ZG9(t:Nat):Zb9 (.map t)=true:=rfl
theorem ZPU(t j o:Nat):Zb9 (.nref t j o)=true:=rfl
theorem Zz2(t j:Nat)(nx:Bool):Zb9 (.mapg t j nx)=true:=by cases nx<;>rfl
theorem ZOe  : Zb9 (.nili)=true:=rfl
theorem ZIv(t:Nat)(x:AVal):Zb9 (.iface t x)=true:=rfl
theorem ZNQ(x:AVal):Zb9 (.pan x)=true:=rfl
theorem ZCw  : Zb3 (.top)=false:=rfl
theorem ZSF  : Zb3 (.any)=false:=rfl
theorem ZHk(k:IntKind)(n:Int):Zb3 (.int k n)=true:=rfl
theorem ZMR(b:Bool):Zb3 (.bool b)=true:=rfl
theorem ZGw(l:List UInt8):Zb3 (.str l)=true:=rfl
theorem ZFW  : Zb3 (.nilp)=true:=rfl
theorem ZMI(t:Nat)(o:Nat):Zb3 (.ref t o)=false:=rfl
theorem ZPH(t:Nat)(g:Nat)(i:Nat)(o:Nat):Zb3 (.eref t g i o)=false:=rfl
theorem ZKM(cs:List AVal)(o:Nat):Zb3 (.iptr cs o)=false:=rfl
theorem ZDm(x:Bool)(xs:List AVal):Zb3 (.lst x xs)=true:=rfl
theorem ZIP(t:Nat)(g:Nat)(lo:Nat)(n:Nat):Zb3 (.sl t g lo n)=false:=rfl
theorem ZAk(cs:List AVal):Zb3 (.agg cs)=cs.all ZaM:=rfl
theorem ZLa(vs:List AVal):Zb3 (.tup vs)=vs.all Z2:=rfl
theorem ZEY  : Zb3 (.nilm)=true:=rfl
theorem ZK6(t:Nat):Zb3 (.map t)=false:=rfl
theorem ZQF(t j o:Nat):Zb3 (.nref t j o)=false:=rfl
theorem ZSD(t j:Nat)(nx:Bool):Zb3 (.mapg t j nx)=false:=by cases nx<;>rfl
theorem ZFt  : Zb3 (.nili)=true:=rfl
theorem ZEm(t:Nat)(x:AVal):Zb3 (.iface t x)=false:=rfl
theorem ZAC(x:AVal):Zb3 (.pan x)=false:=rfl
theorem ZDM  : Zca (.top)=(.top):=rfl
theorem ZO4  : Zca (.any)=(.any):=rfl
theorem ZHs(k:IntKind)(n:Int):Zca (.int k n)=(.int k n):=rfl
theorem ZSz(b:Bool):Zca (.bool b)=(.bool b):=rfl
theorem ZOg(l:List UInt8):Zca (.str l)=(.str l):=rfl
theorem ZKQ  : Zca (.nilp)=(.nilp):=rfl
theorem ZAS(t:Nat)(o:Nat):Zca (.ref t o)=(.ref t o):=rfl
theorem ZEa(t:Nat)(g:Nat)(i:Nat)(o:Nat):Zca (.eref t g i o)=(.eref t g i o):=rfl
theorem ZD6(cs:List AVal)(o:Nat):Zca (.iptr cs o)=(.iptr cs o):=rfl
theorem ZPs(x:Bool)(xs:List AVal):Zca (.lst x xs)=.lst false xs:=rfl
theorem ZJj(t:Nat)(g:Nat)(lo:Nat)(n:Nat):Zca (.sl t g lo n)=(.sl t g lo n):=rfl
theorem ZEH(cs:List AVal):Zca (.agg cs)=.agg (cs.map ZaU):=rfl
theorem ZNv(vs:List AVal):Zca (.tup vs)=.tup (vs.map ZM):=rfl
theorem ZOC(f:Nat)(caps:List AVal):Zca (.fn f caps)=(.fn f caps):=rfl
theorem ZAi  : Zca (.nilm)=(.nilm):=rfl
theorem ZDi(t:Nat):Zca (.map t)=(.map t):=rfl
theorem ZLr(t j o:Nat):Zca (.nref t j o)=(.nref t j o):=rfl
theorem ZE0(t j:Nat)(nx:Bool):Zca (.mapg t j nx)=(.mapg t j nx):=by cases nx<;>rfl
theorem ZIc  : Zca (.nili)=(.nili):=rfl
theorem ZJm(t:Nat)(x:AVal):Zca (.iface t x)=(.iface t x):=rfl
theorem ZO1(x:AVal):Zca (.pan x)=(.pan x):=rfl
theorem ZSe:Zm []=true:=rfl
theorem ZLM(x:AVal)(xs:List AVal):Zm (x::xs)=(Zaw x&&Zm xs):=rfl
theorem ZKj(f:Nat):Zb3 (.fn f [])=true:=rfl
theorem ZN1(p q:Bool):(if p=true then q else false)=(p&&q):=by cases p<;>rfl
theorem ZDy(p q:Bool):(if p=true then true else q)=(p ||q):=by cases p<;>rfl
theorem ZAc(p q:Bool):(if p=true then false else q)=(!p&&q):=by cases p<;>rfl
theorem ZMF(p q:Bool):(if p=true then q else true)=(!p ||q):=by cases p<;>rfl
theorem ZOc(p q:Bool):(if p=false then q else false)=(!p&&q):=by cases p<;>rfl
theorem ZNu(p q:Bool):(if p=false then true else q)=(!p ||q):=by cases p<;>rfl
theorem ZQG(p q:Bool):(if p=false then false else q)=(p&&q):=by cases p<;>rfl
theorem ZLg(p q:Bool):(if p=false then q else true)=(p ||q):=by cases p<;>rfl
section
def ZcE(o:AOp):AOp:=⟨o.dst,o.ins,o.guard,[]⟩
def Zcg:Ze->Ze
 | .region ops chk live=>.region (ops.map ZcE) chk live
 | .seq a b=>.seq (Zcg a) (Zcg b)
 | .cond c a b=>.cond c (Zcg a) (Zcg b)
 | .block id c=>.block id (Zcg c)
 | .loop live c=>.loop live (Zcg c)
 | .range pre live ms en b1 bg ent body rest=>.range (pre.map ZcE) live ms en b1 bg (ent.map ZcE) (Zcg body) (Zcg rest)
 | .skip=>.skip
 | .exit id=>.exit id
 | .ret=>.ret
 | .stuck=>.stuck
def Zk6(f:Zz):Zz:=⟨f.res,Zcg f.body⟩
section
variable {O:ZJ}{bf:Nat->Bool}
theorem ZRw(o:AOp)(s:Nat)(tm:Tms)(σ:Za):ZC O bf (ZcE o) s tm σ=ZC O bf o s tm σ:=rfl
theorem ZoX:∀ (ops:List AOp) (s:Nat) (tm:Tms) (σ:Za),ZN O bf (ops.map ZcE) s tm σ=ZN O bf ops s tm σ
 | [],_,_,_=>rfl
 |o::os,s,tm,σ=>by
  simp only[Xn,ZN,ZRw]
  split
  ·rfl
  ·rfl
  ·rename_i tm' σ' c _ _
   rw[show(ZcE o).ins=o.ins from rfl,ZoX os]
theorem Zte(ops:List AOp):sitesOf (ops.map ZcE)=sitesOf ops:=by
 simp[sitesOf,ZcE,Function.comp_def]
theorem Znv(ops:List AOp)(i:Nat):((ops.map ZcE).getD i default).ins=(ops.getD i default).ins:=by
 simp only[Xi,XX]
 cases ops[i]? <;> rfl
theorem ZLB(ops:List AOp)(b:Nat)(l:List (Nat×Nat))(cs:List Cls):ZdX (ops.map ZcE) b l cs=ZdX ops b l cs:=by
 unfold ZdX
 congr 1
 funext p
 unfold ZcK Zcw
 rw[Znv,Znv,<-XaQ,Zte]
theorem ZDK(ops:List AOp)(b:Nat)(l:List (Nat×Nat))(cs:List Cls):ZiO (ops.map ZcE) b l cs=ZiO ops b l cs:=by
 unfold ZiO
 congr 2
 funext p
 unfold ZcK Zcw
 rw[Znv,Znv,<-XaQ,Zte]
theorem ZDC(ops:List AOp)(chk:Option (List (Nat×Nat)))(live:List Nat)(tm:Tms)(σ:Za):Zb5 O bf (ops.map ZcE) chk live tm σ=Zb5 O bf ops chk live tm σ:=by
 unfold Zb5
 rw[ZoX,Zte]
 cases ZN O bf ops σ.length tm (σ++XA (sitesOf ops) .free)with
 |none=>rfl
 |some q =>
  obtain⟨tm',σ',cs,p⟩:=q
  cases p with
  |some x =>
   cases chk with
   |none=>rfl
   |some l=>simp only[Zdn,ZDK]
  |none =>
   cases chk with
   |none=>rfl
   |some l=>simp only[Zdn,ZLB]
theorem Zv4(ops:List AOp)(tm:Tms)(σ:Za):Zgu bf (ops.map ZcE) tm σ=Zgu bf ops tm σ:=by
 unfold Zgu;rw[ZoX]
section
variable {m:Nat}{live:List Nat}{ms en b1:Nat}{bg:Bool}{ent:List AOp}{run fin:Nat->Tms->Za->Option (ZY×Tms×Za)}
theorem ZyI:ZeV bf ms en b1 bg (ent.map ZcE) run=ZeV bf ms en b1 bg ent run:=by
 funext t B kv tm σ
 unfold ZeV
 rw[Zv4]
theorem ZzJ(es:List (AVal×AVal)):∀ (l:List (AVal×AVal)) (tm:Tms) (σ:Za),ZcA bf m live ms en b1 bg (ent.map ZcE) run es l tm σ=ZcA bf m live ms en b1 bg ent run es l tm σ
 | [],_,_=>rfl
 |kv::l,tm,σ=>by
  simp only[ZcA,ZyI]
  split
  ·split
   ·split
    ·exact ZzJ es l _ _
    ·rfl
   ·rfl
  ·rfl
theorem Zz5(tm:Tms)(σ:Za):Zfm bf m live ms en b1 bg (ent.map ZcE) run fin tm σ=Zfm bf m live ms en b1 bg ent run fin tm σ:=by
 have h:Zdf bf m live ms en b1 bg (ent.map ZcE) run fin=Zdf bf m live ms en b1 bg ent run fin:=by
  funext es l tm σ
  unfold Zdf
  rw[ZzJ]
 have h2:Zhh bf m live ms en b1 bg (ent.map ZcE) run fin=Zhh bf m live ms en b1 bg ent run fin:=by
  funext es tm σ
  unfold Zhh
  rw[h]
 unfold Zfm
 rw[h2,ZyI]
end
theorem Zfl(n:Nat):∀ (c:Ze) (m:Nat),ZS O bf m n (Zcg c)=ZS O bf m n c
 | .region ops chk live,m=>by funext tm σ;simp only[Zcg,ZS,ZDC]
 | .seq a b,m=>by funext tm σ;simp only[Zcg,ZS,Zfl n a,Zfl n b]
 | .cond c a b,m=>by funext tm σ;simp only[Zcg,ZS,Zfl n a,Zfl n b]
 | .block id c,m=>by funext tm σ;simp only[Zcg,ZS,Zfl n c]
 | .loop live c,m=>by funext tm σ;simp only[Zcg,ZS,Zfl n c]
 | .range pre live ms en b1 bg ent body rest,m=>by funext tm σ;simp only[Zcg,ZS,Zv4,Zz5,Zfl n body,Zfl n rest]
 | .skip,m=>by funext tm σ;simp only[Zcg]
 | .exit id,m=>by funext tm σ;simp only[Zcg]
 | .ret,m=>by funext tm σ;simp only[Zcg]
 | .stuck,m=>by funext tm σ;simp only[Zcg]
end
theorem Zzq(fs:Nat->Option Zz)(prim:Zea)(bf:Nat->Bool):∀ n,ZaK (fun f=>(fs f).map Zk6) prim bf n=ZaK fs prim bf n
 |0=>rfl
 |n+1=>by
  funext f args σ
  simp only[ZaK,Zzq fs prim bf n]
  cases prim f with
  |some g=>rfl
  |none =>
   cases fs f with
   |none=>rfl
   |some fn =>
    simp only[XT,Zk6,Zfl]
    rfl
theorem ZKa(fs:Nat->Option Zz)(prim:Zea)(bf:Nat->Bool):EV (fun f=>(fs f).map Zk6) prim bf=EV fs prim bf:=by
 funext f args σ
 apply Zgj
 intro r
 rw[Zei,Zei]
 simp only[Zzq]
end
end
section
open Go.RowKit
def Zil(k bytes:Nat)(args:List AVal)(σ:Za):Option (AVal×Za):=match args with
 | [.str _]=>none
 | [a]=>match Zq σ a with
  |some (xs,_)=>if xs.length*bytes<=140737488355328/\kOk k xs=true then some (.sl σ.length 0 0 xs.length,σ++[.row 0 k xs])else none
  |none=>none
 |_=>none
def Ze3:Ann:={ nt:=8,lr:=fun _=>[7,6,5,4,3,2,0] }
structure ZrJ(P:Program)(t:TypeId)(k bytes:Nat)(z:AVal)(f:FuncId):Prop where
 ex:∃ (F:Func) (e:TypeId) (i0 i1 i2 i3:Nat) (r0 r2 r3:Array Oper) (m b:Oper),
  P.funcs[f]?=some F/\F.results=#[.tmp 2]/\F.ntmps=8/\(F.name == "runtime.NumGoroutine")=false/\P.underlying t=some (.slice e) /\
  F.body=some (.seq (.region i0 r0 false) (.seq (.seq (.region i1 #[m,b] false) (.cond (.tmp 4) (.seq (.region i2 r2 false) .ret) .skip)) (.seq (.region i3 r3 false) .ret))) /\
  m.op=.move (.tmp 0)/\m.dst=some 3/\m.guard=none/\b.op=.binOp .eql t (.tmp 3) (.const (.slice none 0 0)) t/\b.dst=some 4/\b.guard=none /\
  Zcs P Ze3 r0 r0.toList=some [⟨some 2,.mov (.c (.lst true [])),none,[]⟩] /\
  Zcs P Ze3 r2 r2.toList=some [⟨some 2,.mov (.c (.lst true [])),none,[]⟩] /\
  (∃ a1 a2 a3 a4,Zcs P Ze3 r3 r3.toList=some [⟨some 5,.bslice false k 0 z [],none,a1⟩,⟨some 6,.mov (.t 0),none,a2⟩,⟨some 7,.app k bytes z (.t 5) (.t 6),none,a3⟩,⟨some 2,.mov (.t 7),none,a4⟩])/\z.cells.length=k/\0<k
section
variable {P:Program}{base:Nat->Prop}{w0 w w':World}{I0 I:Imm}{β:Bmap}{σ:Za}
theorem ZvS {t : TypeId} {k bytes : Nat} {z : AVal} {f : FuncId} (hm : P.follows .mixedOrders = true) (C : ZrJ P t k bytes z f) {args : List AVal} {σ σ' : Za} {r : AVal} (h : Zil k bytes args σ = some (r, σ')) :
    (∃ fn, P.funcs[f]? = some fn /\ fn.body.isSome = true /\ (fn.name == "runtime.NumGoroutine") = false) /\
    ∀ base w0 I0 I β w (vs : Array Value), KLt base w0 -> Rel base w0 I0 I β σ w -> VRs I β args vs.toList ->
      Calls P f vs w (fun e w' => ∃ u, Ends r e u /\ ZcY σ.length base w0 I0 I β r σ' u w') := by
  obtain ⟨F, e, i0, i1, i2, i3, r0, r2, r3, m, b, hF, hres, hnt, hname, hu, hbody, hm1, hm2, hm3, hb1, hb2, hb3, hc0, hc2, ⟨a1, a2, a3, a4, hc3⟩, hzk, hk0⟩ := C.ex
  refine ⟨⟨F, hF, by rw [hbody]; rfl, hname⟩, ?_⟩
  intro base w0 I0 I β w vs hb R hargs
  unfold Zil at h
  split at h
  case h_1 => cases h
  case h_3 => cases h
  rename_i a hns
  split at h
  case h_2 => cases h
  rename_i xs ts hel0
  split at h
  case isFalse => cases h
  rename_i hc
  obtain ⟨hbytes, hkOk⟩ := hc
  simp only [Xa, Xc] at h
  obtain ⟨rfl, rfl⟩ := h
  have hnt8 : ∀ (n : Nat), n < 8 -> n < Ze3.nt := fun n h => h
  refine calls_of_wp hF hbody ?_
  have hsz : vs.size = 1 := by have := Zae hargs; simpa using this.symm
  have T := Zvc hargs (F.ntmps - vs.size)
  have hst : StR ZcP 8 base w0 I0 I β (enterA 0 [a] []) σ { tmps := vs ++ XaN (F.ntmps - vs.size) undef, defers := [] } w := ⟨I, β, Imm.le.refl I, Bmap.le.refl β, T, ⟨ZjS.2 rfl, by simp; omega⟩, R⟩
  have fin : ∀ {tm : Tms} {σ1 : Za} {y : AVal} {a' : Act} {w1 : World}, StR ZcP 8 base w0 I0 I β tm σ1 a' w1 -> tget tm 2 = y -> (∀ I' β' u, I.le I' -> β.le β' -> Rel base w0 I0 I' β' σ1 w1 -> VR I' β' y u -> ZcY σ.length base w0 I0 I β (.sl σ.length 0 0 xs.length) (σ ++ [.row 0 k xs]) u w1) ->
      a'.defers = [] /\ ∃ v, (results F a'.tmps).run P w1 = .ok v w1 /\ ∃ u, Ends (.sl σ.length 0 0 xs.length) (.returned v) u /\ ZcY σ.length base w0 I0 I β (.sl σ.length 0 0 xs.length) (σ ++ [.row 0 k xs]) u w1 := by
    rintro tm σ1 y a' w1 ⟨I', β', h1, h2, h3, h4, h5⟩ hy hpost
    refine ⟨ZjS.1 h4.1, a'.tmps.getD 2 undef, by simp [results, hres], _, rfl, ?_⟩
    have := h3 2
    rw [hy] at this
    exact hpost I' β' _ h1 h2 h5 this
  have R0 : Zax P Ze3 (.region i0 r0 false) = .region [⟨some 2, .mov (.c (.lst true [])), none, []⟩] none [7, 6, 5, 4, 3, 2, 0] := by simp only [Zax]; rw [hc0]; rfl
  have R2 : Zax P Ze3 (.region i2 r2 false) = .region [⟨some 2, .mov (.c (.lst true [])), none, []⟩] none [7, 6, 5, 4, 3, 2, 0] := by simp only [Zax]; rw [hc2]; rfl
  have R3 : Zax P Ze3 (.region i3 r3 false) = .region [⟨some 5, .bslice false k 0 z [], none, a1⟩, ⟨some 6, .mov (.t 0), none, a2⟩, ⟨some 7, .app k bytes z (.t 5) (.t 6), none, a3⟩, ⟨some 2, .mov (.t 7), none, a4⟩] none [7, 6, 5, 4, 3, 2, 0] := by simp only [Zax]; rw [hc3]; rfl
  refine wp_seq ?_
  refine Zmr (an := Ze3) (dr := ZcP) (bf := fun _ => false) noO (fun n hn => by simp [ZcP] at hn) hm hb R0 hst (e := .normal) (tm' := keepL [7, 6, 5, 4, 3, 2, 0] [(2, .lst true []), (0, a)]) (σ' := σ) ?_ ?_
  . simp [Zb5, Zdn, sitesOf, nsite, ZN, ZC, Zbh, execI, Opd.ev, tput, tins, enterA]
  intro a1' w1 hst1
  simp only [Exit.then]
  refine wp_seq (wp_seq ?_)
  refine wp_region_list ?_
  refine ZgQ hm3 ?_
  obtain ⟨I1, β1, g1, g2, g3, g4, g5⟩ := hst1
  have hs8 : 8 <= a1'.tmps.size := g4.2
  have hT0 : VR I1 β1 a (a1'.tmps.getD 0 undef) := by have := g3 0; simpa [keepL, tget] using this
  obtain ⟨A, cap, hv0, q1, q2, q5, q4⟩ := Zr5 g5 (fun l e => hns l e) hel0 hT0
  show m.wp P a1' w1 _ _
  unfold Oper.wp
  have e1 : (execOp a1'.eval m).run P w1 = .ok (.value (.slice A xs.length cap)) w1 := by
    unfold execOp; rw [hm1]; simp [Act.eval, hv0]
  rw [e1, Oper.upon_value, hm2]
  refine ZgQ hb3 ?_
  unfold Oper.wp
  have hs3 : (a1'.put (some 3) (.slice A xs.length cap)).tmps.getD 3 undef = .slice A xs.length cap := by
    have : 3 < a1'.tmps.size := by omega
    simp [Act.put, Xaz, this]
  have e2 : (execOp (a1'.put (some 3) (.slice A xs.length cap)).eval b).run P w1 = .ok (.value (.bool A.isNone)) w1 := by
    have hq : (Op.equal t (.slice A xs.length cap) (.slice none 0 0)).run P w1 = .ok A.isNone w1 := run_equal_slice_nil w1 t e A xs.length cap hu
    unfold execOp; rw [hb1]
    simp only [Act.eval]
    rw [hs3]
    simp [eqGuard, binOp, hq]
  rw [e2, Oper.upon_value, hb2]
  refine wpList_nil ?_
  have hst2 : StR ZcP 8 base w0 I0 I β [(4, .bool A.isNone), (2, .lst true []), (0, a)] σ ((a1'.put (some 3) (.slice A xs.length cap)).put (some 4) (.bool A.isNone)) w1 := by
    refine ⟨I1, β1, g1, g2, fun n => ?_, ⟨ZhO (ZhO g4.1 (fun n _ hm => by simp [ZcP] at hm)) (fun n _ hm => by simp [ZcP] at hm), by rw [Zd6, Zd6]; exact g4.2⟩, g5⟩
    have hs : 4 < (a1'.put (some 3) (.slice A xs.length cap)).tmps.size := by rw [Zd6]; omega
    have ne : ∀ {a : Act} {d j : Nat} {u : Value}, d ≠ j -> (a.put (some d) u).tmps.getD j undef = a.tmps.getD j undef := by
      intro a d j u hne
      simp only [Act.put, WL]; rw [XN hne]
    simp only [tget]
    split
    . rename_i e; subst e
      rw [show ((a1'.put (some 3) (.slice A xs.length cap)).put (some 4) (.bool A.isNone)).tmps.getD 4 undef = .bool A.isNone by
        simp only [Act.put] at hs ⊢
        simp [Xaz] at hs ⊢
        omega]
      simp only [VR]
    . split
      . rename_i e; subst e
        rw [ne (by omega), ne (by omega)]
        have := g3 2; simpa [keepL, tget] using this
      . split
        . rename_i e; subst e
          rw [ne (by omega), ne (by omega)]
          have := g3 0; simpa [keepL, tget] using this
        . simp only [VR]
  simp only [Exit.then]
  cases hA : A.isNone with
  | true =>
    have hx0 : xs = [] := by
      rcases q4 with h | ⟨b, off, k', us, e, _⟩
      . exact h
      . rw [e] at hA; cases hA
    subst hx0
    have hev : ((a1'.put (some 3) (.slice A 0 cap)).put (some 4) (.bool A.isNone)).eval (.tmp 4) = .bool true := by
      obtain ⟨_, _, _, _, T, _, _⟩ := hst2
      have := T 4
      simp only [tget, if_true, VR] at this
      rw [hA] at this
      simpa [Act.eval, hA] using this
    refine wp_cond_true (by simpa [hA] using hev) ?_
    refine wp_seq ?_
    rw [hA] at hst2
    refine Zmr (an := Ze3) (dr := ZcP) (bf := fun _ => false) noO (fun n hn => by simp [ZcP] at hn) hm hb R2 hst2 (e := .normal) (tm' := keepL [7, 6, 5, 4, 3, 2, 0] [(4, .bool true), (2, .lst true []), (0, a)]) (σ' := σ) ?_ ?_
    . simp [Zb5, Zdn, sitesOf, nsite, ZN, ZC, Zbh, execI, Opd.ev, tput, tins]
    intro a3' w3 hst3
    simp only [Exit.then]
    refine wp_ret ?_
    refine fin hst3 (y := .lst true []) (by simp [keepL, tget]) ?_
    intro I' β' u h1 h2 h3 h4
    simp only [VR] at h4
    obtain ⟨A', cap', rfl, _, _, hx, _⟩ := h4
    have hcap : cap' = 0 := by simpa using hx
    subst hcap
    have R4 := h3.reserve 1
    have hfree : (σ ++ XA 1 Zx.free)[σ.length]? = some .free := by simp
    obtain ⟨R5, hle⟩ := R4.newNone hfree k hk0
    refine ⟨I', _, h1, KeptE.of_le (h2.trans hle), ?_, ?_⟩
    . have : (σ ++ XA 1 Zx.free).set σ.length (.row 0 k []) = σ ++ [.row 0 k []] := by simp
      rw [this] at R5; exact R5
    . simp only [ZaC]
      rw [ZcV]
      exact ⟨_, Bmap.put_same β' σ.length 0 _, by simp, by simp, Xt ⟨rfl, rfl, A', rfl⟩⟩
  | false =>
    have hev : ((a1'.put (some 3) (.slice A xs.length cap)).put (some 4) (.bool A.isNone)).eval (.tmp 4) = .bool false := by
      obtain ⟨_, _, _, _, T, _, _⟩ := hst2
      have := T 4
      simp only [tget, if_true, VR] at this
      rw [hA] at this
      simpa [Act.eval, hA] using this
    refine wp_cond_false (by simpa [hA] using hev) ?_
    refine wp_skip ?_
    rw [hA] at hst2
    simp only [Exit.then]
    refine wp_seq ?_
    have hel : Zq (σ ++ [Zx.free]) a = some (xs, ts) := Zhe hel0 (fun t ht => by
      obtain ⟨g, k, ys, h | h⟩ := ZmH hel0 t ht <;> (rw [List.getElem?_append_left (Xh.1 h).1]))
    refine Zmr (an := Ze3) (dr := ZcP) (bf := fun _ => false) noO (fun n hn => by simp [ZcP] at hn) hm hb R3 hst2 (e := .normal) (tm' := keepL [7, 6, 5, 4, 3, 2, 0] [(7, .sl σ.length 0 0 xs.length), (6, a), (5, .lst true []), (4, .bool false), (2, .sl σ.length 0 0 xs.length), (0, a)]) (σ' := σ ++ [.row 0 k xs]) ?_ ?_
    . have hfa : freeAt (σ ++ [Zx.free]) σ.length = true := by simp [freeAt]
      have hnp : (∃ x ys, a = .lst x ys) \/ ∃ t g lo n, a = .sl t g lo n := by
        cases a with
        | lst x ys => exact Xp ⟨x, ys, rfl⟩
        | sl t g lo n => exact Xt ⟨t, g, lo, n, rfl⟩
        | str l => exact absurd rfl (hns l)
        | _ => simp [Zq] at hel0
      rcases hnp with ⟨x, ys, rfl⟩ | ⟨t', g', lo, n, rfl⟩
      . simp [Zb5, Zdn, sitesOf, nsite, ZN, ZC, Zbh, execI, Opd.ev, tput, tins, tget, viewAs, Zj, hzk, ZI, hel, hkOk, hbytes, hfa]
      . simp [Zb5, Zdn, sitesOf, nsite, ZN, ZC, Zbh, execI, Opd.ev, tput, tins, tget, viewAs, Zj, hzk, ZI, hel, hkOk, hbytes, hfa]
    intro a3' w3 hst3
    simp only [Exit.then]
    refine wp_ret ?_
    refine fin hst3 (y := .sl σ.length 0 0 xs.length) (by simp [keepL, tget]) ?_
    intro I' β' u h1 h2 h3 h4
    exact ⟨I', β', h1, KeptE.of_le h2, h3, h4⟩
end
end
section
open Go.RowKit
def Zty(args:List AVal)(σ:Za):Option (AVal×Za):=match args with
 | [.str l]=>some (.bool (Lib.validD l),σ)
 |_=>none
section
variable {P:Program}{base:Nat->Prop}{w0 w w':World}{I0 I:Imm}{β:Bmap}{σ:Za}
theorem ZRr{f:Nat}(hf:∃ fn,P.funcs[f]?=some fn/\fn.body.isSome=true/\(fn.name == "runtime.NumGoroutine")=false){args:List AVal}{r:AVal}{u:Value}(hn:∀ x,r≠.pan x)(hr:∀ I β,VR I β r u)
  (h:∀ base w0 I0 I β w (vs:Array Value),Rel base w0 I0 I β σ w->VRs I β args vs.toList->Calls P f vs w (fun e w'=>e=.returned u/\Below w.heap.size w w')) :
  (∃ fn,P.funcs[f]?=some fn/\fn.body.isSome=true/\(fn.name == "runtime.NumGoroutine")=false) /\
  ∀ base w0 I0 I β w (vs:Array Value),KLt base w0->Rel base w0 I0 I β σ w->VRs I β args vs.toList ->
   Calls P f vs w (fun e w'=>∃ u,Ends r e u/\ZcY σ.length base w0 I0 I β r σ u w'):=by
 refine⟨hf,fun base w0 I0 I β w vs hb R hv=>(h base w0 I0 I β w vs R hv).mono ?_⟩
 rintro e w' ⟨rfl,hB⟩
 have hbw:=R.base_le hb
 refine⟨u,?_,I,β,Imm.le.refl I,KeptE.refl _ β,R.stay (Imm.le.refl I) ⟨hB.os,hB.tape,hB.output,hB.size,fun k hk=>hB.block k (hbw k hk)⟩ (fun _ _ _=>rfl) ?_ ?_,by rw[Zf7 hn];exact hr I β⟩
 ·cases r<;>first |rfl |exact absurd rfl (hn _)
 ·intro b o x hx
  have h1:=R.imm b o x hx
  have hlt:=ZdN h1
  rw[<-h1]
  simp only[World.cell?,hB.block b hlt]
 ·intro t x b hx hb'
  exact⟨hB.block b ((R.blk t x hx).owns_lt hb'),(R.own t x b hx hb').2⟩
theorem ZQE(R:Rel base w0 I0 I β σ w):Lib.Utf8Tabs 0 1 w:=by
 refine⟨fun c hc=>R.imm _ _ _ (R.glob _ _ _ (by simp[Gl,hc])),fun i hi=>⟨R.imm _ _ _ (R.glob _ _ _ ?_),R.imm _ _ _ (R.glob _ _ _ ?_)⟩⟩
 ·have h1:2*i<32:=by omega
  have h2:2*i%2=0:=by omega
  have h3:2*i/2=i:=by omega
  simp[Gl,h1,h3]
 ·have h1:2*i+1<32:=by omega
  have h2:(2*i+1)%2=1:=by omega
  have h3:(2*i+1)/2=i:=by omega
  simp[Gl,h1,h2,h3]
theorem ZRv{f:Nat}(hf:∃ fn,P.funcs[f]?=some fn/\fn.body.isSome=true/\(fn.name == "runtime.NumGoroutine")=false)
  (hc:∀ (s:ByteArray) (w:World),s.size<=9223372036854775807->Lib.Utf8Tabs 0 1 w->Calls P f #[.string s] w fun e w'=>e=.returned (.bool (Lib.validD s.data.toList))/\Below w.heap.size w w') {args:List AVal} {σ σ':Za} {r:AVal} (h:Zty args σ=some (r,σ')) :
  (∃ fn,P.funcs[f]?=some fn/\fn.body.isSome=true/\(fn.name == "runtime.NumGoroutine")=false) /\
  ∀ base w0 I0 I β w (vs:Array Value),KLt base w0->Rel base w0 I0 I β σ w->VRs I β args vs.toList ->
   Calls P f vs w (fun e w'=>∃ u,Ends r e u/\ZcY σ.length base w0 I0 I β r σ' u w'):=by
 unfold Zty at h
 split at h
 case h_2=>cases h
 rename_i l
 simp only[Xa,Xc]at h
 obtain⟨rfl,rfl⟩:=h
 refine ZRr hf (u:=.bool (Lib.validD l)) (by simp) (fun _ _=>by simp only[VR]) ?_
 intro base w0 I0 I β w vs R hv
 obtain⟨vs⟩:=vs
 simp only[VRs,VR]at hv
 obtain⟨v1,r1,e1,⟨rfl,hl⟩,rfl⟩:=hv
 subst e1
 refine(hc ⟨l.toArray⟩ w (by simpa[WM]using hl) (ZQE R)).mono ?_
 rintro e w' ⟨rfl,hB⟩
 exact⟨by simp,hB⟩
end
end
section
def Ze0{α:Type}(d:α):List (Nat×α)->Nat->α
 | [],_=>d
 |(k,v)::r,n=>if k=n then v else Ze0 d r n
def ZA(own raw:List Nat)(cfg cfg2:List (Nat×Nat×Bool))(lr ll:List (Nat×List Nat)):Ann:={ own:=fun n=>if own.contains n then 1 else if raw.contains n then 2 else if raw.contains (n+1000000)then 3 else if raw.contains (n+2000000)then 4 else if raw.contains (n+3000000)then 5 else if raw.contains (n+4000000)then 6 else if raw.contains (n+5000000)then 7 else 0,cfg:=Ze0 (0,true) cfg,cfg2:=Ze0 (0,true) cfg2,lr:=Ze0 [] lr,ll:=Ze0 [] ll }
def ZEt:List (Nat×Ann):=[
 (46,ZA [] [] [(71,0,false),(70,1,false)] [] [(0,[0]),(1,[5,4,3,0]),(2,[4,3,0]),(3,[3]),(4,[2])] []),
 (48,ZA [] [] [(71,0,false)] [] [(0,[1,0]),(1,[4])] []),
 (71,ZA [] [] [] [] [(0,[1,0]),(1,[18,1,0]),(2,[]),(3,[4]),(4,[5,1,0]),(5,[5]),(6,[4])] []),
 (49,ZA [] [] [(71,0,false)] [] [(0,[0]),(1,[5,4,3,0]),(2,[4,3,0]),(3,[3]),(4,[2])] []),
 (47,ZA [] [] [] [] [(0,[0]),(1,[4]),(2,[3,2])] []),
 (39,ZA [] [] [] [] [(0,[2,0]),(1,[3,2,0]),(2,[3,2,0]),(3,[3,2,0]),(4,[3,2,0]),(5,[3,2,0]),(6,[6,5,4,3,2,0]),(7,[4,3,2]),(8,[3,2]),(9,[2])] []),
 (13,ZA [] [] [] [] [(0,[2,0]),(1,[4,2,0]),(2,[5,4,2,0]),(3,[28,5,2]),(4,[3,2]),(5,[3,2])] []),
 (15,ZA [] [] [(46,1,false)] [] [(0,[2,0]),(1,[4,2,0]),(2,[6,5,4,2,0]),(3,[7,6,4,2,0]),(4,[7,6,4,2,0]),(5,[8,7,4,2,0]),(6,[42,41,8,7,4,2,0]),(7,[43,42,41,8,7,4,2,0]),(8,[42,41,9,8,7,4,2,0]),(9,[42,41,9,8,7,4,2,0]),(10,[42,41,8,7,4,2,0]),(11,[42,41,8,7,4,2,0]),(12,[8,7,4,2,0]),(13,[84,7,2]),(14,[3,2]),(15,[3,2])] [(7,[42,41,8,7,4,2,0])]),
 (70,ZA [] [] [(34,1,false)] [] [(0,[0]),(1,[17,0]),(2,[4,3,2]),(3,[3,0]),(4,[4,3,2])] []),
 (33,ZA [] [] [] [] [(0,[1,0]),(1,[6,1,0]),(2,[16,15,14,6,1,0]),(3,[17,16,15,14,6,1,0]),(4,[16,15,14,8,6,1,0]),(5,[16,15,14,6,1,0]),(6,[16,15,14,6,1,0]),(7,[10,9,6,1,0]),(8,[32,9,6,1,0]),(9,[5,4]),(10,[6,1,0]),(11,[13,12,11,6,1]),(12,[57,6]),(13,[5,4]),(14,[5,4])] [(3,[16,15,14,6,1,0])]),
 (60,ZA [] [] [(85,1,false)] [] [(0,[4,1,0]),(1,[9,8,7,4,1,0]),(2,[29,8,7,4,1,0]),(3,[6,5,4]),(4,[10,8,7,4,0]),(5,[38,10,8,7,4,0]),(6,[13,12,11,10,8,7,4,0]),(7,[48,13,12,11,10,8,7,4,0]),(8,[6,5,4]),(9,[12,10,8,7,4,0]),(10,[10,8,7,4,0]),(11,[6,5,4])] [(5,[10,8,7,4,0])]),
 (85,ZA [] [] [(97,1,false)] [] [(0,[6,2,1,0]),(1,[11,10,9,6,2,1,0]),(2,[28,10,9,6,2,1,0]),(3,[8,7,6]),(4,[12,10,9,7,6,2,0]),(5,[14,12,10,9,7,6,0]),(6,[45,14,10,9,7,6,0]),(7,[8,7,6]),(8,[49,10,9,7,6]),(9,[8,7,6]),(10,[58,10,9,7,6]),(11,[8,7,6]),(12,[65,6]),(13,[8,7,6]),(14,[8,7,6])] []),
 (97,ZA [] [] [(70,1,false)] [] [(0,[5,4,1,0]),(1,[5,4,1,0]),(2,[7,5,4,1,0]),(3,[12,7,5,4,1,0]),(4,[13,12,7,5,4,1,0]),(5,[13,12,7,5,4,1,0]),(6,[13,12,7,5,4,1,0]),(7,[7,5,4,1]),(8,[24,7,5,4,1]),(9,[6,5,4]),(10,[7,5,4]),(11,[32,12,7,5,4,1]),(12,[7,5,4]),(13,[41,12,7,5,4,1]),(14,[7,5,4]),(15,[50,12,7,5,4,1]),(16,[7,5,4]),(17,[59,7,5,4,1]),(18,[7,5,4,1]),(19,[69,7,5,4,1]),(20,[5,4,1]),(21,[8,7,5,4]),(22,[7,5,4]),(23,[6,5,4])] []),
 (46,ZA [] [] [] [] [(0,[0]),(1,[5,4,3,0]),(2,[4,3,0]),(3,[3]),(4,[2])] []),
 (48,ZA [] [] [] [] [(0,[1,0]),(1,[4])] []),
 (71,ZA [] [] [] [] [(0,[1,0]),(1,[18,1,0]),(2,[]),(3,[4]),(4,[5,1,0]),(5,[5]),(6,[4])] []),
 (49,ZA [] [] [] [] [(0,[0]),(1,[5,4,3,0]),(2,[4,3,0]),(3,[3]),(4,[2])] []),
 (47,ZA [] [] [] [] [(0,[0]),(1,[4]),(2,[3,2])] []),
 (39,ZA [] [] [] [] [(0,[2,0]),(1,[3,2,0]),(2,[3,2,0]),(3,[3,2,0]),(4,[3,2,0]),(5,[3,2,0]),(6,[6,5,4,3,2,0]),(7,[4,3,2]),(8,[3,2]),(9,[2])] []),
 (43,ZA [] [] [] [] [(0,[0]),(1,[3,0]),(2,[18,3,0]),(3,[]),(4,[2]),(5,[2])] []),
 (44,ZA [] [] [] [] [(0,[1,0]),(1,[4])] []),
 (63,ZA [] [] [] [] [(0,[1,0]),(1,[18,1,0]),(2,[1]),(3,[4]),(4,[5,1,0]),(5,[5]),(6,[4])] []),
 (42,ZA [] [] [] [] [(0,[0]),(1,[2])] []),
 (4,ZA [] [] [] [] [(0,[2,1]),(1,[3,2,1]),(2,[33,3,2,1]),(3,[3,2,1]),(4,[4,2,1]),(5,[5,4,2,1]),(6,[53,5,4,2,1]),(7,[5,4,2,1]),(8,[5,4,2,1]),(9,[71,4,2,1]),(10,[4,2]),(11,[2])] [(6,[5,4,2,1])]),
 (24,ZA [] [] [] [] [(0,[1]),(1,[3,1]),(2,[7,3,1]),(3,[3,1]),(4,[18,3,1]),(5,[3,1]),(6,[29,3,1]),(7,[3,1]),(8,[4,3,1]),(9,[45,4,3,1]),(10,[4,3,1]),(11,[4,3,1]),(12,[2])] [(9,[4,3,1])]),
 (41,ZA [] [] [] [] [(0,[1,0]),(1,[4])] []),
 (77,ZA [6] [] [(93,1,false)] [(75,1,false)] [(0,[2,1]),(1,[2,1]),(2,[2,1]),(3,[15,14,2,1]),(4,[16,15,14,2,1]),(5,[15,14,3,2,1]),(6,[15,14,2,1]),(7,[15,14,2,1]),(8,[2])] [(4,[15,14,2,1])]),
 (53,ZA [] [] [] [] [(0,[2,1]),(1,[4])] []),
 (8,ZA [] [] [] [] [(0,[1]),(1,[3,1]),(2,[5,3,1]),(3,[7,5,3,1]),(4,[9,7,5,3,1]),(5,[2])] []),
 (9,ZA [] [] [(34,1,false)] [] [(0,[1]),(1,[3,1]),(2,[5,3,1]),(3,[7,5,1]),(4,[39,38,37,7,5]),(5,[40,39,38,37,7,5]),(6,[39,38,37,9,7,5]),(7,[39,38,37,7,5]),(8,[39,38,37,7,5]),(9,[2])] [(5,[39,38,37,7,5])]),
 (51,ZA [] [] [(75,1,false)] [] [(0,[8,4,3,2,1]),(1,[9,8,4,3]),(2,[11,10,9,8,3]),(3,[31,10,9,8,3]),(4,[9,8]),(5,[8])] []),
 (52,ZA [] [] [(77,2,false)] [] [(0,[8,4,3,2,1]),(1,[9,8,4,3,2,1]),(2,[10,9,8,4,3,2,1]),(3,[29,10,9,8,4,3,2,1]),(4,[10,9,8,4,1]),(5,[36,10,9,8,4,1]),(6,[10,8,4]),(7,[51,50,49,10,8]),(8,[52,51,50,49,10,8]),(9,[51,50,49,12,10,8]),(10,[51,50,49,10,8]),(11,[51,50,49,10,8]),(12,[8])] [(8,[51,50,49,10,8])]),
 (13,ZA [] [] [] [] [(0,[2,0]),(1,[4,2,0]),(2,[5,4,2,0]),(3,[28,5,2]),(4,[3,2]),(5,[3,2])] []),
 (15,ZA [] [] [] [] [(0,[2,0]),(1,[4,2,0]),(2,[6,5,4,2,0]),(3,[7,6,4,2,0]),(4,[7,6,4,2,0]),(5,[8,7,4,2,0]),(6,[42,41,8,7,4,2,0]),(7,[43,42,41,8,7,4,2,0]),(8,[42,41,9,8,7,4,2,0]),(9,[42,41,9,8,7,4,2,0]),(10,[42,41,8,7,4,2,0]),(11,[42,41,8,7,4,2,0]),(12,[8,7,4,2,0]),(13,[84,7,2]),(14,[3,2]),(15,[3,2])] [(7,[42,41,8,7,4,2,0])]),
 (36,ZA [] [] [] [] [(0,[0]),(1,[2])] []),
 (62,ZA [] [] [] [] [(0,[0]),(1,[2])] []),
 (35,ZA [] [] [] [] [(0,[1,0]),(1,[5,0]),(2,[0]),(3,[4])] []),
 (40,ZA [] [] [] [] [(0,[1]),(1,[2])] []),
 (32,ZA [] [] [] [] [(0,[0]),(1,[6,0]),(2,[3,2]),(3,[3,2])] []),
 (72,ZA [] [] [] [] [(0,[0]),(1,[3,0]),(2,[8,7,6,3]),(3,[9,8,7,6,3]),(4,[8,7,6,5,3]),(5,[8,7,6,3]),(6,[8,7,6,3]),(7,[2])] [(3,[8,7,6,3])]),
 (70,ZA [] [] [] [] [(0,[0]),(1,[17,0]),(2,[4,3,2]),(3,[3,0]),(4,[4,3,2])] []),
 (73,ZA [] [] [] [] [(0,[0]),(1,[5,4,3]),(2,[12,5,4,3]),(3,[4,3,2]),(4,[16,5,3]),(5,[4,3,2]),(6,[4,3,2])] []),
 (84,ZA [] [] [] [] [(0,[2,0]),(1,[9,8,7,2,0]),(2,[10,9,8,7,2,0]),(3,[9,8,7,6,5,2,0]),(4,[15,9,8,7,6,5,2,0]),(5,[9,8,7,6,5,2,0]),(6,[25,9,8,7,6,5,2,0]),(7,[31,5,2]),(8,[4,3,2]),(9,[4,3,2]),(10,[9,8,7,2,0]),(11,[38]),(12,[4,3,2]),(13,[4,3,2])] [(2,[9,8,7,2,0])]),
 (57,ZA [] [] [] [] [(0,[0]),(1,[6,0]),(2,[8,7,6,0]),(3,[6,4,0]),(4,[11,6,0]),(5,[2]),(6,[2])] [(2,[6,0])]),
 (34,ZA [] [] [] [] [(0,[0]),(1,[3,0]),(2,[8,7,6,3]),(3,[9,8,7,6,3]),(4,[8,7,6,5,3]),(5,[8,7,6,3]),(6,[8,7,6,3]),(7,[2])] [(3,[8,7,6,3])]),
 (37,ZA [] [] [] [] [(0,[1,0]),(1,[12,1,0]),(2,[4]),(3,[5,1,0]),(4,[6,5,0]),(5,[18,6,5,0]),(6,[6,5,0]),(7,[6,5,0]),(8,[6,5,0]),(9,[4])] [(5,[6,5,0])]),
 (31,ZA [] [] [] [] [(0,[0]),(1,[6,0]),(2,[3,2]),(3,[3,2])] []),
 (59,ZA [] [] [] [] [(0,[0]),(1,[10,0]),(2,[3,2]),(3,[4,0]),(4,[12,4,0]),(5,[4,0]),(6,[4,0]),(7,[3,2])] [(4,[4,0])]),
 (76,ZA [] [] [] [] [(0,[4,1,0]),(1,[10,9,8,4,0]),(2,[11,10,9,8,4,0]),(3,[10,9,8,7,4,0]),(4,[17,10,9,8,7,4,0]),(5,[5,4]),(6,[10,9,8,4,0]),(7,[5,4])] [(2,[10,9,8,4,0])]),
 (83,ZA [] [] [] [] [(0,[0]),(1,[2])] []),
 (33,ZA [] [] [] [] [(0,[1,0]),(1,[6,1,0]),(2,[16,15,14,6,1,0]),(3,[17,16,15,14,6,1,0]),(4,[16,15,14,8,6,1,0]),(5,[16,15,14,6,1,0]),(6,[16,15,14,6,1,0]),(7,[10,9,6,1,0]),(8,[32,9,6,1,0]),(9,[5,4]),(10,[6,1,0]),(11,[13,12,11,6,1]),(12,[57,6]),(13,[5,4]),(14,[5,4])] [(3,[16,15,14,6,1,0])]),
 (96,ZA [] [] [] [] [(0,[1,0]),(1,[4])] []),
 (88,ZA [] [] [] [] [(0,[1,0]),(1,[5,1,0]),(2,[10,9,8,5,1]),(3,[11,10,9,8,5,1]),(4,[10,9,8,7,5,1]),(5,[17,10,9,8,7,5,1]),(6,[10,9,8,5,1]),(7,[10,9,8,5,1]),(8,[4])] [(3,[10,9,8,5,1])]),
 (60,ZA [] [] [] [] [(0,[4,1,0]),(1,[9,8,7,4,1,0]),(2,[29,8,7,4,1,0]),(3,[6,5,4]),(4,[10,8,7,4,0]),(5,[38,10,8,7,4,0]),(6,[13,12,11,10,8,7,4,0]),(7,[48,13,12,11,10,8,7,4,0]),(8,[6,5,4]),(9,[12,10,8,7,4,0]),(10,[10,8,7,4,0]),(11,[6,5,4])] [(5,[10,8,7,4,0])]),
 (61,ZA [] [] [] [] [(0,[1,0]),(1,[4])] []),
 (87,ZA [] [] [] [] [(0,[3,2]),(1,[4])] []),
 (101,ZA [] [] [] [] [(0,[0]),(1,[3,0]),(2,[8,7,6,3]),(3,[9,8,7,6,3]),(4,[8,7,6,5,3]),(5,[8,7,6,3]),(6,[8,7,6,3]),(7,[2])] [(3,[8,7,6,3])]),
 (92,ZA [] [] [] [] [(0,[2,1]),(1,[2,1]),(2,[2])] []),
 (99,ZA [] [] [] [] [(0,[1]),(1,[4,1]),(2,[5,4,1]),(3,[5,4,1]),(4,[5,4,1]),(5,[5,1]),(6,[2]),(7,[2])] []),
 (58,ZA [] [] [] [] [(0,[1]),(1,[3,1]),(2,[6,5,3,1]),(3,[15,6,5,3,1]),(4,[16,15,6,5,3,1]),(5,[16,15,6,5,3,1]),(6,[16,15,6,5,3,1]),(7,[6,5,3]),(8,[29,15,6,5,3,1]),(9,[6,5,3]),(10,[37,15,6,5,3,1]),(11,[6,5,3]),(12,[45,15,6,5,3,1]),(13,[6,5,3]),(14,[53,6,5,3,1]),(15,[5,3,1]),(16,[6,5,3]),(17,[2])] []),
 (95,ZA [] [] [] [] [(0,[2,0]),(1,[3,2]),(2,[4,3,2]),(3,[2]),(4,[9,3,2]),(5,[2]),(6,[14,3,2]),(7,[14,3,2]),(8,[2]),(9,[20,3,2]),(10,[2]),(11,[25,3,2]),(12,[2]),(13,[30,3,2]),(14,[2]),(15,[35,3,2]),(16,[35,3,2]),(17,[2]),(18,[41,3,2]),(19,[2]),(20,[46,3,2]),(21,[2]),(22,[51,3,2]),(23,[2]),(24,[56,3,2]),(25,[56,3,2]),(26,[2]),(27,[62,3,2]),(28,[2]),(29,[67,3,2]),(30,[2]),(31,[72,3,2]),(32,[2]),(33,[77,3,2]),(34,[77,3,2]),(35,[2]),(36,[83,3,2]),(37,[2]),(38,[88,3,2]),(39,[2]),(40,[93,3,2]),(41,[93,3,2]),(42,[93,3,2]),(43,[93,3,2]),(44,[93,3,2]),(45,[2]),(46,[102,2]),(47,[2]),(48,[2])] []),
 (98,ZA [] [] [] [] [(0,[1,0]),(1,[4])] []),
 (85,ZA [] [] [] [] [(0,[6,2,1,0]),(1,[11,10,9,6,2,1,0]),(2,[28,10,9,6,2,1,0]),(3,[8,7,6]),(4,[12,10,9,7,6,2,0]),(5,[14,12,10,9,7,6,0]),(6,[45,14,10,9,7,6,0]),(7,[8,7,6]),(8,[49,10,9,7,6]),(9,[8,7,6]),(10,[58,10,9,7,6]),(11,[8,7,6]),(12,[65,6]),(13,[8,7,6]),(14,[8,7,6])] []),
 (97,ZA [] [] [] [] [(0,[5,4,1,0]),(1,[5,4,1,0]),(2,[7,5,4,1,0]),(3,[12,7,5,4,1,0]),(4,[13,12,7,5,4,1,0]),(5,[13,12,7,5,4,1,0]),(6,[13,12,7,5,4,1,0]),(7,[7,5,4,1]),(8,[24,7,5,4,1]),(9,[6,5,4]),(10,[7,5,4]),(11,[32,12,7,5,4,1]),(12,[7,5,4]),(13,[41,12,7,5,4,1]),(14,[7,5,4]),(15,[50,12,7,5,4,1]),(16,[7,5,4]),(17,[59,7,5,4,1]),(18,[7,5,4,1]),(19,[69,7,5,4,1]),(20,[5,4,1]),(21,[8,7,5,4]),(22,[7,5,4]),(23,[6,5,4])] []),
 (100,ZA [] [] [] [] [(0,[1,0]),(1,[4])] []),
 (86,ZA [] [] [] [] [(0,[2,1,0]),(1,[14,2,1,0]),(2,[6]),(3,[17,16,15,2,1]),(4,[18,17,16,15,2,1]),(5,[17,16,15,8,7,2,1]),(6,[17,16,15,9,8,2,1]),(7,[30,17,16,15,2,1]),(8,[6]),(9,[17,16,15,2,1]),(10,[6])] [(4,[17,16,15,2,1])]),
 (102,ZA [] [] [] [] [(0,[1,0]),(1,[8,7,1,0]),(2,[9,8,7,1,0]),(3,[8,7,5,1,0]),(4,[16,8,7,5,1,0]),(5,[4]),(6,[8,7,1,0]),(7,[4])] [(2,[8,7,1,0])]),
 (20,ZA [] [] [] [] [(0,[1,0]),(1,[10,1,0]),(2,[4]),(3,[5,1,0]),(4,[30,0]),(5,[4]),(6,[6,0]),(7,[34,6,0]),(8,[6,0]),(9,[6,0]),(10,[4])] [(7,[6,0])]),
 (10,ZA [] [] [] [] [(0,[1,0]),(1,[8,1,0]),(2,[4]),(3,[4])] []),
 (12,ZA [] [] [] [] [(0,[0]),(1,[3,0]),(2,[3,0]),(3,[3,0]),(4,[2])] []),
 (7,ZA [] [] [] [] [(0,[1,0]),(1,[4])] []),
 (38,ZA [] [] [] [] [(0,[0]),(1,[3,0]),(2,[2])] []),
 (23,ZA [] [] [] [] [(0,[2,1,0]),(1,[7,1,0]),(2,[7,1,0]),(3,[16,7,1,0]),(4,[1,0]),(5,[6])] []),
 (3,ZA [] [] [(12,1,false)] [] [(0,[4,3,2,1]),(1,[9,3,2,1]),(2,[10,9,3,2,1]),(3,[12,10,9,3,2,1]),(4,[50,12,10,3,2,1]),(5,[8]),(6,[12,10,3,2,1]),(7,[14]),(8,[15,14]),(9,[68,15,14]),(10,[15,14]),(11,[16,15,14]),(12,[18,17,16,15,14]),(13,[20,19,18,17,16,15,14]),(14,[22,21,20,19,18,17,16,15,14]),(15,[24,23,22,21,20,19,18,17,16,15,14]),(16,[144,15,14]),(17,[8]),(18,[8])] [(9,[15,14])]),
 (17,ZA [] [] [] [] [(0,[0]),(1,[2])] []),
 (22,ZA [] [] [] [] [(0,[0]),(1,[3,0]),(2,[4,3,0]),(3,[12,4,3,0]),(4,[4,3,0]),(5,[4,3,0]),(6,[2])] [(3,[4,3,0])]),
 (11,ZA [] [] [(38,1,false)] [] [(0,[2,1,0]),(1,[7,2,1]),(2,[12,7,2,1]),(3,[6]),(4,[7,2,1]),(5,[20,7,2,1]),(6,[6]),(7,[7]),(8,[6])] []),
 (21,ZA [3] [] [] [] [(0,[]),(1,[1]),(2,[2,1]),(3,[0])] []),
 (26,ZA [] [] [(30,1,false)] [] [(0,[0]),(1,[6,0]),(2,[3,2]),(3,[3,2])] []),
 (64,ZA [] [] [] [] [(0,[0]),(1,[3,0]),(2,[4,3,0]),(3,[8,4,3,0]),(4,[4,3,0]),(5,[4,3,0]),(6,[2])] [(3,[4,3,0])]),
 (91,ZA [] [] [] [] [(0,[0]),(1,[8,0]),(2,[4,3,2]),(3,[5,0]),(4,[17,5,0]),(5,[4,3,2]),(6,[4,3,2])] []),
 (90,ZA [] [] [] [] [(0,[0]),(1,[7,6,5]),(2,[15,7,6,5]),(3,[4,3,2]),(4,[20,6,5]),(5,[4,3,2]),(6,[4,3,2])] []),
 (65,ZA [] [] [] [] [(0,[0]),(1,[6,5,0]),(2,[7,6,5,0]),(3,[9,7,6,5,0]),(4,[7,6,5,0]),(5,[15,7,6,5,0]),(6,[4,3,2]),(7,[7,6,5,0]),(8,[7,6,5,0]),(9,[32,7,6,5,0]),(10,[41,7,5]),(11,[4,3,2]),(12,[4,3,2]),(13,[4,3,2])] [(3,[7,6,5,0])]),
 (54,ZA [] [] [] [] [(0,[0]),(1,[6,0]),(2,[4,3,0]),(3,[17,4,0]),(4,[2]),(5,[0]),(6,[2])] [(1,[0])]),
 (30,ZA [] [] [] [] [(0,[1,0]),(1,[12,1,0]),(2,[4]),(3,[5,1,0]),(4,[6,5,0]),(5,[18,6,5,0]),(6,[6,5,0]),(7,[6,5,0]),(8,[6,5,0]),(9,[4])] [(5,[6,5,0])]),
 (25,ZA [] [] [(26,1,false)] [] [(0,[0]),(1,[6,0]),(2,[3,2]),(3,[3,2])] []),
 (80,ZA [] [] [] [] [(0,[0]),(1,[10,0]),(2,[3,2]),(3,[4,0]),(4,[12,4,0]),(5,[4,0]),(6,[4,0]),(7,[3,2])] [(4,[4,0])]),
 (78,ZA [] [] [] [] [(0,[0]),(1,[4,0]),(2,[4,0]),(3,[3,2]),(4,[11,4,0]),(5,[3,2]),(6,[15,4,0]),(7,[6,5,4,0]),(8,[24,4,0]),(9,[6,5,4,0]),(10,[33,4,0]),(11,[6,5,4,0]),(12,[45,6,5,4,0]),(13,[3,2]),(14,[7,6,5,4,0]),(15,[48,7,6,5,4,0]),(16,[7,6,5,4,0]),(17,[60,7,6,5,4,0]),(18,[3,2]),(19,[7,6,5,4,0]),(20,[83,5,4]),(21,[3,2]),(22,[3,2])] [(15,[7,6,5,4,0])]),
 (74,ZA [] [] [] [] [(0,[3,2]),(1,[4])] []),
 (55,ZA [] [] [] [] [(0,[0]),(1,[4,0]),(2,[5,4,0]),(3,[14,5,4,0]),(4,[5,4,0]),(5,[6,5,4,0]),(6,[28,6,5,4,0]),(7,[3,2]),(8,[6,5,4,0]),(9,[8,7,5,4,0]),(10,[41,7,5,4,0]),(11,[3,2]),(12,[5,4,0]),(13,[10,9,4]),(14,[3,2])] [(3,[5,4,0])]),
 (68,ZA [] [] [] [] [(0,[4,1,0]),(1,[6,4,1,0]),(2,[10,6,4,1,0]),(3,[6,4,1,0]),(4,[19,6,4,1,0]),(5,[5,4]),(6,[5,4])] [(2,[6,4,1,0])]),
 (89,ZA [] [] [] [] [(0,[0]),(1,[3]),(2,[4,3]),(3,[4,3]),(4,[4,3]),(5,[4,3]),(6,[4,3]),(7,[4,3]),(8,[4,3]),(9,[4,3]),(10,[2]),(11,[13,3]),(12,[13,3]),(13,[13,3]),(14,[13,3]),(15,[2]),(16,[18,3]),(17,[18,3]),(18,[18,3]),(19,[18,3]),(20,[2]),(21,[23,3]),(22,[2]),(23,[25,3]),(24,[25,3]),(25,[25,3]),(26,[25,3]),(27,[25,3]),(28,[25,3]),(29,[25,3]),(30,[2]),(31,[33,3]),(32,[33,3]),(33,[2]),(34,[36]),(35,[2]),(36,[2])] []),
 (27,ZA [] [] [] [] [(0,[1,0]),(1,[7,6,1,0]),(2,[17,6,1,0]),(3,[5,4]),(4,[10,9,8,6,1]),(5,[38,6]),(6,[5,4]),(7,[5,4])] []),
 (66,ZA [] [] [] [] [(0,[1,0]),(1,[5,1]),(2,[6,5,1]),(3,[6,5,1]),(4,[6,5,1]),(5,[6,5,1]),(6,[6,5,1]),(7,[4]),(8,[15,5,1]),(9,[4]),(10,[20,5,1]),(11,[4]),(12,[25,5,1]),(13,[25,5,1]),(14,[25,5,1]),(15,[25,5,1]),(16,[25,5,1]),(17,[25,5,1]),(18,[25,5,1]),(19,[25,5,1]),(20,[4]),(21,[36,5,1]),(22,[36,5,1]),(23,[4]),(24,[42,5,1]),(25,[42,5,1]),(26,[4]),(27,[47,5,1]),(28,[4]),(29,[51,5,1]),(30,[4]),(31,[56,5,1]),(32,[4]),(33,[61,5,1]),(34,[61,5,1]),(35,[61,5,1]),(36,[4]),(37,[68,5,1]),(38,[4]),(39,[72,1]),(40,[4]),(41,[4])] []),
 (56,ZA [] [] [] [] [(0,[1,0]),(1,[5,1,0]),(2,[6,5,1,0]),(3,[10,6,5,1,0]),(4,[6,5,1,0]),(5,[19,6,5,1,0]),(6,[6,5,1,0]),(7,[4])] [(3,[6,5,1,0])]),
 (45,ZA [] [] [] [] [(0,[1,0]),(1,[9,8,7,1,0]),(2,[36,8,7,1,0]),(3,[6,5,4]),(4,[10,8,7,0]),(5,[11,10,8,7,0]),(6,[45,11,10,8,7,0]),(7,[14,13,12,11,10,8,7,0]),(8,[59,13,12,11,10,8,7,0]),(9,[6,5,4]),(10,[17,16,15,13,12,11,10,8,7,0]),(11,[70,16,15,13,12,11,10,8,7,0]),(12,[6,5,4]),(13,[19,16,15,13,12,11,10,8,7,0]),(14,[90,16,15,13,12,11,10,8,7,0]),(15,[6,5,4]),(16,[20,16,15,13,11,10,8,7,0]),(17,[96,20,16,15,13,11,10,8,7,0]),(18,[6,5,4]),(19,[16,13,11,10,8,7,0]),(20,[11,10,8,7,0]),(21,[6,5,4])] [(6,[11,10,8,7,0])]),
 (50,ZA [] [] [] [] [(0,[1,0]),(1,[10,1,0]),(2,[4]),(3,[5,1,0]),(4,[14,5,1,0]),(5,[5,1,0]),(6,[26,5,1,0]),(7,[4]),(8,[4])] [(4,[5,1,0])]),
 (81,ZA [] [] [] [] [(0,[1,0]),(1,[5,1,0]),(2,[9,5,1,0]),(3,[5,1,0]),(4,[17,5,1,0]),(5,[4]),(6,[4])] [(2,[5,1,0])]),
 (79,ZA [] [] [(25,1,false)] [] [(0,[1]),(1,[16,1]),(2,[17,16,1]),(3,[3,2]),(4,[31,16,1]),(5,[3,2]),(6,[45,16,1]),(7,[3,2]),(8,[59,16,1]),(9,[5,4]),(10,[3,2]),(11,[70,16,1]),(12,[7,6]),(13,[3,2]),(14,[81,16,1]),(15,[9,8]),(16,[3,2]),(17,[92,1]),(18,[11,10,1]),(19,[13,12,11,10]),(20,[3,2]),(21,[3,2])] []),
 (69,ZA [] [] [] [] [(0,[1,0]),(1,[5,1]),(2,[6,5,1]),(3,[6,5,1]),(4,[6,5,1]),(5,[6,5,1]),(6,[6,5,1]),(7,[6,5,1]),(8,[6,5,1]),(9,[6,5,1]),(10,[16]),(11,[4]),(12,[17,5,1]),(13,[17,5,1]),(14,[17,5,1]),(15,[22]),(16,[4]),(17,[23,1]),(18,[26]),(19,[4]),(20,[4])] []),
 (67,ZA [] [] [] [] [(0,[4,1,0]),(1,[7,4,1,0]),(2,[8,7,4,1,0]),(3,[26,8,7,4,1]),(4,[27,26,8,7,4,1]),(5,[8,7,4,1]),(6,[29,26,8,7,4,1]),(7,[8,7,4,1]),(8,[31,26,8,7,4,1]),(9,[8,7,4,1]),(10,[33,26,8,7,4,1]),(11,[11,10,9,7,4]),(12,[11,10,7,4]),(13,[6,5,4]),(14,[47,26,8,7,4,1]),(15,[14,13,12,7,4]),(16,[14,13,7,4]),(17,[6,5,4]),(18,[61,26,8,7,4,1]),(19,[17,16,15,7,4]),(20,[17,16,7,4]),(21,[6,5,4]),(22,[77,8,7,4,1]),(23,[20,19,18,7,4,1]),(24,[86,19,18,7,4,1]),(25,[6,5,4]),(26,[22,21,20,19,18,7,4]),(27,[22,20,19,7,4]),(28,[6,5,4]),(29,[109,8,7,4,1]),(30,[6,5,4]),(31,[8,7,4]),(32,[6,5,4])] []),
 (28,ZA [] [] [] [] [(0,[0]),(1,[2])] []),
 (5,ZA [] [] [] [] [(0,[1]),(1,[5,4,1]),(2,[7,6,5,4,1]),(3,[9,8,7,6,5,4,1]),(4,[11,10,9,8,7,6,5,4,1]),(5,[12,10,8,6,4,1]),(6,[12,10,8,6,4,1]),(7,[13,12,10,8,1]),(8,[13,12,10,1]),(9,[13,12,10,1]),(10,[3,2])] []),
 (6,ZA [] [] [] [] [(0,[1]),(1,[5,4,1]),(2,[7,6,5,1]),(3,[9,8,7,6,5,1]),(4,[8,6,5,1]),(5,[10,8,5,1]),(6,[11,10,8,5,1]),(7,[72,11,10,8,5,1]),(8,[11,10,8,5,1]),(9,[11,10,8,5,1]),(10,[11,10,8,5,1]),(11,[3,2])] [(7,[11,10,8,5,1])]),
 (14,ZA [] [] [] [] [(0,[2,0]),(1,[4,2,0]),(2,[5,4,2,0]),(3,[6,5,4,2,0]),(4,[5,4,2,0]),(5,[5,4,2,0]),(6,[5,4,2,0]),(7,[48,5,4,2,0]),(8,[9,8,7,5,4,2,0]),(9,[7,5,4,2,0]),(10,[5,4,2,0]),(11,[11,10,5,4,2,0]),(12,[93,5,2]),(13,[3,2]),(14,[3,2])] []),
 (16,ZA [] [] [] [] [(0,[2,0]),(1,[4,2,0]),(2,[6,5,4,2,0]),(3,[7,6,4,2,0]),(4,[8,7,6,4,2,0]),(5,[7,6,4,2,0]),(6,[9,7,6,4,2,0]),(7,[10,9,7,6,4,2,0]),(8,[44,10,9,7,6,4,2,0]),(9,[10,9,7,6,4,2,0]),(10,[10,9,7,6,4,2,0]),(11,[7,6,4,2,0]),(12,[12,11,7,6,4,2,0]),(13,[80,7,2]),(14,[3,2]),(15,[3,2])] [(8,[10,9,7,6,4,2,0])]),
 (18,ZA [] [] [] [] [(0,[3,2]),(1,[4])] []),
 (19,ZA [] [] [] [] [(0,[3,2]),(1,[41,3,2]),(2,[4]),(3,[5,3,2]),(4,[46,5,3,2]),(5,[5,3,2]),(6,[59,5,3,2]),(7,[4]),(8,[4])] [(4,[5,3,2])]),
 (29,ZA [] [] [] [] [(0,[1,0]),(1,[5,0]),(2,[4]),(3,[4])] []),
 (1000000,{})]
def ann:Nat->Ann:=Ze0 {} ZEt
def ZKB:List (Nat×Bool):=[
 (60,true),
 (13,true),
 (15,true),
 (20,true),
 (1000000,false)]
def BY:Nat->Bool:=Ze0 false ZKB
noncomputable def CF:Nat->Option Zz:=Zjn Tryd.prog ann
noncomputable def FC:Nat->Option Zz:=fun f=>(CF f).map Zk6
def Zx0:List (Nat×Option (List AVal->Za->Option (AVal×Za))):=[
 (75,some (Zil 1 1)),
 (93,some (Zil 5 72)),
 (82,some (Zty)),
 (1000000,none)]
def PR:Zea:=Ze0 none Zx0
theorem xw(c d:Ze)(h:c=d)(m:Nat)(tm:Tms)(σ:Za):evC FC PR BY m c tm σ=evC FC PR BY m d tm σ:=by rw[h]
def pcA:List Nat->Ze->Ze
 |0::p,.seq a _ |0::p,.cond _ a _ |_::p,.block _ a |_::p,.loop _ a |0::p,.range _ _ _ _ _ _ _ a _=>pcA p a
 |_::p,.seq _ b |_::p,.cond _ _ b |_::p,.range _ _ _ _ _ _ _ _ b=>pcA p b
 |_,c=>c
def prA(x:Ze):List Nat->Ze->Ze
 | [],_=>x
 |0::p,.seq a b=>.seq (prA x p a) b
 |_::p,.seq a b=>.seq a (prA x p b)
 |0::p,.cond c a b=>.cond c (prA x p a) b
 |_::p,.cond c a b=>.cond c a (prA x p b)
 |_::p,.block i a=>.block i (prA x p a)
 |_::p,.loop l a=>.loop l (prA x p a)
 |0::p,.range a b c d e f g x' y=>.range a b c d e f g (prA x p x') y
 |_::p,.range a b c d e f g x' y=>.range a b c d e f g x' (prA x p y)
 |_,c=>c
noncomputable def ZJc(n:Nat)(p:List Nat)(q:List (List Nat×Ze)):Ze:=match FC n with
 |some f=>q.foldl (fun c x=>prA x.2 x.1 c) (pcA p f.body)
 |none=>.stuck
def Zb(n:Nat)(p:List Nat)(q:List (List Nat×Ze)){c:Ze}(_:ZJc n p q=c):Ze:=c
theorem zi(n:Nat):Int.ofNat (no_index (@OfNat.ofNat Nat n (instOfNatNat n)))=@OfNat.ofNat Int n instOfNat:=rfl
theorem zb(n:Nat)(h:n<2^8):UInt8.ofBitVec (BitVec.ofFin (Fin.mk n h))=@OfNat.ofNat UInt8 n UInt8.instOfNat:=by
 apply UInt8.toNat_inj.1;simp[UInt8.toNat];omega
noncomputable abbrev E:ZJ:=EV FC PR BY
theorem Zg{f:Nat}{fn:Zz}(hp:PR f=none)(hf:FC f=some fn)(args:List AVal)(σ:Za):E f args σ=Zac σ.length fn (evC FC PR BY σ.length fn.body (enterA 0 args []) σ):=ZRA hp hf args σ
end
section
def Ztf:Ze:=by apply Zb 76 [1,1] [];conv=>lhs;reduce;dsimp only[zi]
@[irreducible] def ZpB:Ze:=Ztf
def ZGA:=xw ZpB Ztf (by kernel_rfl)
def Zj3:Ze:=by apply Zb 76 [1,0,1,0,0] [];conv=>lhs;reduce;dsimp only[zi]
@[irreducible] def ZnB:Ze:=Zj3
def Zn0:=xw ZnB Zj3 (by kernel_rfl)
def Zqe:Ze:=by apply Zb 76 [] [([1,0,1,0,0],ZnB),([1,1],ZpB)];conv=>lhs;reduce;dsimp only[zi]
def Zl5:Zz:=⟨[(.cell 4 (some 5)),(.tmp 5)],Zqe⟩
theorem ZRt:FC 76=some Zl5:=by kernel_rfl
theorem ZRn:Zl5.body=Zqe:=rfl
theorem Zt1:Zl5.res=[(.cell 4 (some 5)),(.tmp 5)]:=rfl
noncomputable def ZkE(m:Nat)(tm:Tms)(σ:Za):Option (AVal×Za):=(Zac m Zl5 (Zaz FC PR BY m ZpB (XY (Zah 0) (evL FC PR BY m [10,9,8,4,0] ZnB tm σ))))
def Zn4:Ze:=by apply Zb 83 [] [];conv=>lhs;reduce;dsimp only[zi]
def ZsX:Zz:=⟨[(.tmp 2)],Zn4⟩
theorem ZK1:FC 83=some ZsX:=by kernel_rfl
theorem ZH7:ZsX.body=Zn4:=rfl
theorem ZBO:ZsX.res=[(.tmp 2)]:=rfl
def Zgm:Ze:=by apply Zb 33 [1,1,1] [];conv=>lhs;reduce;dsimp only[zi]
@[irreducible] def Zo2:Ze:=Zgm
def Zir:=xw Zo2 Zgm (by kernel_rfl)
def Ze6:Ze:=by apply Zb 33 [1,1,0,1,0,0] [];conv=>lhs;reduce;dsimp only[zi]
@[irreducible] def Zrz:Ze:=Ze6
def Zf6:=xw Zrz Ze6 (by kernel_rfl)
def Zl1:Ze:=by apply Zb 33 [] [([1,1,0,1,0,0],Zrz),([1,1,1],Zo2)];conv=>lhs;reduce;dsimp only[zi]
def Zmk:Zz:=⟨[(.tmp 4),(.tmp 5)],Zl1⟩
theorem Zuv:FC 33=some Zmk:=by kernel_rfl
theorem Zyl:Zmk.body=Zl1:=rfl
theorem ZiQ:Zmk.res=[(.tmp 4),(.tmp 5)]:=rfl
noncomputable def Zkd(m:Nat)(tm:Tms)(σ:Za):Option (AVal×Za):=(Zac m Zmk (Zaz FC PR BY m Zo2 (XY (Zah 0) (evL FC PR BY m [16,15,14,6,1,0] Zrz tm σ))))
def Zjz:Ze:=by apply Zb 96 [] [];conv=>lhs;reduce;dsimp only[zi]
def Zqx:Zz:=⟨[(.tmp 4)],Zjz⟩
theorem ZBf:FC 96=some Zqx:=by kernel_rfl
theorem ZsP:Zqx.body=Zjz:=rfl
theorem ZrF:Zqx.res=[(.tmp 4)]:=rfl
def Zkw:Ze:=(.seq (.region [oM 24 5,oM 4 24] none [4]) .ret)
@[irreducible] def ZsR:Ze:=Zkw
def Zu2:=xw ZsR Zkw (by kernel_rfl)
def ZfX:Ze:=by apply Zb 88 [1,1,0,1,0,0] [];conv=>lhs;reduce;dsimp only[zi]
@[irreducible] def Zqa:Ze:=ZfX
def Zhu:=xw Zqa ZfX (by kernel_rfl)
def Ztr:Ze:=by apply Zb 88 [] [([1,1,0,1,0,0],Zqa),([1,1,1],ZsR)];conv=>lhs;reduce;dsimp only[zi]
def Zmd:Zz:=⟨[(.tmp 4)],Ztr⟩
theorem ZBC:FC 88=some Zmd:=by kernel_rfl
theorem ZNF:Zmd.body=Ztr:=rfl
theorem Zxa:Zmd.res=[(.tmp 4)]:=rfl
noncomputable def Zkc(m:Nat)(tm:Tms)(σ:Za):Option (AVal×Za):=(Zac m Zmd (Zaz FC PR BY m ZsR (XY (Zah 0) (evL FC PR BY m [10,9,8,5,1] Zqa tm σ))))
def Zii:Ze:=by apply Zb 60 [1,1,1,1] [];conv=>lhs;reduce;dsimp only[zi]
@[irreducible] def ZqC:Ze:=Zii
def ZmF:=xw ZqC Zii (by kernel_rfl)
def ZbW:Ze:=by apply Zb 60 [1,1,1,0,1,0,0] [];conv=>lhs;reduce;dsimp only[zi]
@[irreducible] def Zp8:Ze:=ZbW
def Zch:=xw Zp8 ZbW (by kernel_rfl)
def Zfj:Ze:=by apply Zb 60 [] [([1,1,1,0,1,0,0],Zp8),([1,1,1,1],ZqC)];conv=>lhs;reduce;dsimp only[zi]
def ZlH:Zz:=⟨[(.tmp 4),(.tmp 5),(.tmp 6)],Zfj⟩
theorem Zhj:FC 60=some ZlH:=by kernel_rfl
theorem Zhf:ZlH.body=Zfj:=rfl
theorem ZcU:ZlH.res=[(.tmp 4),(.tmp 5),(.tmp 6)]:=rfl
noncomputable def Zes(m:Nat)(tm:Tms)(σ:Za):Option (AVal×Za):=(Zac m ZlH (Zaz FC PR BY m ZqC (XY (Zah 0) (evL FC PR BY m [10,8,7,4,0] Zp8 tm σ))))
def Zsd:Ze:=by apply Zb 61 [] [];conv=>lhs;reduce;dsimp only[zi]
def Zpy:Zz:=⟨[(.tmp 4)],Zsd⟩
theorem Zz8:FC 61=some Zpy:=by kernel_rfl
theorem ZFz:Zpy.body=Zsd:=rfl
theorem ZHB:Zpy.res=[(.tmp 4)]:=rfl
def Zre:Ze:=by apply Zb 87 [] [];conv=>lhs;reduce;dsimp only[zi]
def ZrW:Zz:=⟨[(.tmp 4)],Zre⟩
theorem ZFl:FC 87=some ZrW:=by kernel_rfl
theorem ZFK:ZrW.body=Zre:=rfl
theorem ZA5:ZrW.res=[(.tmp 4)]:=rfl
def ZqU:Ze:=by apply Zb 92 [] [];conv=>lhs;reduce;dsimp only[zi]
def ZqH:Zz:=⟨[(.cell 2 (some 5))],ZqU⟩
theorem ZIH:FC 92=some ZqH:=by kernel_rfl
theorem ZDr:ZqH.body=ZqU:=rfl
theorem ZLk:ZqH.res=[(.cell 2 (some 5))]:=rfl
def ZsC:Ze:=by apply Zb 99 [] [];conv=>lhs;reduce;dsimp only[zi]
def Zp9:Zz:=⟨[(.tmp 2)],ZsC⟩
theorem ZSk:FC 99=some Zp9:=by kernel_rfl
theorem ZDE:Zp9.body=ZsC:=rfl
theorem ZRc:Zp9.res=[(.tmp 2)]:=rfl
def Ze2:Ze:=by apply Zb 58 [] [];conv=>lhs;reduce;dsimp only[zi]
def ZrT:Zz:=⟨[(.tmp 2)],Ze2⟩
theorem Zgz:FC 58=some ZrT:=by kernel_rfl
theorem ZfV:ZrT.body=Ze2:=rfl
theorem Zf5:ZrT.res=[(.tmp 2)]:=rfl
def Zok:Ze:=by apply Zb 95 [] [];conv=>lhs;reduce;dsimp only[zi]
def Zqj:Zz:=⟨[(.cell 2 (some 2))],Zok⟩
theorem ZEV:FC 95=some Zqj:=by kernel_rfl
theorem ZCD:Zqj.body=Zok:=rfl
theorem ZR5:Zqj.res=[(.cell 2 (some 2))]:=rfl
def Ztk:Ze:=by apply Zb 98 [] [];conv=>lhs;reduce;dsimp only[zi]
def Zsi:Zz:=⟨[(.tmp 4)],Ztk⟩
theorem ZBP:FC 98=some Zsi:=by kernel_rfl
theorem ZQN:Zsi.body=Ztk:=rfl
theorem Zz1:Zsi.res=[(.tmp 4)]:=rfl
def Zc4:Ze:=by apply Zb 85 [] [];conv=>lhs;reduce;dsimp only[zi]
def Zr2:Zz:=⟨[(.cell 6 (some 5)),(.tmp 7),(.tmp 8)],Zc4⟩
theorem ZdC:FC 85=some Zr2:=by kernel_rfl
theorem Zdv:Zr2.body=Zc4:=rfl
theorem Zdy:Zr2.res=[(.cell 6 (some 5)),(.tmp 7),(.tmp 8)]:=rfl
def Zdh:Ze:=by apply Zb 97 [] [];conv=>lhs;reduce;dsimp only[zi]
def Zsl:Zz:=⟨[(.cell 4 (some 5)),(.tmp 5),(.tmp 6)],Zdh⟩
theorem Zd2:FC 97=some Zsl:=by kernel_rfl
theorem ZdS:Zsl.body=Zdh:=rfl
theorem ZdU:Zsl.res=[(.cell 4 (some 5)),(.tmp 5),(.tmp 6)]:=rfl
def Zpw:Ze:=by apply Zb 74 [] [];conv=>lhs;reduce;dsimp only[zi]
def ZqL:Zz:=⟨[(.tmp 4)],Zpw⟩
theorem ZQc:FC 74=some ZqL:=by kernel_rfl
theorem ZJU:ZqL.body=Zpw:=rfl
theorem ZSt:ZqL.res=[(.tmp 4)]:=rfl
def Znl:Ze:=by apply Zb 55 [1,1,1] [];conv=>lhs;reduce;dsimp only[zi]
@[irreducible] def Zs5:Ze:=Znl
def Zwi:=xw Zs5 Znl (by kernel_rfl)
def Zeh:Ze:=by apply Zb 55 [1,1,0,1,0,0] [];conv=>lhs;reduce;dsimp only[zi]
@[irreducible] def Zpb:Ze:=Zeh
def ZeN:=xw Zpb Zeh (by kernel_rfl)
def Zh2:Ze:=by apply Zb 55 [] [([1,1,0,1,0,0],Zpb),([1,1,1],Zs5)];conv=>lhs;reduce;dsimp only[zi]
def Zlb:Zz:=⟨[(.tmp 2),(.tmp 3)],Zh2⟩
theorem Zk7:FC 55=some Zlb:=by kernel_rfl
theorem Zkx:Zlb.body=Zh2:=rfl
theorem ZfZ:Zlb.res=[(.tmp 2),(.tmp 3)]:=rfl
noncomputable def Zhq(m:Nat)(tm:Tms)(σ:Za):Option (AVal×Za):=(Zac m Zlb (Zaz FC PR BY m Zs5 (XY (Zah 0) (evL FC PR BY m [5,4,0] Zpb tm σ))))
def ZoC:Ze:=by apply Zb 68 [1,1] [];conv=>lhs;reduce;dsimp only[zi]
@[irreducible] def ZqE:Ze:=ZoC
def ZPe:=xw ZqE ZoC (by kernel_rfl)
def Zjy:Ze:=by apply Zb 68 [1,0,1,0,0] [];conv=>lhs;reduce;dsimp only[zi]
@[irreducible] def ZpD:Ze:=Zjy
def ZpG:=xw ZpD Zjy (by kernel_rfl)
def ZrQ:Ze:=by apply Zb 68 [] [([1,0,1,0,0],ZpD),([1,1],ZqE)];conv=>lhs;reduce;dsimp only[zi]
def Zm5:Zz:=⟨[(.cell 4 (some 5)),(.tmp 5)],ZrQ⟩
theorem ZON:FC 68=some Zm5:=by kernel_rfl
theorem ZSN:Zm5.body=ZrQ:=rfl
theorem Zzz:Zm5.res=[(.cell 4 (some 5)),(.tmp 5)]:=rfl
noncomputable def Zm2(m:Nat)(tm:Tms)(σ:Za):Option (AVal×Za):=(Zac m Zm5 (Zaz FC PR BY m ZqE (XY (Zah 0) (evL FC PR BY m [6,4,1,0] ZpD tm σ))))
def ZpS:Ze:=by apply Zb 89 [] [];conv=>lhs;reduce;dsimp only[zi]
def ZpY:Zz:=⟨[(.tmp 2)],ZpS⟩
theorem ZKp:FC 89=some ZpY:=by kernel_rfl
theorem ZQb:ZpY.body=ZpS:=rfl
theorem ZNB:ZpY.res=[(.tmp 2)]:=rfl
def ZgK:Ze:=by apply Zb 27 [] [];conv=>lhs;reduce;dsimp only[zi]
def ZoG:Zz:=⟨[(.tmp 4),(.tmp 5)],ZgK⟩
theorem ZhY:FC 27=some ZoG:=by kernel_rfl
theorem ZhD:ZoG.body=ZgK:=rfl
theorem Zij:ZoG.res=[(.tmp 4),(.tmp 5)]:=rfl
def Za2:Ze:=by apply Zb 66 [] [];conv=>lhs;reduce;dsimp only[zi]
def ZqB:Zz:=⟨[(.tmp 4)],Za2⟩
theorem Za9:FC 66=some ZqB:=by kernel_rfl
theorem Za7:ZqB.body=Za2:=rfl
theorem Zbc:ZqB.res=[(.tmp 4)]:=rfl
def Zmf:Ze:=(.seq (.region [oM 27 5,oM 4 27] none [4]) .ret)
@[irreducible] def ZpA:Ze:=Zmf
def Zvs:=xw ZpA Zmf (by kernel_rfl)
def ZgG:Ze:=by apply Zb 56 [1,1,0,1,0,0] [];conv=>lhs;reduce;dsimp only[zi]
@[irreducible] def Zr1:Ze:=ZgG
def ZhQ:=xw Zr1 ZgG (by kernel_rfl)
def ZnI:Ze:=by apply Zb 56 [] [([1,1,0,1,0,0],Zr1),([1,1,1],ZpA)];conv=>lhs;reduce;dsimp only[zi]
def ZmT:Zz:=⟨[(.tmp 4)],ZnI⟩
theorem ZF0:FC 56=some ZmT:=by kernel_rfl
theorem ZMs:ZmT.body=ZnI:=rfl
theorem ZvM:ZmT.res=[(.tmp 4)]:=rfl
noncomputable def Zkh(m:Nat)(tm:Tms)(σ:Za):Option (AVal×Za):=(Zac m ZmT (Zaz FC PR BY m ZpA (XY (Zah 0) (evL FC PR BY m [6,5,1,0] Zr1 tm σ))))
def Zl0:Ze:=by apply Zb 45 [1,1,1,1,1,1] [];conv=>lhs;reduce;dsimp only[zi]
@[irreducible] def Zsw:Ze:=Zl0
def Zw8:=xw Zsw Zl0 (by kernel_rfl)
def Zbs:Ze:=by apply Zb 45 [1,1,1,1,1,0,0,0] [];conv=>lhs;reduce;dsimp only[zi]
@[irreducible] def Zrq:Ze:=Zbs
def ZbL:=xw Zrq Zbs (by kernel_rfl)
def Zka:Ze:=by apply Zb 45 [] [([1,1,1,1,1,0,0,0],Zrq),([1,1,1,1,1,1],Zsw)];conv=>lhs;reduce;dsimp only[zi]
def Zmv:Zz:=⟨[(.tmp 4),(.tmp 5),(.tmp 6)],Zka⟩
theorem Zn8:FC 45=some Zmv:=by kernel_rfl
theorem Zoh:Zmv.body=Zka:=rfl
theorem Zcl:Zmv.res=[(.tmp 4),(.tmp 5),(.tmp 6)]:=rfl
noncomputable def Zc7(m:Nat)(tm:Tms)(σ:Za):Option (AVal×Za):=(Zac m Zmv (Zaz FC PR BY m Zsw (XY (Zah 0) (evL FC PR BY m [11,10,8,7,0] Zrq tm σ))))
def Zpd:Ze:=(.seq (.region [oI 4 (.mov (.c (.bool true)))] none [4]) .ret)
@[irreducible] def Zri:Ze:=Zpd
def ZFQ:=xw Zri Zpd (by kernel_rfl)
def ZlU:Ze:=by apply Zb 50 [1,1,0,1,0,0] [];conv=>lhs;reduce;dsimp only[zi]
@[irreducible] def ZoO:Ze:=ZlU
def ZvD:=xw ZoO ZlU (by kernel_rfl)
def ZkQ:Ze:=by apply Zb 50 [] [([1,1,0,1,0,0],ZoO),([1,1,1],Zri)];conv=>lhs;reduce;dsimp only[zi]
def ZlM:Zz:=⟨[(.tmp 4)],ZkQ⟩
theorem ZRM:FC 50=some ZlM:=by kernel_rfl
theorem ZyY:ZlM.body=ZkQ:=rfl
theorem ZsW:ZlM.res=[(.tmp 4)]:=rfl
noncomputable def Zlz(m:Nat)(tm:Tms)(σ:Za):Option (AVal×Za):=(Zac m ZlM (Zaz FC PR BY m Zri (XY (Zah 0) (evL FC PR BY m [5,1,0] ZoO tm σ))))
def Zsn:Ze:=(.seq (.region [oI 4 (.mov (.c (.bool false)))] none [4]) .ret)
@[irreducible] def ZtG:Ze:=Zsn
def ZJJ:=xw ZtG Zsn (by kernel_rfl)
def Zji:Ze:=by apply Zb 81 [1,0,1,0,0] [];conv=>lhs;reduce;dsimp only[zi]
@[irreducible] def Zs6:Ze:=Zji
def Zo8:=xw Zs6 Zji (by kernel_rfl)
def ZsN:Ze:=by apply Zb 81 [] [([1,0,1,0,0],Zs6),([1,1],ZtG)];conv=>lhs;reduce;dsimp only[zi]
def ZmX:Zz:=⟨[(.tmp 4)],ZsN⟩
theorem ZLb:FC 81=some ZmX:=by kernel_rfl
theorem ZMD:ZmX.body=ZsN:=rfl
theorem Zvf:ZmX.res=[(.tmp 4)]:=rfl
noncomputable def ZlW(m:Nat)(tm:Tms)(σ:Za):Option (AVal×Za):=(Zac m ZmX (Zaz FC PR BY m ZtG (XY (Zah 0) (evL FC PR BY m [5,1,0] Zs6 tm σ))))
def ZcS:Ze:=by apply Zb 79 [] [];conv=>lhs;reduce;dsimp only[zi]
def Zp3:Zz:=⟨[(.tmp 2),(.tmp 3)],ZcS⟩
theorem ZfO:FC 79=some Zp3:=by kernel_rfl
theorem Zdb:Zp3.body=ZcS:=rfl
theorem Zdo:Zp3.res=[(.tmp 2),(.tmp 3)]:=rfl
def ZjU:Ze:=by apply Zb 69 [] [];conv=>lhs;reduce;dsimp only[zi]
def Zo0:Zz:=⟨[(.tmp 4)],ZjU⟩
theorem Zue:FC 69=some Zo0:=by kernel_rfl
theorem Zqq:Zo0.body=ZjU:=rfl
theorem Ztg:Zo0.res=[(.tmp 4)]:=rfl
def ZdF:Ze:=by apply Zb 67 [] [];conv=>lhs;reduce;dsimp only[zi]
def ZrL:Zz:=⟨[(.cell 4 (some 5)),(.tmp 5),(.tmp 6)],ZdF⟩
theorem ZeJ:FC 67=some ZrL:=by kernel_rfl
theorem Zej:ZrL.body=ZdF:=rfl
theorem Zd9:ZrL.res=[(.cell 4 (some 5)),(.tmp 5),(.tmp 6)]:=rfl
end
section
open Go.RowKit
inductive Ty where
 |bool
 |int (k:IntKind)
 |str
 |slice (s:Bool) (e:Ty)
 |struct (fs:List Ty)
 deriving Inhabited
def ZdT:Option TypeDesc->Bool
 |some (.struct _)=>true
 |some (.array _ _)=>true
 |_=>false
def ZjW(P:Program):Nat->List Field->Nat->Bool
 |at',[],n=>at'==n
 |at',f::fs,n=>f.offset==at'&&ZjW P (at'+P.cellsOf f.type) fs n
def ZdA(P:Program):Nat->TypeId->Option Ty
 |0,_=>none
 |n+1,t=>match P.underlying t with
  |some .bool=>some .bool
  |some (.int k)=>some (.int k)
  |some .string=>some .str
  |some (.slice e)=>if 0<P.cellsOf e then(ZdA P n e).map (.slice (ZdT (P.underlying e)))else none
  |some (.struct fs)=>if ZjW P 0 fs.toList (P.cellsOf t)then(fs.toList.mapM fun f=>ZdA P n f.type).map .struct else none
  |_=>none
def ZcB(s:Bool)(y:List AVal):AVal:=if s then .agg y else y.headD .nilp
mutual
def TyC:Ty->List AVal->Prop
 | .bool,xs=>∃ b,xs=[.bool b]
 | .int k,xs=>∃ n,(Lit.int k n).wf=true/\xs=[.int k n]
 | .str,xs=>∃ l:List UInt8,l.length<=9223372036854775807/\xs=[.str l]
 | .slice s e,xs=>∃ ys:List (List AVal),xs=[.lst false (ys.map (ZcB s))]/\ys.length<=9223372036854775807/\∀ y∈ys,TyC e y
 | .struct fs,xs=>Zho fs xs
def Zho:List Ty->List AVal->Prop
 | [],xs=>xs=[]
 |f::fs,xs=>∃ a b,xs=a++b/\TyC f a/\Zho fs b
end
def Imm.of(w:World):Imm:=fun b o=>w.cell? ⟨b,o,none⟩
section
variable {H:Type}{enc:TypeId×Value->H}{P:Program}{w:World}{spare:Nat->Bool}{held:Bool}
theorem ZEz{b off:Nat}{s:Option Nat}{u:Value}(h:w.cell? ⟨b,off,s⟩=some u):s=none:=by
 unfold World.cell? at h
 split at h
 ·rcases s with _ |s
  ·rfl
  ·simp at h
 ·cases h
theorem ZA2{s:Bool}{y:List AVal}(h:s=false->y.length=1)(h1:s=false->∀ x∈y,Z7 x=true):(ZcB s y).cells=y:=by
 cases s with
 |true=>rfl
 |false =>
  match y,h rfl with
  | [x],_ =>
   have:=h1 rfl x (by simp)
   cases x<;>simp_all[ZcB,AVal.cells,Z7]
theorem ZC1{a:Addr}(h:a.spot=none)(n:Nat):a.add n=⟨a.block,a.off+n,none⟩:=by
 unfold Addr.add
 split
 ·rename_i e;subst e;cases a;simp_all
 ·rfl
theorem ZIu{I:Imm}{β:Bmap}{xs:List AVal}{vs:List Value}{n:Nat}(h:VRs I β xs (vs.take n)){ys:List AVal}(h':VRs I β ys (vs.drop n)):VRs I β (xs++ys) vs:=by
 have:=Zcj h h'
 rwa [List.take_append_drop]at this
theorem Zt6{α β:Type}{f:α->Option β}{a:α}{l:List α}{r:List β}(h:(a::l).mapM f=some r):∃ b r',f a=some b/\l.mapM f=some r'/\r=b::r':=by
 rw[Xbe]at h
 simp only[Option.bind_eq_bind,Option.bind_eq_some_iff,Option.pure_def,Xa]at h
 obtain⟨b,h1,r',h2,h3⟩:=h
 exact⟨b,r',h1,h2,h3.symm⟩
theorem ZDa{a b:List AVal}(ha:Zai a=true)(hb:Zai b=true):Zai (a++b)=true:=by
 induction a with
 |nil=>exact hb
 |cons x a ih=>simp only[Wm,Zai,Xj]at ha ⊢;exact⟨ha.1,ih ha.2⟩
theorem ZuK{n fuel:Nat}{cs:List Value}(ih:∀ (t:TypeId) (cs:List Value) (x:DataW H×List MemPlace) (T:Ty),ZdA P n t=some T->DataW.trod enc P w 0 spare held fuel t cs=some x->∃ xs,TyC T xs/\VRs (Imm.of w) B0 xs cs/\Zai xs=true) :
  ∀ (fs:List Field) (at':Nat) (Ts:List Ty) (ys:List (DataW H×List MemPlace)),ZjW P at' fs cs.length=true->fs.mapM (fun f=>ZdA P n f.type)=some Ts ->
   fs.mapM (fun f=>DataW.trod enc P w 0 spare held fuel f.type ((cs.drop f.offset).take (P.cellsOf f.type)))=some ys->∃ xs,Zho Ts xs/\VRs (Imm.of w) B0 xs (cs.drop at')/\Zai xs=true
 | [],at',Ts,ys,ho,hT,_=>by
  simp only[ZjW,beq_iff_eq]at ho
  simp only[List.mapM_nil,Option.pure_def,Xa]at hT
  subst hT ho
  exact⟨[],by simp only[Zho],by simp[VRs],rfl⟩
 |f::fs,at',Ts,ys,ho,hT,h=>by
  simp only[ZjW,Xj,beq_iff_eq]at ho
  obtain⟨T,Ts',h1,h2,rfl⟩:=Zt6 hT
  obtain⟨y,ys',h3,h4,rfl⟩:=Zt6 h
  obtain⟨a,a1,a2,a3⟩:=ih _ _ _ _ h1 h3
  obtain⟨b,b1,b2,b3⟩:=ZuK ih fs _ _ _ ho.2 h2 h4
  rw[ho.1]at a2
  refine⟨a++b,by simp only[Zho];exact⟨a,b,rfl,a1,b1⟩,ZIu a2 (by rw[List.drop_drop];exact b2),ZDa a3 b3⟩
theorem Zx9{I:Imm}{β:Bmap}{s:Bool}{k b:Nat}:∀ (n off:Nat) (Y:Nat->List AVal),(∀ i,i<n->(ZcB s (Y i)).cells.length=k/\CR I β (ZcB s (Y i)).cells b (off+i*k))->LR I β k ((WK n).map fun i=>ZcB s (Y i)) b off
 |0,off,Y,_=>by simp[LR]
 |n+1,off,Y,h=>by
  rw[List.range_succ_eq_map,Xn,ZgZ]
  have h0:=h 0 (by omega)
  simp only[Xbn,Wg]at h0
  refine⟨h0,?_⟩
  rw[WG]
  exact Zx9 n (off+k) (fun i=>Y (i+1)) (fun i hi=>by
   have:=h (i+1) (by omega)
   rw[show off+k+i*k=off+(i+1)*k by rw[Nat.succ_mul];omega]
   exact this)
theorem Zux{I:Imm}{β:Bmap}{b:Nat}:∀ (xs:List AVal) (cs:List Value) (off:Nat),VRs I β xs cs->(∀ i,i<cs.length->I b (off+i)=cs[i]?)->CR I β xs b off
 | [],_,_,_,_=>by simp only[CR]
 |x::xs,cs,off,h,hI=>by
  simp only[VRs]at h
  obtain⟨v,vs',rfl,h1,h2⟩:=h
  simp only[CR]
  refine⟨⟨v,by have:=hI 0 (by simp);simpa using this,h1⟩,Zux xs vs' (off+1) h2 fun i hi=>?_⟩
  have:=hI (i+1) (by simp;omega)
  rw[show off+1+i=off+(i+1)by omega,this]
  simp
theorem ZpX{s:Bool}:∀ (n:Nat) (Y:Nat->List AVal),(∀ i,i<n->Zai (ZcB s (Y i)).cells=true)->ZW ((WK n).map fun i=>ZcB s (Y i))=true
 |0,Y,_=>by simp[ZW]
 |n+1,Y,h=>by
  rw[List.range_succ_eq_map,Xn,Zzb,h 0 (by omega),WG]
  simp only[WN]
  exact ZpX n (fun i=>Y (i+1)) (fun i hi=>h (i+1) (by omega))
theorem Zxq{xs:List AVal}(h:Zai xs=true):∀ x∈xs,Z7 x=true:=by
 induction xs with
 |nil=>intro x hx;simp at hx
 |cons y ys ih =>
  simp only[Zai,Xj]at h
  intro x hx
  rcases XI.1 hx with rfl |hx
  ·cases x<;>simp_all[Zaf,Z7]
  ·exact ih h.2 x hx
theorem ZwK{n:Nat}{e:TypeId}{T:Ty}(hT:ZdA P n e=some T)(hs:ZdT (P.underlying e)=false){xs:List AVal}(h:TyC T xs):xs.length=1:=by
 cases n with
 |zero=>simp[ZdA]at hT
 |succ n =>
  simp only[ZdA]at hT
  split at hT
  ·injection hT with hT;subst hT;simp only[TyC]at h;obtain⟨_,rfl⟩:=h;rfl
  ·injection hT with hT;subst hT;simp only[TyC]at h;obtain⟨_,_,rfl⟩:=h;rfl
  ·injection hT with hT;subst hT;simp only[TyC]at h;obtain⟨_,_,rfl⟩:=h;rfl
  ·split at hT
   ·simp only[Xq]at hT
    obtain⟨T',_,rfl⟩:=hT
    simp only[TyC]at h;obtain⟨_,rfl,_⟩:=h;rfl
   ·cases hT
  ·rename_i hu;rw[hu]at hs;simp[ZdT]at hs
  ·cases hT
theorem Zoa:∀ (n fuel:Nat) (t:TypeId) (cs:List Value) (x:DataW H×List MemPlace) (T:Ty),ZdA P n t=some T->DataW.trod enc P w 0 spare held fuel t cs=some x ->
  ∃ xs,TyC T xs/\VRs (Imm.of w) B0 xs cs/\Zai xs=true
 |0,fuel,t,cs,x,T,hT,_=>by simp[ZdA]at hT
 |n+1,0,t,cs,x,T,_,h=>by simp[DataW.trod]at h
 |n+1,fuel+1,t,cs,x,T,hT,h=>by
  have h0:=h
  simp only[ZdA]at hT
  unfold DataW.trod at h
  split at hT
  ·rename_i hu
   injection hT with hT;subst hT
   obtain⟨b,rfl,_⟩:=DataW.trod_bool hu h0
   exact⟨[.bool b],by simp only[TyC];exact⟨b,rfl⟩,by simp[VRs,VR],rfl⟩
  ·rename_i k hu
   injection hT with hT;subst hT
   obtain⟨n',rfl,_,hk⟩:=DataW.trod_int hu h0
   exact⟨[.int k n'],by simp only[TyC];exact⟨n',hk,rfl⟩,by simp[VRs,VR],rfl⟩
  ·rename_i hu
   injection hT with hT;subst hT
   obtain⟨s,rfl,_,hs⟩:=DataW.trod_string hu h0
   have hs':s.data.toList.length<=9223372036854775807:=by
    rw[XQ];exact Nat.le_trans hs (by simp[maxLen])
   exact⟨[.str s.data.toList],by simp only[TyC];exact⟨_,hs',rfl⟩,by simp only[VRs,VR];exact⟨_,_,rfl,⟨by simp,hs'⟩,rfl⟩,rfl⟩
  ·rename_i e hu
   split at hT
   case isFalse=>cases hT
   rename_i hc
   simp only[Xq]at hT
   obtain⟨T,hT,rfl⟩:=hT
   rcases Go.Deep.open_slice hu h0 with⟨hcs,_⟩ |⟨a,len,cap,m,n',D,Pl,hcs,_,hl,hm,hmm,_,hi⟩
   ·subst hcs
    exact⟨[.lst false []],by simp only[TyC];exact⟨[],by simp,by simp,by simp⟩,by simp only[VRs,VR];exact⟨_,_,rfl,⟨none,0,rfl,by simp,by simp,by simp,by simp,by simp[ZW]⟩,rfl⟩,rfl⟩
   ·have hlm:len<=m:=by split at hmm<;>omega
    have hspot:0<len->a.spot=none:=by
     intro h0
     obtain⟨cs',h1,h2⟩:=hi 0 (by omega)
     obtain⟨_,h6,h7⟩:=World.cells?_some h1
     have h8:=h7 0 hc
     obtain⟨u,hu⟩:∃ u,cs'[0]?=some u:=⟨cs'[0]'(by omega),by simp⟩
     rw[hu]at h8
     simp only[Xbn,Addr.add,if_true]at h8
     exact ZEz (b:=a.block) (off:=a.off) (s:=a.spot) (u:=u) h8
    have hall:∀ i,∃ xs,i<len->TyC T xs/\(ZcB (ZdT (P.underlying e)) xs).cells=xs/\xs.length=P.cellsOf e/\CR (Imm.of w) B0 xs a.block (a.off+i*P.cellsOf e)/\Zai xs=true:=by
     intro i
     by_cases hlt:i<len
     ·obtain⟨cs',h1,h2⟩:=hi i (by omega)
      obtain⟨xs,h3,h4,h5⟩:=Zoa n n' e cs' _ T hT h2
      obtain⟨_,h6,h7⟩:=World.cells?_some h1
      have hlen:=Zae h4
      refine⟨xs,fun _=>⟨h3,ZA2 (fun hs=>ZwK hT hs h3) (fun _=>Zxq h5),by omega,Zux xs cs' _ h4 (fun j hj=>?_),h5⟩⟩
      have h8:=h7 j (by omega)
      rw[Go.Deep.add_add,ZC1 (hspot (by omega)),<-Wf]at h8
      exact h8
     ·exact⟨[],fun h=>absurd h hlt⟩
    obtain⟨Y,hY⟩:=Classical.axiomOfChoice hall
    subst hcs
    have hmx:maxLen=9223372036854775807:=by simp[maxLen]
    rw[hmx]at hm
    refine⟨[.lst false ((WK len).map fun i=>ZcB (ZdT (P.underlying e)) (Y i))],?_,?_,?_⟩
    ·simp only[TyC]
     refine⟨(WK len).map Y,by rw[WG];rfl,by simp;omega,?_⟩
     intro y hy
     obtain⟨i,hi',rfl⟩:=XG.1 hy
     exact(hY i (Xad.1 hi')).1
    ·simp only[VRs,VR,XL,List.length_range]
     refine⟨_,_,rfl,⟨some a,cap,rfl,hl,hm,by simp,?_,ZpX len Y fun i hlt=>by rw[(hY i hlt).2.1];exact(hY i hlt).2.2.2.2⟩,rfl⟩
     cases len with
     |zero=>exact Xp (by simp)
     |succ len =>
      refine Xt ⟨a.block,a.off,P.cellsOf e,?_,hc,Zx9 (len+1) a.off Y fun i hlt=>?_⟩
      ·have:=hspot (by omega)
       cases a;simp_all
      ·rw[(hY i hlt).2.1];exact⟨(hY i hlt).2.2.1,(hY i hlt).2.2.2.1⟩
    ·simp only[Zai,Zaf,Xao]
     exact ZpX len Y fun i hlt=>by rw[(hY i hlt).2.1];exact(hY i hlt).2.2.2.2
  ·rename_i fs hu
   split at hT
   case isFalse=>cases hT
   rename_i ho
   simp only[Xq]at hT
   obtain⟨Ts,hT,rfl⟩:=hT
   rw[hu]at h
   simp only at h
   split at h
   ·rename_i hl
    simp only[Xq]at h
    obtain⟨ys,hy,rfl⟩:=h
    obtain⟨xs,h1,h2,h3⟩:=ZuK (fun t cs x T h h'=>Zoa n fuel t cs x T h h') fs.toList 0 Ts ys (by rw[hl];exact ho) hT hy
    exact⟨xs,by simp only[TyC];exact h1,h2,h3⟩
   ·cases h
  ·cases hT
def Zi4(s:Bool)(T:Ty)(x:AVal):Prop:=∃ xs,TyC T xs/\x=ZcB s xs
theorem ZkZ{n:Nat}{t:TypeId}{v:Value}{d:DataW H}{ps:List MemPlace}{T:Ty}{r:Reach}{b0:Nat}(hT:ZdA P n t=some T)(hv:Value.okWide P w r b0 t v)(h:DataW.Trod enc P w 0 spare held t v d ps) :
  ∃ x,Zi4 (ZdT (P.underlying t)) T x/\VR (Imm.of w) B0 x v/\Zai x.cells=true:=by
 obtain⟨fuel,h⟩:=h
 obtain⟨xs,h1,h2,h3⟩:=Zoa n fuel t _ _ T hT h
 refine⟨ZcB (ZdT (P.underlying t)) xs,⟨xs,h1,rfl⟩,?_⟩
 by_cases hs:ZdT (P.underlying t)=true
 ·have : ∃ cs,v=.agg cs:=by
   unfold Value.okWide at hv
   cases hu:P.underlying t with
   |none=>rw[hu]at hs;simp[ZdT]at hs
   |some dd =>
    rw[hu]at hv hs
    cases dd<;>first |(simp[ZdT]at hs;done) |(obtain⟨cs,e,_⟩:=hv;exact⟨cs,e⟩)
  obtain⟨cs,rfl⟩:=this
  rw[hs]
  exact⟨by simp only[ZcB,if_true,VR];exact⟨cs,rfl,h2⟩,h3⟩
 ·have hs':ZdT (P.underlying t)=false:=by simpa using hs
  have hl:=ZwK hT hs' h1
  have hlen:=Zae h2
  rw[hs']
  match xs,hl with
  | [x],_ =>
   simp only[ZcB,Xl,if_false,List.headD_cons]
   have hvc:v.cells=#[v]:=by
    cases n with
    |zero=>simp[ZdA]at hT
    |succ n =>
     simp only[ZdA]at hT
     split at hT
     ·rename_i hu;obtain⟨b,rfl⟩:=Go.WideShapes.okWide_bool hu hv;rfl
     ·rename_i k hu;obtain⟨b,rfl⟩:=Go.WideShapes.okWide_int hu hv;rfl
     ·rename_i hu;obtain⟨b,rfl⟩:=Go.WideShapes.okWide_string hu hv;rfl
     ·rename_i e hu;obtain⟨a,l,c,rfl⟩:=Go.WideShapes.okWide_slice hu hv;rfl
     ·rename_i fs hu;rw[hu]at hs';simp[ZdT]at hs'
     ·cases hT
   rw[hvc]at h2
   simp only[VRs]at h2
   obtain⟨v',vs',e,h2,_⟩:=h2
   simp only[List.cons.injEq]at e
   rw[e.1]
   refine⟨h2,?_⟩
   have hok:=Zxq h3 x (by simp)
   have hx:x.cells=[x]:=by cases x<;>first |rfl |(simp[Z7]at hok;done)
   rw[hx];exact h3
theorem Rel.start(w:World)(hG:Gl.le (Imm.of w)):Rel (fun b=>b<w.heap.size) w (Imm.of w) (Imm.of w) B0 [] w where
 below:=KB.refl _ w
 old:=fun _ _ _=>rfl
 imm:=fun _ _ _ h=>h
 blk:=fun t x h=>by simp at h
 own:=fun t x b h=>by simp at h
 apart:=fun t x t' x' b h=>by simp at h
 fresh:=fun _ _ _=>rfl
 free:=fun t g h=>by simp at h
 gen:=fun t b g h=>by simp at h
 glob:=hG
 ro:=fun t x b h=>by simp at h
theorem ZRe{O:ZJ}(hO:Zar P O){f:Nat}{args:List AVal}{vs:Array Value}{σ':Za}(hG:Gl.le (Imm.of w))(hargs:VRs (Imm.of w) B0 args vs.toList)(h:O f args []=some (.bool true,σ')) :
  Calls P f vs w (fun e w'=>e=.returned (.bool true)/\Below w.heap.size w w'):=by
 refine((hO f args [] _ _ h).2 _ w _ _ B0 w vs (fun b hb=>hb) (Rel.start w hG) hargs).mono ?_
 rintro e w' ⟨u,he,I',β',_,_,R,hv⟩
 simp only[ZaC,VR]at hv
 subst hv
 exact⟨he,R.below.os,R.below.tape,R.below.output,R.below.size,R.below.block⟩
end
end
section
open Go.RowKit
theorem ZQD(id:Nat)(tm:Tms)(σ:Za):Zah id (.normal,tm,σ)=(.normal,tm,σ):=rfl
theorem ZD4(id i:Nat)(tm:Tms)(σ:Za):Zah id (.exit i,tm,σ)=if i=id then(.normal,tm,σ)else(.exit i,tm,σ):=by simp only[Zah]
theorem ZM2(id:Nat)(tm:Tms)(σ:Za):Zah id (.ret,tm,σ)=(.ret,tm,σ):=rfl
theorem ZPY(id:Nat)(x:AVal)(tm:Tms)(σ:Za):Zah id (.panic x,tm,σ)=(.panic x,tm,σ):=rfl
section
variable (O:ZJ)(bf:Nat->Bool)
def ZdZ(c:Cls):Option (Tms×Za×List Cls×Option AVal)->Option (Tms×Za×List Cls×Option AVal)
 |none=>none
 |some (tm,σ,cs,p)=>some (tm,σ,c::cs,p)
def Zg3(c:List Cls):Option (Tms×Za×List Cls×Option AVal)->Option (Tms×Za×List Cls×Option AVal)
 |none=>none
 |some (tm,σ,cs,p)=>some (tm,σ,c++cs,p)
def kC(d:Option Nat)(os:List AOp)(s:Nat)(tm:Tms):Option (AVal×Za×Cls)->Option (Tms×Za×List Cls×Option AVal)
 |none=>none
 |some (v,σ,c)=>if ZaA v then some (tput tm d v,σ,[c],some (ZaC v))else ZdZ c (ZN O bf os s (tput tm d v) σ)
def Zf8(ops:List AOp)(L:Nat)(l:List (Nat×Nat))(live:List Nat):Option (Tms×Za×List Cls×Option AVal)->Option (ZY×Tms×Za)
 |none=>none
 |some (_,σ,cs,some x)=>if ZiO ops L l cs then some (.panic x,[],σ)else none
 |some (tm,σ,cs,none)=>if ZdX ops L l cs then some (.normal,keepL live tm,σ)else none
variable {O bf}
theorem ZuA(s:Nat)(tm:Tms)(σ:Za):ZN O bf [] s tm σ=some (tm,σ,[],none):=rfl
theorem ZNr(c:Cls)(tm:Tms)(σ:Za)(cs:List Cls)(p:Option AVal):ZdZ c (some (tm,σ,cs,p))=some (tm,σ,c::cs,p):=rfl
theorem ZBX(c:Cls):ZdZ c none=none:=rfl
theorem ZCh(c:Cls)(q:Prop)[Decidable q](x y:Option (Tms×Za×List Cls×Option AVal)):ZdZ c (if q then x else y)=if q then ZdZ c x else ZdZ c y:=by split<;>rfl
theorem ZPv(c:List Cls)(tm:Tms)(σ:Za)(cs:List Cls)(p:Option AVal):Zg3 c (some (tm,σ,cs,p))=some (tm,σ,c++cs,p):=rfl
theorem ZQQ(c:List Cls):Zg3 c none=none:=rfl
theorem ZLN(c:List Cls)(q:Prop)[Decidable q](x y:Option (Tms×Za×List Cls×Option AVal)):Zg3 c (if q then x else y)=if q then Zg3 c x else Zg3 c y:=by split<;>rfl
theorem ZlC{o:AOp}{os:List AOp}{s:Nat}{tm tm1:Tms}{σ σ1:Za}{v:AVal}{c:Cls}(h:ZC O bf o s tm σ=some (v,tm1,σ1,c))(hn:ZaA v=false):ZN O bf (o::os) s tm σ=ZdZ c (ZN O bf os (s+nsite o.ins) tm1 σ1):=by
 rw[Zuj h hn]
 cases ZN O bf os (s+nsite o.ins) tm1 σ1<;>rfl
theorem ZpR(d:Option Nat)(i:Ins)(af:List Nat)(os:List AOp)(s:Nat)(tm:Tms)(σ:Za):ZN O bf (⟨d,i,none,af⟩::os) s tm σ=kC O bf d os (s+nsite i) tm (exI O bf i s tm σ):=by
 cases h:exI O bf i s tm σ with
 |none=>exact ZjK (by rw[Zly,h];rfl)
 |some q =>
  obtain⟨v,σ1,c⟩:=q
  have hs:ZC O bf ⟨d,i,none,af⟩ s tm σ=some (v,tput tm d v,σ1,c):=by rw[Zly,h];rfl
  cases hp:ZaA v with
  |true =>
   obtain⟨x,rfl⟩:=ZlR hp
   exact ZlV hs
  |false =>
   rw[ZlC hs hp]
   simp only[kC,hp,Xl,if_false]
theorem Zsg(d:Option Nat)(os:List AOp)(s:Nat)(tm:Tms)(v:AVal)(σ:Za)(c:Cls)(h:ZaA v=false):kC O bf d os s tm (some (v,σ,c))=ZdZ c (ZN O bf os s (tput tm d v) σ):=by
 simp only[kC,h,Xl,if_false]
theorem ZRH(d:Option Nat)(os:List AOp)(s:Nat)(tm:Tms)(x:AVal)(σ:Za)(c:Cls):kC O bf d os s tm (some (.pan x,σ,c))=some (tput tm d (.pan x),σ,[c],some x):=rfl
theorem ZNg(d:Option Nat)(os:List AOp)(s:Nat)(tm:Tms):kC O bf d os s tm none=none:=rfl
theorem ZPD(d:Option Nat)(os:List AOp)(s:Nat)(tm:Tms)(q:Prop)[Decidable q](x y:Option (AVal×Za×Cls)):kC O bf d os s tm (if q then x else y)=if q then kC O bf d os s tm x else kC O bf d os s tm y:=by split<;>rfl
theorem ZGT(ops:List AOp)(l:List (Nat×Nat))(live:List Nat)(tm:Tms)(σ:Za):Zb5 O bf ops (some l) live tm σ=Zf8 ops σ.length l live (ZN O bf ops σ.length tm (σ++XA (sitesOf ops) .free)):=by
 unfold Zb5
 cases ZN O bf ops σ.length tm (σ++XA (sitesOf ops) .free)with
 |none=>rfl
 |some q =>
  obtain⟨tm',σ',cs,p⟩:=q
  cases p<;>rfl
theorem ZxD(ops:List AOp)(L:Nat)(l:List (Nat×Nat))(live:List Nat)(tm:Tms)(σ:Za)(cs:List Cls)(h:ZdX ops L l cs=true):Zf8 ops L l live (some (tm,σ,cs,none))=some (.normal,keepL live tm,σ):=by
 simp only[Zf8,h,if_true]
theorem ZNM(ops:List AOp)(L:Nat)(l:List (Nat×Nat))(live:List Nat):Zf8 ops L l live none=none:=rfl
theorem ZJZ(ops:List AOp)(L:Nat)(l:List (Nat×Nat))(live:List Nat)(q:Prop)[Decidable q](x y:Option (Tms×Za×List Cls×Option AVal)):Zf8 ops L l live (if q then x else y)=if q then Zf8 ops L l live x else Zf8 ops L l live y:=by split<;>rfl
theorem ZK7(ops:List AOp)(L:Nat)(l:List (Nat×Nat))(cs:List Cls)(h:(cs.all fun c=>c.wr.isEmpty && !c.any)=true)(hs:(l.all fun p=>p.1==p.2 ||nsite (ops.getD p.1 default).ins==0)=true):ZdX ops L l cs=true:=by
 have hd:∀ i,Zdx (cs.getD i {})=true:=by
  intro i
  rw[XF]at h
  rw[Xi]
  cases hi:cs[i]? with
  |none=>rfl
  |some c=>exact h c (Xx hi)
 unfold ZdX
 rw[XF]at hs ⊢
 intro p hp
 have:=hs p hp
 rw[Bool.or_eq_true]at this ⊢
 rcases this with this |this
 ·exact Xp this
 ·refine Xt ?_
  unfold ZcK
  simp only[hd,this,Xao,WN,Xah,Bool.or_true]
theorem ZRp(ops:List AOp)(L:Nat)(l:List (Nat×Nat))(live:List Nat)(tm:Tms)(σ:Za)(cs:List Cls)(h:(cs.all fun c=>c.wr.isEmpty && !c.any)=true)(hs:(l.all fun p=>p.1==p.2 ||nsite (ops.getD p.1 default).ins==0)=true):Zf8 ops L l live (some (tm,σ,cs,none))=some (.normal,keepL live tm,σ) :=
 ZxD _ _ _ _ _ _ _ (ZK7 _ _ _ _ h hs)
variable (O bf)in
def gKC(os:List AOp)(s:Nat):Option (Tms×Za×List Cls×Option AVal)->Option (Tms×Za×List Cls×Option AVal)
 |none=>none
 |some (tm,σ,cs,some x)=>some (tm,σ,cs,some x)
 |some (tm,σ,cs,none)=>Zg3 cs (ZN O bf os s tm σ)
theorem ZQd(os:List AOp)(s:Nat)(tm:Tms)(σ:Za)(cs:List Cls):gKC O bf os s (some (tm,σ,cs,none))=Zg3 cs (ZN O bf os s tm σ):=rfl
theorem ZJg(os:List AOp)(s:Nat)(q:Prop)[Decidable q](x y:Option (Tms×Za×List Cls×Option AVal)):gKC O bf os s (if q then x else y)=if q then gKC O bf os s x else gKC O bf os s y:=by split<;>rfl
theorem ZLe(os:List AOp)(s:Nat)(c:Cls)(r:Option (Tms×Za×List Cls×Option AVal)):gKC O bf os s (ZdZ c r)=ZdZ c (gKC O bf os s r):=by
 cases r with
 |none=>rfl
 |some q =>
  obtain⟨tm,σ,cs,p⟩:=q
  cases p with
  |some x=>rfl
  |none =>
   simp only[ZdZ,gKC]
   cases ZN O bf os s tm σ<;>rfl
theorem ZzI:∀ (a b:List AOp) (s:Nat) (tm:Tms) (σ:Za),ZN O bf (a++b) s tm σ=gKC O bf b (s+sitesOf a) (ZN O bf a s tm σ)
 | [],b,s,tm,σ=>by
  simp only[List.nil_append,ZuA,gKC,sitesOf,Xo,List.sum_nil,Wg]
  cases ZN O bf b s tm σ<;>rfl
 |o::a,b,s,tm,σ=>by
  have ih:=ZzI a b
  simp only[Wm]
  have hs:s+nsite o.ins+sitesOf a=s+sitesOf (o::a):=by simp[sitesOf,Wf]
  cases hst:ZC O bf o s tm σ with
  |none=>rw[ZjK hst,ZjK hst];rfl
  |some q =>
   obtain⟨v,tm1,σ1,c⟩:=q
   cases hp:ZaA v with
   |true =>
    obtain⟨x,rfl⟩:=ZlR hp
    rw[ZlV hst,ZlV hst];rfl
   |false=>rw[ZlC hst hp,ZlC hst hp,ih,hs,ZLe]
variable (O bf)in
def Ze8(j:Nat)(w:Bool)(g:List AOp)(s:Nat)(tm:Tms)(σ:Za):Option (Tms×Za×List Cls×Option AVal):=match Zbh (some (j,w)) tm with
 |none=>none
 |some false=>some (Zw g tm,σ,g.map fun _=>{},none)
 |some true=>ZN O bf (g.map unG) s tm σ
theorem ZwC(j:Nat)(w:Bool):∀ (g:List AOp),(∀ o∈g,o.guard=some (j,w)/\o.dst≠some j)->∀ (s:Nat) (tm:Tms) (σ:Za),g≠[]->ZN O bf g s tm σ=Ze8 O bf j w g s tm σ
 | [],_,_,_,_,h=>absurd rfl h
 |o::g,hall,s,tm,σ,_=>by
  obtain⟨hg,hd⟩:=hall o (by simp)
  have ih:∀ (tm:Tms) (σ:Za) (s:Nat),Zbh (some (j,w)) tm≠none->ZN O bf g s tm σ=Ze8 O bf j w g s tm σ:=by
   intro tm σ s hw
   by_cases he:g=[]
   ·subst he
    unfold Ze8
    cases hx:Zbh (some (j,w)) tm with
    |none=>exact absurd hx hw
    |some b=>cases b<;>rfl
   ·exact ZwC j w g (fun o ho=>hall o (by simp[ho])) s tm σ he
  cases hx:Zbh (some (j,w)) tm with
  |none =>
   rw[ZjK (by simp only[ZC,hg,hx])]
   simp only[Ze8,hx]
  |some b =>
   cases b with
   |false =>
    have h1:ZN O bf (o::g) s tm σ=ZdZ {} (ZN O bf g (s+nsite o.ins) (tput tm o.dst (.tup [])) σ) :=
     ZlC (v:=.tup []) (c:={}) (by simp only[ZC,hg,hx]) rfl
    rw[h1,ih _ _ _ (by rw[Zf9 hd,hx];simp)]
    unfold Ze8
    rw[Zf9 hd,hx]
    rfl
   |true =>
    have key:∀ r:Option (AVal×Za×Cls),(∀ v σ' c,r=some (v,σ',c)->ZaA v=false->ZN O bf g (s+nsite o.ins) (tput tm o.dst v) σ'=ZN O bf (g.map unG) (s+nsite o.ins) (tput tm o.dst v) σ')->kC O bf o.dst g (s+nsite o.ins) tm r=kC O bf o.dst (g.map unG) (s+nsite o.ins) tm r:=by
     intro r hr
     cases r with
     |none=>rfl
     |some q =>
      obtain⟨v,σ',c⟩:=q
      cases hp:ZaA v with
      |true=>simp only[kC,hp,if_true]
      |false=>rw[Zsg _ _ _ _ _ _ _ hp,Zsg _ _ _ _ _ _ _ hp,hr v σ' c rfl hp]
    have h1:ZN O bf (o::g) s tm σ=kC O bf o.dst g (s+nsite o.ins) tm (exI O bf o.ins s tm σ):=by
     have h0:ZN O bf (o::g) s tm σ=ZN O bf (⟨o.dst,o.ins,none,o.after⟩::g) s tm σ:=by
      have hst:ZC O bf o s tm σ=ZC O bf ⟨o.dst,o.ins,none,o.after⟩ s tm σ:=by
       unfold ZC
       simp only[hg,hx]
       rfl
      simp only[ZN,hst]
     rw[h0,ZpR]
    rw[h1]
    unfold Ze8
    rw[hx]
    simp only[Xn]
    rw[show unG o=⟨o.dst,o.ins,none,o.after⟩from rfl,ZpR]
    refine key _ fun v σ' c _ _=>?_
    rw[ih _ _ _ (by rw[Zf9 hd,hx];simp)]
    unfold Ze8
    rw[Zf9 hd,hx]
theorem ZB8(d:Option Nat)(i:Ins)(j:Nat)(w:Bool)(af:List Nat)(os:List AOp)(s:Nat)(tm:Tms)(σ:Za)(hd:decide (d=some j)=false) :
  ZN O bf (⟨d,i,some (j,w),af⟩::os) s tm σ=gKC O bf (Zh j w os).2 (s+sitesOf (⟨d,i,some (j,w),af⟩::(Zh j w os).1)) (Ze8 O bf j w (⟨d,i,some (j,w),af⟩::(Zh j w os).1) s tm σ):=by
 have h:=Zsy j w os
 have hall:∀ o∈(⟨d,i,some (j,w),af⟩::(Zh j w os).1:List AOp),o.guard=some (j,w)/\o.dst≠some j:=by
  intro o ho
  rcases XI.1 ho with rfl |ho
  ·exact⟨rfl,by simpa using hd⟩
  ·exact Zra j w os o ho
 rw[<-ZwC j w _ hall s tm σ (by simp),<-ZzI,Wm,h]
variable (O bf)in
def gWC(w:Bool)(g:List AOp)(s:Nat)(tm:Tms)(σ:Za):AVal->Option (Tms×Za×List Cls×Option AVal)
 | .bool b=>if b=w then ZN O bf (g.map unG) s tm σ else some (Zw g tm,σ,g.map fun _=>{},none)
 | .tup []=>some (Zw g tm,σ,g.map fun _=>{},none)
 |_=>none
theorem ZJp(j:Nat)(w:Bool)(g:List AOp)(s:Nat)(tm:Tms)(σ:Za):Ze8 O bf j w g s tm σ=gWC O bf w g s tm σ (tget tm j):=by
 unfold Ze8 Zbh
 simp only
 generalize tget tm j=v
 cases v
 case bool b=>cases b<;>cases w<;>rfl
 case tup vs=>cases vs<;>rfl
 all_goals rfl
theorem ZNh(w:Bool)(g:List AOp)(s:Nat)(tm:Tms)(σ:Za)(b:Bool):gWC O bf w g s tm σ (.bool b)=if b=w then ZN O bf (g.map unG) s tm σ else some (Zw g tm,σ,g.map fun _=>{},none):=rfl
theorem ZJE(w:Bool)(g:List AOp)(s:Nat)(tm:Tms)(σ:Za):gWC O bf w g s tm σ (.tup [])=some (Zw g tm,σ,g.map fun _=>{},none):=rfl
theorem ZGF(q:Prop)[Decidable q](t1 t2:Tms)(σ1 σ2:Za)(cs:List Cls):(if q then some (t1,σ1,cs,(none:Option AVal))else some (t2,σ2,cs,none))=some ((if q then t1 else t2),(if q then σ1 else σ2),cs,none):=by split<;>rfl
end
section
theorem ZIZ{r:AVal}{cs:List AVal}{σ:Za}(hr:Zaw r=true)(hc:Zm cs=true):gcA 1 [r] (.var cs::σ)=([r],[.var cs]):=by
 have e1:=(Zhk (rhoOf (.var cs::σ) 1 [0]) r hr)
 have e2:=(ZdL (rhoOf (.var cs::σ) 1 [0]) cs hc)
 have h1:gcIds 1 [r] (.var cs::σ)=[0]:=by
  have : refsL [r]=[]:=by simp only[refsL,e1.2,XC]
  simp only[gcIds,this,List.range_one,List.flatMap_cons,Xa0,XC,X1,refsB,e2.2]
  rfl
 simp only[gcA,h1,renL,e1.1,heapOf,X1,renB,e2.1]
theorem ZBY{r:AVal}{cs:List AVal}{σ:Za}(hr:Zaw r=true)(hc:Zm cs=true):outA 1 (.var cs::σ) r=some (r,[.var cs]):=by
 simp only[outA,ZIZ hr hc]
end
end
section
section
variable (c:Prop)[Decidable c]
theorem ZDO(t1 t2:Tms)(σ1 σ2:Za):(if c then some (ZY.normal,t1,σ1)else some (ZY.normal,t2,σ2))=some (ZY.normal,(if c then t1 else t2),(if c then σ1 else σ2)):=by split<;>rfl
theorem ZHp(t1 t2:Tms)(σ1 σ2:Za):(if c then some (ZY.ret,t1,σ1)else some (ZY.ret,t2,σ2))=some (ZY.ret,(if c then t1 else t2),(if c then σ1 else σ2)):=by split<;>rfl
theorem ZEc(t1 t2:Tms)(σ1 σ2:Za):(if c then some (t1,σ1,(none:Option AVal))else some (t2,σ2,none))=some ((if c then t1 else t2),(if c then σ1 else σ2),none):=by split<;>rfl
theorem ZF3(n:Nat)(a b:AVal):(if c then(n,a)else(n,b))=(n,if c then a else b):=by split<;>rfl
theorem ZHf(a b:AVal)(σ1 σ2:Za):(if c then some (a,σ1)else some (b,σ2))=some ((if c then a else b),(if c then σ1 else σ2)):=by split<;>rfl
theorem ZJ7(a b:AVal)(σ1 σ2:Za)(x y:Cls):(if c then some (a,σ1,x)else some (b,σ2,y))=some ((if c then a else b),(if c then σ1 else σ2),if c then x else y):=by split<;>rfl
end
theorem ZRl{α:Type}(p:Bool)(x y z:α):(if p=true then x else(if p=false then y else z))=if p=true then x else y:=by cases p<;>rfl
theorem ZAv(ops:List AOp)(b:Nat)(cs:List Cls):ZdX ops b [] cs=true:=rfl
theorem ZQg(ops:List AOp)(b:Nat)(p:Nat×Nat)(l:List (Nat×Nat))(cs:List Cls):ZdX ops b (p::l) cs=((p.1==p.2 ||ZcK (ops.getD p.1 default) (ops.getD p.2 default) (cs.getD p.1 {}) (cs.getD p.2 {}) (b+sitesOf (ops.take p.1)))&&ZdX ops b l cs):=by
 simp only[ZdX,XW]
theorem ZCW(oj oi:AOp)(cj ci:Cls)(sj:Nat):ZcK oj oi cj ci sj=(Zcw oj cj ||Zcw oi ci ||(Zdx cj&&Zdx ci&&(nsite oj.ins==0 || !ci.rd.contains sj)) ||((Za3 oj.ins ||(Zby oj.ins && !cj.any))&&(Zdx ci&&ci.rd.isEmpty)) ||(Zbd oj.ins&&Za3 oi.ins&&ci.any&&ZbC cj ci) ||(Zbd oj.ins&&(Zby oi.ins ||(Zce oi.ins&&Zc8 cj ci))&&ZbC cj ci) ||(ZcZ oj.ins&&ZcQ oi.ins) ||(Za3 oj.ins&&Zbd oi.ins&&cj.any&&Zc6 cj ci sj) ||(((Zby oj.ins && !cj.any) ||Zce oj.ins)&&Zdx ci&&nsite oi.ins==0&&ci.rd.all fun t=>!cj.wr.contains t&&t != sj) ||(Zbd oj.ins&&Za3 oi.ins&&ci.any&&cj.nd)):=rfl
theorem ZGQ(o:AOp)(rd wr:List Nat)(any:Bool)(got:List (Nat×Option Nat×Nat×AVal))(upd:List (Nat×List AVal))(nd:Bool):Zcw o ⟨rd,wr,any,got,upd,nd⟩=(nsite o.ins==0&&rd.isEmpty&&wr.isEmpty && !any):=rfl
theorem ZIk(rd wr:List Nat)(any:Bool)(got:List (Nat×Option Nat×Nat×AVal))(upd:List (Nat×List AVal))(nd:Bool):Zdx ⟨rd,wr,any,got,upd,nd⟩=(wr.isEmpty && !any):=rfl
theorem ZP{α:Type}{l:List α}{i:Nat}{x:α}{r:List α}(h:l.drop i=x::r):l[i]?=some x/\l.drop (i+1)=r/\i<l.length:=by
 have h1:i<l.length:=by
  rcases Nat.lt_or_ge i l.length with h1 |h1
  ·exact h1
  ·rw[List.drop_eq_nil_of_le h1]at h;cases h
 rw[List.drop_eq_getElem_cons h1]at h
 injection h with h2 h3
 exact⟨by rw[XB h1,h2],h3,h1⟩
theorem ZcG{α:Type}{l:List α}{i:Nat}(h:l.drop i=[]):¬(i:Int)<l.length:=by
 have:=List.drop_eq_nil_iff.1 h;omega
theorem iad{α:Type}{l:List α}{i:Nat}{x:α}(h:l[i]?=some x)(f:α->AVal){k:Nat}(hk:(f x).cells.length=k)(σ:Za)(n:Bool)(kk:IntKind):Zct σ k (.lst n (l.map f)) (.int kk (i:Int))=some (.iptr (f x).cells 0,σ,{}):=by
 have h0:(0:Int)<=(i:Int):=Int.natCast_nonneg i
 unfold Zct
 simp only[h0,if_true,X3,XX,h,XT,hk]
theorem ZQ{n:Int}(h0:-9223372036854775808<=n)(h:n<=9223372036854775807):IntKind.i64.wrap n=n:=by
 rw[IntKind.wrap_i64];omega
theorem Zyg{α β:Type}{a:List α}{b:List β}(h:a.length=b.length):((a.length:Int) != (b.length:Int))=false:=by simp[h]
theorem Zyt{α β:Type}{a:List α}{b:List β}(h:a.length≠b.length):((a.length:Int) != (b.length:Int))=true:=by
 simp only[bne_iff_ne,ne_eq];omega
theorem Zxj{α:Type}[BEq α][LawfulBEq α]{a b:List α}(h:a.length≠b.length):(a==b)=false:=by
 simp only[beq_eq_false_iff_ne,ne_eq];rintro rfl;exact h rfl
theorem Zcp{i n:Nat}(h:(i:Int)<n)(hn:n<=9223372036854775807):IntKind.i64.wrap ((i:Int)+1)=((i+1:Nat):Int):=by
 rw[ZQ (by omega) (by omega)];rfl
theorem ZcC{O:ZJ}{bf:Nat->Bool}{f:Nat}{args:List AVal}{r:AVal}(h:O f args []=some (r,[]))(hb:bf f=false)(hp:args.all Z2=true)(hn:args.map ZM=args)(hv:ZaI 0 (some (r,[]))=some (r,[]))(hr:∀ sq,renV (ZaR [] [] sq) r=r)(σ:Za)(sq own:Nat)(view:Bool):Zl O bf σ sq f own view args=some (r,σ,{}):=by
 rw[ZbK hb hp,hn,h]
 have : ZO view 0 (some (r,[]))=some (r,[]):=by
  unfold ZO
  split
  ·exact hv
  ·rfl
 rw[this,ZdP _ _ _ _ (hr sq)]
theorem Zg2{α:Type}(σ:Za)(k:Nat)(l:List α)(f:α->AVal)(kk:IntKind)(n:Int)(h0:0<=n)(h:n<=(l.length:Int)):Zbj σ k (.lst false (l.map f)) none (some (.int kk n)) none=some (.lst false ((l.take n.toNat).map f),σ,{}):=by
 simp only[Zbj,ZaN,Zb0,XL,h0,h,and_self,if_true,beq_self_eq_true,Xah,Option.isSome_none,Xl,if_false,X8,W2,XaQ]
abbrev Zd:=List UInt8
def Zf(b:Zd):AVal:=.lst false (b.map Zc)
structure Zp where
 id:Int
 num:Int
 text:Zd
 pair:Zd
 data:Zd
 deriving DecidableEq
def ZZ(p:Zp):List AVal:=[.int .i64 p.id,.int .i64 p.num,.str p.text,.str p.pair,Zf p.data]
def Zi(p:Zp):AVal:=.agg (ZZ p)
def ZD(l:List Zp):AVal:=.lst false (l.map Zi)
def Zbm(l:List Int):AVal:=.lst false (l.map (.int .i64 ·))
theorem Zwv(l:Zd):ZfS (l.map Zc)=some l:=by
 induction l with
 |nil=>rfl
 |cons b l ih =>
  simp only[Xn,ZfS,ih,Zc,Zsq,X3,UInt8.ofNat_toNat]
end
section
def ZBD:=(aI (aI (aI (aI (aI (aI @ZK2 @ZKK) (aI @ZSw @ZHx)) (aI (aI @ZEh @ZJt) (aI @ZNk @ZJd))) (aI (aI (aI @Zvr @ZoY) (aI @ZCm @Zp7)) (aI (aI @ZPx @ZCl) (aI @ZGM @ZLA)))) (aI (aI (aI (aI @ZKL @ZSE) (aI @ZHt @ZJ4)) (aI (aI @ZNa @ZHe) (aI @ZBH @Zz7))) (aI (aI (aI @ZB4 @ZAJ) (aI @ZNA @ZDQ)) (aI (aI @ZQ5 @Zwv) (aI @ZDO @ZHp))))) (aI (aI (aI (aI (aI @ZEc @ZF3) (aI @ZHf @ZJ7)) (aI (aI @ZGf @ZBW) (aI @ZCb @ZSn))) (aI (aI (aI @ZRD @ZR7) (aI @ZMm @ZGT)) (aI (aI @ZuA @ZpR) (aI @ZB8 @ZNr)))) (aI (aI (aI (aI @ZBX @ZCh) (aI @ZPv @ZQQ)) (aI (aI @ZLN @Zsg) (aI @ZRH @ZNg))) (aI (aI (aI @ZPD @ZRp) (aI @ZNM @ZJZ)) (aI (aI @ZQd @ZJg) (aI @ZJp @ZNh))))))
def ZBV:=(aI (aI (aI (aI (aI (aI @ZJE @ZGF) (aI @ZQD @ZD4)) (aI (aI @ZM2 @ZPY) (aI @ZAv @ZQg))) (aI (aI (aI @ZCW @ZGQ) (aI @ZIk @ZxD)) (aI (aI @ZIU @ZDf) (aI @ZHF @ZQK)))) (aI (aI (aI (aI @ZQy @ZLR) (aI @ZPV @ZBF)) (aI (aI @ZvX @ZK3) (aI @ZDp @ZRX))) (aI (aI (aI @ZNn @ZHP) (aI @ZFi @ZMb)) (aI (aI @ZMd @ZI2) (aI @ZFv @ZLV))))) (aI (aI (aI (aI (aI @ZAj @ZQW) (aI @ZOM @ZCp)) (aI (aI @ZRu @ZNz) (aI @ZMS @ZP8))) (aI (aI (aI @ZCA @ZPc) (aI @ZI8 @ZQM)) (aI (aI @ZDB @ZN7) (aI @ZCT @ZJB)))) (aI (aI (aI (aI @ZDT @ZKY) (aI @ZOK @ZBg)) (aI (aI @ZAH @ZN4) (aI @ZAq @ZBl))) (aI (aI (aI @ZC9 @ZFp) (aI @ZEx @ZEu)) (aI (aI @ZPB @ZR2) (aI @ZFL @ZA4))))))
def ZaT:=(aI (aI (aI (aI (aI (aI @ZDb @ZFY) (aI @ZPa @ZRb)) (aI (aI @ZLf @ZOi) (aI @ZLU @ZRS))) (aI (aI (aI @ZQI @ZIl) (aI @ZKu @ZPr)) (aI (aI @ZGJ @ZNs) (aI @ZDH @ZBd)))) (aI (aI (aI (aI @ZMM @ZGC) (aI @ZMY @ZHU)) (aI (aI @ZPL @ZHC) (aI @ZQB @ZRk))) (aI (aI (aI @ZEf @ZBq) (aI @ZLz @ZQ1)) (aI (aI @ZFO @ZHl) (aI @ZMC @ZME))))) (aI (aI (aI (aI (aI @ZNC @ZAt) (aI @ZPm @ZJK)) (aI (aI @ZGB @ZQw) (aI @ZSW @ZJ8))) (aI (aI (aI @ZOY @ZFP) (aI @ZFj @ZGN)) (aI (aI @ZJs @ZQp) (aI @ZJv @ZPN)))) (aI (aI (aI (aI @ZBi @ZGz) (aI @ZGd @ZDe)) (aI (aI @ZIn @ZBr) (aI @ZBQ @ZFS))) (aI (aI (aI @ZGg @ZAI) (aI @ZLQ @ZSL)) (aI (aI @ZHJ @ZDN) (aI @ZQ4 @ZIV))))))
def Zba:=(aI (aI (aI (aI (aI (aI @ZHH @ZQU) (aI @ZHR @ZGa)) (aI (aI @ZIL @ZQh) (aI @ZDh @ZMo))) (aI (aI (aI @ZOs @ZMw) (aI @ZPz @ZzV)) (aI (aI @ZHM @Zvm) (aI @ZLC @ZQv)))) (aI (aI (aI (aI @ZGe @ZKX) (aI @Zxr @ZKD)) (aI (aI @ZLv @ZKJ) (aI @ZIh @ZRJ))) (aI (aI (aI @ZLS @ZO3) (aI @ZDI @ZCN)) (aI (aI @ZM3 @ZAo) (aI @ZPA @ZAb))))) (aI (aI (aI (aI (aI @ZI5 @ZGy) (aI @ZHA @ZKO)) (aI (aI @ZSK @ZJh) (aI @Zw5 @ZIy))) (aI (aI (aI @ZM1 @ZOD) (aI @ZFu @ZED)) (aI (aI @ZGL @ZCI) (aI @ZEn @ZxA)))) (aI (aI (aI (aI @ZH5 @Zv9) (aI @ZEI @ZAA)) (aI (aI @ZFV @ZOB) (aI @ZxY @ZRo))) (aI (aI (aI @ZHh @ZNU) (aI @ZFa @ZI3)) (aI (aI @ZBE @ZAr) (aI @ZKE @ZIX))))))
def ZR:=(aI (aI (aI (aI (aI (aI @ZJD @ZAR) (aI @ZNN @ZDU)) (aI (aI @ZDJ @ZPw) (aI @ZSJ @ZAN))) (aI (aI (aI @ZQ8 @ZJi) (aI @ZKT @Zyo)) (aI (aI @ZNw @ZNT) (aI @ZMy @ZOa)))) (aI (aI (aI (aI @ZFm @ZC3) (aI @ZGU @ZDx)) (aI (aI @ZCo @ZC0) (aI @ZPo @ZID))) (aI (aI (aI @ZBe @ZCO) (aI @ZBw @ZDd)) (aI (aI @ZL8 @ZL9) (aI @ZQV @ZBI))))) (aI (aI (aI (aI (aI @ZHc @ZAl) (aI @ZCs @ZSs)) (aI (aI @ZJO @ZHv) (aI @ZBp @ZLE))) (aI (aI (aI @ZNj @ZBM) (aI @ZNJ @ZEe)) (aI (aI @ZEE @ZPQ) (aI @ZKA @ZNL)))) (aI (aI (aI (aI @ZCx @ZMA) (aI @ZMi @ZM6)) (aI (aI @ZMT @ZH9) (aI @ZJ3 @ZKf))) (aI (aI (aI @ZLh @ZCU) (aI @ZNe @ZPZ)) (aI (aI @ZEk @ZGn) (aI @ZQr @ZOR))))))
def Zuu:=(aI (aI (aI (aI (aI (aI @ZL4 @ZA8) (aI @ZJk @ZGG)) (aI (aI @ZJl @ZIw) (aI @ZSa @ZMg))) (aI (aI (aI @ZAm @ZIe) (aI @ZPn @ZP3)) (aI (aI @ZSM @ZCP) (aI @ZRK @ZJ2)))) (aI (aI (aI (aI @ZPy @ZOA) (aI @ZBb @ZEX)) (aI (aI @ZOv @ZKZ) (aI @ZG2 @ZCu))) (aI (aI (aI @ZLp @ZI7) (aI @ZRi @ZRL)) (aI (aI @ZMj @ZD2) (aI @ZKU @ZPl))))) (aI (aI (aI (aI (aI @ZMO @ZGD) (aI @ZGt @ZHX)) (aI (aI @ZMf @ZLs) (aI @ZO9 @ZKr))) (aI (aI (aI @ZLw @ZBs) (aI @ZJ5 @ZOU)) (aI (aI @ZIt @ZAz) (aI @ZDo @ZD7)))) (aI (aI (aI (aI @ZHb @ZGI) (aI @ZAU @ZB3)) (aI (aI @ZHV @ZSY) (aI @ZRd @ZDu))) (aI (aI (aI @ZMN @ZOo) (aI @ZSy @ZBm)) (aI (aI @ZEO @ZOn) (aI @ZJe @ZMV))))))
def Zk:=(aI (aI (aI (aI (aI (aI @ZSm @ZIE) (aI @ZCk @ZL6)) (aI (aI @ZRE @ZRR) (aI @ZBB @ZOP))) (aI (aI (aI @ZOd @ZNf) (aI @ZSv @ZFo)) (aI (aI @ZQ2 @ZOu) (aI @ZM8 @ZD1)))) (aI (aI (aI (aI @ZOI @ZRV) (aI @ZSh @ZLO)) (aI (aI @ZSS @ZNx) (aI @ZN6 @ZC5))) (aI (aI (aI @ZFe @ZLj) (aI @ZE8 @ZGc)) (aI (aI @ZFF @ZLD) (aI @ZQY @ZCV))))) (aI (aI (aI (aI (aI @ZRa @ZAw) (aI @ZRB @ZRT)) (aI (aI @ZGl @ZGH) (aI @ZN9 @ZQq))) (aI (aI (aI @ZAg @ZIN) (aI @ZH2 @ZN8)) (aI (aI @ZSQ @ZQm) (aI @ZKS @ZBN)))) (aI (aI (aI (aI @ZAM @ZG7) (aI @ZH1 @ZPP)) (aI (aI @ZBG @ZL1) (aI @ZST @ZA7))) (aI (aI (aI @ZF4 @ZGb) (aI @ZJu @ZRj)) (aI (aI @ZPI @ZMn) (aI @ZJy @ZBA))))))
def Zcq:=(aI (aI (aI (aI (aI (aI @ZII @ZH4) (aI @ZFd @ZDD)) (aI (aI @ZG9 @ZOe) (aI @ZIv @ZNQ))) (aI (aI (aI @ZCw @ZSF) (aI @ZHk @ZMR)) (aI (aI @ZGw @ZFW) (aI @ZMI @ZPH)))) (aI (aI (aI (aI @ZKM @ZDm) (aI @ZIP @ZAk)) (aI (aI @ZLa @ZEY) (aI @ZK6 @ZFt))) (aI (aI (aI @ZEm @ZAC) (aI @ZDM @ZO4)) (aI (aI @ZHs @ZSz) (aI @ZOg @ZKQ))))) (aI (aI (aI (aI (aI @ZAS @ZEa) (aI @ZD6 @ZPs)) (aI (aI @ZJj @ZEH) (aI @ZNv @ZOC))) (aI (aI (aI @ZAi @ZDi) (aI @ZIc @ZJm)) (aI (aI @ZO1 @ZSe) (aI @ZLM @ZKj)))) (aI (aI (aI (aI @ZN1 @ZDy) (aI @ZAc @ZMF)) (aI (aI @ZOc @ZNu) (aI @ZQG @ZLg))) (aI (aI (aI @ZBY @ZRY) (aI @ZR0 @ZNl)) (aI (aI @Zz4 @ZLI) (aI @ZKC @ZLY))))))
def ZB:=(aI (aI (aI (aI (aI @ZKy @ZFN) (aI @ZOh @ZFI)) (aI (aI @ZQn @ZAO) (aI @ZKt (aI @ZG8 @ZIK)))) (aI (aI (aI @ZCi @ZPb) (aI @ZLx @ZCa)) (aI (aI @ZDt @ZIY) (aI @ZAG (aI @ZPp @ZK9))))) (aI (aI (aI (aI @ZPk @ZBo) (aI @ZHu @ZAW)) (aI (aI @ZH0 @ZJL) (aI @ZF7 (aI @ZAL @ZD3)))) (aI (aI (aI @ZQJ @ZFG) (aI @ZPU (aI @Zz2 @ZQF))) (aI (aI @ZSD @ZLr) (aI @ZE0 (aI @ZFH @Zx5))))))
def Zbz:=(aI (aI (aI (aI (aI (aI @List.map_cons.{0,0} @List.map_nil.{0,0}) (aI @List.length_cons.{0} @List.length_nil.{0})) (aI (aI @List.replicate_zero.{0} @List.replicate_succ.{0}) (aI @List.append_nil.{0} @List.nil_append.{0}))) (aI (aI (aI @List.cons_append.{0} @List.getElem?_cons_zero.{0}) (aI @List.getElem?_cons_succ.{0} @List.set_cons_zero.{0})) (aI (aI @List.set_cons_succ.{0} @Nat.add_zero) (aI @Nat.zero_add @Bool.true_or)))) (aI (aI (aI (aI @Bool.false_or @Bool.or_true) (aI @Bool.or_false @Bool.and_true)) (aI (aI @Bool.true_and @Bool.and_self) (aI @Bool.and_false @Bool.false_and))) (aI (aI (aI @if_true.{1} @if_false.{1}) (aI @ite_true.{1} @ite_false.{1})) (aI (aI @Option.map_some.{0,0} @Option.map_none.{0,0}) (aI @and_self @and_true))))) (aI (aI (aI (aI (aI @true_and @and_false) (aI @false_and @true_or)) (aI (aI @or_true @false_or) (aI @or_false @not_true_eq_false))) (aI (aI (aI @not_false_eq_true @List.drop_zero.{0}) (aI @List.drop_succ_cons.{0} @List.take_succ_cons.{0})) (aI (aI @List.take_zero.{0} @List.all_cons.{0}) (aI @List.all_nil.{0} @List.isEmpty_nil.{0})))) (aI (aI (aI (aI @Bool.not_false @Bool.not_true) (aI @List.length_map.{0,0} @Bool.bne_false)) (aI (aI @Bool.bne_true @List.isEmpty_cons.{0}) (aI @List.getD_cons_zero.{0} @List.getD_cons_succ.{0}))) (aI (aI (aI @List.getD_nil.{0} @List.contains_nil.{0}) (aI @List.range_zero @List.flatMap_cons.{0,0})) (aI (aI @List.flatMap_nil.{0,0} @List.zip_cons_cons.{0,0}) (aI @List.zip_nil_left.{0,0} @List.zip_nil_right.{0,0}))))))
def ZX:=@Nat.not_lt_zero
def EQA:=(aI (aI (aI (aI (aI (aI (aI ZBD ZBV) (aI Zuu Zbz)) (aI (aI @exI.eq_1 @nsite.eq_1) (aI @nsite.eq_2 @nsite.eq_3))) (aI (aI (aI @nsite.eq_4 @nsite.eq_5) (aI @nsite.eq_6 @nsite.eq_7)) (aI (aI @nsite.eq_8 @nsite.eq_9) (aI @nsite.eq_10 (aI @nsite.eq_11 @nsite.eq_12))))) (aI (aI (aI (aI @nsite.eq_13 @nsite.eq_14) (aI @nsite.eq_15 @freeAt.eq_1)) (aI (aI @execI.eq_1 @execI.eq_2) (aI @execI.eq_3 (aI @execI.eq_4 @execI.eq_5)))) (aI (aI (aI @execI.eq_6 @execI.eq_7) (aI @execI.eq_8 @execI.eq_9)) (aI (aI @execI.eq_10 @execI.eq_11) (aI @execI.eq_12 (aI @execI.eq_13 @execI.eq_14)))))) (aI (aI (aI (aI (aI @execI.eq_15 @execI.eq_16) (aI @execI.eq_17 @execI.eq_18)) (aI (aI @execI.eq_19 @execI.eq_20) (aI @execI.eq_21 (aI @execI.eq_22 @execI.eq_23)))) (aI (aI (aI @execI.eq_24 @execI.eq_25) (aI @execI.eq_26 @execI.eq_27)) (aI (aI @execI.eq_28 @execI.eq_29) (aI @execI.eq_30 (aI @execI.eq_31 @execI.eq_32))))) (aI (aI (aI (aI @execI.eq_33 @execI.eq_34) (aI @execI.eq_35 @execI.eq_36)) (aI (aI @execI.eq_37 @execI.eq_38) (aI @execI.eq_39 (aI @execI.eq_40 @execI.eq_41)))) (aI (aI (aI @execI.eq_42 @execI.eq_43) (aI @execI.eq_44 @execI.eq_45)) (aI (aI @execI.eq_46 @execI.eq_47) (aI @execI.eq_48 (aI @execI.eq_49 @execI.eq_50))))))) (aI (aI (aI (aI (aI (aI @execI.eq_51 @execI.eq_52) (aI @execI.eq_53 @Opd.ev.eq_1)) (aI (aI @Opd.ev.eq_2 @tget.eq_1) (aI @tget.eq_2 (aI @tins.eq_1 @tins.eq_2)))) (aI (aI (aI @tput.eq_1 @tput.eq_2) (aI @keepL.eq_1 @sitesOf.eq_1)) (aI (aI @resA.eq_1 @resAll.eq_1) (aI @resAll.eq_2 (aI @resOne.eq_1 @resOne.eq_2))))) (aI (aI (aI (aI @enterA.eq_1 @enterA.eq_2) (aI @partA.eq_1 @partA.eq_2)) (aI (aI @faddrA.eq_1 @faddrA.eq_2) (aI @faddrA.eq_3 (aI @faddrA.eq_4 @setAt.eq_1)))) (aI (aI (aI @binA.eq_1 @binA.eq_2) (aI @binA.eq_3 @binA.eq_4)) (aI (aI @binA.eq_5 @arithA.eq_1) (aI @arithA.eq_2 (aI @arithA.eq_3 @arithA.eq_4)))))) (aI (aI (aI (aI (aI @arithA.eq_5 @arithA.eq_6) (aI @arithA.eq_7 @arithA.eq_8)) (aI (aI @arithA.eq_9 @arithA.eq_10) (aI @arithA.eq_11 (aI @arithA.eq_12 @arithA.eq_13)))) (aI (aI (aI @arithA.eq_14 @arithA.eq_15) (aI @arithA.eq_16 @ldA.eq_1)) (aI (aI @ldA.eq_2 @ldA.eq_3) (aI @ldA.eq_4 (aI @stA.eq_1 @stA.eq_2))))) (aI (aI (aI (aI @stA.eq_3 @oI.eq_1) (aI @oN.eq_1 @oM.eq_1)) (aI (aI @oF.eq_1 @oL.eq_1) (aI @List.sum_cons.{0} (aI @List.sum_nil.{0} @eq_self.{1})))) (aI (aI (aI @beq_self_eq_true.{0} @Bool.false_eq_true) (aI @Option.some.injEq.{0} @decide_true)) (aI (aI @decide_false @List.foldl_cons.{0,0}) (aI @List.foldl_nil.{0,0} (aI @List.contains_cons.{0} @ne_eq.{1}))))))))
def EQO:=(aI (aI (aI (aI (aI (aI @outA.eq_1 @gcA.eq_1) (aI @gcIds.eq_1 @reach.eq_1)) (aI (aI @reach.eq_2 @reach.eq_3) (aI @refsL.eq_1 @refsL.eq_2))) (aI (aI (aI @refsV.eq_1 @refsV.eq_2) (aI @refsV.eq_3 @refsV.eq_4)) (aI (aI @refsV.eq_5 @refsV.eq_6) (aI @refsV.eq_7 (aI @refsV.eq_8 @refsV.eq_9))))) (aI (aI (aI (aI @refsV.eq_10 @refsV.eq_11) (aI @refsV.eq_12 @rhoOf.eq_1)) (aI (aI @heapOf.eq_1 @heapOf.eq_2) (aI @idxA.eq_1 (aI @idxA.eq_2 @genB.eq_1)))) (aI (aI (aI @genB.eq_2 @genB.eq_3) (aI @genB.eq_4 @genB.eq_5)) (aI (aI @genB.eq_6 @genB.eq_7) (aI @genB.eq_8 (aI @newGen.eq_1 @renL.eq_1)))))) (aI (aI (aI (aI (aI @renL.eq_2 @renV.eq_1) (aI @renV.eq_2 @renV.eq_3)) (aI (aI @renV.eq_4 @renV.eq_5) (aI @renV.eq_6 (aI @renV.eq_7 @renV.eq_8)))) (aI (aI (aI @renV.eq_9 @renV.eq_10) (aI @renV.eq_11 @renV.eq_12)) (aI (aI @renB.eq_1 @renB.eq_2) (aI @renB.eq_3 (aI @renB.eq_4 @renB.eq_5))))) (aI (aI (aI (aI @renB.eq_6 @renB.eq_7) (aI @renB.eq_8 @renB.eq_9)) (aI (aI @renB.eq_10 @renB.eq_11) (aI @renB.eq_12 (aI @renB.eq_13 @renB.eq_14)))) (aI (aI (aI @renB.eq_15 @refsB.eq_1) (aI @refsB.eq_2 @refsB.eq_3)) (aI (aI @refsB.eq_4 @refsB.eq_5) (aI @refsB.eq_6 (aI @refsB.eq_7 @List.range_succ)))))))
end
end Go.Proofs.YtbcbhgbffjkheaaDoor
