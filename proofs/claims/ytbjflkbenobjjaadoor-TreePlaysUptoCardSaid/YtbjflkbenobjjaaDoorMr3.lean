/- packed -/
import Derived.Test.YtbjflkbenobjjaaDoorMr2
import Derived.Maps.RangeRun
import Derived.Scope
import Derived.Lib.Index
import Derived.Shelf.Unicode.ValidAny
import Derived.Shelf.Strings.Count
import Derived.Sort.Row
import Derived.Sort.Grow
import Derived.Shelf.SlSortCmp.NoneTotal
import Derived.Lib.Bytealg
import Derived.Test.YtbjflkbenobjjaaDoorProg
import Derived.Deep.Slices
import Derived.ChangeArms
import Derived.WideShapes
import GoSem.ClaimChange
set_option linter.defProp false
set_option linter.unusedSectionVars false
set_option linter.unusedSimpArgs false
set_option linter.unusedVariables false
open Option.some renaming injEq→Xa
open Prod.mk renaming injEq→Xb
open List renaming getElem?_eq_some_iff→Xd,getD_eq_getElem?_getD→Xf,getElem?_eq_getElem→Xl,nil_append→Xp,replicate→Xq,getElem?_set_ne→Xs,mem_append→Xt,mem_of_getElem?→Xu,mem_map→Xv,map_cons→Xx,length_append→Xy,append_nil→XA,mem_cons→XB,getD_cons_zero→XD,length_cons→XE,getElem?_cons_zero→XG,cons_append→XH,flatMap_cons→XI,all_eq_true→XJ,getElem?_map→XM,getElem?_eq_none→XN,length_nil→XP,getElem?_cons_succ→XS,mem_singleton→XV,map_nil→XW,eq_nil_of_length_eq_zero→XX,map_append→X0,nodup_cons→X1,zip_cons_cons→X5,flatMap_nil→X7,all_cons→X8,map_map→Wb,length_map→Wd,mem_filter→Wj,ext_getElem?→Wl,range→Wn,filterMap_cons→Wu,length_singleton→Wz,all_nil→WC,nodup_append→WK,mem_iff_getElem?→WP,mem_range→W0,contains_eq_mem→Xaq,lookup_cons→XaV,mergeSort_perm→XaY,not_lt→XaZ,pairwise_mergeSort→Xa2,take_append_drop→Xba,nodup_range→Xbe,le_antisymm→Xbf,mapM_cons→Xbr,lt_irrefl→Xbs,Perm→Xbv,flatten_cons→Xbx,map_take→XbM
open Bool renaming false_eq_true→Xg,and_eq_true→Xi,not_eq_true'→We,and_self→Wm,true_and→Xbz
open Option renaming map_eq_some_iff→Xh,bind_some→XK,map_some→XQ,getD_some→Ww,map→WE
open Or renaming inl→Xm,inr→Xr
open Array renaming getElem?_eq_some_iff→Xw,length_toList→XR,getElem?_setIfInBounds_ne→XT,getElem?_toList→WQ,getD_eq_getD_getElem?→W5,getElem?_modify→Xan,getElem?_eq_getElem→Xap,replicate→Xbm
open Nat renaming le_refl→Xz,zero_add→XC,add_zero→Wo,le_max_right→Wy,add_assoc→WI,le_max_left→WS,lt_or_ge→Xau,zero_mul→Xbp,succ_mul→XbE
open Int renaming toNat_natCast→XY
open List.cons renaming injEq→WJ
open ByteArray renaming size→WT
open Ne renaming symm→W6
open List.Perm renaming refl→XaG
open SizeOf renaming sizeOf→Xa1
open Function renaming comp_def→Xbw
namespace Go.Proofs.YtbjflkbenobjjaaDoor
set_option maxHeartbeats 16000000
set_option maxRecDepth 10000
section
open Go.RowKit
open Go.ChangeMaps (setBlock)
theorem Zty:∀ (js L:List Nat),js.Nodup->(∀ j ∈ js,j ∈ L)->L.Nodup->∃ rest,L.Perm (js++rest)
 | [],L,_,_,_=>⟨L,XaG _⟩
 | j::js,L,hn,hs,hL=>by
  have hj:j ∈ L:=hs j (by simp)
  have hp:L.Perm (j::L.erase j):=List.perm_cons_erase hj
  obtain ⟨rest,hr⟩:=Zty js (L.erase j) (X1.1 hn).2 (fun k hk=>by
   have hne:k≠j:=by rintro rfl;exact (X1.1 hn).1 hk
   exact (List.mem_erase_of_ne hne).2 (hs k (by simp [hk]))) (hL.erase j)
  exact ⟨rest,hp.trans (by simpa using Xbv.cons j hr)⟩
theorem ZvX {α:Type} (es:List α) (d:α):(Wn es.length).map (es.getD · d)=es:=by
 apply Wl
 intro i
 rw [XM]
 by_cases h:i < es.length
 ·rw [List.getElem?_range h];simp [Xf,h]
 ·rw [XN (by simpa using h),XN (by omega)];rfl
theorem ZjG:∀ {σ σ':Za} {u:Nat} {b:Zk},Zbj σ σ'=true->σ'[u]?=some b->Zby b=true->∃ a,σ[u]?=some a/\ZbM a b=true
 | _,[],u,b,_,h,_=>by simp at h
 | [],x::r,u,b,h,hu,hb=>by
  simp only [Zbj,Xi,We] at h
  cases u with
  | zero =>
   simp only [XG,Xa] at hu
   subst hu
   rw [h.1] at hb;cases hb
  | succ u =>
   obtain ⟨a,h1,_⟩:=ZjG h.2 (by simpa using hu) hb
   simp at h1
 | a::s,x::r,u,b,h,hu,hb=>by
  simp only [Zbj,Xi] at h
  cases u with
  | zero =>
   simp only [XG,Xa] at hu
   subst hu
   exact ⟨a,rfl,h.1⟩
  | succ u =>
   obtain ⟨a',h1,h2⟩:=ZjG h.2 (by simpa using hu) hb
   exact ⟨a',by simpa using h1,h2⟩
theorem ZIo {arr:Array MapEntry} {seen:Array Nat} {e:MapEntry} (h:e ∈ (leftOf arr seen).toList):e ∈ arr.toList/\seen.contains e.born=false:=by
 unfold leftOf at h
 simp only [Array.toList_filter,Wj,We] at h
 exact h
theorem ZDa {arr:Array MapEntry} {seen:Array Nat} (h:(leftOf arr seen).size=0):∀ e ∈ arr.toList,seen.contains e.born=true:=by
 intro e he
 cases hc:seen.contains e.born with
 | true=>rfl
 | false =>
  have hm:e ∈ (leftOf arr seen).toList:=by
   unfold leftOf
   simp only [Array.toList_filter,Wj,We]
   exact ⟨he,hc⟩
  have : (leftOf arr seen).toList=[]:=by
   apply XX
   simpa using h
  rw [this] at hm;cases hm
section
variable {P:Program} {O:ZG} {bf:Nat->Bool} {an:Ann} {base base':Nat->Prop} {w0 w w' w1 w2:World} {I0 I I' I1 I2:Imm} {β β' β1 β2:Bmap} {σ σ' σ1 σ2:Za} {dr:Door}
theorem noO:Zae P (fun _ _ _=>none):=by intro f args σ r σ' h;cases h
theorem ZhD {ops:Array Oper} {Q:Exit->Act->World->Prop} {o:Oper} {l:List Oper} {a:Act} {w:World} (hg:o.guard=none) (h:o.wp P a w (wpList P ops Q l) Q):wpList P ops Q (o::l) a w:=by
 unfold wpList
 have : Region.wanted o (yielded ops a.tmps)=true:=by unfold Region.wanted;rw [hg]
 rw [this]
 simp only [if_true]
 exact Xm h
theorem pgs {a:Act} {d:Nat} {u:Value} (h:d < a.tmps.size):(a.put (some d) u).tmps.getD d undef=u:=by
 simp [Act.put,Array.getD,h]
theorem ZjB {m:Sem Value} {u:Value} (h:m.run P w=.ok u w):(do let q <-m;pure (Next.value q):Sem Next).run P w=.ok (.value u) w:=by
 rw [Sem.run_bind,h];rfl
theorem pgn {a:Act} {d j:Nat} {u:Value} (h:d≠j):(a.put (some d) u).tmps.getD j undef=a.tmps.getD j undef:=by
 simp only [Act.put,W5]
 rw [XT h]
def StF (dr:Door) (m nt:Nat) (base:Nat->Prop) (w0:World) (I0 I:Imm) (β:Bmap) (tm:Tms) (σ:Za) (a:Act) (w:World):Prop :=
 ∃ I' β',I.le I'/\KeptE m β β'/\TR I' β' tm a.tmps/\(dr.ok a/\nt<=a.tmps.size)/\Rel base w0 I0 I' β' σ w
def Zo3 (dr:Door) (m:Nat) (an:Ann) (base:Nat->Prop) (w0:World) (I0 I:Imm) (β:Bmap) (e:ZA) (tm:Tms) (σ:Za) (Q:Exit->Act->World->Prop):Prop:=match e with
 | .normal=>∀ a w,StF dr m an.nt base w0 I0 I β tm σ a w->Q .normal a w
 | .exit id=>∀ a w,StF dr m an.nt base w0 I0 I β tm σ a w->Q (.exit id) a w
 | .ret=>∀ a w,StF dr m an.nt base w0 I0 I β tm σ a w->Q .ret a w
 | .panic x=>∀ a u w,dr.ok a->ZbY m base w0 I0 I β (.pan x) σ u w->Q (.panic [{ v:=u,recovered:=false }]) a w
theorem Zll (hO:Zae P O) (hkp:∀ n ∈ dr.K,n ∈ an.keep) (hb:KLt base w0) {ops:Array Oper} {Q:Exit->Act->World->Prop} {r:List Oper}:∀ {l:List Oper} {asl:List AOp} {sq:Nat} {I:Imm} {β:Bmap} {tm tm':Tms} {σ σ':Za} {cs:List Cls} {a:Act} {w:World},Zco P an ops l=some asl->TR I β tm a.tmps->(dr.ok a/\an.nt<=a.tmps.size)->Rel base w0 I0 I β σ w ->
  ZI O bf asl sq tm σ=some (tm',σ',cs,none)->(∀ a' w',StR dr an.nt base w0 I0 I β tm' σ' a' w'->wpList P ops Q r a' w')->wpList P ops Q (l++r) a w
 | [],asl,sq,I,β,tm,tm',σ,σ',cs,a,w,hc,T,hd,R,h,hQ=>by
  simp only [Zco,Xa] at hc;subst hc
  simp only [ZI,Xa,Xb] at h
  obtain ⟨rfl,rfl,rfl,_⟩:=h
  exact hQ _ _ ⟨I,β,Imm.le.refl I,Bmap.le.refl β,T,hd,R⟩
 | o::l,asl,sq,I,β,tm,tm',σ,σ',cs,a,w,hc,T,hd,R,h,hQ=>by
  simp only [Zco] at hc
  split at hc
  ·rename_i ao hao
   split at hc
   ·rename_i as' has'
    injection hc with hc;subst hc
    simp only [ZI] at h
    split at h
    ·cases h
    ·simp only [Xa,Xb] at h
     obtain ⟨_,_,_,h⟩:=h
     cases h
    ·rename_i v tm1 σ1 c1 hnp h1
     split at h
     ·cases h
     rename_i tm2 σ2 cs2 p2 h2
     simp only [Xa,Xb] at h
     obtain ⟨rfl,rfl,rfl,rfl⟩:=h
     have:=Zg2 (dr:=dr) (K:=wpList P ops Q (l++r)) (Q:=Q) hO hkp hao T hd R hb h1 (fun _ a' w' hs=>by
      obtain ⟨I',β',g1,g2,g3,g4,g5⟩:=hs
      exact Zll hO hkp hb has' g3 g4 g5 h2 (fun a'' w'' hs'=>hQ a'' w'' (hs'.trans g1 g2))) (fun x e=>absurd e (fun e=>hnp x e))
     rw [XH]
     unfold wpList
     exact this
   ·cases hc
  ·cases hc
theorem Zpv {asl:List AOp} {tm tm':Tms} (h:ZaU bf asl tm σ=some (tm',σ')):∃ cs,ZI (fun _ _ _=>none) bf asl σ.length tm σ=some (tm',σ',cs,none):=by
 unfold ZaU at h
 split at h
 ·rename_i tm1 σ1 cs h1
  simp only [Xa,Xb] at h
  obtain ⟨rfl,rfl⟩:=h
  exact ⟨cs,h1⟩
 ·cases h
theorem ZIN {m:Nat} {x:AVal} {v:Value} (hx:Zdo m x=true) (hk:KeptE m β β') (h:VR I β x v):VR I' β' x v\/(∃ a xs,x=.lst a xs):=by
 cases x with
 | int | bool | str | nilp | nilm | nili=>exact Xm h
 | lst a xs=>exact Xr ⟨a,xs,rfl⟩
 | sl t g lo n =>
  simp only [Zdo,Xi,decide_eq_true_eq] at hx
  obtain ⟨rfl,ht⟩:=hx
  simp only [VR] at h ⊢
  obtain ⟨bi,e,h⟩:=h
  exact Xm ⟨bi,hk.zero ht e,h⟩
 | ref t o =>
  simp only [Zdo,decide_eq_true_eq] at hx
  simp only [VR] at h ⊢
  obtain ⟨b,k,c,e,h⟩:=h
  exact Xm ⟨b,k,c,hk.zero hx e,h⟩
 | map t =>
  simp only [Zdo,decide_eq_true_eq] at hx
  simp only [VR] at h ⊢
  obtain ⟨b,k,c,e,h⟩:=h
  exact Xm ⟨b,k,c,hk.zero hx e,h⟩
 | nref t j o =>
  simp only [Zdo,decide_eq_true_eq] at hx
  simp only [VR] at h ⊢
  obtain ⟨b,k,c,e,h⟩:=h
  exact Xm ⟨b,k,c,hk t hx _ _ (Xr (by omega)) e,h⟩
 | _=>simp [Zdo] at hx
theorem ZMm {a:Bool} {xs:List AVal} {v:Value} (hI:I.le I') (h:VR I β (.lst a xs) v):VR I' β' (.lst a xs) v:=by
 have ht:Z2 (.lst a xs)=true:=by
  simp only [VR] at h
  obtain ⟨A,cap,_,_,_,_,_,ht⟩:=h
  simpa [Z2] using ht
 exact (VR.of_tree (β':=β') ht h).mono hI (Bmap.le.refl _) _ _
theorem Zrj {m:Nat} {x:AVal} {v:Value} (hx:Zdo m x=true) (hI:I.le I') (hk:KeptE m β β') (h:VR I β x v):VR I' β' x v:=by
 rcases ZIN (I':=I') hx hk h with h | ⟨a,xs,rfl⟩
 ·exact h
 ·exact ZMm hI h
theorem ZpA {m:Nat} (hI:I.le I') (hk:KeptE m β β'):∀ {cs:List AVal} {vs:List Value},cs.all (Zdo m)=true->VRs I β cs vs->VRs I' β' cs vs
 | [],vs,_,h=>h
 | x::cs,vs,hx,h=>by
  rw [X8,Xi] at hx
  simp only [VRs] at h ⊢
  obtain ⟨v,vs',rfl,h1,h2⟩:=h
  exact ⟨v,vs',rfl,Zrj hx.1 hI hk h1,ZpA hI hk hx.2 h2⟩
theorem Zzt {m:Nat} {x:AVal} {v:Value} (hx:ZeR m x=true) (hI:I.le I') (hk:KeptE m β β') (h:VR I β x v):VR I' β' x v:=by
 cases x with
 | agg cs =>
  simp only [VR] at h ⊢
  obtain ⟨us,rfl,h⟩:=h
  exact ⟨us,rfl,ZpA hI hk hx h⟩
 | _=>exact Zrj hx hI hk h
theorem ZkH {m:Nat} (hI:I.le I') (hk:KeptE m β β'):∀ {cs:List AVal} {vs:List Value},(∀ x ∈ cs,ZeR m x=true)->VRs I β cs vs->VRs I' β' cs vs
 | [],vs,_,h=>h
 | x::cs,vs,hx,h=>by
  simp only [VRs] at h ⊢
  obtain ⟨v,vs',rfl,h1,h2⟩:=h
  exact ⟨v,vs',rfl,Zzt (hx x (by simp)) hI hk h1,ZkH hI hk (fun y hy=>hx y (by simp [hy])) h2⟩
theorem ZiH:∀ {cs:List AVal} {vs:List Value},(∀ x ∈ cs,ZbX x=true)->VRs I β cs vs->VRs I' β' cs vs
 | [],vs,_,h=>h
 | x::cs,vs,hx,h=>by
  simp only [VRs] at h ⊢
  obtain ⟨v,vs',rfl,h1,h2⟩:=h
  refine ⟨v,vs',rfl,?_,ZiH (fun y hy=>hx y (by simp [hy])) h2⟩
  have:=hx x (by simp)
  cases x <;> simp [ZbX] at this <;> exact h1
theorem Rel.rebase (R:Rel base w0 I0 I β σ w) {r:Nat} (hr:∀ t x,σ[t]?=some x->¬Zj w β t x r):Rel (fun k=>base k\/k=r) w I I β σ w where
 below:=KB.refl _ _
 old:=fun _ _ _=>rfl
 imm:=R.imm
 blk:=R.blk
 own:=fun t x b hx hb=>⟨fun h=>by
  rcases h with h | rfl
  ·exact (R.own t x b hx hb).1 h
  ·exact hr t x hx hb,(R.own t x b hx hb).2⟩
 apart:=R.apart
 fresh:=R.fresh
 free:=R.free
 gen:=R.gen
 glob:=R.glob
 ro:=fun t x b h hs=>Xm (R.ro t x b h hs)
theorem Rel.unbase (R1:Rel base w0 I0 I1 β1 σ1 w1) (R2:Rel base' w1 I1 I2 β2 σ2 w2) (hs:∀ k,base k->base' k) (hro:∀ t x b,σ2[t]?=some x->Zaa β2 t x b->base b):Rel base w0 I0 I2 β2 σ2 w2 where
 below:=R1.below.trans (R2.below.mono hs)
 old:=fun b o h=>(R2.old b o (hs b h)).trans (R1.old b o h)
 imm:=R2.imm
 blk:=R2.blk
 own:=fun t x b hx hb=>⟨fun h=>(R2.own t x b hx hb).1 (hs b h),(R2.own t x b hx hb).2⟩
 apart:=R2.apart
 fresh:=R2.fresh
 free:=R2.free
 gen:=R2.gen
 glob:=R2.glob
 ro:=hro
def Zdi:Zk->Bool
 | .map _=>true
 | .rmap _=>true
 | .arena _=>true
 | .rarena _=>true
 | _=>false
theorem Zvc {t:Nat} {B:Zk} (h:BR I β w t B):BR I β w t (roB B):=by cases B <;> exact h
theorem ZHp (B:Zk):Zb (roB B)=Zb B:=by cases B <;> rfl
theorem ZoJ {t k:Nat} {B:Zk} (hm:Zdi B=true):¬Zj w β t (roB B) k:=by cases B <;> simp [Zdi] at hm <;> exact fun h=>h
theorem ZpE {t k:Nat} {B:Zk} (hm:Zdi B=true) (h:Zj w β t B k):Zaa β t (roB B) k:=by cases B <;> simp [Zdi] at hm <;> first | exact h | cases h
theorem ZoB {t k:Nat} {B:Zk} (hm:Zdi B=true) (h:Zaa β t (roB B) k):Zj w β t B k\/Zaa β t B k:=by
 cases B <;> simp [Zdi] at hm
 ·exact Xm h
 ·exact Xr h
 ·exact Xm h
 ·exact Xr h
theorem ZK9 {B:Zk} (hm:Zdi B=true):roB B≠.free:=by cases B <;> simp [Zdi] at hm <;> simp [roB]
theorem Zqs {t:Nat} {x:AVal} {B:Zk} {es:List (AVal×AVal)} (h:ZdG σ x=some (t,B,es)):σ[t]?=some B/\Zdi B=true/\((x=.map t/\(B=.map es\/B=.rmap es))\/∃ j nx ns nd,x=.mapg t j nx/\(B=.arena ns\/B=.rarena ns)/\ns[j]?=some nd/\es=Zbm t nd nx):=by
 unfold ZdG at h
 split at h
 ·split at h
  ·rename_i hs
   simp only [Xa,Xb] at h
   obtain ⟨rfl,rfl,rfl⟩:=h
   exact ⟨hs,rfl,Xm ⟨rfl,Xm rfl⟩⟩
  ·rename_i hs
   simp only [Xa,Xb] at h
   obtain ⟨rfl,rfl,rfl⟩:=h
   exact ⟨hs,rfl,Xm ⟨rfl,Xr rfl⟩⟩
  ·cases h
 ·rename_i t' j nx
  split at h
  ·rename_i ns hs
   split at h
   ·rename_i nd hj
    simp only [Xa,Xb] at h
    obtain ⟨rfl,rfl,rfl⟩:=h
    exact ⟨hs,rfl,Xr ⟨j,nx,ns,nd,rfl,Xm rfl,hj,rfl⟩⟩
   ·cases h
  ·rename_i ns hs
   split at h
   ·rename_i nd hj
    simp only [Xa,Xb] at h
    obtain ⟨rfl,rfl,rfl⟩:=h
    exact ⟨hs,rfl,Xr ⟨j,nx,ns,nd,rfl,Xr rfl,hj,rfl⟩⟩
   ·cases h
  ·cases h
 ·cases h
theorem ZqB {t b:Nat} {x:AVal} {B:Zk} {es:List (AVal×AVal)} (hB:BR I β w t B) (h:(x=.map t/\(B=.map es\/B=.rmap es))\/∃ j nx ns nd,x=.mapg t j nx/\(B=.arena ns\/B=.rarena ns)/\ns[j]?=some nd/\es=Zbm t nd nx) (hx:VR I β x (.map (some b))) :
  ∃ arr clk,w.heap[b]?=some (.map arr clk)/\MapW I β es arr clk/\Zaa β t (roB B) b:=by
 rcases h with ⟨rfl,h⟩ | ⟨j,nx,ns,nd,rfl,h,hj,rfl⟩
 ·simp only [VR] at hx
  obtain ⟨b',k,c,e1,e2⟩:=hx
  injection e2 with e2
  injection e2 with e2
  subst e2
  have hB':BR I β w t (.map es):=by rcases h with rfl | rfl <;> exact hB
  obtain ⟨b2,k2,c2,arr,clk,e3,e4,e5⟩:=hB'
  rw [e1] at e3
  simp only [Xa,BI.mk.injEq] at e3
  obtain ⟨rfl,rfl,rfl⟩:=e3
  refine ⟨arr,clk,e4,e5,?_⟩
  rcases h with rfl | rfl <;> simp [roB,Zaa,e1]
 ·simp only [VR] at hx
  obtain ⟨b',k,c,e1,e2⟩:=hx
  injection e2 with e2
  injection e2 with e2
  subst e2
  have hA:ArenaW I β w t ns:=by rcases h with rfl | rfl <;> exact hB
  obtain ⟨b2,k2,c2,arr,clk,e3,e4,e5,e6,e7,e8⟩:=(hA.1 j nd hj).mapBlk nx
  rw [e1] at e3
  simp only [Xa,BI.mk.injEq] at e3
  obtain ⟨rfl,rfl,rfl⟩:=e3
  refine ⟨arr,clk,e4,⟨e5,e6,e7,e8⟩,?_⟩
  have:=Zet (Xd.1 hj).1 e1
  rcases h with rfl | rfl <;> exact this
theorem ArenaW.kind {t b:Nat} {ns:ZF} (A:ArenaW I β w t ns) (hb:Za4 β t ns b):(∃ us ty,w.heap[b]?=some (.cells us ty (0,0)))\/∃ arr clk,w.heap[b]?=some (.map arr clk):=by
 obtain ⟨g,g1,g2,hb⟩:=hb
 obtain ⟨i,hi,hg⟩:=Zk2 g1 g2
 obtain ⟨nd,hnd⟩:∃ nd,ns[i]?=some nd:=⟨_,Xl hi⟩
 obtain ⟨bs,k0,c0,us,ty,bv,k1,c1,arr,clk,bn,k2,c2,arr',clk',h0,h1,h2,⟨a1,a2⟩,⟨b1,_⟩,d1,_⟩:=A.1 i nd hnd
 rcases hg with rfl | rfl | rfl
 ·rw [h0] at hb;simp only [XK,Xa] at hb;subst hb;exact Xm ⟨_,_,a1⟩
 ·rw [h1] at hb;simp only [XK,Xa] at hb;subst hb;exact Xr ⟨_,_,b1⟩
 ·rw [h2] at hb;simp only [XK,Xa] at hb;subst hb;exact Xr ⟨_,_,d1⟩
theorem ZyE {t b:Nat} {x:Zk} (h:BR I β w t x) (hs:Zaa β t x b) {m:Option Nat} {l:Array Nat} {c c':Nat}:w.heap[b]?≠some (.mapIter m c l c'):=by
 cases x with
 | rmap es =>
  obtain ⟨b2,_,_,_,_,e1,e2,_⟩:=h
  simp only [Zaa,e1,XK,Xa] at hs
  subst hs
  intro h3;rw [e2] at h3;cases h3
 | rarena ns =>
  rcases ArenaW.kind h hs with ⟨us,ty,e⟩ | ⟨arr,clk,e⟩ <;> (intro h3;rw [e] at h3;cases h3)
 | _=>cases hs
theorem ArenaW.keepE {m t:Nat} {ns:ZF} (A:ArenaW I β w t ns) (ht:t < m) (hI:I.le I') (hk:KeptE m β β'):(∀ g,1001<=g->g < 1001+3*ns.length->β' t g=β t g):=by
 intro g g1 g2
 obtain ⟨b,k,c,e⟩:=A.somb g1 g2
 rw [e,hk t ht g _ (Xr (by omega)) e]
theorem ArenaW.keep2 {m t:Nat} {ns:ZF} (A:ArenaW I β w t ns) (ht:t < m) (hI:I.le I') (hk:KeptE m β β') (hh:∀ b,Za4 β t ns b->w'.heap[b]?=w.heap[b]?):ArenaW I' β' w' t ns:=by
 have hs:=A.keepE ht hI hk
 refine ⟨fun i nd hi=>?_,fun g g' b a1 a2 a3 a4 h1 h2=>A.2 g g' b a1 a2 a3 a4 (by rw [<-hs g a1 a2];exact h1) (by rw [<-hs g' a3 a4];exact h2)⟩
 have hil:=(Xd.1 hi).1
 obtain ⟨bs,k0,c0,us,ty,bv,k1,c1,arr,clk,bn,k2,c2,arr',clk',h0,h1,h2,⟨a1,a2⟩,⟨b1,b2,b3,b4,b5⟩,d1,d2,d3,d4,d5⟩:=A.1 i nd hi
 have g0:1001<=ZC i false/\ZC i false < 1001+3*ns.length/\1001<=ZC i true/\ZC i true < 1001+3*ns.length:=by unfold ZC;simp;omega
 refine ⟨bs,k0,c0,us,ty,bv,k1,c1,arr,clk,bn,k2,c2,arr',clk',by rw [hs _ (by omega) (by omega)];exact h0,by rw [hs _ g0.1 g0.2.1];exact h1,by rw [hs _ g0.2.2.1 g0.2.2.2];exact h2,⟨by rw [hh bs (ZmL hil h0)];exact a1,a2⟩,⟨by rw [hh bv (Zet hil h1)];exact b1,ZiH (fun y hy=>by obtain ⟨p,hp,rfl⟩:=Xv.1 hy;exact (b4 p hp).1) b2,?_,b4,b5⟩,by rw [hh bn (Zet hil h2)];exact d1,ZiH (fun y hy=>by obtain ⟨p,hp,rfl⟩:=Xv.1 hy;exact (d4 p hp).1) d2,ZkH (m:=m) hI hk (fun y hy=>by obtain ⟨p,hp,rfl⟩:=Xv.1 hy;simp [ZeR,Zdo,ht]) d3,d4,d5⟩
 refine VRs.mono hI (Bmap.le.refl β') _ _ (VRs.of_cells (β:=β) ?_ b3)
 intro x hx
 obtain ⟨p,hp,rfl⟩:=Xv.1 hx
 have:=Zp0 (b4 p hp).2
 generalize p.2=q at this ⊢
 cases q <;> simp_all [Z2,AVal.cells,Z9]
theorem ZLR {m t:Nat} {B:Zk} (hB:BR I β w t B) (hm:Zdi B=true) (ht:t < m) (hk:KeptE m β β') (k:Nat):Zaa β' t (roB B) k↔Zaa β t (roB B) k:=by
 have one:∀ es,BR I β w t (.map es)->(Zaa β' t (.rmap es) k↔Zaa β t (.rmap es) k):=by
  rintro es ⟨b,k',c,_,_,e,_⟩
  simp [Zaa,e,hk.zero ht e]
 have two:∀ ns,ArenaW I β w t ns->(Za4 β' t ns k↔Za4 β t ns k):=by
  intro ns A
  have hs:=A.keepE ht (Imm.le.refl I) hk
  constructor
  ·rintro ⟨g,g1,g2,h⟩;exact ⟨g,g1,g2,by rw [<-hs g g1 g2];exact h⟩
  ·rintro ⟨g,g1,g2,h⟩;exact ⟨g,g1,g2,by rw [hs g g1 g2];exact h⟩
 cases B <;> simp [Zdi] at hm
 ·exact one _ hB
 ·exact one _ hB
 ·exact two _ hB
 ·exact two _ hB
theorem Rel.hide (R:Rel base w0 I0 I β σ w) {t r:Nat} {B:Zk} (ht:σ[t]?=some B) (hm:Zdi B=true) (hr:∀ t x,σ[t]?=some x->¬Zj w β t x r):Rel (fun k=>base k\/Zaa β t (roB B) k\/k=r) w I I β (σ.set t (roB B)) w:=by
 have htl:t < σ.length:=(Xd.1 ht).1
 have look:∀ u x,(σ.set t (roB B))[u]?=some x->(u=t/\x=roB B)\/(u≠t/\σ[u]?=some x):=fun u x h=>ZfU htl h
 have hB:=R.blk t _ ht
 refine ⟨KB.refl _ _,fun _ _ _=>rfl,R.imm,?_,?_,?_,fun u g hu=>R.fresh u g (by simpa using hu),?_,?_,R.glob,?_⟩
 ·intro u x hx
  rcases look u x hx with ⟨rfl,rfl⟩ | ⟨_,hx⟩
  ·exact Zvc hB
  ·exact R.blk u x hx
 ·intro u x j hx ho
  rcases look u x hx with ⟨rfl,rfl⟩ | ⟨hu,hx⟩
  ·exact absurd ho (ZoJ hm)
  ·refine ⟨fun h=>?_,(R.own u x j hx ho).2⟩
   rcases h with h | h | rfl
   ·exact (R.own u x j hx ho).1 h
   ·rcases ZoB (w:=w) hm h with h | h
    ·exact hu (R.apart u x t _ j hx ht ho h)
    ·exact (R.own u x j hx ho).1 (R.ro t _ j ht h)
   ·exact hr u x hx ho
 ·intro u x u' x' j hx hx' ho ho'
  rcases look u x hx with ⟨rfl,rfl⟩ | ⟨hu,hx⟩
  ·exact absurd ho (ZoJ hm)
  ·rcases look u' x' hx' with ⟨rfl,rfl⟩ | ⟨hu',hx'⟩
   ·exact absurd ho' (ZoJ hm)
   ·exact R.apart u x u' x' j hx hx' ho ho'
 ·intro u g hx
  rcases look u _ hx with ⟨_,h⟩ | ⟨_,hx⟩
  ·exact absurd h.symm (ZK9 hm)
  ·exact R.free u g hx
 ·intro u x g hx hg
  rcases look u x hx with ⟨rfl,rfl⟩ | ⟨_,hx⟩
  ·refine R.gen u _ g ht ?_
   rw [ZHp] at hg;exact hg
  ·exact R.gen u x g hx hg
 ·intro u x j hx hs
  rcases look u x hx with ⟨rfl,rfl⟩ | ⟨hu,hx⟩
  ·exact Xr (Xm hs)
  ·exact Xm (R.ro u x j hx hs)
theorem Zpx {t:Nat} {B:Zk} (h:Zbv σ t B=true):∃ x,σ[t]?=some x/\Zb x<=Zb B/\B≠.free:=by
 unfold Zbv at h
 split at h
 ·rename_i e;exact ⟨_,e,by simp [Zb],by simp⟩
 ·rename_i e;exact ⟨_,e,by simp [Zb],by simp⟩
 ·rename_i ms ns e;exact ⟨_,e,by simp only [Zb];simp only [decide_eq_true_eq] at h;omega,by simp⟩
 ·rename_i ms ns e;exact ⟨_,e,by simp only [Zb];simp only [decide_eq_true_eq] at h;omega,by simp⟩
 ·cases h
theorem Rel.unhide (R1:Rel base w0 I0 I1 β1 σ1 w1) {base':Nat->Prop} {t:Nat} (hbb:∀ k,base k->base' k) (R2:Rel base' w1 I1 I2 β2 σ2 w2) {B:Zk} (ht:Zbv σ2 t B=true) (hB:BR I2 β2 w2 t B) (hown:∀ k,Zj w2 β2 t B k->base' k/\¬base k/\∀ o,I2 k o=none) (hsee:∀ k,Zaa β2 t B k->base k) (hro:∀ u x b,u≠t->σ2[u]?=some x->Zaa β2 u x b->base b):Rel base w0 I0 I2 β2 (σ2.set t B) w2:=by
 obtain ⟨x2,ht2,hgen,hfree⟩:=Zpx ht
 have htl:t < σ2.length:=(Xd.1 ht2).1
 have look:∀ u x,(σ2.set t B)[u]?=some x->(u=t/\x=B)\/(u≠t/\σ2[u]?=some x):=fun u x h=>ZfU htl h
 refine ⟨R1.below.trans (R2.below.mono hbb),fun k o h=>(R2.old k o (hbb k h)).trans (R1.old k o h),R2.imm,?_,?_,?_,fun u g hu=>R2.fresh u g (by simpa using hu),?_,?_,R2.glob,?_⟩
 ·intro u x hx
  rcases look u x hx with ⟨rfl,rfl⟩ | ⟨_,hy⟩
  ·exact hB
  ·exact R2.blk u x hy
 ·intro u x j hx ho
  rcases look u x hx with ⟨rfl,rfl⟩ | ⟨hu,hy⟩
  ·exact (hown j ho).2
  ·have:=R2.own u x j hy ho
   exact ⟨fun h=>this.1 (hbb j h),this.2⟩
 ·intro u x u' x' j hx hx' ho ho'
  rcases look u x hx with ⟨rfl,rfl⟩ | ⟨hu,hy⟩
  ·rcases look u' x' hx' with ⟨rfl,rfl⟩ | ⟨hu',hy'⟩
   ·rfl
   ·exact absurd (hown j ho).1 (R2.own u' x' _ hy' ho').1
  ·rcases look u' x' hx' with ⟨rfl,rfl⟩ | ⟨hu',hy'⟩
   ·exact absurd (hown j ho').1 (R2.own u x _ hy ho).1
   ·exact R2.apart u x u' x' j hy hy' ho ho'
 ·intro u g hx
  rcases look u _ hx with ⟨_,h⟩ | ⟨_,hy⟩
  ·exact absurd h.symm hfree
  ·exact R2.free u g hy
 ·intro u x g hx hg
  rcases look u x hx with ⟨rfl,rfl⟩ | ⟨_,hy⟩
  ·exact R2.gen u x2 g ht2 (by omega)
  ·exact R2.gen u x g hy hg
 ·intro u x j hx hs
  rcases look u x hx with ⟨rfl,rfl⟩ | ⟨hu,hy⟩
  ·exact hsee j hs
  ·exact hro u x j hu hy hs
theorem ZqI {t k:Nat} (x:Zk):Zj w β t (Zbc x) k↔Zj w β t x k:=by cases x <;> exact Iff.rfl
theorem ZyJ {t k:Nat} (x:Zk):Zaa β t (Zbc x) k↔Zaa β t x k:=by cases x <;> exact Iff.rfl
theorem ZDp (x:Zk):Zb (Zbc x)=Zb x:=by cases x <;> rfl
theorem ZAK {x:Zk} (h:Zbc x=.free):x=.free:=by cases x <;> simp [Zbc] at h ⊢
theorem ZCY {t:Nat} {x:Zk} (h:BR I β w t x):BR I β w t (Zbc x):=by
 cases x with
 | row g k xs=>obtain ⟨bi,h⟩:=h;exact ⟨xs,rfl,bi,h⟩
 | _=>exact h
theorem Zfa {bg:Bool} {t:Nat} {x:Zk} (h:(Zbl bg σ)[t]?=some x):∃ y,σ[t]?=some y/\(x=y\/x=Zbc y):=by
 unfold Zbl at h
 split at h
 ·rw [XM,Xh] at h
  obtain ⟨y,h1,rfl⟩:=h
  exact ⟨y,h1,Xr rfl⟩
 ·exact ⟨x,h,Xm rfl⟩
theorem Rel.bags (R:Rel base w0 I0 I β σ w) (bg:Bool):Rel base w0 I0 I β (Zbl bg σ) w:=by
 have o:∀ {t k:Nat} {x y:Zk},(x=y\/x=Zbc y)->Zj w β t x k->Zj w β t y k:=by
  rintro t k x y (rfl | rfl) h
  ·exact h
  ·exact (ZqI y).1 h
 refine ⟨R.below,R.old,R.imm,?_,?_,?_,?_,?_,?_,R.glob,?_⟩
 ·intro t x h
  obtain ⟨y,hy,rfl | rfl⟩:=Zfa h
  ·exact R.blk t _ hy
  ·exact ZCY (R.blk t y hy)
 ·intro t x b h hb
  obtain ⟨y,hy,e⟩:=Zfa h
  exact R.own t y b hy (o e hb)
 ·intro t x t' x' b h h' hb hb'
  obtain ⟨y,hy,e⟩:=Zfa h
  obtain ⟨y',hy',e'⟩:=Zfa h'
  exact R.apart t y t' y' b hy hy' (o e hb) (o e' hb')
 ·intro t g h
  refine R.fresh t g ?_
  unfold Zbl at h
  split at h
  ·simpa using h
  ·exact h
 ·intro t g h
  obtain ⟨y,hy,e⟩:=Zfa h
  have : y=.free:=by
   rcases e with e | e
   ·exact e.symm
   ·exact ZAK e.symm
  subst this
  exact R.free t g hy
 ·intro t x g h hg
  obtain ⟨y,hy,rfl | rfl⟩:=Zfa h
  ·exact R.gen t _ g hy hg
  ·exact R.gen t y g hy (by rw [ZDp] at hg;exact hg)
 ·intro t x b h hs
  obtain ⟨y,hy,rfl | rfl⟩:=Zfa h
  ·exact R.ro t _ b hy hs
  ·exact R.ro t y b hy ((ZyJ y).1 hs)
theorem Rel.turn (R:Rel base w0 I0 I β σ w) {r:Nat} (hr:∀ t x,σ[t]?=some x->¬Zj w β t x r) (hb:¬base r) (hI:∀ o,I r o=none) (hos:w'.os=w.os) (ht:w'.tape=w.tape) (ho:w'.output=w.output) (hs:w.heap.size<=w'.heap.size) (hk:∀ k,k≠r->k < w.heap.size->w'.heap[k]?=w.heap[k]?) (hbl:KLt base w):Rel base w0 I0 I β σ w':=by
 refine R.stay (Imm.le.refl I) ⟨hos,ht,ho,hs,fun k h=>hk k (by rintro rfl;exact hb h) (hbl k h)⟩ (fun _ _ _=>rfl) ?_ ?_
 ·intro b o u hu
  have h1:=R.imm b o u hu
  have hne:b≠r:=by rintro rfl;rw [hI] at hu;cases hu
  have hlt:=Zc8 h1
  rw [<-h1]
  simp only [World.cell?,hk b hne hlt]
 ·intro t x b hx hb'
  have hne:b≠r:=by rintro rfl;exact hr t x hx hb'
  exact ⟨hk b hne ((R.blk t x hx).owns_lt hb'),(R.own t x b hx hb').2⟩
theorem ZDB (m:Nat) (tm:Tms) (σ:Za):m<=(gcT m tm σ).2.length:=by
 show m<=(Zg σ m _ _ _ 0).length
 rw [ZkA]
 obtain ⟨_,r,hr⟩:=Zgk (σ:=σ) 1000 (Zx (tm.map (·.2))++(Wn m).flatMap fun t=>Zp (σ.getD t .free)) (Wn m) Xbe
 show m<=(Zn m (tm.map (·.2)) σ).length
 unfold Zn
 rw [hr]
 simp
end
theorem Zhi {I:Imm} {β:Bmap} {tm:Tms} {a:Act} {d:Nat} {u:Value} (T:TR I β tm a.tmps) (hd:tget tm d=.top):TR I β tm (a.put (some d) u).tmps:=by
 intro n
 by_cases e:d=n
 ·subst e;rw [hd];simp only [VR]
 ·rw [pgn e];exact T n
theorem ZFO {m:Nat} {live:List Nat} {tm:Tms} {σ:Za} {d:Nat} (hd:d ∉ live):tget (gcT m (keepL live tm) σ).1 d=.top:=by
 have key:∀ (l:List Nat) (xs:List AVal),d ∉ l->tget (l.zip xs) d=.top:=by
  intro l
  induction l with
  | nil=>intro xs _;rfl
  | cons x l ih =>
   intro xs h
   cases xs with
   | nil=>rfl
   | cons y ys =>
    simp only [X5,tget]
    rw [if_neg (by rintro rfl;exact h (by simp))]
    exact ih ys (fun hm=>h (by simp [hm]))
 have e:(keepL live tm).map (·.1)=live:=by simp [keepL,Wb,Xbw]
 show tget (((keepL live tm).map (·.1)).zip _) d=.top
 rw [e]
 exact key live _ hd
section
variable {P:Program} {O:ZG} {bf:Nat->Bool} {an an3:Ann} {base:Nat->Prop} {w0:World} {I0:Imm} {dr:Door} {m:Nat} {live:List Nat} {ms it nx ok en bid b1:Nat} {bg:Bool} {ent:List AOp} {run fin:Nat->Tms->Za->Option (ZA×Tms×Za)}
def ZbQ (dr:Door) (it ms:Nat) (r b:Nat):Door:=⟨dr.D,it::ms::dr.K,fun n=>if n=it then .pointer (some ⟨r,0,none⟩) else if n=ms then .map (some b) else dr.X n⟩
def ZeY (arr:Array MapEntry) (j:Nat):Nat:=(arr.toList.getD j ⟨undef,undef,0⟩).born
theorem Zh3 {es:List (AVal×AVal)}:∀ (a b:List (AVal×AVal)) (tm:Tms) (σ:Za),ZaT bf m live ms en b1 bg ent run es (a++b) tm σ=match ZaT bf m live ms en b1 bg ent run es a tm σ with
  | some (tm',σ')=>ZaT bf m live ms en b1 bg ent run es b tm' σ'
  | none=>none
 | [],b,tm,σ=>rfl
 | x::a,b,tm,σ=>by
  simp only [XH,ZaT]
  split
  ·split
   ·split
    ·exact Zh3 a b _ _
    ·rfl
   ·rfl
  ·rfl
theorem Zj7 {tm tm0:Tms} {σ σ0:Za} {t:Nat} {B:Zk} {es:List (AVal×AVal)} (h:ZcW m live ms tm σ=some (t,B,es,tm0,σ0)):(gcT m (keepL live tm) σ).1=tm0/\(gcT m (keepL live tm) σ).2=σ0/\ZdG σ0 (tget tm0 ms)=some (t,B,es)/\∀ p ∈ es,ZeR σ0.length p.2=true:=by
 unfold ZcW at h
 split at h
 ·rename_i t' B' es' h1
  split at h
  ·rename_i h4
   simp only [Xa,Xb] at h
   obtain ⟨rfl,rfl,rfl,rfl,rfl⟩:=h
   exact ⟨rfl,rfl,h1,fun p hp=>XJ.1 h4 p hp⟩
  ·cases h
 ·cases h
theorem Zw3 {tm tm':Tms} {σ σ':Za} {t:Nat} {B:Zk} {kv:AVal×AVal} (h:ZaE bf ms en b1 bg ent run t B kv tm σ=some (tm',σ')):∃ tm1 σ1 e tm2 σ2,ZaU bf ent (tput tm (some en) (.tup [kv.1,kv.2])) (σ.set t (roB B))=some (tm1,σ1)/\run σ.length tm1 σ1=some (e,tm2,σ2)/\(e=.normal\/e=.exit b1)/\Zbv σ2 t B=true/\Zbj (σ.set t (roB B)) σ2=true/\tput tm2 (some ms) (tget tm ms)=tm'/\Zbl bg (σ2.set t B)=σ':=by
 unfold ZaE at h
 split at h
 case h_2=>cases h
 rename_i tm1 σ1 h1
 split at h
 ·rename_i tm2 σ2 h2
  split at h
  ·rename_i h3
   simp only [Xi] at h3
   simp only [Xa,Xb] at h
   exact ⟨tm1,σ1,.normal,tm2,σ2,h1,h2,Xm rfl,h3.1,h3.2,h.1,h.2⟩
  ·cases h
 ·rename_i i tm2 σ2 h2
  split at h
  ·rename_i h3
   simp only [Xi,decide_eq_true_eq] at h3
   obtain ⟨rfl,h3⟩:=h3
   simp only [Xa,Xb] at h
   exact ⟨tm1,σ1,.exit _,tm2,σ2,h1,h2,Xr rfl,h3.1,h3.2,h.1,h.2⟩
  ·cases h
 ·cases h
theorem Zz2 (hkp:∀ n ∈ dr.K,n ∈ an.keep) (hm:P.follows .mixedOrders=true) (hb:KLt base w0) {ops3 ops4:Array Oper} {i3 i4:Nat} {body:Code} {nxo exo eno:Oper} {lE:List Oper}
  (hbody:∀ (dr':Door) (base':Nat->Prop) (w0':World) (I0':Imm) (m':Nat),(∀ n ∈ dr'.K,n ∈ an3.keep)->KLt base' w0'->∀ {I:Imm} {β:Bmap} {tm tm':Tms} {σ σ':Za} {a:Act} {w:World} {e:ZA},StF dr' m' an3.nt base' w0' I0' I β tm σ a w->run m' tm σ=some (e,tm',σ')->∀ {Q:Exit->Act->World->Prop},Zo3 dr' m' an3 base' w0' I0' I β e tm' σ' Q->body.wp P Q a w)
  (h3:ops3.toList=[nxo,exo]) (h4:ops4.toList=eno::lE)
  (hn1:nxo.op=.next (.tmp it) false) (hn2:nxo.dst=some nx) (hn3:nxo.guard=none) (hx1:exo.op=.extract (.tmp nx) 0) (hx2:exo.dst=some ok) (hx3:exo.guard=none)
  (he1:eno.op=.entry (.tmp it)) (he2:eno.dst=some en) (he3:eno.guard=none) (hcE:Zco P an3 ops4 lE=some ent) (hnt3:an3.nt=an.nt) (hk3:an3.keep=it::ms::an.keep)
  (d1:it < an.nt) (d2:nx < an.nt) (d3:ok < an.nt) (d4:en < an.nt) (d5:it≠ms) (d6:nx≠ms) (d7:ok≠ms) (d8:en≠ms) (d9:nx≠it) (d10:ok≠it) (d11:en≠it) (d12:nx≠ok) (hlv:∀ n ∈ live,n≠it/\n≠nx/\n≠ok/\n≠en)
  (q1:it ∉ an.keep) (q2:nx ∉ an.keep) (q3:ok ∉ an.keep) (q4:en ∉ an.keep)
  {r b clk:Nat} {arr:Array MapEntry} {es:List (AVal×AVal)} (hS:Zdt arr clk) (hne:arr.size=es.length) (hrb:r≠b) (hrbase:¬base r) (hdX:ms ∈ dr.K->dr.X ms=.map (some b))
  {tm2:Tms} {σ2:Za} {out:ZA×Tms×Za} (hall:∀ es':List (AVal×AVal),es'.Perm es->Zbi bf m live ms en b1 bg ent run fin es es' tm2 σ2=some out)
  {I:Imm} {β:Bmap} {Q:Exit->Act->World->Prop}
  (hQ:∀ tm σ a w I' β',ZdE m live fin tm σ=some out->I.le I'->KeptE m β β'->TR I' β' (keepL live tm) a.tmps->(dr.ok a/\an.nt<=a.tmps.size)->Rel base w0 I0 I' β' σ w->Q (.exit bid) a w) :
  ∀ (n:Nat) (js:List Nat) (tm:Tms) (σ:Za) (a:Act) (w:World),n+js.length=es.length+1->js.Nodup->(∀ j ∈ js,j < es.length)->ZaT bf m live ms en b1 bg ent run es (js.map fun j=>es.getD j (.top,.top)) tm2 σ2=some (tm,σ) ->
   w.heap[r]?=some (.mapIter (some b) clk (js.map (ZeY arr)).toArray clk)->w.heap[b]?=some (.map arr clk) ->
   (∃ I' β',I.le I'/\KeptE m β β'/\TR I' β' (keepL live tm) a.tmps/\((ZbQ dr it ms r b).ok a/\an.nt<=a.tmps.size)/\Rel base w0 I0 I' β' σ w/\(∀ o,I' r o=none)/\(∀ t x,σ[t]?=some x->¬Zj w β' t x r)) ->
   Code.rounds P (.seq (.region i3 ops3 false) (.seq (.cond (.tmp ok) .skip (.exit bid)) (.block b1 (.seq (.region i4 ops4 false) body)))) Q n a w:=by
 have hperm:∀ js:List Nat,js.Nodup->(∀ j ∈ js,j < es.length)->∃ rest:List Nat,(Wn es.length).Perm (js++rest):=fun js h1 h2=>Zty js _ h1 (fun j hj=>W0.2 (h2 j hj)) Xbe
 have hpm:∀ js rest:List Nat,(Wn es.length).Perm (js++rest)->(js.map (fun j=>es.getD j (.top,.top))++rest.map fun j=>es.getD j (.top,.top)).Perm es:=by
  intro js rest h
  have:=h.map (fun j=>es.getD j ((.top,.top):AVal×AVal))
  rw [ZvX,X0] at this
  exact this.symm
 have kit:it ∉ dr.K:=fun h=>q1 (hkp _ h)
 have knx:nx ∉ dr.K:=fun h=>q2 (hkp _ h)
 have kok:ok ∉ dr.K:=fun h=>q3 (hkp _ h)
 have ken:en ∉ dr.K:=fun h=>q4 (hkp _ h)
 intro n
 induction n with
 | zero =>
  intro js tm σ a w hn hnd hlt _ _ _ _
  exfalso
  obtain ⟨rest,hr⟩:=hperm js hnd hlt
  have:=hr.length_eq
  simp at this
  omega
 | succ n ih =>
  intro js tm σ a w hn hnd hlt hf hit hmap hst
  rw [rounds_succ]
  obtain ⟨I1,β1,g1,g2,T1,⟨gd,gs⟩,R1,hIr,hown⟩:=hst
  have vit:a.tmps.getD it undef=.pointer (some ⟨r,0,none⟩):=by
   have:=gd.2 it (by simp [ZbQ]);simpa [ZbQ] using this
  have vms:a.tmps.getD ms undef=.map (some b):=by
   have:=gd.2 ms (by simp [ZbQ]);simpa [ZbQ,W6 d5] using this
  refine wp_seq (wp_region_list ?_)
  rw [h3]
  refine ZhD hn3 ?_
  unfold Oper.wp
  have hlook:=run_next_at (P:=P) w nxo.type r b clk clk _ arr clk hit hmap (fun x hx=>hS.1 x hx) (Xz _)
  rcases hlook with ⟨hz,hrun⟩ | ⟨e,he,w1,hw1,hrun⟩
  ·
   have e1:(execOp a.eval nxo).run P w=.ok (.value (.tuple #[.bool false])) w:=by
    unfold execOp;rw [hn1]
    simp only [Act.eval]
    rw [vit]
    exact ZjB hrun
   rw [e1,Oper.upon_value,hn2]
   refine ZhD hx3 ?_
   unfold Oper.wp
   have e2:(execOp (a.put (some nx) (.tuple #[.bool false])).eval exo).run P w=.ok (.value (.bool false)) w:=by
    unfold execOp;rw [hx1]
    simp only [Act.eval]
    rw [pgs (by omega)]
    exact ZjB (by simp [Instr.extract])
   rw [e2,Oper.upon_value,hx2]
   refine wpList_nil ?_
   simp only [Exit.then]
   refine wp_seq (wp_cond_false (by simp only [Act.eval];exact pgs (by rw [ZeJ];omega)) (wp_exit ?_))
   simp only [Exit.then]
   obtain ⟨rest,hr⟩:=hperm js hnd hlt
   have hrest:rest=[]:=by
    cases rest with
    | nil=>rfl
    | cons x rest =>
     exfalso
     have hx:x < es.length:=W0.1 (hr.mem_iff.2 (by simp))
     obtain ⟨ex,hxa⟩:∃ ex,arr.toList[x]?=some ex:=⟨_,Xl (by simpa [hne] using hx)⟩
     have hs:=ZDa hz (arr.toList.getD x ⟨undef,undef,0⟩) (by
      rw [Xf,hxa];exact Xu hxa)
     have hnd2:(js++x::rest).Nodup:=hr.nodup_iff.1 Xbe
     have hxj:x ∉ js:=fun hm=>by
      have:=(WK.1 hnd2).2.2 x hm x (by simp)
      exact this rfl
     simp only [List.contains_toArray,Xaq,decide_eq_true_eq,Xv] at hs
     obtain ⟨y,hy,hyx⟩:=hs
     have hyl:y < es.length:=hlt y hy
     obtain ⟨ey,hya⟩:∃ ey,arr.toList[y]?=some ey:=⟨_,Xl (by simpa [hne] using hyl)⟩
     have hnb:=hS.2
     have e3:(arr.toList.map (·.born))[y]?=(arr.toList.map (·.born))[x]?:=by
      rw [XM,XM,hya,hxa]
      simp only [XQ,Xa]
      unfold ZeY at hyx
      rw [Xf,Xf,hya,hxa] at hyx
      exact hyx
     have hyx2:=(List.getElem?_inj (by simpa [hne] using hyl) hnb).1 e3
     subst hyx2
     exact hxj hy
   subst hrest
   have hp:=hpm js [] hr
   have ho:=hall _ hp
   unfold Zbi at ho
   rw [Zh3,hf] at ho
   simp only [XW,ZaT] at ho
   have okd:dr.ok ((a.put (some nx) (.tuple #[.bool false])).put (some ok) (.bool false)):=by
    refine Zkj (Zkj ⟨gd.1,fun j hj=>?_⟩ (fun n hn=>by injection hn with hn;subst hn;exact knx)) (fun n hn=>by injection hn with hn;subst hn;exact kok)
    have hji:j≠it:=by rintro rfl;exact kit hj
    have:=gd.2 j (by simp [ZbQ,hj])
    rw [this]
    simp only [ZbQ,hji,if_false]
    split
    ·rename_i e;subst e;exact (hdX hj).symm
    ·rfl
   refine hQ tm σ _ w I1 β1 ho g1 g2 ?_ ⟨okd,by rw [ZeJ,ZeJ];exact gs⟩ R1
   have t0:∀ d,d ∉ live->tget (keepL live tm) d=.top:=fun d hd=>by rw [Zj9,if_neg hd]
   exact Zhi (Zhi T1 (t0 nx fun h=>(hlv nx h).2.1 rfl)) (t0 ok fun h=>(hlv ok h).2.2.1 rfl)
  ·
   obtain ⟨hea,hes⟩:=ZIo he
   obtain ⟨j,hj,hje⟩:=List.getElem_of_mem hea
   have hja:arr.toList[j]?=some e:=by rw [Xl hj,hje]
   have hjl:j < es.length:=by simpa [hne] using hj
   have hbj:ZeY arr j=e.born:=by unfold ZeY;rw [Xf,hja];rfl
   have hjs:j ∉ js:=fun hm=>by
    have : (js.map (ZeY arr)).toArray.contains e.born=true:=by
     simp only [List.contains_toArray,Xaq,decide_eq_true_eq,Xv]
     exact ⟨j,hm,hbj⟩
    rw [this] at hes;cases hes
   have hnd':(js++[j]).Nodup:=by
    rw [WK]
    exact ⟨hnd,by simp,fun x hx y hy=>by rw [XV] at hy;subst hy;rintro rfl;exact hjs hx⟩
   have hlt':∀ k ∈ js++[j],k < es.length:=fun k hk=>by
    rcases Xt.1 hk with hk | hk
    ·exact hlt k hk
    ·rw [XV] at hk;subst hk;exact hjl
   obtain ⟨rest,hr⟩:=hperm (js++[j]) hnd' hlt'
   have hp:=hpm (js++[j]) rest hr
   have ho:=hall _ hp
   unfold Zbi at ho
   rw [Zh3,X0,Zh3,hf] at ho
   simp only [Xx,XW] at ho
   generalize hkv:es.getD j ((.top,.top):AVal×AVal)=kv at ho
   cases hro:ZaT bf m live ms en b1 bg ent run es [kv] tm σ with
   | none=>rw [hro] at ho;cases ho
   | some q =>
   obtain ⟨tm',σ'⟩:=q
   clear ho
   have hf':ZaT bf m live ms en b1 bg ent run es ((js++[j]).map fun j=>es.getD j (.top,.top)) tm2 σ2=some (tm',σ'):=by
    rw [X0,Zh3,hf]
    simp only [Xx,XW,hkv,hro]
   simp only [ZaT] at hro
   split at hro
   case h_2=>cases hro
   rename_i t B es' tm0 σ0 hhead
   split at hro
   case isFalse=>cases hro
   rename_i hes'
   subst hes'
   split at hro
   case h_2=>cases hro
   rename_i tmF σF hround
   simp only [Xa,Xb] at hro
   obtain ⟨rfl,rfl⟩:=hro
   obtain ⟨hg1,hg2,hmst,hkept⟩:=Zj7 hhead
   obtain ⟨hte,hml0,hwhat⟩:=Zqs hmst
   obtain ⟨tmA,σA,x,tmB,σB,hstep,hev,hx,hopq,hros,htm,hσ⟩:=Zw3 hround
   have hbw:=R1.base_le hb
   have Rr:=R1.rebase hown
   obtain ⟨β0,q1',R0r,T0⟩:=Zjn Rr T1 m
   have R0:=R1.unbase R0r (fun k h=>Xm h) (fun t x b hx hs=>by
    rcases R0r.ro t x b hx hs with h | rfl
    ·exact h
    ·exact absurd hit (ZyE (R0r.blk t x hx) hs))
   have hown0:∀ t x,(gcT m (keepL live tm) σ).2[t]?=some x->¬Zj w β0 t x r:=fun t x hx ho=>(R0r.own t x r hx ho).1 (Xr rfl)
   have tt:∀ d,d ∉ live->tget (gcT m (keepL live tm) σ).1 d=.top:=fun d hd=>ZFO hd
   have hml:=ZDB m (keepL live tm) σ
   rw [hg1] at T0 tt
   rw [hg2] at R0 hown0 hml
   have vt:=T0 ms
   rw [vms] at vt
   have hB0:=R0.blk t _ hte
   obtain ⟨arr',clk',e2,⟨e3,e4,e5,e6⟩,hsb⟩:=ZqB hB0 hwhat vt
   rw [hmap] at e2
   simp only [Xa,Obj.map.injEq] at e2
   obtain ⟨rfl,rfl⟩:=e2
   have htl:t < σ0.length:=(Xd.1 hte).1
   have e1:(execOp a.eval nxo).run P w=.ok (.value (.tuple #[.bool true,e.key,e.val])) (setBlock w1 r (.mapIter (some b) clk ((js.map (ZeY arr)).toArray.push e.born) clk)):=by
    unfold execOp;rw [hn1]
    simp only [Act.eval]
    rw [vit]
    rw [Sem.run_bind,hrun];rfl
   have hw1h:w1.heap=w.heap/\w1.os=w.os/\w1.tape=w.tape/\w1.output=w.output:=by rcases hw1 with rfl | rfl <;> exact ⟨rfl,rfl,rfl,rfl⟩
   obtain ⟨wh,wo,wt,wu⟩:=hw1h
   have hrlt:r < w.heap.size:=(Xw.1 hit).1
   generalize hw3:setBlock w1 r (.mapIter (some b) clk ((js.map (ZeY arr)).toArray.push e.born) clk)=w3 at e1
   have w3r:w3.heap[r]?=some (.mapIter (some b) clk ((js.map (ZeY arr)).toArray.push e.born) clk):=by
    rw [<-hw3];simp only [setBlock,wh];rw [Array.getElem?_setIfInBounds_self_of_lt hrlt]
   have w3k:∀ k,k≠r->w3.heap[k]?=w.heap[k]?:=fun k hk=>by
    rw [<-hw3];simp only [setBlock,wh];rw [XT (W6 hk)]
   have w3b:w3.heap[b]?=some (.map arr clk):=by rw [w3k b (W6 hrb)];exact hmap
   have w3s:w3.heap.size=w.heap.size:=by rw [<-hw3];simp [setBlock,wh]
   have R3:Rel base w0 I0 I1 β0 σ0 w3:=R0.turn hown0 hrbase hIr (by rw [<-hw3];exact wo) (by rw [<-hw3];exact wt) (by rw [<-hw3];exact wu) (by omega) (fun k hk _=>w3k k hk) hbw
   have hown3:∀ t x,σ0[t]?=some x->¬Zj w3 β0 t x r:=fun t x hx ho=>hown0 t x hx (((R0.blk t x hx).owns_at (Bmap.le.refl β0) (fun b' hb'=>w3k b' (by rintro rfl;exact hown0 t x hx hb')) r).1 ho)
   have RH:=R3.hide hte hml0 hown3
   have hseeb:∀ k,Zaa β0 t (roB B) k->k < w.heap.size:=fun k hk=>by
    rcases ZoB (w:=w) hml0 hk with h | h
    ·exact (R0.blk t _ hte).owns_lt h
    ·exact hbw k (R0.ro t _ k hte h)
   rw [e1,Oper.upon_value,hn2]
   generalize hA1:a.put (some nx) (.tuple #[.bool true,e.key,e.val])=A1
   have s1:A1.tmps.size=a.tmps.size:=by rw [<-hA1,ZeJ]
   have f1:∀ k,k≠nx->A1.tmps.getD k undef=a.tmps.getD k undef:=by intro k hk;rw [<-hA1];exact pgn (W6 hk)
   have df1:A1.defers=dr.D:=by rw [<-hA1];exact gd.1
   have TA1:TR I1 β0 tm0 A1.tmps:=by rw [<-hA1];exact Zhi T0 (tt nx fun h=>(hlv nx h).2.1 rfl)
   refine ZhD hx3 ?_
   unfold Oper.wp
   have e2:(execOp A1.eval exo).run P w3=.ok (.value (.bool true)) w3:=by
    unfold execOp;rw [hx1]
    simp only [Act.eval]
    rw [<-hA1,pgs (by omega)]
    exact ZjB (by simp [Instr.extract])
   rw [e2,Oper.upon_value,hx2]
   generalize hA2:A1.put (some ok) (.bool true)=A2
   have s2:A2.tmps.size=a.tmps.size:=by rw [<-hA2,ZeJ,s1]
   have f2:∀ k,k≠ok->A2.tmps.getD k undef=A1.tmps.getD k undef:=by intro k hk;rw [<-hA2];exact pgn (W6 hk)
   have df2:A2.defers=dr.D:=by rw [<-hA2];exact df1
   have TA2:TR I1 β0 tm0 A2.tmps:=by rw [<-hA2];exact Zhi TA1 (tt ok fun h=>(hlv ok h).2.2.1 rfl)
   refine wpList_nil ?_
   simp only [Exit.then]
   refine wp_seq (wp_cond_true (by simp only [Act.eval];rw [<-hA2];exact pgs (by omega)) (wp_skip ?_))
   simp only [Exit.then]
   refine wp_block (wp_seq (wp_region_list ?_))
   rw [h4]
   refine ZhD he3 ?_
   unfold Oper.wp
   have e3':(execOp A2.eval eno).run P w3=.ok (.value (.tuple #[e.key,e.val])) w3:=by
    unfold execOp;rw [he1]
    simp only [Act.eval]
    rw [f2 it (W6 d10),f1 it (W6 d9),vit]
    exact ZjB (run_entry_at w3 r b clk _ arr clk e w3r w3b hea hS.2)
   rw [e3',Oper.upon_value,he2]
   generalize hA3:A2.put (some en) (.tuple #[e.key,e.val])=A3
   have s3:A3.tmps.size=a.tmps.size:=by rw [<-hA3,ZeJ,s2]
   have f3:∀ k,k≠en->A3.tmps.getD k undef=A2.tmps.getD k undef:=by intro k hk;rw [<-hA3];exact pgn (W6 hk)
   have df3:A3.defers=dr.D:=by rw [<-hA3];exact df2
   have hkve:VR I1 β0 (.tup [kv.1,kv.2]) (.tuple #[e.key,e.val]):=by
    have hej:es'[j]?=some kv:=by
     rw [<-hkv,Xf,Xl hjl];rfl
    obtain ⟨v1,p1,p2⟩:=ZbV e3 (i:=j) (x:=kv.1) (by rw [XM,hej];rfl)
    obtain ⟨v2,p3,p4⟩:=ZbV e4 (i:=j) (x:=kv.2) (by rw [XM,hej];rfl)
    rw [XM,hja] at p1 p3
    simp only [XQ,Xa] at p1 p3
    subst p1 p3
    simp only [VR]
    exact ⟨_,rfl,by simp only [VRs];exact ⟨_,_,rfl,p2,_,_,rfl,p4,rfl⟩⟩
   have TA3:TR I1 β0 (tput tm0 (some en) (.tup [kv.1,kv.2])) A3.tmps:=by rw [<-hA3];exact TR.put TA2 hkve (by omega)
   have ok3:(ZbQ dr it ms r b).ok A3:=by
    refine ⟨df3,fun k hk=>?_⟩
    have hk':k=it\/k=ms\/k ∈ dr.K:=by simpa [ZbQ] using hk
    have n1:k≠en/\k≠ok/\k≠nx:=by
     rcases hk' with rfl | rfl | hk'
     ·exact ⟨W6 d11,W6 d10,W6 d9⟩
     ·exact ⟨W6 d8,W6 d7,W6 d6⟩
     ·exact ⟨by rintro rfl;exact ken hk',by rintro rfl;exact kok hk',by rintro rfl;exact knx hk'⟩
    rw [f3 k n1.1,f2 k n1.2.1,f1 k n1.2.2]
    exact gd.2 k hk
   have hkp':∀ n ∈ (ZbQ dr it ms r b).K,n ∈ an3.keep:=fun n hn=>by
    rw [hk3]
    simp only [ZbQ,XB] at hn ⊢
    rcases hn with h | h | h
    ·exact Xm h
    ·exact Xr (Xm h)
    ·exact Xr (Xr (hkp n h))
   have hblt:b < w.heap.size:=(Xw.1 hmap).1
   have hbH:KLt (fun k=>base k\/Zaa β0 t (roB B) k\/k=r) w3:=fun k hk=>by
    rcases hk with hk | hk | rfl
    ·have:=hbw k hk;omega
    ·have:=hseeb k hk;omega
    ·omega
   obtain ⟨cs,hruns⟩:=Zpv hstep
   rw [<-XA lE]
   refine Zll (dr:=ZbQ dr it ms r b) (O:=fun _ _ _=>none) noO hkp' hbH hcE TA3 ⟨ok3,by omega⟩ RH hruns ?_
   intro A4 w4 hst4
   refine wpList_nil ?_
   simp only [Exit.then]
   have hstF:StF (ZbQ dr it ms r b) σ0.length an3.nt (fun k=>base k\/Zaa β0 t (roB B) k\/k=r) w3 I1 I1 β0 tmA σA A4 w4:=by
    obtain ⟨I4,β4,k1,k2,k3⟩:=hst4
    exact ⟨I4,β4,k1,KeptE.of_le k2,k3⟩
   have next:∀ A5 w5,StF (ZbQ dr it ms r b) σ0.length an3.nt (fun k=>base k\/Zaa β0 t (roB B) k\/k=r) w3 I1 I1 β0 tmB σB A5 w5->Code.rounds P (.seq (.region i3 ops3 false) (.seq (.cond (.tmp ok) .skip (.exit bid)) (.block b1 (.seq (.region i4 ops4 false) body)))) Q n A5 w5:=by
    rintro A5 w5 ⟨I5,β5,k1,k2,k3,⟨k4,k4'⟩,k5⟩
    have w5b:w5.heap[b]?=some (.map arr clk):=by rw [k5.below.block b (Xr (Xm hsb))];exact w3b
    have w5r:w5.heap[r]?=_:=(k5.below.block r (Xr (Xr rfl))).trans w3r
    have hI5r:∀ o,I5 r o=none:=fun o=>by rw [k5.old r o (Xr (Xr rfl))];exact hIr o
    have hB3:=R3.blk t _ hte
    have hsee5:=ZLR hB3 hml0 htl k2
    have hh5:∀ k,Zaa β0 t (roB B) k->w5.heap[k]?=w3.heap[k]?:=fun k hk=>k5.below.block k (Xr (Xm hk))
    have hB5:BR I5 β5 w5 t B:=by
     rcases hwhat with ⟨_,h⟩ | ⟨j',nx',ns,nd,_,h,_,_⟩
     ·have hM:BR I1 β0 w3 t (.map es'):=by rcases h with rfl | rfl <;> exact hB3
      obtain ⟨b3,k3',c3',arr3,clk3,f1,f2,f3,f4,f5,f6⟩:=hM
      have hsb3:Zaa β0 t (roB B) b3:=by rcases h with rfl | rfl <;> simp [roB,Zaa,f1]
      have hM5:BR I5 β5 w5 t (.map es'):=⟨b3,k3',c3',arr3,clk3,k2.zero htl f1,by rw [hh5 b3 hsb3];exact f2,ZiH (fun y hy=>by obtain ⟨p,hp,rfl⟩:=Xv.1 hy;exact f5 p hp) f3,ZkH k1 k2 (fun y hy=>by obtain ⟨p,hp,rfl⟩:=Xv.1 hy;exact hkept p hp) f4,f5,f6⟩
      rcases h with rfl | rfl <;> exact hM5
     ·have hA:ArenaW I1 β0 w3 t ns:=by rcases h with rfl | rfl <;> exact hB3
      have hA5:ArenaW I5 β5 w5 t ns:=hA.keep2 htl k1 k2 (fun k hk=>hh5 k (by rcases h with rfl | rfl <;> exact hk))
      rcases h with rfl | rfl <;> exact hA5
    have R5:=R3.unhide (fun k hk=>Xm hk) k5 hopq hB5 (fun k hk=>by
     have h1:=(hsee5 k).1 (ZpE hml0 hk)
     have hown1:Zj w3 β0 t B k:=by
      cases hBk:B with
      | map es=>rw [hBk] at h1;exact h1
      | arena ns=>rw [hBk] at h1;exact h1
      | rmap es=>rw [hBk] at hk;cases hk
      | rarena ns=>rw [hBk] at hk;cases hk
      | _=>rw [hBk] at hml0;cases hml0
     refine ⟨Xr (Xm h1),(R3.own t _ k hte hown1).1,fun o=>?_⟩
     rw [k5.old k o (Xr (Xm h1))]
     exact (R3.own t _ k hte hown1).2 o) (fun k hk=>by
     have h1:Zaa β0 t (roB B) k:=(hsee5 k).1 (by
      cases hBk:B with
      | rmap es=>rw [hBk] at hk;exact hk
      | rarena ns=>rw [hBk] at hk;exact hk
      | _=>rw [hBk] at hk;cases hk)
     refine R3.ro t _ k hte ?_
     cases hBk:B with
     | rmap es=>rw [hBk] at h1;exact h1
     | rarena ns=>rw [hBk] at h1;exact h1
     | _=>rw [hBk] at hk;cases hk) (fun u x b' hne hx hs=>by
     cases x with
     | rmap es2 =>
      obtain ⟨y,h2,h1⟩:=ZjG hros hx rfl
      rw [Xs (W6 hne)] at h2
      cases y <;> simp [ZbM] at h1
      rename_i es3
      obtain ⟨b2,k2',c2',_,_,e1,_⟩:=R0.blk u _ h2
      have e2:=k2.zero (Xd.1 h2).1 e1
      refine R0.ro u _ b' h2 ?_
      simp only [Zaa,e2] at hs
      simpa [Zaa,e1] using hs
     | rarena ns2 =>
      obtain ⟨y,h2,h1⟩:=ZjG hros hx rfl
      rw [Xs (W6 hne)] at h2
      cases y <;> simp [ZbM] at h1
      rename_i ns3
      have hA3:ArenaW I1 β0 w u ns3:=R0.blk u _ h2
      have hs3:=hA3.keepE (Xd.1 h2).1 k1 k2
      obtain ⟨g,g1,g2,g3⟩:=hs
      refine R0.ro u _ b' h2 ⟨g,g1,by omega,?_⟩
      rw [<-hs3 g g1 (by omega)]
      exact g3
     | _=>cases hs)
    replace R5:=R5.bags bg
    rw [hσ] at R5
    refine ih (js++[j]) tmF σF A5 w5 (by rw [Xy,Wz];omega) hnd' hlt' hf' ?_ w5b ⟨I5,β5,g1.trans k1,?_,?_,⟨k4,by omega⟩,R5,hI5r,?_⟩
    ·rw [w5r,X0,Xx,XW,hbj,List.push_toArray]
    ·refine (g2.trans q1').trans (fun u hu g bi hg hbi=>k2 u (by omega) g bi hg hbi)
    ·refine TR.keep (fun u=>?_) live
     rw [<-htm]
     show VR I5 β5 (tget (tins ms (tget tm0 ms) tmB) u) _
     rw [Zhh]
     split
     ·rename_i e;subst e
      have : A5.tmps.getD ms undef=.map (some b):=by have:=k4.2 ms (by simp [ZbQ]);simpa [ZbQ,W6 d5] using this
      rw [this]
      rcases hwhat with ⟨h,_⟩ | ⟨j',nx',ns,nd,h,_,_,_⟩
      ·rw [h] at vt ⊢
       simp only [VR] at vt ⊢
       obtain ⟨b3,k3',c3',f1,f2⟩:=vt
       exact ⟨b3,k3',c3',k2.zero htl f1,f2⟩
      ·rw [h] at vt ⊢
       simp only [VR] at vt ⊢
       obtain ⟨b3,k3',c3',f1,f2⟩:=vt
       exact ⟨b3,k3',c3',k2 t htl _ _ (Xr (by unfold ZC;omega)) f1,f2⟩
     ·exact k3 u
    ·intro u y hy hoy
     rw [<-hσ] at hy
     obtain ⟨y',hy',hye⟩:=Zfa hy
     have hoy':Zj w5 β5 u y' r:=by
      rcases hye with rfl | rfl
      ·exact hoy
      ·exact (ZqI y').1 hoy
     obtain ⟨x2,hx2,_,_⟩:=Zpx hopq
     rcases ZfU (Xd.1 hx2).1 hy' with ⟨rfl,rfl⟩ | ⟨_,hy'⟩
     ·have h1:=(hsee5 r).1 (ZpE hml0 hoy')
      rcases ZoB (w:=w3) hml0 h1 with h | h
      ·exact hown3 u _ hte h
      ·exact hrbase (R3.ro u _ r hte h)
     ·exact (k5.own u y' r hy' hoy').1 (Xr (Xr rfl))
   refine hbody (ZbQ dr it ms r b) (fun k=>base k\/Zaa β0 t (roB B) k\/k=r) w3 I1 σ0.length hkp' hbH hstF hev ?_
   rcases hx with rfl | rfl
   ·intro A5 w5 hs
    simp only [Exit.inBlock,Exit.then]
    exact next A5 w5 hs
   ·intro A5 w5 hs
    simp only [Exit.inBlock,if_true,Exit.then]
    exact next A5 w5 hs
end
end
section
open Go.RowKit
section
variable {P:Program} {O:ZG} {bf:Nat->Bool} {an:Ann} {base:Nat->Prop} {w0:World} {I0:Imm} {dr:Door}
theorem StF.cond {m:Nat} {I:Imm} {β:Bmap} {tm:Tms} {σ:Za} {a:Act} {w:World} (h:StF dr m an.nt base w0 I0 I β tm σ a w) {c:Operand} {y:Opd} (hc:ZX c=some y) {b:Bool} (hv:y.ev tm=.bool b):a.eval c=.bool b:=by
 obtain ⟨I',β',_,_,T,_,_⟩:=h
 have:=ZR T hc
 rw [hv] at this
 simpa only [VR] using this
def Zlk (P:Program) (O:ZG) (bf:Nat->Bool) (n:Nat) (c:Code):Prop:=∀ (an:Ann) (dr:Door) (base:Nat->Prop) (w0:World) (I0:Imm) (m:Nat),(∀ n ∈ dr.K,n ∈ an.keep)->KLt base w0->∀ ⦃ac:Zd⦄,Zas P an c=ac->∀ ⦃I:Imm⦄ ⦃β:Bmap⦄ ⦃tm tm':Tms⦄ ⦃σ σ':Za⦄ ⦃a:Act⦄ ⦃w:World⦄ ⦃e:ZA⦄,StF dr m an.nt base w0 I0 I β tm σ a w->Zz O bf m n ac tm σ=some (e,tm',σ') ->
  ∀ ⦃Q:Exit->Act->World->Prop⦄,Zo3 dr m an base w0 I0 I β e tm' σ' Q->c.wp P Q a w
theorem Zuj {P:Program} {an:Ann} {a b:Code} {ck:List Nat->Zd} {r:Zd} (h:Zgl P an a b ck=some r):∃ pre live ms en b1 bg ent c2,r=.range pre live ms en b1 bg ent c2 .skip:=by
 unfold Zgl at h
 repeat' split at h
 all_goals first
  | (simp only [Xa] at h;exact ⟨_,_,_,_,_,_,_,_,h.symm⟩)
  | cases h
theorem Zzg {m:Nat} {live:List Nat} {ms en b1:Nat} {bg:Bool} {ent:List AOp} {run fin:Nat->Tms->Za->Option (ZA×Tms×Za)} {tm:Tms} {σ:Za} {out:ZA×Tms×Za} (h:Zb1 bf m live ms en b1 bg ent run fin tm σ=some out):∃ t B es tm0 σ0,ZcW m live ms tm σ=some (t,B,es,tm0,σ0)/\∀ es':List (AVal×AVal),es'.Perm es->Zbi bf m live ms en b1 bg ent run fin es es' tm σ=some out:=by
 unfold Zb1 at h
 split at h
 ·cases h
 ·rename_i t B tm0 σ0 hh
  refine ⟨t,B,[],tm0,σ0,hh,fun es' hp=>?_⟩
  rw [Xbv.eq_nil hp]
  obtain ⟨h1,h2,_⟩:=Zj7 hh
  simp only [Zbi,ZaT,ZdE,h1,h2]
  exact h
 ·rename_i t B kv tm0 σ0 hh
  refine ⟨t,B,[kv],tm0,σ0,hh,fun es' hp=>?_⟩
  rw [List.perm_singleton.1 hp]
  split at h
  ·rename_i tm' σ' hr
   simp only [Zbi,ZaT,hh,if_true,hr]
   exact h
  ·cases h
 ·rename_i t B es tm0 σ0 hn1 hn2 hh
  refine ⟨t,B,es,tm0,σ0,hh,?_⟩
  unfold ZfG at h
  split at h
  case isFalse=>cases h
  rename_i hex
  have hall:=hex.choose_spec
  injection h with h
  rw [h] at hall
  exact hall
theorem ZqA (hO:Zae P O) (hm:P.follows .mixedOrders=true) (n:Nat) (hkp:∀ n ∈ dr.K,n ∈ an.keep) (hb:KLt base w0) {x y:Code} (IH:∀ c',Xa1 c' < Xa1 (Code.seq x y)->Zlk P O bf n c') {m:Nat} {pre:List AOp} {live:List Nat} {ms en b1:Nat} {bg:Bool} {ent:List AOp} {c2 c3 rest:Zd}
  (hr:Zgl P an x y (fun K=>Zas P { an with keep:=K++an.keep } y)=some (.range pre live ms en b1 bg ent c2 c3)) {I:Imm} {β:Bmap} {tm:Tms} {σ:Za} {a:Act} {w:World} {out:ZA×Tms×Za} (hst:StF dr m an.nt base w0 I0 I β tm σ a w) (h:Zz O bf m n (.range pre live ms en b1 bg ent c2 rest) tm σ=some out)
  {Q:Exit->Act->World->Prop} (hQ:∀ tmE σE aE wE,StF dr m an.nt base w0 I0 I β tmE σE aE wE->Zz O bf m n rest tmE σE=some out->Q .normal aE wE):(Code.seq x y).wp P Q a w:=by
 unfold Zgl at hr
 split at hr
 case h_2=>cases hr
 rename_i i1 ops1 bid i3 ops3 ok bid' bb i4 ops4 body
 split at hr
 case h_2=>cases hr
 rename_i rg nxo exo eno lE hlast h3 h4
 split at hr
 case h_2=>cases hr
 rename_i t ms' it it1 nx hr1 hr2 hn1 hn2
 split at hr
 case h_2=>cases hr
 rename_i nx1 ok1 it2 en' hx1 hx2 he1 he2
 split at hr
 case h_2=>cases hr
 rename_i kt et pre' ent' i5 l5 s5 s6 b5 s7 c2' hu hpre hent hcb
 split at hr
 case isFalse=>cases hr
 rename_i hcond
 simp only [Xa,Zd.range.injEq] at hr
 obtain ⟨rfl,hlive,rfl,rfl,rfl,rfl,rfl,rfl,rfl⟩:=hr
 simp only [Xi,decide_eq_true_eq,Option.isNone_iff_eq_none,We,Xaq,decide_eq_false_iff_not] at hcond
 obtain ⟨⟨⟨⟨⟨⟨⟨g1,g2⟩,g3⟩,g4⟩,⟨⟨⟨⟨z1,z2⟩,z3⟩,z4⟩,z5⟩⟩,⟨⟨d1,d2⟩,d3⟩,d4⟩,⟨⟨⟨⟨⟨⟨⟨d5,d6⟩,d7⟩,d8⟩,d9⟩,d10⟩,d11⟩,d12⟩⟩,⟨⟨q1,q2⟩,q3⟩,q4⟩:=hcond
 subst z1 z2 z3 z4 z5
 have hc2:Zas P { an with keep:=it2::ms'::an.keep } body=c2':=by
  simp only [Zas,Zjh,Zgl] at hcb
  simp only [Zd.block.injEq,Zd.loop.injEq,Zd.seq.injEq] at hcb
  obtain ⟨_,_,_,_,_,hcb⟩:=hcb
  split at hcb
  ·rename_i r hr
   obtain ⟨_,_,_,_,_,_,_,_,rfl⟩:=Zuj (P:=P) (an:={ an with keep:=it2::ms'::an.keep }) (a:=.region i4 ops4 false) (b:=body) (ck:=fun K=>Zas P { an with keep:=K++it2::ms'::an.keep } body) hr
   cases hcb
  ·simp only [Zd.seq.injEq] at hcb
   exact hcb.2
 simp only [Zz] at h
 split at h
 case h_2=>cases h
 rename_i tm1 σ1 hst1
 obtain ⟨t0,B,es,tm0,σ0,hhead,hall⟩:=Zzg h
 obtain ⟨hg1,hg2,hmst,hkept⟩:=Zj7 hhead
 obtain ⟨hte,hml0,hwhat⟩:=Zqs hmst
 obtain ⟨I1,β1,j1,j2,T1,⟨gd,gs⟩,R1⟩:=hst
 refine wp_seq (wp_region_list ?_)
 have hl1:ops1.toList=ops1.toList.dropLast++[rg]:=by
  obtain ⟨ys,hys⟩:=List.getLast?_eq_some_iff.1 hlast
  rw [hys,List.dropLast_concat]
 rw [hl1]
 obtain ⟨cs,hruns⟩:=Zpv hst1
 refine Zll (dr:=dr) (O:=fun _ _ _=>none) noO hkp hb hpre T1 ⟨gd,gs⟩ R1 hruns ?_
 rintro A2 w2 ⟨I2,β2,k1,k2,T2,⟨kd,ks⟩,R2⟩
 obtain ⟨β3,p1,R3g,T3⟩:=Zjn R2 (T2.keep live) m
 rw [hg2] at R3g
 rw [hg1] at T3
 have vt:=T3 ms'
 obtain ⟨b,vms⟩:∃ b,A2.tmps.getD ms' undef=.map (some b):=by
  rcases hwhat with ⟨h,_⟩ | ⟨j',nx',ns,nd,h,_,_,_⟩
  ·rw [h] at vt;simp only [VR] at vt;obtain ⟨b,_,_,_,e⟩:=vt;exact ⟨b,e⟩
  ·rw [h] at vt;simp only [VR] at vt;obtain ⟨b,_,_,_,e⟩:=vt;exact ⟨b,e⟩
 rw [vms] at vt
 obtain ⟨arr,clk,e2,⟨e3,e4,e5,e6⟩,_⟩:=ZqB (R3g.blk t0 _ hte) hwhat vt
 refine ZhD g1 ?_
 unfold Oper.wp
 have er:(execOp A2.eval rg).run P w2=.ok (.value (.pointer (some ⟨w2.heap.size,0,none⟩))) { w2 with heap:=w2.heap.push (.mapIter (some b) clk #[] clk) }:=by
  unfold execOp;rw [hr1]
  simp only [Act.eval]
  rw [vms]
  simp [Instr.range,run_underlying hu,ZcL e2]
 rw [er,Oper.upon_value,hr2]
 refine wpList_nil ?_
 simp only [Exit.then]
 have hbw:=R2.base_le hb
 have hblt:b < w2.heap.size:=(Xw.1 e2).1
 generalize hr:w2.heap.size=rr at *
 have hown:∀ t x,σ1[t]?=some x->¬Zj w2 β2 t x rr:=fun t x hx ho=>by
  have:=(R2.blk t x hx).owns_lt ho;omega
 have hrb:¬base rr:=fun h=>by have:=hbw rr h;omega
 have hIr:∀ o,I2 rr o=none:=fun o=>by
  cases hi:I2 rr o with
  | none=>rfl
  | some u =>
   have:=Zc8 (R2.imm rr o u hi)
   omega
 generalize hw3:({ w2 with heap:=w2.heap.push (.mapIter (some b) clk #[] clk) }:World)=w3
 have w3k:∀ k,k < w2.heap.size->w3.heap[k]?=w2.heap[k]?:=fun k hk=>by
  rw [<-hw3];simp only;rw [Array.getElem?_push];rw [if_neg (by omega)]
 have R3:Rel base w0 I0 I2 β2 σ1 w3:=R2.turn hown hrb hIr (by rw [<-hw3]) (by rw [<-hw3]) (by rw [<-hw3]) (by rw [<-hw3];simp) (fun k _ hk=>w3k k hk) hbw
 have hown3:∀ t x,σ1[t]?=some x->¬Zj w3 β2 t x rr:=fun t x hx ho=>hown t x hx (((R2.blk t x hx).owns_at (Bmap.le.refl β2) (fun b' hb'=>w3k b' ((R2.blk t x hx).owns_lt hb')) rr).1 ho)
 refine wp_block (wp_loop_rounds (es.length+1) ?_)
 have hlen:arr.size=es.length:=by
  have:=Z1 e3
  simpa using this.symm
 have hlv:∀ n ∈ live,n≠it2/\n≠nx1/\n≠ok1/\n≠en':=by
  intro n hn
  rw [<-hlive] at hn
  simp only [Zt2,Xt,Wj,Xi,We,Xaq,decide_eq_false_iff_not,XB,List.not_mem_nil,or_false,not_or] at hn
  rcases hn with (⟨_,_,hn⟩ | rfl) | ⟨_,_,hn⟩
  ·exact ⟨hn.1,hn.2.1,hn.2.2.1,hn.2.2.2⟩
  ·exact ⟨W6 d5,W6 d6,W6 d7,W6 d8⟩
  ·exact ⟨hn.1,hn.2.1,hn.2.2.1,hn.2.2.2⟩
 refine Zz2 (an:=an) (an3:={ an with keep:=it2::ms'::an.keep }) (base:=base) (w0:=w0) (I0:=I0) (m:=m) (live:=live) (ms:=ms') (it:=it2) (nx:=nx1) (ok:=ok1) (en:=en') (dr:=dr) hkp hm hb
  (fun dr' base' w0' I0' m' hk' hb' I β tm tm' σ σ' a w e hs he Q hQ=>IH body (by simp;omega) { an with keep:=it2::ms'::an.keep } dr' base' w0' I0' m' hk' hb' hc2 hs he hQ)
  h3 h4 hn1 hn2 g2 hx1 hx2 g3 he1 he2 g4 hent rfl rfl d1 d2 d3 d4 d5 d6 d7 d8 d9 d10 d11 d12 hlv q1 q2 q3 q4
  (r:=rr) (b:=b) (arr:=arr) (clk:=clk) (es:=es) (tm2:=tm1) (σ2:=σ1) (out:=out) (I:=I2) (β:=β2) e6 hlen (by omega) hrb (fun hk=>by rw [<-vms];exact (kd.2 ms' hk).symm) hall ?_ (es.length+1) [] tm1 σ1 _ w3 (by simp) (by simp) (by simp) rfl ?_ ?_ ?_
 ·
  intro tm σx a wx I' β' hend i1 i2 jT jd jR
  simp only [Exit.inBlock,if_true]
  obtain ⟨β4,o1,o2,o3⟩:=Zjn jR jT m
  exact hQ _ _ a wx ⟨I',β4,(j1.trans k1).trans i1,((j2.trans (KeptE.of_le k2)).trans i2).trans o1,o3,jd,o2⟩ hend
 ·rw [<-hw3,<-hr];simp
 ·rw [w3k b (by omega)];exact e2
 ·refine ⟨I2,β2,Imm.le.refl _,KeptE.refl _ _,?_,⟨⟨by rw [Zqn];exact kd.1,fun k hk=>?_⟩,by rw [ZeJ];omega⟩,R3,hIr,hown3⟩
  ·refine Zhi (T2.keep live) ?_
   rw [Zj9,if_neg]
   exact fun h=>(hlv it2 h).1 rfl
  ·have hk':k=it2\/k=ms'\/k ∈ dr.K:=by simpa [ZbQ] using hk
   by_cases hki:k=it2
   ·subst hki
    rw [pgs (Nat.lt_of_lt_of_le d1 ks)];simp [ZbQ]
   ·rw [pgn (W6 hki)]
    by_cases hkm:k=ms'
    ·subst hkm
     rw [vms];simp [ZbQ,W6 d5]
    ·rcases hk' with h | h | h
     ·exact absurd h hki
     ·exact absurd h hkm
     ·rw [kd.2 k h];simp [ZbQ,hki,hkm]
theorem ZsQ (hO:Zae P O) (hm:P.follows .mixedOrders=true) (n:Nat):∀ (k:Nat) (c:Code),Xa1 c<=k->Zlk P O bf n c
 | 0,c,hk=>by cases c <;> simp at hk
 | k+1,c,hk=>by
  have IH:∀ c',Xa1 c' < Xa1 c->Zlk P O bf n c':=fun c' h=>ZsQ hO hm n k c' (by omega)
  intro an dr base w0 I0 m hkp hb
  cases c with
  | skip =>
   intro ac hc I β tm tm' σ σ' a w e hst h Q hQ
   simp only [Zas] at hc;subst hc
   simp only [Zz,Xa,Xb] at h
   obtain ⟨rfl,rfl,rfl⟩:=h
   exact wp_skip (hQ a w hst)
  | region id ops draw =>
   intro ac hc I β tm tm' σ σ' a w e hst h Q hQ
   obtain ⟨asl,chk,live,rfl⟩:∃ asl chk live,ac=.region asl chk live:=by
    simp only [Zas] at hc
    split at hc
    ·split at hc
     ·split at hc
      ·exact ⟨_,_,_,hc.symm⟩
      ·subst hc;simp only [Zz] at h;cases h
     ·exact ⟨_,_,_,hc.symm⟩
    ·subst hc;simp only [Zz] at h;cases h
   simp only [Zz] at h
   obtain ⟨I1,β1,g1,g2,g3,g4,g5⟩:=hst
   have up:∀ {tm:Tms} {σ:Za} {a':Act} {w':World},StR dr an.nt base w0 I0 I1 β1 tm σ a' w'->StF dr m an.nt base w0 I0 I β tm σ a' w':=by
    rintro tm σ a' w' ⟨I2,β2,k1,k2,k3⟩
    exact ⟨I2,β2,g1.trans k1,g2.trans (KeptE.of_le k2),k3⟩
   refine ZIT hO hkp hm hb hc (⟨I1,β1,Imm.le.refl I1,Bmap.le.refl β1,g3,g4,g5⟩:StR dr an.nt base w0 I0 I1 β1 tm σ a w) h ?_
   cases e with
   | normal=>exact fun a' w' hs=>hQ a' w' (up hs)
   | exit id=>exact fun a' w' hs=>hQ a' w' (up hs)
   | ret=>exact fun a' w' hs=>hQ a' w' (up hs)
   | panic x =>
    rintro a' u w' hd ⟨I2,β2,k1,k2,k3,k4⟩
    exact hQ a' u w' hd ⟨I2,β2,g1.trans k1,g2.trans (KeptE.of_le k2),k3,k4⟩
  | seq x y =>
   intro ac hc I β tm tm' σ σ' a w e hst h Q hQ
   have ihx:=IH x (by simp;omega) an dr base w0 I0 m hkp hb
   have ihy:=IH y (by simp;omega) an dr base w0 I0 m hkp hb
   simp only [Zas] at hc
   unfold Zjh at hc
   split at hc
   ·rename_i r hr
    subst hc
    obtain ⟨pre,live,ms,en,b1,bg,ent,c2,rfl⟩:=Zuj hr
    exact ZqA hO hm n hkp hb (fun c' h'=>IH c' h') hr hst h (fun tmE σE aE wE hsE hfE=>by
     simp only [Zz,Xa,Xb] at hfE
     obtain ⟨rfl,rfl,rfl⟩:=hfE
     exact hQ aE wE hsE)
   rename_i hnone
   split at hc
   ·rename_i i1 o1 dd1 bid1 cc1 pre live ms en b1 bg ent c2 hca
    subst hc
    refine wp_seq ?_
    have hca':=hca
    simp only [Zas] at hca'
    unfold Zjh at hca'
    split at hca'
    ·rename_i r hr
     subst hca'
     exact ZqA hO hm n hkp hb (fun c' h'=>IH c' (Nat.lt_trans h' (by simp;omega))) hr hst h (fun tmE σE aE wE hsE hfE=>ihy rfl hsE hfE hQ)
    ·split at hca'
     ·rename_i heq _;cases heq
     ·cases hca'
   subst hc
   simp only [Zz] at h
   refine wp_seq ?_
   split at h
   ·rename_i tm1 σ1 h1
    exact ihx rfl hst h1 (fun a' w' hs=>ihy rfl hs h hQ)
   ·rename_i hne
    refine ihx rfl hst h ?_
    cases e with
    | normal=>exact absurd h (hne _ _)
    | exit id=>exact hQ
    | ret=>exact hQ
    | panic x=>exact hQ
  | cond c x y =>
   intro ac hc I β tm tm' σ σ' a w e hst h Q hQ
   have ihx:=IH x (by simp;omega) an dr base w0 I0 m hkp hb
   have ihy:=IH y (by simp;omega) an dr base w0 I0 m hkp hb
   simp only [Zas] at hc
   split at hc
   ·rename_i c' hcc
    subst hc
    simp only [Zz] at h
    split at h
    ·rename_i hv
     exact wp_cond_true (hst.cond hcc hv) (ihx rfl hst h hQ)
    ·rename_i hv
     exact wp_cond_false (hst.cond hcc hv) (ihy rfl hst h hQ)
    ·cases h
   ·subst hc;simp only [Zz] at h;cases h
  | block id x =>
   intro ac hc I β tm tm' σ σ' a w e hst h Q hQ
   have ih:=IH x (by first | (simp;omega) | simp) an dr base w0 I0 m hkp hb
   simp only [Zas] at hc
   subst hc
   have hx:Zas P an x=Zas P an x:=rfl
   simp only [Zz] at h
   refine wp_block ?_
   split at h
   ·rename_i i tm1 σ1 h1
    refine ih hx hst h1 ?_
    intro a' w' hs
    simp only [Exit.inBlock]
    split at h
    ·rename_i hid
     simp only [Xa,Xb] at h
     obtain ⟨rfl,rfl,rfl⟩:=h
     rw [if_pos hid]
     exact hQ a' w' hs
    ·rename_i hid
     simp only [Xa,Xb] at h
     obtain ⟨rfl,rfl,rfl⟩:=h
     rw [if_neg hid]
     exact hQ a' w' hs
   ·rename_i hne
    refine ih hx hst h ?_
    cases e with
    | normal=>exact hQ
    | exit id=>exact absurd h (hne _ _ _)
    | ret=>exact hQ
    | panic x=>exact hQ
  | loop x =>
   intro ac hc I β tm tm' σ σ' a w e hst h Q hQ
   have ih:=IH x (by first | (simp;omega) | simp) an dr base w0 I0 m hkp hb (rfl:Zas P an x=Zas P an x)
   simp only [Zas] at hc
   subst hc
   have hx:Zas P an x=Zas P an x:=rfl
   simp only [Zz] at h
   refine wp_loop_rounds n ?_
   have key:∀ k {tm:Tms} {σ:Za} {a:Act} {w:World},StF dr m an.nt base w0 I0 I β tm σ a w->Zda m (an.ll (Zex x)) (Zz O bf m n (Zas P an x)) k tm σ=some (e,tm',σ')->Code.rounds P x Q k a w:=by
    intro k
    induction k with
    | zero=>intro tm σ a w _ h;simp only [Zda] at h;cases h
    | succ k ihk =>
     intro tm σ a w hst h
     rw [rounds_succ]
     simp only [Zda] at h
     obtain ⟨I1,β1,k1,k2,k3,k4,k5⟩:=hst
     obtain ⟨β2,q1,q2,q3⟩:=Zjn k5 (k3.keep (an.ll (Zex x))) m
     have hst0:StF dr m an.nt base w0 I0 I β (gcT m (keepL (an.ll (Zex x)) tm) σ).1 (gcT m (keepL (an.ll (Zex x)) tm) σ).2 a w:=⟨I1,β2,k1,k2.trans q1,q3,k4,q2⟩
     split at h
     ·rename_i tm1 σ1 h1
      exact ih hst0 h1 (fun a' w' hs=>ihk hs h)
     ·rename_i hne
      refine ih hst0 h ?_
      cases e with
      | normal=>exact absurd h (hne _ _)
      | exit id=>exact hQ
      | ret=>exact hQ
      | panic x=>exact hQ
   exact key n hst h
  | exit id =>
   intro ac hc I β tm tm' σ σ' a w e hst h Q hQ
   simp only [Zas] at hc;subst hc
   simp only [Zz,Xa,Xb] at h
   obtain ⟨rfl,rfl,rfl⟩:=h
   exact wp_exit (hQ a w hst)
  | ret =>
   intro ac hc I β tm tm' σ σ' a w e hst h Q hQ
   simp only [Zas] at hc;subst hc
   simp only [Zz,Xa,Xb] at h
   obtain ⟨rfl,rfl,rfl⟩:=h
   exact wp_ret (hQ a w hst)
  | rangeFunc f ps x y=>intro ac hc I β tm tm' σ σ' a w e hst h;simp only [Zas] at hc;subst hc;simp only [Zz] at h;cases h
  | scope x =>
   intro ac hc I β tm tm' σ σ' a w e hst h Q hQ
   have ih:=IH x (by first | (simp;omega) | simp) an dr base w0 I0 m hkp hb
   simp only [Zas] at hc
   refine wp_scope_straight (ih hc hst h ?_)
   cases e with
   | normal=>exact hQ
   | exit id=>exact hQ
   | ret=>exact hQ
   | panic x=>exact hQ
  | label l =>
   intro ac hc I β tm tm' σ σ' a w e hst h Q hQ
   simp only [Zas] at hc;subst hc
   simp only [Zz,Xa,Xb] at h
   obtain ⟨rfl,rfl,rfl⟩:=h
   exact wp_label (hQ a w hst)
  | goto l=>intro ac hc I β tm tm' σ σ' a w e hst h;simp only [Zas] at hc;subst hc;simp only [Zz] at h;cases h
  | refuse why=>intro ac hc I β tm tm' σ σ' a w e hst h;simp only [Zas] at hc;subst hc;simp only [Zz] at h;cases h
theorem ZFd (hO:Zae P O) (hkp:∀ n ∈ dr.K,n ∈ an.keep) (hm:P.follows .mixedOrders=true) (hb:KLt base w0) (m n:Nat) {c:Code} {ac:Zd} (hc:Zas P an c=ac) {I:Imm} {β:Bmap} {tm tm':Tms} {σ σ':Za} {a:Act} {w:World} {e:ZA} (hst:StF dr m an.nt base w0 I0 I β tm σ a w) (h:Zz O bf m n ac tm σ=some (e,tm',σ'))
  {Q:Exit->Act->World->Prop} (hQ:Zo3 dr m an base w0 I0 I β e tm' σ' Q):c.wp P Q a w :=
 ZsQ hO hm n (Xa1 c) c (Xz _) an dr base w0 I0 m hkp hb hc hst h hQ
theorem ZLU {I:Imm} {β:Bmap} {σ σ':Za} {k:Option Nat} {a x:AVal} {c:Cls} {v:Value} (ha:VR I β a v) (h:ldA σ k a=some (x,σ',c)):∃ ad,v=.pointer (some ad):=by
 unfold ldA at h
 split at h
 ·simp only [VR] at ha;obtain ⟨b,k,c,_,rfl⟩:=ha;exact ⟨_,rfl⟩
 ·simp only [VR] at ha;obtain ⟨b,k,c,_,rfl⟩:=ha;exact ⟨_,rfl⟩
 ·simp only [VR] at ha;obtain ⟨b,off,rfl,_⟩:=ha;exact ⟨_,rfl⟩
 ·simp only [VR] at ha;obtain ⟨b,k,c,_,rfl⟩:=ha;exact ⟨_,rfl⟩
 ·cases h
def ZhV (tmps:Array Value):ResultVar->Sem Value
 | .tmp t=>pure (tmps.getD t undef)
 | .cell a t=>do loadVar t (<-asAddr (tmps.getD a undef))
theorem ZoO {I:Imm} {β:Bmap} {tm:Tms} {σ:Za} {w:World} {tmps:Array Value} (T:TR I β tm tmps) (R:Rel base w0 I0 I β σ w):∀ {rs:List ResultVar} {asl:List Zf2} {xs:List AVal},Ze6 P rs=some asl->resAll tm σ asl=some xs ->
  ∃ vs:List Value,(rs.mapM (ZhV tmps)).run P w=.ok vs w/\VRs I β xs vs
 | [],asl,xs,hc,h=>by
  simp only [Ze6,Xa] at hc;subst hc
  simp only [resAll,Xa] at h;subst h
  exact ⟨[],by simp,by simp only [VRs]⟩
 | r::rs,asl,xs,hc,h=>by
  have getD_eq:∀ t,VR I β (tget tm t) (tmps.getD t undef):=T
  cases r with
  | tmp t =>
   simp only [Ze6,Xh] at hc
   obtain ⟨as',has,rfl⟩:=hc
   simp only [resAll,resOne] at h
   split at h
   ·rename_i ys hys
    injection h with h;subst h
    obtain ⟨vs,h1,h2⟩:=ZoO T R has hys
    exact ⟨tmps.getD t undef::vs,by simp only [Xbr,ZhV,Sem.run_bind,Sem.run_pure,Result.andThen_ok,h1],by simp only [VRs];exact ⟨_,_,rfl,getD_eq t,h2⟩⟩
   ·cases h
  | cell a t =>
   simp only [Ze6] at hc
   split at hc
   ·rename_i k as' hk has
    injection hc with hc;subst hc
    simp only [resAll,resOne] at h
    split at h
    ·rename_i v hv
     split at h
     ·rename_i ys hys
      injection h with h;subst h
      obtain ⟨vs,h1,h2⟩:=ZoO T R has hys
      split at hv
      ·rename_i v' σ1 c1 hld
       injection hv with hv;subst hv
       obtain ⟨u,hu1,hu2,_⟩:=Zrv hk R (getD_eq a) hld
       obtain ⟨ad,had⟩:=ZLU (getD_eq a) hld
       have hlv:(loadVar t ad).run P w=.ok u w:=by
        rw [had] at hu1
        simpa [Instr.loadAt,Instr.sureAddr] using hu1
       refine ⟨u::vs,?_,by simp only [VRs];exact ⟨_,_,rfl,hu2,h2⟩⟩
       simp only [Xbr,ZhV,had,asAddr,Sem.run_bind,Sem.run_pure,Result.andThen_ok,hlv,h1]
      ·cases hv
     ·cases h
    ·cases h
   ·cases hc
theorem ZKs {I:Imm} {β:Bmap} {tm:Tms} {σ:Za} {w:World} {tmps:Array Value} (T:TR I β tm tmps) (R:Rel base w0 I0 I β σ w) {fn:Func} {asl:List Zf2} {x:AVal} (hc:Ze6 P fn.results.toList=some asl) (h:resA tm σ asl=some x):∃ v,(results fn tmps).run P w=.ok v w/\VR I β x v:=by
 unfold resA at h
 have run:∀ {xs:List AVal},resAll tm σ asl=some xs->∃ vs:List Value,(results fn tmps).run P w=.ok (if h:vs.toArray.size=1 then vs.toArray[0] else .tuple vs.toArray) w/\VRs I β xs vs:=by
  intro xs hx
  obtain ⟨vs,h1,h2⟩:=ZoO T R hc hx
  refine ⟨vs,?_,h2⟩
  have hm:(fn.results.mapM (ZhV tmps)).run P w=.ok vs.toArray w:=by
   rw [Array.mapM_eq_mapM_toList,Sem.run_map,h1];rfl
  have he:results fn tmps=(do let vs <-fn.results.mapM (ZhV tmps);pure (if h:vs.size=1 then vs[0] else .tuple vs)):=by
   unfold results
   congr 1
  rw [he,Sem.run_bind,hm]
  rfl
 split at h
 ·rename_i v hv
  injection h with h;subst h
  obtain ⟨vs,h1,h2⟩:=run hv
  simp only [VRs] at h2
  obtain ⟨u,us,rfl,h3,rfl⟩:=h2
  exact ⟨u,by rw [h1];simp,h3⟩
 ·rename_i vs' hv hne
  injection h with h;subst h
  obtain ⟨vs,h1,h2⟩:=run hne
  have hl:=Z1 h2
  refine ⟨.tuple vs.toArray,?_,by simp only [VR];exact ⟨_,rfl,by simpa using h2⟩⟩
  rw [h1,dif_neg]
  intro hs
  simp only [List.size_toArray] at hs
  match vs',hl with
  | [v],_=>exact hv v rfl
  | [],hl=>simp at hl;omega
  | _::_::_,hl=>simp at hl;omega
 ·cases h
theorem Zpr:∀ (args:List AVal) (i:Nat) (acc:Tms) (n:Nat),tget (enterA i args acc) n=if i<=n/\n < i+args.length then args.getD (n - i) .top else tget acc n
 | [],i,acc,n=>by simp only [enterA,XP];rw [if_neg (by omega)]
 | x::xs,i,acc,n=>by
  simp only [enterA,XE]
  rw [Zpr xs (i+1) _ n]
  by_cases h:i+1<=n/\n < i+1+xs.length
  ·rw [if_pos h,if_pos (by omega),show n - i=(n - (i+1))+1 by omega,List.getD_cons_succ]
  ·rw [if_neg h]
   simp only [tget]
   by_cases h1:i=n
   ·subst h1
    rw [if_pos rfl,if_pos (by omega),Nat.sub_self,XD]
   ·rw [if_neg h1,if_neg (by omega)]
theorem ZIz {I:Imm} {β:Bmap} {args:List AVal} {vs:Array Value} (h:VRs I β args vs.toList) (n:Nat):TR I β (enterA 0 args []) (vs++Xbm n undef):=by
 intro j
 rw [Zpr]
 have hl:=Z1 h
 simp only [XR] at hl
 split
 ·rename_i hj
  have hjl:j < args.length:=by omega
  obtain ⟨v,h1,h2⟩:=ZbV h (Xl hjl)
  have e1:args.getD (j - 0) .top=args[j]:=by simp [Xf,hjl]
  have e2:(vs++Xbm n undef).getD j undef=v:=by
   rw [W5,Array.getElem?_append_left (by omega)]
   have : vs[j]?=some v:=by simpa using h1
   rw [this];rfl
  rw [e1,e2];exact h2
 ·simp only [tget,VR]
def Zkx (P:Program) (prim:Zdh):Prop:=∀ f g,prim f=some g->∀ args σ r σ',g args σ=some (r,σ') ->
 (∃ fn,P.funcs[f]?=some fn/\fn.body.isSome=true/\(fn.name == "runtime.NumGoroutine")=false) /\
 ∀ base w0 I0 I β w (vs:Array Value),KLt base w0->Rel base w0 I0 I β σ w->VRs I β args vs.toList ->
  Calls P f vs w (fun e w'=>∃ u,Ends r e u/\ZbY σ.length base w0 I0 I β r σ' u w')
theorem Zma (hm:P.follows .mixedOrders=true) {prim:Zdh} (hP:Zkx P prim) (ann:Nat->Ann) (bf:Nat->Bool):∀ n,Zae P (Z8 (ZgA P ann) prim bf n)
 | 0=>by intro f args σ r σ' h;simp only [Z8] at h;cases h
 | n+1=>by
  have ih:=Zma hm hP ann bf n
  intro f args σ r σ' h
  simp only [Z8] at h
  split at h
  ·rename_i g hg
   exact hP f g hg args σ r σ' h
  split at h
  ·cases h
  rename_i fn hfn
  unfold ZgA at hfn
  split at hfn
  ·rename_i F hF
   split at hfn
   ·rename_i body hbody
    split at hfn
    ·cases hfn
    ·rename_i hname
     split at hfn
     ·rename_i rs hrs
      injection hfn with hfn;subst hfn
      refine ⟨⟨F,hF,by rw [hbody];rfl,by simpa using hname⟩,?_⟩
      intro base w0 I0 I β w vs hb R hargs
      refine calls_of_wp hF hbody ?_
      have T:=ZIz hargs (F.ntmps - vs.size)
      have hst:StF ZgS σ.length F.ntmps base w0 I0 I β (enterA 0 args []) σ { tmps:=vs++Xbm (F.ntmps - vs.size) undef,defers:=[] } w:=⟨I,β,Imm.le.refl I,KeptE.refl _ β,T,⟨ZoU.2 rfl,by simp;omega⟩,R⟩
      cases hx:Zz (Z8 (ZgA P ann) prim bf n) bf σ.length n (Zas P { ann f with nt:=F.ntmps } body) (enterA 0 args []) σ with
      | none=>rw [hx] at h;simp only [ZaC] at h;cases h
      | some q =>
       obtain ⟨e,tm',σ1⟩:=q
       rw [hx] at h
       have fin:(match resA tm' σ1 rs with | some r=>Zaw σ.length σ1 r | none=>none)=some (r,σ')->∀ a' w',StF ZgS σ.length F.ntmps base w0 I0 I β tm' σ1 a' w'->a'.defers=[]/\∃ v,(results F a'.tmps).run P w'=.ok v w'/\∃ u,Ends r (.returned v) u/\ZbY σ.length base w0 I0 I β r σ' u w':=by
        intro hr a' w' ⟨I1,β1,g1,g2,g3,g4,g5⟩
        split at hr
        ·rename_i x hx1
         obtain ⟨v,h1,h2⟩:=ZKs g3 g5 hrs hx1
         have hnp:∀ y,x≠.pan y:=by rintro y rfl;simp only [VR] at h2
         obtain ⟨q1,q2⟩:=ZoW (⟨I1,β1,g1,g2,g5,by rw [Zf0 hnp];exact h2⟩:ZbY σ.length base w0 I0 I β x σ1 v w') hr
         refine ⟨ZoU.1 g4.1,v,h1,v,q2 _ ?_,q1⟩
         cases x <;> first | rfl | exact absurd rfl (hnp _)
        ·cases hr
       refine ZFd (dr:=ZgS) (an:={ ann f with nt:=F.ntmps }) ih (fun n hn=>by simp [ZgS] at hn) hm hb σ.length n rfl hst hx ?_
       cases e with
       | normal=>simp only [ZaC] at h;exact fun a' w' hs=>fin h a' w' hs
       | ret=>simp only [ZaC] at h;exact fun a' w' hs=>fin h a' w' hs
       | exit id=>simp only [ZaC] at h;cases h
       | panic x =>
        simp only [ZaC] at h
        intro a' u w' hd hp
        obtain ⟨q1,q2⟩:=ZoW hp h
        exact ⟨ZoU.1 hd,u,q2 _ rfl,q1⟩
     ·cases hfn
   ·cases hfn
  ·cases hfn
end
end
section
open Go.RowKit
def OLe (O O':ZG):Prop:=∀ f a σ r,O f a σ=some r->O' f a σ=some r
section
variable {O O':ZG} {bf:Nat->Bool}
theorem ZEf {view:Bool} {m:Nat} {x y:Option (AVal×Za)} (h:∀ r,x=some r->y=some r) {r:AVal×Za} (hr:Zaj view m x=some r):Zaj view m y=some r:=by
 cases x with
 | none=>cases view <;> simp [Zaj,ZcE] at hr
 | some q=>rw [h q rfl];exact hr
theorem ZxR {σ σf:Za} {ids ts:List Nat} {sq own:Nat} {x y:Option (AVal×Za)} (h:∀ r,x=some r->y=some r) {r:AVal×Za×Cls} (hr:Zar σ σf ids ts sq own x=some r):Zar σ σf ids ts sq own y=some r:=by
 cases x with
 | none=>simp only [Zar] at hr;cases hr
 | some q=>rw [h q rfl];exact hr
theorem Zso (hO:OLe O O') {σ:Za} {sq f own:Nat} {view:Bool} {args:List AVal} {r:AVal×Za×Cls} (h:Zr O bf σ sq f own view args=some r):Zr O' bf σ sq f own view args=some r:=by
 unfold Zr ZbH at h ⊢
 split at h
 ·cases h
 ·rename_i vs ts hv
  split at h
  ·rename_i hc
   simp only [hc,if_true]
   exact ZxR (fun q hq=>ZEf (fun q hq=>hO _ _ _ _ hq) hq) h
  ·cases h
theorem ZGI (hO:OLe O O') {tm:Tms} {σ:Za} {sq:Nat} {ins:Ins} {r:AVal×Za×Cls} (h:execI O bf tm σ sq ins=some r):execI O' bf tm σ sq ins=some r:=by
 cases ins
 case call f own view args =>
  simp only [execI] at h ⊢
  exact Zso hO h
 case callv x args =>
  simp only [execI] at h ⊢
  split at h
  ·exact Zso hO h
  ·cases h
 all_goals exact h
theorem Zmc (hO:OLe O O') {o:AOp} {tm:Tms} {σ:Za} {sq:Nat} {r:AVal×Tms×Za×Cls} (h:Zw O bf o sq tm σ=some r):Zw O' bf o sq tm σ=some r:=by
 unfold Zw at h ⊢
 split at h
 ·cases h
 ·exact h
 ·split at h
  ·rename_i hf
   rw [if_pos hf]
   split at h
   ·rename_i he;rw [ZGI hO he];exact h
   ·cases h
  ·cases h
theorem ZkO (hO:OLe O O'):∀ {ops:List AOp} {s:Nat} {tm:Tms} {σ:Za} {r:Tms×Za×List Cls×Option AVal},ZI O bf ops s tm σ=some r->ZI O' bf ops s tm σ=some r
 | [],_,_,_,_,h=>h
 | o::ops,s,tm,σ,r,h=>by
  simp only [ZI] at h ⊢
  split at h
  ·cases h
  ·rename_i h1
   rw [Zmc hO h1]
   exact h
  ·rename_i v tm1 σ1 c hnp h1
   rw [Zmc hO h1]
   simp only
   split at h
   ·cases h
   rename_i h2
   rw [ZkO hO h2]
   exact h
theorem ZrG (hO:OLe O O') {ops:List AOp} {chk:Option (List (Nat×Nat))} {live:List Nat} {tm:Tms} {σ:Za} {r:ZA×Tms×Za} (h:Zcg O bf ops chk live tm σ=some r):Zcg O' bf ops chk live tm σ=some r:=by
 unfold Zcg at h ⊢
 cases hx:ZI O bf ops σ.length tm (σ++Xq (sitesOf ops) .free) with
 | none=>rw [hx] at h;simp only [Zdz] at h;cases h
 | some q=>rw [ZkO hO hx];rw [hx] at h;exact h
theorem Zjm {m0:Nat} {live:List Nat} {f f':Tms->Za->Option (ZA×Tms×Za)} (hf:∀ tm σ r,f tm σ=some r->f' tm σ=some r):∀ {n n':Nat} {tm:Tms} {σ:Za} {r:ZA×Tms×Za},n<=n'->Zda m0 live f n tm σ=some r->Zda m0 live f' n' tm σ=some r
 | 0,_,_,_,_,_,h=>by simp only [Zda] at h;cases h
 | n+1,0,_,_,_,hn,_=>by omega
 | n+1,n'+1,tm,σ,r,hn,h=>by
  simp only [Zda] at h ⊢
  split at h
  ·rename_i h1
   rw [hf _ _ _ h1]
   exact Zjm hf (by omega) h
  ·rename_i hne
   rw [hf _ _ _ h]
   split
   ·rename_i e;injection e with e;subst e;exact absurd h (hne _ _)
   ·rfl
def RLe (run run':Nat->Tms->Za->Option (ZA×Tms×Za)):Prop:=∀ m tm σ r,run m tm σ=some r->run' m tm σ=some r
section
variable {m:Nat} {live:List Nat} {ms en b1:Nat} {bg:Bool} {ent:List AOp} {run run' fin fin':Nat->Tms->Za->Option (ZA×Tms×Za)}
theorem Zkq (h:RLe run run') {t:Nat} {B:Zk} {kv:AVal×AVal} {tm:Tms} {σ:Za} {r:Tms×Za} (hr:ZaE bf ms en b1 bg ent run t B kv tm σ=some r):ZaE bf ms en b1 bg ent run' t B kv tm σ=some r:=by
 unfold ZaE at hr ⊢
 split at hr
 ·rename_i tm1 σ1 h1
  cases hx:run σ.length tm1 σ1 with
  | none=>rw [hx] at hr;cases hr
  | some q=>rw [hx] at hr;simp only [h _ _ _ _ hx];exact hr
 ·cases hr
theorem ZiM (h:RLe run run') {es:List (AVal×AVal)}:∀ {l:List (AVal×AVal)} {tm:Tms} {σ:Za} {r:Tms×Za},ZaT bf m live ms en b1 bg ent run es l tm σ=some r->ZaT bf m live ms en b1 bg ent run' es l tm σ=some r
 | [],tm,σ,r,hr=>hr
 | kv::l,tm,σ,r,hr=>by
  simp only [ZaT] at hr ⊢
  split at hr
  ·rename_i t B es' tm0 σ0 hh
   split at hr
   ·rename_i he
    simp only [he,if_true]
    split at hr
    ·rename_i tm' σ' h1
     rw [Zkq h h1]
     exact ZiM h hr
    ·cases hr
   ·cases hr
  ·cases hr
theorem ZsA (h:RLe run run') (hf:RLe fin fin') {es l:List (AVal×AVal)} {tm:Tms} {σ:Za} {r:ZA×Tms×Za} (hr:Zbi bf m live ms en b1 bg ent run fin es l tm σ=some r):Zbi bf m live ms en b1 bg ent run' fin' es l tm σ=some r:=by
 unfold Zbi at hr ⊢
 split at hr
 ·rename_i tm' σ' h1
  rw [ZiM h h1]
  exact hf _ _ _ _ hr
 ·cases hr
theorem Zlg {es:List (AVal×AVal)} {tm:Tms} {σ:Za} {r:ZA×Tms×Za}:ZfG bf m live ms en b1 bg ent run fin es tm σ=some r↔∀ es':List (AVal×AVal),es'.Perm es->Zbi bf m live ms en b1 bg ent run fin es es' tm σ=some r:=by
 unfold ZfG
 constructor
 ·intro h
  split at h
  ·rename_i hx
   injection h with h
   rw [<-h]
   exact hx.choose_spec
  ·cases h
 ·intro h
  have hx:∃ out,∀ es':List (AVal×AVal),es'.Perm es->Zbi bf m live ms en b1 bg ent run fin es es' tm σ=some out:=⟨r,h⟩
  rw [dif_pos hx]
  have h1:=hx.choose_spec es (XaG _)
  rw [h es (XaG _)] at h1
  injection h1 with h1
  rw [<-h1]
theorem ZrC (h:RLe run run') (hf:RLe fin fin') {tm:Tms} {σ:Za} {r:ZA×Tms×Za} (hr:Zb1 bf m live ms en b1 bg ent run fin tm σ=some r):Zb1 bf m live ms en b1 bg ent run' fin' tm σ=some r:=by
 unfold Zb1 at hr ⊢
 split at hr
 ·cases hr
 ·exact hf _ _ _ _ hr
 ·split at hr
  ·rename_i h1
   rw [Zkq h h1]
   exact hf _ _ _ _ hr
  ·cases hr
 ·rw [Zlg] at hr ⊢
  exact fun es' hp=>ZsA h hf (hr es' hp)
end
theorem ZtZ {α:Type} (Q:Nat->α->Prop) (hm:∀ n n' x,n<=n'->Q n x->Q n' x):∀ (L:List α),(∀ x ∈ L,∃ n,Q n x)->∃ n,∀ x ∈ L,Q n x
 | [],_=>⟨0,fun x hx=>by cases hx⟩
 | x::L,h=>by
  obtain ⟨a,ha⟩:=h x (by simp)
  obtain ⟨b,hb⟩:=ZtZ Q hm L (fun y hy=>h y (by simp [hy]))
  refine ⟨max a b,fun y hy=>?_⟩
  rcases XB.1 hy with rfl | hy
  ·exact hm _ _ _ (WS _ _) ha
  ·exact hm _ _ _ (Wy _ _) (hb y hy)
theorem ZpK {α:Type} (es:List α) {i:Nat} (hi:i < es.length):(es[i]::es.eraseIdx i).Perm es:=by
 rw [List.eraseIdx_eq_take_drop_succ]
 have h:es.take i++es[i]::es.drop (i+1)=es:=by rw [List.getElem_cons_drop,Xba]
 have:=(List.perm_middle (a:=es[i]) (l₁:=es.take i) (l₂:=es.drop (i+1))).symm
 rwa [h] at this
theorem Zuk {α:Type}:∀ (k:Nat) (es:List α) (P:Nat->List α->Prop),es.length=k->(∀ n n' l,n<=n'->P n l->P n' l)->(∀ l:List α,l.Perm es->∃ n,P n l)->∃ n,∀ l:List α,l.Perm es->P n l
 | 0,es,P,hk,hm,h=>by
  obtain rfl:es=[]:=XX hk
  obtain ⟨n,hn⟩:=h [] (XaG _)
  exact ⟨n,fun l hl=>by rw [Xbv.eq_nil hl];exact hn⟩
 | k+1,es,P,hk,hm,h=>by
  have key:∀ i ∈ Wn es.length,∃ n,∀ (hi:i < es.length),∀ r:List α,r.Perm (es.eraseIdx i)->P n (es[i]::r):=by
   intro i hi
   have hi:=W0.1 hi
   obtain ⟨n,hn⟩:=Zuk k (es.eraseIdx i) (fun n r=>P n (es[i]::r)) (by rw [List.length_eraseIdx_of_lt hi];omega) (fun n n' l hn hp=>hm n n' _ hn hp) (fun r hr=>h _ ((Xbv.cons _ hr).trans (ZpK es hi)))
   exact ⟨n,fun _ r hr=>hn r hr⟩
  obtain ⟨n,hn⟩:=ZtZ (fun n i=>∀ (hi:i < es.length),∀ r:List α,r.Perm (es.eraseIdx i)->P n (es[i]::r)) (fun n n' i hle hq hi r hr=>hm n n' _ hle (hq hi r hr)) _ key
  refine ⟨n,fun l hl=>?_⟩
  cases l with
  | nil=>have:=hl.length_eq;simp at this;omega
  | cons x r =>
   have hx:x ∈ es:=hl.subset (by simp)
   obtain ⟨i,hi,rfl⟩:=List.getElem_of_mem hx
   exact hn i (W0.2 hi) hi r (Xbv.cons_inv (hl.trans (ZpK es hi).symm))
theorem ZcM (hO:OLe O O'):∀ {m0:Nat} {c:Zd} {n n':Nat} {tm:Tms} {σ:Za} {r:ZA×Tms×Za},n<=n'->Zz O bf m0 n c tm σ=some r->Zz O' bf m0 n' c tm σ=some r:=by
 intro m0 c
 induction c generalizing m0 with
 | skip=>intro n n' tm σ r _ h;exact h
 | exit id=>intro n n' tm σ r _ h;exact h
 | ret=>intro n n' tm σ r _ h;exact h
 | stuck=>intro n n' tm σ r _ h;exact h
 | region ops chk live =>
  intro n n' tm σ r _ h
  simp only [Zz] at h ⊢
  exact ZrG hO h
 | seq a b iha ihb =>
  intro n n' tm σ r hn h
  simp only [Zz] at h ⊢
  split at h
  ·rename_i h1;rw [iha hn h1];exact ihb hn h
  ·rename_i hne
   rw [iha hn h]
   split
   ·rename_i e;injection e with e;subst e;exact absurd h (hne _ _)
   ·rfl
 | cond c a b iha ihb =>
  intro n n' tm σ r hn h
  simp only [Zz] at h ⊢
  split at h
  ·exact iha hn h
  ·exact ihb hn h
  ·cases h
 | block id c ih =>
  intro n n' tm σ r hn h
  simp only [Zz] at h ⊢
  split at h
  ·rename_i h1;rw [ih hn h1];exact h
  ·rename_i hne
   rw [ih hn h]
   split
   ·rename_i e;injection e with e;subst e;exact absurd h (hne _ _ _)
   ·rfl
 | loop live c ih =>
  intro n n' tm σ r hn h
  simp only [Zz] at h ⊢
  exact Zjm (fun tm σ r h=>ih hn h) hn h
 | range pre live ms en b1 bg ent body rest ihb ihr =>
  intro n n' tm σ r hn h
  simp only [Zz] at h ⊢
  split at h
  ·exact ZrC (fun m tm σ r h=>ihb hn h) (fun m tm σ r h=>ihr hn h) h
  ·cases h
theorem ZmS {m0:Nat} {fn:ZN} {x y:Option (ZA×Tms×Za)} (h:∀ r,x=some r->y=some r) {r:AVal×Za} (hr:ZaC m0 fn x=some r):ZaC m0 fn y=some r:=by
 cases x with
 | none=>simp only [ZaC] at hr;cases hr
 | some q=>rw [h q rfl];exact hr
theorem ZtC (fs:Nat->Option ZN) (prim:Zdh):∀ n,OLe (Z8 fs prim bf n) (Z8 fs prim bf (n+1))
 | 0=>by intro f a σ r h;simp only [Z8] at h;cases h
 | n+1=>by
  intro f a σ r h
  rw [Z8] at h ⊢
  split at h
  ·rename_i g hg;exact h
  ·rename_i hg
   split at h
   ·cases h
   ·rename_i fn hfn
    exact ZmS (fun q hq=>ZcM (ZtC fs prim n) (by omega) hq) h
theorem Zh6 (fs : Nat -> Option ZN) (prim : Zdh) {n m : Nat} (h : n <= m) : OLe (Z8 fs prim bf n) (Z8 fs prim bf m) := by
  induction m with
  | zero => obtain rfl : n = 0 := by omega
            exact fun _ _ _ _ h => h
  | succ m ih =>
    by_cases e : n = m + 1
    . subst e; exact fun _ _ _ _ h => h
    . exact fun f a σ r hr => ZtC fs prim m f a σ r (ih (by omega) f a σ r hr)
end
section
variable (fs:Nat->Option ZN) (prim:Zdh) (bf:Nat->Bool)
open Classical in
noncomputable def EV:ZG:=fun f args σ=>if h:∃ r,∃ n,Z8 fs prim bf n f args σ=some r then some h.choose else none
open Classical in
noncomputable def evC (m:Nat) (c:Zd) (tm:Tms) (σ:Za):Option (ZA×Tms×Za):=if h:∃ r,∃ n,Zz (Z8 fs prim bf n) bf m n c tm σ=some r then some h.choose else none
variable {fs prim bf} {m0:Nat}
theorem Zce {f:Nat} {args:List AVal} {σ:Za} {r:AVal×Za}:EV fs prim bf f args σ=some r↔∃ n,Z8 fs prim bf n f args σ=some r:=by
 unfold EV
 constructor
 ·intro h
  split at h
  ·rename_i hx
   injection h with h
   rw [<-h]
   exact hx.choose_spec
  ·cases h
 ·rintro ⟨n,hn⟩
  have hx:∃ r,∃ n,Z8 fs prim bf n f args σ=some r:=⟨r,n,hn⟩
  rw [dif_pos hx]
  obtain ⟨m,hm⟩:=hx.choose_spec
  have h1:=Zh6 (bf:=bf) fs prim (WS n m) _ _ _ _ hn
  have h2:=Zh6 (bf:=bf) fs prim (Wy n m) _ _ _ _ hm
  rw [h1] at h2
  injection h2 with h2
  rw [<-h2]
theorem ZaO {c:Zd} {tm:Tms} {σ:Za} {r:ZA×Tms×Za}:evC fs prim bf m0 c tm σ=some r↔∃ n,Zz (Z8 fs prim bf n) bf m0 n c tm σ=some r:=by
 unfold evC
 constructor
 ·intro h
  split at h
  ·rename_i hx
   injection h with h
   rw [<-h]
   exact hx.choose_spec
  ·cases h
 ·rintro ⟨n,hn⟩
  have hx:∃ r,∃ n,Zz (Z8 fs prim bf n) bf m0 n c tm σ=some r:=⟨r,n,hn⟩
  rw [dif_pos hx]
  obtain ⟨m,hm⟩:=hx.choose_spec
  have h1:=ZcM (Zh6 (bf:=bf) fs prim (WS n m)) (WS n m) hn
  have h2:=ZcM (Zh6 (bf:=bf) fs prim (Wy n m)) (Wy n m) hm
  rw [h1] at h2
  injection h2 with h2
  rw [<-h2]
theorem Zer {α:Type} {x y:Option α} (h:∀ r,x=some r↔y=some r):x=y:=by
 cases x with
 | none =>
  cases y with
  | none=>rfl
  | some q=>exact absurd ((h q).2 rfl) (by simp)
 | some q=>exact ((h q).1 rfl).symm
theorem Zza (n:Nat):OLe (Z8 fs prim bf n) (EV fs prim bf):=fun _ _ _ _ h=>Zce.2 ⟨n,h⟩
theorem up {n m:Nat} (h:n<=m):OLe (Z8 fs prim bf n) (Z8 fs prim bf m):=Zh6 fs prim h
theorem ZHe {f:Nat} {fn:ZN} (hp:prim f=none) (hf:fs f=some fn) (args:List AVal) (σ:Za):EV fs prim bf f args σ=ZaC σ.length fn (evC fs prim bf σ.length fn.body (enterA 0 args []) σ):=by
 apply Zer
 intro r
 rw [Zce]
 constructor
 ·rintro ⟨n,h⟩
  cases n with
  | zero=>simp only [Z8] at h;cases h
  | succ n =>
   rw [Z8,hp,hf] at h
   exact ZmS (fun q hq=>ZaO.2 ⟨n,hq⟩) h
 ·intro h
  cases hx:evC fs prim bf σ.length fn.body (enterA 0 args []) σ with
  | none=>rw [hx] at h;simp only [ZaC] at h;cases h
  | some q =>
   obtain ⟨n,hn⟩:=ZaO.1 hx
   refine ⟨n+1,?_⟩
   rw [Z8,hp,hf]
   rw [hx] at h
   exact ZmS (x:=some q) (fun q' hq'=>by injection hq' with hq';subst hq';exact hn) h
theorem Zqh {σ:Za} {sq f own:Nat} {view:Bool} {args:List AVal} {r:AVal×Za×Cls} (h:Zr (EV fs prim bf) bf σ sq f own view args=some r):∃ n,Zr (Z8 fs prim bf n) bf σ sq f own view args=some r:=by
 unfold Zr ZbH at h ⊢
 split at h
 ·cases h
 ·rename_i vs ts hv
  split at h
  ·rename_i hc
   simp only [hc,if_true]
   cases hx:EV fs prim bf f (Zo (Ze (Zt σ ts) 0 (Zi (Zt σ ts) 1000 (Zx vs) [])) vs) (Zg (Zt σ ts) 0 (Zi (Zt σ ts) 1000 (Zx vs) []) (Ze (Zt σ ts) 0 (Zi (Zt σ ts) 1000 (Zx vs) [])) (Zi (Zt σ ts) 1000 (Zx vs) []) 0) with
   | none =>
    rw [hx] at h
    cases view <;> simp [Zaj,ZcE,Zar] at h
   | some q =>
    obtain ⟨n,hn⟩:=Zce.1 hx
    exact ⟨n,by rw [hn];rw [hx] at h;exact h⟩
  ·cases h
theorem Zz6 {tm:Tms} {σ:Za} {sq:Nat} {ins:Ins} {r:AVal×Za×Cls} (h:execI (EV fs prim bf) bf tm σ sq ins=some r):∃ n,execI (Z8 fs prim bf n) bf tm σ sq ins=some r:=by
 cases ins
 case call f own view args =>
  simp only [execI] at h ⊢
  exact Zqh h
 case callv x args =>
  simp only [execI] at h ⊢
  split at h
  ·exact Zqh h
  ·cases h
 all_goals exact ⟨0,h⟩
theorem Zs6 {o:AOp} {tm:Tms} {σ:Za} {sq:Nat} {r:AVal×Tms×Za×Cls} (h:Zw (EV fs prim bf) bf o sq tm σ=some r):∃ n,Zw (Z8 fs prim bf n) bf o sq tm σ=some r:=by
 unfold Zw at h ⊢
 split at h
 ·cases h
 ·exact ⟨0,h⟩
 ·split at h
  ·rename_i hf
   simp only [hf,if_true]
   split at h
   ·rename_i he
    obtain ⟨n,hn⟩:=Zz6 he
    exact ⟨n,by rw [hn];exact h⟩
   ·cases h
  ·cases h
theorem ZsB:∀ {ops:List AOp} {s:Nat} {tm:Tms} {σ:Za} {r:Tms×Za×List Cls×Option AVal},ZI (EV fs prim bf) bf ops s tm σ=some r->∃ n,ZI (Z8 fs prim bf n) bf ops s tm σ=some r
 | [],_,_,_,_,h=>⟨0,h⟩
 | o::ops,s,tm,σ,r,h=>by
  simp only [ZI] at h ⊢
  split at h
  ·cases h
  ·rename_i h1
   obtain ⟨n,hn⟩:=Zs6 h1
   exact ⟨n,by rw [hn];exact h⟩
  rename_i v tm1 σ1 c hnp h1
  split at h
  ·cases h
  rename_i h2
  obtain ⟨n,hn⟩:=Zs6 h1
  obtain ⟨m,hm⟩:=ZsB h2
  refine ⟨max n m,?_⟩
  rw [Zmc (up (WS n m)) hn]
  simp only
  rw [ZkO (up (Wy n m)) hm]
  exact h
theorem ZCL {ops:List AOp} {chk:Option (List (Nat×Nat))} {live:List Nat} {tm:Tms} {σ:Za} {r:ZA×Tms×Za} (h:Zcg (EV fs prim bf) bf ops chk live tm σ=some r):∃ n,Zcg (Z8 fs prim bf n) bf ops chk live tm σ=some r:=by
 unfold Zcg at h ⊢
 cases hx:ZI (EV fs prim bf) bf ops σ.length tm (σ++Xq (sitesOf ops) .free) with
 | none=>rw [hx] at h;simp only [Zdz] at h;cases h
 | some q =>
  obtain ⟨n,hn⟩:=ZsB hx
  exact ⟨n,by rw [hn];rw [hx] at h;exact h⟩
theorem Zlr (tm:Tms) (σ:Za):evC fs prim bf m0 .skip tm σ=some (.normal,tm,σ):=ZaO.2 ⟨0,rfl⟩
theorem ZIl (id:Nat) (tm:Tms) (σ:Za):evC fs prim bf m0 (.exit id) tm σ=some (.exit id,tm,σ):=ZaO.2 ⟨0,rfl⟩
theorem ZGU (tm:Tms) (σ:Za):evC fs prim bf m0 .ret tm σ=some (.ret,tm,σ):=ZaO.2 ⟨0,rfl⟩
theorem ZIx {ops:List AOp} {chk:Option (List (Nat×Nat))} {live:List Nat} {tm:Tms} {σ:Za}:evC fs prim bf m0 (.region ops chk live) tm σ=Zcg (EV fs prim bf) bf ops chk live tm σ:=by
 apply Zer
 intro r
 rw [ZaO]
 constructor
 ·rintro ⟨n,hn⟩
  simp only [Zz] at hn
  exact ZrG (Zza n) hn
 ·intro h
  obtain ⟨n,hn⟩:=ZCL h
  exact ⟨n,by simp only [Zz];exact hn⟩
theorem Zj2 {a b:Zd} {tm tm':Tms} {σ σ':Za} (h:evC fs prim bf m0 a tm σ=some (.normal,tm',σ')):evC fs prim bf m0 (.seq a b) tm σ=evC fs prim bf m0 b tm' σ':=by
 obtain ⟨n,hn⟩:=ZaO.1 h
 apply Zer
 intro r
 rw [ZaO,ZaO]
 constructor
 ·rintro ⟨m,hm⟩
  have h1:=ZcM (up (WS n m)) (WS n m) hn
  have h2:=ZcM (up (Wy n m)) (Wy n m) hm
  simp only [Zz,h1] at h2
  exact ⟨_,h2⟩
 ·rintro ⟨m,hm⟩
  have h1:=ZcM (up (WS n m)) (WS n m) hn
  have h2:=ZcM (up (Wy n m)) (Wy n m) hm
  exact ⟨max n m,by simp only [Zz,h1];exact h2⟩
theorem Zop {a b:Zd} {tm tm':Tms} {σ σ':Za} {e:ZA} (he:e≠.normal) (h:evC fs prim bf m0 a tm σ=some (e,tm',σ')):evC fs prim bf m0 (.seq a b) tm σ=some (e,tm',σ'):=by
 obtain ⟨n,hn⟩:=ZaO.1 h
 refine ZaO.2 ⟨n,?_⟩
 simp only [Zz,hn]
 cases e with
 | normal=>exact absurd rfl he
 | exit id=>rfl
 | ret=>rfl
 | panic x=>rfl
def ZaL (id:Nat):ZA×Tms×Za->ZA×Tms×Za
 | (.exit i,tm,σ)=>if i=id then (.normal,tm,σ) else (.exit i,tm,σ)
 | r=>r
theorem ZvJ {id:Nat} {c:Zd} {tm:Tms} {σ:Za}:evC fs prim bf m0 (.block id c) tm σ=(evC fs prim bf m0 c tm σ).map (ZaL id):=by
 have step:∀ n,Zz (Z8 fs prim bf n) bf m0 n (.block id c) tm σ=(Zz (Z8 fs prim bf n) bf m0 n c tm σ).map (ZaL id):=by
  intro n
  simp only [Zz]
  cases Zz (Z8 fs prim bf n) bf m0 n c tm σ with
  | none=>rfl
  | some q =>
   obtain ⟨e,tm1,σ1⟩:=q
   cases e with
   | normal=>rfl
   | ret=>rfl
   | panic x=>rfl
   | exit i=>simp only [XQ,ZaL];split <;> rfl
 apply Zer;intro r
 rw [ZaO]
 simp only [step,Xh]
 constructor
 ·rintro ⟨n,q,h1,h2⟩;exact ⟨q,ZaO.2 ⟨n,h1⟩,h2⟩
 ·rintro ⟨q,h1,h2⟩;obtain ⟨n,hn⟩:=ZaO.1 h1;exact ⟨n,q,hn,h2⟩
theorem ZKw {c:Zd} {tm:Tms} {σ:Za} (h:evC fs prim bf m0 c tm σ=none) (n:Nat):Zz (Z8 fs prim bf n) bf m0 n c tm σ=none:=by
 cases hx:Zz (Z8 fs prim bf n) bf m0 n c tm σ with
 | none=>rfl
 | some r=>rw [ZaO.2 ⟨n,hx⟩] at h;cases h
variable (fs prim bf m0) in
noncomputable def Zbf (b:Zd):Option (ZA×Tms×Za)->Option (ZA×Tms×Za)
 | some (.normal,tm,σ)=>evC fs prim bf m0 b tm σ
 | r=>r
theorem Zz8 {a b:Zd} {tm:Tms} {σ:Za}:evC fs prim bf m0 (.seq a b) tm σ=Zbf fs prim bf m0 b (evC fs prim bf m0 a tm σ):=by
 cases h:evC fs prim bf m0 a tm σ with
 | none =>
  simp only [Zbf]
  apply Zer;intro r
  rw [ZaO]
  constructor
  ·rintro ⟨n,hn⟩
   simp only [Zz,ZKw h n] at hn
   cases hn
  ·intro h;cases h
 | some q =>
  obtain ⟨e,tm',σ'⟩:=q
  cases e with
  | normal=>exact Zj2 h
  | exit id=>exact Zop (by simp) h
  | ret=>exact Zop (by simp) h
  | panic x=>exact Zop (by simp) h
variable (fs prim bf m0) in
noncomputable def Zio (a b:Zd) (tm:Tms) (σ:Za):AVal->Option (ZA×Tms×Za)
 | .bool true=>evC fs prim bf m0 a tm σ
 | .bool false=>evC fs prim bf m0 b tm σ
 | _=>none
theorem ZGA {c:Opd} {a b:Zd} {tm:Tms} {σ:Za}:evC fs prim bf m0 (.cond c a b) tm σ=Zio fs prim bf m0 a b tm σ (c.ev tm):=by
 apply Zer;intro r
 rw [ZaO]
 simp only [Zz]
 constructor
 ·rintro ⟨n,hn⟩
  split at hn
  ·rename_i e;rw [e];simp only [Zio];exact ZaO.2 ⟨n,hn⟩
  ·rename_i e;rw [e];simp only [Zio];exact ZaO.2 ⟨n,hn⟩
  ·cases hn
 ·intro h
  unfold Zio at h
  split at h
  ·rename_i e;obtain ⟨n,hn⟩:=ZaO.1 h;exact ⟨n,by rw [e];exact hn⟩
  ·rename_i e;obtain ⟨n,hn⟩:=ZaO.1 h;exact ⟨n,by rw [e];exact hn⟩
  ·cases h
variable (fs prim bf m0) in
noncomputable def evL (live:List Nat) (c:Zd) (tm:Tms) (σ:Za):Option (ZA×Tms×Za) :=
 match evC fs prim bf m0 c tm σ with
 | some (.normal,tm',σ')=>evC fs prim bf m0 (.loop live c) tm' σ'
 | r=>r
theorem ZtF {live:List Nat} {c:Zd} {tm:Tms} {σ:Za}:evC fs prim bf m0 (.loop live c) tm σ=evL fs prim bf m0 live c (gcT m0 (keepL live tm) σ).1 (gcT m0 (keepL live tm) σ).2:=by
 apply Zer;intro r
 rw [ZaO]
 constructor
 ·rintro ⟨n,hn⟩
  simp only [Zz] at hn
  cases n with
  | zero=>simp only [Zda] at hn;cases hn
  | succ k =>
   simp only [Zda] at hn
   unfold evL
   cases hx:Zz (Z8 fs prim bf (k+1)) bf m0 (k+1) c (gcT m0 (keepL live tm) σ).1 (gcT m0 (keepL live tm) σ).2 with
   | none=>rw [hx] at hn;cases hn
   | some q =>
    rw [ZaO.2 ⟨_,hx⟩]
    rw [hx] at hn
    obtain ⟨e,tm',σ'⟩:=q
    cases e with
    | normal =>
     simp only at hn ⊢
     exact ZaO.2 ⟨k+1,by simp only [Zz];exact Zjm (fun _ _ _ h=>h) (by omega) hn⟩
    | exit id=>exact hn
    | ret=>exact hn
    | panic x=>exact hn
 ·intro h
  unfold evL at h
  cases hx:evC fs prim bf m0 c (gcT m0 (keepL live tm) σ).1 (gcT m0 (keepL live tm) σ).2 with
  | none=>rw [hx] at h;cases h
  | some q =>
   rw [hx] at h
   obtain ⟨n,hn⟩:=ZaO.1 hx
   obtain ⟨e,tm',σ'⟩:=q
   have out:e≠.normal->some (e,tm',σ')=some r->∃ n,Zz (Z8 fs prim bf n) bf m0 n (.loop live c) tm σ=some r:=by
    intro he h
    refine ⟨n+1,?_⟩
    have h1:=ZcM (up (show n<=n+1 by omega)) (show n<=n+1 by omega) hn
    simp only [Zz,Zda,h1]
    cases e with
    | normal=>exact absurd rfl he
    | exit id=>exact h
    | ret=>exact h
    | panic x=>exact h
   cases e with
   | normal =>
    simp only at h
    obtain ⟨m,hm⟩:=ZaO.1 h
    have h1:=ZcM (up (show n<=max n m+1 by omega)) (show n<=max n m+1 by omega) hn
    have h2:=ZcM (up (show m<=max n m+1 by omega)) (Xz m) hm
    simp only [Zz] at h2
    refine ⟨max n m+1,?_⟩
    simp only [Zz,Zda,h1]
    exact Zjm (fun tm σ r h=>ZcM (fun _ _ _ _ h=>h) (by omega) h) (by omega) h2
   | exit id=>exact out (by simp) h
   | ret=>exact out (by simp) h
   | panic x=>exact out (by simp) h
section
variable {live:List Nat} {ms en b1:Nat} {bg:Bool} {ent:List AOp} {body rest:Zd}
theorem ZqL {t:Nat} {B:Zk} {kv:AVal×AVal} {tm:Tms} {σ:Za} {r:Tms×Za} (h:ZaE bf ms en b1 bg ent (fun m'=>evC fs prim bf m' body) t B kv tm σ=some r):∃ n,ZaE bf ms en b1 bg ent (fun m'=>Zz (Z8 fs prim bf n) bf m' n body) t B kv tm σ=some r:=by
 unfold ZaE at h ⊢
 split at h
 ·rename_i tm1 σ1 h1
  dsimp only at h ⊢
  cases hx:evC fs prim bf σ.length body tm1 σ1 with
  | none=>rw [hx] at h;cases h
  | some q =>
   obtain ⟨n,hn⟩:=ZaO.1 hx
   exact ⟨n,by rw [hx] at h;simp only [hn];exact h⟩
 ·cases h
theorem ZgO {n n':Nat} (h:n<=n') (c:Zd):RLe (fun m'=>Zz (Z8 fs prim bf n) bf m' n c) (fun m'=>Zz (Z8 fs prim bf n') bf m' n' c):=fun _ _ _ _ hr=>ZcM (up h) h hr
theorem Zt1 {es:List (AVal×AVal)}:∀ {l:List (AVal×AVal)} {tm:Tms} {σ:Za} {r:Tms×Za},ZaT bf m0 live ms en b1 bg ent (fun m'=>evC fs prim bf m' body) es l tm σ=some r->∃ n,ZaT bf m0 live ms en b1 bg ent (fun m'=>Zz (Z8 fs prim bf n) bf m' n body) es l tm σ=some r
 | [],tm,σ,r,hr=>⟨0,hr⟩
 | kv::l,tm,σ,r,hr=>by
  simp only [ZaT] at hr ⊢
  split at hr
  ·rename_i t B es' tm0 σ0 hh
   split at hr
   ·rename_i he
    simp only [he,if_true]
    split at hr
    ·rename_i tm' σ' h1
     obtain ⟨n,hn⟩:=ZqL h1
     obtain ⟨n',hn'⟩:=Zt1 hr
     refine ⟨max n n',?_⟩
     rw [Zkq (ZgO (WS n n') body) hn]
     exact ZiM (ZgO (Wy n n') body) hn'
    ·cases hr
   ·cases hr
  ·cases hr
theorem ZCK {es l:List (AVal×AVal)} {tm:Tms} {σ:Za} {r:ZA×Tms×Za} (h:Zbi bf m0 live ms en b1 bg ent (fun m'=>evC fs prim bf m' body) (fun m'=>evC fs prim bf m' rest) es l tm σ=some r):∃ n,Zbi bf m0 live ms en b1 bg ent (fun m'=>Zz (Z8 fs prim bf n) bf m' n body) (fun m'=>Zz (Z8 fs prim bf n) bf m' n rest) es l tm σ=some r:=by
 unfold Zbi at h ⊢
 split at h
 ·rename_i tm' σ' h1
  obtain ⟨n,hn⟩:=Zt1 h1
  unfold ZdE at h ⊢
  dsimp only at h ⊢
  obtain ⟨n',hn'⟩:=ZaO.1 h
  refine ⟨max n n',?_⟩
  rw [ZiM (ZgO (WS n n') body) hn]
  exact ZcM (up (Wy n n')) (Wy n n') hn'
 ·cases h
theorem ZDv {tm:Tms} {σ:Za} {r:ZA×Tms×Za} (h:Zb1 bf m0 live ms en b1 bg ent (fun m'=>evC fs prim bf m' body) (fun m'=>evC fs prim bf m' rest) tm σ=some r):∃ n,Zb1 bf m0 live ms en b1 bg ent (fun m'=>Zz (Z8 fs prim bf n) bf m' n body) (fun m'=>Zz (Z8 fs prim bf n) bf m' n rest) tm σ=some r:=by
 unfold Zb1 at h ⊢
 split at h
 ·cases h
 ·exact ZaO.1 h
 ·split at h
  ·rename_i tm' σ' h1
   obtain ⟨n,hn⟩:=ZqL h1
   unfold ZdE at h ⊢
   dsimp only at h ⊢
   obtain ⟨n',hn'⟩:=ZaO.1 h
   refine ⟨max n n',?_⟩
   rw [Zkq (ZgO (WS n n') body) hn]
   exact ZcM (up (Wy n n')) (Wy n n') hn'
  ·cases h
 ·rename_i es _ _ _ _ _
  simp only [Zlg] at h ⊢
  exact Zuk es.length es (fun n es'=>Zbi bf m0 live ms en b1 bg ent (fun m'=>Zz (Z8 fs prim bf n) bf m' n body) (fun m'=>Zz (Z8 fs prim bf n) bf m' n rest) es es' tm σ=some r) rfl (fun n n' l hn hp=>ZsA (ZgO hn body) (ZgO hn rest) hp) (fun l hl=>ZCK (h l hl))
variable (fs prim bf m0) in
noncomputable def Zfp (live:List Nat) (ms en b1:Nat) (bg:Bool) (ent:List AOp) (body rest:Zd):Option (Tms×Za)->Option (ZA×Tms×Za)
 | some (tm,σ)=>Zb1 bf m0 live ms en b1 bg ent (fun m'=>evC fs prim bf m' body) (fun m'=>evC fs prim bf m' rest) tm σ
 | none=>none
theorem ZhN {pre:List AOp} {tm:Tms} {σ:Za}:evC fs prim bf m0 (.range pre live ms en b1 bg ent body rest) tm σ=Zfp fs prim bf m0 live ms en b1 bg ent body rest (ZaU bf pre tm σ):=by
 apply Zer
 intro r
 rw [ZaO]
 constructor
 ·rintro ⟨n,hn⟩
  simp only [Zz] at hn
  split at hn
  ·rename_i h1
   rw [h1]
   exact ZrC (fun _ _ _ _ h=>ZaO.2 ⟨n,h⟩) (fun _ _ _ _ h=>ZaO.2 ⟨n,h⟩) hn
  ·cases hn
 ·intro h
  unfold Zfp at h
  split at h
  ·rename_i tm1 σ1 h1
   obtain ⟨n,hn⟩:=ZDv h
   exact ⟨n,by simp only [Zz,h1];exact hn⟩
  ·cases h
end
theorem ZMp {P:Program} (hm:P.follows .mixedOrders=true) {prim:Zdh} (hP:Zkx P prim) (ann:Nat->Ann) (bf:Nat->Bool):Zae P (EV (ZgA P ann) prim bf):=by
 intro f args σ r σ' h
 obtain ⟨n,hn⟩:=Zce.1 h
 exact Zma hm hP ann bf n f args σ r σ' hn
end
end
section
open Go.RowKit
def Zuy:Tms×Za×List Cls×Option AVal->Tms×Za×Option AVal:=fun q=>(q.1,q.2.1,q.2.2.2)
def Zam:AVal->Bool
 | .pan _=>true
 | _=>false
section
variable (O:ZG) (bf:Nat->Bool)
def exI (i:Ins) (s:Nat) (tm:Tms) (σ:Za):Option (AVal×Za×Cls) :=
 if nsite i == 0 || freeAt σ s then execI O bf tm σ s i else none
def ZaZ (ops:List AOp) (s:Nat) (tm:Tms) (σ:Za):Option (Tms×Za×Option AVal):=(ZI O bf ops s tm σ).map Zuy
def kN (d:Option Nat) (os:List AOp) (s:Nat) (tm:Tms):Option (AVal×Za×Cls)->Option (Tms×Za×Option AVal)
 | none=>none
 | some (v,σ,_)=>if Zam v then some (tput tm d v,σ,some (Zao v)) else ZaZ O bf os s (tput tm d v) σ
def Zji (live:List Nat):Option (Tms×Za×Option AVal)->Option (ZA×Tms×Za)
 | none=>none
 | some (_,σ,some x)=>some (.panic x,[],σ)
 | some (tm,σ,none)=>some (.normal,keepL live tm,σ)
variable {O bf}
theorem ZpX (s:Nat) (tm:Tms) (σ:Za):ZaZ O bf [] s tm σ=some (tm,σ,none):=rfl
theorem Zig {o:AOp} {os:List AOp} {s:Nat} {tm:Tms} {σ:Za} (h:Zw O bf o s tm σ=none):ZI O bf (o::os) s tm σ=none:=by simp only [ZI,h]
theorem Zi9 {o:AOp} {os:List AOp} {s:Nat} {tm tm1:Tms} {σ σ1:Za} {x:AVal} {c:Cls} (h:Zw O bf o s tm σ=some (.pan x,tm1,σ1,c)):ZI O bf (o::os) s tm σ=some (tm1,σ1,[c],some x):=by simp only [ZI,h]
theorem Zqm {o:AOp} {os:List AOp} {s:Nat} {tm tm1:Tms} {σ σ1:Za} {v:AVal} {c:Cls} (h:Zw O bf o s tm σ=some (v,tm1,σ1,c)) (hn:Zam v=false):ZI O bf (o::os) s tm σ=(ZI O bf os (s+nsite o.ins) tm1 σ1).map fun q=>(q.1,q.2.1,c::q.2.2.1,q.2.2.2):=by
 simp only [ZI,h]
 cases v <;> first
  | (simp [Zam] at hn;done)
  | (simp only;cases ZI O bf os (s+nsite o.ins) tm1 σ1 <;> rfl)
theorem Zjp {o:AOp} {os:List AOp} {s:Nat} {tm:Tms} {σ:Za} (h:Zw O bf o s tm σ=none):ZaZ O bf (o::os) s tm σ=none:=by simp only [ZaZ,Zig h,Option.map_none]
theorem Zo4 {o:AOp} {os:List AOp} {s:Nat} {tm tm1:Tms} {σ σ1:Za} {x:AVal} {c:Cls} (h:Zw O bf o s tm σ=some (.pan x,tm1,σ1,c)):ZaZ O bf (o::os) s tm σ=some (tm1,σ1,some x):=by simp only [ZaZ,Zi9 h,XQ,Zuy]
theorem ZjE {o:AOp} {os:List AOp} {s:Nat} {tm tm1:Tms} {σ σ1:Za} {v:AVal} {c:Cls} (h:Zw O bf o s tm σ=some (v,tm1,σ1,c)) (hn:Zam v=false):ZaZ O bf (o::os) s tm σ=ZaZ O bf os (s+nsite o.ins) tm1 σ1:=by
 simp only [ZaZ,Zqm h hn,Option.map_map]
 rfl
theorem ZjI {v:AVal} (h:Zam v=true):∃ x,v=.pan x:=by
 cases v <;> first | exact ⟨_,rfl⟩ | (simp [Zam] at h;done)
theorem ZiT {d:Option Nat} {i:Ins} {af:List Nat} {s:Nat} {tm:Tms} {σ:Za}:Zw O bf ⟨d,i,none,af⟩ s tm σ=(exI O bf i s tm σ).map fun q=>(q.1,tput tm d q.1,q.2.1,q.2.2):=by
 unfold Zw exI
 simp only [Zbw]
 split
 ·cases execI O bf tm σ s i with
  | none=>rfl
  | some q=>rfl
 ·rfl
theorem ZnQ (d:Option Nat) (i:Ins) (af:List Nat) (os:List AOp) (s:Nat) (tm:Tms) (σ:Za):ZaZ O bf (⟨d,i,none,af⟩::os) s tm σ=kN O bf d os (s+nsite i) tm (exI O bf i s tm σ):=by
 cases h:exI O bf i s tm σ with
 | none=>exact Zjp (by rw [ZiT,h];rfl)
 | some q =>
  obtain ⟨v,σ1,c⟩:=q
  have hs:Zw O bf ⟨d,i,none,af⟩ s tm σ=some (v,tput tm d v,σ1,c):=by rw [ZiT,h];rfl
  cases hp:Zam v with
  | true =>
   obtain ⟨x,rfl⟩:=ZjI hp
   exact Zo4 hs
  | false =>
   rw [ZjE hs hp]
   simp only [kN,hp,Xg,if_false]
theorem ZyU (ops:List AOp) (live:List Nat) (tm:Tms) (σ:Za):Zcg O bf ops none live tm σ=Zji live (ZaZ O bf ops σ.length tm (σ++Xq (sitesOf ops) .free)):=by
 unfold Zcg ZaZ
 cases ZI O bf ops σ.length tm (σ++Xq (sitesOf ops) .free) with
 | none=>rfl
 | some q =>
  obtain ⟨tm',σ',cs,p⟩:=q
  cases p <;> rfl
theorem ZoI (d:Option Nat) (os:List AOp) (s:Nat) (tm:Tms) (v:AVal) (σ:Za) (c:Cls) (h:Zam v=false):kN O bf d os s tm (some (v,σ,c))=ZaZ O bf os s (tput tm d v) σ:=by
 simp only [kN,h,Xg,if_false]
theorem ZLV (d:Option Nat) (os:List AOp) (s:Nat) (tm:Tms) (x:AVal) (σ:Za) (c:Cls):kN O bf d os s tm (some (.pan x,σ,c))=some (tput tm d (.pan x),σ,some x):=rfl
theorem ZCd (d:Option Nat) (os:List AOp) (s:Nat) (tm:Tms):kN O bf d os s tm none=none:=rfl
structure GOp where
 guard:Option (Nat×Bool)
 ops:List AOp
def Z4:List AOp->Tms->Tms
 | [],tm=>tm
 | o::os,tm=>Z4 os (tput tm o.dst (.tup []))
def unG (o:AOp):AOp:={ o with guard:=none }
variable (O bf) in
def ZdW (j:Nat) (w:Bool) (g:List AOp) (s:Nat) (tm:Tms) (σ:Za):Option (Tms×Za×Option AVal):=match Zbw (some (j,w)) tm with
 | none=>none
 | some false=>some (Z4 g tm,σ,none)
 | some true=>ZaZ O bf (g.map unG) s tm σ
variable (O bf) in
def gK (os:List AOp) (s:Nat):Option (Tms×Za×Option AVal)->Option (Tms×Za×Option AVal)
 | none=>none
 | some (tm,σ,some x)=>some (tm,σ,some x)
 | some (tm,σ,none)=>ZaZ O bf os s tm σ
def Zs (j:Nat) (w:Bool):List AOp->List AOp×List AOp
 | []=>([],[])
 | o::os=>match o.guard with
  | some (j',w')=>if j'=j/\w'=w/\o.dst≠some j then ((o::(Zs j w os).1),(Zs j w os).2) else ([],o::os)
  | none=>([],o::os)
theorem ZkW (j:Nat) (w:Bool):∀ os,(Zs j w os).1++(Zs j w os).2=os
 | []=>rfl
 | o::os=>by
  simp only [Zs]
  split
  ·split
   ·simp [ZkW j w os]
   ·rfl
  ·rfl
theorem ZmX (j:Nat) (w:Bool):∀ os,∀ o ∈ (Zs j w os).1,o.guard=some (j,w)/\o.dst≠some j
 | []=>by simp [Zs]
 | o::os=>by
  intro o' ho
  simp only [Zs] at ho
  split at ho
  ·rename_i j' w' hg
   split at ho
   ·rename_i hc
    rcases XB.1 ho with rfl | ho
    ·exact ⟨by rw [hg,hc.1,hc.2.1],hc.2.2⟩
    ·exact ZmX j w os o' ho
   ·simp at ho
  ·simp at ho
theorem ZD8 {d:Option Nat} {v:AVal} {n:Nat} {tm:Tms} (h:d≠some n):tget (tput tm d v) n=tget tm n:=by
 cases d with
 | none=>rfl
 | some d =>
  have : d≠n:=by rintro rfl;exact h rfl
  simp only [tput,Zhh,this,if_false]
theorem Zfc {d:Option Nat} {v:AVal} {j:Nat} {w:Bool} {tm:Tms} (h:d≠some j):Zbw (some (j,w)) (tput tm d v)=Zbw (some (j,w)) tm:=by
 simp only [Zbw,ZD8 h]
theorem Zsr:∀ (a b:List AOp) (s:Nat) (tm:Tms) (σ:Za),ZaZ O bf (a++b) s tm σ=gK O bf b (s+sitesOf a) (ZaZ O bf a s tm σ)
 | [],b,s,tm,σ=>by simp [ZpX,gK,sitesOf]
 | o::a,b,s,tm,σ=>by
  have ih:=Zsr a b
  simp only [XH]
  have hs:s+nsite o.ins+sitesOf a=s+sitesOf (o::a):=by simp [sitesOf,WI]
  cases hst:Zw O bf o s tm σ with
  | none=>rw [Zjp hst,Zjp hst];rfl
  | some q =>
   obtain ⟨v,tm1,σ1,c⟩:=q
   cases hp:Zam v with
   | true =>
    obtain ⟨x,rfl⟩:=ZjI hp
    rw [Zo4 hst,Zo4 hst];rfl
   | false=>rw [ZjE hst hp,ZjE hst hp,ih,hs]
theorem ZuJ (j:Nat) (w:Bool):∀ (g:List AOp),(∀ o ∈ g,o.guard=some (j,w)/\o.dst≠some j)->∀ (s:Nat) (tm:Tms) (σ:Za),g≠[]->ZaZ O bf g s tm σ=ZdW O bf j w g s tm σ
 | [],_,_,_,_,h=>absurd rfl h
 | o::g,hall,s,tm,σ,_=>by
  obtain ⟨hg,hd⟩:=hall o (by simp)
  have ih:∀ (tm:Tms) (σ:Za) (s:Nat),Zbw (some (j,w)) tm≠none->ZaZ O bf g s tm σ=ZdW O bf j w g s tm σ:=by
   intro tm σ s hw
   by_cases he:g=[]
   ·subst he
    unfold ZdW
    cases hx:Zbw (some (j,w)) tm with
    | none=>exact absurd hx hw
    | some b=>cases b <;> rfl
   ·exact ZuJ j w g (fun o ho=>hall o (by simp [ho])) s tm σ he
  cases hx:Zbw (some (j,w)) tm with
  | none =>
   rw [Zjp (by simp only [Zw,hg,hx])]
   simp only [ZdW,hx]
  | some b =>
   cases b with
   | false =>
    have h1:ZaZ O bf (o::g) s tm σ=ZaZ O bf g (s+nsite o.ins) (tput tm o.dst (.tup [])) σ :=
     ZjE (v:=.tup []) (c:={}) (by simp only [Zw,hg,hx]) rfl
    rw [h1,ih _ _ _ (by rw [Zfc hd,hx];simp)]
    unfold ZdW
    rw [Zfc hd,hx]
    rfl
   | true =>
    have key:∀ r:Option (AVal×Za×Cls),(∀ v σ' c,r=some (v,σ',c)->Zam v=false->ZaZ O bf g (s+nsite o.ins) (tput tm o.dst v) σ'=ZaZ O bf (g.map unG) (s+nsite o.ins) (tput tm o.dst v) σ')->kN O bf o.dst g (s+nsite o.ins) tm r=kN O bf o.dst (g.map unG) (s+nsite o.ins) tm r:=by
     intro r hr
     cases r with
     | none=>rfl
     | some q =>
      obtain ⟨v,σ',c⟩:=q
      cases hp:Zam v with
      | true=>simp only [kN,hp,if_true]
      | false=>rw [ZoI _ _ _ _ _ _ _ hp,ZoI _ _ _ _ _ _ _ hp];exact hr v σ' c rfl hp
    have h1:ZaZ O bf (o::g) s tm σ=kN O bf o.dst g (s+nsite o.ins) tm (exI O bf o.ins s tm σ):=by
     have h0:ZaZ O bf (o::g) s tm σ=ZaZ O bf (⟨o.dst,o.ins,none,o.after⟩::g) s tm σ:=by
      have hst:Zw O bf o s tm σ=Zw O bf ⟨o.dst,o.ins,none,o.after⟩ s tm σ:=by
       unfold Zw
       simp only [hg,hx]
       rfl
      unfold ZaZ
      simp only [ZI,hst]
     rw [h0,ZnQ]
    rw [h1]
    unfold ZdW
    rw [hx]
    simp only [Xx]
    rw [show unG o=⟨o.dst,o.ins,none,o.after⟩ from rfl,ZnQ]
    refine key _ fun v σ' c _ _=>?_
    rw [ih _ _ _ (by rw [Zfc hd,hx];simp)]
    unfold ZdW
    rw [Zfc hd,hx]
theorem ZCW (d:Option Nat) (i:Ins) (j:Nat) (w:Bool) (af:List Nat) (os:List AOp) (s:Nat) (tm:Tms) (σ:Za) (hd:decide (d=some j)=false) :
  ZaZ O bf (⟨d,i,some (j,w),af⟩::os) s tm σ=gK O bf (Zs j w os).2 (s+sitesOf (⟨d,i,some (j,w),af⟩::(Zs j w os).1)) (ZdW O bf j w (⟨d,i,some (j,w),af⟩::(Zs j w os).1) s tm σ):=by
 have h:=ZkW j w os
 have hall:∀ o ∈ (⟨d,i,some (j,w),af⟩::(Zs j w os).1:List AOp),o.guard=some (j,w)/\o.dst≠some j:=by
  intro o ho
  rcases XB.1 ho with rfl | ho
  ·exact ⟨rfl,by simpa using hd⟩
  ·exact ZmX j w os o ho
 rw [<-ZuJ j w _ hall s tm σ (by simp),<-Zsr,XH,h]
variable (O bf) in
def gW (w:Bool) (g:List AOp) (s:Nat) (tm:Tms) (σ:Za):AVal->Option (Tms×Za×Option AVal)
 | .bool b=>if b=w then ZaZ O bf (g.map unG) s tm σ else some (Z4 g tm,σ,none)
 | .tup []=>some (Z4 g tm,σ,none)
 | _=>none
theorem ZFh (j:Nat) (w:Bool) (g:List AOp) (s:Nat) (tm:Tms) (σ:Za):ZdW O bf j w g s tm σ=gW O bf w g s tm σ (tget tm j):=by
 unfold ZdW Zbw
 simp only
 generalize tget tm j=v
 cases v
 case bool b=>cases b <;> cases w <;> rfl
 case tup vs=>cases vs <;> rfl
 all_goals rfl
theorem Zya (w:Bool) (g:List AOp) (s:Nat) (tm:Tms) (σ:Za) (b:Bool):gW O bf w g s tm σ (.bool b)=if b=w then ZaZ O bf (g.map unG) s tm σ else some (Z4 g tm,σ,none):=rfl
theorem ZyZ (w:Bool) (g:List AOp) (s:Nat) (tm:Tms) (σ:Za):gW O bf w g s tm σ (.tup [])=some (Z4 g tm,σ,none):=rfl
theorem ZwG (os:List AOp) (s:Nat) (tm:Tms) (σ:Za):gK O bf os s (some (tm,σ,none))=ZaZ O bf os s tm σ:=rfl
end
section
variable (c:Prop) [Decidable c]
theorem ZCC {α:Type} (a b:α) (x y:List α):(if c then a::x else b::y)=(if c then a else b)::(if c then x else y):=by split <;> rfl
theorem Zu2 (k:IntKind) (a b:Int):(if c then AVal.int k a else AVal.int k b)=AVal.int k (if c then a else b):=by split <;> rfl
theorem ZAQ (a b:Bool):(if c then AVal.bool a else AVal.bool b)=AVal.bool (if c then a else b):=by split <;> rfl
theorem ZAs (a b:List UInt8):(if c then AVal.str a else AVal.str b)=AVal.str (if c then a else b):=by split <;> rfl
theorem ZEJ (p q:Bool) (a b:List AVal):(if c then AVal.lst p a else AVal.lst q b)=AVal.lst (if c then p else q) (if c then a else b):=by split <;> rfl
theorem Zyx (a b:List AVal):(if c then AVal.agg a else AVal.agg b)=AVal.agg (if c then a else b):=by split <;> rfl
theorem ZL8 (a b:List AVal):(if c then Zk.var a else Zk.var b)=Zk.var (if c then a else b):=by split <;> rfl
theorem ZLF (g k:Nat) (a b:List AVal):(if c then Zk.row g k a else Zk.row g k b)=Zk.row g k (if c then a else b):=by split <;> rfl
theorem Zw6 (t:Nat) (a b:Nat):(if c then AVal.ref t a else AVal.ref t b)=AVal.ref t (if c then a else b):=by split <;> rfl
theorem ZIs (σ:Za) (a b:AVal) (p:Bool):ZeT σ a b (.bool p)=some (if p=true then a else b,σ,{}):=by cases p <;> rfl
theorem ZBu (a b:AVal):Zam (if c then a else b)=if c then Zam a else Zam b:=by split <;> rfl
end
section
variable {fs:Nat->Option ZN} {prim:Zdh} {bf:Nat->Bool} {m0:Nat}
theorem Zxr (p:Bool) (a b:Zd) (tm:Tms) (σ:Za):Zio fs prim bf m0 a b tm σ (.bool p)=if p=true then evC fs prim bf m0 a tm σ else evC fs prim bf m0 b tm σ:=by
 cases p <;> rfl
theorem Zy4 (b:Zd) (tm:Tms) (σ:Za):Zbf fs prim bf m0 b (some (.normal,tm,σ))=evC fs prim bf m0 b tm σ:=rfl
theorem ZE8 (b:Zd) (i:Nat) (tm:Tms) (σ:Za):Zbf fs prim bf m0 b (some (.exit i,tm,σ))=some (.exit i,tm,σ):=rfl
theorem ZKE (b:Zd) (tm:Tms) (σ:Za):Zbf fs prim bf m0 b (some (.ret,tm,σ))=some (.ret,tm,σ):=rfl
theorem ZC6 (b:Zd) (x:AVal) (tm:Tms) (σ:Za):Zbf fs prim bf m0 b (some (.panic x,tm,σ))=some (.panic x,tm,σ):=rfl
theorem ZJj (c:Prop) [Decidable c] (b:Zd) (x y:Option (ZA×Tms×Za)):Zbf fs prim bf m0 b (if c then x else y)=if c then Zbf fs prim bf m0 b x else Zbf fs prim bf m0 b y:=by split <;> rfl
theorem ZJz (id:Nat) (tm:Tms) (σ:Za):WE (ZaL id) (some (.normal,tm,σ))=some (.normal,tm,σ):=rfl
theorem ZBD (id i:Nat) (tm:Tms) (σ:Za):WE (ZaL id) (some (.exit i,tm,σ))=if i=id then some (.normal,tm,σ) else some (.exit i,tm,σ):=by
 simp only [XQ,ZaL];split <;> rfl
theorem ZJm (id:Nat) (tm:Tms) (σ:Za):WE (ZaL id) (some (.ret,tm,σ))=some (.ret,tm,σ):=rfl
theorem ZLJ (id:Nat) (x:AVal) (tm:Tms) (σ:Za):WE (ZaL id) (some (.panic x,tm,σ))=some (.panic x,tm,σ):=rfl
theorem Zva (id:Nat) (c:Prop) [Decidable c] (x y:Option (ZA×Tms×Za)):WE (ZaL id) (if c then x else y)=if c then WE (ZaL id) x else WE (ZaL id) y:=by split <;> rfl
theorem ZyC (m:Nat) (fn:ZN) (c:Prop) [Decidable c] (x y:Option (ZA×Tms×Za)):ZaC m fn (if c then x else y)=if c then ZaC m fn x else ZaC m fn y:=by split <;> rfl
end
section
variable {fs:Nat->Option ZN} {prim:Zdh} {bf:Nat->Bool} {m0:Nat}
theorem ZAx {live:List Nat} {c:Zd} {tm tm':Tms} {σ σ':Za} (h:evC fs prim bf m0 c tm σ=some (.normal,tm',σ')):evL fs prim bf m0 live c tm σ=evL fs prim bf m0 live c (gcT m0 (keepL live tm') σ').1 (gcT m0 (keepL live tm') σ').2:=by
 unfold evL
 rw [h]
 simp only
 rw [ZtF]
 rfl
theorem ZFi {live:List Nat} {c:Zd} {tm tm':Tms} {σ σ':Za} {i:Nat} (h:evC fs prim bf m0 c tm σ=some (.exit i,tm',σ')):evL fs prim bf m0 live c tm σ=some (.exit i,tm',σ'):=by
 unfold evL;rw [h]
theorem ZEt {live:List Nat} {c:Zd} {tm tm':Tms} {σ σ':Za} (h:evC fs prim bf m0 c tm σ=some (.ret,tm',σ')):evL fs prim bf m0 live c tm σ=some (.ret,tm',σ'):=by
 unfold evL;rw [h]
variable (fs prim bf m0) in
noncomputable def evM (live:List Nat) (c:Zd):Option (ZA×Tms×Za)->Option (ZA×Tms×Za)
 | some (.normal,tm,σ)=>evL fs prim bf m0 live c (gcT m0 (keepL live tm) σ).1 (gcT m0 (keepL live tm) σ).2
 | r=>r
theorem ZO (live:List Nat) (c:Zd) (tm:Tms) (σ:Za):evL fs prim bf m0 live c tm σ=evM fs prim bf m0 live c (evC fs prim bf m0 c tm σ):=by
 cases h:evC fs prim bf m0 c tm σ with
 | none=>unfold evL;rw [h];rfl
 | some q =>
  obtain ⟨e,tm',σ'⟩:=q
  cases e with
  | normal=>exact ZAx h
  | exit i=>exact ZFi h
  | ret=>exact ZEt h
  | panic x=>unfold evL;rw [h];rfl
theorem ZwP (live:List Nat) (c:Zd) (tm:Tms) (σ:Za):evM fs prim bf m0 live c (some (.normal,tm,σ))=evL fs prim bf m0 live c (gcT m0 (keepL live tm) σ).1 (gcT m0 (keepL live tm) σ).2:=rfl
theorem ZB6 (live:List Nat) (c:Zd) (i:Nat) (tm:Tms) (σ:Za):evM fs prim bf m0 live c (some (.exit i,tm,σ))=some (.exit i,tm,σ):=rfl
theorem ZwV (live:List Nat) (c:Zd) (tm:Tms) (σ:Za):evM fs prim bf m0 live c (some (.ret,tm,σ))=some (.ret,tm,σ):=rfl
theorem ZF2 (live:List Nat) (c:Zd) (x:AVal) (tm:Tms) (σ:Za):evM fs prim bf m0 live c (some (.panic x,tm,σ))=some (.panic x,tm,σ):=rfl
theorem ZEU (live:List Nat) (b:Zd) (c:Prop) [Decidable c] (x y:Option (ZA×Tms×Za)):evM fs prim bf m0 live b (if c then x else y)=if c then evM fs prim bf m0 live b x else evM fs prim bf m0 live b y:=by split <;> rfl
end
def Zan:AVal->Bool
 | .int _ _=>true
 | .bool _=>true
 | .str _=>true
 | .nilp=>true
 | .nilm=>true
 | .nili=>true
 | .lst _ _=>true
 | .fn _ []=>true
 | _=>false
def Z6:AVal->Bool
 | .agg cs=>cs.all Zan
 | x=>Zan x
def ZaJ:AVal->AVal
 | .lst _ xs=>.lst false xs
 | x=>x
def ZV:AVal->AVal
 | .agg cs=>.agg (cs.map ZaJ)
 | x=>ZaJ x
theorem Zsk {σ:Za} {x:AVal} (h:Zan x=true):ZcD σ x=some (ZaJ x,[]):=by
 cases x <;> first | (simp [Zan] at h;done) | rfl
theorem Zrw {σ:Za}:∀ {xs:List AVal},xs.all Zan=true->Zcq σ xs=some (xs.map ZaJ,[])
 | [],_=>rfl
 | x::xs,h=>by
  simp only [X8,Xi] at h
  simp only [Zcq,Zsk h.1,Zrw h.2,Xx,XA]
theorem ZgW {x:AVal} (h:∀ cs,x≠.agg cs):Z6 x=Zan x/\ZV x=ZaJ x:=by
 cases x <;> first | exact ⟨rfl,rfl⟩ | exact absurd rfl (h _)
theorem ZGG {σ:Za} {x:AVal} (h:∀ cs,x≠.agg cs):showA σ x=ZcD σ x:=by
 cases x <;> first | rfl | exact absurd rfl (h _)
theorem Zm2 (x:AVal):(∃ cs,x=.agg cs)\/∀ cs,x≠.agg cs:=by
 cases x <;> first | exact Xm ⟨_,rfl⟩ | (right;intro cs;simp)
theorem ZHE {σ:Za} {x:AVal} (h:Z6 x=true):showA σ x=some (ZV x,[]):=by
 rcases Zm2 x with ⟨cs,rfl⟩ | hn
 ·simp only [Z6] at h
  simp only [showA,Zrw h,ZV]
 ·rw [(ZgW hn).1] at h
  rw [ZGG hn,(ZgW hn).2]
  exact Zsk h
theorem Zhx {σ:Za}:∀ {xs:List AVal},xs.all Z6=true->showAs σ xs=some (xs.map ZV,[])
 | [],_=>rfl
 | x::xs,h=>by
  simp only [X8,Xi] at h
  simp only [showAs,ZHE h.1,Zhx h.2,Xx,XA]
theorem Zur {x:AVal} (h:Zan x=true):ZS (ZaJ x)=[]:=by
 cases x
 case fn f cs=>cases cs <;> simp [Zan] at h;rfl
 all_goals first | (simp [Zan] at h;done) | rfl
theorem Zs4:∀ {xs:List AVal},xs.all Zan=true->Zx (xs.map ZaJ)=[]
 | [],_=>rfl
 | x::xs,h=>by
  simp only [X8,Xi] at h
  simp only [Xx,Zx,Zur h.1,Zs4 h.2,XA]
theorem ZIO {x:AVal} (h:Z6 x=true):ZS (ZV x)=[]:=by
 rcases Zm2 x with ⟨cs,rfl⟩ | hn
 ·simp only [Z6] at h
  simp only [ZV,ZS];exact Zs4 h
 ·rw [(ZgW hn).1] at h
  rw [(ZgW hn).2];exact Zur h
theorem Zgy:∀ {xs:List AVal},xs.all Z6=true->Zx (xs.map ZV)=[]
 | [],_=>rfl
 | x::xs,h=>by
  simp only [X8,Xi] at h
  simp only [Xx,Zx,ZIO h.1,Zgy h.2,XA]
theorem ZuM {ρ:Rho} {x:AVal} (h:Zan x=true):Zf ρ (ZaJ x)=ZaJ x:=by
 cases x
 case fn f cs=>cases cs <;> simp [Zan] at h;rfl
 all_goals first | (simp [Zan] at h;done) | rfl
theorem Zre {ρ:Rho}:∀ {xs:List AVal},xs.all Zan=true->Zo ρ (xs.map ZaJ)=xs.map ZaJ
 | [],_=>rfl
 | x::xs,h=>by
  simp only [X8,Xi] at h
  simp only [Xx,Zo,ZuM h.1,Zre h.2]
theorem ZHG {ρ:Rho} {x:AVal} (h:Z6 x=true):Zf ρ (ZV x)=ZV x:=by
 rcases Zm2 x with ⟨cs,rfl⟩ | hn
 ·simp only [Z6] at h
  simp only [ZV,Zf];rw [Zre h]
 ·rw [(ZgW hn).1] at h
  rw [(ZgW hn).2];exact ZuM h
theorem Zgf {ρ:Rho}:∀ {xs:List AVal},xs.all Z6=true->Zo ρ (xs.map ZV)=xs.map ZV
 | [],_=>rfl
 | x::xs,h=>by
  simp only [X8,Xi] at h
  simp only [Xx,Zo,ZHG h.1,Zgf h.2]
theorem Zol {O:ZG} {bf:Nat->Bool} {σ:Za} {sq f own:Nat} {view:Bool} {args:List AVal} (hb:bf f=false) (h:args.all Z6=true) :
  Zr O bf σ sq f own view args=Zar σ σ [] [] sq own (Zaj view 0 (O f (args.map ZV) [])):=by
 unfold Zr Zcd
 rw [hb]
 simp only [Xg,if_false,Zhx h]
 have h1:Zt σ []=σ:=rfl
 rw [h1,Zgy h]
 have h2:Zi σ 1000 [] []=[]:=rfl
 rw [h2]
 unfold ZbH
 simp only [WC,if_true,Zgf h,Zg,XP]
theorem ZlO (σ:Za) (sq own:Nat) (r:AVal) (h:Zf (Zaf [] [] sq) r=r):Zar σ σ [] [] sq own (some (r,[]))=some (r,σ,{}):=by
 simp only [Zar,List.isEmpty_nil,Wm,if_true,ZdB,Bool.not_true,Bool.false_and,Xg,if_false]
 split
 ·rfl
 ·rw [h]
end
section
section
variable (ρ:Rho) (σ:Za)
theorem ZG0  : Zam (.top)=false:=rfl
theorem ZwB  : Zam (.any)=false:=rfl
theorem Zvs (k:IntKind) (n:Int):Zam (.int k n)=false:=rfl
theorem ZEn (b:Bool):Zam (.bool b)=false:=rfl
theorem Zyy (l:List UInt8):Zam (.str l)=false:=rfl
theorem ZJT  : Zam (.nilp)=false:=rfl
theorem ZDY (t:Nat) (o:Nat):Zam (.ref t o)=false:=rfl
theorem ZIb (t:Nat) (g:Nat) (i:Nat) (o:Nat):Zam (.eref t g i o)=false:=rfl
theorem ZMG (cs:List AVal) (o:Nat):Zam (.iptr cs o)=false:=rfl
theorem ZBY (x:Bool) (xs:List AVal):Zam (.lst x xs)=false:=rfl
theorem Zxf (t:Nat) (g:Nat) (lo:Nat) (n:Nat):Zam (.sl t g lo n)=false:=rfl
theorem ZAE (cs:List AVal):Zam (.agg cs)=false:=rfl
theorem ZFL (vs:List AVal):Zam (.tup vs)=false:=rfl
theorem ZFx (f:Nat) (caps:List AVal):Zam (.fn f caps)=false:=rfl
theorem ZMx  : Zam (.nilm)=false:=rfl
theorem Zzy (t:Nat):Zam (.map t)=false:=rfl
theorem ZCJ (t j o:Nat):Zam (.nref t j o)=false:=rfl
theorem ZxQ (t j:Nat) (nx:Bool):Zam (.mapg t j nx)=false:=by cases nx <;> rfl
theorem Zwk  : Zam (.nili)=false:=rfl
theorem ZzM (t:Nat) (x:AVal):Zam (.iface t x)=false:=rfl
theorem ZEF (x:AVal):Zam (.pan x)=true:=rfl
theorem ZFn  : ZJ (.top)=false:=rfl
theorem ZCV  : ZJ (.any)=true:=rfl
theorem ZvP (k:IntKind) (n:Int):ZJ (.int k n)=true:=rfl
theorem ZyL (b:Bool):ZJ (.bool b)=true:=rfl
theorem Zye (l:List UInt8):ZJ (.str l)=true:=rfl
theorem ZBW  : ZJ (.nilp)=true:=rfl
theorem ZFv (t:Nat) (o:Nat):ZJ (.ref t o)=true:=rfl
theorem ZzH (t:Nat) (g:Nat) (i:Nat) (o:Nat):ZJ (.eref t g i o)=true:=rfl
theorem ZzA (cs:List AVal) (o:Nat):ZJ (.iptr cs o)=true:=rfl
theorem ZMc (x:Bool) (xs:List AVal):ZJ (.lst x xs)=true:=rfl
theorem ZyW (t:Nat) (g:Nat) (lo:Nat) (n:Nat):ZJ (.sl t g lo n)=true:=rfl
theorem ZHS (cs:List AVal):ZJ (.agg cs)=false:=rfl
theorem ZGH (vs:List AVal):ZJ (.tup vs)=false:=rfl
theorem ZIK (f:Nat) (caps:List AVal):ZJ (.fn f caps)=true:=rfl
theorem ZAa  : ZJ (.nilm)=true:=rfl
theorem ZJk (t:Nat):ZJ (.map t)=true:=rfl
theorem ZHo (t j o:Nat):ZJ (.nref t j o)=true:=rfl
theorem ZL0 (t j:Nat) (nx:Bool):ZJ (.mapg t j nx)=true:=by cases nx <;> rfl
theorem ZH1  : ZJ (.nili)=true:=rfl
theorem ZKm (t:Nat) (x:AVal):ZJ (.iface t x)=true:=rfl
theorem ZMs (x:AVal):ZJ (.pan x)=false:=rfl
theorem ZCO  : Zbq (.top)=false:=rfl
theorem ZHm  : Zbq (.any)=true:=rfl
theorem ZKb (k:IntKind) (n:Int):Zbq (.int k n)=true:=rfl
theorem ZAU (b:Bool):Zbq (.bool b)=true:=rfl
theorem Zve (l:List UInt8):Zbq (.str l)=true:=rfl
theorem ZvD  : Zbq (.nilp)=true:=rfl
theorem ZDT (t:Nat) (o:Nat):Zbq (.ref t o)=true:=rfl
theorem ZMf (t:Nat) (g:Nat) (i:Nat) (o:Nat):Zbq (.eref t g i o)=true:=rfl
theorem ZC2 (cs:List AVal) (o:Nat):Zbq (.iptr cs o)=true:=rfl
theorem ZGi (x:Bool) (xs:List AVal):Zbq (.lst x xs)=true:=rfl
theorem ZLH (t:Nat) (g:Nat) (lo:Nat) (n:Nat):Zbq (.sl t g lo n)=true:=rfl
theorem ZE2 (cs:List AVal):Zbq (.agg cs)=true:=rfl
theorem ZIQ (vs:List AVal):Zbq (.tup vs)=true:=rfl
theorem Zzk (f:Nat) (caps:List AVal):Zbq (.fn f caps)=true:=rfl
theorem ZwM  : Zbq (.nilm)=true:=rfl
theorem ZyS (t:Nat):Zbq (.map t)=true:=rfl
theorem Zy1 (t j o:Nat):Zbq (.nref t j o)=true:=rfl
theorem ZFI (t j:Nat) (nx:Bool):Zbq (.mapg t j nx)=true:=by cases nx <;> rfl
theorem ZBR  : Zbq (.nili)=true:=rfl
theorem ZHq (t:Nat) (x:AVal):Zbq (.iface t x)=true:=rfl
theorem ZGg (x:AVal):Zbq (.pan x)=true:=rfl
theorem Zwz  : Zap (.top)=false:=rfl
theorem ZJH  : Zap (.any)=false:=rfl
theorem Zvo (k:IntKind) (n:Int):Zap (.int k n)=true:=rfl
theorem Zxz (b:Bool):Zap (.bool b)=true:=rfl
theorem ZFt (l:List UInt8):Zap (.str l)=true:=rfl
theorem ZGM  : Zap (.nilp)=true:=rfl
theorem Zwa (t:Nat) (o:Nat):Zap (.ref t o)=false:=rfl
theorem Zy7 (t:Nat) (g:Nat) (i:Nat) (o:Nat):Zap (.eref t g i o)=false:=rfl
theorem ZBv (cs:List AVal) (o:Nat):Zap (.iptr cs o)=false:=rfl
theorem ZDt (x:Bool) (xs:List AVal):Zap (.lst x xs)=false:=rfl
theorem ZHV (t:Nat) (g:Nat) (lo:Nat) (n:Nat):Zap (.sl t g lo n)=false:=rfl
theorem ZMD (cs:List AVal):Zap (.agg cs)=false:=rfl
theorem ZKy (vs:List AVal):Zap (.tup vs)=false:=rfl
theorem ZK7 (f:Nat) (caps:List AVal):Zap (.fn f caps)=false:=rfl
theorem ZMy  : Zap (.nilm)=true:=rfl
theorem ZIi (t:Nat):Zap (.map t)=false:=rfl
theorem ZLD (t j o:Nat):Zap (.nref t j o)=false:=rfl
theorem ZKo (t j:Nat) (nx:Bool):Zap (.mapg t j nx)=false:=by cases nx <;> rfl
theorem ZKc  : Zap (.nili)=true:=rfl
theorem Zz4 (t:Nat) (x:AVal):Zap (.iface t x)=false:=rfl
theorem Zvl (x:AVal):Zap (.pan x)=false:=rfl
theorem ZzU  : Za5 (.top)=false:=rfl
theorem ZBB  : Za5 (.any)=false:=rfl
theorem ZI1 (k:IntKind) (n:Int):Za5 (.int k n)=true:=rfl
theorem ZwA (b:Bool):Za5 (.bool b)=true:=rfl
theorem ZEp (l:List UInt8):Za5 (.str l)=true:=rfl
theorem ZDJ  : Za5 (.nilp)=true:=rfl
theorem ZBJ (t:Nat) (o:Nat):Za5 (.ref t o)=false:=rfl
theorem ZAt (t:Nat) (g:Nat) (i:Nat) (o:Nat):Za5 (.eref t g i o)=false:=rfl
theorem ZDL (cs:List AVal) (o:Nat):Za5 (.iptr cs o)=false:=rfl
theorem ZAL (x:Bool) (xs:List AVal):Za5 (.lst x xs)=false:=rfl
theorem Zy8 (t:Nat) (g:Nat) (lo:Nat) (n:Nat):Za5 (.sl t g lo n)=false:=rfl
theorem ZEr (cs:List AVal):Za5 (.agg cs)=cs.all Zap:=rfl
theorem ZKt (vs:List AVal):Za5 (.tup vs)=false:=rfl
theorem ZKN (f:Nat) (caps:List AVal):Za5 (.fn f caps)=false:=rfl
theorem ZD3  : Za5 (.nilm)=true:=rfl
theorem ZCm (t:Nat):Za5 (.map t)=false:=rfl
theorem ZzI (t j o:Nat):Za5 (.nref t j o)=false:=rfl
theorem Zy0 (t j:Nat) (nx:Bool):Za5 (.mapg t j nx)=false:=by cases nx <;> rfl
theorem ZwS  : Za5 (.nili)=true:=rfl
theorem ZD7 (t:Nat) (x:AVal):Za5 (.iface t x)=false:=rfl
theorem ZAb (x:AVal):Za5 (.pan x)=false:=rfl
theorem ZC9  : Zbb (.top)=false:=rfl
theorem ZDf  : Zbb (.any)=false:=rfl
theorem ZBA (k:IntKind) (n:Int):Zbb (.int k n)=true:=rfl
theorem ZKx (b:Bool):Zbb (.bool b)=true:=rfl
theorem ZGO (l:List UInt8):Zbb (.str l)=true:=rfl
theorem ZKi  : Zbb (.nilp)=true:=rfl
theorem ZzB (t:Nat) (o:Nat):Zbb (.ref t o)=false:=rfl
theorem ZLI (t:Nat) (g:Nat) (i:Nat) (o:Nat):Zbb (.eref t g i o)=false:=rfl
theorem ZxY (cs:List AVal) (o:Nat):Zbb (.iptr cs o)=false:=rfl
theorem ZKn (x:Bool) (xs:List AVal):Zbb (.lst x xs)=false:=rfl
theorem ZI0 (t:Nat) (g:Nat) (lo:Nat) (n:Nat):Zbb (.sl t g lo n)=false:=rfl
theorem ZLK (cs:List AVal):Zbb (.agg cs)=cs.all Zap:=rfl
theorem ZMJ (vs:List AVal):Zbb (.tup vs)=vs.all Za5:=rfl
theorem ZEY (f:Nat) (caps:List AVal):Zbb (.fn f caps)=false:=rfl
theorem ZEo  : Zbb (.nilm)=true:=rfl
theorem ZJt (t:Nat):Zbb (.map t)=false:=rfl
theorem ZvZ (t j o:Nat):Zbb (.nref t j o)=false:=rfl
theorem ZGo (t j:Nat) (nx:Bool):Zbb (.mapg t j nx)=false:=by cases nx <;> rfl
theorem ZJb  : Zbb (.nili)=true:=rfl
theorem ZvB (t:Nat) (x:AVal):Zbb (.iface t x)=false:=rfl
theorem ZMM  : Zan (.top)=false:=rfl
theorem ZCG  : Zan (.any)=false:=rfl
theorem Zyb (k:IntKind) (n:Int):Zan (.int k n)=true:=rfl
theorem ZIJ (b:Bool):Zan (.bool b)=true:=rfl
theorem ZAj (l:List UInt8):Zan (.str l)=true:=rfl
theorem ZyG  : Zan (.nilp)=true:=rfl
theorem ZGx (t:Nat) (o:Nat):Zan (.ref t o)=false:=rfl
theorem ZBs (t:Nat) (g:Nat) (i:Nat) (o:Nat):Zan (.eref t g i o)=false:=rfl
theorem Zyg (cs:List AVal) (o:Nat):Zan (.iptr cs o)=false:=rfl
theorem ZDr (x:Bool) (xs:List AVal):Zan (.lst x xs)=true:=rfl
theorem ZGT (t:Nat) (g:Nat) (lo:Nat) (n:Nat):Zan (.sl t g lo n)=false:=rfl
theorem Zwt (cs:List AVal):Zan (.agg cs)=false:=rfl
theorem ZDC (vs:List AVal):Zan (.tup vs)=false:=rfl
theorem ZKd  : Zan (.nilm)=true:=rfl
theorem ZxM (t:Nat):Zan (.map t)=false:=rfl
theorem ZJ5 (t j o:Nat):Zan (.nref t j o)=false:=rfl
theorem Zu6 (t j:Nat) (nx:Bool):Zan (.mapg t j nx)=false:=by cases nx <;> rfl
theorem ZHW  : Zan (.nili)=true:=rfl
theorem Zxx (t:Nat) (x:AVal):Zan (.iface t x)=false:=rfl
theorem ZGa (x:AVal):Zan (.pan x)=false:=rfl
theorem ZIr  : Z6 (.top)=false:=rfl
theorem ZEZ  : Z6 (.any)=false:=rfl
theorem Zxi (k:IntKind) (n:Int):Z6 (.int k n)=true:=rfl
theorem ZGr (b:Bool):Z6 (.bool b)=true:=rfl
theorem Zzp (l:List UInt8):Z6 (.str l)=true:=rfl
theorem ZJG  : Z6 (.nilp)=true:=rfl
theorem ZAg (t:Nat) (o:Nat):Z6 (.ref t o)=false:=rfl
theorem ZMj (t:Nat) (g:Nat) (i:Nat) (o:Nat):Z6 (.eref t g i o)=false:=rfl
theorem ZC4 (cs:List AVal) (o:Nat):Z6 (.iptr cs o)=false:=rfl
theorem ZBl (x:Bool) (xs:List AVal):Z6 (.lst x xs)=true:=rfl
theorem ZAu (t:Nat) (g:Nat) (lo:Nat) (n:Nat):Z6 (.sl t g lo n)=false:=rfl
theorem Zwd (cs:List AVal):Z6 (.agg cs)=cs.all Zan:=rfl
theorem ZCa (vs:List AVal):Z6 (.tup vs)=false:=rfl
theorem ZLm  : Z6 (.nilm)=true:=rfl
theorem ZFK (t:Nat):Z6 (.map t)=false:=rfl
theorem ZvE (t j o:Nat):Z6 (.nref t j o)=false:=rfl
theorem ZA0 (t j:Nat) (nx:Bool):Z6 (.mapg t j nx)=false:=by cases nx <;> rfl
theorem ZER  : Z6 (.nili)=true:=rfl
theorem ZCw (t:Nat) (x:AVal):Z6 (.iface t x)=false:=rfl
theorem ZMb (x:AVal):Z6 (.pan x)=false:=rfl
theorem ZKC  : ZaJ (.top)=(.top):=rfl
theorem ZDK  : ZaJ (.any)=(.any):=rfl
theorem ZBy (k:IntKind) (n:Int):ZaJ (.int k n)=(.int k n):=rfl
theorem ZIt (b:Bool):ZaJ (.bool b)=(.bool b):=rfl
theorem ZMU (l:List UInt8):ZaJ (.str l)=(.str l):=rfl
theorem Zyj  : ZaJ (.nilp)=(.nilp):=rfl
theorem ZCq (t:Nat) (o:Nat):ZaJ (.ref t o)=(.ref t o):=rfl
theorem ZHZ (t:Nat) (g:Nat) (i:Nat) (o:Nat):ZaJ (.eref t g i o)=(.eref t g i o):=rfl
theorem ZFg (cs:List AVal) (o:Nat):ZaJ (.iptr cs o)=(.iptr cs o):=rfl
theorem ZFX (x:Bool) (xs:List AVal):ZaJ (.lst x xs)=.lst false xs:=rfl
theorem Zv4 (t:Nat) (g:Nat) (lo:Nat) (n:Nat):ZaJ (.sl t g lo n)=(.sl t g lo n):=rfl
theorem ZLp (cs:List AVal):ZaJ (.agg cs)=(.agg cs):=rfl
theorem ZDj (vs:List AVal):ZaJ (.tup vs)=(.tup vs):=rfl
theorem ZJK (f:Nat) (caps:List AVal):ZaJ (.fn f caps)=(.fn f caps):=rfl
theorem ZFU  : ZaJ (.nilm)=(.nilm):=rfl
theorem ZG2 (t:Nat):ZaJ (.map t)=(.map t):=rfl
theorem ZFG (t j o:Nat):ZaJ (.nref t j o)=(.nref t j o):=rfl
theorem ZMA (t j:Nat) (nx:Bool):ZaJ (.mapg t j nx)=(.mapg t j nx):=by cases nx <;> rfl
theorem ZDg  : ZaJ (.nili)=(.nili):=rfl
theorem ZFV (t:Nat) (x:AVal):ZaJ (.iface t x)=(.iface t x):=rfl
theorem Zxc (x:AVal):ZaJ (.pan x)=(.pan x):=rfl
theorem ZEE  : ZV (.top)=(.top):=rfl
theorem ZK0  : ZV (.any)=(.any):=rfl
theorem ZJ7 (k:IntKind) (n:Int):ZV (.int k n)=(.int k n):=rfl
theorem Zvd (b:Bool):ZV (.bool b)=(.bool b):=rfl
theorem ZAl (l:List UInt8):ZV (.str l)=(.str l):=rfl
theorem ZKp  : ZV (.nilp)=(.nilp):=rfl
theorem ZyA (t:Nat) (o:Nat):ZV (.ref t o)=(.ref t o):=rfl
theorem ZEb (t:Nat) (g:Nat) (i:Nat) (o:Nat):ZV (.eref t g i o)=(.eref t g i o):=rfl
theorem Zzx (cs:List AVal) (o:Nat):ZV (.iptr cs o)=(.iptr cs o):=rfl
theorem ZGe (x:Bool) (xs:List AVal):ZV (.lst x xs)=.lst false xs:=rfl
theorem ZwQ (t:Nat) (g:Nat) (lo:Nat) (n:Nat):ZV (.sl t g lo n)=(.sl t g lo n):=rfl
theorem Zw7 (cs:List AVal):ZV (.agg cs)=.agg (cs.map ZaJ):=rfl
theorem ZCS (vs:List AVal):ZV (.tup vs)=(.tup vs):=rfl
theorem ZA4 (f:Nat) (caps:List AVal):ZV (.fn f caps)=(.fn f caps):=rfl
theorem ZKK  : ZV (.nilm)=(.nilm):=rfl
theorem ZJV (t:Nat):ZV (.map t)=(.map t):=rfl
theorem ZH8 (t j o:Nat):ZV (.nref t j o)=(.nref t j o):=rfl
theorem Zxv (t j:Nat) (nx:Bool):ZV (.mapg t j nx)=(.mapg t j nx):=by cases nx <;> rfl
theorem ZLT  : ZV (.nili)=(.nili):=rfl
theorem ZJh (t:Nat) (x:AVal):ZV (.iface t x)=(.iface t x):=rfl
theorem ZIh (x:AVal):ZV (.pan x)=(.pan x):=rfl
theorem ZL1  : AVal.cells (.top)=[(.top)]:=rfl
theorem Zvn  : AVal.cells (.any)=[(.any)]:=rfl
theorem ZvH (k:IntKind) (n:Int):AVal.cells (.int k n)=[(.int k n)]:=rfl
theorem Zxs (b:Bool):AVal.cells (.bool b)=[(.bool b)]:=rfl
theorem ZGP (l:List UInt8):AVal.cells (.str l)=[(.str l)]:=rfl
theorem ZES  : AVal.cells (.nilp)=[(.nilp)]:=rfl
theorem ZEq (t:Nat) (o:Nat):AVal.cells (.ref t o)=[(.ref t o)]:=rfl
theorem Zwh (t:Nat) (g:Nat) (i:Nat) (o:Nat):AVal.cells (.eref t g i o)=[(.eref t g i o)]:=rfl
theorem ZFm (cs:List AVal) (o:Nat):AVal.cells (.iptr cs o)=[(.iptr cs o)]:=rfl
theorem Zzl (x:Bool) (xs:List AVal):AVal.cells (.lst x xs)=[(.lst x xs)]:=rfl
theorem ZHx (t:Nat) (g:Nat) (lo:Nat) (n:Nat):AVal.cells (.sl t g lo n)=[(.sl t g lo n)]:=rfl
theorem ZK2 (cs:List AVal):AVal.cells (.agg cs)=cs:=rfl
theorem ZBr (vs:List AVal):AVal.cells (.tup vs)=[(.tup vs)]:=rfl
theorem ZF7 (f:Nat) (caps:List AVal):AVal.cells (.fn f caps)=[(.fn f caps)]:=rfl
theorem Zx5  : AVal.cells (.nilm)=[(.nilm)]:=rfl
theorem Zy5 (t:Nat):AVal.cells (.map t)=[(.map t)]:=rfl
theorem Zyl (t j o:Nat):AVal.cells (.nref t j o)=[(.nref t j o)]:=rfl
theorem ZLl (t j:Nat) (nx:Bool):AVal.cells (.mapg t j nx)=[(.mapg t j nx)]:=by cases nx <;> rfl
theorem ZJp  : AVal.cells (.nili)=[(.nili)]:=rfl
theorem ZB3 (t:Nat) (x:AVal):AVal.cells (.iface t x)=[(.iface t x)]:=rfl
theorem ZHA (x:AVal):AVal.cells (.pan x)=[(.pan x)]:=rfl
theorem ZJf  : Zao (.top)=(.top):=rfl
theorem ZzS  : Zao (.any)=(.any):=rfl
theorem Zxk (k:IntKind) (n:Int):Zao (.int k n)=(.int k n):=rfl
theorem ZyT (b:Bool):Zao (.bool b)=(.bool b):=rfl
theorem ZDD (l:List UInt8):Zao (.str l)=(.str l):=rfl
theorem ZLa  : Zao (.nilp)=(.nilp):=rfl
theorem ZGw (t:Nat) (o:Nat):Zao (.ref t o)=(.ref t o):=rfl
theorem ZCk (t:Nat) (g:Nat) (i:Nat) (o:Nat):Zao (.eref t g i o)=(.eref t g i o):=rfl
theorem ZAY (cs:List AVal) (o:Nat):Zao (.iptr cs o)=(.iptr cs o):=rfl
theorem ZGE (x:Bool) (xs:List AVal):Zao (.lst x xs)=(.lst x xs):=rfl
theorem ZJr (t:Nat) (g:Nat) (lo:Nat) (n:Nat):Zao (.sl t g lo n)=(.sl t g lo n):=rfl
theorem ZzO (cs:List AVal):Zao (.agg cs)=(.agg cs):=rfl
theorem ZAh (vs:List AVal):Zao (.tup vs)=(.tup vs):=rfl
theorem ZBP (f:Nat) (caps:List AVal):Zao (.fn f caps)=(.fn f caps):=rfl
theorem ZJ2  : Zao (.nilm)=(.nilm):=rfl
theorem ZI4 (t:Nat):Zao (.map t)=(.map t):=rfl
theorem ZFl (t j o:Nat):Zao (.nref t j o)=(.nref t j o):=rfl
theorem ZFz (t j:Nat) (nx:Bool):Zao (.mapg t j nx)=(.mapg t j nx):=by cases nx <;> rfl
theorem ZAo  : Zao (.nili)=(.nili):=rfl
theorem ZJR (t:Nat) (x:AVal):Zao (.iface t x)=(.iface t x):=rfl
theorem ZCR (x:AVal):Zao (.pan x)=x:=rfl
theorem ZBL  : ZU (.top)=4:=rfl
theorem Zvb  : ZU (.any)=4:=rfl
theorem ZD0 (k:IntKind) (n:Int):ZU (.int k n)=0:=rfl
theorem ZEC (b:Bool):ZU (.bool b)=1:=rfl
theorem ZJl (l:List UInt8):ZU (.str l)=2:=rfl
theorem Zwe  : ZU (.nilp)=4:=rfl
theorem ZwR (t:Nat) (o:Nat):ZU (.ref t o)=4:=rfl
theorem ZJ6 (t:Nat) (g:Nat) (i:Nat) (o:Nat):ZU (.eref t g i o)=4:=rfl
theorem ZCg (cs:List AVal) (o:Nat):ZU (.iptr cs o)=4:=rfl
theorem ZGp (x:Bool) (xs:List AVal):ZU (.lst x xs)=4:=rfl
theorem Zv7 (t:Nat) (g:Nat) (lo:Nat) (n:Nat):ZU (.sl t g lo n)=4:=rfl
theorem ZD6 (cs:List AVal):ZU (.agg cs)=4:=rfl
theorem Zu8 (vs:List AVal):ZU (.tup vs)=4:=rfl
theorem ZGV (f:Nat) (caps:List AVal):ZU (.fn f caps)=4:=rfl
theorem ZJi  : ZU (.nilm)=4:=rfl
theorem Zzb (t:Nat):ZU (.map t)=4:=rfl
theorem ZMP (t j o:Nat):ZU (.nref t j o)=4:=rfl
theorem ZHQ (t j:Nat) (nx:Bool):ZU (.mapg t j nx)=4:=by cases nx <;> rfl
theorem ZzF  : ZU (.nili)=4:=rfl
theorem ZFq (t:Nat) (x:AVal):ZU (.iface t x)=4:=rfl
theorem ZEB (x:AVal):ZU (.pan x)=4:=rfl
theorem ZAz  : ZS (.top)=[]:=rfl
theorem ZJX  : ZS (.any)=[]:=rfl
theorem ZLu (k:IntKind) (n:Int):ZS (.int k n)=[]:=rfl
theorem ZyH (b:Bool):ZS (.bool b)=[]:=rfl
theorem ZAG (l:List UInt8):ZS (.str l)=[]:=rfl
theorem ZD4  : ZS (.nilp)=[]:=rfl
theorem ZJ0 (t:Nat) (o:Nat):ZS (.ref t o)=[t]:=rfl
theorem ZH6 (t:Nat) (g:Nat) (i:Nat) (o:Nat):ZS (.eref t g i o)=[t]:=rfl
theorem ZEj (cs:List AVal) (o:Nat):ZS (.iptr cs o)=[]:=rfl
theorem ZIS (x:Bool) (xs:List AVal):ZS (.lst x xs)=[]:=rfl
theorem ZHM (t:Nat) (g:Nat) (lo:Nat) (n:Nat):ZS (.sl t g lo n)=[t]:=rfl
theorem ZEk (cs:List AVal):ZS (.agg cs)=Zx cs:=rfl
theorem Zxg (vs:List AVal):ZS (.tup vs)=Zx vs:=rfl
theorem Zwq (f:Nat) (caps:List AVal):ZS (.fn f caps)=Zx caps:=rfl
theorem ZwZ  : ZS (.nilm)=[]:=rfl
theorem ZEd (t:Nat):ZS (.map t)=[t]:=rfl
theorem ZJP (t j o:Nat):ZS (.nref t j o)=[t]:=rfl
theorem ZvN (t j:Nat) (nx:Bool):ZS (.mapg t j nx)=[t]:=by cases nx <;> rfl
theorem ZKR  : ZS (.nili)=[]:=rfl
theorem ZBx (t:Nat) (x:AVal):ZS (.iface t x)=ZS x:=rfl
theorem ZLs (x:AVal):ZS (.pan x)=ZS x:=rfl
theorem ZIe  : Zf ρ (.top)=(.top):=rfl
theorem ZAA  : Zf ρ (.any)=(.any):=rfl
theorem ZwH (k:IntKind) (n:Int):Zf ρ (.int k n)=(.int k n):=rfl
theorem ZAr (b:Bool):Zf ρ (.bool b)=(.bool b):=rfl
theorem ZCX (l:List UInt8):Zf ρ (.str l)=(.str l):=rfl
theorem ZBi  : Zf ρ (.nilp)=(.nilp):=rfl
theorem ZEs (cs:List AVal) (o:Nat):Zf ρ (.iptr cs o)=(.iptr cs o):=rfl
theorem ZHz (x:Bool) (xs:List AVal):Zf ρ (.lst x xs)=(.lst x xs):=rfl
theorem ZxT (cs:List AVal):Zf ρ (.agg cs)=.agg (Zo ρ cs):=rfl
theorem ZFk (vs:List AVal):Zf ρ (.tup vs)=.tup (Zo ρ vs):=rfl
theorem ZFM (f:Nat) (caps:List AVal):Zf ρ (.fn f caps)=.fn f (Zo ρ caps):=rfl
theorem ZDx  : Zf ρ (.nilm)=(.nilm):=rfl
theorem ZxK  : Zf ρ (.nili)=(.nili):=rfl
theorem ZCn (t:Nat) (x:AVal):Zf ρ (.iface t x)=.iface t (Zf ρ x):=rfl
theorem ZAZ (x:AVal):Zf ρ (.pan x)=.pan (Zf ρ x):=rfl
theorem ZvQ (f:Nat):Zan (.fn f [])=true:=rfl
theorem ZxO (f:Nat):Z6 (.fn f [])=true:=rfl
theorem ZwF (t:Nat) (x:AVal):Zbb (.pan (.iface t x))=Zap x:=rfl
theorem ZDl (live:List Nat) (tm:Tms):Zji live (some (tm,σ,none))=some (.normal,keepL live tm,σ):=rfl
theorem ZBU (live:List Nat) (tm:Tms) (x:AVal):Zji live (some (tm,σ,some x))=some (.panic x,[],σ):=rfl
theorem Zu9 (live:List Nat):Zji live none=none:=rfl
theorem Zyo (t o:Nat):Zf ρ (.ref t o)=(match ρ t 0 with | some (t',0)=>.ref t' o | _=>.any):=rfl
theorem ZAn (t:Nat):Zf ρ (.map t)=(match ρ t 0 with | some (t',0)=>.map t' | _=>.any):=rfl
theorem ZAk (t j o:Nat):Zf ρ (.nref t j o)=(match ρ t (1001+3*j) with | some (t',g')=>if g'=1001+3*j then .nref t' j o else .any | none=>.any):=rfl
theorem ZJn (t j:Nat) (nx:Bool):Zf ρ (.mapg t j nx)=(match ρ t (ZC j nx) with | some (t',g')=>if g'=ZC j nx then .mapg t' j nx else .any | none=>.any):=rfl
theorem ZAm (t g lo n:Nat):Zf ρ (.sl t g lo n)=(match ρ t g with | some (t',g')=>.sl t' g' lo n | none=>.any):=rfl
theorem ZxG (t g i o:Nat):Zf ρ (.eref t g i o)=(match ρ t g with | some (t',g')=>.eref t' g' i o | none=>.any):=rfl
theorem ZAw:Zx []=[]:=rfl
theorem ZJM (x:AVal) (xs:List AVal):Zx (x::xs)=ZS x++Zx xs:=rfl
theorem ZIp:Zo ρ []=[]:=rfl
theorem ZED (x:AVal) (xs:List AVal):Zo ρ (x::xs)=Zf ρ x::Zo ρ xs:=rfl
end
end
section
mutual
def Zac:AVal->Bool
 | .ref _ _=>false
 | .eref _ _ _ _=>false
 | .sl _ _ _ _=>false
 | .map _=>false
 | .nref _ _ _=>false
 | .mapg _ _ _=>false
 | .agg cs=>ZaB cs
 | .tup vs=>ZaB vs
 | .fn _ vs=>ZaB vs
 | .iface _ x=>Zac x
 | .pan x=>Zac x
 | .top=>true
 | .any=>true
 | .int _ _=>true
 | .bool _=>true
 | .str _=>true
 | .nilp=>true
 | .nilm=>true
 | .nili=>true
 | .iptr _ _=>true
 | .lst _ _=>true
def ZaB:List AVal->Bool
 | []=>true
 | x::xs=>Zac x && ZaB xs
end
mutual
theorem ZdJ (ρ:Rho):∀ (x:AVal),Zac x=true->Zf ρ x=x/\ZS x=[]
 | .ref _ _,h=>by simp [Zac] at h
 | .eref _ _ _ _,h=>by simp [Zac] at h
 | .sl _ _ _ _,h=>by simp [Zac] at h
 | .map _,h=>by simp [Zac] at h
 | .nref _ _ _,h=>by simp [Zac] at h
 | .mapg _ _ _,h=>by simp [Zac] at h
 | .agg cs,h=>by have:=Zd3 ρ cs (by simpa only [Zac] using h);exact ⟨by simp only [Zf,this.1],by simp only [ZS,this.2]⟩
 | .tup cs,h=>by have:=Zd3 ρ cs (by simpa only [Zac] using h);exact ⟨by simp only [Zf,this.1],by simp only [ZS,this.2]⟩
 | .fn f cs,h=>by have:=Zd3 ρ cs (by simpa only [Zac] using h);exact ⟨by simp only [Zf,this.1],by simp only [ZS,this.2]⟩
 | .iface t x,h=>by have:=ZdJ ρ x (by simpa only [Zac] using h);exact ⟨by simp only [Zf,this.1],by simp only [ZS,this.2]⟩
 | .pan x,h=>by have:=ZdJ ρ x (by simpa only [Zac] using h);exact ⟨by simp only [Zf,this.1],by simp only [ZS,this.2]⟩
 | .top,_=>⟨rfl,rfl⟩
 | .any,_=>⟨rfl,rfl⟩
 | .int _ _,_=>⟨rfl,rfl⟩
 | .bool _,_=>⟨rfl,rfl⟩
 | .str _,_=>⟨rfl,rfl⟩
 | .nilp,_=>⟨rfl,rfl⟩
 | .nilm,_=>⟨rfl,rfl⟩
 | .nili,_=>⟨rfl,rfl⟩
 | .iptr _ _,_=>⟨rfl,rfl⟩
 | .lst _ _,_=>⟨rfl,rfl⟩
theorem Zd3 (ρ:Rho):∀ (xs:List AVal),ZaB xs=true->Zo ρ xs=xs/\Zx xs=[]
 | [],_=>⟨rfl,rfl⟩
 | x::xs,h=>by
  simp only [ZaB,Xi] at h
  have h1:=ZdJ ρ x h.1
  have h2:=Zd3 ρ xs h.2
  exact ⟨by simp only [Zo,h1.1,h2.1],by simp only [Zx,h1.2,h2.2,XA]⟩
end
theorem Zr9 {σ:Za} {r:AVal} (h:Zac r=true):Zaw 0 σ r=some (r,[]):=by
 have h1:=ZdJ (Ze σ 0 []) r h
 have hids:Zn 0 [r] σ=[]:=by
  unfold Zn
  simp only [Zx,h1.2,XA,List.range_zero,X7]
  rfl
 unfold Zaw gcA
 simp only [hids,Zo,Zg,h1.1]
def ZbS:AVal->AVal
 | .tup vs=>.tup (vs.map ZV)
 | x=>ZV x
def ZbO:AVal->Bool
 | .tup vs=>vs.all Z6
 | x=>Z6 x
def Zbo:AVal->Bool
 | .fn _ _=>false
 | _=>true
def Zbs:AVal->Bool
 | .agg cs=>cs.all Zbo
 | x=>Zbo x
def ZbR:AVal->Bool
 | .tup vs=>vs.all Zbs
 | x=>Zbs x
theorem Zpu {k g n:Nat} {xs:List AVal} {σ:Za} {t:Nat} (hs:σ[t]?=some (.row g k xs)) (hn:n<=xs.length):ZcE 0 (some (.sl t g 0 n,σ))=some (.lst false (xs.take n),[]):=by
 have hv:viewR σ (.sl t g 0 n)=some (.lst false (xs.take n),[t]):=by
  simp only [viewR,ZbI,Za0,Zag,hs,XC,hn,and_self,if_true,List.drop_zero]
 have e:ZcE 0 (some (.sl t g 0 n,σ))=(match viewR σ (.sl t g 0 n) with
  | some (r',ts)=>match gcA 0 [r'] (Zt σ ts) with
   | ([r''],σ')=>some (r'',σ')
   | _=>none
  | none=>none):=rfl
 rw [e,hv]
 exact Zr9 rfl
theorem ZHi {m:Nat} {fn:ZN} {tm:Tms} {σ:Za}:ZaC m fn (some (.ret,tm,σ))=match resA tm σ fn.res with
  | some r=>Zaw m σ r
  | none=>none:=rfl
theorem ZMl {m:Nat} {fn:ZN} {tm:Tms} {σ:Za}:ZaC m fn (some (.normal,tm,σ))=match resA tm σ fn.res with
  | some r=>Zaw m σ r
  | none=>none:=rfl
theorem ZA8 {m:Nat} {fn:ZN} {tm:Tms} {σ:Za} {x:AVal}:ZaC m fn (some (.panic x,tm,σ))=Zaw m σ (.pan x):=rfl
theorem ZHh  : Zac (.top)=true:=rfl
theorem ZKF  : Zac (.any)=true:=rfl
theorem Zvh (k:IntKind) (n:Int):Zac (.int k n)=true:=rfl
theorem ZDb (b:Bool):Zac (.bool b)=true:=rfl
theorem ZxB (l:List UInt8):Zac (.str l)=true:=rfl
theorem ZKH  : Zac (.nilp)=true:=rfl
theorem ZFu (t:Nat) (o:Nat):Zac (.ref t o)=false:=rfl
theorem Zze (t:Nat) (g:Nat) (i:Nat) (o:Nat):Zac (.eref t g i o)=false:=rfl
theorem ZwN (cs:List AVal) (o:Nat):Zac (.iptr cs o)=true:=rfl
theorem ZDX (x:Bool) (xs:List AVal):Zac (.lst x xs)=true:=rfl
theorem ZGD (t:Nat) (g:Nat) (lo:Nat) (n:Nat):Zac (.sl t g lo n)=false:=rfl
theorem ZvF (cs:List AVal):Zac (.agg cs)=ZaB cs:=rfl
theorem ZE9 (vs:List AVal):Zac (.tup vs)=ZaB vs:=rfl
theorem ZF3 (f:Nat) (caps:List AVal):Zac (.fn f caps)=ZaB caps:=rfl
theorem ZEg  : Zac (.nilm)=true:=rfl
theorem ZJS (t:Nat):Zac (.map t)=false:=rfl
theorem Zvg (t j o:Nat):Zac (.nref t j o)=false:=rfl
theorem ZMq (t j:Nat) (nx:Bool):Zac (.mapg t j nx)=false:=by cases nx <;> rfl
theorem Zvz  : Zac (.nili)=true:=rfl
theorem ZFr (t:Nat) (x:AVal):Zac (.iface t x)=Zac x:=rfl
theorem ZID (x:AVal):Zac (.pan x)=Zac x:=rfl
theorem ZEz  : Zbo (.top)=true:=rfl
theorem ZxC  : Zbo (.any)=true:=rfl
theorem Zxu (k:IntKind) (n:Int):Zbo (.int k n)=true:=rfl
theorem ZB7 (b:Bool):Zbo (.bool b)=true:=rfl
theorem ZMv (l:List UInt8):Zbo (.str l)=true:=rfl
theorem ZHy  : Zbo (.nilp)=true:=rfl
theorem ZDA (t:Nat) (o:Nat):Zbo (.ref t o)=true:=rfl
theorem ZG5 (t:Nat) (g:Nat) (i:Nat) (o:Nat):Zbo (.eref t g i o)=true:=rfl
theorem ZG6 (cs:List AVal) (o:Nat):Zbo (.iptr cs o)=true:=rfl
theorem ZMu (x:Bool) (xs:List AVal):Zbo (.lst x xs)=true:=rfl
theorem ZE3 (t:Nat) (g:Nat) (lo:Nat) (n:Nat):Zbo (.sl t g lo n)=true:=rfl
theorem ZDk (cs:List AVal):Zbo (.agg cs)=true:=rfl
theorem ZI2 (vs:List AVal):Zbo (.tup vs)=true:=rfl
theorem ZDo (f:Nat) (caps:List AVal):Zbo (.fn f caps)=false:=rfl
theorem Zzw  : Zbo (.nilm)=true:=rfl
theorem ZKW (t:Nat):Zbo (.map t)=true:=rfl
theorem ZCP (t j o:Nat):Zbo (.nref t j o)=true:=rfl
theorem ZDP (t j:Nat) (nx:Bool):Zbo (.mapg t j nx)=true:=by cases nx <;> rfl
theorem ZBo  : Zbo (.nili)=true:=rfl
theorem ZG8 (t:Nat) (x:AVal):Zbo (.iface t x)=true:=rfl
theorem ZHk (x:AVal):Zbo (.pan x)=true:=rfl
theorem ZL3  : Zbs (.top)=true:=rfl
theorem ZGh  : Zbs (.any)=true:=rfl
theorem ZBn (k:IntKind) (n:Int):Zbs (.int k n)=true:=rfl
theorem Zyu (b:Bool):Zbs (.bool b)=true:=rfl
theorem ZA5 (l:List UInt8):Zbs (.str l)=true:=rfl
theorem ZA9  : Zbs (.nilp)=true:=rfl
theorem Zxm (t:Nat) (o:Nat):Zbs (.ref t o)=true:=rfl
theorem ZKj (t:Nat) (g:Nat) (i:Nat) (o:Nat):Zbs (.eref t g i o)=true:=rfl
theorem Zwu (cs:List AVal) (o:Nat):Zbs (.iptr cs o)=true:=rfl
theorem ZFT (x:Bool) (xs:List AVal):Zbs (.lst x xs)=true:=rfl
theorem ZLv (t:Nat) (g:Nat) (lo:Nat) (n:Nat):Zbs (.sl t g lo n)=true:=rfl
theorem ZKT (cs:List AVal):Zbs (.agg cs)=cs.all Zbo:=rfl
theorem ZAf (vs:List AVal):Zbs (.tup vs)=true:=rfl
theorem ZvV (f:Nat) (caps:List AVal):Zbs (.fn f caps)=false:=rfl
theorem ZIv  : Zbs (.nilm)=true:=rfl
theorem ZAi (t:Nat):Zbs (.map t)=true:=rfl
theorem ZEN (t j o:Nat):Zbs (.nref t j o)=true:=rfl
theorem ZLX (t j:Nat) (nx:Bool):Zbs (.mapg t j nx)=true:=by cases nx <;> rfl
theorem ZFD  : Zbs (.nili)=true:=rfl
theorem ZvW (t:Nat) (x:AVal):Zbs (.iface t x)=true:=rfl
theorem ZBq (x:AVal):Zbs (.pan x)=true:=rfl
theorem ZL6  : ZbR (.top)=true:=rfl
theorem ZJo  : ZbR (.any)=true:=rfl
theorem ZF6 (k:IntKind) (n:Int):ZbR (.int k n)=true:=rfl
theorem ZCt (b:Bool):ZbR (.bool b)=true:=rfl
theorem ZEl (l:List UInt8):ZbR (.str l)=true:=rfl
theorem ZE1  : ZbR (.nilp)=true:=rfl
theorem ZEw (t:Nat) (o:Nat):ZbR (.ref t o)=true:=rfl
theorem ZzE (t:Nat) (g:Nat) (i:Nat) (o:Nat):ZbR (.eref t g i o)=true:=rfl
theorem ZDI (cs:List AVal) (o:Nat):ZbR (.iptr cs o)=true:=rfl
theorem ZCr (x:Bool) (xs:List AVal):ZbR (.lst x xs)=true:=rfl
theorem ZDU (t:Nat) (g:Nat) (lo:Nat) (n:Nat):ZbR (.sl t g lo n)=true:=rfl
theorem ZxX (cs:List AVal):ZbR (.agg cs)=cs.all Zbo:=rfl
theorem Zy2 (vs:List AVal):ZbR (.tup vs)=vs.all Zbs:=rfl
theorem ZLk (f:Nat) (caps:List AVal):ZbR (.fn f caps)=false:=rfl
theorem ZyB  : ZbR (.nilm)=true:=rfl
theorem Zxw (t:Nat):ZbR (.map t)=true:=rfl
theorem Zzj (t j o:Nat):ZbR (.nref t j o)=true:=rfl
theorem ZGd (t j:Nat) (nx:Bool):ZbR (.mapg t j nx)=true:=by cases nx <;> rfl
theorem ZAP  : ZbR (.nili)=true:=rfl
theorem ZLf (t:Nat) (x:AVal):ZbR (.iface t x)=true:=rfl
theorem ZxF (x:AVal):ZbR (.pan x)=true:=rfl
theorem ZvL  : ZbO (.top)=false:=rfl
theorem ZKX  : ZbO (.any)=false:=rfl
theorem ZIj (k:IntKind) (n:Int):ZbO (.int k n)=true:=rfl
theorem ZCZ (b:Bool):ZbO (.bool b)=true:=rfl
theorem ZBg (l:List UInt8):ZbO (.str l)=true:=rfl
theorem ZMo  : ZbO (.nilp)=true:=rfl
theorem ZAN (t:Nat) (o:Nat):ZbO (.ref t o)=false:=rfl
theorem ZHR (t:Nat) (g:Nat) (i:Nat) (o:Nat):ZbO (.eref t g i o)=false:=rfl
theorem ZGf (cs:List AVal) (o:Nat):ZbO (.iptr cs o)=false:=rfl
theorem ZMK (x:Bool) (xs:List AVal):ZbO (.lst x xs)=true:=rfl
theorem ZFZ (t:Nat) (g:Nat) (lo:Nat) (n:Nat):ZbO (.sl t g lo n)=false:=rfl
theorem ZGK (cs:List AVal):ZbO (.agg cs)=cs.all Zan:=rfl
theorem ZLM (vs:List AVal):ZbO (.tup vs)=vs.all Z6:=rfl
theorem ZDM  : ZbO (.nilm)=true:=rfl
theorem ZvS (t:Nat):ZbO (.map t)=false:=rfl
theorem Zy9 (t j o:Nat):ZbO (.nref t j o)=false:=rfl
theorem ZMF (t j:Nat) (nx:Bool):ZbO (.mapg t j nx)=false:=by cases nx <;> rfl
theorem ZHY  : ZbO (.nili)=true:=rfl
theorem Zxo (t:Nat) (x:AVal):ZbO (.iface t x)=false:=rfl
theorem ZDz (x:AVal):ZbO (.pan x)=false:=rfl
theorem Zxy  : ZbS (.top)=(.top):=rfl
theorem ZLA  : ZbS (.any)=(.any):=rfl
theorem ZxJ (k:IntKind) (n:Int):ZbS (.int k n)=(.int k n):=rfl
theorem ZLW (b:Bool):ZbS (.bool b)=(.bool b):=rfl
theorem ZxW (l:List UInt8):ZbS (.str l)=(.str l):=rfl
theorem ZI8  : ZbS (.nilp)=(.nilp):=rfl
theorem ZMk (t:Nat) (o:Nat):ZbS (.ref t o)=(.ref t o):=rfl
theorem Zx7 (t:Nat) (g:Nat) (i:Nat) (o:Nat):ZbS (.eref t g i o)=(.eref t g i o):=rfl
theorem ZC7 (cs:List AVal) (o:Nat):ZbS (.iptr cs o)=(.iptr cs o):=rfl
theorem Zv0 (x:Bool) (xs:List AVal):ZbS (.lst x xs)=.lst false xs:=rfl
theorem ZGm (t:Nat) (g:Nat) (lo:Nat) (n:Nat):ZbS (.sl t g lo n)=(.sl t g lo n):=rfl
theorem ZHt (cs:List AVal):ZbS (.agg cs)=.agg (cs.map ZaJ):=rfl
theorem ZEh (vs:List AVal):ZbS (.tup vs)=.tup (vs.map ZV):=rfl
theorem ZL5 (f:Nat) (caps:List AVal):ZbS (.fn f caps)=(.fn f caps):=rfl
theorem Zyp  : ZbS (.nilm)=(.nilm):=rfl
theorem ZBe (t:Nat):ZbS (.map t)=(.map t):=rfl
theorem ZJc (t j o:Nat):ZbS (.nref t j o)=(.nref t j o):=rfl
theorem ZCT (t j:Nat) (nx:Bool):ZbS (.mapg t j nx)=(.mapg t j nx):=by cases nx <;> rfl
theorem ZGb  : ZbS (.nili)=(.nili):=rfl
theorem ZMh (t:Nat) (x:AVal):ZbS (.iface t x)=(.iface t x):=rfl
theorem ZL7 (x:AVal):ZbS (.pan x)=(.pan x):=rfl
theorem ZCy:ZaB []=true:=rfl
theorem ZBG (x:AVal) (xs:List AVal):ZaB (x::xs)=(Zac x && ZaB xs):=rfl
theorem ZvU (f:Nat):ZbO (.fn f [])=true:=rfl
theorem ZMS (p q:Bool):(if p=true then q else false)=(p && q):=by cases p <;> rfl
theorem ZLZ (p q:Bool):(if p=true then true else q)=(p || q):=by cases p <;> rfl
theorem Zwj (p q:Bool):(if p=true then false else q)=(!p && q):=by cases p <;> rfl
theorem Zx2 (p q:Bool):(if p=true then q else true)=(!p || q):=by cases p <;> rfl
theorem ZMB (p q:Bool):(if p=false then q else false)=(!p && q):=by cases p <;> rfl
theorem Zvu (p q:Bool):(if p=false then true else q)=(!p || q):=by cases p <;> rfl
theorem ZEO (p q:Bool):(if p=false then false else q)=(p && q):=by cases p <;> rfl
theorem Zxd (p q:Bool):(if p=false then q else true)=(p || q):=by cases p <;> rfl
section
def Zca (o:AOp):AOp:=⟨o.dst,o.ins,o.guard,[]⟩
def ZbT:Zd->Zd
 | .region ops chk live=>.region (ops.map Zca) chk live
 | .seq a b=>.seq (ZbT a) (ZbT b)
 | .cond c a b=>.cond c (ZbT a) (ZbT b)
 | .block id c=>.block id (ZbT c)
 | .loop live c=>.loop live (ZbT c)
 | .range pre live ms en b1 bg ent body rest=>.range (pre.map Zca) live ms en b1 bg (ent.map Zca) (ZbT body) (ZbT rest)
 | .skip=>.skip
 | .exit id=>.exit id
 | .ret=>.ret
 | .stuck=>.stuck
def Zj5 (f:ZN):ZN:=⟨f.res,ZbT f.body⟩
section
variable {O:ZG} {bf:Nat->Bool}
theorem Zyd (o:AOp) (s:Nat) (tm:Tms) (σ:Za):Zw O bf (Zca o) s tm σ=Zw O bf o s tm σ:=rfl
theorem Zoc:∀ (ops:List AOp) (s:Nat) (tm:Tms) (σ:Za),ZI O bf (ops.map Zca) s tm σ=ZI O bf ops s tm σ
 | [],_,_,_=>rfl
 | o::os,s,tm,σ=>by
  simp only [Xx,ZI,Zyd]
  split
  ·rfl
  ·rfl
  ·rename_i tm' σ' c _ _
   rw [show (Zca o).ins=o.ins from rfl,Zoc os]
theorem ZmA (ops:List AOp):sitesOf (ops.map Zca)=sitesOf ops:=by
 simp [sitesOf,Zca,Xbw]
theorem Zj6 (ops:List AOp) (i:Nat):((ops.map Zca).getD i default).ins=(ops.getD i default).ins:=by
 simp only [Xf,XM]
 cases ops[i]? <;> rfl
theorem ZCA (ops:List AOp) (b:Nat) (l:List (Nat×Nat)) (cs:List Cls):Zc1 (ops.map Zca) b l cs=Zc1 ops b l cs:=by
 unfold Zc1
 congr 1
 funext p
 unfold Zcj Zb5
 rw [Zj6,Zj6,<-XbM,ZmA]
theorem ZLe (ops:List AOp) (b:Nat) (l:List (Nat×Nat)) (cs:List Cls):ZgV (ops.map Zca) b l cs=ZgV ops b l cs:=by
 unfold ZgV
 congr 2
 funext p
 unfold Zcj Zb5
 rw [Zj6,Zj6,<-XbM,ZmA]
theorem ZBd (ops:List AOp) (chk:Option (List (Nat×Nat))) (live:List Nat) (tm:Tms) (σ:Za):Zcg O bf (ops.map Zca) chk live tm σ=Zcg O bf ops chk live tm σ:=by
 unfold Zcg
 rw [Zoc,ZmA]
 cases ZI O bf ops σ.length tm (σ++Xq (sitesOf ops) .free) with
 | none=>rfl
 | some q =>
  obtain ⟨tm',σ',cs,p⟩:=q
  cases p with
  | some x =>
   cases chk with
   | none=>rfl
   | some l=>simp only [Zdz,ZLe]
  | none =>
   cases chk with
   | none=>rfl
   | some l=>simp only [Zdz,ZCA]
theorem ZuF (ops:List AOp) (tm:Tms) (σ:Za):ZaU bf (ops.map Zca) tm σ=ZaU bf ops tm σ:=by
 unfold ZaU;rw [Zoc]
section
variable {m:Nat} {live:List Nat} {ms en b1:Nat} {bg:Bool} {ent:List AOp} {run fin:Nat->Tms->Za->Option (ZA×Tms×Za)}
theorem Zr5:ZaE bf ms en b1 bg (ent.map Zca) run=ZaE bf ms en b1 bg ent run:=by
 funext t B kv tm σ
 unfold ZaE
 rw [ZuF]
theorem ZsM (es:List (AVal×AVal)):∀ (l:List (AVal×AVal)) (tm:Tms) (σ:Za),ZaT bf m live ms en b1 bg (ent.map Zca) run es l tm σ=ZaT bf m live ms en b1 bg ent run es l tm σ
 | [],_,_=>rfl
 | kv::l,tm,σ=>by
  simp only [ZaT,Zr5]
  split
  ·split
   ·split
    ·exact ZsM es l _ _
    ·rfl
   ·rfl
  ·rfl
theorem ZHd (tm:Tms) (σ:Za):Zb1 bf m live ms en b1 bg (ent.map Zca) run fin tm σ=Zb1 bf m live ms en b1 bg ent run fin tm σ:=by
 have h:Zbi bf m live ms en b1 bg (ent.map Zca) run fin=Zbi bf m live ms en b1 bg ent run fin:=by
  funext es l tm σ
  unfold Zbi
  rw [ZsM]
 have h2:ZfG bf m live ms en b1 bg (ent.map Zca) run fin=ZfG bf m live ms en b1 bg ent run fin:=by
  funext es tm σ
  unfold ZfG
  rw [h]
 unfold Zb1
 rw [h2,Zr5]
end
theorem Zeo (n:Nat):∀ (c:Zd) (m:Nat),Zz O bf m n (ZbT c)=Zz O bf m n c
 | .region ops chk live,m=>by funext tm σ;simp only [ZbT,Zz,ZBd]
 | .seq a b,m=>by funext tm σ;simp only [ZbT,Zz,Zeo n a,Zeo n b]
 | .cond c a b,m=>by funext tm σ;simp only [ZbT,Zz,Zeo n a,Zeo n b]
 | .block id c,m=>by funext tm σ;simp only [ZbT,Zz,Zeo n c]
 | .loop live c,m=>by funext tm σ;simp only [ZbT,Zz,Zeo n c]
 | .range pre live ms en b1 bg ent body rest,m=>by funext tm σ;simp only [ZbT,Zz,ZuF,ZHd,Zeo n body,Zeo n rest]
 | .skip,m=>by funext tm σ;simp only [ZbT]
 | .exit id,m=>by funext tm σ;simp only [ZbT]
 | .ret,m=>by funext tm σ;simp only [ZbT]
 | .stuck,m=>by funext tm σ;simp only [ZbT]
end
theorem Ztr (fs:Nat->Option ZN) (prim:Zdh) (bf:Nat->Bool):∀ n,Z8 (fun f=>(fs f).map Zj5) prim bf n=Z8 fs prim bf n
 | 0=>rfl
 | n+1=>by
  funext f args σ
  simp only [Z8,Ztr fs prim bf n]
  cases prim f with
  | some g=>rfl
  | none =>
   cases fs f with
   | none=>rfl
   | some fn =>
    simp only [XQ,Zj5,Zeo]
    rfl
theorem ZIm (fs:Nat->Option ZN) (prim:Zdh) (bf:Nat->Bool):EV (fun f=>(fs f).map Zj5) prim bf=EV fs prim bf:=by
 funext f args σ
 apply Zer
 intro r
 rw [Zce,Zce]
 simp only [Ztr]
end
end
section
open Go.RowKit
def Zms (args:List AVal) (σ:Za):Option (AVal×Za):=match args with
 | [.str l]=>some (.bool (Lib.validD l),σ)
 | _=>none
def Zkv (args:List AVal) (σ:Za):Option (AVal×Za):=match args with
 | [.str l,.int .u8 c]=>some (.int .i64 (Lib.indexByte l c.toNat.toUInt8),σ)
 | _=>none
def ZlF (args:List AVal) (σ:Za):Option (AVal×Za):=match args with
 | [.str l,.str [c]]=>some (.int .i64 (Lib.countByte l c),σ)
 | _=>none
section
variable {P:Program} {base:Nat->Prop} {w0 w w':World} {I0 I:Imm} {β:Bmap} {σ:Za}
theorem ZmO {f:Nat} (hf:∃ fn,P.funcs[f]?=some fn/\fn.body.isSome=true/\(fn.name == "runtime.NumGoroutine")=false) {args:List AVal} {r:AVal} {u:Value} (hn:∀ x,r≠.pan x) (hr:∀ I β,VR I β r u)
  (h:∀ base w0 I0 I β w (vs:Array Value),Rel base w0 I0 I β σ w->VRs I β args vs.toList->Calls P f vs w (fun e w'=>e=.returned u/\Below w.heap.size w w')) :
  (∃ fn,P.funcs[f]?=some fn/\fn.body.isSome=true/\(fn.name == "runtime.NumGoroutine")=false) /\
  ∀ base w0 I0 I β w (vs:Array Value),KLt base w0->Rel base w0 I0 I β σ w->VRs I β args vs.toList ->
   Calls P f vs w (fun e w'=>∃ u,Ends r e u/\ZbY σ.length base w0 I0 I β r σ u w'):=by
 refine ⟨hf,fun base w0 I0 I β w vs hb R hv=>(h base w0 I0 I β w vs R hv).mono ?_⟩
 rintro e w' ⟨rfl,hB⟩
 have hbw:=R.base_le hb
 refine ⟨u,?_,I,β,Imm.le.refl I,KeptE.refl _ β,R.stay (Imm.le.refl I) ⟨hB.os,hB.tape,hB.output,hB.size,fun k hk=>hB.block k (hbw k hk)⟩ (fun _ _ _=>rfl) ?_ ?_,by rw [Zf0 hn];exact hr I β⟩
 ·cases r <;> first | rfl | exact absurd rfl (hn _)
 ·intro b o x hx
  have h1:=R.imm b o x hx
  have hlt:=Zc8 h1
  rw [<-h1]
  simp only [World.cell?,hB.block b hlt]
 ·intro t x b hx hb'
  exact ⟨hB.block b ((R.blk t x hx).owns_lt hb'),(R.own t x b hx hb').2⟩
theorem Zrq {f:Nat} (hf:∃ fn,P.funcs[f]?=some fn/\fn.body.isSome=true/\(fn.name == "runtime.NumGoroutine")=false)
  (hc:∀ (s:ByteArray) (c:Int) (w:World),Calls P f #[.string s,.int .u8 c] w fun e w'=>e=.returned (.int .i64 (Lib.indexByte s.data.toList c.toNat.toUInt8))/\w'=w) {args:List AVal} {σ σ':Za} {r:AVal} (h:Zkv args σ=some (r,σ')) :
  (∃ fn,P.funcs[f]?=some fn/\fn.body.isSome=true/\(fn.name == "runtime.NumGoroutine")=false) /\
  ∀ base w0 I0 I β w (vs:Array Value),KLt base w0->Rel base w0 I0 I β σ w->VRs I β args vs.toList ->
   Calls P f vs w (fun e w'=>∃ u,Ends r e u/\ZbY σ.length base w0 I0 I β r σ' u w'):=by
 unfold Zkv at h
 split at h
 case h_2=>cases h
 rename_i l c
 simp only [Xa,Xb] at h
 obtain ⟨rfl,rfl⟩:=h
 refine ZmO hf (u:=.int .i64 (Lib.indexByte l c.toNat.toUInt8)) (by simp) (fun _ _=>by simp only [VR]) ?_
 intro base w0 I0 I β w vs R hv
 obtain ⟨vs⟩:=vs
 simp only [VRs,VR] at hv
 obtain ⟨v1,r1,e1,⟨rfl,_⟩,v2,r2,rfl,rfl,rfl⟩:=hv
 subst e1
 refine (hc ⟨l.toArray⟩ c w).mono ?_
 rintro e w' ⟨rfl,rfl⟩
 exact ⟨by simp,Below.refl _ _⟩
theorem ZHu {f:Nat} (hf:∃ fn,P.funcs[f]?=some fn/\fn.body.isSome=true/\(fn.name == "runtime.NumGoroutine")=false)
  (hc:∀ (s:ByteArray) (c:UInt8) (w:World),Calls P f #[.string s,.string ⟨#[c]⟩] w fun e w'=>e=.returned (.int .i64 (Lib.countByte s.data.toList c))/\w'=w) {args:List AVal} {σ σ':Za} {r:AVal} (h:ZlF args σ=some (r,σ')) :
  (∃ fn,P.funcs[f]?=some fn/\fn.body.isSome=true/\(fn.name == "runtime.NumGoroutine")=false) /\
  ∀ base w0 I0 I β w (vs:Array Value),KLt base w0->Rel base w0 I0 I β σ w->VRs I β args vs.toList ->
   Calls P f vs w (fun e w'=>∃ u,Ends r e u/\ZbY σ.length base w0 I0 I β r σ' u w'):=by
 unfold ZlF at h
 split at h
 case h_2=>cases h
 rename_i l c
 simp only [Xa,Xb] at h
 obtain ⟨rfl,rfl⟩:=h
 refine ZmO hf (u:=.int .i64 (Lib.countByte l c)) (by simp) (fun _ _=>by simp only [VR]) ?_
 intro base w0 I0 I β w vs R hv
 obtain ⟨vs⟩:=vs
 simp only [VRs,VR] at hv
 obtain ⟨v1,r1,e1,⟨rfl,_⟩,v2,r2,rfl,⟨rfl,_⟩,rfl⟩:=hv
 subst e1
 refine (hc ⟨l.toArray⟩ c w).mono ?_
 rintro e w' ⟨rfl,rfl⟩
 exact ⟨by simp,Below.refl _ _⟩
theorem ZAH (R:Rel base w0 I0 I β σ w):Lib.Utf8Tabs 0 1 w:=by
 refine ⟨fun c hc=>R.imm _ _ _ (R.glob _ _ _ (by simp [Gl,hc])),fun i hi=>⟨R.imm _ _ _ (R.glob _ _ _ ?_),R.imm _ _ _ (R.glob _ _ _ ?_)⟩⟩
 ·have h1:2*i < 32:=by omega
  have h2:2*i % 2=0:=by omega
  have h3:2*i / 2=i:=by omega
  simp [Gl,h1,h3]
 ·have h1:2*i+1 < 32:=by omega
  have h2:(2*i+1) % 2=1:=by omega
  have h3:(2*i+1) / 2=i:=by omega
  simp [Gl,h1,h2,h3]
theorem ZwW {f:Nat} (hf:∃ fn,P.funcs[f]?=some fn/\fn.body.isSome=true/\(fn.name == "runtime.NumGoroutine")=false)
  (hc:∀ (s:ByteArray) (w:World),s.size<=9223372036854775807->Lib.Utf8Tabs 0 1 w->Calls P f #[.string s] w fun e w'=>e=.returned (.bool (Lib.validD s.data.toList))/\Below w.heap.size w w') {args:List AVal} {σ σ':Za} {r:AVal} (h:Zms args σ=some (r,σ')) :
  (∃ fn,P.funcs[f]?=some fn/\fn.body.isSome=true/\(fn.name == "runtime.NumGoroutine")=false) /\
  ∀ base w0 I0 I β w (vs:Array Value),KLt base w0->Rel base w0 I0 I β σ w->VRs I β args vs.toList ->
   Calls P f vs w (fun e w'=>∃ u,Ends r e u/\ZbY σ.length base w0 I0 I β r σ' u w'):=by
 unfold Zms at h
 split at h
 case h_2=>cases h
 rename_i l
 simp only [Xa,Xb] at h
 obtain ⟨rfl,rfl⟩:=h
 refine ZmO hf (u:=.bool (Lib.validD l)) (by simp) (fun _ _=>by simp only [VR]) ?_
 intro base w0 I0 I β w vs R hv
 obtain ⟨vs⟩:=vs
 simp only [VRs,VR] at hv
 obtain ⟨v1,r1,e1,⟨rfl,hl⟩,rfl⟩:=hv
 subst e1
 refine (hc ⟨l.toArray⟩ w (by simpa [WT] using hl) (ZAH R)).mono ?_
 rintro e w' ⟨rfl,hB⟩
 exact ⟨by simp,hB⟩
end
end
section
open Go.RowKit Go.Sort
def Zb4 {α:Type} (g:AVal->Option α):List AVal->Option (List α)
 | []=>some []
 | x::r=>match g x with
  | some a=>(Zb4 g r).map (a::·)
  | none=>none
section
variable {P:Program} {base:Nat->Prop} {w0 w w':World} {I0 I:Imm} {β:Bmap} {σ:Za}
theorem Rel.putAt (R:Rel base w0 I0 I β σ w) (hbl:KLt base w) {t b:Nat} {x x':Zk} (ht:σ[t]?=some x) (hx:Zj w β t x b) (hx':∀ b',Zj w' β t x' b'->b'=b) (hg:Zb x'=Zb x)
  (hos:w'.os=w.os) (hta:w'.tape=w.tape) (hou:w'.output=w.output) (hs:w.heap.size<=w'.heap.size) (hh:∀ k,k≠b->k < w.heap.size->w'.heap[k]?=w.heap[k]?) (hblk:BR I β w' t x') (hnf:x'≠.free:=by simp) (hns:∀ b',¬Zaa β t x' b':=by intro b h;cases h) :
  Rel base w0 I0 I β (σ.set t x') w':=by
 have hsl:t < σ.length:=(Xd.1 ht).1
 have ho:=R.own t x b ht hx
 refine R.upd (Imm.le.refl I) (Bmap.le.refl β) ⟨hos,hta,hou,hs,fun k hk=>hh k (by rintro rfl;exact ho.1 hk) (hbl k hk)⟩ (fun _ _ _=>rfl) ?_ t x' rfl hsl (fun _ _ _=>rfl) ?_ hblk ?_ ?_ ?_ (fun b h=>absurd h (hns b))
 ·intro b' o u h
  have hne:b'≠b:=by rintro rfl;rw [ho.2 o] at h;cases h
  have h1:=R.imm b' o u h
  have hlt:=Zc8 h1
  rw [<-h1]
  simp only [World.cell?,hh b' hne hlt]
 ·intro t' y b' hne hy hb'
  have hbb:b'≠b:=by rintro rfl;exact hne (R.apart t' y t x b' hy ht hb' hx)
  exact ⟨hh b' hbb ((R.blk t' y hy).owns_lt hb'),(R.own t' y b' hy hb').2,fun e=>hbb (hx' _ e)⟩
 ·intro b' e
  obtain rfl:=hx' _ e
  exact ho
 ·intro g hlt
  exact R.gen t x g ht (by rw [<-hg];exact hlt)
 ·rintro rfl
  exact hnf rfl
theorem Zr6 {α:Type} {g:AVal->Option α}:∀ {xs:List AVal} {zs:List α},Zb4 g xs=some zs->zs.length=xs.length
 | [],zs,h=>by simp only [Zb4,Xa] at h;subst h;rfl
 | x::xs,zs,h=>by
  simp only [Zb4] at h
  split at h
  ·simp only [Xh] at h
   obtain ⟨zs',h,rfl⟩:=h
   simp [Zr6 h]
  ·cases h
end
end
section
open Go.RowKit Go.Sort
def leC {κ:Type} (cf:κ->κ->Int) (x y:κ):Bool:=!decide (cf y x < 0)
def ZfM {κ:Type} (le:κ->κ->Bool):List κ->List κ
 | []=>[]
 | [a]=>[a]
 | l=>l.mergeSort le
theorem ZeM {κ:Type} (le:κ->κ->Bool):∀ l:List κ,ZfM le l=l.mergeSort le
 | []=>by simp [ZfM]
 | [a]=>by simp [ZfM]
 | _::_::_=>rfl
def ZdD {κ:Type} [DecidableEq κ] (cf:κ->κ->Int) (xs:List AVal) (ks:List κ):List AVal:=(ZfM (leC cf) ks).map fun a=>((ks.zip xs).lookup a).getD .nilp
def Ze3 {κ:Type} [DecidableEq κ] (k f:Nat) (key:AVal->Option κ) (cf:κ->κ->Int) (args:List AVal) (σ:Za):Option (AVal×Za):=match args,σ with
 | [.sl 0 0 0 n,.fn f' []],[.row 0 k' xs]=>match Zb4 key xs with
  | some ks=>if n=xs.length/\n < 4611686018427387904/\k'=k/\f'=f/\ks.Nodup then some (.tup [],[.row 0 k (ZdD cf xs ks)]) else none
  | none=>none
 | [.lst b [],.fn f' []],[]=>some (.tup [],[])
 | _,_=>none
section
variable {P:Program} {base:Nat->Prop} {w0 w w':World} {I0 I:Imm} {β:Bmap} {σ:Za}
theorem ZpY {k:Nat}:∀ {xs:List AVal} {vs:List Value},(∀ x ∈ xs,x.cells.length=k)->VRs I β (xs.flatMap AVal.cells) vs->∃ VS:List (List Value),vs=VS.flatten/\VS.length=xs.length/\(∀ l ∈ VS,l.length=k)/\∀ (i:Nat) (x:AVal),xs[i]?=some x->∃ l,VS[i]?=some l/\VRs I β x.cells l
 | [],vs,_,h=>by
  simp only [X7,VRs] at h
  subst h
  exact ⟨[],rfl,rfl,by simp,by simp⟩
 | x::xs,vs,hk,h=>by
  rw [XI] at h
  have hl:=Z1 h
  have h1:=ZdN h x.cells.length
  have h2:=Zd5 h x.cells.length
  rw [List.take_left] at h1
  rw [List.drop_left] at h2
  obtain ⟨VS,e1,e2,e3,e4⟩:=ZpY (fun y hy=>hk y (by simp [hy])) h2
  refine ⟨vs.take x.cells.length::VS,by rw [Xbx,<-e1,Xba],by simp [e2],?_,?_⟩
  ·intro l hl'
   rcases XB.1 hl' with rfl | hl'
   ·rw [<-Z1 h1];exact hk x (by simp)
   ·exact e3 l hl'
  ·intro i y hy
   cases i with
   | zero=>simp only [XG,Xa] at hy;subst hy;exact ⟨_,rfl,h1⟩
   | succ i=>simp only [XS] at hy ⊢;exact e4 i y hy
theorem Zf6 {κ β':Type} [DecidableEq κ]:∀ {ks:List κ} {ys:List β'} {i:Nat} {a:κ} {y:β'},ks.Nodup->ks[i]?=some a->ys[i]?=some y->(ks.zip ys).lookup a=some y
 | [],ys,i,a,y,_,h,_=>by simp at h
 | b::ks,[],i,a,y,_,_,h=>by simp at h
 | b::ks,z::ys,0,a,y,_,h,h'=>by
  simp only [XG,Xa] at h h'
  subst h h'
  simp []
 | b::ks,z::ys,i+1,a,y,hn,h,h'=>by
  simp only [XS] at h h'
  obtain ⟨n1,n2⟩:=X1.1 hn
  have hne:a≠b:=by rintro rfl;exact n1 (Xu h)
  rw [X5,XaV]
  have : (a == b)=false:=by simpa using hne
  rw [this]
  exact Zf6 n2 h h'
theorem Zum {k:Nat}:∀ {L:List (List Value)} {i c:Nat},(∀ l ∈ L,l.length=k)->c < k->(L.flatten)[i*k+c]?=(L[i]?).bind (·[c]?)
 | [],i,c,_,_=>by simp
 | l::L,0,c,h,hc=>by
  have:=h l (by simp)
  rw [Xbp,XC,Xbx,List.getElem?_append_left (by omega)]
  rfl
 | l::L,i+1,c,h,hc=>by
  have hl:=h l (by simp)
  rw [Xbx,List.getElem?_append_right (by rw [hl,XbE];omega)]
  have : (i+1)*k+c - l.length=i*k+c:=by rw [hl,XbE];omega
  rw [this,Zum (fun m hm=>h m (by simp [hm])) hc]
  rfl
theorem ZpO {α:Type} [Inhabited α] {enc:α->List Value} {k:Nat} (hk:∀ x,(enc x).length=k) (hk0:0 < k) (d:List α):(flatK enc k d.toArray).toList=d.flatMap enc:=by
 have hL:∀ l ∈ d.map enc,l.length=k:=fun l hl=>by obtain ⟨a,_,rfl⟩:=Xv.1 hl;exact hk a
 apply Wl
 intro t
 rw [List.flatMap_def]
 have e:t=t / k*k+t % k:=by rw [Nat.mul_comm];exact (Nat.div_add_mod t k).symm
 have hm:=Nat.mod_lt t hk0
 have h2:((d.map enc).flatten)[t]?=((d.map enc)[t / k]?).bind (·[t % k]?):=by
  have:=Zum (i:=t / k) (c:=t % k) hL hm
  rwa [<-e] at this
 rw [h2]
 by_cases ht:t < d.length*k
 ·have hi:t / k < d.length:=Nat.div_lt_of_lt_mul (by rwa [Nat.mul_comm] at ht)
  have hz:(flatK enc k d.toArray).size=d.length*k:=by rw [size_flatK];rfl
  have hg:=get_flatK enc k d.toArray t (by simpa using ht)
  rw [WQ,Xap (by rw [hz];exact ht)]
  rw [getElem!_pos _ t (by rw [hz];exact ht)] at hg
  rw [hg,XM,Xl hi]
  have e2:(d.toArray[t / k]!)=d[t / k]:=by simp [hi]
  rw [e2]
  simp only [XQ,XK]
  have hl:=hk d[t / k]
  rw [getElem!_pos _ _ (by omega),Xl (by omega)]
 ·have hd:d.length<=t / k:=(Nat.le_div_iff_mul_le hk0).2 (by omega)
  rw [XN (by rw [XR,size_flatK];simpa using ht),XN (by simpa using hd)]
  rfl
theorem ZtN {α:Type} {g:AVal->Option α}:∀ {xs:List AVal} {zs:List α} {i:Nat} {x:AVal},Zb4 g xs=some zs->xs[i]?=some x->∃ a,zs[i]?=some a/\g x=some a
 | [],zs,i,x,_,hx=>by simp at hx
 | y::xs,zs,i,x,h,hx=>by
  simp only [Zb4] at h
  split at h
  ·rename_i a ha
   simp only [Xh] at h
   obtain ⟨zs',h,rfl⟩:=h
   cases i with
   | zero=>simp only [XG,Xa] at hx;subst hx;exact ⟨a,rfl,ha⟩
   | succ i=>simp only [XS] at hx ⊢;exact ZtN h hx
  ·cases h
theorem ZwX {κ:Type} [DecidableEq κ] [Inhabited κ] {k g f:Nat} {key:AVal->Option κ} {cf:κ->κ->Int} {pre:κ->List Value} {m:Nat} (hf:∃ fn,P.funcs[f]?=some fn/\fn.body.isSome=true/\(fn.name == "runtime.NumGoroutine")=false)
  (hm:m<=k) (hk0:0 < k) (hg0:g < 1000000) (hpre:∀ a,(pre a).length=m/\∀ v ∈ pre a,v.oneCell'=true)
  (hkey:∀ {I:Imm} {β:Bmap} (x:AVal) (a:κ) (l:List Value),key x=some a->VRs I β x.cells l->∃ t,l=pre a++t)
  (hcmp:∀ (a b:κ) (us vs:List Value) (W:World),m+us.length=k->m+vs.length=k->Calls P g #[.agg (pre a++us).toArray,.agg (pre b++vs).toArray] W fun e w'=>e=.returned (.int .i64 (cf a b))/\∃ q os',w'=grow (W.drewN q) os')
  (hsort:∀ (enc:κ->List Value),(∀ x,(enc x).length=k)->(∀ x,∀ v ∈ enc x,v.oneCell'=true)->∀ (blk off cap:Nat) (d:Array κ) (w:World),CmpLays P g #[] enc k cf blk off d.size w->HoldsK enc k w blk off d->blk < w.heap.size->d.size < 4611686018427387904 ->
   Calls P f #[.slice (some ⟨blk,off,none⟩) d.size cap,.func (.func g) #[] #[]] w fun e w'=>e=.returned (.tuple #[])/\∃ n os,w'=sortWorldK enc k w blk off n (d.toList.mergeSort (leC cf)).toArray os)
  (hnone:∀ (p:Option Addr) (cap:Nat) (fv:Value) (w:World),Calls P f #[.slice p 0 cap,fv] w fun e w'=>e=.returned (.tuple #[])/\w'=w)
  {args:List AVal} {σ σ':Za} {r:AVal} (hp:Ze3 k g key cf args σ=some (r,σ')) :
  (∃ fn,P.funcs[f]?=some fn/\fn.body.isSome=true/\(fn.name == "runtime.NumGoroutine")=false) /\
  ∀ base w0 I0 I β w (vs:Array Value),KLt base w0->Rel base w0 I0 I β σ w->VRs I β args vs.toList ->
   Calls P f vs w (fun e w'=>∃ u,Ends r e u/\ZbY σ.length base w0 I0 I β r σ' u w'):=by
 refine ⟨hf,fun base w0 I0 I β w vs hb R hv=>?_⟩
 unfold Ze3 at hp
 obtain ⟨vs⟩:=vs
 split at hp
 ·rename_i n f' k' xs
  split at hp
  case h_2=>cases hp
  rename_i ks hz
  split at hp
  case isFalse=>cases hp
  rename_i hn
  obtain ⟨rfl,hn,rfl,rfl,hnd⟩:=hn
  simp only [Xa,Xb] at hp
  obtain ⟨rfl,rfl⟩:=hp
  simp only [VRs] at hv
  obtain ⟨v,vs',rfl,hv,fv,vs'',rfl,hfv,rfl⟩:=hv
  have hfv':fv=.func (.func f') #[] #[]:=by
   simp only [VR,if_pos hg0,VRs] at hfv
   obtain ⟨fs,us,rfl,rfl,h⟩:=hfv
   have : us=#[]:=by
    have:=congrArg List.length h
    simp at this
    exact this
   rw [this]
  subst hfv'
  have hzl:=Zr6 hz
  have hB:=R.blk 0 _ rfl
  obtain ⟨bi,e1,e2,e3,e4,e5,e6,e7,e8⟩:=hB
  rw [Zcl] at hv
  obtain ⟨bi',f1,f2,f3,f4⟩:=hv
  rw [e1] at f1
  injection f1 with f1
  subst f1
  rcases f4 with ⟨b,hb',rfl⟩ | ⟨hbn,hc0,A,rfl⟩
  ·rcases e8 with ⟨e8,_⟩ | ⟨b2,us,ty,q1,q2,q3,q4⟩
   ·rw [e8] at hb';cases hb'
   rw [hb'] at q1;injection q1 with q1;subst q1
   obtain ⟨VS,v1,v2,v3,v4⟩:=ZpY e7 q4
   let enc:κ->List Value:=fun a=>((ks.zip VS).lookup a).getD (pre a++Xq (k' - m) (.int .i64 0))
   have hmem:∀ a l,(ks.zip VS).lookup a=some l->l ∈ VS/\∃ (i:Nat) (x:AVal),xs[i]?=some x/\ks[i]?=some a/\VS[i]?=some l:=by
    have key:∀ (ks:List κ) (VS:List (List Value)) a l,(ks.zip VS).lookup a=some l->∃ i:Nat,ks[i]?=some a/\VS[i]?=some l:=by
     intro ks
     induction ks with
     | nil=>intro VS a l h;simp at h
     | cons b ks ih =>
      intro VS a l h
      cases VS with
      | nil=>simp at h
      | cons y VS =>
       rw [X5,XaV] at h
       by_cases e:a=b
       ·subst e;simp only [beq_self_eq_true,Xa] at h;subst h;exact ⟨0,rfl,rfl⟩
       ·have : (a == b)=false:=by simpa using e
        rw [this] at h
        obtain ⟨i,h1,h2⟩:=ih VS a l h
        exact ⟨i+1,by simpa using h1,by simpa using h2⟩
    intro a l h
    obtain ⟨i,h1,h2⟩:=key ks VS a l h
    have hi:i < xs.length:=by have:=(Xd.1 h2).1;omega
    exact ⟨Xu h2,i,xs[i],Xl hi,h1,h2⟩
   have henc:∀ a,(∃ (i:Nat) (x:AVal),xs[i]?=some x/\ks[i]?=some a/\VS[i]?=some (enc a)/\(ks.zip VS).lookup a=some (enc a))\/enc a=pre a++Xq (k' - m) (.int .i64 0):=by
    intro a
    cases h:(ks.zip VS).lookup a with
    | none=>exact Xr (by simp only [enc,h];rfl)
    | some l =>
     obtain ⟨_,i,x,h1,h2,h3⟩:=hmem a l h
     refine Xm ⟨i,x,h1,h2,?_,?_⟩ <;> simp only [enc,h,Ww] <;> assumption
   have hpr:∀ a,∃ t,enc a=pre a++t:=by
    intro a
    rcases henc a with ⟨i,x,h1,h2,h3,_⟩ | h
    ·obtain ⟨a',k1,k2⟩:=ZtN hz h1
     rw [h2] at k1;injection k1 with k1;subst k1
     obtain ⟨l,l1,l2⟩:=v4 i x h1
     rw [h3] at l1;injection l1 with l1;subst l1
     exact hkey x _ _ k2 l2
    ·exact ⟨_,h⟩
   have hk:∀ a,(enc a).length=k':=by
    intro a
    rcases henc a with ⟨i,x,h1,h2,h3,_⟩ | h
    ·exact v3 _ (Xu h3)
    ·rw [h,Xy,(hpre a).1,List.length_replicate];omega
   have h1c:∀ a,∀ v ∈ enc a,v.oneCell'=true:=by
    intro a v hv
    rcases henc a with ⟨i,x,h1,h2,h3,_⟩ | h
    ·obtain ⟨l,l1,l2⟩:=v4 i x h1
     rw [h3] at l1;injection l1 with l1;subst l1
     refine Zgt (fun c hc=>?_) l2 v hv
     have:=(Zb9.1 e6) x (Xu h1)
     exact ZjD ((ZcC.1 this) c hc)
    ·rw [h] at hv
     rcases Xt.1 hv with hv | hv
     ·exact (hpre a).2 v hv
     ·rw [List.mem_replicate] at hv;rw [hv.2];rfl
   have hall:ks.map enc=VS:=by
    apply Wl
    intro i
    rw [XM]
    by_cases hi:i < xs.length
    ·obtain ⟨a,ha⟩:∃ a,ks[i]?=some a:=⟨_,Xl (by omega)⟩
     obtain ⟨l,hl⟩:∃ l,VS[i]?=some l:=⟨_,Xl (by omega)⟩
     rw [ha,hl,XQ]
     congr 1
     simp only [enc,Zf6 hnd ha hl,Ww]
    ·rw [XN (by omega),XN (by omega)];rfl
   have hflat:(flatK enc k' ks.toArray).toList=us.toList.take (xs.length*k'):=by
    rw [ZpO hk hk0,List.flatMap_def,hall,<-v1]
   have hH:HoldsK enc k' w b 0 ks.toArray:=by
    intro j hj
    refine ⟨?_,by simp [World.frozen?,q2]⟩
    have hj':j < ks.length*k':=by simpa using hj
    rw [hzl] at hj'
    have h1:(us.toList.take (xs.length*k'))[j]?=(flatK enc k' ks.toArray).toList[j]?:=by rw [hflat]
    rw [List.getElem?_take_of_lt hj'] at h1
    simp only [World.cell?,q2,XC]
    simp only [Option.isSome_none,Xg,if_false]
    rw [<-WQ,h1,WQ,Xap hj]
    have e:=getElem!_pos (flatK enc k' ks.toArray) j hj
    rw [e];rfl
   have hlt:b < w.heap.size:=(Xw.1 q2).1
   have hcl:CmpLays P f' #[] enc k' cf b 0 ks.toArray.size w:=by
    intro q os dk _ x y
    obtain ⟨t1,ht1⟩:=hpr x
    obtain ⟨t2,ht2⟩:=hpr y
    have l1:=hk x
    have l2:=hk y
    rw [ht1,Xy,(hpre x).1] at l1
    rw [ht2,Xy,(hpre y).1] at l2
    rw [ht1,ht2]
    simpa using hcmp x y t1 t2 _ l1 l2
   have hS:=hsort enc hk h1c b 0 bi.cap ks.toArray w hcl hH hlt (by simp;omega)
   rw [show ks.toArray.size=xs.length by simp [hzl]] at hS
   refine hS.mono ?_
   rintro e w' ⟨rfl,nn,os,rfl⟩
   simp only [] at *
   have hml:(ks.mergeSort (leC cf)).length=ks.length:=List.length_mergeSort ks
   unfold sortWorldK putRowK
   have hsz:(flatK enc k' (ks.mergeSort (leC cf)).toArray).size=xs.length*k':=by rw [size_flatK];simp [hml,hzl]
   have hcap:xs.length*k'<=us.size:=by rw [q3];exact Nat.mul_le_mul_right k' e5
   generalize hfl:flatK enc k' (ks.mergeSort (leC cf)).toArray=FL at *
   have hfll:FL.toList=(ks.mergeSort (leC cf)).flatMap enc:=by rw [<-hfl,ZpO hk hk0]
   have hheap:(grow (putRow id (Sort.ahead w nn) b 0 FL) os).heap[b]?=some (.cells (putCells id 0 FL us) ty (0,0)):=by
    rw [heap_grow_old _ _ (by simpa using hlt)]
    simp [putRow,mapBlock,Sort.ahead,Xan,q2,onCells]
   have htake:(putCells id 0 FL us).toList.take (xs.length*k')=(ks.mergeSort (leC cf)).flatMap enc:=by
    rw [<-hfll]
    apply Wl
    intro j
    by_cases hj:j < xs.length*k'
    ·rw [List.getElem?_take_of_lt hj,WQ,WQ]
     have hj2:j < us.size:=by omega
     have hj3:j < FL.size:=by omega
     simp [putCells,hj2,hj3]
    ·rw [List.getElem?_take_eq_none (by omega),XN (by simp;omega)]
   have hperm:∀ a,a ∈ ks.mergeSort (leC cf)->a ∈ ks:=fun a ha=>(XaY ks _).mem_iff.1 ha
   have hown:Zj w β 0 (.row 0 k' xs) b:=by simp [Zj,e1,hb']
   have hlk:∀ a ∈ ks,∃ x ∈ xs,((ks.zip xs).lookup a).getD .nilp=x/\VRs I β x.cells (enc a):=by
    intro a ha
    obtain ⟨i,hi⟩:=WP.1 ha
    have hix:i < xs.length:=by have:=(Xd.1 hi).1;omega
    obtain ⟨x,hx⟩:∃ x,xs[i]?=some x:=⟨_,Xl hix⟩
    obtain ⟨l,l1,l2⟩:=v4 i x hx
    refine ⟨x,Xu hx,by rw [Zf6 hnd hi hx];rfl,?_⟩
    simp only [enc,Zf6 hnd hi l1,Ww]
    exact l2
   refine ⟨.tuple #[],rfl,I,β,Imm.le.refl I,KeptE.refl _ β,?_,by simp [Zao,VR,VRs]⟩
   have:=R.putAt (R.base_le hb) (t:=0) (b:=b) (x:=.row 0 k' xs) (x':=.row 0 k' (ZdD cf xs ks)) (w':=grow (putRow id (Sort.ahead w nn) b 0 FL) os) rfl hown (by simp [Zj,e1,hb']) rfl rfl rfl rfl (by simp) (fun c hc hcl=>by
    rw [heap_grow_old _ _ (by simpa using hcl)]
    have : b≠c:=fun e=>hc e.symm
    simp [putRow,mapBlock,Sort.ahead,Xan,this])
    ⟨bi,e1,e2,hk0,e4,by simp only [ZdD,ZeM,Wd,hml];omega,?_,?_,Xr ⟨b,_,ty,hb',hheap,by simp [putCells];omega,?_⟩⟩
   ·exact this
   ·rw [Zb9]
    intro x hx
    obtain ⟨a,ha,rfl⟩:=Xv.1 hx
    rw [ZeM] at ha
    obtain ⟨y,hy,e,_⟩:=hlk a (hperm a ha)
    rw [e]
    exact (Zb9.1 e6) y hy
   ·intro x hx
    obtain ⟨a,ha,rfl⟩:=Xv.1 hx
    rw [ZeM] at ha
    obtain ⟨y,hy,e,_⟩:=hlk a (hperm a ha)
    rw [e]
    exact e7 y hy
   ·have e9:(ZdD cf xs ks).length=xs.length:=by simp only [ZdD,ZeM,Wd,hml];omega
    rw [e9,htake]
    unfold ZdD
    rw [ZeM]
    have key:∀ l:List κ,(∀ a ∈ l,a ∈ ks)->VRs I β ((l.map fun a=>((ks.zip xs).lookup a).getD .nilp).flatMap AVal.cells) (l.flatMap enc):=by
     intro l
     induction l with
     | nil=>intro _;simp [VRs]
     | cons a l ih =>
      intro hl
      rw [Xx,XI,XI]
      obtain ⟨y,hy,e,h⟩:=hlk a (hl a (by simp))
      rw [e]
      exact ZbP h (ih fun c hc=>hl c (by simp [hc]))
    exact key _ hperm
  ·have hx0:xs=[]:=XX (by omega)
   subst hx0
   simp only [Zb4,Xa] at hz
   subst hz
   refine (hnone A 0 _ w).mono ?_
   rintro e w' ⟨rfl,rfl⟩
   exact ⟨.tuple #[],rfl,I,β,Imm.le.refl I,KeptE.refl _ β,by simpa [ZdD,ZfM] using R,by simp [Zao,VR,VRs]⟩
 ·simp only [Xa,Xb] at hp
  obtain ⟨rfl,rfl⟩:=hp
  simp only [VRs] at hv
  obtain ⟨v,vs',rfl,hv,fv,vs'',rfl,hfv,rfl⟩:=hv
  simp only [VR] at hv
  obtain ⟨A,cap,rfl,_⟩:=hv
  refine (hnone A cap fv w).mono ?_
  rintro e w' ⟨rfl,rfl⟩
  exact ⟨.tuple #[],rfl,I,β,Imm.le.refl I,KeptE.refl _ β,R,by simp [Zao,VR,VRs]⟩
 ·cases hp
end
end
section
open Go.RowKit Go.Sort Go.Lib
def Zcu (a b:List UInt8):Int:=if a < b then -1 else if b < a then 1 else 0
def ZaD (x y:List UInt8×List UInt8):Int:=if Zcu x.1 y.1≠0 then Zcu x.1 y.1 else Zcu x.2 y.2
def lt2 (x y:List UInt8×List UInt8):Prop:=x.1 < y.1\/x.1=y.1/\x.2 < y.2
theorem Zqo (a b:List UInt8):Zcu a b < 0↔a < b:=by
 unfold Zcu;split
 ·simp [*]
 ·split <;> simp [*]
theorem ZqQ (a b:List UInt8):Zcu a b=0↔a=b:=by
 unfold Zcu
 constructor
 ·intro h
  split at h
  ·cases h
  ·rename_i h1
   split at h
   ·cases h
   ·rename_i h2
    exact Xbf (XaZ.1 h2) (XaZ.1 h1)
 ·rintro rfl
  simp [Xbs]
theorem Zea (x y:List UInt8×List UInt8):ZaD x y < 0↔lt2 x y:=by
 unfold ZaD lt2
 by_cases h:Zcu x.1 y.1=0
 ·have e:=(ZqQ _ _).1 h
  rw [if_neg (by simp [h]),Zqo]
  constructor
  ·exact fun h'=>Xr ⟨e,h'⟩
  ·rintro (h' | ⟨_,h'⟩)
   ·rw [e] at h';exact absurd h' (Xbs _)
   ·exact h'
 ·rw [if_pos h,Zqo]
  constructor
  ·exact Xm
  ·rintro (h' | ⟨e,_⟩)
   ·exact h'
   ·exact absurd ((ZqQ _ _).2 e) h
theorem Zev {x y z:List UInt8×List UInt8} (h:lt2 x y) (h':lt2 y z):lt2 x z:=by
 unfold lt2 at *
 rcases h with h | ⟨e,h⟩ <;> rcases h' with h' | ⟨e',h'⟩
 ·exact Xm (List.lt_trans h h')
 ·exact Xm (e' ▸ h)
 ·exact Xm (e ▸ h')
 ·exact Xr ⟨e.trans e',List.lt_trans h h'⟩
theorem ZdV (x:List UInt8×List UInt8):¬lt2 x x:=by
 rintro (h | ⟨_,h⟩) <;> exact Xbs _ h
theorem ZdS {x y:List UInt8×List UInt8} (h:¬lt2 x y) (h':¬lt2 y x):x=y:=by
 unfold lt2 at *
 have e1:x.1=y.1:=Xbf (XaZ.1 fun h2=>h' (Xm h2)) (XaZ.1 fun h2=>h (Xm h2))
 have e2:x.2=y.2:=Xbf (XaZ.1 fun h2=>h' (Xr ⟨e1.symm,h2⟩)) (XaZ.1 fun h2=>h (Xr ⟨e1,h2⟩))
 exact Prod.ext e1 e2
instance:DecidableRel lt2:=fun x y=>by unfold lt2;infer_instance
theorem ZjS (x y:List UInt8×List UInt8):ltOf ZaD x y=decide (lt2 x y):=by
 unfold ltOf
 by_cases h:lt2 x y
 ·rw [decide_eq_true ((Zea x y).2 h),decide_eq_true h]
 ·rw [decide_eq_false (fun h'=>h ((Zea x y).1 h')),decide_eq_false h]
theorem ZK6:SWO (ltOf ZaD) where
 irrefl x:=by rw [ZjS];simpa using ZdV x
 trans x y z h1 h2:=by
  rw [ZjS] at *
  simp only [decide_eq_true_eq] at *
  exact Zev h1 h2
 ntrans x y z h1 h2:=by
  rw [ZjS] at *
  simp only [decide_eq_false_iff_not] at *
  intro h
  by_cases e:lt2 y x
  ·exact h2 (by
    by_cases e2:lt2 z y
    ·exact absurd (Zev (Zev h e2) e) (ZdV _)
    ·by_cases e3:lt2 y z
     ·exact e3
     ·have:=ZdS e2 e3;subst this;exact absurd (Zev h e) (ZdV _))
  ·have:=ZdS h1 e;subst this;exact h2 h
theorem ZGt (x y:List UInt8×List UInt8) (h1:ltOf ZaD x y=false) (h2:ltOf ZaD y x=false):x=y:=by
 rw [ZjS] at *
 simp only [decide_eq_false_iff_not] at *
 exact ZdS h1 h2
def Zc2:AVal->Option (List UInt8×List UInt8)
 | .agg (.str a::.str b::_)=>some (a,b)
 | _=>none
end
section
open Go.RowKit Go.Sort
theorem Zqw {x y:List UInt8×List UInt8} (h:lt2 x y):leC ZaD x y=true:=by
 unfold leC
 have : ¬lt2 y x:=fun h'=>ZdV _ (Zev h h')
 simp only [Zea,this,decide_false,Bool.not_false]
theorem Zkb {x y:List UInt8×List UInt8} (h:leC ZaD x y=true):¬lt2 y x:=by
 unfold leC at h
 simpa only [Zea,We,decide_eq_false_iff_not] using h
theorem ZsY (a b c:List UInt8×List UInt8) (h1:leC ZaD a b=true) (h2:leC ZaD b c=true):leC ZaD a c=true:=by
 have h1:=Zkb h1
 have h2:=Zkb h2
 by_cases e:lt2 a c
 ·exact Zqw e
 ·by_cases e2:lt2 c a
  ·exfalso
   by_cases e3:lt2 a b
   ·exact h2 (Zev e2 e3)
   ·have:=ZdS e3 h1;subst this;exact h2 e2
  ·have:=ZdS e e2;subst this
   unfold leC;simp [Zea,ZdV]
theorem Ztg (a b:List UInt8×List UInt8):(leC ZaD a b || leC ZaD b a)=true:=by
 by_cases e:lt2 a b
 ·simp [Zqw e]
 ·have : leC ZaD b a=true:=by unfold leC;simp [Zea,e]
  simp [this]
theorem Zx8 {a b:List (List UInt8×List UInt8)} (h:a.Perm b):ZfM (leC ZaD) a=ZfM (leC ZaD) b:=by
 rw [ZeM,ZeM]
 exact (((XaY _ _).trans h).trans (XaY _ _).symm).eq_of_pairwise (fun a b _ _ h1 h2=>ZdS (Zkb h2) (Zkb h1)) (Xa2 ZsY Ztg a) (Xa2 ZsY Ztg b)
theorem Zf9 {α:Type} {g:AVal->Option α}:∀ {xs:List AVal} {ks:List α},Zb4 g xs=some ks↔xs.map g=ks.map some
 | [],ks=>by
  simp only [Zb4,Xa,XW]
  constructor
  ·rintro rfl;rfl
  ·intro h;exact (List.map_eq_nil_iff.1 h.symm).symm
 | x::r,ks=>by
  simp only [Zb4,Xx]
  cases hx:g x with
  | none =>
   simp only
   constructor
   ·intro h;cases h
   ·intro h;cases ks <;> simp at h
  | some a =>
   simp only [Xh]
   constructor
   ·rintro ⟨l,h,rfl⟩
    rw [Zf9.1 h];rfl
   ·intro h
    cases ks with
    | nil=>simp at h
    | cons b l =>
     simp only [Xx,WJ,Xa] at h
     obtain ⟨rfl,h⟩:=h
     exact ⟨l,Zf9.2 h,rfl⟩
theorem Zsb {α:Type}:∀ ks:List α,(ks.map some).filterMap id=ks
 | []=>rfl
 | a::ks=>by
  simp only [Xx,Wu,id_eq]
  rw [Zsb ks]
theorem ZrK {α:Type} {g:AVal->Option α} {xs ys:List AVal} {ks:List α} (hp:xs.Perm ys) (h:Zb4 g xs=some ks):∃ ls,Zb4 g ys=some ls/\ks.Perm ls:=by
 have h1:=Zf9.1 h
 have h2:(ys.map g).Perm (ks.map some):=by rw [<-h1];exact (hp.map g).symm
 refine ⟨(ys.map g).filterMap id,Zf9.2 ?_,?_⟩
 ·have : ∀ o ∈ ys.map g,o.isSome=true:=fun o ho=>by
   obtain ⟨a,_,rfl⟩:=Xv.1 (h2.mem_iff.1 ho)
   rfl
  generalize ys.map g=L at this
  induction L with
  | nil=>rfl
  | cons o L ih =>
   cases o with
   | none=>have:=this none (by simp);cases this
   | some a =>
    simp only [Wu,id_eq,Xx]
    rw [<-ih (fun o ho=>this o (by simp [ho]))]
 ·have:=h2.filterMap id
  rw [Zsb ks] at this
  exact this.symm
def ZeZ (xs:List AVal):Option (List AVal):=match Zb4 Zc2 xs with
 | some ks=>if ks.Nodup then some (ZdD ZaD xs ks) else none
 | none=>none
theorem Zrt {κ:Type} [DecidableEq κ] {g:AVal->Option κ} {xs:List AVal} {ks:List κ} (h:Zb4 g xs=some ks) (hn:ks.Nodup) {x:AVal} {a:κ} (hx:x ∈ xs) (ha:g x=some a):(ks.zip xs).lookup a=some x:=by
 obtain ⟨i,hi⟩:=WP.1 hx
 have h1:=Zf9.1 h
 have h2:ks[i]?=some a:=by
  have h3:(ks.map some)[i]?=some (some a):=by rw [<-h1,XM,hi,XQ,ha]
  rw [XM,Xh] at h3
  obtain ⟨b,h4,h5⟩:=h3
  injection h5 with h5
  rw [h4,h5]
 exact Zf6 hn h2 hi
theorem ZCo {xs ys:List AVal} (hp:xs.Perm ys):ZeZ xs=ZeZ ys:=by
 unfold ZeZ
 cases hx:Zb4 Zc2 xs with
 | none =>
  cases hy:Zb4 Zc2 ys with
  | none=>rfl
  | some ls =>
   obtain ⟨ks,h,_⟩:=ZrK hp.symm hy
   rw [hx] at h;cases h
 | some ks =>
  obtain ⟨ls,hy,hkl⟩:=ZrK hp hx
  rw [hy]
  simp only
  by_cases hn:ks.Nodup
  ·have hn':ls.Nodup:=hkl.nodup_iff.1 hn
   rw [if_pos hn,if_pos hn']
   congr 1
   unfold ZdD
   rw [Zx8 hkl]
   apply List.map_congr_left
   intro a ha
   rw [ZeM,List.mem_mergeSort] at ha
   have ha':some a ∈ ys.map Zc2:=by rw [Zf9.1 hy];exact Xv.2 ⟨a,ha,rfl⟩
   obtain ⟨y,hy1,hy2⟩:=Xv.1 ha'
   rw [Zrt hy hn' hy1 hy2,Zrt hx hn (hp.mem_iff.2 hy1) hy2]
  ·rw [if_neg hn,if_neg (fun h=>hn (hkl.nodup_iff.2 h))]
def Zuc (q:Bag):Option (List AVal):=Quot.lift ZeZ (fun _ _ h=>ZCo h) q
def ZfN (f:Nat) (args:List AVal) (σ:Za):Option (AVal×Za):=match args,σ with
 | [.sl 0 0 0 n,.fn f' []],[.bag 0 k' q]=>match Zuc q with
  | some L=>if n=Zy q/\n < 4611686018427387904/\k'=3/\f'=f then some (.tup [],[.row 0 3 L]) else none
  | none=>none
 | a,s=>Ze3 3 f Zc2 ZaD a s
theorem ZrL {f n f' k':Nat} {xs:List AVal} {r:AVal} {σ':Za} (h:ZfN f [.sl 0 0 0 n,.fn f' []] [.bag 0 k' (Quot.mk _ xs)]=some (r,σ')):Ze3 3 f Zc2 ZaD [.sl 0 0 0 n,.fn f' []] [.row 0 k' xs]=some (r,σ'):=by
 simp only [ZfN] at h
 split at h
 case h_2=>cases h
 rename_i L hL
 split at h
 case isFalse=>cases h
 rename_i hc
 obtain ⟨h1,h2,rfl,rfl⟩:=hc
 have hL:ZeZ xs=some L:=hL
 have h1:n=xs.length:=h1
 unfold ZeZ at hL
 split at hL
 case h_2=>cases hL
 rename_i ks hk
 split at hL
 case isFalse=>cases hL
 rename_i hn
 injection hL with hL
 subst hL
 simp only [Ze3,hk]
 rw [if_pos ⟨h1,h2,trivial,trivial,hn⟩]
 exact h
section
variable {P:Program} {base:Nat->Prop} {w0 w:World} {I0 I:Imm} {β:Bmap}
theorem ZMR {F f:Nat}
  (hrow:∀ {args:List AVal} {σ σ':Za} {r:AVal},Ze3 3 f Zc2 ZaD args σ=some (r,σ') ->
   (∃ fn,P.funcs[F]?=some fn/\fn.body.isSome=true/\(fn.name == "runtime.NumGoroutine")=false) /\
   ∀ base w0 I0 I β w (vs:Array Value),KLt base w0->Rel base w0 I0 I β σ w->VRs I β args vs.toList->Calls P F vs w (fun e w'=>∃ u,Ends r e u/\ZbY σ.length base w0 I0 I β r σ' u w'))
  {args:List AVal} {σ σ':Za} {r:AVal} (hp:ZfN f args σ=some (r,σ')) :
   (∃ fn,P.funcs[F]?=some fn/\fn.body.isSome=true/\(fn.name == "runtime.NumGoroutine")=false) /\
   ∀ base w0 I0 I β w (vs:Array Value),KLt base w0->Rel base w0 I0 I β σ w->VRs I β args vs.toList->Calls P F vs w (fun e w'=>∃ u,Ends r e u/\ZbY σ.length base w0 I0 I β r σ' u w'):=by
 by_cases hb:∃ n f' k' q,args=[.sl 0 0 0 n,.fn f' []]/\σ=[.bag 0 k' q]
 ·obtain ⟨n,f',k',q,rfl,rfl⟩:=hb
  obtain ⟨xs,rfl⟩:=Quot.exists_rep q
  refine ⟨(hrow (ZrL hp)).1,fun base w0 I0 I β w vs hK R hv=>?_⟩
  obtain ⟨ys,hq,R'⟩:=R.unbag (t:=0) rfl
  rw [<-hq] at hp
  exact (hrow (ZrL hp)).2 base w0 I0 I β w vs hK R' hv
 ·have : Ze3 3 f Zc2 ZaD args σ=some (r,σ'):=by
   rw [<-hp]
   unfold ZfN
   split
   ·exact absurd ⟨_,_,_,_,rfl,rfl⟩ hb
   ·rfl
  exact hrow this
end
end
section
def ZmV (args:List AVal) (σ:Za):Option (AVal×Za):=match args,σ with
 | [],[]=>some (.nref 0 0 0,[.arena [([],[])]])
 | _,_=>none
section
variable {base:Nat->Prop} {w0 w:World} {I0 I:Imm} {β:Bmap}
theorem Rel.arena1 (R:Rel base w0 I0 I β [.var [.map 1,.map 2],.map [],.map []] w):∃ β',Rel base w0 I0 I β' [.arena [([],[])]] w/\∀ v,VR I β (.ref 0 0) v->VR I β' (.nref 0 0 0) v:=by
 obtain ⟨bs,k0,c0,us,ty,h0,a1,a2⟩:=R.blk 0 _ rfl
 obtain ⟨bv,k1,c1,arr,clk,h1,b1,b2,b3,b4,b5⟩:=R.blk 1 _ rfl
 obtain ⟨bn,k2,c2,arr',clk',h2,d1,d2,d3,d4,d5⟩:=R.blk 2 _ rfl
 have o0:Zj w β 0 (.var [.map 1,.map 2]) bs:=by simp [Zj,h0]
 have o1:Zj w β 1 (.map []) bv:=by simp [Zj,h1]
 have o2:Zj w β 2 (.map []) bn:=by simp [Zj,h2]
 have n01:bs≠bv:=by rintro rfl;exact absurd (R.apart 0 _ 1 _ bs rfl rfl o0 o1) (by decide)
 have n02:bs≠bn:=by rintro rfl;exact absurd (R.apart 0 _ 2 _ bs rfl rfl o0 o2) (by decide)
 have n12:bv≠bn:=by rintro rfl;exact absurd (R.apart 1 _ 2 _ bv rfl rfl o1 o2) (by decide)
 let β':Bmap:=fun t g=>if t=0 then (if g=1001 then β 0 0 else if g=1002 then β 1 0 else if g=1003 then β 2 0 else none) else none
 have e0:β' 0 1001=some ⟨some bs,k0,c0⟩:=by show (if (0:Nat)=0 then _ else _)=_;simp [h0]
 have e1:β' 0 1002=some ⟨some bv,k1,c1⟩:=by show (if (0:Nat)=0 then _ else _)=_;simp [h1]
 have e2:β' 0 1003=some ⟨some bn,k2,c2⟩:=by show (if (0:Nat)=0 then _ else _)=_;simp [h2]
 have hg:∀ g,1001<=g->g < 1001+3*1->∃ b k c,β' 0 g=some ⟨some b,k,c⟩/\((g=1001/\b=bs)\/(g=1002/\b=bv)\/(g=1003/\b=bn)):=by
  intro g g1 g2
  have : g=1001\/g=1002\/g=1003:=by omega
  rcases this with rfl | rfl | rfl
  ·exact ⟨_,_,_,e0,Xm ⟨rfl,rfl⟩⟩
  ·exact ⟨_,_,_,e1,Xr (Xm ⟨rfl,rfl⟩)⟩
  ·exact ⟨_,_,_,e2,Xr (Xr ⟨rfl,rfl⟩)⟩
 have hown:∀ b,Za4 β' 0 [([],[])] b->b=bs\/b=bv\/b=bn:=by
  rintro b ⟨g,g1,g2,h⟩
  obtain ⟨b',k,c,e,hb⟩:=hg g g1 g2
  rw [e] at h
  simp only [XK,Xa] at h
  subst h
  rcases hb with ⟨_,h⟩ | ⟨_,h⟩ | ⟨_,h⟩
  ·exact Xm h
  ·exact Xr (Xm h)
  ·exact Xr (Xr h)
 have own:∀ b,Za4 β' 0 [([],[])] b->¬base b/\∀ o,I b o=none:=by
  intro b hb
  rcases hown b hb with rfl | rfl | rfl
  ·exact R.own 0 _ _ rfl o0
  ·exact R.own 1 _ _ rfl o1
  ·exact R.own 2 _ _ rfl o2
 have lk:∀ (t:Nat) (x:Zk),[Zk.arena [([],[])]][t]?=some x->t=0/\x=.arena [([],[])]:=by
  intro t x h
  cases t with
  | zero=>simp only [XG,Xa] at h;exact ⟨rfl,h.symm⟩
  | succ t=>simp at h
 have v2:us.toList=[.map (some bv),.map (some bn)]:=by
  simp only [VRs,VR] at a2
  obtain ⟨v,vs',e,⟨b,k,c,q1,rfl⟩,v',vs'',e',⟨b',k',c',q2,rfl⟩,rfl⟩:=a2
  rw [h1] at q1
  rw [h2] at q2
  simp only [Xa,BI.mk.injEq] at q1 q2
  rw [e,e',q1.1,q2.1]
 refine ⟨β',⟨R.below,R.old,R.imm,?_,?_,?_,?_,?_,?_,R.glob,?_⟩,?_⟩
 ·intro t x h
  obtain ⟨rfl,rfl⟩:=lk t x h
  refine ⟨fun i nd hi=>?_,fun g g' b a1 a2 a3 a4 h1 h2=>?_⟩
  ·cases i with
   | succ i=>simp at hi
   | zero =>
    simp only [XG,Xa] at hi
    subst hi
    simp only [XW,VRs] at b2 b3 d2 d3
    exact ⟨bs,k0,c0,us,ty,bv,k1,c1,arr,clk,bn,k2,c2,arr',clk',e0,e1,e2,⟨a1,v2⟩,⟨b1,by simpa only [XW,VRs] using b2,by simpa only [XW,VRs] using b3,(fun p hp=>absurd hp (by simp)),b5⟩,d1,by simpa only [XW,VRs] using d2,by simpa only [XW,VRs] using d3,(fun p hp=>absurd hp (by simp)),d5⟩
  ·obtain ⟨b1,_,_,q1,p1⟩:=hg g a1 a2
   obtain ⟨b2,_,_,q2,p2⟩:=hg g' a3 a4
   rw [q1] at h1;rw [q2] at h2
   simp only [XK,Xa] at h1 h2
   subst h1
   subst h2
   rcases p1 with ⟨rfl,r1⟩ | ⟨rfl,r1⟩ | ⟨rfl,r1⟩ <;> rcases p2 with ⟨rfl,r2⟩ | ⟨rfl,r2⟩ | ⟨rfl,r2⟩ <;> first
    | rfl
    | (exfalso;exact n01 (r1.symm.trans r2))
    | (exfalso;exact n01 (r2.symm.trans r1))
    | (exfalso;exact n02 (r1.symm.trans r2))
    | (exfalso;exact n02 (r2.symm.trans r1))
    | (exfalso;exact n12 (r1.symm.trans r2))
    | (exfalso;exact n12 (r2.symm.trans r1))
 ·intro t x b h hb
  obtain ⟨rfl,rfl⟩:=lk t x h
  exact own b hb
 ·intro t x t' x' b h h' _ _
  rw [(lk t x h).1,(lk t' x' h').1]
 ·intro t g h
  have ht:t≠0:=by rintro rfl;simp at h
  show (if t=0 then _ else none)=none
  rw [if_neg ht]
 ·intro t g h
  cases (lk t _ h).2
 ·intro t x g h hgt
  obtain ⟨rfl,rfl⟩:=lk t x h
  simp only [Zb,Wz] at hgt
  show (if (0:Nat)=0 then _ else none)=none
  rw [if_pos rfl,if_neg (by omega),if_neg (by omega),if_neg (by omega)]
 ·intro t x b h hs
  obtain ⟨rfl,rfl⟩:=lk t x h
  cases hs
 ·intro v hv
  simp only [VR] at hv ⊢
  obtain ⟨b,k,c,q1,q2⟩:=hv
  refine ⟨b,k,c,?_,q2⟩
  rw [h0] at q1
  rw [<-q1]
  exact e0
end
end
section
def ZdT {α:Type} (d:α):List (Nat×α)->Nat->α
 | [],_=>d
 | (k,v)::r,n=>if k=n then v else ZdT d r n
def ZP (own raw:List Nat) (cfg cfg2:List (Nat×Nat×Bool)) (lr ll:List (Nat×List Nat)):Ann:={ own:=fun n=>if own.contains n then 1 else if raw.contains n then 2 else if raw.contains (n+1000000) then 3 else if raw.contains (n+2000000) then 4 else if raw.contains (n+3000000) then 5 else if raw.contains (n+4000000) then 6 else if raw.contains (n+5000000) then 7 else 0,cfg:=ZdT (0,true) cfg,cfg2:=ZdT (0,true) cfg2,lr:=ZdT [] lr,ll:=ZdT [] ll }
def ZDR:List (Nat×Ann):=[
 (63,ZP [] [] [] [] [(0,[1,0]),(1,[4])] []),
 (20,ZP [] [] [] [] [(0,[1,0]),(1,[6,1,0]),(2,[6]),(3,[4])] []),
 (21,ZP [] [] [] [] [(0,[1,0]),(1,[7,6]),(2,[5,4])] []),
 (24,ZP [] [] [] [] [(0,[0]),(1,[2])] []),
 (15,ZP [] [] [(36,0,false)] [] [(0,[1,0]),(1,[5,1,0]),(5,[20,11,7,6,5,1]),(6,[11,5,1]),(7,[4])] [(3,[11,5,1])]),
 (14,ZP [] [] [] [] [(0,[2,1,0]),(1,[9,2,1,0]),(2,[6]),(3,[]),(4,[6])] []),
 (10,ZP [] [] [] [] [(0,[2,1,0]),(1,[7,0]),(2,[16,7,0]),(3,[7]),(4,[6])] []),
 (26,ZP [] [] [(42,0,false)] [] [(0,[2,1,0]),(1,[8,2,1,0]),(2,[9,8,2]),(3,[20,9,8,2]),(4,[7,6]),(5,[11,10]),(6,[7,6])] []),
 (12,ZP [] [] [] [] [(0,[0]),(1,[2])] []),
 (11,ZP [] [] [(34,1,false),(36,0,false)] [] [(0,[1,0]),(1,[8,1,0]),(2,[4]),(3,[5,1,0]),(4,[5]),(5,[4])] []),
 (35,ZP [] [] [] [] [(0,[])] []),
 (9,ZP [] [] [] [] [(0,[3,2,1,0]),(1,[11,3,2,1,0]),(2,[8]),(3,[21,0]),(4,[]),(5,[8])] []),
 (27,ZP [] [] [(43,1,false),(36,0,false)] [] [(0,[3,0]),(1,[5,3,0]),(2,[5]),(3,[4])] []),
 (44,ZP [] [] [] [] [(0,[10,4,2,1,0]),(1,[])] []),
 (43,ZP [] [5000017,5000032] [(43,1,false)] [] [(3,[13,2,1,0]),(7,[28,2,1])] [(1,[13,2,1,0]),(5,[28,2,1])]),
 (32,ZP [] [] [] [] [(0,[2,1,0]),(1,[12,2,1,0]),(2,[8,2,0]),(3,[8]),(4,[6]),(5,[9,2,1,0]),(6,[45,9,1,0]),(7,[6]),(8,[57,1,0]),(9,[]),(10,[6])] []),
 (42,ZP [] [] [] [] [(0,[1,0]),(1,[9,8,7,0]),(2,[10,9,8,7,0]),(3,[9,8,7,6,0]),(4,[9,8,7,0]),(5,[20,9,8,7,0]),(6,[4]),(7,[9,8,7,0]),(8,[4])] [(2,[9,8,7,0])]),
 (34,ZP [] [5000035,5000054] [(34,1,false)] [] [(0,[10,4,3,2,1,0]),(1,[27,10,4,3,2,1,0]),(5,[31,4,3,2,1,0]),(6,[46,4,3,2,1,0]),(10,[50,4,1]),(11,[15,4,3,2,1,0]),(12,[71,15,4,3,2,1,0]),(13,[4,3,2,1,0]),(14,[16,4,3,2,1]),(15,[92,16,4,2,1]),(16,[])] [(3,[31,4,3,2,1,0]),(8,[50,4,1])]),
 (30,ZP [] [] [(28,1,false)] [] [(0,[3,2,1,0]),(1,[15,14,13,3,2,0]),(2,[16,15,14,13,3,2,0]),(3,[15,14,13,10,3,2,0]),(4,[25,15,14,13,10,3,2,0]),(5,[15,14,13,10,3,2,0]),(6,[15,14,13,3,2,0]),(7,[15,14,13,3,2,0]),(8,[12,3,2,0]),(9,[12]),(10,[8])] [(2,[15,14,13,3,2,0])]),
 (51,ZP [] [] [] [] [(0,[1,0]),(1,[5,1,0]),(2,[6,5,1,0]),(3,[11,6,1,0]),(4,[12]),(5,[4]),(6,[4]),(7,[13,1,0]),(8,[4]),(9,[16,1,0]),(10,[4]),(11,[19]),(12,[4]),(13,[4])] []),
 (58,ZP [] [] [] [] [(0,[0]),(1,[2])] []),
 (86,ZP [] [] [] [] [(0,[1,0]),(1,[5,1,0]),(2,[16,5,1,0]),(3,[4]),(4,[24,5,1,0]),(5,[4]),(6,[31]),(7,[4]),(9,[4]),(10,[6,5,1,0]),(11,[7,6,5,1,0]),(12,[8,7,6,5,1,0]),(13,[9,8,7,6,5,1,0]),(14,[10,9,8,7,6,5,1,0]),(15,[59,10,9,8,7,6,5,1,0]),(16,[64,10,9,8,7,6,5,1,0]),(17,[11,10,8,7,5,1,0]),(18,[73,11,10,8,7,5,1,0]),(19,[4]),(20,[10,8,7,5,1,0]),(21,[93,10,8]),(22,[4]),(23,[10]),(24,[]),(26,[12,8]),(27,[114,12,8]),(28,[4]),(29,[4]),(31,[13,8]),(32,[139,13,8]),(33,[4]),(34,[4]),(35,[4])] [(15,[10,9,8,7,6,5,1,0])]),
 (57,ZP [] [] [] [] [(0,[0]),(1,[2]),(2,[2])] []),
 (76,ZP [] [] [] [] [(0,[2,0]),(1,[4,2,0]),(2,[0]),(3,[2,0]),(4,[8,2,0]),(5,[2,0]),(6,[2,0]),(7,[2])] []),
 (77,ZP [] [] [] [] [(0,[2,0]),(1,[4,2,0]),(2,[0]),(3,[2,0]),(4,[8,2,0]),(5,[2,0]),(6,[2,0]),(7,[14,2,0]),(8,[2,0]),(9,[2,0]),(10,[2])] []),
 (54,ZP [] [] [] [] [(0,[0]),(1,[6,0]),(2,[8,7,6,0]),(3,[6,4,0]),(4,[11,6,0]),(5,[2]),(6,[2])] [(2,[6,0])]),
 (45,ZP [] [] [] [] [(0,[1,0]),(1,[4])] []),
 (67,ZP [] [] [] [] [(0,[1,0]),(1,[4])] []),
 (53,ZP [] [] [] [] [(0,[1,0]),(1,[12,1,0]),(2,[4]),(3,[15,1,0]),(4,[5,0]),(5,[20,5,0]),(6,[5,0]),(7,[4]),(8,[26,1,0]),(9,[7,6,1,0]),(10,[32,6,1,0]),(11,[8,6,0]),(12,[36,8,6,0]),(13,[8,6,0]),(14,[42,8,6,0]),(15,[4]),(16,[4]),(17,[45,1]),(18,[47,46,45,1]),(19,[45,10,9,1]),(20,[53,45,9,1]),(21,[4]),(22,[4])] [(12,[8,6,0]),(18,[45,1])]),
 (60,ZP [] [] [] [] [(0,[1,0]),(1,[7,0]),(2,[8,7,0]),(3,[9,8,7,0]),(4,[9,8,7,0]),(5,[26,9,8,7,0]),(6,[33,9,8,7,0]),(7,[11,9,8,7,0]),(8,[43,11,9,8,7,0]),(9,[4]),(10,[9,8,7,0]),(11,[12,9,8,7,0]),(12,[51,12,9,8,7,0]),(13,[12,9,8,7,0]),(14,[64,12,9,8,7,0]),(15,[4]),(16,[10,9,8,7,0]),(17,[10,9,8,7,0]),(18,[98,9,8,7,0]),(19,[4]),(20,[13,9,8]),(21,[108,13,9,8]),(22,[4]),(23,[14,9,8,7,0]),(24,[15,14,9,8,7,0]),(25,[124,15,14,9,8,7,0]),(26,[15,14,9,8,7,0]),(27,[139,15,14,9,8,7,0]),(28,[16,15,14,9,8,7,0]),(29,[143,16,15,14,9,8,7,0]),(30,[16,15,14,9,8,7,0]),(31,[156,16,15,14,9,8,7,0]),(32,[4]),(33,[4]),(34,[160,1,0]),(35,[4]),(36,[171,1,0]),(37,[175]),(38,[177,176,175]),(39,[175,6,5]),(40,[181,175,5]),(41,[4]),(42,[4]),(43,[183,1,0]),(44,[4])] [(5,[9,8,7,0]),(12,[12,9,8,7,0]),(25,[15,14,9,8,7,0]),(29,[16,15,14,9,8,7,0]),(38,[175])]),
 (47,ZP [] [] [] [] [(0,[1,0]),(1,[4])] []),
 (55,ZP [] [] [] [] [(0,[3,2,1,0]),(1,[13,3,2,1,0]),(2,[8]),(3,[15,3,2,1,0]),(4,[8]),(5,[20,3,2,1,0]),(6,[3,2,1,0]),(7,[3,2,1,0]),(8,[9,3,2,1,0]),(9,[9,3,2,1,0]),(10,[10,9,3,2,1,0]),(11,[36,10,9,3,2,1,0]),(12,[11,10,9,3,2,1,0]),(13,[41,11,10,9,3,2,1,0]),(14,[11,10,9,3,2,1,0]),(15,[10,9,3,2,1,0]),(16,[10,9,3,2,1,0]),(17,[10,9]),(18,[8])] [(11,[10,9,3,2,1,0])]),
 (62,ZP [] [] [] [] [(0,[2,0]),(1,[4,2,0]),(2,[9,4,2,0]),(3,[4,2,0]),(4,[5,4,2,0]),(5,[16,5,4,2,0]),(6,[3,2]),(7,[4,2,0]),(8,[3,2])] [(2,[4,2,0])]),
 (61,ZP [] [] [] [] [(0,[0]),(1,[2])] []),
 (5,ZP [] [] [(13,2,false)] [] [(0,[0]),(1,[3,0]),(2,[23,3,0]),(3,[2]),(4,[4,3,0]),(5,[5,4,3,0]),(6,[31,5,4,3,0]),(7,[5,4,3,0]),(8,[6,5,4,3,0]),(9,[40,6,5,4,3,0]),(10,[15,6,5,4,3,0]),(11,[16,15,6,5,4,3,0]),(12,[47,16,15,6,5,4,3,0]),(13,[16,15,6,5,4,3,0]),(14,[16,15,6,5,4,3,0]),(15,[68,5,4,3,0]),(16,[2]),(17,[69,40,6,5,4,3,0]),(18,[7,6,5,4,3,0]),(19,[74,7,6,5,4,3,0]),(20,[7,6,5,4,3,0]),(21,[7,6,5,4,3,0]),(22,[90,5,4,3,0]),(23,[2]),(24,[91,40,6,5,4,3,0]),(25,[9,8,6,5,3,0]),(26,[9,6,5,4,3,0]),(27,[106,5,4,3,0]),(28,[2]),(29,[107,6,5,4,3,0]),(30,[11,10,6,5,4,3,0]),(31,[13,12,11,10,6,5,4,3,0]),(32,[14,13,12,11,10,6,5,4,3,0]),(33,[119,14,13,12,11,10,6,5,4,3,0]),(34,[14,13,12,11,10,6,5,4,3,0]),(35,[129,14,13,12,11,10,6,5,4,3,0]),(36,[14,13,12,11,10,6,5,4,3,0]),(37,[142,5,4,3,0]),(38,[2]),(39,[147,5,4,3,0]),(40,[2]),(41,[2])] [(6,[5,4,3,0]),(12,[16,15,6,5,4,3,0]),(33,[14,13,12,11,10,6,5,4,3,0])]),
 (4,ZP [] [] [(13,2,false),(7,2,false)] [] [(0,[1,0]),(1,[6,5,1,0]),(2,[27,6,5,1,0]),(3,[4]),(4,[30,6,5,1,0]),(5,[6,5,1,0]),(6,[35,6,5,1,0]),(7,[6,5,1,0]),(8,[7,6,5,1,0]),(9,[41,7,6,5,1,0]),(10,[7,6,5,1,0]),(11,[7,6,5,1,0]),(12,[8,6,5,1,0]),(13,[54,8,6,5,1,0]),(14,[8,6,5,1,0]),(15,[8,6,5,1,0]),(16,[9,6,5,1,0]),(17,[67,9,6,5,1,0]),(18,[9,6,5,1,0]),(19,[10,9,6,5,1,0]),(20,[73,10,9,6,5,1,0]),(21,[10,9,6,5,1,0]),(22,[12,11,10,9,6,5,1,0]),(23,[13,12,11,10,9,6,5,1,0]),(24,[14,13,12,11,10,9,6,5,1,0]),(25,[85,14,13,12,11,10,9,6,5,1,0]),(26,[14,13,12,11,10,9,6,5,1,0]),(27,[14,13,12,11,10,9,6,5,1,0]),(28,[13,12,11,10,9,6,5,1,0]),(29,[15,13,12,11,10,9,6,5,1,0]),(30,[110,15,13,12,11,10,9,6,5,1,0]),(31,[15,13,12,11,10,9,6,5,1,0]),(32,[15,13,12,11,10,9,6,5,1,0]),(33,[128,10,9,6,5,1,0]),(34,[4]),(35,[4])] [(9,[7,6,5,1,0]),(13,[8,6,5,1,0]),(17,[9,6,5,1,0]),(20,[10,9,6,5,1,0]),(25,[14,13,12,11,10,9,6,5,1,0]),(30,[15,13,12,11,10,9,6,5,1,0])]),
 (3,ZP [] [] [(7,2,false)] [] [(0,[2,1,0]),(1,[8,7,2,1,0]),(2,[27,8,7,2,1,0]),(3,[6]),(4,[30,8,7,2,1,0]),(5,[8,7,2,1,0]),(6,[35,8,7,2,1,0]),(7,[8,7,2,1,0]),(8,[9,8,7,2,1,0]),(9,[41,9,8,7,2,1,0]),(10,[9,8,7,2,1,0]),(11,[9,8,7,2,1,0]),(12,[10,8,7,2,1,0]),(13,[65,10,8,7,2,1,0]),(14,[10,8,7,2,1,0]),(15,[10,8,7,2,1,0]),(16,[11,8,7,2,1,0]),(17,[79,11,8,7,2,1,0]),(18,[11,8,7,2,1,0]),(19,[11,8,7,2,1,0]),(20,[12,8,7,2,1]),(21,[103,12,8,7,2,1]),(22,[12,8,7,2,1]),(23,[12,8,7,2,1]),(24,[12,8,7,2,1]),(25,[14,13,8,7]),(26,[137,14,13]),(27,[6]),(28,[15,14,13]),(29,[141,15,14,13]),(30,[15,14,13]),(31,[152,15,14,13]),(32,[6]),(33,[6])] [(9,[9,8,7,2,1,0]),(13,[10,8,7,2,1,0]),(17,[11,8,7,2,1,0]),(21,[12,8,7,2,1]),(29,[15,14,13])]),
 (6,ZP [] [] [(7,2,false)] [] [(0,[0]),(1,[3,0]),(2,[25,3,0]),(3,[2]),(4,[4,3,0]),(5,[5,4,3,0]),(6,[33,5,4,3,0]),(7,[5,4,3,0]),(8,[6,5,4,3,0]),(9,[42,6,5,4,3,0]),(10,[17,6,5,4,3,0]),(11,[18,17,6,5,4,3,0]),(12,[49,18,17,6,5,4,3,0]),(13,[18,17,6,5,4,3,0]),(14,[18,17,6,5,4,3,0]),(15,[70,5,4,3,0]),(16,[2]),(17,[71,42,6,5,4,3,0]),(18,[7,6,5,4,3,0]),(19,[76,7,6,5,4,3,0]),(20,[7,6,5,4,3,0]),(21,[7,6,5,4,3,0]),(22,[96,5,4,3,0]),(23,[2]),(24,[97,42,6,5,4,3,0]),(25,[9,8,6,5,3,0]),(26,[9,6,5,4,3,0]),(27,[116,5,4,3,0]),(28,[2]),(29,[117,42,6,5,4,3,0]),(30,[11,10,6,5,4,3,0]),(31,[13,12,11,10,6,5,4,3,0]),(32,[14,13,12,11,10,6,5,4,3,0]),(33,[131,14,13,12,11,10,6,5,4,3,0]),(34,[14,13,12,11,10,6,5,4,3,0]),(35,[151,14,13,12,11,10,6,5,4,3,0]),(36,[14,13,12,11,10,6,5,4,3,0]),(37,[164,5,4,3,0]),(38,[2]),(39,[165,6,5,4,3,0]),(40,[15,6,5,4,3,0]),(41,[16,15,6,5,4,3,0]),(42,[173,16,15,6,5,4,3,0]),(43,[16,15,6,5,4,3,0]),(44,[16,15,6,5,4,3,0]),(45,[194,5,4,3,0]),(46,[2]),(47,[199,5,4,3,0]),(48,[2]),(49,[2])] [(6,[5,4,3,0]),(12,[18,17,6,5,4,3,0]),(33,[14,13,12,11,10,6,5,4,3,0]),(42,[16,15,6,5,4,3,0])]),
 (23,ZP [] [] [] [] [(0,[2,1,0]),(1,[7,2,1,0]),(2,[8,7,2,1,0]),(3,[12,8,7,2,1,0]),(4,[8,7,2,1,0]),(5,[19,8,7,2,1,0]),(6,[46,8,7,2,1,0]),(7,[6]),(8,[8,7,2,1,0]),(9,[6])] [(3,[8,7,2,1,0])]),
 (40,ZP [] [] [] [] [(0,[3,2]),(1,[4])] []),
 (18,ZP [] [] [] [] [(0,[0]),(1,[2])] []),
 (17,ZP [] [] [] [] [(0,[3,0]),(1,[5,3,0]),(2,[18,5,3,0]),(3,[5,3,0]),(4,[6,5,3,0]),(5,[6,5,3,0]),(6,[52,6,5,0]),(7,[6,5,0]),(8,[4])] [(2,[5,3,0])]),
 (8,ZP [] [] [(7,2,false)] [] [(0,[]),(1,[1]),(2,[7,1]),(3,[0]),(4,[2,1]),(5,[3,2,1]),(6,[4,3,2]),(7,[0])] []),
 (19,ZP [] [] [] [] [(0,[2,1,0]),(1,[8,2,1,0]),(2,[13,8,2,1,0]),(3,[8,2,1,0]),(4,[31,8,2,1,0]),(5,[9,8,0]),(6,[7,6]),(7,[7,6])] [(2,[8,2,1,0])]),
 (52,ZP [] [] [] [] [(0,[0]),(1,[6,0]),(2,[4,3,0]),(3,[17,4,0]),(4,[2]),(5,[0]),(6,[2])] [(1,[0])]),
 (59,ZP [] [] [] [] [(0,[0]),(1,[4,0]),(2,[4,0]),(3,[3,2]),(4,[11,4,0]),(5,[3,2]),(6,[15,4,0]),(7,[6,5,4,0]),(8,[24,4,0]),(9,[6,5,4,0]),(10,[33,4,0]),(11,[6,5,4,0]),(12,[45,6,5,4,0]),(13,[3,2]),(14,[7,6,5,4,0]),(15,[48,7,6,5,4,0]),(16,[7,6,5,4,0]),(17,[60,7,6,5,4,0]),(18,[3,2]),(19,[7,6,5,4,0]),(20,[83,5,4]),(21,[3,2]),(22,[3,2])] [(15,[7,6,5,4,0])]),
 (25,ZP [] [] [] [] [(0,[0]),(1,[7,0]),(2,[2]),(3,[3]),(4,[4,3]),(5,[13,4,3]),(6,[4,3]),(7,[48,4,3]),(8,[2]),(9,[2])] [(5,[4,3])]),
 (41,ZP [] [] [] [] [(0,[0]),(1,[3,0]),(2,[4,3,0]),(3,[5,4,3,0]),(4,[9,5,4,3,0]),(5,[5,4,3,0]),(6,[15,5,4,3,0]),(7,[5,3,0]),(8,[5,4,3,0]),(9,[5,4,3,0]),(10,[2])] [(4,[5,4,3,0])]),
 (22,ZP [] [] [] [] [(0,[1,0]),(1,[15,1,0]),(2,[4]),(3,[6,5,1]),(4,[34,6,5]),(5,[4]),(6,[7,6,5]),(7,[38,7,6,5]),(8,[7,6,5]),(9,[45,7,6,5]),(10,[4]),(11,[71,7,6,5]),(12,[4]),(13,[4])] [(7,[7,6,5])]),
 (16,ZP [] [] [] [] [(0,[0]),(1,[2])] []),
 (39,ZP [] [] [] [] [(0,[1,0]),(1,[5,1,0]),(2,[9,5,1,0]),(3,[5,1,0]),(4,[16,5,1,0]),(5,[4]),(6,[4])] [(2,[5,1,0])]),
 (38,ZP [] [] [] [] [(0,[0]),(1,[2])] []),
 (29,ZP [] [] [] [] [(0,[0]),(1,[3,0]),(2,[11,10,9,3,0]),(3,[12,11,10,9,3,0]),(4,[11,10,9,5,4,3,0]),(5,[11,10,9,6,5,3,0]),(6,[34,11,10,9,3,0]),(7,[2]),(8,[11,10,9,3,0]),(9,[2])] [(3,[11,10,9,3,0])]),
 (31,ZP [] [] [] [] [(0,[0]),(1,[2])] []),
 (37,ZP [] [] [] [] [(0,[1,0]),(1,[16,1,0]),(2,[4]),(3,[6,5,1]),(4,[35,6,5]),(5,[4]),(6,[38,37,36,6,5]),(7,[39,38,37,36,6,5]),(8,[38,37,36,8,7,6,5]),(9,[43,38,37,36,8,7,6,5]),(10,[4]),(11,[46,38,37,36,6,5]),(12,[4]),(13,[38,37,36,6,5]),(14,[4])] [(7,[38,37,36,6,5])]),
 (33,ZP [] [] [] [] [(0,[0]),(1,[2])] []),
 (46,ZP [] [] [] [] [(0,[0]),(1,[2])] []),
 (13,ZP [] [] [] [] [(0,[]),(1,[0])] []),
 (7,ZP [] [] [(28,1,false)] [] [(0,[]),(1,[0])] []),
 (48,ZP [] [] [] [] [(0,[1,0]),(1,[6,1,0]),(2,[4]),(3,[4])] []),
 (28,ZP [] [] [] [] [(0,[]),(1,[0])] []),
 (36,ZP [] [] [] [] [(0,[0]),(1,[0]),(2,[2])] []),
 (50,ZP [] [] [] [] [(0,[3,2]),(1,[5,3,2]),(2,[12,5,3,2]),(3,[4]),(4,[4])] []),
 (79,ZP [] [] [] [] [(0,[0]),(1,[3,0]),(2,[2]),(3,[10]),(4,[2]),(5,[2])] []),
 (1000000,{})]
def ann:Nat->Ann:=ZdT {} ZDR
def ZJx:List (Nat×Bool):=[
 (36,true),
 (49,true),
 (1000000,false)]
def BY:Nat->Bool:=ZdT false ZJx
noncomputable def CF:Nat->Option ZN:=ZgA Tryd.prog ann
noncomputable def FC:Nat->Option ZN:=fun f=>(CF f).map Zj5
def ZpT:List (Nat×Option (List AVal->Za->Option (AVal×Za))):=[
 (78,some (Zkv)),
 (92,some (Zkv)),
 (66,some (ZlF)),
 (64,some (Zms)),
 (49,some (ZfN 50)),
 (28,some (ZmV)),
 (1000000,none)]
def PR:Zdh:=ZdT none ZpT
theorem xw (c d:Zd) (h:c=d) (m:Nat) (tm:Tms) (σ:Za):evC FC PR BY m c tm σ=evC FC PR BY m d tm σ:=by rw [h]
noncomputable abbrev E:ZG:=EV FC PR BY
theorem ZQ {f:Nat} {fn:ZN} (hp:PR f=none) (hf:FC f=some fn) (args:List AVal) (σ:Za):E f args σ=ZaC σ.length fn (evC FC PR BY σ.length fn.body (enterA 0 args []) σ):=ZHe hp hf args σ
end
section
def Zkl:Zd:=(.seq (.region [oI 6 (.mov (.c (.bool false)))] none [2,1,0]) (.seq (.region [oM 8 0,oI 9 (.nilchk (.t 8)),oF 10 0 9,oL 11 10,oM 12 1,oI 13 (.call 31 0 true [(.t 12)]),oM 14 2,oI 15 (.call 32 0 true [(.t 11),(.t 13),(.t 14)]),oM 7 15] (some [(3,5),(7,7)]) [7,0]) (.seq (.seq (.region [oM 16 7] none [16,7,0]) (.cond (.t 16) (.region [oM 17 0,oI 18 (.nilchk (.t 17)),oF 19 1 18,oL 20 19,oI 21 (.bin .sub (.t 20) (.c (.int .i64 1))),oI 22 (.nilchk (.t 17)),oF 23 1 22,oN (.st 1 (.t 23) (.t 21))] none [7]) .skip)) (.seq (.region [oM 24 7,oM 6 24] none [6]) .ret))))
def Zlm:ZN:=⟨[(.tmp 6)],Zkl⟩
theorem ZFf:FC 10=some Zlm:=by kernel_rfl
theorem Zqr:Zlm.body=Zkl:=rfl
theorem Zsn:Zlm.res=[(.tmp 6)]:=rfl
def Zkg:Zd:=(.seq (.region [oI 6 (.mov (.c (.int .i64 0))),oI 7 (.mov (.c (.bool false)))] none [2,1,0]) (.seq (.region [oI 8 (.mov (.c (.int .i64 0)))] none [8,2,1,0]) (.seq (.region [oM 12 0,oI 13 (.nilchk (.t 12)),oF 14 0 13,oL 15 14,oM 16 1,oI 17 (.call 31 0 true [(.t 16)]),oI 18 (.call 42 0 false [(.t 15),(.t 17)]),oM 9 18] (some [(3,5),(5,5),(6,6)]) [9,8,2]) (.seq (.seq (.region [oM 19 9,oI 20 (.peq false (.t 19) (.c .nilp))] none [20,9,8,2]) (.cond (.t 20) (.seq (.region [oM 21 8,oM 6 21,oI 7 (.mov (.c (.bool false)))] none [7,6]) .ret) .skip)) (.seq (.region [oM 23 9,oI 24 (.nilchk (.t 23)),oF 25 0 24,oL 26 25,oM 27 2,oI 28 (.look 2 (.int .i64 0) true (.t 26) (.t 27)),oM 22 28,oI 29 (.ext (.t 22) 0),oI 30 (.ext (.t 22) 1),oM 10 29,oM 11 30] none [11,10]) (.seq (.region [oM 31 10,oM 32 11,oM 6 31,oM 7 32] none [7,6]) .ret))))))
def Zlt:ZN:=⟨[(.tmp 6),(.tmp 7)],Zkg⟩
theorem ZpF:FC 26=some Zlt:=by kernel_rfl
theorem Ztw:Zlt.body=Zkg:=rfl
theorem ZqZ:Zlt.res=[(.tmp 6),(.tmp 7)]:=rfl
def ZoG:Zd:=(.seq (.region [oI 2 (.mov (.c (.int .i64 0)))] none [0]) (.seq (.region [oM 3 0,oI 4 (.nilchk (.t 3)),oF 5 1 4,oL 6 5,oM 2 6] none [2]) .ret))
def Zme:ZN:=⟨[(.tmp 2)],ZoG⟩
theorem ZMd:FC 12=some Zme:=by kernel_rfl
theorem Zzn:Zme.body=ZoG:=rfl
theorem ZFe:Zme.res=[(.tmp 2)]:=rfl
def Zh8:Zd:=(.seq (.region [oI 4 (.mov (.c (.lst true [])))] none [1,0]) (.seq (.seq (.region [oM 6 1,oI 7 (.call 33 0 true [(.t 6)]),oI 8 (.un .not (.t 7))] none [8,1,0]) (.cond (.t 8) (.seq (.region [oI 4 (.mov (.c (.lst true [])))] none [4]) .ret) .skip)) (.seq (.region [oI 5 (.alloc [(.lst true [])])] none [5,1,0]) (.seq (.region [oM 9 0,oI 10 (.nilchk (.t 9)),oF 11 0 10,oL 12 11,oM 13 1,oI 14 (.call 31 0 true [(.t 13)]),oM 15 1,oI 16 (.sindex (.t 15) (.c (.int .i64 0))),oI 17 (.bin .eql (.t 16) (.c (.int .u8 36))),oI 18 (.mkfn 35 [(.t 5)]),oI 19 (.call 34 1 false [(.t 12),(.c (.str [0])),(.t 14),(.t 17),(.t 18)])] (some [(3,5),(10,10)]) [5]) (.seq (.region [oL 20 5,oI 21 (.call 36 0 false [(.t 20)]),oM 4 21] none [4]) .ret)))))
def Zo6:ZN:=⟨[(.tmp 4)],Zh8⟩
theorem ZnO:FC 11=some Zo6:=by kernel_rfl
theorem Znn:Zo6.body=Zh8:=rfl
theorem Zmk:Zo6.res=[(.tmp 4)]:=rfl
def ZkD:Zd:=(.region [oL 7 3,oM 8 0,oM 9 1,oM 10 2,oI 11 (.build [(.str []),(.str []),(.int .i64 0)] [(0,1,(.t 8)),(1,1,(.t 9)),(2,1,(.t 10))]),oI 12 (.bslice false 3 1 (.agg [(.str []),(.str []),(.int .i64 0)]) [(0,(.t 11))]),oI 13 (.app 3 40 (.agg [(.str []),(.str []),(.int .i64 0)]) (.t 7) (.t 12)),oN (.st 1 (.t 3) (.t 13))] none [])
def ZnX:ZN:=⟨[],ZkD⟩
theorem Zq7:FC 35=some ZnX:=by kernel_rfl
theorem Zqv:ZnX.body=ZkD:=rfl
theorem ZsF:ZnX.res=[]:=rfl
def ZhE:Zd:=(.seq (.region [oI 8 (.mov (.c (.int .i64 0)))] none [3,2,1,0]) (.seq (.seq (.region [oM 9 1,oI 10 (.call 29 0 true [(.t 9)]),oI 11 (.un .not (.t 10))] none [11,3,2,1,0]) (.cond (.t 11) (.seq (.region [oI 8 (.mov (.c (.int .i64 150)))] none [8]) .ret) .skip)) (.seq (.seq (.region [oM 12 0,oI 13 (.nilchk (.t 12)),oF 14 0 13,oL 15 14,oM 16 1,oI 17 (.call 31 0 true [(.t 16)]),oM 18 2,oM 19 3,oI 20 (.call 30 0 true [(.t 15),(.t 17),(.t 18),(.t 19)]),oI 21 (.un .not (.t 20))] (some [(3,5),(8,8)]) [21,0]) (.cond (.t 21) (.region [oM 22 0,oI 23 (.nilchk (.t 22)),oF 24 1 23,oL 25 24,oI 26 (.bin .add (.t 25) (.c (.int .i64 1))),oI 27 (.nilchk (.t 22)),oF 28 1 27,oN (.st 1 (.t 28) (.t 26))] none []) .skip)) (.seq (.region [oI 8 (.mov (.c (.int .i64 0)))] none [8]) .ret))))
def ZoM:ZN:=⟨[(.tmp 8)],ZhE⟩
theorem ZsD:FC 9=some ZoM:=by kernel_rfl
theorem Zpc:ZoM.body=ZhE:=rfl
theorem Zog:ZoM.res=[(.tmp 8)]:=rfl
def ZkF:Zd:=(.seq (.region [oI 3 (.box (.t 1)),oI 4 (.mov (.c (.lst true [])))] none [3,0]) (.seq (.region [oI 5 (.alloc [(.lst true [])])] none [5,3,0]) (.seq (.region [oM 6 0,oI 7 (.nilchk (.t 6)),oF 8 0 7,oL 9 8,oI 10 (.mkfn 44 [(.t 3),(.t 5)]),oI 11 (.call 43 1 false [(.t 9),(.c (.str [0])),(.t 10)])] none [5]) (.seq (.region [oL 12 5,oI 13 (.call 36 0 false [(.t 12)]),oM 4 13] none [4]) .ret))))
def Zlu:ZN:=⟨[(.tmp 4)],ZkF⟩
theorem ZqW:FC 27=some Zlu:=by kernel_rfl
theorem Zql:Zlu.body=ZkF:=rfl
theorem Zt5:Zlu.res=[(.tmp 4)]:=rfl
def Zgg:Zd:=(.seq (.region [oM 8 1,oL 9 3,oI 10 (.bin .eql (.t 8) (.t 9))] none [10,4,2,1,0]) (.cond (.t 10) (.region [oL 11 4,oM 12 0,oM 13 1,oM 14 2,oI 15 (.build [(.str []),(.str []),(.int .i64 0)] [(0,1,(.t 12)),(1,1,(.t 13)),(2,1,(.t 14))]),oI 16 (.bslice false 3 1 (.agg [(.str []),(.str []),(.int .i64 0)]) [(0,(.t 15))]),oI 17 (.app 3 40 (.agg [(.str []),(.str []),(.int .i64 0)]) (.t 11) (.t 16)),oN (.st 1 (.t 4) (.t 17))] none []) .skip))
def ZmP:ZN:=⟨[],Zgg⟩
theorem Zku:FC 44=some ZmP:=by kernel_rfl
theorem Zks:ZmP.body=Zgg:=rfl
theorem ZiY:ZmP.res=[]:=rfl
def Zeb:Zd:=(.region [oM 20 2,oM 21 1,oM 22 6,oM 23 7,oI 24 (.callv (.t 20) [(.t 21),(.t 22),(.t 23)])] none [13,2,1,0])
def Zmm:Zd:=Zeb
def ZeU:=xw Zmm Zeb rfl
def Ze2:Zd:=(.region [oM 35 9,oM 36 1,oM 37 8,oI 38 (.call 48 0 true [(.t 36),(.t 37)]),oM 39 2,oI 40 (.call 43 1 false [(.t 35),(.t 38),(.t 39)])] none [28,2,1])
def ZnG:Zd:=Ze2
def Zgz:=xw ZnG Ze2 rfl
def ZBS:Zd:=.skip
def ZtV:Zd:=ZBS
def Zlc:Zd:=(.range [oM 25 0,oI 26 (.nilchk (.t 25)),oF 27 1 26,oL 28 27] [28,2,1] 28 32 3 true [oI 33 (.ext (.t 32) 0),oI 34 (.ext (.t 32) 1),oM 8 33,oM 9 34] ZnG ZtV)
def ZjZ:Zd:=Zlc
def ZIy:=xw ZjZ Zlc rfl
def ZnF:Zd:=(.range [oM 10 0,oI 11 (.nilchk (.t 10)),oF 12 0 11,oL 13 12] [13,2,1,0] 13 17 1 true [oI 18 (.ext (.t 17) 0),oI 19 (.ext (.t 17) 1),oM 6 18,oM 7 19] Zmm ZjZ)
def ZqR:ZN:=⟨[],ZnF⟩
theorem ZJA:FC 43=some ZqR:=by kernel_rfl
theorem Zx3:ZqR.body=ZnF:=rfl
def ZfV:Zd:=(.seq (.region [oI 6 (.mov (.c (.bool false)))] none [2,1,0]) (.seq (.seq (.region [oM 10 1,oI 11 (.len (.t 10)),oI 12 (.bin .eql (.t 11) (.c (.int .i64 0)))] none [12,2,1,0]) (.cond (.t 12) (.seq (.region [oM 14 0,oI 15 (.nilchk (.t 14)),oF 16 0 15,oL 17 16,oM 18 2,oI 19 (.look 2 (.int .i64 0) true (.t 17) (.t 18)),oM 13 19,oI 20 (.ext (.t 13) 0),oI 21 (.ext (.t 13) 1),oM 7 20,oM 8 21] none [8,2,0]) (.seq (.region [oM 22 0,oI 23 (.nilchk (.t 22)),oF 24 0 23,oL 25 24,oM 26 2,oN (.mdel 2 (.t 25) (.t 26))] none [8]) (.seq (.region [oM 27 8,oM 6 27] none [6]) .ret))) .skip)) (.seq (.region [oM 28 0,oI 29 (.nilchk (.t 28)),oF 30 1 29,oL 31 30,oM 32 1,oI 33 (.iaddr 1 (.t 32) (.c (.int .i64 0))),oL 34 33,oI 35 (.look 2 .nilp false (.t 31) (.t 34)),oM 9 35] (some [(3,5),(3,6)]) [9,2,1,0]) (.seq (.seq (.region [oM 36 9,oI 37 (.peq false (.t 36) (.c .nilp)),oM 38 37,⟨(some 39),(.mov (.t 9)),(some (38,false)),[]⟩,⟨(some 40),(.mov (.t 1)),(some (38,false)),[]⟩,⟨(some 41),(.slice 1 (.t 40) (some (.c (.int .i64 1))) none none),(some (38,false)),[]⟩,⟨(some 42),(.mov (.t 2)),(some (38,false)),[]⟩,⟨(some 43),(.call 32 0 true [(.t 39),(.t 41),(.t 42)]),(some (38,false)),[]⟩,⟨(some 44),(.un .not (.t 43)),(some (38,false)),[]⟩,oI 45 (.pick (.t 38) (.c (.bool true)) (.t 44))] none [45,9,1,0]) (.cond (.t 45) (.seq (.region [oI 6 (.mov (.c (.bool false)))] none [6]) .ret) .skip)) (.seq (.seq (.region [oM 46 9,oI 47 (.nilchk (.t 46)),oF 48 0 47,oL 49 48,oI 50 (.mlen (.t 49)),oM 51 9,oI 52 (.nilchk (.t 51)),oF 53 1 52,oL 54 53,oI 55 (.mlen (.t 54)),oI 56 (.bin .add (.t 50) (.t 55)),oI 57 (.bin .eql (.t 56) (.c (.int .i64 0)))] (some [(3,8),(4,8)]) [57,1,0]) (.cond (.t 57) (.region [oM 58 0,oI 59 (.nilchk (.t 58)),oF 60 1 59,oL 61 60,oM 62 1,oI 63 (.iaddr 1 (.t 62) (.c (.int .i64 0))),oL 64 63,oN (.mdel 2 (.t 61) (.t 64))] (some [(3,5),(3,6)]) []) .skip)) (.seq (.region [oI 6 (.mov (.c (.bool true)))] none [6]) .ret))))))
def Zk9:ZN:=⟨[(.tmp 6)],ZfV⟩
theorem Zip:FC 32=some Zk9:=by kernel_rfl
theorem ZhI:Zk9.body=ZfV:=rfl
theorem Zhv:Zk9.res=[(.tmp 6)]:=rfl
def ZmU:Zd:=(.seq (.region [oM 22 0,oM 4 22] none [4]) .ret)
def Znq:Zd:=ZmU
def ZHJ:=xw Znq ZmU rfl
def ZhQ:Zd:=(.seq (.region [oI 10 (.bin .lss (.t 9) (.t 8))] none [10,9,8,7,0]) (.seq (.cond (.t 10) .skip (.exit 0)) (.seq (.block 1 (.seq (.region [oI 11 (.iaddr 1 (.t 7) (.t 9)),oL 12 11,oM 6 12] none [9,8,7,6,0]) (.seq (.region [oM 13 0,oI 14 (.nilchk (.t 13)),oF 15 1 14,oL 16 15,oM 17 6,oI 18 (.look 2 .nilp false (.t 16) (.t 17)),oM 0 18] none [9,8,7,0]) (.seq (.region [oM 19 0,oI 20 (.peq false (.t 19) (.c .nilp))] none [20,9,8,7,0]) (.cond (.t 20) (.seq (.region [oI 4 (.mov (.c .nilp))] none [4]) .ret) .skip))))) (.region [oI 21 (.bin .add (.t 9) (.c (.int .i64 1))),oM 9 21] none [9,8,7,0]))))
def ZkV:Zd:=ZhQ
def Zou:=xw ZkV ZhQ rfl
def ZnS:Zd:=(.seq (.region [oI 4 (.mov (.c .nilp))] none [1,0]) (.seq (.seq (.region [oM 7 1,oI 8 (.len (.t 7)),oI 9 (.mov (.c (.int .i64 0)))] none [9,8,7,0]) (.block 0 (.loop [9,8,7,0] ZkV))) Znq))
def ZiJ:ZN:=⟨[(.tmp 4)],ZnS⟩
theorem Zzv:FC 42=some ZiJ:=by kernel_rfl
theorem ZxI:ZiJ.body=ZnS:=rfl
theorem Zr7:ZiJ.res=[(.tmp 4)]:=rfl
noncomputable def Zis (m:Nat) (tm:Tms) (σ:Za):Option (AVal×Za):=(ZaC m ZiJ (Zbf FC PR BY m Znq (WE (ZaL 0) (evL FC PR BY m [9,8,7,0] ZkV tm σ))))
def Zna:Zd:=(.seq (.seq (.region [oM 62 0,oI 63 (.nilchk (.t 62)),oF 64 1 63,oL 65 64,oM 66 2,oI 67 (.iaddr 1 (.t 66) (.c (.int .i64 0))),oL 68 67,oI 69 (.look 2 .nilp false (.t 65) (.t 68)),oM 15 69] (some [(3,5),(3,6)]) [15,4,3,2,1,0]) (.seq (.region [oM 70 15,oI 71 (.peq true (.t 70) (.c .nilp))] none [71,15,4,3,2,1,0]) (.cond (.t 71) (.region [oM 72 15,oM 73 1,oM 74 2,oI 75 (.iaddr 1 (.t 74) (.c (.int .i64 0))),oL 76 75,oI 77 (.call 48 0 true [(.t 73),(.t 76)]),oM 78 2,oI 79 (.slice 1 (.t 78) (some (.c (.int .i64 1))) none none),oM 80 4,oI 81 (.call 34 1 false [(.t 72),(.t 77),(.t 79),(.c (.bool false)),(.t 80)])] (some [(3,7),(4,7),(5,7),(9,9)]) [4,3,2,1,0]) .skip))) (.seq (.region [oM 82 0,oI 83 (.nilchk (.t 82)),oF 84 1 83,oL 85 84,oI 86 (.look 2 .nilp false (.t 85) (.c (.str [43]))),oM 16 86] none [16,4,3,2,1]) (.seq (.region [oM 87 16,oI 88 (.peq true (.t 87) (.c .nilp)),oM 89 88,⟨(some 90),(.mov (.t 3)),(some (89,true)),[]⟩,⟨(some 91),(.un .not (.t 90)),(some (89,true)),[]⟩,oI 92 (.pick (.t 89) (.t 91) (.c (.bool false)))] none [92,16,4,2,1]) (.cond (.t 92) (.region [oM 93 16,oM 94 1,oI 95 (.call 48 0 true [(.t 94),(.c (.str [43]))]),oM 96 2,oI 97 (.slice 1 (.t 96) (some (.c (.int .i64 1))) none none),oM 98 4,oI 99 (.call 34 1 false [(.t 93),(.t 95),(.t 97),(.c (.bool false)),(.t 98)])] (some [(2,4),(6,6)]) []) .skip))))
def Zj3:Zd:=Zna
def Zvy:=xw Zj3 Zna rfl
def ZjU:Zd:=(.region [oM 57 4,oM 58 1,oM 59 13,oM 60 14,oI 61 (.callv (.t 57) [(.t 58),(.t 59),(.t 60)])] none [50,4,1])
def ZiP:Zd:=ZjU
def Zrd:=xw ZiP ZjU rfl
def Zp9:Zd:=.ret
def ZlP:Zd:=Zp9
def Zgr:Zd:=(.seq (.seq (.region [oM 44 2,oI 45 (.len (.t 44)),oI 46 (.bin .eql (.t 45) (.c (.int .i64 0)))] none [46,4,3,2,1,0]) (.cond (.t 46) (.range [oM 47 0,oI 48 (.nilchk (.t 47)),oF 49 0 48,oL 50 49] [50,4,1] 50 54 3 true [oI 55 (.ext (.t 54) 0),oI 56 (.ext (.t 54) 1),oM 13 55,oM 14 56] ZiP ZlP) .skip)) Zj3)
def Zie:Zd:=Zgr
def ZiK:=xw Zie Zgr rfl
def ZjR:Zd:=(.region [oM 38 4,oM 39 1,oI 40 (.call 48 0 true [(.t 39),(.c (.str [35]))]),oM 41 11,oM 42 12,oI 43 (.callv (.t 38) [(.t 40),(.t 41),(.t 42)])] none [31,4,3,2,1,0])
def ZhZ:Zd:=ZjR
def ZuI:=xw ZhZ ZjR rfl
def ZAB:Zd:=.skip
def ZnC:Zd:=ZAB
def Zm7:Zd:=(.seq (.seq (.region [oM 17 0,oI 18 (.nilchk (.t 17)),oF 19 1 18,oL 20 19,oI 21 (.look 2 .nilp false (.t 20) (.c (.str [35]))),oM 10 21] none [10,4,3,2,1,0]) (.seq (.region [oM 22 10,oI 23 (.peq true (.t 22) (.c .nilp)),oM 24 23,⟨(some 25),(.mov (.t 3)),(some (24,true)),[]⟩,⟨(some 26),(.un .not (.t 25)),(some (24,true)),[]⟩,oI 27 (.pick (.t 24) (.t 26) (.c (.bool false)))] none [27,10,4,3,2,1,0]) (.cond (.t 27) (.range [oM 28 10,oI 29 (.nilchk (.t 28)),oF 30 0 29,oL 31 30] [31,4,3,2,1,0] 31 35 1 true [oI 36 (.ext (.t 35) 0),oI 37 (.ext (.t 35) 1),oM 11 36,oM 12 37] ZhZ ZnC) .skip))) Zie)
def Zss:ZN:=⟨[],Zm7⟩
theorem ZtJ:FC 34=some Zss:=by kernel_rfl
theorem ZsC:Zss.body=Zm7:=rfl
def Znw:Zd:=(.seq (.region [oM 40 0,oI 41 (.nilchk (.t 40)),oF 42 0 41,oL 43 42,oM 44 2,oI 45 (.look 2 (.int .i64 0) true (.t 43) (.t 44)),oM 39 45,oI 46 (.ext (.t 39) 0),oI 47 (.ext (.t 39) 1),oM 11 46,oM 12 47] none [12,3,2,0]) (.seq (.region [oM 48 0,oI 49 (.nilchk (.t 48)),oF 50 0 49,oL 51 50,oM 52 2,oM 53 3,oN (.mset 2 (.t 51) (.t 52) (.t 53))] none [12]) (.seq (.region [oM 54 12,oM 8 54] none [8]) .ret)))
def Zmv:Zd:=Znw
def Zxq:=xw Zmv Znw rfl
def Zhp:Zd:=(.seq (.region [oI 16 (.bin .lss (.t 15) (.t 14))] none [16,15,14,13,3,2,0]) (.seq (.cond (.t 16) .skip (.exit 0)) (.seq (.block 1 (.seq (.region [oI 17 (.iaddr 1 (.t 13) (.t 15)),oL 18 17,oM 10 18] none [15,14,13,10,3,2,0]) (.seq (.seq (.region [oM 19 0,oI 20 (.nilchk (.t 19)),oF 21 1 20,oL 22 21,oM 23 10,oI 24 (.look 2 .nilp false (.t 22) (.t 23)),oI 25 (.peq false (.t 24) (.c .nilp))] none [25,15,14,13,10,3,2,0]) (.cond (.t 25) (.region [oM 26 0,oI 27 (.nilchk (.t 26)),oF 28 1 27,oL 29 28,oM 30 10,oI 31 (.call 28 1 false []),oN (.mset 2 (.t 29) (.t 30) (.t 31))] (some [(3,5),(5,5)]) [15,14,13,10,3,2,0]) .skip)) (.region [oM 32 0,oI 33 (.nilchk (.t 32)),oF 34 1 33,oL 35 34,oM 36 10,oI 37 (.look 2 .nilp false (.t 35) (.t 36)),oM 0 37] none [15,14,13,3,2,0])))) (.region [oI 38 (.bin .add (.t 15) (.c (.int .i64 1))),oM 15 38] none [15,14,13,3,2,0]))))
def Zn7:Zd:=Zhp
def ZnL:=xw Zn7 Zhp rfl
def ZkU:Zd:=(.seq (.region [oI 8 (.mov (.c (.bool false)))] none [3,2,1,0]) (.seq (.seq (.region [oM 13 1,oI 14 (.len (.t 13)),oI 15 (.mov (.c (.int .i64 0)))] none [15,14,13,3,2,0]) (.block 0 (.loop [15,14,13,3,2,0] Zn7))) Zmv))
def Zjx:ZN:=⟨[(.tmp 8)],ZkU⟩
theorem ZBX:FC 30=some Zjx:=by kernel_rfl
theorem ZEi:Zjx.body=ZkU:=rfl
theorem ZC5:Zjx.res=[(.tmp 8)]:=rfl
noncomputable def Zin (m:Nat) (tm:Tms) (σ:Za):Option (AVal×Za):=(ZaC m Zjx (Zbf FC PR BY m Zmv (WE (ZaL 0) (evL FC PR BY m [15,14,13,3,2,0] Zn7 tm σ))))
def Zkr:Zd:=(.seq (.region [oI 4 (.mov (.c (.str [])))] none [1,0]) (.seq (.seq (.region [oM 5 0,oI 6 (.bin .eql (.t 5) (.c (.str [0])))] none [6,1,0]) (.cond (.t 6) (.seq (.region [oM 7 1,oM 4 7] none [4]) .ret) .skip)) (.seq (.region [oM 8 0,oI 9 (.bin .add (.t 8) (.c (.str [47]))),oM 10 1,oI 11 (.bin .add (.t 9) (.t 10)),oM 4 11] none [4]) .ret)))
def Zlp:ZN:=⟨[(.tmp 4)],Zkr⟩
theorem Zsx:FC 48=some Zlp:=by kernel_rfl
theorem Zui:Zlp.body=Zkr:=rfl
theorem ZrD:Zlp.res=[(.tmp 4)]:=rfl
def ZnR:Zd:=(.seq (.region [oI 2 (.mov (.c (.lst true [])))] none [0]) (.seq (.region [oM 3 0,oI 4 (.call 49 0 true [(.t 3),(.c (.fn 50 []))])] none [0]) (.seq (.region [oM 5 0,oM 2 5] none [2]) .ret)))
def ZmC:ZN:=⟨[(.tmp 2)],ZnR⟩
theorem ZIu:FC 36=some ZmC:=by kernel_rfl
theorem ZEM:ZmC.body=ZnR:=rfl
theorem ZCQ:ZmC.res=[(.tmp 2)]:=rfl
end
section
open Go.RowKit
inductive Ty where
 | bool
 | int (k:IntKind)
 | str
 | slice (s:Bool) (e:Ty)
 | struct (fs:List Ty)
 deriving Inhabited
def Zdl:Option TypeDesc->Bool
 | some (.struct _)=>true
 | some (.array _ _)=>true
 | _=>false
def Zid (P:Program):Nat->List Field->Nat->Bool
 | at',[],n=>at' == n
 | at',f::fs,n=>f.offset == at' && Zid P (at'+P.cellsOf f.type) fs n
def Zc7 (P:Program):Nat->TypeId->Option Ty
 | 0,_=>none
 | n+1,t=>match P.underlying t with
  | some .bool=>some .bool
  | some (.int k)=>some (.int k)
  | some .string=>some .str
  | some (.slice e)=>if 0 < P.cellsOf e then (Zc7 P n e).map (.slice (Zdl (P.underlying e))) else none
  | some (.struct fs)=>if Zid P 0 fs.toList (P.cellsOf t) then (fs.toList.mapM fun f=>Zc7 P n f.type).map .struct else none
  | _=>none
def Zcn (s:Bool) (y:List AVal):AVal:=if s then .agg y else y.headD .nilp
def Imm.of (w:World):Imm:=fun b o=>w.cell? ⟨b,o,none⟩
section
variable {H:Type} {enc:TypeId×Value->H} {P:Program} {w:World} {spare:Nat->Bool} {held:Bool}
theorem Zvx {b off:Nat} {s:Option Nat} {u:Value} (h:w.cell? ⟨b,off,s⟩=some u):s=none:=by
 unfold World.cell? at h
 split at h
 ·rcases s with _ | s
  ·rfl
  ·simp at h
 ·cases h
theorem ZDG {s:Bool} {y:List AVal} (h:s=false->y.length=1) (h1:s=false->∀ x ∈ y,ZJ x=true):(Zcn s y).cells=y:=by
 cases s with
 | true=>rfl
 | false =>
  match y,h rfl with
  | [x],_ =>
   have:=h1 rfl x (by simp)
   cases x <;> simp_all [Zcn,AVal.cells,ZJ]
theorem ZGS {a:Addr} (h:a.spot=none) (n:Nat):a.add n=⟨a.block,a.off+n,none⟩:=by
 unfold Addr.add
 split
 ·rename_i e;subst e;cases a;simp_all
 ·rfl
theorem ZCe {I:Imm} {β:Bmap} {xs:List AVal} {vs:List Value} {n:Nat} (h:VRs I β xs (vs.take n)) {ys:List AVal} (h':VRs I β ys (vs.drop n)):VRs I β (xs++ys) vs:=by
 have:=ZbP h h'
 rwa [Xba] at this
theorem ZsL {α β:Type} {f:α->Option β} {a:α} {l:List α} {r:List β} (h:(a::l).mapM f=some r):∃ b r',f a=some b/\l.mapM f=some r'/\r=b::r':=by
 rw [Xbr] at h
 simp only [Option.bind_eq_bind,Option.bind_eq_some_iff,Option.pure_def,Xa] at h
 obtain ⟨b,h1,r',h2,h3⟩:=h
 exact ⟨b,r',h1,h2,h3.symm⟩
theorem ZJW {a b:List AVal} (ha:Z9 a=true) (hb:Z9 b=true):Z9 (a++b)=true:=by
 induction a with
 | nil=>exact hb
 | cons x a ih=>simp only [XH,Z9,Xi] at ha ⊢;exact ⟨ha.1,ih ha.2⟩
theorem Ztx {I:Imm} {β:Bmap} {s:Bool} {k b:Nat}:∀ (n off:Nat) (Y:Nat->List AVal),(∀ i,i < n->(Zcn s (Y i)).cells.length=k/\CR I β (Zcn s (Y i)).cells b (off+i*k))->LR I β k ((Wn n).map fun i=>Zcn s (Y i)) b off
 | 0,off,Y,_=>by simp [LR]
 | n+1,off,Y,h=>by
  rw [List.range_succ_eq_map,Xx,ZfR]
  have h0:=h 0 (by omega)
  simp only [Xbp,Wo] at h0
  refine ⟨h0,?_⟩
  rw [Wb]
  exact Ztx n (off+k) (fun i=>Y (i+1)) (fun i hi=>by
   have:=h (i+1) (by omega)
   rw [show off+k+i*k=off+(i+1)*k by rw [XbE];omega]
   exact this)
theorem ZsE {I:Imm} {β:Bmap} {b:Nat}:∀ (xs:List AVal) (cs:List Value) (off:Nat),VRs I β xs cs->(∀ i,i < cs.length->I b (off+i)=cs[i]?)->CR I β xs b off
 | [],_,_,_,_=>by simp only [CR]
 | x::xs,cs,off,h,hI=>by
  simp only [VRs] at h
  obtain ⟨v,vs',rfl,h1,h2⟩:=h
  simp only [CR]
  refine ⟨⟨v,by have:=hI 0 (by simp);simpa using this,h1⟩,ZsE xs vs' (off+1) h2 fun i hi=>?_⟩
  have:=hI (i+1) (by simp;omega)
  rw [show off+1+i=off+(i+1) by omega,this]
  simp
theorem ZoE {s:Bool}:∀ (n:Nat) (Y:Nat->List AVal),(∀ i,i < n->Z9 (Zcn s (Y i)).cells=true)->ZM ((Wn n).map fun i=>Zcn s (Y i))=true
 | 0,Y,_=>by simp [ZM]
 | n+1,Y,h=>by
  rw [List.range_succ_eq_map,Xx,ZsH,h 0 (by omega),Wb]
  simp only [Xbz]
  exact ZoE n (fun i=>Y (i+1)) (fun i hi=>h (i+1) (by omega))
theorem ZsV {xs:List AVal} (h:Z9 xs=true):∀ x ∈ xs,ZJ x=true:=by
 induction xs with
 | nil=>intro x hx;simp at hx
 | cons y ys ih =>
  simp only [Z9,Xi] at h
  intro x hx
  rcases XB.1 hx with rfl | hx
  ·cases x <;> simp_all [Z2,ZJ]
  ·exact ih h.2 x hx
theorem Rel.start (w:World) (hG:Gl.le (Imm.of w)):Rel (fun b=>b < w.heap.size) w (Imm.of w) (Imm.of w) B0 [] w where
 below:=KB.refl _ w
 old:=fun _ _ _=>rfl
 imm:=fun _ _ _ h=>h
 blk:=fun t x h=>by simp at h
 own:=fun t x b h=>by simp at h
 apart:=fun t x t' x' b h=>by simp at h
 fresh:=fun _ _ _=>rfl
 free:=fun t g h=>by simp at h
 gen:=fun t b g h=>by simp at h
 glob:=hG
 ro:=fun t x b h=>by simp at h
theorem ZMC {O:ZG} (hO:Zae P O) {f:Nat} {args:List AVal} {vs:Array Value} {σ':Za} (hG:Gl.le (Imm.of w)) (hargs:VRs (Imm.of w) B0 args vs.toList) (h:O f args []=some (.bool true,σ')) :
  Calls P f vs w (fun e w'=>e=.returned (.bool true)/\Below w.heap.size w w'):=by
 refine ((hO f args [] _ _ h).2 _ w _ _ B0 w vs (fun b hb=>hb) (Rel.start w hG) hargs).mono ?_
 rintro e w' ⟨u,he,I',β',_,_,R,hv⟩
 simp only [Zao,VR] at hv
 subst hv
 exact ⟨he,R.below.os,R.below.tape,R.below.output,R.below.size,R.below.block⟩
end
end
section
open Go.RowKit
theorem ZDV (id:Nat) (tm:Tms) (σ:Za):ZaL id (.normal,tm,σ)=(.normal,tm,σ):=rfl
theorem ZHv (id i:Nat) (tm:Tms) (σ:Za):ZaL id (.exit i,tm,σ)=if i=id then (.normal,tm,σ) else (.exit i,tm,σ):=by simp only [ZaL]
theorem ZCv (id:Nat) (tm:Tms) (σ:Za):ZaL id (.ret,tm,σ)=(.ret,tm,σ):=rfl
theorem Zzm (id:Nat) (x:AVal) (tm:Tms) (σ:Za):ZaL id (.panic x,tm,σ)=(.panic x,tm,σ):=rfl
section
variable (O:ZG) (bf:Nat->Bool)
def Zdp (c:Cls):Option (Tms×Za×List Cls×Option AVal)->Option (Tms×Za×List Cls×Option AVal)
 | none=>none
 | some (tm,σ,cs,p)=>some (tm,σ,c::cs,p)
def ZfO (c:List Cls):Option (Tms×Za×List Cls×Option AVal)->Option (Tms×Za×List Cls×Option AVal)
 | none=>none
 | some (tm,σ,cs,p)=>some (tm,σ,c++cs,p)
def kC (d:Option Nat) (os:List AOp) (s:Nat) (tm:Tms):Option (AVal×Za×Cls)->Option (Tms×Za×List Cls×Option AVal)
 | none=>none
 | some (v,σ,c)=>if Zam v then some (tput tm d v,σ,[c],some (Zao v)) else Zdp c (ZI O bf os s (tput tm d v) σ)
def Zfl (ops:List AOp) (L:Nat) (l:List (Nat×Nat)) (live:List Nat):Option (Tms×Za×List Cls×Option AVal)->Option (ZA×Tms×Za)
 | none=>none
 | some (_,σ,cs,some x)=>if ZgV ops L l cs then some (.panic x,[],σ) else none
 | some (tm,σ,cs,none)=>if Zc1 ops L l cs then some (.normal,keepL live tm,σ) else none
variable {O bf}
theorem ZtY (s:Nat) (tm:Tms) (σ:Za):ZI O bf [] s tm σ=some (tm,σ,[],none):=rfl
theorem ZyV (c:Cls) (tm:Tms) (σ:Za) (cs:List Cls) (p:Option AVal):Zdp c (some (tm,σ,cs,p))=some (tm,σ,c::cs,p):=rfl
theorem ZxU (c:Cls):Zdp c none=none:=rfl
theorem ZJw (c:Cls) (q:Prop) [Decidable q] (x y:Option (Tms×Za×List Cls×Option AVal)):Zdp c (if q then x else y)=if q then Zdp c x else Zdp c y:=by split <;> rfl
theorem ZJd (c:List Cls) (tm:Tms) (σ:Za) (cs:List Cls) (p:Option AVal):ZfO c (some (tm,σ,cs,p))=some (tm,σ,c++cs,p):=rfl
theorem ZKh (c:List Cls):ZfO c none=none:=rfl
theorem ZMT (c:List Cls) (q:Prop) [Decidable q] (x y:Option (Tms×Za×List Cls×Option AVal)):ZfO c (if q then x else y)=if q then ZfO c x else ZfO c y:=by split <;> rfl
theorem Zjv {o:AOp} {os:List AOp} {s:Nat} {tm tm1:Tms} {σ σ1:Za} {v:AVal} {c:Cls} (h:Zw O bf o s tm σ=some (v,tm1,σ1,c)) (hn:Zam v=false):ZI O bf (o::os) s tm σ=Zdp c (ZI O bf os (s+nsite o.ins) tm1 σ1):=by
 rw [Zqm h hn]
 cases ZI O bf os (s+nsite o.ins) tm1 σ1 <;> rfl
theorem ZnJ (d:Option Nat) (i:Ins) (af:List Nat) (os:List AOp) (s:Nat) (tm:Tms) (σ:Za):ZI O bf (⟨d,i,none,af⟩::os) s tm σ=kC O bf d os (s+nsite i) tm (exI O bf i s tm σ):=by
 cases h:exI O bf i s tm σ with
 | none=>exact Zig (by rw [ZiT,h];rfl)
 | some q =>
  obtain ⟨v,σ1,c⟩:=q
  have hs:Zw O bf ⟨d,i,none,af⟩ s tm σ=some (v,tput tm d v,σ1,c):=by rw [ZiT,h];rfl
  cases hp:Zam v with
  | true =>
   obtain ⟨x,rfl⟩:=ZjI hp
   exact Zi9 hs
  | false =>
   rw [Zjv hs hp]
   simp only [kC,hp,Xg,if_false]
theorem ZnK (d:Option Nat) (os:List AOp) (s:Nat) (tm:Tms) (v:AVal) (σ:Za) (c:Cls) (h:Zam v=false):kC O bf d os s tm (some (v,σ,c))=Zdp c (ZI O bf os s (tput tm d v) σ):=by
 simp only [kC,h,Xg,if_false]
theorem ZJe (d:Option Nat) (os:List AOp) (s:Nat) (tm:Tms) (x:AVal) (σ:Za) (c:Cls):kC O bf d os s tm (some (.pan x,σ,c))=some (tput tm d (.pan x),σ,[c],some x):=rfl
theorem ZLc (d:Option Nat) (os:List AOp) (s:Nat) (tm:Tms):kC O bf d os s tm none=none:=rfl
theorem Zvq (d:Option Nat) (os:List AOp) (s:Nat) (tm:Tms) (q:Prop) [Decidable q] (x y:Option (AVal×Za×Cls)):kC O bf d os s tm (if q then x else y)=if q then kC O bf d os s tm x else kC O bf d os s tm y:=by split <;> rfl
theorem Zy3 (ops:List AOp) (l:List (Nat×Nat)) (live:List Nat) (tm:Tms) (σ:Za):Zcg O bf ops (some l) live tm σ=Zfl ops σ.length l live (ZI O bf ops σ.length tm (σ++Xq (sitesOf ops) .free)):=by
 unfold Zcg
 cases ZI O bf ops σ.length tm (σ++Xq (sitesOf ops) .free) with
 | none=>rfl
 | some q =>
  obtain ⟨tm',σ',cs,p⟩:=q
  cases p <;> rfl
theorem ZrZ (ops:List AOp) (L:Nat) (l:List (Nat×Nat)) (live:List Nat) (tm:Tms) (σ:Za) (cs:List Cls) (h:Zc1 ops L l cs=true):Zfl ops L l live (some (tm,σ,cs,none))=some (.normal,keepL live tm,σ):=by
 simp only [Zfl,h,if_true]
theorem ZzT (ops:List AOp) (L:Nat) (l:List (Nat×Nat)) (live:List Nat):Zfl ops L l live none=none:=rfl
theorem ZyN (ops:List AOp) (L:Nat) (l:List (Nat×Nat)) (live:List Nat) (q:Prop) [Decidable q] (x y:Option (Tms×Za×List Cls×Option AVal)):Zfl ops L l live (if q then x else y)=if q then Zfl ops L l live x else Zfl ops L l live y:=by split <;> rfl
theorem ZIM (ops:List AOp) (L:Nat) (l:List (Nat×Nat)) (cs:List Cls) (h:(cs.all fun c=>c.wr.isEmpty && !c.any)=true) (hs:(l.all fun p=>p.1 == p.2 || nsite (ops.getD p.1 default).ins == 0)=true):Zc1 ops L l cs=true:=by
 have hd:∀ i,ZcY (cs.getD i {})=true:=by
  intro i
  rw [XJ] at h
  rw [Xf]
  cases hi:cs[i]? with
  | none=>rfl
  | some c=>exact h c (Xu hi)
 unfold Zc1
 rw [XJ] at hs ⊢
 intro p hp
 have:=hs p hp
 rw [Bool.or_eq_true] at this ⊢
 rcases this with this | this
 ·exact Xm this
 ·refine Xr ?_
  unfold Zcj
  simp only [hd,this,Bool.and_true,Xbz,Bool.true_or,Bool.or_true]
theorem Zv2 (ops:List AOp) (L:Nat) (l:List (Nat×Nat)) (live:List Nat) (tm:Tms) (σ:Za) (cs:List Cls) (h:(cs.all fun c=>c.wr.isEmpty && !c.any)=true) (hs:(l.all fun p=>p.1 == p.2 || nsite (ops.getD p.1 default).ins == 0)=true):Zfl ops L l live (some (tm,σ,cs,none))=some (.normal,keepL live tm,σ) :=
 ZrZ _ _ _ _ _ _ _ (ZIM _ _ _ _ h hs)
variable (O bf) in
def gKC (os:List AOp) (s:Nat):Option (Tms×Za×List Cls×Option AVal)->Option (Tms×Za×List Cls×Option AVal)
 | none=>none
 | some (tm,σ,cs,some x)=>some (tm,σ,cs,some x)
 | some (tm,σ,cs,none)=>ZfO cs (ZI O bf os s tm σ)
theorem ZBF (os:List AOp) (s:Nat) (tm:Tms) (σ:Za) (cs:List Cls):gKC O bf os s (some (tm,σ,cs,none))=ZfO cs (ZI O bf os s tm σ):=rfl
theorem ZB2 (os:List AOp) (s:Nat) (q:Prop) [Decidable q] (x y:Option (Tms×Za×List Cls×Option AVal)):gKC O bf os s (if q then x else y)=if q then gKC O bf os s x else gKC O bf os s y:=by split <;> rfl
theorem Zz9 (os:List AOp) (s:Nat) (c:Cls) (r:Option (Tms×Za×List Cls×Option AVal)):gKC O bf os s (Zdp c r)=Zdp c (gKC O bf os s r):=by
 cases r with
 | none=>rfl
 | some q =>
  obtain ⟨tm,σ,cs,p⟩:=q
  cases p with
  | some x=>rfl
  | none =>
   simp only [Zdp,gKC]
   cases ZI O bf os s tm σ <;> rfl
theorem ZrQ:∀ (a b:List AOp) (s:Nat) (tm:Tms) (σ:Za),ZI O bf (a++b) s tm σ=gKC O bf b (s+sitesOf a) (ZI O bf a s tm σ)
 | [],b,s,tm,σ=>by
  simp only [Xp,ZtY,gKC,sitesOf,XW,List.sum_nil,Wo]
  cases ZI O bf b s tm σ <;> rfl
 | o::a,b,s,tm,σ=>by
  have ih:=ZrQ a b
  simp only [XH]
  have hs:s+nsite o.ins+sitesOf a=s+sitesOf (o::a):=by simp [sitesOf,WI]
  cases hst:Zw O bf o s tm σ with
  | none=>rw [Zig hst,Zig hst];rfl
  | some q =>
   obtain ⟨v,tm1,σ1,c⟩:=q
   cases hp:Zam v with
   | true =>
    obtain ⟨x,rfl⟩:=ZjI hp
    rw [Zi9 hst,Zi9 hst];rfl
   | false=>rw [Zjv hst hp,Zjv hst hp,ih,hs,Zz9]
variable (O bf) in
def Zd6 (j:Nat) (w:Bool) (g:List AOp) (s:Nat) (tm:Tms) (σ:Za):Option (Tms×Za×List Cls×Option AVal):=match Zbw (some (j,w)) tm with
 | none=>none
 | some false=>some (Z4 g tm,σ,g.map fun _=>{},none)
 | some true=>ZI O bf (g.map unG) s tm σ
theorem ZrX (j:Nat) (w:Bool):∀ (g:List AOp),(∀ o ∈ g,o.guard=some (j,w)/\o.dst≠some j)->∀ (s:Nat) (tm:Tms) (σ:Za),g≠[]->ZI O bf g s tm σ=Zd6 O bf j w g s tm σ
 | [],_,_,_,_,h=>absurd rfl h
 | o::g,hall,s,tm,σ,_=>by
  obtain ⟨hg,hd⟩:=hall o (by simp)
  have ih:∀ (tm:Tms) (σ:Za) (s:Nat),Zbw (some (j,w)) tm≠none->ZI O bf g s tm σ=Zd6 O bf j w g s tm σ:=by
   intro tm σ s hw
   by_cases he:g=[]
   ·subst he
    unfold Zd6
    cases hx:Zbw (some (j,w)) tm with
    | none=>exact absurd hx hw
    | some b=>cases b <;> rfl
   ·exact ZrX j w g (fun o ho=>hall o (by simp [ho])) s tm σ he
  cases hx:Zbw (some (j,w)) tm with
  | none =>
   rw [Zig (by simp only [Zw,hg,hx])]
   simp only [Zd6,hx]
  | some b =>
   cases b with
   | false =>
    have h1:ZI O bf (o::g) s tm σ=Zdp {} (ZI O bf g (s+nsite o.ins) (tput tm o.dst (.tup [])) σ) :=
     Zjv (v:=.tup []) (c:={}) (by simp only [Zw,hg,hx]) rfl
    rw [h1,ih _ _ _ (by rw [Zfc hd,hx];simp)]
    unfold Zd6
    rw [Zfc hd,hx]
    rfl
   | true =>
    have key:∀ r:Option (AVal×Za×Cls),(∀ v σ' c,r=some (v,σ',c)->Zam v=false->ZI O bf g (s+nsite o.ins) (tput tm o.dst v) σ'=ZI O bf (g.map unG) (s+nsite o.ins) (tput tm o.dst v) σ')->kC O bf o.dst g (s+nsite o.ins) tm r=kC O bf o.dst (g.map unG) (s+nsite o.ins) tm r:=by
     intro r hr
     cases r with
     | none=>rfl
     | some q =>
      obtain ⟨v,σ',c⟩:=q
      cases hp:Zam v with
      | true=>simp only [kC,hp,if_true]
      | false=>rw [ZnK _ _ _ _ _ _ _ hp,ZnK _ _ _ _ _ _ _ hp,hr v σ' c rfl hp]
    have h1:ZI O bf (o::g) s tm σ=kC O bf o.dst g (s+nsite o.ins) tm (exI O bf o.ins s tm σ):=by
     have h0:ZI O bf (o::g) s tm σ=ZI O bf (⟨o.dst,o.ins,none,o.after⟩::g) s tm σ:=by
      have hst:Zw O bf o s tm σ=Zw O bf ⟨o.dst,o.ins,none,o.after⟩ s tm σ:=by
       unfold Zw
       simp only [hg,hx]
       rfl
      simp only [ZI,hst]
     rw [h0,ZnJ]
    rw [h1]
    unfold Zd6
    rw [hx]
    simp only [Xx]
    rw [show unG o=⟨o.dst,o.ins,none,o.after⟩ from rfl,ZnJ]
    refine key _ fun v σ' c _ _=>?_
    rw [ih _ _ _ (by rw [Zfc hd,hx];simp)]
    unfold Zd6
    rw [Zfc hd,hx]
theorem ZBT (d:Option Nat) (i:Ins) (j:Nat) (w:Bool) (af:List Nat) (os:List AOp) (s:Nat) (tm:Tms) (σ:Za) (hd:decide (d=some j)=false) :
  ZI O bf (⟨d,i,some (j,w),af⟩::os) s tm σ=gKC O bf (Zs j w os).2 (s+sitesOf (⟨d,i,some (j,w),af⟩::(Zs j w os).1)) (Zd6 O bf j w (⟨d,i,some (j,w),af⟩::(Zs j w os).1) s tm σ):=by
 have h:=ZkW j w os
 have hall:∀ o ∈ (⟨d,i,some (j,w),af⟩::(Zs j w os).1:List AOp),o.guard=some (j,w)/\o.dst≠some j:=by
  intro o ho
  rcases XB.1 ho with rfl | ho
  ·exact ⟨rfl,by simpa using hd⟩
  ·exact ZmX j w os o ho
 rw [<-ZrX j w _ hall s tm σ (by simp),<-ZrQ,XH,h]
variable (O bf) in
def gWC (w:Bool) (g:List AOp) (s:Nat) (tm:Tms) (σ:Za):AVal->Option (Tms×Za×List Cls×Option AVal)
 | .bool b=>if b=w then ZI O bf (g.map unG) s tm σ else some (Z4 g tm,σ,g.map fun _=>{},none)
 | .tup []=>some (Z4 g tm,σ,g.map fun _=>{},none)
 | _=>none
theorem ZAF (j:Nat) (w:Bool) (g:List AOp) (s:Nat) (tm:Tms) (σ:Za):Zd6 O bf j w g s tm σ=gWC O bf w g s tm σ (tget tm j):=by
 unfold Zd6 Zbw
 simp only
 generalize tget tm j=v
 cases v
 case bool b=>cases b <;> cases w <;> rfl
 case tup vs=>cases vs <;> rfl
 all_goals rfl
theorem Zyk (w:Bool) (g:List AOp) (s:Nat) (tm:Tms) (σ:Za) (b:Bool):gWC O bf w g s tm σ (.bool b)=if b=w then ZI O bf (g.map unG) s tm σ else some (Z4 g tm,σ,g.map fun _=>{},none):=rfl
theorem ZI6 (w:Bool) (g:List AOp) (s:Nat) (tm:Tms) (σ:Za):gWC O bf w g s tm σ (.tup [])=some (Z4 g tm,σ,g.map fun _=>{},none):=rfl
theorem ZEK (q:Prop) [Decidable q] (t1 t2:Tms) (σ1 σ2:Za) (cs:List Cls):(if q then some (t1,σ1,cs,(none:Option AVal)) else some (t2,σ2,cs,none))=some ((if q then t1 else t2),(if q then σ1 else σ2),cs,none):=by split <;> rfl
end
section
theorem ZuX {r:AVal} {cs:List AVal} {σ:Za} (hr:Zac r=true) (hc:ZaB cs=true):gcA 1 [r] (.var cs::σ)=([r],[.var cs]):=by
 have e1:=(ZdJ (Ze (.var cs::σ) 1 [0]) r hr)
 have e2:=(Zd3 (Ze (.var cs::σ) 1 [0]) cs hc)
 have h1:Zn 1 [r] (.var cs::σ)=[0]:=by
  have : Zx [r]=[]:=by simp only [Zx,e1.2,XA]
  simp only [Zn,this,List.range_one,XI,X7,XA,XD,Zp,e2.2]
  rfl
 simp only [gcA,h1,Zo,e1.1,Zg,XD,Zm,e2.1]
theorem ZGL {r:AVal} {cs:List AVal} {σ:Za} (hr:Zac r=true) (hc:ZaB cs=true):Zaw 1 (.var cs::σ) r=some (r,[.var cs]):=by
 simp only [Zaw,ZuX hr hc]
theorem ZFb {σ:Za} {t:Nat} {cs:List AVal} (hs:σ[t]?=some (.var cs)) (hc:ZaB cs=true):Zi σ 1000 [t] []=[t]:=by
 have hd:σ.getD t .free=.var cs:=by simp [Xf,hs]
 have e2:=(Zd3 (fun _ _=>none) cs hc).2
 show Zi σ (999+1) [t] []=[t]
 simp only [Zi,List.contains_nil,Xg,if_false,hd,Zp,e2,Xp]
theorem Zyz {O:ZG} {bf:Nat->Bool} {σ:Za} {t sq f:Nat} {view:Bool} {rest:List AVal} {cs cs':List AVal} {r:AVal} (hs:σ[t]?=some (.var cs)) (hc:ZaB cs=true) (hc':ZaB cs'=true) (hb:bf f=false) (hp:rest.all Z6=true) (hr:Zbb r=true) (hn:Zac r=true) (hv:viewR [.var cs'] r=some (r,[]))
  (h:O f (.ref 0 0::rest.map ZV) [.var cs]=some (r,[.var cs'])):Zr O bf σ sq f 0 view (.ref t 0::rest)=some (r,σ.set t (.var cs'),{ any:=true,upd:=[(t,cs')] }):=by
 have htl:t < σ.length:=by
  rcases Xau t σ.length with h | h
  ·exact h
  ·rw [XN h] at hs;cases hs
 have hup:ZaK (σ.set t (.var cs')) [t]=[(t,cs')]:=by
  simp only [ZaK,List.getElem?_set,if_pos htl,if_true]
 have hd:σ.getD t .free=.var cs:=by simp [Xf,hs]
 have hf0:Zt σ []=σ:=rfl
 have hsh:showAs σ (.ref t 0::rest)=some (.ref t 0::rest.map ZV,[]):=by
  rw [showAs,show showA σ (.ref t 0)=some (.ref t 0,[]) from rfl,Zhx hp]
  rfl
 have href:Zx (.ref t 0::rest.map ZV)=[t]:=by
  rw [Zx,Zgy hp];rfl
 unfold Zr Zcd
 rw [hb]
 simp only [Xg,if_false,hsh,hf0,href,ZFb hs hc]
 unfold ZbH
 have hall:([t].all fun t=>okB (σ.getD t .free))=true:=by simp [X8,WC,hs,okB]
 rw [if_pos hall]
 have hρ:Ze σ 0 [t] t 0=some (0,0):=by simp [Ze,Zv,hs,Zb,Zu]
 have hheap:Zg σ 0 [t] (Ze σ 0 [t]) [t] 0=[.var cs]:=by
  simp only [Zg,hd,Zm,(Zd3 _ cs hc).1]
 have hargs:Zo (Ze σ 0 [t]) (.ref t 0::rest.map ZV)=.ref 0 0::rest.map ZV:=by
  rw [Zo,Zgf hp]
  simp only [Zf,hρ]
 rw [hargs,hheap,h]
 have hask:Zaj view [t].length (some (r,[.var cs']))=some (r,[.var cs']):=by
  unfold Zaj
  split
  ·have hnp:∀ x,r≠.pan x:=by rintro x rfl;simp [viewR,ZbI,Za0] at hv
   rw [show ZcE [t].length (some (r,[.var cs']))=(match viewR [.var cs'] r with
    | some (r',ts)=>match gcA [t].length [r'] (Zt [.var cs'] ts) with
     | ([r''],σ')=>some (r'',σ')
     | _=>none
    | none=>none) from by cases r <;> first | rfl | exact absurd rfl (hnp _)]
   rw [hv]
   simp only [XE,XP,XC,show Zt [Zk.var cs'] []=[.var cs'] from rfl,ZuX hn hc']
  ·rfl
 rw [hask]
 have hk:Z5 σ [t] [.var cs'] 0=true:=by
  simp [Z5,okB,hs,Za1,Zb]
 simp only [Zar,List.isEmpty_cons,Xg,if_false,XE,XP,XC,Wo,Xz,decide_true,hk,Zai,Wm,if_true,ZW,ZT,XD,Zm,(ZdJ _ r hn).1,(Zd3 _ cs' hc').1,hup]
end
end
section
section
variable (c:Prop) [Decidable c]
theorem ZFC (t1 t2:Tms) (σ1 σ2:Za):(if c then some (ZA.normal,t1,σ1) else some (ZA.normal,t2,σ2))=some (ZA.normal,(if c then t1 else t2),(if c then σ1 else σ2)):=by split <;> rfl
theorem ZzV (t1 t2:Tms) (σ1 σ2:Za):(if c then some (ZA.ret,t1,σ1) else some (ZA.ret,t2,σ2))=some (ZA.ret,(if c then t1 else t2),(if c then σ1 else σ2)):=by split <;> rfl
theorem Zv1 (t1 t2:Tms) (σ1 σ2:Za):(if c then some (t1,σ1,(none:Option AVal)) else some (t2,σ2,none))=some ((if c then t1 else t2),(if c then σ1 else σ2),none):=by split <;> rfl
theorem ZK4 (n:Nat) (a b:AVal):(if c then (n,a) else (n,b))=(n,if c then a else b):=by split <;> rfl
theorem Zzh (a b:AVal) (σ1 σ2:Za):(if c then some (a,σ1) else some (b,σ2))=some ((if c then a else b),(if c then σ1 else σ2)):=by split <;> rfl
theorem ZI9 (a b:AVal) (σ1 σ2:Za) (x y:Cls):(if c then some (a,σ1,x) else some (b,σ2,y))=some ((if c then a else b),(if c then σ1 else σ2),if c then x else y):=by split <;> rfl
end
theorem Zzq (ops:List AOp) (b:Nat) (cs:List Cls):Zc1 ops b [] cs=true:=rfl
theorem ZMw (ops:List AOp) (b:Nat) (p:Nat×Nat) (l:List (Nat×Nat)) (cs:List Cls):Zc1 ops b (p::l) cs=((p.1 == p.2 || Zcj (ops.getD p.1 default) (ops.getD p.2 default) (cs.getD p.1 {}) (cs.getD p.2 {}) (b+sitesOf (ops.take p.1))) && Zc1 ops b l cs):=by
 simp only [Zc1,X8]
theorem Zw4 (oj oi:AOp) (cj ci:Cls) (sj:Nat):Zcj oj oi cj ci sj=(Zb5 oj cj || Zb5 oi ci || (ZcY cj && ZcY ci && (nsite oj.ins == 0 || !ci.rd.contains sj)) || ((Zat oj.ins || (ZaM oj.ins && !cj.any)) && (ZcY ci && ci.rd.isEmpty)) || (Zay oj.ins && Zat oi.ins && ci.any && ZaS cj ci) || (Zay oj.ins && (ZaM oi.ins || (Za9 oi.ins && ZbA cj ci)) && ZaS cj ci) || (Zbr oj.ins && Zbp oi.ins) || (Zat oj.ins && Zay oi.ins && cj.any && ZbE cj ci sj) || (((ZaM oj.ins && !cj.any) || Za9 oj.ins) && ZcY ci && nsite oi.ins == 0 && ci.rd.all fun t=>!cj.wr.contains t && t != sj) || (Zay oj.ins && Zat oi.ins && ci.any && cj.nd)):=rfl
theorem ZKS (o:AOp) (rd wr:List Nat) (any:Bool) (got:List (Nat×Option Nat×Nat×AVal)) (upd:List (Nat×List AVal)) (nd:Bool):Zb5 o ⟨rd,wr,any,got,upd,nd⟩=(nsite o.ins == 0 && rd.isEmpty && wr.isEmpty && !any):=rfl
theorem ZEH (rd wr:List Nat) (any:Bool) (got:List (Nat×Option Nat×Nat×AVal)) (upd:List (Nat×List AVal)) (nd:Bool):ZcY ⟨rd,wr,any,got,upd,nd⟩=(wr.isEmpty && !any):=rfl
theorem Zau {α:Type} {l:List α} {i:Nat} {x:α} {r:List α} (h:l.drop i=x::r):l[i]?=some x/\l.drop (i+1)=r/\i < l.length:=by
 have h1:i < l.length:=by
  rcases Xau i l.length with h1 | h1
  ·exact h1
  ·rw [List.drop_eq_nil_of_le h1] at h;cases h
 rw [List.drop_eq_getElem_cons h1] at h
 injection h with h2 h3
 exact ⟨by rw [Xl h1,h2],h3,h1⟩
theorem ZcS {α:Type} {l:List α} {i:Nat} (h:l.drop i=[]):¬(i:Int) < l.length:=by
 have:=List.drop_eq_nil_iff.1 h;omega
theorem iad {α:Type} {l:List α} {i:Nat} {x:α} (h:l[i]?=some x) (f:α->AVal) {k:Nat} (hk:(f x).cells.length=k) (σ:Za) (n:Bool) (kk:IntKind):Zbd σ k (.lst n (l.map f)) (.int kk (i:Int))=some (.iptr (f x).cells 0,σ,{}):=by
 have h0:(0:Int)<=(i:Int):=Int.natCast_nonneg i
 unfold Zbd
 simp only [h0,if_true,XY,XM,h,XQ,hk]
theorem Zbx {n:Int} (h0:-9223372036854775808<=n) (h:n<=9223372036854775807):IntKind.i64.wrap n=n:=by
 rw [IntKind.wrap_i64];omega
theorem ZbG {i n:Nat} (h:(i:Int) < n) (hn:n<=9223372036854775807):IntKind.i64.wrap ((i:Int)+1)=((i+1:Nat):Int):=by
 rw [Zbx (by omega) (by omega)];rfl
theorem Za6 {O:ZG} {bf:Nat->Bool} {f:Nat} {args:List AVal} {r:AVal} (h:O f args []=some (r,[])) (hb:bf f=false) (hp:args.all Z6=true) (hn:args.map ZV=args) (hv:ZcE 0 (some (r,[]))=some (r,[])) (hr:∀ sq,Zf (Zaf [] [] sq) r=r) (σ:Za) (sq own:Nat) (view:Bool):Zr O bf σ sq f own view args=some (r,σ,{}):=by
 rw [Zol hb hp,hn,h]
 have : Zaj view 0 (some (r,[]))=some (r,[]):=by
  unfold Zaj
  split
  ·exact hv
  ·rfl
 rw [this,ZlO _ _ _ _ (hr sq)]
abbrev ZiG:=List UInt8
structure ZMX where
 id:Int
 num:Int
 text:ZiG
 pair:ZiG
 data:ZiG
 deriving DecidableEq
theorem ZKJ (l:ZiG):ZeQ (l.map Z3)=some l:=by
 induction l with
 | nil=>rfl
 | cons b l ih =>
  simp only [Xx,ZeQ,ih,Z3,Zls,XY,UInt8.ofNat_toNat]
end
end Go.Proofs.YtbjflkbenobjjaaDoor
