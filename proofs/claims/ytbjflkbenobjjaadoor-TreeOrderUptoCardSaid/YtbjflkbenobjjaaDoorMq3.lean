/- packed -/
import Derived.Test.YtbjflkbenobjjaaDoorMq2
import Derived.Maps.RangeRun
import Derived.Scope
import Derived.Lib.Index
import Derived.Shelf.Unicode.ValidAny
import Derived.Shelf.Strings.Count
import Derived.Sort.Row
import Derived.Sort.Grow
import Derived.Shelf.SlSortCmp.NoneTotal
import Derived.Lib.Bytealg
import Derived.Test.YtbjflkbenobjjaaDoorProg
import Derived.Deep.Slices
import Derived.ChangeArms
import Derived.WideShapes
import GoSem.ClaimChange
set_option linter.defProp false
set_option linter.unusedSectionVars false
set_option linter.unusedSimpArgs false
set_option linter.unusedVariables false
open Option.some renaming injEq→Xa
open Prod.mk renaming injEq→Xb
open List renaming getElem?_eq_some_iff→Xc,getD_eq_getElem?_getD→Xe,all_cons→Xr,getD_cons_zero→Xs,getElem?_eq_getElem→Xu,length_cons→Xv,all_nil→Xy,mem_append→Xz,mem_of_getElem?→XA,length_nil→XC,nil_append→XE,getElem?_set_ne→XF,mem_cons→XH,map_cons→XI,mem_map→XJ,replicate→XK,length_append→XL,lookup_cons→XN,getElem?_cons_zero→XO,cons_append→XP,all_eq_true→XS,flatMap_cons→XT,append_nil→XU,getElem?_map→XY,getElem?_eq_none→X0,mem_singleton→X2,getElem?_cons_succ→X3,eq_nil_of_length_eq_zero→X7,map_nil→X9,nodup_cons→Wb,map_append→Wd,zip_cons_cons→Wi,ext_getElem?→Wk,map_map→Wm,mem_filter→Wq,range→Wt,flatMap_nil→Wu,filterMap_cons→Wx,length_map→WC,length_singleton→WD,mem_iff_getElem?→WP,mem_range→WV,nodup_append→WZ,contains_eq_mem→Xar,drop_zero→XaR,mergeSort_perm→XaV,not_lt→XaW,pairwise_mergeSort→Xa0,take_append_drop→Xa9,nodup_range→Xbd,le_antisymm→Xbe,mapM_cons→Xbq,lt_irrefl→Xbr,Perm→Xbt,flatten_cons→Xbv,map_take→XbL
open Bool renaming false_eq_true→Xi,and_eq_true→Xp,not_eq_true'→Wg,and_self→Wy,false_and→Xac,true_or→Xae,true_and→Xbh
open Option renaming map_eq_some_iff→Xq,bind_some→XR,map_some→XZ,getD_some→WE,map→W0,isSome_none→XaG
open Or renaming inl→Xw,inr→XD
open Array renaming getElem?_eq_some_iff→XG,length_toList→X1,getElem?_setIfInBounds_ne→X4,getElem?_toList→WQ,getD_eq_getD_getElem?→W4,getElem?_modify→Xam,getElem?_eq_getElem→Xaq,replicate→Xbm
open Nat renaming zero_add→XM,le_refl→XQ,add_zero→Ws,le_max_right→WB,add_assoc→WK,le_max_left→WS,lt_or_ge→Xav,zero_mul→Xbp,succ_mul→XbB
open ByteArray renaming size→WT
open Ne renaming symm→W5
open List.cons renaming injEq→W7
open Int renaming toNat_natCast→Xaa
open List.Perm renaming refl→XaE
open SizeOf renaming sizeOf→XaZ
open Function renaming comp_def→Xbu
namespace Go.Proofs.YtbjflkbenobjjaaDoor
set_option maxHeartbeats 16000000
set_option maxRecDepth 10000
section
open Go.RowKit
open Go.ChangeMaps (setBlock)
theorem Zqm:∀ (js L:List Nat),js.Nodup->(∀ j ∈ js,j ∈ L)->L.Nodup->∃ rest,L.Perm (js++rest)
 | [],L,_,_,_=>⟨L,XaE _⟩
 | j::js,L,hn,hs,hL=>by
  have hj:j ∈ L:=hs j (by simp)
  have hp:L.Perm (j::L.erase j):=List.perm_cons_erase hj
  obtain ⟨rest,hr⟩:=Zqm js (L.erase j) (Wb.1 hn).2 (fun k hk=>by
   have hne:k≠j:=by rintro rfl;exact (Wb.1 hn).1 hk
   exact (List.mem_erase_of_ne hne).2 (hs k (by simp [hk]))) (hL.erase j)
  exact ⟨rest,hp.trans (by simpa using Xbt.cons j hr)⟩
theorem ZGY {α:Type} (es:List α) (d:α):(Wt es.length).map (es.getD · d)=es:=by
 apply Wk
 intro i
 rw [XY]
 by_cases h:i < es.length
 ·rw [List.getElem?_range h];simp [Xe,h]
 ·rw [X0 (by simpa using h),X0 (by omega)];rfl
theorem Zi0:∀ {σ σ':Za} {u:Nat} {b:Zy},Zd7 σ σ'=true->σ'[u]?=some b->Ze1 b=true->∃ a,σ[u]?=some a/\Zfx a b=true
 | _,[],u,b,_,h,_=>by simp at h
 | [],x::r,u,b,h,hu,hb=>by
  simp only [Zd7,Xp,Wg] at h
  cases u with
  | zero =>
   simp only [XO,Xa] at hu
   subst hu
   rw [h.1] at hb;cases hb
  | succ u =>
   obtain ⟨a,h1,_⟩:=Zi0 h.2 (by simpa using hu) hb
   simp at h1
 | a::s,x::r,u,b,h,hu,hb=>by
  simp only [Zd7,Xp] at h
  cases u with
  | zero =>
   simp only [XO,Xa] at hu
   subst hu
   exact ⟨a,rfl,h.1⟩
  | succ u =>
   obtain ⟨a',h1,h2⟩:=Zi0 h.2 (by simpa using hu) hb
   exact ⟨a',by simpa using h1,h2⟩
theorem ZtR {arr:Array MapEntry} {seen:Array Nat} {e:MapEntry} (h:e ∈ (leftOf arr seen).toList):e ∈ arr.toList/\seen.contains e.born=false:=by
 unfold leftOf at h
 simp only [Array.toList_filter,Wq,Wg] at h
 exact h
theorem ZEJ {arr:Array MapEntry} {seen:Array Nat} (h:(leftOf arr seen).size=0):∀ e ∈ arr.toList,seen.contains e.born=true:=by
 intro e he
 cases hc:seen.contains e.born with
 | true=>rfl
 | false =>
  have hm:e ∈ (leftOf arr seen).toList:=by
   unfold leftOf
   simp only [Array.toList_filter,Wq,Wg]
   exact ⟨he,hc⟩
  have : (leftOf arr seen).toList=[]:=by
   apply X7
   simpa using h
  rw [this] at hm;cases hm
section
variable {P:Program} {O:Z7} {bf:Nat->Bool} {an:Ann} {base base':Nat->Prop} {w0 w w' w1 w2:World} {I0 I I' I1 I2:Imm} {β β' β1 β2:Bmap} {σ σ' σ1 σ2:Za} {dr:Door}
theorem noO:ZaC P (fun _ _ _=>none):=by intro f args σ r σ' h;cases h
theorem ZhP {ops:Array Oper} {Q:Exit->Act->World->Prop} {o:Oper} {l:List Oper} {a:Act} {w:World} (hg:o.guard=none) (h:o.wp P a w (wpList P ops Q l) Q):wpList P ops Q (o::l) a w:=by
 unfold wpList
 have : Region.wanted o (yielded ops a.tmps)=true:=by unfold Region.wanted;rw [hg]
 rw [this]
 simp only [if_true]
 exact Xw h
theorem pgs {a:Act} {d:Nat} {u:Value} (h:d < a.tmps.size):(a.put (some d) u).tmps.getD d undef=u:=by
 simp [Act.put,Array.getD,h]
theorem ZjH {m:Sem Value} {u:Value} (h:m.run P w=.ok u w):(do let q <-m;pure (Next.value q):Sem Next).run P w=.ok (.value u) w:=by
 rw [Sem.run_bind,h];rfl
theorem pgn {a:Act} {d j:Nat} {u:Value} (h:d≠j):(a.put (some d) u).tmps.getD j undef=a.tmps.getD j undef:=by
 simp only [Act.put,W4]
 rw [X4 h]
def StF (dr:Door) (m nt:Nat) (base:Nat->Prop) (w0:World) (I0 I:Imm) (β:Bmap) (tm:Tms) (σ:Za) (a:Act) (w:World):Prop :=
 ∃ I' β',I.le I'/\KeptE m β β'/\TR I' β' tm a.tmps/\(dr.ok a/\nt<=a.tmps.size)/\Rel base w0 I0 I' β' σ w
def ZnG (dr:Door) (m:Nat) (an:Ann) (base:Nat->Prop) (w0:World) (I0 I:Imm) (β:Bmap) (e:Z1) (tm:Tms) (σ:Za) (Q:Exit->Act->World->Prop):Prop:=match e with
 | .normal=>∀ a w,StF dr m an.nt base w0 I0 I β tm σ a w->Q .normal a w
 | .exit id=>∀ a w,StF dr m an.nt base w0 I0 I β tm σ a w->Q (.exit id) a w
 | .ret=>∀ a w,StF dr m an.nt base w0 I0 I β tm σ a w->Q .ret a w
 | .panic x=>∀ a u w,dr.ok a->Zcm m base w0 I0 I β (.pan x) σ u w->Q (.panic [{ v:=u,recovered:=false }]) a w
theorem ZmI (hO:ZaC P O) (hkp:∀ n ∈ dr.K,n ∈ an.keep) (hb:KLt base w0) {ops:Array Oper} {Q:Exit->Act->World->Prop} {r:List Oper}:∀ {l:List Oper} {asl:List AOp} {sq:Nat} {I:Imm} {β:Bmap} {tm tm':Tms} {σ σ':Za} {cs:List Cls} {a:Act} {w:World},ZcU P an ops l=some asl->TR I β tm a.tmps->(dr.ok a/\an.nt<=a.tmps.size)->Rel base w0 I0 I β σ w ->
  Z6 O bf asl sq tm σ=some (tm',σ',cs,none)->(∀ a' w',StR dr an.nt base w0 I0 I β tm' σ' a' w'->wpList P ops Q r a' w')->wpList P ops Q (l++r) a w
 | [],asl,sq,I,β,tm,tm',σ,σ',cs,a,w,hc,T,hd,R,h,hQ=>by
  simp only [ZcU,Xa] at hc;subst hc
  simp only [Z6,Xa,Xb] at h
  obtain ⟨rfl,rfl,rfl,_⟩:=h
  exact hQ _ _ ⟨I,β,Imm.le.refl I,Bmap.le.refl β,T,hd,R⟩
 | o::l,asl,sq,I,β,tm,tm',σ,σ',cs,a,w,hc,T,hd,R,h,hQ=>by
  simp only [ZcU] at hc
  split at hc
  ·rename_i ao hao
   split at hc
   ·rename_i as' has'
    injection hc with hc;subst hc
    simp only [Z6] at h
    split at h
    ·cases h
    ·simp only [Xa,Xb] at h
     obtain ⟨_,_,_,h⟩:=h
     cases h
    ·rename_i v tm1 σ1 c1 hnp h1
     split at h
     ·cases h
     rename_i tm2 σ2 cs2 p2 h2
     simp only [Xa,Xb] at h
     obtain ⟨rfl,rfl,rfl,rfl⟩:=h
     have:=Zho (dr:=dr) (K:=wpList P ops Q (l++r)) (Q:=Q) hO hkp hao T hd R hb h1 (fun _ a' w' hs=>by
      obtain ⟨I',β',g1,g2,g3,g4,g5⟩:=hs
      exact ZmI hO hkp hb has' g3 g4 g5 h2 (fun a'' w'' hs'=>hQ a'' w'' (hs'.trans g1 g2))) (fun x e=>absurd e (fun e=>hnp x e))
     rw [XP]
     unfold wpList
     exact this
   ·cases hc
  ·cases hc
theorem Zq2 {asl:List AOp} {tm tm':Tms} (h:ZcX bf asl tm σ=some (tm',σ')):∃ cs,Z6 (fun _ _ _=>none) bf asl σ.length tm σ=some (tm',σ',cs,none):=by
 unfold ZcX at h
 split at h
 ·rename_i tm1 σ1 cs h1
  simp only [Xa,Xb] at h
  obtain ⟨rfl,rfl⟩:=h
  exact ⟨cs,h1⟩
 ·cases h
theorem ZyN {m:Nat} {x:AVal} {v:Value} (hx:Zeg m x=true) (hk:KeptE m β β') (h:VR I β x v):VR I' β' x v\/(∃ a xs,x=.lst a xs):=by
 cases x with
 | int | bool | str | nilp | nilm | nili=>exact Xw h
 | lst a xs=>exact XD ⟨a,xs,rfl⟩
 | sl t g lo n =>
  simp only [Zeg,Xp,decide_eq_true_eq] at hx
  obtain ⟨rfl,ht⟩:=hx
  simp only [VR] at h ⊢
  obtain ⟨bi,e,h⟩:=h
  exact Xw ⟨bi,hk.zero ht e,h⟩
 | ref t o =>
  simp only [Zeg,decide_eq_true_eq] at hx
  simp only [VR] at h ⊢
  obtain ⟨b,k,c,e,h⟩:=h
  exact Xw ⟨b,k,c,hk.zero hx e,h⟩
 | map t =>
  simp only [Zeg,decide_eq_true_eq] at hx
  simp only [VR] at h ⊢
  obtain ⟨b,k,c,e,h⟩:=h
  exact Xw ⟨b,k,c,hk.zero hx e,h⟩
 | nref t j o =>
  simp only [Zeg,decide_eq_true_eq] at hx
  simp only [VR] at h ⊢
  obtain ⟨b,k,c,e,h⟩:=h
  exact Xw ⟨b,k,c,hk t hx _ _ (XD (by omega)) e,h⟩
 | _=>simp [Zeg] at hx
theorem ZtU {a:Bool} {xs:List AVal} {v:Value} (hI:I.le I') (h:VR I β (.lst a xs) v):VR I' β' (.lst a xs) v:=by
 have ht:Zaq (.lst a xs)=true:=by
  simp only [VR] at h
  obtain ⟨A,cap,_,_,_,_,_,ht⟩:=h
  simpa [Zaq] using ht
 exact (VR.of_tree (β':=β') ht h).mono hI (Bmap.le.refl _) _ _
theorem ZsV {m:Nat} {x:AVal} {v:Value} (hx:Zeg m x=true) (hI:I.le I') (hk:KeptE m β β') (h:VR I β x v):VR I' β' x v:=by
 rcases ZyN (I':=I') hx hk h with h | ⟨a,xs,rfl⟩
 ·exact h
 ·exact ZtU hI h
theorem ZqE {m:Nat} (hI:I.le I') (hk:KeptE m β β'):∀ {cs:List AVal} {vs:List Value},cs.all (Zeg m)=true->VRs I β cs vs->VRs I' β' cs vs
 | [],vs,_,h=>h
 | x::cs,vs,hx,h=>by
  rw [Xr,Xp] at hx
  simp only [VRs] at h ⊢
  obtain ⟨v,vs',rfl,h1,h2⟩:=h
  exact ⟨v,vs',rfl,ZsV hx.1 hI hk h1,ZqE hI hk hx.2 h2⟩
theorem ZEe {m:Nat} {x:AVal} {v:Value} (hx:ZgQ m x=true) (hI:I.le I') (hk:KeptE m β β') (h:VR I β x v):VR I' β' x v:=by
 cases x with
 | agg cs =>
  simp only [VR] at h ⊢
  obtain ⟨us,rfl,h⟩:=h
  exact ⟨us,rfl,ZqE hI hk hx h⟩
 | _=>exact ZsV hx hI hk h
theorem ZlQ {m:Nat} (hI:I.le I') (hk:KeptE m β β'):∀ {cs:List AVal} {vs:List Value},(∀ x ∈ cs,ZgQ m x=true)->VRs I β cs vs->VRs I' β' cs vs
 | [],vs,_,h=>h
 | x::cs,vs,hx,h=>by
  simp only [VRs] at h ⊢
  obtain ⟨v,vs',rfl,h1,h2⟩:=h
  exact ⟨v,vs',rfl,ZEe (hx x (by simp)) hI hk h1,ZlQ hI hk (fun y hy=>hx y (by simp [hy])) h2⟩
theorem Zkt:∀ {cs:List AVal} {vs:List Value},(∀ x ∈ cs,Zcl x=true)->VRs I β cs vs->VRs I' β' cs vs
 | [],vs,_,h=>h
 | x::cs,vs,hx,h=>by
  simp only [VRs] at h ⊢
  obtain ⟨v,vs',rfl,h1,h2⟩:=h
  refine ⟨v,vs',rfl,?_,Zkt (fun y hy=>hx y (by simp [hy])) h2⟩
  have:=hx x (by simp)
  cases x <;> simp [Zcl] at this <;> exact h1
theorem Rel.rebase (R:Rel base w0 I0 I β σ w) {r:Nat} (hr:∀ t x,σ[t]?=some x->¬Zk w β t x r):Rel (fun k=>base k\/k=r) w I I β σ w where
 below:=KB.refl _ _
 old:=fun _ _ _=>rfl
 imm:=R.imm
 blk:=R.blk
 own:=fun t x b hx hb=>⟨fun h=>by
  rcases h with h | rfl
  ·exact (R.own t x b hx hb).1 h
  ·exact hr t x hx hb,(R.own t x b hx hb).2⟩
 apart:=R.apart
 fresh:=R.fresh
 free:=R.free
 gen:=R.gen
 glob:=R.glob
 ro:=fun t x b h hs=>Xw (R.ro t x b h hs)
theorem Rel.unbase (R1:Rel base w0 I0 I1 β1 σ1 w1) (R2:Rel base' w1 I1 I2 β2 σ2 w2) (hs:∀ k,base k->base' k) (hro:∀ t x b,σ2[t]?=some x->Zaz β2 t x b->base b):Rel base w0 I0 I2 β2 σ2 w2 where
 below:=R1.below.trans (R2.below.mono hs)
 old:=fun b o h=>(R2.old b o (hs b h)).trans (R1.old b o h)
 imm:=R2.imm
 blk:=R2.blk
 own:=fun t x b hx hb=>⟨fun h=>(R2.own t x b hx hb).1 (hs b h),(R2.own t x b hx hb).2⟩
 apart:=R2.apart
 fresh:=R2.fresh
 free:=R2.free
 gen:=R2.gen
 glob:=R2.glob
 ro:=hro
def ZdV:Zy->Bool
 | .map _=>true
 | .rmap _=>true
 | .arena _=>true
 | .rarena _=>true
 | _=>false
theorem Zud {t:Nat} {B:Zy} (h:BR I β w t B):BR I β w t (roB B):=by cases B <;> exact h
theorem Zyc (B:Zy):Zb (roB B)=Zb B:=by cases B <;> rfl
theorem Zmk {t k:Nat} {B:Zy} (hm:ZdV B=true):¬Zk w β t (roB B) k:=by cases B <;> simp [ZdV] at hm <;> exact fun h=>h
theorem ZqS {t k:Nat} {B:Zy} (hm:ZdV B=true) (h:Zk w β t B k):Zaz β t (roB B) k:=by cases B <;> simp [ZdV] at hm <;> first | exact h | cases h
theorem ZkM {t k:Nat} {B:Zy} (hm:ZdV B=true) (h:Zaz β t (roB B) k):Zk w β t B k\/Zaz β t B k:=by
 cases B <;> simp [ZdV] at hm
 ·exact Xw h
 ·exact XD h
 ·exact Xw h
 ·exact XD h
theorem ZDM {B:Zy} (hm:ZdV B=true):roB B≠.free:=by cases B <;> simp [ZdV] at hm <;> simp [roB]
theorem Zp3 {t:Nat} {x:AVal} {B:Zy} {es:List (AVal×AVal)} (h:Zf0 σ x=some (t,B,es)):σ[t]?=some B/\ZdV B=true/\((x=.map t/\(B=.map es\/B=.rmap es))\/∃ j nx ns nd,x=.mapg t j nx/\(B=.arena ns\/B=.rarena ns)/\ns[j]?=some nd/\es=ZbS t nd nx):=by
 unfold Zf0 at h
 split at h
 ·split at h
  ·rename_i hs
   simp only [Xa,Xb] at h
   obtain ⟨rfl,rfl,rfl⟩:=h
   exact ⟨hs,rfl,Xw ⟨rfl,Xw rfl⟩⟩
  ·rename_i hs
   simp only [Xa,Xb] at h
   obtain ⟨rfl,rfl,rfl⟩:=h
   exact ⟨hs,rfl,Xw ⟨rfl,XD rfl⟩⟩
  ·cases h
 ·rename_i t' j nx
  split at h
  ·rename_i ns hs
   split at h
   ·rename_i nd hj
    simp only [Xa,Xb] at h
    obtain ⟨rfl,rfl,rfl⟩:=h
    exact ⟨hs,rfl,XD ⟨j,nx,ns,nd,rfl,Xw rfl,hj,rfl⟩⟩
   ·cases h
  ·rename_i ns hs
   split at h
   ·rename_i nd hj
    simp only [Xa,Xb] at h
    obtain ⟨rfl,rfl,rfl⟩:=h
    exact ⟨hs,rfl,XD ⟨j,nx,ns,nd,rfl,XD rfl,hj,rfl⟩⟩
   ·cases h
  ·cases h
 ·cases h
theorem Zpb {t b:Nat} {x:AVal} {B:Zy} {es:List (AVal×AVal)} (hB:BR I β w t B) (h:(x=.map t/\(B=.map es\/B=.rmap es))\/∃ j nx ns nd,x=.mapg t j nx/\(B=.arena ns\/B=.rarena ns)/\ns[j]?=some nd/\es=ZbS t nd nx) (hx:VR I β x (.map (some b))) :
  ∃ arr clk,w.heap[b]?=some (.map arr clk)/\MapW I β es arr clk/\Zaz β t (roB B) b:=by
 rcases h with ⟨rfl,h⟩ | ⟨j,nx,ns,nd,rfl,h,hj,rfl⟩
 ·simp only [VR] at hx
  obtain ⟨b',k,c,e1,e2⟩:=hx
  injection e2 with e2
  injection e2 with e2
  subst e2
  have hB':BR I β w t (.map es):=by rcases h with rfl | rfl <;> exact hB
  obtain ⟨b2,k2,c2,arr,clk,e3,e4,e5⟩:=hB'
  rw [e1] at e3
  simp only [Xa,BI.mk.injEq] at e3
  obtain ⟨rfl,rfl,rfl⟩:=e3
  refine ⟨arr,clk,e4,e5,?_⟩
  rcases h with rfl | rfl <;> simp [roB,Zaz,e1]
 ·simp only [VR] at hx
  obtain ⟨b',k,c,e1,e2⟩:=hx
  injection e2 with e2
  injection e2 with e2
  subst e2
  have hA:ArenaW I β w t ns:=by rcases h with rfl | rfl <;> exact hB
  obtain ⟨b2,k2,c2,arr,clk,e3,e4,e5,e6,e7,e8⟩:=(hA.1 j nd hj).mapBlk nx
  rw [e1] at e3
  simp only [Xa,BI.mk.injEq] at e3
  obtain ⟨rfl,rfl,rfl⟩:=e3
  refine ⟨arr,clk,e4,⟨e5,e6,e7,e8⟩,?_⟩
  have:=Zfd (Xc.1 hj).1 e1
  rcases h with rfl | rfl <;> exact this
theorem ArenaW.kind {t b:Nat} {ns:Zad} (A:ArenaW I β w t ns) (hb:Zbu β t ns b):(∃ us ty,w.heap[b]?=some (.cells us ty (0,0)))\/∃ arr clk,w.heap[b]?=some (.map arr clk):=by
 obtain ⟨g,g1,g2,hb⟩:=hb
 obtain ⟨i,hi,hg⟩:=ZmQ g1 g2
 obtain ⟨nd,hnd⟩:∃ nd,ns[i]?=some nd:=⟨_,Xu hi⟩
 obtain ⟨bs,k0,c0,us,ty,bv,k1,c1,arr,clk,bn,k2,c2,arr',clk',h0,h1,h2,⟨a1,a2⟩,⟨b1,_⟩,d1,_⟩:=A.1 i nd hnd
 rcases hg with rfl | rfl | rfl
 ·rw [h0] at hb;simp only [XR,Xa] at hb;subst hb;exact Xw ⟨_,_,a1⟩
 ·rw [h1] at hb;simp only [XR,Xa] at hb;subst hb;exact XD ⟨_,_,b1⟩
 ·rw [h2] at hb;simp only [XR,Xa] at hb;subst hb;exact XD ⟨_,_,d1⟩
theorem ZIy {t b:Nat} {x:Zy} (h:BR I β w t x) (hs:Zaz β t x b) {m:Option Nat} {l:Array Nat} {c c':Nat}:w.heap[b]?≠some (.mapIter m c l c'):=by
 cases x with
 | rmap es =>
  obtain ⟨b2,_,_,_,_,e1,e2,_⟩:=h
  simp only [Zaz,e1,XR,Xa] at hs
  subst hs
  intro h3;rw [e2] at h3;cases h3
 | rarena ns =>
  rcases ArenaW.kind h hs with ⟨us,ty,e⟩ | ⟨arr,clk,e⟩ <;> (intro h3;rw [e] at h3;cases h3)
 | _=>cases hs
theorem ArenaW.keepE {m t:Nat} {ns:Zad} (A:ArenaW I β w t ns) (ht:t < m) (hI:I.le I') (hk:KeptE m β β'):(∀ g,1001<=g->g < 1001+3*ns.length->β' t g=β t g):=by
 intro g g1 g2
 obtain ⟨b,k,c,e⟩:=A.somb g1 g2
 rw [e,hk t ht g _ (XD (by omega)) e]
theorem ArenaW.keep2 {m t:Nat} {ns:Zad} (A:ArenaW I β w t ns) (ht:t < m) (hI:I.le I') (hk:KeptE m β β') (hh:∀ b,Zbu β t ns b->w'.heap[b]?=w.heap[b]?):ArenaW I' β' w' t ns:=by
 have hs:=A.keepE ht hI hk
 refine ⟨fun i nd hi=>?_,fun g g' b a1 a2 a3 a4 h1 h2=>A.2 g g' b a1 a2 a3 a4 (by rw [<-hs g a1 a2];exact h1) (by rw [<-hs g' a3 a4];exact h2)⟩
 have hil:=(Xc.1 hi).1
 obtain ⟨bs,k0,c0,us,ty,bv,k1,c1,arr,clk,bn,k2,c2,arr',clk',h0,h1,h2,⟨a1,a2⟩,⟨b1,b2,b3,b4,b5⟩,d1,d2,d3,d4,d5⟩:=A.1 i nd hi
 have g0:1001<=Z8 i false/\Z8 i false < 1001+3*ns.length/\1001<=Z8 i true/\Z8 i true < 1001+3*ns.length:=by unfold Z8;simp;omega
 refine ⟨bs,k0,c0,us,ty,bv,k1,c1,arr,clk,bn,k2,c2,arr',clk',by rw [hs _ (by omega) (by omega)];exact h0,by rw [hs _ g0.1 g0.2.1];exact h1,by rw [hs _ g0.2.2.1 g0.2.2.2];exact h2,⟨by rw [hh bs (Zlm hil h0)];exact a1,a2⟩,⟨by rw [hh bv (Zfd hil h1)];exact b1,Zkt (fun y hy=>by obtain ⟨p,hp,rfl⟩:=XJ.1 hy;exact (b4 p hp).1) b2,?_,b4,b5⟩,by rw [hh bn (Zfd hil h2)];exact d1,Zkt (fun y hy=>by obtain ⟨p,hp,rfl⟩:=XJ.1 hy;exact (d4 p hp).1) d2,ZlQ (m:=m) hI hk (fun y hy=>by obtain ⟨p,hp,rfl⟩:=XJ.1 hy;simp [ZgQ,Zeg,ht]) d3,d4,d5⟩
 refine VRs.mono hI (Bmap.le.refl β') _ _ (VRs.of_cells (β:=β) ?_ b3)
 intro x hx
 obtain ⟨p,hp,rfl⟩:=XJ.1 hx
 have:=ZpD (b4 p hp).2
 generalize p.2=q at this ⊢
 cases q <;> simp_all [Zaq,AVal.cells,Zat]
theorem ZEA {m t:Nat} {B:Zy} (hB:BR I β w t B) (hm:ZdV B=true) (ht:t < m) (hk:KeptE m β β') (k:Nat):Zaz β' t (roB B) k↔Zaz β t (roB B) k:=by
 have one:∀ es,BR I β w t (.map es)->(Zaz β' t (.rmap es) k↔Zaz β t (.rmap es) k):=by
  rintro es ⟨b,k',c,_,_,e,_⟩
  simp [Zaz,e,hk.zero ht e]
 have two:∀ ns,ArenaW I β w t ns->(Zbu β' t ns k↔Zbu β t ns k):=by
  intro ns A
  have hs:=A.keepE ht (Imm.le.refl I) hk
  constructor
  ·rintro ⟨g,g1,g2,h⟩;exact ⟨g,g1,g2,by rw [<-hs g g1 g2];exact h⟩
  ·rintro ⟨g,g1,g2,h⟩;exact ⟨g,g1,g2,by rw [hs g g1 g2];exact h⟩
 cases B <;> simp [ZdV] at hm
 ·exact one _ hB
 ·exact one _ hB
 ·exact two _ hB
 ·exact two _ hB
theorem Rel.hide (R:Rel base w0 I0 I β σ w) {t r:Nat} {B:Zy} (ht:σ[t]?=some B) (hm:ZdV B=true) (hr:∀ t x,σ[t]?=some x->¬Zk w β t x r):Rel (fun k=>base k\/Zaz β t (roB B) k\/k=r) w I I β (σ.set t (roB B)) w:=by
 have htl:t < σ.length:=(Xc.1 ht).1
 have look:∀ u x,(σ.set t (roB B))[u]?=some x->(u=t/\x=roB B)\/(u≠t/\σ[u]?=some x):=fun u x h=>ZgB htl h
 have hB:=R.blk t _ ht
 refine ⟨KB.refl _ _,fun _ _ _=>rfl,R.imm,?_,?_,?_,fun u g hu=>R.fresh u g (by simpa using hu),?_,?_,R.glob,?_⟩
 ·intro u x hx
  rcases look u x hx with ⟨rfl,rfl⟩ | ⟨_,hx⟩
  ·exact Zud hB
  ·exact R.blk u x hx
 ·intro u x j hx ho
  rcases look u x hx with ⟨rfl,rfl⟩ | ⟨hu,hx⟩
  ·exact absurd ho (Zmk hm)
  ·refine ⟨fun h=>?_,(R.own u x j hx ho).2⟩
   rcases h with h | h | rfl
   ·exact (R.own u x j hx ho).1 h
   ·rcases ZkM (w:=w) hm h with h | h
    ·exact hu (R.apart u x t _ j hx ht ho h)
    ·exact (R.own u x j hx ho).1 (R.ro t _ j ht h)
   ·exact hr u x hx ho
 ·intro u x u' x' j hx hx' ho ho'
  rcases look u x hx with ⟨rfl,rfl⟩ | ⟨hu,hx⟩
  ·exact absurd ho (Zmk hm)
  ·rcases look u' x' hx' with ⟨rfl,rfl⟩ | ⟨hu',hx'⟩
   ·exact absurd ho' (Zmk hm)
   ·exact R.apart u x u' x' j hx hx' ho ho'
 ·intro u g hx
  rcases look u _ hx with ⟨_,h⟩ | ⟨_,hx⟩
  ·exact absurd h.symm (ZDM hm)
  ·exact R.free u g hx
 ·intro u x g hx hg
  rcases look u x hx with ⟨rfl,rfl⟩ | ⟨_,hx⟩
  ·refine R.gen u _ g ht ?_
   rw [Zyc] at hg;exact hg
  ·exact R.gen u x g hx hg
 ·intro u x j hx hs
  rcases look u x hx with ⟨rfl,rfl⟩ | ⟨hu,hx⟩
  ·exact XD (Xw hs)
  ·exact Xw (R.ro u x j hx hs)
theorem Zrr {t:Nat} {B:Zy} (h:ZeQ σ t B=true):∃ x,σ[t]?=some x/\Zb x<=Zb B/\B≠.free:=by
 unfold ZeQ at h
 split at h
 ·rename_i e;exact ⟨_,e,by simp [Zb],by simp⟩
 ·rename_i e;exact ⟨_,e,by simp [Zb],by simp⟩
 ·rename_i ms ns e;exact ⟨_,e,by simp only [Zb];simp only [decide_eq_true_eq] at h;omega,by simp⟩
 ·rename_i ms ns e;exact ⟨_,e,by simp only [Zb];simp only [decide_eq_true_eq] at h;omega,by simp⟩
 ·cases h
theorem Rel.unhide (R1:Rel base w0 I0 I1 β1 σ1 w1) {base':Nat->Prop} {t:Nat} (hbb:∀ k,base k->base' k) (R2:Rel base' w1 I1 I2 β2 σ2 w2) {B:Zy} (ht:ZeQ σ2 t B=true) (hB:BR I2 β2 w2 t B) (hown:∀ k,Zk w2 β2 t B k->base' k/\¬base k/\∀ o,I2 k o=none) (hsee:∀ k,Zaz β2 t B k->base k) (hro:∀ u x b,u≠t->σ2[u]?=some x->Zaz β2 u x b->base b):Rel base w0 I0 I2 β2 (σ2.set t B) w2:=by
 obtain ⟨x2,ht2,hgen,hfree⟩:=Zrr ht
 have htl:t < σ2.length:=(Xc.1 ht2).1
 have look:∀ u x,(σ2.set t B)[u]?=some x->(u=t/\x=B)\/(u≠t/\σ2[u]?=some x):=fun u x h=>ZgB htl h
 refine ⟨R1.below.trans (R2.below.mono hbb),fun k o h=>(R2.old k o (hbb k h)).trans (R1.old k o h),R2.imm,?_,?_,?_,fun u g hu=>R2.fresh u g (by simpa using hu),?_,?_,R2.glob,?_⟩
 ·intro u x hx
  rcases look u x hx with ⟨rfl,rfl⟩ | ⟨_,hy⟩
  ·exact hB
  ·exact R2.blk u x hy
 ·intro u x j hx ho
  rcases look u x hx with ⟨rfl,rfl⟩ | ⟨hu,hy⟩
  ·exact (hown j ho).2
  ·have:=R2.own u x j hy ho
   exact ⟨fun h=>this.1 (hbb j h),this.2⟩
 ·intro u x u' x' j hx hx' ho ho'
  rcases look u x hx with ⟨rfl,rfl⟩ | ⟨hu,hy⟩
  ·rcases look u' x' hx' with ⟨rfl,rfl⟩ | ⟨hu',hy'⟩
   ·rfl
   ·exact absurd (hown j ho).1 (R2.own u' x' _ hy' ho').1
  ·rcases look u' x' hx' with ⟨rfl,rfl⟩ | ⟨hu',hy'⟩
   ·exact absurd (hown j ho').1 (R2.own u x _ hy ho).1
   ·exact R2.apart u x u' x' j hy hy' ho ho'
 ·intro u g hx
  rcases look u _ hx with ⟨_,h⟩ | ⟨_,hy⟩
  ·exact absurd h.symm hfree
  ·exact R2.free u g hy
 ·intro u x g hx hg
  rcases look u x hx with ⟨rfl,rfl⟩ | ⟨_,hy⟩
  ·exact R2.gen u x2 g ht2 (by omega)
  ·exact R2.gen u x g hy hg
 ·intro u x j hx hs
  rcases look u x hx with ⟨rfl,rfl⟩ | ⟨hu,hy⟩
  ·exact hsee j hs
  ·exact hro u x j hu hy hs
theorem Zpm {t k:Nat} (x:Zy):Zk w β t (Zdt x) k↔Zk w β t x k:=by cases x <;> exact Iff.rfl
theorem Zwp {t k:Nat} (x:Zy):Zaz β t (Zdt x) k↔Zaz β t x k:=by cases x <;> exact Iff.rfl
theorem ZHH (x:Zy):Zb (Zdt x)=Zb x:=by cases x <;> rfl
theorem ZEH {x:Zy} (h:Zdt x=.free):x=.free:=by cases x <;> simp [Zdt] at h ⊢
theorem ZIo {t:Nat} {x:Zy} (h:BR I β w t x):BR I β w t (Zdt x):=by
 cases x with
 | row g k xs=>obtain ⟨bi,h⟩:=h;exact ⟨xs,rfl,bi,h⟩
 | _=>exact h
theorem Zf4 {bg:Bool} {t:Nat} {x:Zy} (h:(Zeh bg σ)[t]?=some x):∃ y,σ[t]?=some y/\(x=y\/x=Zdt y):=by
 unfold Zeh at h
 split at h
 ·rw [XY,Xq] at h
  obtain ⟨y,h1,rfl⟩:=h
  exact ⟨y,h1,XD rfl⟩
 ·exact ⟨x,h,Xw rfl⟩
theorem Rel.bags (R:Rel base w0 I0 I β σ w) (bg:Bool):Rel base w0 I0 I β (Zeh bg σ) w:=by
 have o:∀ {t k:Nat} {x y:Zy},(x=y\/x=Zdt y)->Zk w β t x k->Zk w β t y k:=by
  rintro t k x y (rfl | rfl) h
  ·exact h
  ·exact (Zpm y).1 h
 refine ⟨R.below,R.old,R.imm,?_,?_,?_,?_,?_,?_,R.glob,?_⟩
 ·intro t x h
  obtain ⟨y,hy,rfl | rfl⟩:=Zf4 h
  ·exact R.blk t _ hy
  ·exact ZIo (R.blk t y hy)
 ·intro t x b h hb
  obtain ⟨y,hy,e⟩:=Zf4 h
  exact R.own t y b hy (o e hb)
 ·intro t x t' x' b h h' hb hb'
  obtain ⟨y,hy,e⟩:=Zf4 h
  obtain ⟨y',hy',e'⟩:=Zf4 h'
  exact R.apart t y t' y' b hy hy' (o e hb) (o e' hb')
 ·intro t g h
  refine R.fresh t g ?_
  unfold Zeh at h
  split at h
  ·simpa using h
  ·exact h
 ·intro t g h
  obtain ⟨y,hy,e⟩:=Zf4 h
  have : y=.free:=by
   rcases e with e | e
   ·exact e.symm
   ·exact ZEH e.symm
  subst this
  exact R.free t g hy
 ·intro t x g h hg
  obtain ⟨y,hy,rfl | rfl⟩:=Zf4 h
  ·exact R.gen t _ g hy hg
  ·exact R.gen t y g hy (by rw [ZHH] at hg;exact hg)
 ·intro t x b h hs
  obtain ⟨y,hy,rfl | rfl⟩:=Zf4 h
  ·exact R.ro t _ b hy hs
  ·exact R.ro t y b hy ((Zwp y).1 hs)
theorem Rel.turn (R:Rel base w0 I0 I β σ w) {r:Nat} (hr:∀ t x,σ[t]?=some x->¬Zk w β t x r) (hb:¬base r) (hI:∀ o,I r o=none) (hos:w'.os=w.os) (ht:w'.tape=w.tape) (ho:w'.output=w.output) (hs:w.heap.size<=w'.heap.size) (hk:∀ k,k≠r->k < w.heap.size->w'.heap[k]?=w.heap[k]?) (hbl:KLt base w):Rel base w0 I0 I β σ w':=by
 refine R.stay (Imm.le.refl I) ⟨hos,ht,ho,hs,fun k h=>hk k (by rintro rfl;exact hb h) (hbl k h)⟩ (fun _ _ _=>rfl) ?_ ?_
 ·intro b o u hu
  have h1:=R.imm b o u hu
  have hne:b≠r:=by rintro rfl;rw [hI] at hu;cases hu
  have hlt:=ZdI h1
  rw [<-h1]
  simp only [World.cell?,hk b hne hlt]
 ·intro t x b hx hb'
  have hne:b≠r:=by rintro rfl;exact hr t x hx hb'
  exact ⟨hk b hne ((R.blk t x hx).owns_lt hb'),(R.own t x b hx hb').2⟩
theorem ZHv (m:Nat) (tm:Tms) (σ:Za):m<=(gcT m tm σ).2.length:=by
 show m<=(Ze σ m _ _ _ 0).length
 rw [ZjD]
 obtain ⟨_,r,hr⟩:=ZgJ (σ:=σ) 1000 (ZZ (tm.map (·.2))++(Wt m).flatMap fun t=>Zu (σ.getD t .free)) (Wt m) Xbd
 show m<=(Zh m (tm.map (·.2)) σ).length
 unfold Zh
 rw [hr]
 simp
end
theorem Ziw {I:Imm} {β:Bmap} {tm:Tms} {a:Act} {d:Nat} {u:Value} (T:TR I β tm a.tmps) (hd:tget tm d=.top):TR I β tm (a.put (some d) u).tmps:=by
 intro n
 by_cases e:d=n
 ·subst e;rw [hd];simp only [VR]
 ·rw [pgn e];exact T n
theorem ZFd {m:Nat} {live:List Nat} {tm:Tms} {σ:Za} {d:Nat} (hd:d ∉ live):tget (gcT m (keepL live tm) σ).1 d=.top:=by
 have key:∀ (l:List Nat) (xs:List AVal),d ∉ l->tget (l.zip xs) d=.top:=by
  intro l
  induction l with
  | nil=>intro xs _;rfl
  | cons x l ih =>
   intro xs h
   cases xs with
   | nil=>rfl
   | cons y ys =>
    simp only [Wi,tget]
    rw [if_neg (by rintro rfl;exact h (by simp))]
    exact ih ys (fun hm=>h (by simp [hm]))
 have e:(keepL live tm).map (·.1)=live:=by simp [keepL,Wm,Xbu]
 show tget (((keepL live tm).map (·.1)).zip _) d=.top
 rw [e]
 exact key live _ hd
section
variable {P:Program} {O:Z7} {bf:Nat->Bool} {an an3:Ann} {base:Nat->Prop} {w0:World} {I0:Imm} {dr:Door} {m:Nat} {live:List Nat} {ms it nx ok en bid b1:Nat} {bg:Bool} {ent:List AOp} {run fin:Nat->Tms->Za->Option (Z1×Tms×Za)}
def Zca (dr:Door) (it ms:Nat) (r b:Nat):Door:=⟨dr.D,it::ms::dr.K,fun n=>if n=it then .pointer (some ⟨r,0,none⟩) else if n=ms then .map (some b) else dr.X n⟩
def ZfZ (arr:Array MapEntry) (j:Nat):Nat:=(arr.toList.getD j ⟨undef,undef,0⟩).born
theorem ZhL {es:List (AVal×AVal)}:∀ (a b:List (AVal×AVal)) (tm:Tms) (σ:Za),Zbx bf m live ms en b1 bg ent run es (a++b) tm σ=match Zbx bf m live ms en b1 bg ent run es a tm σ with
  | some (tm',σ')=>Zbx bf m live ms en b1 bg ent run es b tm' σ'
  | none=>none
 | [],b,tm,σ=>rfl
 | x::a,b,tm,σ=>by
  simp only [XP,Zbx]
  split
  ·split
   ·split
    ·exact ZhL a b _ _
    ·rfl
   ·rfl
  ·rfl
theorem Zi3 {tm tm0:Tms} {σ σ0:Za} {t:Nat} {B:Zy} {es:List (AVal×AVal)} (h:ZeL m live ms tm σ=some (t,B,es,tm0,σ0)):(gcT m (keepL live tm) σ).1=tm0/\(gcT m (keepL live tm) σ).2=σ0/\Zf0 σ0 (tget tm0 ms)=some (t,B,es)/\∀ p ∈ es,ZgQ σ0.length p.2=true:=by
 unfold ZeL at h
 split at h
 ·rename_i t' B' es' h1
  split at h
  ·rename_i h4
   simp only [Xa,Xb] at h
   obtain ⟨rfl,rfl,rfl,rfl,rfl⟩:=h
   exact ⟨rfl,rfl,h1,fun p hp=>XS.1 h4 p hp⟩
  ·cases h
 ·cases h
theorem ZxT {tm tm':Tms} {σ σ':Za} {t:Nat} {B:Zy} {kv:AVal×AVal} (h:Zcf bf ms en b1 bg ent run t B kv tm σ=some (tm',σ')):∃ tm1 σ1 e tm2 σ2,ZcX bf ent (tput tm (some en) (.tup [kv.1,kv.2])) (σ.set t (roB B))=some (tm1,σ1)/\run σ.length tm1 σ1=some (e,tm2,σ2)/\(e=.normal\/e=.exit b1)/\ZeQ σ2 t B=true/\Zd7 (σ.set t (roB B)) σ2=true/\tput tm2 (some ms) (tget tm ms)=tm'/\Zeh bg (σ2.set t B)=σ':=by
 unfold Zcf at h
 split at h
 case h_2=>cases h
 rename_i tm1 σ1 h1
 split at h
 ·rename_i tm2 σ2 h2
  split at h
  ·rename_i h3
   simp only [Xp] at h3
   simp only [Xa,Xb] at h
   exact ⟨tm1,σ1,.normal,tm2,σ2,h1,h2,Xw rfl,h3.1,h3.2,h.1,h.2⟩
  ·cases h
 ·rename_i i tm2 σ2 h2
  split at h
  ·rename_i h3
   simp only [Xp,decide_eq_true_eq] at h3
   obtain ⟨rfl,h3⟩:=h3
   simp only [Xa,Xb] at h
   exact ⟨tm1,σ1,.exit _,tm2,σ2,h1,h2,XD rfl,h3.1,h3.2,h.1,h.2⟩
  ·cases h
 ·cases h
theorem ZDX (hkp:∀ n ∈ dr.K,n ∈ an.keep) (hm:P.follows .mixedOrders=true) (hb:KLt base w0) {ops3 ops4:Array Oper} {i3 i4:Nat} {body:Code} {nxo exo eno:Oper} {lE:List Oper}
  (hbody:∀ (dr':Door) (base':Nat->Prop) (w0':World) (I0':Imm) (m':Nat),(∀ n ∈ dr'.K,n ∈ an3.keep)->KLt base' w0'->∀ {I:Imm} {β:Bmap} {tm tm':Tms} {σ σ':Za} {a:Act} {w:World} {e:Z1},StF dr' m' an3.nt base' w0' I0' I β tm σ a w->run m' tm σ=some (e,tm',σ')->∀ {Q:Exit->Act->World->Prop},ZnG dr' m' an3 base' w0' I0' I β e tm' σ' Q->body.wp P Q a w)
  (h3:ops3.toList=[nxo,exo]) (h4:ops4.toList=eno::lE)
  (hn1:nxo.op=.next (.tmp it) false) (hn2:nxo.dst=some nx) (hn3:nxo.guard=none) (hx1:exo.op=.extract (.tmp nx) 0) (hx2:exo.dst=some ok) (hx3:exo.guard=none)
  (he1:eno.op=.entry (.tmp it)) (he2:eno.dst=some en) (he3:eno.guard=none) (hcE:ZcU P an3 ops4 lE=some ent) (hnt3:an3.nt=an.nt) (hk3:an3.keep=it::ms::an.keep)
  (d1:it < an.nt) (d2:nx < an.nt) (d3:ok < an.nt) (d4:en < an.nt) (d5:it≠ms) (d6:nx≠ms) (d7:ok≠ms) (d8:en≠ms) (d9:nx≠it) (d10:ok≠it) (d11:en≠it) (d12:nx≠ok) (hlv:∀ n ∈ live,n≠it/\n≠nx/\n≠ok/\n≠en)
  (q1:it ∉ an.keep) (q2:nx ∉ an.keep) (q3:ok ∉ an.keep) (q4:en ∉ an.keep)
  {r b clk:Nat} {arr:Array MapEntry} {es:List (AVal×AVal)} (hS:Zd0 arr clk) (hne:arr.size=es.length) (hrb:r≠b) (hrbase:¬base r) (hdX:ms ∈ dr.K->dr.X ms=.map (some b))
  {tm2:Tms} {σ2:Za} {out:Z1×Tms×Za} (hall:∀ es':List (AVal×AVal),es'.Perm es->ZbL bf m live ms en b1 bg ent run fin es es' tm2 σ2=some out)
  {I:Imm} {β:Bmap} {Q:Exit->Act->World->Prop}
  (hQ:∀ tm σ a w I' β',Zfb m live fin tm σ=some out->I.le I'->KeptE m β β'->TR I' β' (keepL live tm) a.tmps->(dr.ok a/\an.nt<=a.tmps.size)->Rel base w0 I0 I' β' σ w->Q (.exit bid) a w) :
  ∀ (n:Nat) (js:List Nat) (tm:Tms) (σ:Za) (a:Act) (w:World),n+js.length=es.length+1->js.Nodup->(∀ j ∈ js,j < es.length)->Zbx bf m live ms en b1 bg ent run es (js.map fun j=>es.getD j (.top,.top)) tm2 σ2=some (tm,σ) ->
   w.heap[r]?=some (.mapIter (some b) clk (js.map (ZfZ arr)).toArray clk)->w.heap[b]?=some (.map arr clk) ->
   (∃ I' β',I.le I'/\KeptE m β β'/\TR I' β' (keepL live tm) a.tmps/\((Zca dr it ms r b).ok a/\an.nt<=a.tmps.size)/\Rel base w0 I0 I' β' σ w/\(∀ o,I' r o=none)/\(∀ t x,σ[t]?=some x->¬Zk w β' t x r)) ->
   Code.rounds P (.seq (.region i3 ops3 false) (.seq (.cond (.tmp ok) .skip (.exit bid)) (.block b1 (.seq (.region i4 ops4 false) body)))) Q n a w:=by
 have hperm:∀ js:List Nat,js.Nodup->(∀ j ∈ js,j < es.length)->∃ rest:List Nat,(Wt es.length).Perm (js++rest):=fun js h1 h2=>Zqm js _ h1 (fun j hj=>WV.2 (h2 j hj)) Xbd
 have hpm:∀ js rest:List Nat,(Wt es.length).Perm (js++rest)->(js.map (fun j=>es.getD j (.top,.top))++rest.map fun j=>es.getD j (.top,.top)).Perm es:=by
  intro js rest h
  have:=h.map (fun j=>es.getD j ((.top,.top):AVal×AVal))
  rw [ZGY,Wd] at this
  exact this.symm
 have kit:it ∉ dr.K:=fun h=>q1 (hkp _ h)
 have knx:nx ∉ dr.K:=fun h=>q2 (hkp _ h)
 have kok:ok ∉ dr.K:=fun h=>q3 (hkp _ h)
 have ken:en ∉ dr.K:=fun h=>q4 (hkp _ h)
 intro n
 induction n with
 | zero =>
  intro js tm σ a w hn hnd hlt _ _ _ _
  exfalso
  obtain ⟨rest,hr⟩:=hperm js hnd hlt
  have:=hr.length_eq
  simp at this
  omega
 | succ n ih =>
  intro js tm σ a w hn hnd hlt hf hit hmap hst
  rw [rounds_succ]
  obtain ⟨I1,β1,g1,g2,T1,⟨gd,gs⟩,R1,hIr,hown⟩:=hst
  have vit:a.tmps.getD it undef=.pointer (some ⟨r,0,none⟩):=by
   have:=gd.2 it (by simp [Zca]);simpa [Zca] using this
  have vms:a.tmps.getD ms undef=.map (some b):=by
   have:=gd.2 ms (by simp [Zca]);simpa [Zca,W5 d5] using this
  refine wp_seq (wp_region_list ?_)
  rw [h3]
  refine ZhP hn3 ?_
  unfold Oper.wp
  have hlook:=run_next_at (P:=P) w nxo.type r b clk clk _ arr clk hit hmap (fun x hx=>hS.1 x hx) (XQ _)
  rcases hlook with ⟨hz,hrun⟩ | ⟨e,he,w1,hw1,hrun⟩
  ·
   have e1:(execOp a.eval nxo).run P w=.ok (.value (.tuple #[.bool false])) w:=by
    unfold execOp;rw [hn1]
    simp only [Act.eval]
    rw [vit]
    exact ZjH hrun
   rw [e1,Oper.upon_value,hn2]
   refine ZhP hx3 ?_
   unfold Oper.wp
   have e2:(execOp (a.put (some nx) (.tuple #[.bool false])).eval exo).run P w=.ok (.value (.bool false)) w:=by
    unfold execOp;rw [hx1]
    simp only [Act.eval]
    rw [pgs (by omega)]
    exact ZjH (by simp [Instr.extract])
   rw [e2,Oper.upon_value,hx2]
   refine wpList_nil ?_
   simp only [Exit.then]
   refine wp_seq (wp_cond_false (by simp only [Act.eval];exact pgs (by rw [Ze7];omega)) (wp_exit ?_))
   simp only [Exit.then]
   obtain ⟨rest,hr⟩:=hperm js hnd hlt
   have hrest:rest=[]:=by
    cases rest with
    | nil=>rfl
    | cons x rest =>
     exfalso
     have hx:x < es.length:=WV.1 (hr.mem_iff.2 (by simp))
     obtain ⟨ex,hxa⟩:∃ ex,arr.toList[x]?=some ex:=⟨_,Xu (by simpa [hne] using hx)⟩
     have hs:=ZEJ hz (arr.toList.getD x ⟨undef,undef,0⟩) (by
      rw [Xe,hxa];exact XA hxa)
     have hnd2:(js++x::rest).Nodup:=hr.nodup_iff.1 Xbd
     have hxj:x ∉ js:=fun hm=>by
      have:=(WZ.1 hnd2).2.2 x hm x (by simp)
      exact this rfl
     simp only [List.contains_toArray,Xar,decide_eq_true_eq,XJ] at hs
     obtain ⟨y,hy,hyx⟩:=hs
     have hyl:y < es.length:=hlt y hy
     obtain ⟨ey,hya⟩:∃ ey,arr.toList[y]?=some ey:=⟨_,Xu (by simpa [hne] using hyl)⟩
     have hnb:=hS.2
     have e3:(arr.toList.map (·.born))[y]?=(arr.toList.map (·.born))[x]?:=by
      rw [XY,XY,hya,hxa]
      simp only [XZ,Xa]
      unfold ZfZ at hyx
      rw [Xe,Xe,hya,hxa] at hyx
      exact hyx
     have hyx2:=(List.getElem?_inj (by simpa [hne] using hyl) hnb).1 e3
     subst hyx2
     exact hxj hy
   subst hrest
   have hp:=hpm js [] hr
   have ho:=hall _ hp
   unfold ZbL at ho
   rw [ZhL,hf] at ho
   simp only [X9,Zbx] at ho
   have okd:dr.ok ((a.put (some nx) (.tuple #[.bool false])).put (some ok) (.bool false)):=by
    refine ZjO (ZjO ⟨gd.1,fun j hj=>?_⟩ (fun n hn=>by injection hn with hn;subst hn;exact knx)) (fun n hn=>by injection hn with hn;subst hn;exact kok)
    have hji:j≠it:=by rintro rfl;exact kit hj
    have:=gd.2 j (by simp [Zca,hj])
    rw [this]
    simp only [Zca,hji,if_false]
    split
    ·rename_i e;subst e;exact (hdX hj).symm
    ·rfl
   refine hQ tm σ _ w I1 β1 ho g1 g2 ?_ ⟨okd,by rw [Ze7,Ze7];exact gs⟩ R1
   have t0:∀ d,d ∉ live->tget (keepL live tm) d=.top:=fun d hd=>by rw [Zkw,if_neg hd]
   exact Ziw (Ziw T1 (t0 nx fun h=>(hlv nx h).2.1 rfl)) (t0 ok fun h=>(hlv ok h).2.2.1 rfl)
  ·
   obtain ⟨hea,hes⟩:=ZtR he
   obtain ⟨j,hj,hje⟩:=List.getElem_of_mem hea
   have hja:arr.toList[j]?=some e:=by rw [Xu hj,hje]
   have hjl:j < es.length:=by simpa [hne] using hj
   have hbj:ZfZ arr j=e.born:=by unfold ZfZ;rw [Xe,hja];rfl
   have hjs:j ∉ js:=fun hm=>by
    have : (js.map (ZfZ arr)).toArray.contains e.born=true:=by
     simp only [List.contains_toArray,Xar,decide_eq_true_eq,XJ]
     exact ⟨j,hm,hbj⟩
    rw [this] at hes;cases hes
   have hnd':(js++[j]).Nodup:=by
    rw [WZ]
    exact ⟨hnd,by simp,fun x hx y hy=>by rw [X2] at hy;subst hy;rintro rfl;exact hjs hx⟩
   have hlt':∀ k ∈ js++[j],k < es.length:=fun k hk=>by
    rcases Xz.1 hk with hk | hk
    ·exact hlt k hk
    ·rw [X2] at hk;subst hk;exact hjl
   obtain ⟨rest,hr⟩:=hperm (js++[j]) hnd' hlt'
   have hp:=hpm (js++[j]) rest hr
   have ho:=hall _ hp
   unfold ZbL at ho
   rw [ZhL,Wd,ZhL,hf] at ho
   simp only [XI,X9] at ho
   generalize hkv:es.getD j ((.top,.top):AVal×AVal)=kv at ho
   cases hro:Zbx bf m live ms en b1 bg ent run es [kv] tm σ with
   | none=>rw [hro] at ho;cases ho
   | some q =>
   obtain ⟨tm',σ'⟩:=q
   clear ho
   have hf':Zbx bf m live ms en b1 bg ent run es ((js++[j]).map fun j=>es.getD j (.top,.top)) tm2 σ2=some (tm',σ'):=by
    rw [Wd,ZhL,hf]
    simp only [XI,X9,hkv,hro]
   simp only [Zbx] at hro
   split at hro
   case h_2=>cases hro
   rename_i t B es' tm0 σ0 hhead
   split at hro
   case isFalse=>cases hro
   rename_i hes'
   subst hes'
   split at hro
   case h_2=>cases hro
   rename_i tmF σF hround
   simp only [Xa,Xb] at hro
   obtain ⟨rfl,rfl⟩:=hro
   obtain ⟨hg1,hg2,hmst,hkept⟩:=Zi3 hhead
   obtain ⟨hte,hml0,hwhat⟩:=Zp3 hmst
   obtain ⟨tmA,σA,x,tmB,σB,hstep,hev,hx,hopq,hros,htm,hσ⟩:=ZxT hround
   have hbw:=R1.base_le hb
   have Rr:=R1.rebase hown
   obtain ⟨β0,q1',R0r,T0⟩:=Zkh Rr T1 m
   have R0:=R1.unbase R0r (fun k h=>Xw h) (fun t x b hx hs=>by
    rcases R0r.ro t x b hx hs with h | rfl
    ·exact h
    ·exact absurd hit (ZIy (R0r.blk t x hx) hs))
   have hown0:∀ t x,(gcT m (keepL live tm) σ).2[t]?=some x->¬Zk w β0 t x r:=fun t x hx ho=>(R0r.own t x r hx ho).1 (XD rfl)
   have tt:∀ d,d ∉ live->tget (gcT m (keepL live tm) σ).1 d=.top:=fun d hd=>ZFd hd
   have hml:=ZHv m (keepL live tm) σ
   rw [hg1] at T0 tt
   rw [hg2] at R0 hown0 hml
   have vt:=T0 ms
   rw [vms] at vt
   have hB0:=R0.blk t _ hte
   obtain ⟨arr',clk',e2,⟨e3,e4,e5,e6⟩,hsb⟩:=Zpb hB0 hwhat vt
   rw [hmap] at e2
   simp only [Xa,Obj.map.injEq] at e2
   obtain ⟨rfl,rfl⟩:=e2
   have htl:t < σ0.length:=(Xc.1 hte).1
   have e1:(execOp a.eval nxo).run P w=.ok (.value (.tuple #[.bool true,e.key,e.val])) (setBlock w1 r (.mapIter (some b) clk ((js.map (ZfZ arr)).toArray.push e.born) clk)):=by
    unfold execOp;rw [hn1]
    simp only [Act.eval]
    rw [vit]
    rw [Sem.run_bind,hrun];rfl
   have hw1h:w1.heap=w.heap/\w1.os=w.os/\w1.tape=w.tape/\w1.output=w.output:=by rcases hw1 with rfl | rfl <;> exact ⟨rfl,rfl,rfl,rfl⟩
   obtain ⟨wh,wo,wt,wu⟩:=hw1h
   have hrlt:r < w.heap.size:=(XG.1 hit).1
   generalize hw3:setBlock w1 r (.mapIter (some b) clk ((js.map (ZfZ arr)).toArray.push e.born) clk)=w3 at e1
   have w3r:w3.heap[r]?=some (.mapIter (some b) clk ((js.map (ZfZ arr)).toArray.push e.born) clk):=by
    rw [<-hw3];simp only [setBlock,wh];rw [Array.getElem?_setIfInBounds_self_of_lt hrlt]
   have w3k:∀ k,k≠r->w3.heap[k]?=w.heap[k]?:=fun k hk=>by
    rw [<-hw3];simp only [setBlock,wh];rw [X4 (W5 hk)]
   have w3b:w3.heap[b]?=some (.map arr clk):=by rw [w3k b (W5 hrb)];exact hmap
   have w3s:w3.heap.size=w.heap.size:=by rw [<-hw3];simp [setBlock,wh]
   have R3:Rel base w0 I0 I1 β0 σ0 w3:=R0.turn hown0 hrbase hIr (by rw [<-hw3];exact wo) (by rw [<-hw3];exact wt) (by rw [<-hw3];exact wu) (by omega) (fun k hk _=>w3k k hk) hbw
   have hown3:∀ t x,σ0[t]?=some x->¬Zk w3 β0 t x r:=fun t x hx ho=>hown0 t x hx (((R0.blk t x hx).owns_at (Bmap.le.refl β0) (fun b' hb'=>w3k b' (by rintro rfl;exact hown0 t x hx hb')) r).1 ho)
   have RH:=R3.hide hte hml0 hown3
   have hseeb:∀ k,Zaz β0 t (roB B) k->k < w.heap.size:=fun k hk=>by
    rcases ZkM (w:=w) hml0 hk with h | h
    ·exact (R0.blk t _ hte).owns_lt h
    ·exact hbw k (R0.ro t _ k hte h)
   rw [e1,Oper.upon_value,hn2]
   generalize hA1:a.put (some nx) (.tuple #[.bool true,e.key,e.val])=A1
   have s1:A1.tmps.size=a.tmps.size:=by rw [<-hA1,Ze7]
   have f1:∀ k,k≠nx->A1.tmps.getD k undef=a.tmps.getD k undef:=by intro k hk;rw [<-hA1];exact pgn (W5 hk)
   have df1:A1.defers=dr.D:=by rw [<-hA1];exact gd.1
   have TA1:TR I1 β0 tm0 A1.tmps:=by rw [<-hA1];exact Ziw T0 (tt nx fun h=>(hlv nx h).2.1 rfl)
   refine ZhP hx3 ?_
   unfold Oper.wp
   have e2:(execOp A1.eval exo).run P w3=.ok (.value (.bool true)) w3:=by
    unfold execOp;rw [hx1]
    simp only [Act.eval]
    rw [<-hA1,pgs (by omega)]
    exact ZjH (by simp [Instr.extract])
   rw [e2,Oper.upon_value,hx2]
   generalize hA2:A1.put (some ok) (.bool true)=A2
   have s2:A2.tmps.size=a.tmps.size:=by rw [<-hA2,Ze7,s1]
   have f2:∀ k,k≠ok->A2.tmps.getD k undef=A1.tmps.getD k undef:=by intro k hk;rw [<-hA2];exact pgn (W5 hk)
   have df2:A2.defers=dr.D:=by rw [<-hA2];exact df1
   have TA2:TR I1 β0 tm0 A2.tmps:=by rw [<-hA2];exact Ziw TA1 (tt ok fun h=>(hlv ok h).2.2.1 rfl)
   refine wpList_nil ?_
   simp only [Exit.then]
   refine wp_seq (wp_cond_true (by simp only [Act.eval];rw [<-hA2];exact pgs (by omega)) (wp_skip ?_))
   simp only [Exit.then]
   refine wp_block (wp_seq (wp_region_list ?_))
   rw [h4]
   refine ZhP he3 ?_
   unfold Oper.wp
   have e3':(execOp A2.eval eno).run P w3=.ok (.value (.tuple #[e.key,e.val])) w3:=by
    unfold execOp;rw [he1]
    simp only [Act.eval]
    rw [f2 it (W5 d10),f1 it (W5 d9),vit]
    exact ZjH (run_entry_at w3 r b clk _ arr clk e w3r w3b hea hS.2)
   rw [e3',Oper.upon_value,he2]
   generalize hA3:A2.put (some en) (.tuple #[e.key,e.val])=A3
   have s3:A3.tmps.size=a.tmps.size:=by rw [<-hA3,Ze7,s2]
   have f3:∀ k,k≠en->A3.tmps.getD k undef=A2.tmps.getD k undef:=by intro k hk;rw [<-hA3];exact pgn (W5 hk)
   have df3:A3.defers=dr.D:=by rw [<-hA3];exact df2
   have hkve:VR I1 β0 (.tup [kv.1,kv.2]) (.tuple #[e.key,e.val]):=by
    have hej:es'[j]?=some kv:=by
     rw [<-hkv,Xe,Xu hjl];rfl
    obtain ⟨v1,p1,p2⟩:=Zci e3 (i:=j) (x:=kv.1) (by rw [XY,hej];rfl)
    obtain ⟨v2,p3,p4⟩:=Zci e4 (i:=j) (x:=kv.2) (by rw [XY,hej];rfl)
    rw [XY,hja] at p1 p3
    simp only [XZ,Xa] at p1 p3
    subst p1 p3
    simp only [VR]
    exact ⟨_,rfl,by simp only [VRs];exact ⟨_,_,rfl,p2,_,_,rfl,p4,rfl⟩⟩
   have TA3:TR I1 β0 (tput tm0 (some en) (.tup [kv.1,kv.2])) A3.tmps:=by rw [<-hA3];exact TR.put TA2 hkve (by omega)
   have ok3:(Zca dr it ms r b).ok A3:=by
    refine ⟨df3,fun k hk=>?_⟩
    have hk':k=it\/k=ms\/k ∈ dr.K:=by simpa [Zca] using hk
    have n1:k≠en/\k≠ok/\k≠nx:=by
     rcases hk' with rfl | rfl | hk'
     ·exact ⟨W5 d11,W5 d10,W5 d9⟩
     ·exact ⟨W5 d8,W5 d7,W5 d6⟩
     ·exact ⟨by rintro rfl;exact ken hk',by rintro rfl;exact kok hk',by rintro rfl;exact knx hk'⟩
    rw [f3 k n1.1,f2 k n1.2.1,f1 k n1.2.2]
    exact gd.2 k hk
   have hkp':∀ n ∈ (Zca dr it ms r b).K,n ∈ an3.keep:=fun n hn=>by
    rw [hk3]
    simp only [Zca,XH] at hn ⊢
    rcases hn with h | h | h
    ·exact Xw h
    ·exact XD (Xw h)
    ·exact XD (XD (hkp n h))
   have hblt:b < w.heap.size:=(XG.1 hmap).1
   have hbH:KLt (fun k=>base k\/Zaz β0 t (roB B) k\/k=r) w3:=fun k hk=>by
    rcases hk with hk | hk | rfl
    ·have:=hbw k hk;omega
    ·have:=hseeb k hk;omega
    ·omega
   obtain ⟨cs,hruns⟩:=Zq2 hstep
   rw [<-XU lE]
   refine ZmI (dr:=Zca dr it ms r b) (O:=fun _ _ _=>none) noO hkp' hbH hcE TA3 ⟨ok3,by omega⟩ RH hruns ?_
   intro A4 w4 hst4
   refine wpList_nil ?_
   simp only [Exit.then]
   have hstF:StF (Zca dr it ms r b) σ0.length an3.nt (fun k=>base k\/Zaz β0 t (roB B) k\/k=r) w3 I1 I1 β0 tmA σA A4 w4:=by
    obtain ⟨I4,β4,k1,k2,k3⟩:=hst4
    exact ⟨I4,β4,k1,KeptE.of_le k2,k3⟩
   have next:∀ A5 w5,StF (Zca dr it ms r b) σ0.length an3.nt (fun k=>base k\/Zaz β0 t (roB B) k\/k=r) w3 I1 I1 β0 tmB σB A5 w5->Code.rounds P (.seq (.region i3 ops3 false) (.seq (.cond (.tmp ok) .skip (.exit bid)) (.block b1 (.seq (.region i4 ops4 false) body)))) Q n A5 w5:=by
    rintro A5 w5 ⟨I5,β5,k1,k2,k3,⟨k4,k4'⟩,k5⟩
    have w5b:w5.heap[b]?=some (.map arr clk):=by rw [k5.below.block b (XD (Xw hsb))];exact w3b
    have w5r:w5.heap[r]?=_:=(k5.below.block r (XD (XD rfl))).trans w3r
    have hI5r:∀ o,I5 r o=none:=fun o=>by rw [k5.old r o (XD (XD rfl))];exact hIr o
    have hB3:=R3.blk t _ hte
    have hsee5:=ZEA hB3 hml0 htl k2
    have hh5:∀ k,Zaz β0 t (roB B) k->w5.heap[k]?=w3.heap[k]?:=fun k hk=>k5.below.block k (XD (Xw hk))
    have hB5:BR I5 β5 w5 t B:=by
     rcases hwhat with ⟨_,h⟩ | ⟨j',nx',ns,nd,_,h,_,_⟩
     ·have hM:BR I1 β0 w3 t (.map es'):=by rcases h with rfl | rfl <;> exact hB3
      obtain ⟨b3,k3',c3',arr3,clk3,f1,f2,f3,f4,f5,f6⟩:=hM
      have hsb3:Zaz β0 t (roB B) b3:=by rcases h with rfl | rfl <;> simp [roB,Zaz,f1]
      have hM5:BR I5 β5 w5 t (.map es'):=⟨b3,k3',c3',arr3,clk3,k2.zero htl f1,by rw [hh5 b3 hsb3];exact f2,Zkt (fun y hy=>by obtain ⟨p,hp,rfl⟩:=XJ.1 hy;exact f5 p hp) f3,ZlQ k1 k2 (fun y hy=>by obtain ⟨p,hp,rfl⟩:=XJ.1 hy;exact hkept p hp) f4,f5,f6⟩
      rcases h with rfl | rfl <;> exact hM5
     ·have hA:ArenaW I1 β0 w3 t ns:=by rcases h with rfl | rfl <;> exact hB3
      have hA5:ArenaW I5 β5 w5 t ns:=hA.keep2 htl k1 k2 (fun k hk=>hh5 k (by rcases h with rfl | rfl <;> exact hk))
      rcases h with rfl | rfl <;> exact hA5
    have R5:=R3.unhide (fun k hk=>Xw hk) k5 hopq hB5 (fun k hk=>by
     have h1:=(hsee5 k).1 (ZqS hml0 hk)
     have hown1:Zk w3 β0 t B k:=by
      cases hBk:B with
      | map es=>rw [hBk] at h1;exact h1
      | arena ns=>rw [hBk] at h1;exact h1
      | rmap es=>rw [hBk] at hk;cases hk
      | rarena ns=>rw [hBk] at hk;cases hk
      | _=>rw [hBk] at hml0;cases hml0
     refine ⟨XD (Xw h1),(R3.own t _ k hte hown1).1,fun o=>?_⟩
     rw [k5.old k o (XD (Xw h1))]
     exact (R3.own t _ k hte hown1).2 o) (fun k hk=>by
     have h1:Zaz β0 t (roB B) k:=(hsee5 k).1 (by
      cases hBk:B with
      | rmap es=>rw [hBk] at hk;exact hk
      | rarena ns=>rw [hBk] at hk;exact hk
      | _=>rw [hBk] at hk;cases hk)
     refine R3.ro t _ k hte ?_
     cases hBk:B with
     | rmap es=>rw [hBk] at h1;exact h1
     | rarena ns=>rw [hBk] at h1;exact h1
     | _=>rw [hBk] at hk;cases hk) (fun u x b' hne hx hs=>by
     cases x with
     | rmap es2 =>
      obtain ⟨y,h2,h1⟩:=Zi0 hros hx rfl
      rw [XF (W5 hne)] at h2
      cases y <;> simp [Zfx] at h1
      rename_i es3
      obtain ⟨b2,k2',c2',_,_,e1,_⟩:=R0.blk u _ h2
      have e2:=k2.zero (Xc.1 h2).1 e1
      refine R0.ro u _ b' h2 ?_
      simp only [Zaz,e2] at hs
      simpa [Zaz,e1] using hs
     | rarena ns2 =>
      obtain ⟨y,h2,h1⟩:=Zi0 hros hx rfl
      rw [XF (W5 hne)] at h2
      cases y <;> simp [Zfx] at h1
      rename_i ns3
      have hA3:ArenaW I1 β0 w u ns3:=R0.blk u _ h2
      have hs3:=hA3.keepE (Xc.1 h2).1 k1 k2
      obtain ⟨g,g1,g2,g3⟩:=hs
      refine R0.ro u _ b' h2 ⟨g,g1,by omega,?_⟩
      rw [<-hs3 g g1 (by omega)]
      exact g3
     | _=>cases hs)
    replace R5:=R5.bags bg
    rw [hσ] at R5
    refine ih (js++[j]) tmF σF A5 w5 (by rw [XL,WD];omega) hnd' hlt' hf' ?_ w5b ⟨I5,β5,g1.trans k1,?_,?_,⟨k4,by omega⟩,R5,hI5r,?_⟩
    ·rw [w5r,Wd,XI,X9,hbj,List.push_toArray]
    ·refine (g2.trans q1').trans (fun u hu g bi hg hbi=>k2 u (by omega) g bi hg hbi)
    ·refine TR.keep (fun u=>?_) live
     rw [<-htm]
     show VR I5 β5 (tget (tins ms (tget tm0 ms) tmB) u) _
     rw [Zii]
     split
     ·rename_i e;subst e
      have : A5.tmps.getD ms undef=.map (some b):=by have:=k4.2 ms (by simp [Zca]);simpa [Zca,W5 d5] using this
      rw [this]
      rcases hwhat with ⟨h,_⟩ | ⟨j',nx',ns,nd,h,_,_,_⟩
      ·rw [h] at vt ⊢
       simp only [VR] at vt ⊢
       obtain ⟨b3,k3',c3',f1,f2⟩:=vt
       exact ⟨b3,k3',c3',k2.zero htl f1,f2⟩
      ·rw [h] at vt ⊢
       simp only [VR] at vt ⊢
       obtain ⟨b3,k3',c3',f1,f2⟩:=vt
       exact ⟨b3,k3',c3',k2 t htl _ _ (XD (by unfold Z8;omega)) f1,f2⟩
     ·exact k3 u
    ·intro u y hy hoy
     rw [<-hσ] at hy
     obtain ⟨y',hy',hye⟩:=Zf4 hy
     have hoy':Zk w5 β5 u y' r:=by
      rcases hye with rfl | rfl
      ·exact hoy
      ·exact (Zpm y').1 hoy
     obtain ⟨x2,hx2,_,_⟩:=Zrr hopq
     rcases ZgB (Xc.1 hx2).1 hy' with ⟨rfl,rfl⟩ | ⟨_,hy'⟩
     ·have h1:=(hsee5 r).1 (ZqS hml0 hoy')
      rcases ZkM (w:=w3) hml0 h1 with h | h
      ·exact hown3 u _ hte h
      ·exact hrbase (R3.ro u _ r hte h)
     ·exact (k5.own u y' r hy' hoy').1 (XD (XD rfl))
   refine hbody (Zca dr it ms r b) (fun k=>base k\/Zaz β0 t (roB B) k\/k=r) w3 I1 σ0.length hkp' hbH hstF hev ?_
   rcases hx with rfl | rfl
   ·intro A5 w5 hs
    simp only [Exit.inBlock,Exit.then]
    exact next A5 w5 hs
   ·intro A5 w5 hs
    simp only [Exit.inBlock,if_true,Exit.then]
    exact next A5 w5 hs
end
end
section
open Go.RowKit
section
variable {P:Program} {O:Z7} {bf:Nat->Bool} {an:Ann} {base:Nat->Prop} {w0:World} {I0:Imm} {dr:Door}
theorem StF.cond {m:Nat} {I:Imm} {β:Bmap} {tm:Tms} {σ:Za} {a:Act} {w:World} (h:StF dr m an.nt base w0 I0 I β tm σ a w) {c:Operand} {y:Opd} (hc:Zah c=some y) {b:Bool} (hv:y.ev tm=.bool b):a.eval c=.bool b:=by
 obtain ⟨I',β',_,_,T,_,_⟩:=h
 have:=Zaf T hc
 rw [hv] at this
 simpa only [VR] using this
def Zk0 (P:Program) (O:Z7) (bf:Nat->Bool) (n:Nat) (c:Code):Prop:=∀ (an:Ann) (dr:Door) (base:Nat->Prop) (w0:World) (I0:Imm) (m:Nat),(∀ n ∈ dr.K,n ∈ an.keep)->KLt base w0->∀ ⦃ac:Zg⦄,ZaS P an c=ac->∀ ⦃I:Imm⦄ ⦃β:Bmap⦄ ⦃tm tm':Tms⦄ ⦃σ σ':Za⦄ ⦃a:Act⦄ ⦃w:World⦄ ⦃e:Z1⦄,StF dr m an.nt base w0 I0 I β tm σ a w->Z0 O bf m n ac tm σ=some (e,tm',σ') ->
  ∀ ⦃Q:Exit->Act->World->Prop⦄,ZnG dr m an base w0 I0 I β e tm' σ' Q->c.wp P Q a w
theorem ZrD {P:Program} {an:Ann} {a b:Code} {ck:List Nat->Zg} {r:Zg} (h:Zhf P an a b ck=some r):∃ pre live ms en b1 bg ent c2,r=.range pre live ms en b1 bg ent c2 .skip:=by
 unfold Zhf at h
 repeat' split at h
 all_goals first
  | (simp only [Xa] at h;exact ⟨_,_,_,_,_,_,_,_,h.symm⟩)
  | cases h
theorem ZGk {m:Nat} {live:List Nat} {ms en b1:Nat} {bg:Bool} {ent:List AOp} {run fin:Nat->Tms->Za->Option (Z1×Tms×Za)} {tm:Tms} {σ:Za} {out:Z1×Tms×Za} (h:ZcP bf m live ms en b1 bg ent run fin tm σ=some out):∃ t B es tm0 σ0,ZeL m live ms tm σ=some (t,B,es,tm0,σ0)/\∀ es':List (AVal×AVal),es'.Perm es->ZbL bf m live ms en b1 bg ent run fin es es' tm σ=some out:=by
 unfold ZcP at h
 split at h
 ·cases h
 ·rename_i t B tm0 σ0 hh
  refine ⟨t,B,[],tm0,σ0,hh,fun es' hp=>?_⟩
  rw [Xbt.eq_nil hp]
  obtain ⟨h1,h2,_⟩:=Zi3 hh
  simp only [ZbL,Zbx,Zfb,h1,h2]
  exact h
 ·rename_i t B kv tm0 σ0 hh
  refine ⟨t,B,[kv],tm0,σ0,hh,fun es' hp=>?_⟩
  rw [List.perm_singleton.1 hp]
  split at h
  ·rename_i tm' σ' hr
   simp only [ZbL,Zbx,hh,if_true,hr]
   exact h
  ·cases h
 ·rename_i t B es tm0 σ0 hn1 hn2 hh
  refine ⟨t,B,es,tm0,σ0,hh,?_⟩
  unfold Zgj at h
  split at h
  case isFalse=>cases h
  rename_i hex
  have hall:=hex.choose_spec
  injection h with h
  rw [h] at hall
  exact hall
theorem Zpg (hO:ZaC P O) (hm:P.follows .mixedOrders=true) (n:Nat) (hkp:∀ n ∈ dr.K,n ∈ an.keep) (hb:KLt base w0) {x y:Code} (IH:∀ c',XaZ c' < XaZ (Code.seq x y)->Zk0 P O bf n c') {m:Nat} {pre:List AOp} {live:List Nat} {ms en b1:Nat} {bg:Bool} {ent:List AOp} {c2 c3 rest:Zg}
  (hr:Zhf P an x y (fun K=>ZaS P { an with keep:=K++an.keep } y)=some (.range pre live ms en b1 bg ent c2 c3)) {I:Imm} {β:Bmap} {tm:Tms} {σ:Za} {a:Act} {w:World} {out:Z1×Tms×Za} (hst:StF dr m an.nt base w0 I0 I β tm σ a w) (h:Z0 O bf m n (.range pre live ms en b1 bg ent c2 rest) tm σ=some out)
  {Q:Exit->Act->World->Prop} (hQ:∀ tmE σE aE wE,StF dr m an.nt base w0 I0 I β tmE σE aE wE->Z0 O bf m n rest tmE σE=some out->Q .normal aE wE):(Code.seq x y).wp P Q a w:=by
 unfold Zhf at hr
 split at hr
 case h_2=>cases hr
 rename_i i1 ops1 bid i3 ops3 ok bid' bb i4 ops4 body
 split at hr
 case h_2=>cases hr
 rename_i rg nxo exo eno lE hlast h3 h4
 split at hr
 case h_2=>cases hr
 rename_i t ms' it it1 nx hr1 hr2 hn1 hn2
 split at hr
 case h_2=>cases hr
 rename_i nx1 ok1 it2 en' hx1 hx2 he1 he2
 split at hr
 case h_2=>cases hr
 rename_i kt et pre' ent' i5 l5 s5 s6 b5 s7 c2' hu hpre hent hcb
 split at hr
 case isFalse=>cases hr
 rename_i hcond
 simp only [Xa,Zg.range.injEq] at hr
 obtain ⟨rfl,hlive,rfl,rfl,rfl,rfl,rfl,rfl,rfl⟩:=hr
 simp only [Xp,decide_eq_true_eq,Option.isNone_iff_eq_none,Wg,Xar,decide_eq_false_iff_not] at hcond
 obtain ⟨⟨⟨⟨⟨⟨⟨g1,g2⟩,g3⟩,g4⟩,⟨⟨⟨⟨z1,z2⟩,z3⟩,z4⟩,z5⟩⟩,⟨⟨d1,d2⟩,d3⟩,d4⟩,⟨⟨⟨⟨⟨⟨⟨d5,d6⟩,d7⟩,d8⟩,d9⟩,d10⟩,d11⟩,d12⟩⟩,⟨⟨q1,q2⟩,q3⟩,q4⟩:=hcond
 subst z1 z2 z3 z4 z5
 have hc2:ZaS P { an with keep:=it2::ms'::an.keep } body=c2':=by
  simp only [ZaS,Zi2,Zhf] at hcb
  simp only [Zg.block.injEq,Zg.loop.injEq,Zg.seq.injEq] at hcb
  obtain ⟨_,_,_,_,_,hcb⟩:=hcb
  split at hcb
  ·rename_i r hr
   obtain ⟨_,_,_,_,_,_,_,_,rfl⟩:=ZrD (P:=P) (an:={ an with keep:=it2::ms'::an.keep }) (a:=.region i4 ops4 false) (b:=body) (ck:=fun K=>ZaS P { an with keep:=K++it2::ms'::an.keep } body) hr
   cases hcb
  ·simp only [Zg.seq.injEq] at hcb
   exact hcb.2
 simp only [Z0] at h
 split at h
 case h_2=>cases h
 rename_i tm1 σ1 hst1
 obtain ⟨t0,B,es,tm0,σ0,hhead,hall⟩:=ZGk h
 obtain ⟨hg1,hg2,hmst,hkept⟩:=Zi3 hhead
 obtain ⟨hte,hml0,hwhat⟩:=Zp3 hmst
 obtain ⟨I1,β1,j1,j2,T1,⟨gd,gs⟩,R1⟩:=hst
 refine wp_seq (wp_region_list ?_)
 have hl1:ops1.toList=ops1.toList.dropLast++[rg]:=by
  obtain ⟨ys,hys⟩:=List.getLast?_eq_some_iff.1 hlast
  rw [hys,List.dropLast_concat]
 rw [hl1]
 obtain ⟨cs,hruns⟩:=Zq2 hst1
 refine ZmI (dr:=dr) (O:=fun _ _ _=>none) noO hkp hb hpre T1 ⟨gd,gs⟩ R1 hruns ?_
 rintro A2 w2 ⟨I2,β2,k1,k2,T2,⟨kd,ks⟩,R2⟩
 obtain ⟨β3,p1,R3g,T3⟩:=Zkh R2 (T2.keep live) m
 rw [hg2] at R3g
 rw [hg1] at T3
 have vt:=T3 ms'
 obtain ⟨b,vms⟩:∃ b,A2.tmps.getD ms' undef=.map (some b):=by
  rcases hwhat with ⟨h,_⟩ | ⟨j',nx',ns,nd,h,_,_,_⟩
  ·rw [h] at vt;simp only [VR] at vt;obtain ⟨b,_,_,_,e⟩:=vt;exact ⟨b,e⟩
  ·rw [h] at vt;simp only [VR] at vt;obtain ⟨b,_,_,_,e⟩:=vt;exact ⟨b,e⟩
 rw [vms] at vt
 obtain ⟨arr,clk,e2,⟨e3,e4,e5,e6⟩,_⟩:=Zpb (R3g.blk t0 _ hte) hwhat vt
 refine ZhP g1 ?_
 unfold Oper.wp
 have er:(execOp A2.eval rg).run P w2=.ok (.value (.pointer (some ⟨w2.heap.size,0,none⟩))) { w2 with heap:=w2.heap.push (.mapIter (some b) clk #[] clk) }:=by
  unfold execOp;rw [hr1]
  simp only [Act.eval]
  rw [vms]
  simp [Instr.range,run_underlying hu,Zdn e2]
 rw [er,Oper.upon_value,hr2]
 refine wpList_nil ?_
 simp only [Exit.then]
 have hbw:=R2.base_le hb
 have hblt:b < w2.heap.size:=(XG.1 e2).1
 generalize hr:w2.heap.size=rr at *
 have hown:∀ t x,σ1[t]?=some x->¬Zk w2 β2 t x rr:=fun t x hx ho=>by
  have:=(R2.blk t x hx).owns_lt ho;omega
 have hrb:¬base rr:=fun h=>by have:=hbw rr h;omega
 have hIr:∀ o,I2 rr o=none:=fun o=>by
  cases hi:I2 rr o with
  | none=>rfl
  | some u =>
   have:=ZdI (R2.imm rr o u hi)
   omega
 generalize hw3:({ w2 with heap:=w2.heap.push (.mapIter (some b) clk #[] clk) }:World)=w3
 have w3k:∀ k,k < w2.heap.size->w3.heap[k]?=w2.heap[k]?:=fun k hk=>by
  rw [<-hw3];simp only;rw [Array.getElem?_push];rw [if_neg (by omega)]
 have R3:Rel base w0 I0 I2 β2 σ1 w3:=R2.turn hown hrb hIr (by rw [<-hw3]) (by rw [<-hw3]) (by rw [<-hw3]) (by rw [<-hw3];simp) (fun k _ hk=>w3k k hk) hbw
 have hown3:∀ t x,σ1[t]?=some x->¬Zk w3 β2 t x rr:=fun t x hx ho=>hown t x hx (((R2.blk t x hx).owns_at (Bmap.le.refl β2) (fun b' hb'=>w3k b' ((R2.blk t x hx).owns_lt hb')) rr).1 ho)
 refine wp_block (wp_loop_rounds (es.length+1) ?_)
 have hlen:arr.size=es.length:=by
  have:=Zao e3
  simpa using this.symm
 have hlv:∀ n ∈ live,n≠it2/\n≠nx1/\n≠ok1/\n≠en':=by
  intro n hn
  rw [<-hlive] at hn
  simp only [ZsC,Xz,Wq,X2,Xp,Wg,Xar,decide_eq_false_iff_not,XH,List.not_mem_nil,or_false,not_or] at hn
  rcases hn with (⟨_,_,hn⟩ | rfl) | ⟨_,_,hn⟩
  ·exact ⟨hn.1,hn.2.1,hn.2.2.1,hn.2.2.2⟩
  ·exact ⟨W5 d5,W5 d6,W5 d7,W5 d8⟩
  ·exact ⟨hn.1,hn.2.1,hn.2.2.1,hn.2.2.2⟩
 refine ZDX (an:=an) (an3:={ an with keep:=it2::ms'::an.keep }) (base:=base) (w0:=w0) (I0:=I0) (m:=m) (live:=live) (ms:=ms') (it:=it2) (nx:=nx1) (ok:=ok1) (en:=en') (dr:=dr) hkp hm hb
  (fun dr' base' w0' I0' m' hk' hb' I β tm tm' σ σ' a w e hs he Q hQ=>IH body (by simp;omega) { an with keep:=it2::ms'::an.keep } dr' base' w0' I0' m' hk' hb' hc2 hs he hQ)
  h3 h4 hn1 hn2 g2 hx1 hx2 g3 he1 he2 g4 hent rfl rfl d1 d2 d3 d4 d5 d6 d7 d8 d9 d10 d11 d12 hlv q1 q2 q3 q4
  (r:=rr) (b:=b) (arr:=arr) (clk:=clk) (es:=es) (tm2:=tm1) (σ2:=σ1) (out:=out) (I:=I2) (β:=β2) e6 hlen (by omega) hrb (fun hk=>by rw [<-vms];exact (kd.2 ms' hk).symm) hall ?_ (es.length+1) [] tm1 σ1 _ w3 (by simp) (by simp) (by simp) rfl ?_ ?_ ?_
 ·
  intro tm σx a wx I' β' hend i1 i2 jT jd jR
  simp only [Exit.inBlock,if_true,Exit.then]
  obtain ⟨β4,o1,o2,o3⟩:=Zkh jR jT m
  exact hQ _ _ a wx ⟨I',β4,(j1.trans k1).trans i1,((j2.trans (KeptE.of_le k2)).trans i2).trans o1,o3,jd,o2⟩ hend
 ·rw [<-hw3,<-hr];simp
 ·rw [w3k b (by omega)];exact e2
 ·refine ⟨I2,β2,Imm.le.refl _,KeptE.refl _ _,?_,⟨⟨by rw [Zq0];exact kd.1,fun k hk=>?_⟩,by rw [Ze7];omega⟩,R3,hIr,hown3⟩
  ·refine Ziw (T2.keep live) ?_
   rw [Zkw,if_neg]
   exact fun h=>(hlv it2 h).1 rfl
  ·have hk':k=it2\/k=ms'\/k ∈ dr.K:=by simpa [Zca] using hk
   by_cases hki:k=it2
   ·subst hki
    rw [pgs (Nat.lt_of_lt_of_le d1 ks)];simp [Zca]
   ·rw [pgn (W5 hki)]
    by_cases hkm:k=ms'
    ·subst hkm
     rw [vms];simp [Zca,W5 d5]
    ·rcases hk' with h | h | h
     ·exact absurd h hki
     ·exact absurd h hkm
     ·rw [kd.2 k h];simp [Zca,hki,hkm]
theorem Zpc (hO:ZaC P O) (hm:P.follows .mixedOrders=true) (n:Nat):∀ (k:Nat) (c:Code),XaZ c<=k->Zk0 P O bf n c
 | 0,c,hk=>by cases c <;> simp at hk
 | k+1,c,hk=>by
  have IH:∀ c',XaZ c' < XaZ c->Zk0 P O bf n c':=fun c' h=>Zpc hO hm n k c' (by omega)
  intro an dr base w0 I0 m hkp hb
  cases c with
  | skip =>
   intro ac hc I β tm tm' σ σ' a w e hst h Q hQ
   simp only [ZaS] at hc;subst hc
   simp only [Z0,Xa,Xb] at h
   obtain ⟨rfl,rfl,rfl⟩:=h
   exact wp_skip (hQ a w hst)
  | region id ops draw =>
   intro ac hc I β tm tm' σ σ' a w e hst h Q hQ
   obtain ⟨asl,chk,live,rfl⟩:∃ asl chk live,ac=.region asl chk live:=by
    simp only [ZaS] at hc
    split at hc
    ·split at hc
     ·split at hc
      ·exact ⟨_,_,_,hc.symm⟩
      ·subst hc;simp only [Z0] at h;cases h
     ·exact ⟨_,_,_,hc.symm⟩
    ·subst hc;simp only [Z0] at h;cases h
   simp only [Z0] at h
   obtain ⟨I1,β1,g1,g2,g3,g4,g5⟩:=hst
   have up:∀ {tm:Tms} {σ:Za} {a':Act} {w':World},StR dr an.nt base w0 I0 I1 β1 tm σ a' w'->StF dr m an.nt base w0 I0 I β tm σ a' w':=by
    rintro tm σ a' w' ⟨I2,β2,k1,k2,k3⟩
    exact ⟨I2,β2,g1.trans k1,g2.trans (KeptE.of_le k2),k3⟩
   refine ZCZ hO hkp hm hb hc (⟨I1,β1,Imm.le.refl I1,Bmap.le.refl β1,g3,g4,g5⟩:StR dr an.nt base w0 I0 I1 β1 tm σ a w) h ?_
   cases e with
   | normal=>exact fun a' w' hs=>hQ a' w' (up hs)
   | exit id=>exact fun a' w' hs=>hQ a' w' (up hs)
   | ret=>exact fun a' w' hs=>hQ a' w' (up hs)
   | panic x =>
    rintro a' u w' hd ⟨I2,β2,k1,k2,k3,k4⟩
    exact hQ a' u w' hd ⟨I2,β2,g1.trans k1,g2.trans (KeptE.of_le k2),k3,k4⟩
  | seq x y =>
   intro ac hc I β tm tm' σ σ' a w e hst h Q hQ
   have ihx:=IH x (by simp;omega) an dr base w0 I0 m hkp hb
   have ihy:=IH y (by simp;omega) an dr base w0 I0 m hkp hb
   simp only [ZaS] at hc
   unfold Zi2 at hc
   split at hc
   ·rename_i r hr
    subst hc
    obtain ⟨pre,live,ms,en,b1,bg,ent,c2,rfl⟩:=ZrD hr
    exact Zpg hO hm n hkp hb (fun c' h'=>IH c' h') hr hst h (fun tmE σE aE wE hsE hfE=>by
     simp only [Z0,Xa,Xb] at hfE
     obtain ⟨rfl,rfl,rfl⟩:=hfE
     exact hQ aE wE hsE)
   rename_i hnone
   split at hc
   ·rename_i i1 o1 dd1 bid1 cc1 pre live ms en b1 bg ent c2 hca
    subst hc
    refine wp_seq ?_
    have hca':=hca
    simp only [ZaS] at hca'
    unfold Zi2 at hca'
    split at hca'
    ·rename_i r hr
     subst hca'
     exact Zpg hO hm n hkp hb (fun c' h'=>IH c' (Nat.lt_trans h' (by simp;omega))) hr hst h (fun tmE σE aE wE hsE hfE=>ihy rfl hsE hfE hQ)
    ·split at hca'
     ·rename_i heq _;cases heq
     ·cases hca'
   subst hc
   simp only [Z0] at h
   refine wp_seq ?_
   split at h
   ·rename_i tm1 σ1 h1
    exact ihx rfl hst h1 (fun a' w' hs=>ihy rfl hs h hQ)
   ·rename_i hne
    refine ihx rfl hst h ?_
    cases e with
    | normal=>exact absurd h (hne _ _)
    | exit id=>exact hQ
    | ret=>exact hQ
    | panic x=>exact hQ
  | cond c x y =>
   intro ac hc I β tm tm' σ σ' a w e hst h Q hQ
   have ihx:=IH x (by simp;omega) an dr base w0 I0 m hkp hb
   have ihy:=IH y (by simp;omega) an dr base w0 I0 m hkp hb
   simp only [ZaS] at hc
   split at hc
   ·rename_i c' hcc
    subst hc
    simp only [Z0] at h
    split at h
    ·rename_i hv
     exact wp_cond_true (hst.cond hcc hv) (ihx rfl hst h hQ)
    ·rename_i hv
     exact wp_cond_false (hst.cond hcc hv) (ihy rfl hst h hQ)
    ·cases h
   ·subst hc;simp only [Z0] at h;cases h
  | block id x =>
   intro ac hc I β tm tm' σ σ' a w e hst h Q hQ
   have ih:=IH x (by first | (simp;omega) | simp) an dr base w0 I0 m hkp hb
   simp only [ZaS] at hc
   subst hc
   have hx:ZaS P an x=ZaS P an x:=rfl
   simp only [Z0] at h
   refine wp_block ?_
   split at h
   ·rename_i i tm1 σ1 h1
    refine ih hx hst h1 ?_
    intro a' w' hs
    simp only [Exit.inBlock]
    split at h
    ·rename_i hid
     simp only [Xa,Xb] at h
     obtain ⟨rfl,rfl,rfl⟩:=h
     rw [if_pos hid]
     exact hQ a' w' hs
    ·rename_i hid
     simp only [Xa,Xb] at h
     obtain ⟨rfl,rfl,rfl⟩:=h
     rw [if_neg hid]
     exact hQ a' w' hs
   ·rename_i hne
    refine ih hx hst h ?_
    cases e with
    | normal=>exact hQ
    | exit id=>exact absurd h (hne _ _ _)
    | ret=>exact hQ
    | panic x=>exact hQ
  | loop x =>
   intro ac hc I β tm tm' σ σ' a w e hst h Q hQ
   have ih:=IH x (by first | (simp;omega) | simp) an dr base w0 I0 m hkp hb (rfl:ZaS P an x=ZaS P an x)
   simp only [ZaS] at hc
   subst hc
   have hx:ZaS P an x=ZaS P an x:=rfl
   simp only [Z0] at h
   refine wp_loop_rounds n ?_
   have key:∀ k {tm:Tms} {σ:Za} {a:Act} {w:World},StF dr m an.nt base w0 I0 I β tm σ a w->ZdC m (an.ll (Ze2 x)) (Z0 O bf m n (ZaS P an x)) k tm σ=some (e,tm',σ')->Code.rounds P x Q k a w:=by
    intro k
    induction k with
    | zero=>intro tm σ a w _ h;simp only [ZdC] at h;cases h
    | succ k ihk =>
     intro tm σ a w hst h
     rw [rounds_succ]
     simp only [ZdC] at h
     obtain ⟨I1,β1,k1,k2,k3,k4,k5⟩:=hst
     obtain ⟨β2,q1,q2,q3⟩:=Zkh k5 (k3.keep (an.ll (Ze2 x))) m
     have hst0:StF dr m an.nt base w0 I0 I β (gcT m (keepL (an.ll (Ze2 x)) tm) σ).1 (gcT m (keepL (an.ll (Ze2 x)) tm) σ).2 a w:=⟨I1,β2,k1,k2.trans q1,q3,k4,q2⟩
     split at h
     ·rename_i tm1 σ1 h1
      exact ih hst0 h1 (fun a' w' hs=>ihk hs h)
     ·rename_i hne
      refine ih hst0 h ?_
      cases e with
      | normal=>exact absurd h (hne _ _)
      | exit id=>exact hQ
      | ret=>exact hQ
      | panic x=>exact hQ
   exact key n hst h
  | exit id =>
   intro ac hc I β tm tm' σ σ' a w e hst h Q hQ
   simp only [ZaS] at hc;subst hc
   simp only [Z0,Xa,Xb] at h
   obtain ⟨rfl,rfl,rfl⟩:=h
   exact wp_exit (hQ a w hst)
  | ret =>
   intro ac hc I β tm tm' σ σ' a w e hst h Q hQ
   simp only [ZaS] at hc;subst hc
   simp only [Z0,Xa,Xb] at h
   obtain ⟨rfl,rfl,rfl⟩:=h
   exact wp_ret (hQ a w hst)
  | rangeFunc f ps x y=>intro ac hc I β tm tm' σ σ' a w e hst h;simp only [ZaS] at hc;subst hc;simp only [Z0] at h;cases h
  | scope x =>
   intro ac hc I β tm tm' σ σ' a w e hst h Q hQ
   have ih:=IH x (by first | (simp;omega) | simp) an dr base w0 I0 m hkp hb
   simp only [ZaS] at hc
   refine wp_scope_straight (ih hc hst h ?_)
   cases e with
   | normal=>exact hQ
   | exit id=>exact hQ
   | ret=>exact hQ
   | panic x=>exact hQ
  | label l =>
   intro ac hc I β tm tm' σ σ' a w e hst h Q hQ
   simp only [ZaS] at hc;subst hc
   simp only [Z0,Xa,Xb] at h
   obtain ⟨rfl,rfl,rfl⟩:=h
   exact wp_label (hQ a w hst)
  | goto l=>intro ac hc I β tm tm' σ σ' a w e hst h;simp only [ZaS] at hc;subst hc;simp only [Z0] at h;cases h
  | refuse why=>intro ac hc I β tm tm' σ σ' a w e hst h;simp only [ZaS] at hc;subst hc;simp only [Z0] at h;cases h
theorem ZIm (hO:ZaC P O) (hkp:∀ n ∈ dr.K,n ∈ an.keep) (hm:P.follows .mixedOrders=true) (hb:KLt base w0) (m n:Nat) {c:Code} {ac:Zg} (hc:ZaS P an c=ac) {I:Imm} {β:Bmap} {tm tm':Tms} {σ σ':Za} {a:Act} {w:World} {e:Z1} (hst:StF dr m an.nt base w0 I0 I β tm σ a w) (h:Z0 O bf m n ac tm σ=some (e,tm',σ'))
  {Q:Exit->Act->World->Prop} (hQ:ZnG dr m an base w0 I0 I β e tm' σ' Q):c.wp P Q a w :=
 Zpc hO hm n (XaZ c) c (XQ _) an dr base w0 I0 m hkp hb hc hst h hQ
theorem ZE2 {I:Imm} {β:Bmap} {σ σ':Za} {k:Option Nat} {a x:AVal} {c:Cls} {v:Value} (ha:VR I β a v) (h:ldA σ k a=some (x,σ',c)):∃ ad,v=.pointer (some ad):=by
 unfold ldA at h
 split at h
 ·simp only [VR] at ha;obtain ⟨b,k,c,_,rfl⟩:=ha;exact ⟨_,rfl⟩
 ·simp only [VR] at ha;obtain ⟨b,k,c,_,rfl⟩:=ha;exact ⟨_,rfl⟩
 ·simp only [VR] at ha;obtain ⟨b,off,rfl,_⟩:=ha;exact ⟨_,rfl⟩
 ·simp only [VR] at ha;obtain ⟨b,k,c,_,rfl⟩:=ha;exact ⟨_,rfl⟩
 ·cases h
def Zh1 (tmps:Array Value):ResultVar->Sem Value
 | .tmp t=>pure (tmps.getD t undef)
 | .cell a t=>do loadVar t (<-asAddr (tmps.getD a undef))
theorem Zmi {I:Imm} {β:Bmap} {tm:Tms} {σ:Za} {w:World} {tmps:Array Value} (T:TR I β tm tmps) (R:Rel base w0 I0 I β σ w):∀ {rs:List ResultVar} {asl:List Zgl} {xs:List AVal},Zf3 P rs=some asl->resAll tm σ asl=some xs ->
  ∃ vs:List Value,(rs.mapM (Zh1 tmps)).run P w=.ok vs w/\VRs I β xs vs
 | [],asl,xs,hc,h=>by
  simp only [Zf3,Xa] at hc;subst hc
  simp only [resAll,Xa] at h;subst h
  exact ⟨[],by simp,by simp only [VRs]⟩
 | r::rs,asl,xs,hc,h=>by
  have getD_eq:∀ t,VR I β (tget tm t) (tmps.getD t undef):=T
  cases r with
  | tmp t =>
   simp only [Zf3,Xq] at hc
   obtain ⟨as',has,rfl⟩:=hc
   simp only [resAll,resOne] at h
   split at h
   ·rename_i ys hys
    injection h with h;subst h
    obtain ⟨vs,h1,h2⟩:=Zmi T R has hys
    exact ⟨tmps.getD t undef::vs,by simp only [Xbq,Zh1,Sem.run_bind,Sem.run_pure,Result.andThen_ok,h1],by simp only [VRs];exact ⟨_,_,rfl,getD_eq t,h2⟩⟩
   ·cases h
  | cell a t =>
   simp only [Zf3] at hc
   split at hc
   ·rename_i k as' hk has
    injection hc with hc;subst hc
    simp only [resAll,resOne] at h
    split at h
    ·rename_i v hv
     split at h
     ·rename_i ys hys
      injection h with h;subst h
      obtain ⟨vs,h1,h2⟩:=Zmi T R has hys
      split at hv
      ·rename_i v' σ1 c1 hld
       injection hv with hv;subst hv
       obtain ⟨u,hu1,hu2,_⟩:=Zrm hk R (getD_eq a) hld
       obtain ⟨ad,had⟩:=ZE2 (getD_eq a) hld
       have hlv:(loadVar t ad).run P w=.ok u w:=by
        rw [had] at hu1
        simpa [Instr.loadAt,Instr.sureAddr] using hu1
       refine ⟨u::vs,?_,by simp only [VRs];exact ⟨_,_,rfl,hu2,h2⟩⟩
       simp only [Xbq,Zh1,had,asAddr,Sem.run_bind,Sem.run_pure,Result.andThen_ok,hlv,h1]
      ·cases hv
     ·cases h
    ·cases h
   ·cases hc
theorem Zyi {I:Imm} {β:Bmap} {tm:Tms} {σ:Za} {w:World} {tmps:Array Value} (T:TR I β tm tmps) (R:Rel base w0 I0 I β σ w) {fn:Func} {asl:List Zgl} {x:AVal} (hc:Zf3 P fn.results.toList=some asl) (h:resA tm σ asl=some x):∃ v,(results fn tmps).run P w=.ok v w/\VR I β x v:=by
 unfold resA at h
 have run:∀ {xs:List AVal},resAll tm σ asl=some xs->∃ vs:List Value,(results fn tmps).run P w=.ok (if h:vs.toArray.size=1 then vs.toArray[0] else .tuple vs.toArray) w/\VRs I β xs vs:=by
  intro xs hx
  obtain ⟨vs,h1,h2⟩:=Zmi T R hc hx
  refine ⟨vs,?_,h2⟩
  have hm:(fn.results.mapM (Zh1 tmps)).run P w=.ok vs.toArray w:=by
   rw [Array.mapM_eq_mapM_toList,Sem.run_map,h1];rfl
  have he:results fn tmps=(do let vs <-fn.results.mapM (Zh1 tmps);pure (if h:vs.size=1 then vs[0] else .tuple vs)):=by
   unfold results
   congr 1
  rw [he,Sem.run_bind,hm]
  rfl
 split at h
 ·rename_i v hv
  injection h with h;subst h
  obtain ⟨vs,h1,h2⟩:=run hv
  simp only [VRs] at h2
  obtain ⟨u,us,rfl,h3,rfl⟩:=h2
  exact ⟨u,by rw [h1];simp,h3⟩
 ·rename_i vs' hv hne
  injection h with h;subst h
  obtain ⟨vs,h1,h2⟩:=run hne
  have hl:=Zao h2
  refine ⟨.tuple vs.toArray,?_,by simp only [VR];exact ⟨_,rfl,by simpa using h2⟩⟩
  rw [h1,dif_neg]
  intro hs
  simp only [List.size_toArray] at hs
  match vs',hl with
  | [v],_=>exact hv v rfl
  | [],hl=>simp at hl;omega
  | _::_::_,hl=>simp at hl;omega
 ·cases h
theorem ZpV:∀ (args:List AVal) (i:Nat) (acc:Tms) (n:Nat),tget (enterA i args acc) n=if i<=n/\n < i+args.length then args.getD (n - i) .top else tget acc n
 | [],i,acc,n=>by simp only [enterA,XC];rw [if_neg (by omega)]
 | x::xs,i,acc,n=>by
  simp only [enterA,Xv]
  rw [ZpV xs (i+1) _ n]
  by_cases h:i+1<=n/\n < i+1+xs.length
  ·rw [if_pos h,if_pos (by omega),show n - i=(n - (i+1))+1 by omega,List.getD_cons_succ]
  ·rw [if_neg h]
   simp only [tget]
   by_cases h1:i=n
   ·subst h1
    rw [if_pos rfl,if_pos (by omega),Nat.sub_self,Xs]
   ·rw [if_neg h1,if_neg (by omega)]
theorem ZGq {I:Imm} {β:Bmap} {args:List AVal} {vs:Array Value} (h:VRs I β args vs.toList) (n:Nat):TR I β (enterA 0 args []) (vs++Xbm n undef):=by
 intro j
 rw [ZpV]
 have hl:=Zao h
 simp only [X1] at hl
 split
 ·rename_i hj
  have hjl:j < args.length:=by omega
  obtain ⟨v,h1,h2⟩:=Zci h (Xu hjl)
  have e1:args.getD (j - 0) .top=args[j]:=by simp [Xe,hjl]
  have e2:(vs++Xbm n undef).getD j undef=v:=by
   rw [W4,Array.getElem?_append_left (by omega)]
   have : vs[j]?=some v:=by simpa using h1
   rw [this];rfl
  rw [e1,e2];exact h2
 ·simp only [tget,VR]
def Zkc (P:Program) (prim:ZdS):Prop:=∀ f g,prim f=some g->∀ args σ r σ',g args σ=some (r,σ') ->
 (∃ fn,P.funcs[f]?=some fn/\fn.body.isSome=true/\(fn.name == "runtime.NumGoroutine")=false) /\
 ∀ base w0 I0 I β w (vs:Array Value),KLt base w0->Rel base w0 I0 I β σ w->VRs I β args vs.toList ->
  Calls P f vs w (fun e w'=>∃ u,Ends r e u/\Zcm σ.length base w0 I0 I β r σ' u w')
theorem Zni (hm:P.follows .mixedOrders=true) {prim:ZdS} (hP:Zkc P prim) (ann:Nat->Ann) (bf:Nat->Bool):∀ n,ZaC P (Zau (Zhk P ann) prim bf n)
 | 0=>by intro f args σ r σ' h;simp only [Zau] at h;cases h
 | n+1=>by
  have ih:=Zni hm hP ann bf n
  intro f args σ r σ' h
  simp only [Zau] at h
  split at h
  ·rename_i g hg
   exact hP f g hg args σ r σ' h
  split at h
  ·cases h
  rename_i fn hfn
  unfold Zhk at hfn
  split at hfn
  ·rename_i F hF
   split at hfn
   ·rename_i body hbody
    split at hfn
    ·cases hfn
    ·rename_i hname
     split at hfn
     ·rename_i rs hrs
      injection hfn with hfn;subst hfn
      refine ⟨⟨F,hF,by rw [hbody];rfl,by simpa using hname⟩,?_⟩
      intro base w0 I0 I β w vs hb R hargs
      refine calls_of_wp hF hbody ?_
      have T:=ZGq hargs (F.ntmps - vs.size)
      have hst:StF Zhw σ.length F.ntmps base w0 I0 I β (enterA 0 args []) σ { tmps:=vs++Xbm (F.ntmps - vs.size) undef,defers:=[] } w:=⟨I,β,Imm.le.refl I,KeptE.refl _ β,T,⟨ZlU.2 rfl,by simp;omega⟩,R⟩
      cases hx:Z0 (Zau (Zhk P ann) prim bf n) bf σ.length n (ZaS P { ann f with nt:=F.ntmps } body) (enterA 0 args []) σ with
      | none=>rw [hx] at h;simp only [Zbt] at h;cases h
      | some q =>
       obtain ⟨e,tm',σ1⟩:=q
       rw [hx] at h
       have fin:(match resA tm' σ1 rs with | some r=>Zbq σ.length σ1 r | none=>none)=some (r,σ')->∀ a' w',StF Zhw σ.length F.ntmps base w0 I0 I β tm' σ1 a' w'->a'.defers=[]/\∃ v,(results F a'.tmps).run P w'=.ok v w'/\∃ u,Ends r (.returned v) u/\Zcm σ.length base w0 I0 I β r σ' u w':=by
        intro hr a' w' ⟨I1,β1,g1,g2,g3,g4,g5⟩
        split at hr
        ·rename_i x hx1
         obtain ⟨v,h1,h2⟩:=Zyi g3 g5 hrs hx1
         have hnp:∀ y,x≠.pan y:=by rintro y rfl;simp only [VR] at h2
         obtain ⟨q1,q2⟩:=ZkV (⟨I1,β1,g1,g2,g5,by rw [Zf6 hnp];exact h2⟩:Zcm σ.length base w0 I0 I β x σ1 v w') hr
         refine ⟨ZlU.1 g4.1,v,h1,v,q2 _ ?_,q1⟩
         cases x <;> first | rfl | exact absurd rfl (hnp _)
        ·cases hr
       refine ZIm (dr:=Zhw) (an:={ ann f with nt:=F.ntmps }) ih (fun n hn=>by simp [Zhw] at hn) hm hb σ.length n rfl hst hx ?_
       cases e with
       | normal=>simp only [Zbt] at h;exact fun a' w' hs=>fin h a' w' hs
       | ret=>simp only [Zbt] at h;exact fun a' w' hs=>fin h a' w' hs
       | exit id=>simp only [Zbt] at h;cases h
       | panic x =>
        simp only [Zbt] at h
        intro a' u w' hd hp
        obtain ⟨q1,q2⟩:=ZkV hp h
        exact ⟨ZlU.1 hd,u,q2 _ rfl,q1⟩
     ·cases hfn
   ·cases hfn
  ·cases hfn
end
end
section
open Go.RowKit
def OLe (O O':Z7):Prop:=∀ f a σ r,O f a σ=some r->O' f a σ=some r
section
variable {O O':Z7} {bf:Nat->Bool}
theorem Zwn {view:Bool} {m:Nat} {x y:Option (AVal×Za)} (h:∀ r,x=some r->y=some r) {r:AVal×Za} (hr:Zba view m x=some r):Zba view m y=some r:=by
 cases x with
 | none=>cases view <;> simp [Zba,Zd6] at hr
 | some q=>rw [h q rfl];exact hr
theorem ZF5 {σ σf:Za} {ids ts:List Nat} {sq own:Nat} {x y:Option (AVal×Za)} (h:∀ r,x=some r->y=some r) {r:AVal×Za×Cls} (hr:ZaV σ σf ids ts sq own x=some r):ZaV σ σf ids ts sq own y=some r:=by
 cases x with
 | none=>simp only [ZaV] at hr;cases hr
 | some q=>rw [h q rfl];exact hr
theorem ZsK (hO:OLe O O') {σ:Za} {sq f own:Nat} {view:Bool} {args:List AVal} {r:AVal×Za×Cls} (h:ZX O bf σ sq f own view args=some r):ZX O' bf σ sq f own view args=some r:=by
 unfold ZX Zb0 at h ⊢
 split at h
 ·cases h
 ·rename_i vs ts hv
  split at h
  ·rename_i hc
   simp only [hc,if_true]
   exact ZF5 (fun q hq=>Zwn (fun q hq=>hO _ _ _ _ hq) hq) h
  ·cases h
theorem ZAv (hO:OLe O O') {tm:Tms} {σ:Za} {sq:Nat} {ins:Ins} {r:AVal×Za×Cls} (h:execI O bf tm σ sq ins=some r):execI O' bf tm σ sq ins=some r:=by
 cases ins
 case call f own view args =>
  simp only [execI] at h ⊢
  exact ZsK hO h
 case callv x args =>
  simp only [execI] at h ⊢
  split at h
  ·exact ZsK hO h
  ·cases h
 all_goals exact h
theorem Znu (hO:OLe O O') {o:AOp} {tm:Tms} {σ:Za} {sq:Nat} {r:AVal×Tms×Za×Cls} (h:ZT O bf o sq tm σ=some r):ZT O' bf o sq tm σ=some r:=by
 unfold ZT at h ⊢
 split at h
 ·cases h
 ·exact h
 ·split at h
  ·rename_i hf
   rw [if_pos hf]
   split at h
   ·rename_i he;rw [ZAv hO he];exact h
   ·cases h
  ·cases h
theorem Zne (hO:OLe O O'):∀ {ops:List AOp} {s:Nat} {tm:Tms} {σ:Za} {r:Tms×Za×List Cls×Option AVal},Z6 O bf ops s tm σ=some r->Z6 O' bf ops s tm σ=some r
 | [],_,_,_,_,h=>h
 | o::ops,s,tm,σ,r,h=>by
  simp only [Z6] at h ⊢
  split at h
  ·cases h
  ·rename_i h1
   rw [Znu hO h1]
   exact h
  ·rename_i v tm1 σ1 c hnp h1
   rw [Znu hO h1]
   simp only
   split at h
   ·cases h
   rename_i h2
   rw [Zne hO h2]
   exact h
theorem Zry (hO:OLe O O') {ops:List AOp} {chk:Option (List (Nat×Nat))} {live:List Nat} {tm:Tms} {σ:Za} {r:Z1×Tms×Za} (h:ZcJ O bf ops chk live tm σ=some r):ZcJ O' bf ops chk live tm σ=some r:=by
 unfold ZcJ at h ⊢
 cases hx:Z6 O bf ops σ.length tm (σ++XK (sitesOf ops) .free) with
 | none=>rw [hx] at h;simp only [Zeb] at h;cases h
 | some q=>rw [Zne hO hx];rw [hx] at h;exact h
theorem Zj9 {m0:Nat} {live:List Nat} {f f':Tms->Za->Option (Z1×Tms×Za)} (hf:∀ tm σ r,f tm σ=some r->f' tm σ=some r):∀ {n n':Nat} {tm:Tms} {σ:Za} {r:Z1×Tms×Za},n<=n'->ZdC m0 live f n tm σ=some r->ZdC m0 live f' n' tm σ=some r
 | 0,_,_,_,_,_,h=>by simp only [ZdC] at h;cases h
 | n+1,0,_,_,_,hn,_=>by omega
 | n+1,n'+1,tm,σ,r,hn,h=>by
  simp only [ZdC] at h ⊢
  split at h
  ·rename_i h1
   rw [hf _ _ _ h1]
   exact Zj9 hf (by omega) h
  ·rename_i hne
   rw [hf _ _ _ h]
   split
   ·rename_i e;injection e with e;subst e;exact absurd h (hne _ _)
   ·rfl
def RLe (run run':Nat->Tms->Za->Option (Z1×Tms×Za)):Prop:=∀ m tm σ r,run m tm σ=some r->run' m tm σ=some r
section
variable {m:Nat} {live:List Nat} {ms en b1:Nat} {bg:Bool} {ent:List AOp} {run run' fin fin':Nat->Tms->Za->Option (Z1×Tms×Za)}
theorem Zjw (h:RLe run run') {t:Nat} {B:Zy} {kv:AVal×AVal} {tm:Tms} {σ:Za} {r:Tms×Za} (hr:Zcf bf ms en b1 bg ent run t B kv tm σ=some r):Zcf bf ms en b1 bg ent run' t B kv tm σ=some r:=by
 unfold Zcf at hr ⊢
 split at hr
 ·rename_i tm1 σ1 h1
  cases hx:run σ.length tm1 σ1 with
  | none=>rw [hx] at hr;cases hr
  | some q=>rw [hx] at hr;simp only [h _ _ _ _ hx];exact hr
 ·cases hr
theorem ZiX (h:RLe run run') {es:List (AVal×AVal)}:∀ {l:List (AVal×AVal)} {tm:Tms} {σ:Za} {r:Tms×Za},Zbx bf m live ms en b1 bg ent run es l tm σ=some r->Zbx bf m live ms en b1 bg ent run' es l tm σ=some r
 | [],tm,σ,r,hr=>hr
 | kv::l,tm,σ,r,hr=>by
  simp only [Zbx] at hr ⊢
  split at hr
  ·rename_i t B es' tm0 σ0 hh
   split at hr
   ·rename_i he
    simp only [he,if_true]
    split at hr
    ·rename_i tm' σ' h1
     rw [Zjw h h1]
     exact ZiX h hr
    ·cases hr
   ·cases hr
  ·cases hr
theorem ZpL (h:RLe run run') (hf:RLe fin fin') {es l:List (AVal×AVal)} {tm:Tms} {σ:Za} {r:Z1×Tms×Za} (hr:ZbL bf m live ms en b1 bg ent run fin es l tm σ=some r):ZbL bf m live ms en b1 bg ent run' fin' es l tm σ=some r:=by
 unfold ZbL at hr ⊢
 split at hr
 ·rename_i tm' σ' h1
  rw [ZiX h h1]
  exact hf _ _ _ _ hr
 ·cases hr
theorem Zl0 {es:List (AVal×AVal)} {tm:Tms} {σ:Za} {r:Z1×Tms×Za}:Zgj bf m live ms en b1 bg ent run fin es tm σ=some r↔∀ es':List (AVal×AVal),es'.Perm es->ZbL bf m live ms en b1 bg ent run fin es es' tm σ=some r:=by
 unfold Zgj
 constructor
 ·intro h
  split at h
  ·rename_i hx
   injection h with h
   rw [<-h]
   exact hx.choose_spec
  ·cases h
 ·intro h
  have hx:∃ out,∀ es':List (AVal×AVal),es'.Perm es->ZbL bf m live ms en b1 bg ent run fin es es' tm σ=some out:=⟨r,h⟩
  rw [dif_pos hx]
  have h1:=hx.choose_spec es (XaE _)
  rw [h es (XaE _)] at h1
  injection h1 with h1
  rw [<-h1]
theorem ZsO (h:RLe run run') (hf:RLe fin fin') {tm:Tms} {σ:Za} {r:Z1×Tms×Za} (hr:ZcP bf m live ms en b1 bg ent run fin tm σ=some r):ZcP bf m live ms en b1 bg ent run' fin' tm σ=some r:=by
 unfold ZcP at hr ⊢
 split at hr
 ·cases hr
 ·exact hf _ _ _ _ hr
 ·split at hr
  ·rename_i h1
   rw [Zjw h h1]
   exact hf _ _ _ _ hr
  ·cases hr
 ·rw [Zl0] at hr ⊢
  exact fun es' hp=>ZpL h hf (hr es' hp)
end
theorem ZrI {α:Type} (Q:Nat->α->Prop) (hm:∀ n n' x,n<=n'->Q n x->Q n' x):∀ (L:List α),(∀ x ∈ L,∃ n,Q n x)->∃ n,∀ x ∈ L,Q n x
 | [],_=>⟨0,fun x hx=>by cases hx⟩
 | x::L,h=>by
  obtain ⟨a,ha⟩:=h x (by simp)
  obtain ⟨b,hb⟩:=ZrI Q hm L (fun y hy=>h y (by simp [hy]))
  refine ⟨max a b,fun y hy=>?_⟩
  rcases XH.1 hy with rfl | hy
  ·exact hm _ _ _ (WS _ _) ha
  ·exact hm _ _ _ (WB _ _) (hb y hy)
theorem Zsk {α:Type} (es:List α) {i:Nat} (hi:i < es.length):(es[i]::es.eraseIdx i).Perm es:=by
 rw [List.eraseIdx_eq_take_drop_succ]
 have h:es.take i++es[i]::es.drop (i+1)=es:=by rw [List.getElem_cons_drop,Xa9]
 have:=(List.perm_middle (a:=es[i]) (l₁:=es.take i) (l₂:=es.drop (i+1))).symm
 rwa [h] at this
theorem ZrN {α:Type}:∀ (k:Nat) (es:List α) (P:Nat->List α->Prop),es.length=k->(∀ n n' l,n<=n'->P n l->P n' l)->(∀ l:List α,l.Perm es->∃ n,P n l)->∃ n,∀ l:List α,l.Perm es->P n l
 | 0,es,P,hk,hm,h=>by
  obtain rfl:es=[]:=X7 hk
  obtain ⟨n,hn⟩:=h [] (XaE _)
  exact ⟨n,fun l hl=>by rw [Xbt.eq_nil hl];exact hn⟩
 | k+1,es,P,hk,hm,h=>by
  have key:∀ i ∈ Wt es.length,∃ n,∀ (hi:i < es.length),∀ r:List α,r.Perm (es.eraseIdx i)->P n (es[i]::r):=by
   intro i hi
   have hi:=WV.1 hi
   obtain ⟨n,hn⟩:=ZrN k (es.eraseIdx i) (fun n r=>P n (es[i]::r)) (by rw [List.length_eraseIdx_of_lt hi];omega) (fun n n' l hn hp=>hm n n' _ hn hp) (fun r hr=>h _ ((Xbt.cons _ hr).trans (Zsk es hi)))
   exact ⟨n,fun _ r hr=>hn r hr⟩
  obtain ⟨n,hn⟩:=ZrI (fun n i=>∀ (hi:i < es.length),∀ r:List α,r.Perm (es.eraseIdx i)->P n (es[i]::r)) (fun n n' i hle hq hi r hr=>hm n n' _ hle (hq hi r hr)) _ key
  refine ⟨n,fun l hl=>?_⟩
  cases l with
  | nil=>have:=hl.length_eq;simp at this;omega
  | cons x r =>
   have hx:x ∈ es:=hl.subset (by simp)
   obtain ⟨i,hi,rfl⟩:=List.getElem_of_mem hx
   exact hn i (WV.2 hi) hi r (Xbt.cons_inv (hl.trans (Zsk es hi).symm))
theorem Zdk (hO:OLe O O'):∀ {m0:Nat} {c:Zg} {n n':Nat} {tm:Tms} {σ:Za} {r:Z1×Tms×Za},n<=n'->Z0 O bf m0 n c tm σ=some r->Z0 O' bf m0 n' c tm σ=some r:=by
 intro m0 c
 induction c generalizing m0 with
 | skip=>intro n n' tm σ r _ h;exact h
 | exit id=>intro n n' tm σ r _ h;exact h
 | ret=>intro n n' tm σ r _ h;exact h
 | stuck=>intro n n' tm σ r _ h;exact h
 | region ops chk live =>
  intro n n' tm σ r _ h
  simp only [Z0] at h ⊢
  exact Zry hO h
 | seq a b iha ihb =>
  intro n n' tm σ r hn h
  simp only [Z0] at h ⊢
  split at h
  ·rename_i h1;rw [iha hn h1];exact ihb hn h
  ·rename_i hne
   rw [iha hn h]
   split
   ·rename_i e;injection e with e;subst e;exact absurd h (hne _ _)
   ·rfl
 | cond c a b iha ihb =>
  intro n n' tm σ r hn h
  simp only [Z0] at h ⊢
  split at h
  ·exact iha hn h
  ·exact ihb hn h
  ·cases h
 | block id c ih =>
  intro n n' tm σ r hn h
  simp only [Z0] at h ⊢
  split at h
  ·rename_i h1;rw [ih hn h1];exact h
  ·rename_i hne
   rw [ih hn h]
   split
   ·rename_i e;injection e with e;subst e;exact absurd h (hne _ _ _)
   ·rfl
 | loop live c ih =>
  intro n n' tm σ r hn h
  simp only [Z0] at h ⊢
  exact Zj9 (fun tm σ r h=>ih hn h) hn h
 | range pre live ms en b1 bg ent body rest ihb ihr =>
  intro n n' tm σ r hn h
  simp only [Z0] at h ⊢
  split at h
  ·exact ZsO (fun m tm σ r h=>ihb hn h) (fun m tm σ r h=>ihr hn h) h
  ·cases h
theorem Zmf {m0:Nat} {fn:ZaA} {x y:Option (Z1×Tms×Za)} (h:∀ r,x=some r->y=some r) {r:AVal×Za} (hr:Zbt m0 fn x=some r):Zbt m0 fn y=some r:=by
 cases x with
 | none=>simp only [Zbt] at hr;cases hr
 | some q=>rw [h q rfl];exact hr
theorem ZpG (fs:Nat->Option ZaA) (prim:ZdS):∀ n,OLe (Zau fs prim bf n) (Zau fs prim bf (n+1))
 | 0=>by intro f a σ r h;simp only [Zau] at h;cases h
 | n+1=>by
  intro f a σ r h
  rw [Zau] at h ⊢
  split at h
  ·rename_i g hg;exact h
  ·rename_i hg
   split at h
   ·cases h
   ·rename_i fn hfn
    exact Zmf (fun q hq=>Zdk (ZpG fs prim n) (by omega) hq) h
theorem ZhH (fs : Nat -> Option ZaA) (prim : ZdS) {n m : Nat} (h : n <= m) : OLe (Zau fs prim bf n) (Zau fs prim bf m) := by
  induction m with
  | zero => obtain rfl : n = 0 := by omega
            exact fun _ _ _ _ h => h
  | succ m ih =>
    by_cases e : n = m + 1
    . subst e; exact fun _ _ _ _ h => h
    . exact fun f a σ r hr => ZpG fs prim m f a σ r (ih (by omega) f a σ r hr)
end
section
variable (fs:Nat->Option ZaA) (prim:ZdS) (bf:Nat->Bool)
open Classical in
noncomputable def EV:Z7:=fun f args σ=>if h:∃ r,∃ n,Zau fs prim bf n f args σ=some r then some h.choose else none
open Classical in
noncomputable def evC (m:Nat) (c:Zg) (tm:Tms) (σ:Za):Option (Z1×Tms×Za):=if h:∃ r,∃ n,Z0 (Zau fs prim bf n) bf m n c tm σ=some r then some h.choose else none
variable {fs prim bf} {m0:Nat}
theorem ZcL {f:Nat} {args:List AVal} {σ:Za} {r:AVal×Za}:EV fs prim bf f args σ=some r↔∃ n,Zau fs prim bf n f args σ=some r:=by
 unfold EV
 constructor
 ·intro h
  split at h
  ·rename_i hx
   injection h with h
   rw [<-h]
   exact hx.choose_spec
  ·cases h
 ·rintro ⟨n,hn⟩
  have hx:∃ r,∃ n,Zau fs prim bf n f args σ=some r:=⟨r,n,hn⟩
  rw [dif_pos hx]
  obtain ⟨m,hm⟩:=hx.choose_spec
  have h1:=ZhH (bf:=bf) fs prim (WS n m) _ _ _ _ hn
  have h2:=ZhH (bf:=bf) fs prim (WB n m) _ _ _ _ hm
  rw [h1] at h2
  injection h2 with h2
  rw [<-h2]
theorem Zbk {c:Zg} {tm:Tms} {σ:Za} {r:Z1×Tms×Za}:evC fs prim bf m0 c tm σ=some r↔∃ n,Z0 (Zau fs prim bf n) bf m0 n c tm σ=some r:=by
 unfold evC
 constructor
 ·intro h
  split at h
  ·rename_i hx
   injection h with h
   rw [<-h]
   exact hx.choose_spec
  ·cases h
 ·rintro ⟨n,hn⟩
  have hx:∃ r,∃ n,Z0 (Zau fs prim bf n) bf m0 n c tm σ=some r:=⟨r,n,hn⟩
  rw [dif_pos hx]
  obtain ⟨m,hm⟩:=hx.choose_spec
  have h1:=Zdk (ZhH (bf:=bf) fs prim (WS n m)) (WS n m) hn
  have h2:=Zdk (ZhH (bf:=bf) fs prim (WB n m)) (WB n m) hm
  rw [h1] at h2
  injection h2 with h2
  rw [<-h2]
theorem Ze6 {α:Type} {x y:Option α} (h:∀ r,x=some r↔y=some r):x=y:=by
 cases x with
 | none =>
  cases y with
  | none=>rfl
  | some q=>exact absurd ((h q).2 rfl) (by simp)
 | some q=>exact ((h q).1 rfl).symm
theorem Zy7 (n:Nat):OLe (Zau fs prim bf n) (EV fs prim bf):=fun _ _ _ _ h=>ZcL.2 ⟨n,h⟩
theorem up {n m:Nat} (h:n<=m):OLe (Zau fs prim bf n) (Zau fs prim bf m):=ZhH fs prim h
theorem Zzc {f:Nat} {fn:ZaA} (hp:prim f=none) (hf:fs f=some fn) (args:List AVal) (σ:Za):EV fs prim bf f args σ=Zbt σ.length fn (evC fs prim bf σ.length fn.body (enterA 0 args []) σ):=by
 apply Ze6
 intro r
 rw [ZcL]
 constructor
 ·rintro ⟨n,h⟩
  cases n with
  | zero=>simp only [Zau] at h;cases h
  | succ n =>
   rw [Zau,hp,hf] at h
   exact Zmf (fun q hq=>Zbk.2 ⟨n,hq⟩) h
 ·intro h
  cases hx:evC fs prim bf σ.length fn.body (enterA 0 args []) σ with
  | none=>rw [hx] at h;simp only [Zbt] at h;cases h
  | some q =>
   obtain ⟨n,hn⟩:=Zbk.1 hx
   refine ⟨n+1,?_⟩
   rw [Zau,hp,hf]
   rw [hx] at h
   exact Zmf (x:=some q) (fun q' hq'=>by injection hq' with hq';subst hq';exact hn) h
theorem ZpX {σ:Za} {sq f own:Nat} {view:Bool} {args:List AVal} {r:AVal×Za×Cls} (h:ZX (EV fs prim bf) bf σ sq f own view args=some r):∃ n,ZX (Zau fs prim bf n) bf σ sq f own view args=some r:=by
 unfold ZX Zb0 at h ⊢
 split at h
 ·cases h
 ·rename_i vs ts hv
  split at h
  ·rename_i hc
   simp only [hc,if_true]
   cases hx:EV fs prim bf f (ZW (Zc (ZU σ ts) 0 (Zf (ZU σ ts) 1000 (ZZ vs) [])) vs) (Ze (ZU σ ts) 0 (Zf (ZU σ ts) 1000 (ZZ vs) []) (Zc (ZU σ ts) 0 (Zf (ZU σ ts) 1000 (ZZ vs) [])) (Zf (ZU σ ts) 1000 (ZZ vs) []) 0) with
   | none =>
    rw [hx] at h
    cases view <;> simp [Zba,Zd6,ZaV] at h
   | some q =>
    obtain ⟨n,hn⟩:=ZcL.1 hx
    exact ⟨n,by rw [hn];rw [hx] at h;exact h⟩
  ·cases h
theorem ZF6 {tm:Tms} {σ:Za} {sq:Nat} {ins:Ins} {r:AVal×Za×Cls} (h:execI (EV fs prim bf) bf tm σ sq ins=some r):∃ n,execI (Zau fs prim bf n) bf tm σ sq ins=some r:=by
 cases ins
 case call f own view args =>
  simp only [execI] at h ⊢
  exact ZpX h
 case callv x args =>
  simp only [execI] at h ⊢
  split at h
  ·exact ZpX h
  ·cases h
 all_goals exact ⟨0,h⟩
theorem Zra {o:AOp} {tm:Tms} {σ:Za} {sq:Nat} {r:AVal×Tms×Za×Cls} (h:ZT (EV fs prim bf) bf o sq tm σ=some r):∃ n,ZT (Zau fs prim bf n) bf o sq tm σ=some r:=by
 unfold ZT at h ⊢
 split at h
 ·cases h
 ·exact ⟨0,h⟩
 ·split at h
  ·rename_i hf
   simp only [hf,if_true]
   split at h
   ·rename_i he
    obtain ⟨n,hn⟩:=ZF6 he
    exact ⟨n,by rw [hn];exact h⟩
   ·cases h
  ·cases h
theorem ZrV:∀ {ops:List AOp} {s:Nat} {tm:Tms} {σ:Za} {r:Tms×Za×List Cls×Option AVal},Z6 (EV fs prim bf) bf ops s tm σ=some r->∃ n,Z6 (Zau fs prim bf n) bf ops s tm σ=some r
 | [],_,_,_,_,h=>⟨0,h⟩
 | o::ops,s,tm,σ,r,h=>by
  simp only [Z6] at h ⊢
  split at h
  ·cases h
  ·rename_i h1
   obtain ⟨n,hn⟩:=Zra h1
   exact ⟨n,by rw [hn];exact h⟩
  rename_i v tm1 σ1 c hnp h1
  split at h
  ·cases h
  rename_i h2
  obtain ⟨n,hn⟩:=Zra h1
  obtain ⟨m,hm⟩:=ZrV h2
  refine ⟨max n m,?_⟩
  rw [Znu (up (WS n m)) hn]
  simp only
  rw [Zne (up (WB n m)) hm]
  exact h
theorem Ztv {ops:List AOp} {chk:Option (List (Nat×Nat))} {live:List Nat} {tm:Tms} {σ:Za} {r:Z1×Tms×Za} (h:ZcJ (EV fs prim bf) bf ops chk live tm σ=some r):∃ n,ZcJ (Zau fs prim bf n) bf ops chk live tm σ=some r:=by
 unfold ZcJ at h ⊢
 cases hx:Z6 (EV fs prim bf) bf ops σ.length tm (σ++XK (sitesOf ops) .free) with
 | none=>rw [hx] at h;simp only [Zeb] at h;cases h
 | some q =>
  obtain ⟨n,hn⟩:=ZrV hx
  exact ⟨n,by rw [hn];rw [hx] at h;exact h⟩
theorem Zpt (tm:Tms) (σ:Za):evC fs prim bf m0 .skip tm σ=some (.normal,tm,σ):=Zbk.2 ⟨0,rfl⟩
theorem Zxa (id:Nat) (tm:Tms) (σ:Za):evC fs prim bf m0 (.exit id) tm σ=some (.exit id,tm,σ):=Zbk.2 ⟨0,rfl⟩
theorem ZAx (tm:Tms) (σ:Za):evC fs prim bf m0 .ret tm σ=some (.ret,tm,σ):=Zbk.2 ⟨0,rfl⟩
theorem ZBY {ops:List AOp} {chk:Option (List (Nat×Nat))} {live:List Nat} {tm:Tms} {σ:Za}:evC fs prim bf m0 (.region ops chk live) tm σ=ZcJ (EV fs prim bf) bf ops chk live tm σ:=by
 apply Ze6
 intro r
 rw [Zbk]
 constructor
 ·rintro ⟨n,hn⟩
  simp only [Z0] at hn
  exact Zry (Zy7 n) hn
 ·intro h
  obtain ⟨n,hn⟩:=Ztv h
  exact ⟨n,by simp only [Z0];exact hn⟩
theorem ZjM {a b:Zg} {tm tm':Tms} {σ σ':Za} (h:evC fs prim bf m0 a tm σ=some (.normal,tm',σ')):evC fs prim bf m0 (.seq a b) tm σ=evC fs prim bf m0 b tm' σ':=by
 obtain ⟨n,hn⟩:=Zbk.1 h
 apply Ze6
 intro r
 rw [Zbk,Zbk]
 constructor
 ·rintro ⟨m,hm⟩
  have h1:=Zdk (up (WS n m)) (WS n m) hn
  have h2:=Zdk (up (WB n m)) (WB n m) hm
  simp only [Z0,h1] at h2
  exact ⟨_,h2⟩
 ·rintro ⟨m,hm⟩
  have h1:=Zdk (up (WS n m)) (WS n m) hn
  have h2:=Zdk (up (WB n m)) (WB n m) hm
  exact ⟨max n m,by simp only [Z0,h1];exact h2⟩
theorem ZmB {a b:Zg} {tm tm':Tms} {σ σ':Za} {e:Z1} (he:e≠.normal) (h:evC fs prim bf m0 a tm σ=some (e,tm',σ')):evC fs prim bf m0 (.seq a b) tm σ=some (e,tm',σ'):=by
 obtain ⟨n,hn⟩:=Zbk.1 h
 refine Zbk.2 ⟨n,?_⟩
 simp only [Z0,hn]
 cases e with
 | normal=>exact absurd rfl he
 | exit id=>rfl
 | ret=>rfl
 | panic x=>rfl
def Zbz (id:Nat):Z1×Tms×Za->Z1×Tms×Za
 | (.exit i,tm,σ)=>if i=id then (.normal,tm,σ) else (.exit i,tm,σ)
 | r=>r
theorem ZsY {id:Nat} {c:Zg} {tm:Tms} {σ:Za}:evC fs prim bf m0 (.block id c) tm σ=(evC fs prim bf m0 c tm σ).map (Zbz id):=by
 have step:∀ n,Z0 (Zau fs prim bf n) bf m0 n (.block id c) tm σ=(Z0 (Zau fs prim bf n) bf m0 n c tm σ).map (Zbz id):=by
  intro n
  simp only [Z0]
  cases Z0 (Zau fs prim bf n) bf m0 n c tm σ with
  | none=>rfl
  | some q =>
   obtain ⟨e,tm1,σ1⟩:=q
   cases e with
   | normal=>rfl
   | ret=>rfl
   | panic x=>rfl
   | exit i=>simp only [XZ,Zbz];split <;> rfl
 apply Ze6;intro r
 rw [Zbk]
 simp only [step,Xq]
 constructor
 ·rintro ⟨n,q,h1,h2⟩;exact ⟨q,Zbk.2 ⟨n,h1⟩,h2⟩
 ·rintro ⟨q,h1,h2⟩;obtain ⟨n,hn⟩:=Zbk.1 h1;exact ⟨n,q,hn,h2⟩
theorem ZIE {c:Zg} {tm:Tms} {σ:Za} (h:evC fs prim bf m0 c tm σ=none) (n:Nat):Z0 (Zau fs prim bf n) bf m0 n c tm σ=none:=by
 cases hx:Z0 (Zau fs prim bf n) bf m0 n c tm σ with
 | none=>rfl
 | some r=>rw [Zbk.2 ⟨n,hx⟩] at h;cases h
variable (fs prim bf m0) in
noncomputable def Zb5 (b:Zg):Option (Z1×Tms×Za)->Option (Z1×Tms×Za)
 | some (.normal,tm,σ)=>evC fs prim bf m0 b tm σ
 | r=>r
theorem ZvR {a b:Zg} {tm:Tms} {σ:Za}:evC fs prim bf m0 (.seq a b) tm σ=Zb5 fs prim bf m0 b (evC fs prim bf m0 a tm σ):=by
 cases h:evC fs prim bf m0 a tm σ with
 | none =>
  simp only [Zb5]
  apply Ze6;intro r
  rw [Zbk]
  constructor
  ·rintro ⟨n,hn⟩
   simp only [Z0,ZIE h n] at hn
   cases hn
  ·intro h;cases h
 | some q =>
  obtain ⟨e,tm',σ'⟩:=q
  cases e with
  | normal=>exact ZjM h
  | exit id=>exact ZmB (by simp) h
  | ret=>exact ZmB (by simp) h
  | panic x=>exact ZmB (by simp) h
variable (fs prim bf m0) in
noncomputable def Zit (a b:Zg) (tm:Tms) (σ:Za):AVal->Option (Z1×Tms×Za)
 | .bool true=>evC fs prim bf m0 a tm σ
 | .bool false=>evC fs prim bf m0 b tm σ
 | _=>none
theorem ZzH {c:Opd} {a b:Zg} {tm:Tms} {σ:Za}:evC fs prim bf m0 (.cond c a b) tm σ=Zit fs prim bf m0 a b tm σ (c.ev tm):=by
 apply Ze6;intro r
 rw [Zbk]
 simp only [Z0]
 constructor
 ·rintro ⟨n,hn⟩
  split at hn
  ·rename_i e;rw [e];simp only [Zit];exact Zbk.2 ⟨n,hn⟩
  ·rename_i e;rw [e];simp only [Zit];exact Zbk.2 ⟨n,hn⟩
  ·cases hn
 ·intro h
  unfold Zit at h
  split at h
  ·rename_i e;obtain ⟨n,hn⟩:=Zbk.1 h;exact ⟨n,by rw [e];exact hn⟩
  ·rename_i e;obtain ⟨n,hn⟩:=Zbk.1 h;exact ⟨n,by rw [e];exact hn⟩
  ·cases h
variable (fs prim bf m0) in
noncomputable def evL (live:List Nat) (c:Zg) (tm:Tms) (σ:Za):Option (Z1×Tms×Za) :=
 match evC fs prim bf m0 c tm σ with
 | some (.normal,tm',σ')=>evC fs prim bf m0 (.loop live c) tm' σ'
 | r=>r
theorem Zq3 {live:List Nat} {c:Zg} {tm:Tms} {σ:Za}:evC fs prim bf m0 (.loop live c) tm σ=evL fs prim bf m0 live c (gcT m0 (keepL live tm) σ).1 (gcT m0 (keepL live tm) σ).2:=by
 apply Ze6;intro r
 rw [Zbk]
 constructor
 ·rintro ⟨n,hn⟩
  simp only [Z0] at hn
  cases n with
  | zero=>simp only [ZdC] at hn;cases hn
  | succ k =>
   simp only [ZdC] at hn
   unfold evL
   cases hx:Z0 (Zau fs prim bf (k+1)) bf m0 (k+1) c (gcT m0 (keepL live tm) σ).1 (gcT m0 (keepL live tm) σ).2 with
   | none=>rw [hx] at hn;cases hn
   | some q =>
    rw [Zbk.2 ⟨_,hx⟩]
    rw [hx] at hn
    obtain ⟨e,tm',σ'⟩:=q
    cases e with
    | normal =>
     simp only at hn ⊢
     exact Zbk.2 ⟨k+1,by simp only [Z0];exact Zj9 (fun _ _ _ h=>h) (by omega) hn⟩
    | exit id=>exact hn
    | ret=>exact hn
    | panic x=>exact hn
 ·intro h
  unfold evL at h
  cases hx:evC fs prim bf m0 c (gcT m0 (keepL live tm) σ).1 (gcT m0 (keepL live tm) σ).2 with
  | none=>rw [hx] at h;cases h
  | some q =>
   rw [hx] at h
   obtain ⟨n,hn⟩:=Zbk.1 hx
   obtain ⟨e,tm',σ'⟩:=q
   have out:e≠.normal->some (e,tm',σ')=some r->∃ n,Z0 (Zau fs prim bf n) bf m0 n (.loop live c) tm σ=some r:=by
    intro he h
    refine ⟨n+1,?_⟩
    have h1:=Zdk (up (show n<=n+1 by omega)) (show n<=n+1 by omega) hn
    simp only [Z0,ZdC,h1]
    cases e with
    | normal=>exact absurd rfl he
    | exit id=>exact h
    | ret=>exact h
    | panic x=>exact h
   cases e with
   | normal =>
    simp only at h
    obtain ⟨m,hm⟩:=Zbk.1 h
    have h1:=Zdk (up (show n<=max n m+1 by omega)) (show n<=max n m+1 by omega) hn
    have h2:=Zdk (up (show m<=max n m+1 by omega)) (XQ m) hm
    simp only [Z0] at h2
    refine ⟨max n m+1,?_⟩
    simp only [Z0,ZdC,h1]
    exact Zj9 (fun tm σ r h=>Zdk (fun _ _ _ _ h=>h) (by omega) h) (by omega) h2
   | exit id=>exact out (by simp) h
   | ret=>exact out (by simp) h
   | panic x=>exact out (by simp) h
section
variable {live:List Nat} {ms en b1:Nat} {bg:Bool} {ent:List AOp} {body rest:Zg}
theorem Zof {t:Nat} {B:Zy} {kv:AVal×AVal} {tm:Tms} {σ:Za} {r:Tms×Za} (h:Zcf bf ms en b1 bg ent (fun m'=>evC fs prim bf m' body) t B kv tm σ=some r):∃ n,Zcf bf ms en b1 bg ent (fun m'=>Z0 (Zau fs prim bf n) bf m' n body) t B kv tm σ=some r:=by
 unfold Zcf at h ⊢
 split at h
 ·rename_i tm1 σ1 h1
  dsimp only at h ⊢
  cases hx:evC fs prim bf σ.length body tm1 σ1 with
  | none=>rw [hx] at h;cases h
  | some q =>
   obtain ⟨n,hn⟩:=Zbk.1 hx
   exact ⟨n,by rw [hx] at h;simp only [hn];exact h⟩
 ·cases h
theorem Zhe {n n':Nat} (h:n<=n') (c:Zg):RLe (fun m'=>Z0 (Zau fs prim bf n) bf m' n c) (fun m'=>Z0 (Zau fs prim bf n') bf m' n' c):=fun _ _ _ _ hr=>Zdk (up h) h hr
theorem Zn8 {es:List (AVal×AVal)}:∀ {l:List (AVal×AVal)} {tm:Tms} {σ:Za} {r:Tms×Za},Zbx bf m0 live ms en b1 bg ent (fun m'=>evC fs prim bf m' body) es l tm σ=some r->∃ n,Zbx bf m0 live ms en b1 bg ent (fun m'=>Z0 (Zau fs prim bf n) bf m' n body) es l tm σ=some r
 | [],tm,σ,r,hr=>⟨0,hr⟩
 | kv::l,tm,σ,r,hr=>by
  simp only [Zbx] at hr ⊢
  split at hr
  ·rename_i t B es' tm0 σ0 hh
   split at hr
   ·rename_i he
    simp only [he,if_true]
    split at hr
    ·rename_i tm' σ' h1
     obtain ⟨n,hn⟩:=Zof h1
     obtain ⟨n',hn'⟩:=Zn8 hr
     refine ⟨max n n',?_⟩
     rw [Zjw (Zhe (WS n n') body) hn]
     exact ZiX (Zhe (WB n n') body) hn'
    ·cases hr
   ·cases hr
  ·cases hr
theorem ZEb {es l:List (AVal×AVal)} {tm:Tms} {σ:Za} {r:Z1×Tms×Za} (h:ZbL bf m0 live ms en b1 bg ent (fun m'=>evC fs prim bf m' body) (fun m'=>evC fs prim bf m' rest) es l tm σ=some r):∃ n,ZbL bf m0 live ms en b1 bg ent (fun m'=>Z0 (Zau fs prim bf n) bf m' n body) (fun m'=>Z0 (Zau fs prim bf n) bf m' n rest) es l tm σ=some r:=by
 unfold ZbL at h ⊢
 split at h
 ·rename_i tm' σ' h1
  obtain ⟨n,hn⟩:=Zn8 h1
  unfold Zfb at h ⊢
  dsimp only at h ⊢
  obtain ⟨n',hn'⟩:=Zbk.1 h
  refine ⟨max n n',?_⟩
  rw [ZiX (Zhe (WS n n') body) hn]
  exact Zdk (up (WB n n')) (WB n n') hn'
 ·cases h
theorem ZxR {tm:Tms} {σ:Za} {r:Z1×Tms×Za} (h:ZcP bf m0 live ms en b1 bg ent (fun m'=>evC fs prim bf m' body) (fun m'=>evC fs prim bf m' rest) tm σ=some r):∃ n,ZcP bf m0 live ms en b1 bg ent (fun m'=>Z0 (Zau fs prim bf n) bf m' n body) (fun m'=>Z0 (Zau fs prim bf n) bf m' n rest) tm σ=some r:=by
 unfold ZcP at h ⊢
 split at h
 ·cases h
 ·exact Zbk.1 h
 ·split at h
  ·rename_i tm' σ' h1
   obtain ⟨n,hn⟩:=Zof h1
   unfold Zfb at h ⊢
   dsimp only at h ⊢
   obtain ⟨n',hn'⟩:=Zbk.1 h
   refine ⟨max n n',?_⟩
   rw [Zjw (Zhe (WS n n') body) hn]
   exact Zdk (up (WB n n')) (WB n n') hn'
  ·cases h
 ·rename_i es _ _ _ _ _
  simp only [Zl0] at h ⊢
  exact ZrN es.length es (fun n es'=>ZbL bf m0 live ms en b1 bg ent (fun m'=>Z0 (Zau fs prim bf n) bf m' n body) (fun m'=>Z0 (Zau fs prim bf n) bf m' n rest) es es' tm σ=some r) rfl (fun n n' l hn hp=>ZpL (Zhe hn body) (Zhe hn rest) hp) (fun l hl=>ZEb (h l hl))
variable (fs prim bf m0) in
noncomputable def Zim (live:List Nat) (ms en b1:Nat) (bg:Bool) (ent:List AOp) (body rest:Zg):Option (Tms×Za)->Option (Z1×Tms×Za)
 | some (tm,σ)=>ZcP bf m0 live ms en b1 bg ent (fun m'=>evC fs prim bf m' body) (fun m'=>evC fs prim bf m' rest) tm σ
 | none=>none
theorem Zk2 {pre:List AOp} {tm:Tms} {σ:Za}:evC fs prim bf m0 (.range pre live ms en b1 bg ent body rest) tm σ=Zim fs prim bf m0 live ms en b1 bg ent body rest (ZcX bf pre tm σ):=by
 apply Ze6
 intro r
 rw [Zbk]
 constructor
 ·rintro ⟨n,hn⟩
  simp only [Z0] at hn
  split at hn
  ·rename_i h1
   rw [h1]
   exact ZsO (fun _ _ _ _ h=>Zbk.2 ⟨n,h⟩) (fun _ _ _ _ h=>Zbk.2 ⟨n,h⟩) hn
  ·cases hn
 ·intro h
  unfold Zim at h
  split at h
  ·rename_i tm1 σ1 h1
   obtain ⟨n,hn⟩:=ZxR h
   exact ⟨n,by simp only [Z0,h1];exact hn⟩
  ·cases h
end
theorem Zzu {P:Program} (hm:P.follows .mixedOrders=true) {prim:ZdS} (hP:Zkc P prim) (ann:Nat->Ann) (bf:Nat->Bool):ZaC P (EV (Zhk P ann) prim bf):=by
 intro f args σ r σ' h
 obtain ⟨n,hn⟩:=ZcL.1 h
 exact Zni hm hP ann bf n f args σ r σ' hn
end
end
section
open Go.RowKit
def Zsr:Tms×Za×List Cls×Option AVal->Tms×Za×Option AVal:=fun q=>(q.1,q.2.1,q.2.2.2)
def ZaK:AVal->Bool
 | .pan _=>true
 | _=>false
section
variable (O:Z7) (bf:Nat->Bool)
def exI (i:Ins) (s:Nat) (tm:Tms) (σ:Za):Option (AVal×Za×Cls) :=
 if nsite i == 0 || freeAt σ s then execI O bf tm σ s i else none
def Zbo (ops:List AOp) (s:Nat) (tm:Tms) (σ:Za):Option (Tms×Za×Option AVal):=(Z6 O bf ops s tm σ).map Zsr
def kN (d:Option Nat) (os:List AOp) (s:Nat) (tm:Tms):Option (AVal×Za×Cls)->Option (Tms×Za×Option AVal)
 | none=>none
 | some (v,σ,_)=>if ZaK v then some (tput tm d v,σ,some (ZaL v)) else Zbo O bf os s (tput tm d v) σ
def ZjN (live:List Nat):Option (Tms×Za×Option AVal)->Option (Z1×Tms×Za)
 | none=>none
 | some (_,σ,some x)=>some (.panic x,[],σ)
 | some (tm,σ,none)=>some (.normal,keepL live tm,σ)
variable {O bf}
theorem Zr5 (s:Nat) (tm:Tms) (σ:Za):Zbo O bf [] s tm σ=some (tm,σ,none):=rfl
theorem Zio {o:AOp} {os:List AOp} {s:Nat} {tm:Tms} {σ:Za} (h:ZT O bf o s tm σ=none):Z6 O bf (o::os) s tm σ=none:=by simp only [Z6,h]
theorem Zjr {o:AOp} {os:List AOp} {s:Nat} {tm tm1:Tms} {σ σ1:Za} {x:AVal} {c:Cls} (h:ZT O bf o s tm σ=some (.pan x,tm1,σ1,c)):Z6 O bf (o::os) s tm σ=some (tm1,σ1,[c],some x):=by simp only [Z6,h]
theorem ZqC {o:AOp} {os:List AOp} {s:Nat} {tm tm1:Tms} {σ σ1:Za} {v:AVal} {c:Cls} (h:ZT O bf o s tm σ=some (v,tm1,σ1,c)) (hn:ZaK v=false):Z6 O bf (o::os) s tm σ=(Z6 O bf os (s+nsite o.ins) tm1 σ1).map fun q=>(q.1,q.2.1,c::q.2.2.1,q.2.2.2):=by
 simp only [Z6,h]
 cases v <;> first
  | (simp [ZaK] at hn;done)
  | (simp only;cases Z6 O bf os (s+nsite o.ins) tm1 σ1 <;> rfl)
theorem ZiL {o:AOp} {os:List AOp} {s:Nat} {tm:Tms} {σ:Za} (h:ZT O bf o s tm σ=none):Zbo O bf (o::os) s tm σ=none:=by simp only [Zbo,Zio h,Option.map_none]
theorem Zl1 {o:AOp} {os:List AOp} {s:Nat} {tm tm1:Tms} {σ σ1:Za} {x:AVal} {c:Cls} (h:ZT O bf o s tm σ=some (.pan x,tm1,σ1,c)):Zbo O bf (o::os) s tm σ=some (tm1,σ1,some x):=by simp only [Zbo,Zjr h,XZ,Zsr]
theorem Zjk {o:AOp} {os:List AOp} {s:Nat} {tm tm1:Tms} {σ σ1:Za} {v:AVal} {c:Cls} (h:ZT O bf o s tm σ=some (v,tm1,σ1,c)) (hn:ZaK v=false):Zbo O bf (o::os) s tm σ=Zbo O bf os (s+nsite o.ins) tm1 σ1:=by
 simp only [Zbo,ZqC h hn,Option.map_map]
 rfl
theorem Zj3 {v:AVal} (h:ZaK v=true):∃ x,v=.pan x:=by
 cases v <;> first | exact ⟨_,rfl⟩ | (simp [ZaK] at h;done)
theorem Zjn {d:Option Nat} {i:Ins} {af:List Nat} {s:Nat} {tm:Tms} {σ:Za}:ZT O bf ⟨d,i,none,af⟩ s tm σ=(exI O bf i s tm σ).map fun q=>(q.1,tput tm d q.1,q.2.1,q.2.2):=by
 unfold ZT exI
 simp only [ZbN]
 split
 ·cases execI O bf tm σ s i with
  | none=>rfl
  | some q=>rfl
 ·rfl
theorem Zkx (d:Option Nat) (i:Ins) (af:List Nat) (os:List AOp) (s:Nat) (tm:Tms) (σ:Za):Zbo O bf (⟨d,i,none,af⟩::os) s tm σ=kN O bf d os (s+nsite i) tm (exI O bf i s tm σ):=by
 cases h:exI O bf i s tm σ with
 | none=>exact ZiL (by rw [Zjn,h];rfl)
 | some q =>
  obtain ⟨v,σ1,c⟩:=q
  have hs:ZT O bf ⟨d,i,none,af⟩ s tm σ=some (v,tput tm d v,σ1,c):=by rw [Zjn,h];rfl
  cases hp:ZaK v with
  | true =>
   obtain ⟨x,rfl⟩:=Zj3 hp
   exact Zl1 hs
  | false =>
   rw [Zjk hs hp]
   simp only [kN,hp,Xi,if_false]
theorem ZxP (ops:List AOp) (live:List Nat) (tm:Tms) (σ:Za):ZcJ O bf ops none live tm σ=ZjN live (Zbo O bf ops σ.length tm (σ++XK (sitesOf ops) .free)):=by
 unfold ZcJ Zbo
 cases Z6 O bf ops σ.length tm (σ++XK (sitesOf ops) .free) with
 | none=>rfl
 | some q =>
  obtain ⟨tm',σ',cs,p⟩:=q
  cases p <;> rfl
theorem ZlR (d:Option Nat) (os:List AOp) (s:Nat) (tm:Tms) (v:AVal) (σ:Za) (c:Cls) (h:ZaK v=false):kN O bf d os s tm (some (v,σ,c))=Zbo O bf os s (tput tm d v) σ:=by
 simp only [kN,h,Xi,if_false]
theorem ZHN (d:Option Nat) (os:List AOp) (s:Nat) (tm:Tms) (x:AVal) (σ:Za) (c:Cls):kN O bf d os s tm (some (.pan x,σ,c))=some (tput tm d (.pan x),σ,some x):=rfl
theorem ZGx (d:Option Nat) (os:List AOp) (s:Nat) (tm:Tms):kN O bf d os s tm none=none:=rfl
structure GOp where
 guard:Option (Nat×Bool)
 ops:List AOp
def Zz:List AOp->Tms->Tms
 | [],tm=>tm
 | o::os,tm=>Zz os (tput tm o.dst (.tup []))
def unG (o:AOp):AOp:={ o with guard:=none }
variable (O bf) in
def ZeV (j:Nat) (w:Bool) (g:List AOp) (s:Nat) (tm:Tms) (σ:Za):Option (Tms×Za×Option AVal):=match ZbN (some (j,w)) tm with
 | none=>none
 | some false=>some (Zz g tm,σ,none)
 | some true=>Zbo O bf (g.map unG) s tm σ
variable (O bf) in
def gK (os:List AOp) (s:Nat):Option (Tms×Za×Option AVal)->Option (Tms×Za×Option AVal)
 | none=>none
 | some (tm,σ,some x)=>some (tm,σ,some x)
 | some (tm,σ,none)=>Zbo O bf os s tm σ
def Zx (j:Nat) (w:Bool):List AOp->List AOp×List AOp
 | []=>([],[])
 | o::os=>match o.guard with
  | some (j',w')=>if j'=j/\w'=w/\o.dst≠some j then ((o::(Zx j w os).1),(Zx j w os).2) else ([],o::os)
  | none=>([],o::os)
theorem ZmA (j:Nat) (w:Bool):∀ os,(Zx j w os).1++(Zx j w os).2=os
 | []=>rfl
 | o::os=>by
  simp only [Zx]
  split
  ·split
   ·simp [ZmA j w os]
   ·rfl
  ·rfl
theorem ZnT (j:Nat) (w:Bool):∀ os,∀ o ∈ (Zx j w os).1,o.guard=some (j,w)/\o.dst≠some j
 | []=>by simp [Zx]
 | o::os=>by
  intro o' ho
  simp only [Zx] at ho
  split at ho
  ·rename_i j' w' hg
   split at ho
   ·rename_i hc
    rcases XH.1 ho with rfl | ho
    ·exact ⟨by rw [hg,hc.1,hc.2.1],hc.2.2⟩
    ·exact ZnT j w os o' ho
   ·simp at ho
  ·simp at ho
theorem ZEy {d:Option Nat} {v:AVal} {n:Nat} {tm:Tms} (h:d≠some n):tget (tput tm d v) n=tget tm n:=by
 cases d with
 | none=>rfl
 | some d =>
  have : d≠n:=by rintro rfl;exact h rfl
  simp only [tput,Zii,this,if_false]
theorem ZfJ {d:Option Nat} {v:AVal} {j:Nat} {w:Bool} {tm:Tms} (h:d≠some j):ZbN (some (j,w)) (tput tm d v)=ZbN (some (j,w)) tm:=by
 simp only [ZbN,ZEy h]
theorem Zp9:∀ (a b:List AOp) (s:Nat) (tm:Tms) (σ:Za),Zbo O bf (a++b) s tm σ=gK O bf b (s+sitesOf a) (Zbo O bf a s tm σ)
 | [],b,s,tm,σ=>by simp [Zr5,gK,sitesOf]
 | o::a,b,s,tm,σ=>by
  have ih:=Zp9 a b
  simp only [XP]
  have hs:s+nsite o.ins+sitesOf a=s+sitesOf (o::a):=by simp [sitesOf,WK]
  cases hst:ZT O bf o s tm σ with
  | none=>rw [ZiL hst,ZiL hst];rfl
  | some q =>
   obtain ⟨v,tm1,σ1,c⟩:=q
   cases hp:ZaK v with
   | true =>
    obtain ⟨x,rfl⟩:=Zj3 hp
    rw [Zl1 hst,Zl1 hst];rfl
   | false=>rw [Zjk hst hp,Zjk hst hp,ih,hs]
theorem ZsN (j:Nat) (w:Bool):∀ (g:List AOp),(∀ o ∈ g,o.guard=some (j,w)/\o.dst≠some j)->∀ (s:Nat) (tm:Tms) (σ:Za),g≠[]->Zbo O bf g s tm σ=ZeV O bf j w g s tm σ
 | [],_,_,_,_,h=>absurd rfl h
 | o::g,hall,s,tm,σ,_=>by
  obtain ⟨hg,hd⟩:=hall o (by simp)
  have ih:∀ (tm:Tms) (σ:Za) (s:Nat),ZbN (some (j,w)) tm≠none->Zbo O bf g s tm σ=ZeV O bf j w g s tm σ:=by
   intro tm σ s hw
   by_cases he:g=[]
   ·subst he
    unfold ZeV
    cases hx:ZbN (some (j,w)) tm with
    | none=>exact absurd hx hw
    | some b=>cases b <;> rfl
   ·exact ZsN j w g (fun o ho=>hall o (by simp [ho])) s tm σ he
  cases hx:ZbN (some (j,w)) tm with
  | none =>
   rw [ZiL (by simp only [ZT,hg,hx])]
   simp only [ZeV,hx]
  | some b =>
   cases b with
   | false =>
    have h1:Zbo O bf (o::g) s tm σ=Zbo O bf g (s+nsite o.ins) (tput tm o.dst (.tup [])) σ :=
     Zjk (v:=.tup []) (c:={}) (by simp only [ZT,hg,hx]) rfl
    rw [h1,ih _ _ _ (by rw [ZfJ hd,hx];simp)]
    unfold ZeV
    rw [ZfJ hd,hx]
    rfl
   | true =>
    have key:∀ r:Option (AVal×Za×Cls),(∀ v σ' c,r=some (v,σ',c)->ZaK v=false->Zbo O bf g (s+nsite o.ins) (tput tm o.dst v) σ'=Zbo O bf (g.map unG) (s+nsite o.ins) (tput tm o.dst v) σ')->kN O bf o.dst g (s+nsite o.ins) tm r=kN O bf o.dst (g.map unG) (s+nsite o.ins) tm r:=by
     intro r hr
     cases r with
     | none=>rfl
     | some q =>
      obtain ⟨v,σ',c⟩:=q
      cases hp:ZaK v with
      | true=>simp only [kN,hp,if_true]
      | false=>rw [ZlR _ _ _ _ _ _ _ hp,ZlR _ _ _ _ _ _ _ hp];exact hr v σ' c rfl hp
    have h1:Zbo O bf (o::g) s tm σ=kN O bf o.dst g (s+nsite o.ins) tm (exI O bf o.ins s tm σ):=by
     have h0:Zbo O bf (o::g) s tm σ=Zbo O bf (⟨o.dst,o.ins,none,o.after⟩::g) s tm σ:=by
      have hst:ZT O bf o s tm σ=ZT O bf ⟨o.dst,o.ins,none,o.after⟩ s tm σ:=by
       unfold ZT
       simp only [hg,hx]
       rfl
      unfold Zbo
      simp only [Z6,hst]
     rw [h0,Zkx]
    rw [h1]
    unfold ZeV
    rw [hx]
    simp only [XI]
    rw [show unG o=⟨o.dst,o.ins,none,o.after⟩ from rfl,Zkx]
    refine key _ fun v σ' c _ _=>?_
    rw [ih _ _ _ (by rw [ZfJ hd,hx];simp)]
    unfold ZeV
    rw [ZfJ hd,hx]
theorem ZIu (d:Option Nat) (i:Ins) (j:Nat) (w:Bool) (af:List Nat) (os:List AOp) (s:Nat) (tm:Tms) (σ:Za) (hd:decide (d=some j)=false) :
  Zbo O bf (⟨d,i,some (j,w),af⟩::os) s tm σ=gK O bf (Zx j w os).2 (s+sitesOf (⟨d,i,some (j,w),af⟩::(Zx j w os).1)) (ZeV O bf j w (⟨d,i,some (j,w),af⟩::(Zx j w os).1) s tm σ):=by
 have h:=ZmA j w os
 have hall:∀ o ∈ (⟨d,i,some (j,w),af⟩::(Zx j w os).1:List AOp),o.guard=some (j,w)/\o.dst≠some j:=by
  intro o ho
  rcases XH.1 ho with rfl | ho
  ·exact ⟨rfl,by simpa using hd⟩
  ·exact ZnT j w os o ho
 rw [<-ZsN j w _ hall s tm σ (by simp),<-Zp9,XP,h]
variable (O bf) in
def gW (w:Bool) (g:List AOp) (s:Nat) (tm:Tms) (σ:Za):AVal->Option (Tms×Za×Option AVal)
 | .bool b=>if b=w then Zbo O bf (g.map unG) s tm σ else some (Zz g tm,σ,none)
 | .tup []=>some (Zz g tm,σ,none)
 | _=>none
theorem ZHL (j:Nat) (w:Bool) (g:List AOp) (s:Nat) (tm:Tms) (σ:Za):ZeV O bf j w g s tm σ=gW O bf w g s tm σ (tget tm j):=by
 unfold ZeV ZbN
 simp only
 generalize tget tm j=v
 cases v
 case bool b=>cases b <;> cases w <;> rfl
 case tup vs=>cases vs <;> rfl
 all_goals rfl
theorem ZxW (w:Bool) (g:List AOp) (s:Nat) (tm:Tms) (σ:Za) (b:Bool):gW O bf w g s tm σ (.bool b)=if b=w then Zbo O bf (g.map unG) s tm σ else some (Zz g tm,σ,none):=rfl
theorem ZwQ (w:Bool) (g:List AOp) (s:Nat) (tm:Tms) (σ:Za):gW O bf w g s tm σ (.tup [])=some (Zz g tm,σ,none):=rfl
theorem ZEd (os:List AOp) (s:Nat) (tm:Tms) (σ:Za):gK O bf os s (some (tm,σ,none))=Zbo O bf os s tm σ:=rfl
end
section
variable (c:Prop) [Decidable c]
theorem ZI {α:Type} (a b:α) (x y:List α):(if c then a::x else b::y)=(if c then a else b)::(if c then x else y):=by split <;> rfl
theorem ZCB (k:IntKind) (a b:Int):(if c then AVal.int k a else AVal.int k b)=AVal.int k (if c then a else b):=by split <;> rfl
theorem Zty (a b:Bool):(if c then AVal.bool a else AVal.bool b)=AVal.bool (if c then a else b):=by split <;> rfl
theorem ZCG (a b:List UInt8):(if c then AVal.str a else AVal.str b)=AVal.str (if c then a else b):=by split <;> rfl
theorem ZvZ (p q:Bool) (a b:List AVal):(if c then AVal.lst p a else AVal.lst q b)=AVal.lst (if c then p else q) (if c then a else b):=by split <;> rfl
theorem ZAq (a b:List AVal):(if c then AVal.agg a else AVal.agg b)=AVal.agg (if c then a else b):=by split <;> rfl
theorem ZET (a b:List AVal):(if c then Zy.var a else Zy.var b)=Zy.var (if c then a else b):=by split <;> rfl
theorem ZCt (g k:Nat) (a b:List AVal):(if c then Zy.row g k a else Zy.row g k b)=Zy.row g k (if c then a else b):=by split <;> rfl
theorem ZBW (t:Nat) (a b:Nat):(if c then AVal.ref t a else AVal.ref t b)=AVal.ref t (if c then a else b):=by split <;> rfl
theorem ZP {α:Type} (x y z:α):(if c then (if c then x else y) else z)=if c then x else z:=by split <;> rfl
theorem ZK {α:Type} (x y z:α):(if c then x else (if c then y else z))=if c then x else z:=by split <;> rfl
theorem ZH {α:Type} (x y z:α):(if c then (if ¬c then x else y) else z)=if c then y else z:=by split <;> simp_all
theorem ZQ {α:Type} (x y z:α):(if c then x else (if ¬c then y else z))=if c then x else y:=by split <;> simp_all
theorem ZyF (σ:Za) (a b:AVal) (p:Bool):Zfw σ a b (.bool p)=some (if p=true then a else b,σ,{}):=by cases p <;> rfl
theorem ZH9 (a b:AVal):ZaK (if c then a else b)=if c then ZaK a else ZaK b:=by split <;> rfl
end
section
variable {fs:Nat->Option ZaA} {prim:ZdS} {bf:Nat->Bool} {m0:Nat}
theorem ZAY (p:Bool) (a b:Zg) (tm:Tms) (σ:Za):Zit fs prim bf m0 a b tm σ (.bool p)=if p=true then evC fs prim bf m0 a tm σ else evC fs prim bf m0 b tm σ:=by
 cases p <;> rfl
theorem ZzG (b:Zg) (tm:Tms) (σ:Za):Zb5 fs prim bf m0 b (some (.normal,tm,σ))=evC fs prim bf m0 b tm σ:=rfl
theorem ZHS (b:Zg) (i:Nat) (tm:Tms) (σ:Za):Zb5 fs prim bf m0 b (some (.exit i,tm,σ))=some (.exit i,tm,σ):=rfl
theorem ZEj (b:Zg) (tm:Tms) (σ:Za):Zb5 fs prim bf m0 b (some (.ret,tm,σ))=some (.ret,tm,σ):=rfl
theorem ZxX (b:Zg) (x:AVal) (tm:Tms) (σ:Za):Zb5 fs prim bf m0 b (some (.panic x,tm,σ))=some (.panic x,tm,σ):=rfl
theorem Zxy (c:Prop) [Decidable c] (b:Zg) (x y:Option (Z1×Tms×Za)):Zb5 fs prim bf m0 b (if c then x else y)=if c then Zb5 fs prim bf m0 b x else Zb5 fs prim bf m0 b y:=by split <;> rfl
theorem ZD8 (id:Nat) (tm:Tms) (σ:Za):W0 (Zbz id) (some (.normal,tm,σ))=some (.normal,tm,σ):=rfl
theorem ZFx (id i:Nat) (tm:Tms) (σ:Za):W0 (Zbz id) (some (.exit i,tm,σ))=if i=id then some (.normal,tm,σ) else some (.exit i,tm,σ):=by
 simp only [XZ,Zbz];split <;> rfl
theorem ZB2 (id:Nat) (tm:Tms) (σ:Za):W0 (Zbz id) (some (.ret,tm,σ))=some (.ret,tm,σ):=rfl
theorem ZAt (id:Nat) (x:AVal) (tm:Tms) (σ:Za):W0 (Zbz id) (some (.panic x,tm,σ))=some (.panic x,tm,σ):=rfl
theorem ZuM (id:Nat) (c:Prop) [Decidable c] (x y:Option (Z1×Tms×Za)):W0 (Zbz id) (if c then x else y)=if c then W0 (Zbz id) x else W0 (Zbz id) y:=by split <;> rfl
theorem ZDc (m:Nat) (fn:ZaA) (c:Prop) [Decidable c] (x y:Option (Z1×Tms×Za)):Zbt m fn (if c then x else y)=if c then Zbt m fn x else Zbt m fn y:=by split <;> rfl
end
section
variable {fs:Nat->Option ZaA} {prim:ZdS} {bf:Nat->Bool} {m0:Nat}
theorem ZHh {live:List Nat} {c:Zg} {tm tm':Tms} {σ σ':Za} (h:evC fs prim bf m0 c tm σ=some (.normal,tm',σ')):evL fs prim bf m0 live c tm σ=evL fs prim bf m0 live c (gcT m0 (keepL live tm') σ').1 (gcT m0 (keepL live tm') σ').2:=by
 unfold evL
 rw [h]
 simp only
 rw [Zq3]
 rfl
theorem Zwk {live:List Nat} {c:Zg} {tm tm':Tms} {σ σ':Za} {i:Nat} (h:evC fs prim bf m0 c tm σ=some (.exit i,tm',σ')):evL fs prim bf m0 live c tm σ=some (.exit i,tm',σ'):=by
 unfold evL;rw [h]
theorem ZzB {live:List Nat} {c:Zg} {tm tm':Tms} {σ σ':Za} (h:evC fs prim bf m0 c tm σ=some (.ret,tm',σ')):evL fs prim bf m0 live c tm σ=some (.ret,tm',σ'):=by
 unfold evL;rw [h]
variable (fs prim bf m0) in
noncomputable def evM (live:List Nat) (c:Zg):Option (Z1×Tms×Za)->Option (Z1×Tms×Za)
 | some (.normal,tm,σ)=>evL fs prim bf m0 live c (gcT m0 (keepL live tm) σ).1 (gcT m0 (keepL live tm) σ).2
 | r=>r
theorem Zbn (live:List Nat) (c:Zg) (tm:Tms) (σ:Za):evL fs prim bf m0 live c tm σ=evM fs prim bf m0 live c (evC fs prim bf m0 c tm σ):=by
 cases h:evC fs prim bf m0 c tm σ with
 | none=>unfold evL;rw [h];rfl
 | some q =>
  obtain ⟨e,tm',σ'⟩:=q
  cases e with
  | normal=>exact ZHh h
  | exit i=>exact Zwk h
  | ret=>exact ZzB h
  | panic x=>unfold evL;rw [h];rfl
theorem ZEp (live:List Nat) (c:Zg) (tm:Tms) (σ:Za):evM fs prim bf m0 live c (some (.normal,tm,σ))=evL fs prim bf m0 live c (gcT m0 (keepL live tm) σ).1 (gcT m0 (keepL live tm) σ).2:=rfl
theorem ZtO (live:List Nat) (c:Zg) (i:Nat) (tm:Tms) (σ:Za):evM fs prim bf m0 live c (some (.exit i,tm,σ))=some (.exit i,tm,σ):=rfl
theorem Zvi (live:List Nat) (c:Zg) (tm:Tms) (σ:Za):evM fs prim bf m0 live c (some (.ret,tm,σ))=some (.ret,tm,σ):=rfl
theorem ZHo (live:List Nat) (c:Zg) (x:AVal) (tm:Tms) (σ:Za):evM fs prim bf m0 live c (some (.panic x,tm,σ))=some (.panic x,tm,σ):=rfl
theorem ZFL (live:List Nat) (b:Zg) (c:Prop) [Decidable c] (x y:Option (Z1×Tms×Za)):evM fs prim bf m0 live b (if c then x else y)=if c then evM fs prim bf m0 live b x else evM fs prim bf m0 live b y:=by split <;> rfl
end
def ZaQ:AVal->Bool
 | .int _ _=>true
 | .bool _=>true
 | .str _=>true
 | .nilp=>true
 | .nilm=>true
 | .nili=>true
 | .lst _ _=>true
 | .fn _ []=>true
 | _=>false
def ZaD:AVal->Bool
 | .agg cs=>cs.all ZaQ
 | x=>ZaQ x
def Zbh:AVal->AVal
 | .lst _ xs=>.lst false xs
 | x=>x
def Zak:AVal->AVal
 | .agg cs=>.agg (cs.map Zbh)
 | x=>Zbh x
theorem Zqi {σ:Za} {x:AVal} (h:ZaQ x=true):Zdo σ x=some (Zbh x,[]):=by
 cases x <;> first | (simp [ZaQ] at h;done) | rfl
theorem Zpk {σ:Za}:∀ {xs:List AVal},xs.all ZaQ=true->ZcT σ xs=some (xs.map Zbh,[])
 | [],_=>rfl
 | x::xs,h=>by
  simp only [Xr,Xp] at h
  simp only [ZcT,Zqi h.1,Zpk h.2,XI,XU]
theorem Zhs {x:AVal} (h:∀ cs,x≠.agg cs):ZaD x=ZaQ x/\Zak x=Zbh x:=by
 cases x <;> first | exact ⟨rfl,rfl⟩ | exact absurd rfl (h _)
theorem ZDq {σ:Za} {x:AVal} (h:∀ cs,x≠.agg cs):showA σ x=Zdo σ x:=by
 cases x <;> first | rfl | exact absurd rfl (h _)
theorem Zk8 (x:AVal):(∃ cs,x=.agg cs)\/∀ cs,x≠.agg cs:=by
 cases x <;> first | exact Xw ⟨_,rfl⟩ | (right;intro cs;simp)
theorem ZyT {σ:Za} {x:AVal} (h:ZaD x=true):showA σ x=some (Zak x,[]):=by
 rcases Zk8 x with ⟨cs,rfl⟩ | hn
 ·simp only [ZaD] at h
  simp only [showA,Zpk h,Zak]
 ·rw [(Zhs hn).1] at h
  rw [ZDq hn,(Zhs hn).2]
  exact Zqi h
theorem ZhQ {σ:Za}:∀ {xs:List AVal},xs.all ZaD=true->showAs σ xs=some (xs.map Zak,[])
 | [],_=>rfl
 | x::xs,h=>by
  simp only [Xr,Xp] at h
  simp only [showAs,ZyT h.1,ZhQ h.2,XI,XU]
theorem ZrE {x:AVal} (h:ZaQ x=true):Zav (Zbh x)=[]:=by
 cases x
 case fn f cs=>cases cs <;> simp [ZaQ] at h;rfl
 all_goals first | (simp [ZaQ] at h;done) | rfl
theorem ZoR:∀ {xs:List AVal},xs.all ZaQ=true->ZZ (xs.map Zbh)=[]
 | [],_=>rfl
 | x::xs,h=>by
  simp only [Xr,Xp] at h
  simp only [XI,ZZ,ZrE h.1,ZoR h.2,XU]
theorem ZDB {x:AVal} (h:ZaD x=true):Zav (Zak x)=[]:=by
 rcases Zk8 x with ⟨cs,rfl⟩ | hn
 ·simp only [ZaD] at h
  simp only [Zak,Zav];exact ZoR h
 ·rw [(Zhs hn).1] at h
  rw [(Zhs hn).2];exact ZrE h
theorem ZiD:∀ {xs:List AVal},xs.all ZaD=true->ZZ (xs.map Zak)=[]
 | [],_=>rfl
 | x::xs,h=>by
  simp only [Xr,Xp] at h
  simp only [XI,ZZ,ZDB h.1,ZiD h.2,XU]
theorem ZqT {ρ:Rho} {x:AVal} (h:ZaQ x=true):Zv ρ (Zbh x)=Zbh x:=by
 cases x
 case fn f cs=>cases cs <;> simp [ZaQ] at h;rfl
 all_goals first | (simp [ZaQ] at h;done) | rfl
theorem ZrP {ρ:Rho}:∀ {xs:List AVal},xs.all ZaQ=true->ZW ρ (xs.map Zbh)=xs.map Zbh
 | [],_=>rfl
 | x::xs,h=>by
  simp only [Xr,Xp] at h
  simp only [XI,ZW,ZqT h.1,ZrP h.2]
theorem ZxL {ρ:Rho} {x:AVal} (h:ZaD x=true):Zv ρ (Zak x)=Zak x:=by
 rcases Zk8 x with ⟨cs,rfl⟩ | hn
 ·simp only [ZaD] at h
  simp only [Zak,Zv];rw [ZrP h]
 ·rw [(Zhs hn).1] at h
  rw [(Zhs hn).2];exact ZqT h
theorem ZiG {ρ:Rho}:∀ {xs:List AVal},xs.all ZaD=true->ZW ρ (xs.map Zak)=xs.map Zak
 | [],_=>rfl
 | x::xs,h=>by
  simp only [Xr,Xp] at h
  simp only [XI,ZW,ZxL h.1,ZiG h.2]
theorem ZqN {O:Z7} {bf:Nat->Bool} {σ:Za} {sq f own:Nat} {view:Bool} {args:List AVal} (hb:bf f=false) (h:args.all ZaD=true) :
  ZX O bf σ sq f own view args=ZaV σ σ [] [] sq own (Zba view 0 (O f (args.map Zak) [])):=by
 unfold ZX ZcZ
 rw [hb]
 simp only [Xi,if_false,ZhQ h]
 have h1:ZU σ []=σ:=rfl
 rw [h1,ZiD h]
 have h2:Zf σ 1000 [] []=[]:=rfl
 rw [h2]
 unfold Zb0
 simp only [Xy,if_true,ZiG h,Ze,XC]
theorem Zqg (σ:Za) (sq own:Nat) (r:AVal) (h:Zv (Zbg [] [] sq) r=r):ZaV σ σ [] [] sq own (some (r,[]))=some (r,σ,{}):=by
 simp only [ZaV,List.isEmpty_nil,Wy,if_true,Zew,Bool.not_true,Xac,Xi,if_false]
 split
 ·rfl
 ·rw [h]
end
section
section
variable (ρ:Rho) (σ:Za)
theorem Zxz  : ZaK (.top)=false:=rfl
theorem ZF1  : ZaK (.any)=false:=rfl
theorem ZtT (k:IntKind) (n:Int):ZaK (.int k n)=false:=rfl
theorem Ztu (b:Bool):ZaK (.bool b)=false:=rfl
theorem Zt6 (l:List UInt8):ZaK (.str l)=false:=rfl
theorem ZuW  : ZaK (.nilp)=false:=rfl
theorem ZDT (t:Nat) (o:Nat):ZaK (.ref t o)=false:=rfl
theorem ZIx (t:Nat) (g:Nat) (i:Nat) (o:Nat):ZaK (.eref t g i o)=false:=rfl
theorem ZuF (cs:List AVal) (o:Nat):ZaK (.iptr cs o)=false:=rfl
theorem Zvv (x:Bool) (xs:List AVal):ZaK (.lst x xs)=false:=rfl
theorem ZAT (t:Nat) (g:Nat) (lo:Nat) (n:Nat):ZaK (.sl t g lo n)=false:=rfl
theorem ZvW (cs:List AVal):ZaK (.agg cs)=false:=rfl
theorem Zz8 (vs:List AVal):ZaK (.tup vs)=false:=rfl
theorem ZGS (f:Nat) (caps:List AVal):ZaK (.fn f caps)=false:=rfl
theorem ZDJ  : ZaK (.nilm)=false:=rfl
theorem Zu8 (t:Nat):ZaK (.map t)=false:=rfl
theorem ZHq (t j o:Nat):ZaK (.nref t j o)=false:=rfl
theorem ZDE (t j:Nat) (nx:Bool):ZaK (.mapg t j nx)=false:=by cases nx <;> rfl
theorem ZtZ  : ZaK (.nili)=false:=rfl
theorem ZEw (t:Nat) (x:AVal):ZaK (.iface t x)=false:=rfl
theorem ZHx (x:AVal):ZaK (.pan x)=true:=rfl
theorem Zvz  : Zae (.top)=false:=rfl
theorem ZzD  : Zae (.any)=true:=rfl
theorem ZDf (k:IntKind) (n:Int):Zae (.int k n)=true:=rfl
theorem ZDw (b:Bool):Zae (.bool b)=true:=rfl
theorem ZAF (l:List UInt8):Zae (.str l)=true:=rfl
theorem ZIf  : Zae (.nilp)=true:=rfl
theorem ZAd (t:Nat) (o:Nat):Zae (.ref t o)=true:=rfl
theorem Zzi (t:Nat) (g:Nat) (i:Nat) (o:Nat):Zae (.eref t g i o)=true:=rfl
theorem ZE6 (cs:List AVal) (o:Nat):Zae (.iptr cs o)=true:=rfl
theorem Zz4 (x:Bool) (xs:List AVal):Zae (.lst x xs)=true:=rfl
theorem ZvM (t:Nat) (g:Nat) (lo:Nat) (n:Nat):Zae (.sl t g lo n)=true:=rfl
theorem ZEV (cs:List AVal):Zae (.agg cs)=false:=rfl
theorem ZGH (vs:List AVal):Zae (.tup vs)=false:=rfl
theorem ZDL (f:Nat) (caps:List AVal):Zae (.fn f caps)=true:=rfl
theorem Zv6  : Zae (.nilm)=true:=rfl
theorem Zws (t:Nat):Zae (.map t)=true:=rfl
theorem Zu4 (t j o:Nat):Zae (.nref t j o)=true:=rfl
theorem Ztx (t j:Nat) (nx:Bool):Zae (.mapg t j nx)=true:=by cases nx <;> rfl
theorem ZFR  : Zae (.nili)=true:=rfl
theorem ZBO (t:Nat) (x:AVal):Zae (.iface t x)=true:=rfl
theorem ZCp (x:AVal):Zae (.pan x)=false:=rfl
theorem ZFy  : ZbK (.top)=false:=rfl
theorem Zuv  : ZbK (.any)=true:=rfl
theorem ZCc (k:IntKind) (n:Int):ZbK (.int k n)=true:=rfl
theorem ZvB (b:Bool):ZbK (.bool b)=true:=rfl
theorem Zyz (l:List UInt8):ZbK (.str l)=true:=rfl
theorem ZFI  : ZbK (.nilp)=true:=rfl
theorem ZEa (t:Nat) (o:Nat):ZbK (.ref t o)=true:=rfl
theorem Ztp (t:Nat) (g:Nat) (i:Nat) (o:Nat):ZbK (.eref t g i o)=true:=rfl
theorem Ztr (cs:List AVal) (o:Nat):ZbK (.iptr cs o)=true:=rfl
theorem ZyO (x:Bool) (xs:List AVal):ZbK (.lst x xs)=true:=rfl
theorem ZBQ (t:Nat) (g:Nat) (lo:Nat) (n:Nat):ZbK (.sl t g lo n)=true:=rfl
theorem ZtB (cs:List AVal):ZbK (.agg cs)=true:=rfl
theorem ZuV (vs:List AVal):ZbK (.tup vs)=true:=rfl
theorem ZDi (f:Nat) (caps:List AVal):ZbK (.fn f caps)=true:=rfl
theorem ZxQ  : ZbK (.nilm)=true:=rfl
theorem ZH4 (t:Nat):ZbK (.map t)=true:=rfl
theorem ZG1 (t j o:Nat):ZbK (.nref t j o)=true:=rfl
theorem ZBP (t j:Nat) (nx:Bool):ZbK (.mapg t j nx)=true:=by cases nx <;> rfl
theorem ZD1  : ZbK (.nili)=true:=rfl
theorem Zyo (t:Nat) (x:AVal):ZbK (.iface t x)=true:=rfl
theorem ZyI (x:AVal):ZbK (.pan x)=true:=rfl
theorem ZwH  : ZaN (.top)=false:=rfl
theorem Zu0  : ZaN (.any)=false:=rfl
theorem Zvr (k:IntKind) (n:Int):ZaN (.int k n)=true:=rfl
theorem ZtJ (b:Bool):ZaN (.bool b)=true:=rfl
theorem ZAW (l:List UInt8):ZaN (.str l)=true:=rfl
theorem Zs7  : ZaN (.nilp)=true:=rfl
theorem ZEC (t:Nat) (o:Nat):ZaN (.ref t o)=false:=rfl
theorem ZAQ (t:Nat) (g:Nat) (i:Nat) (o:Nat):ZaN (.eref t g i o)=false:=rfl
theorem ZxK (cs:List AVal) (o:Nat):ZaN (.iptr cs o)=false:=rfl
theorem ZBr (x:Bool) (xs:List AVal):ZaN (.lst x xs)=false:=rfl
theorem Zwo (t:Nat) (g:Nat) (lo:Nat) (n:Nat):ZaN (.sl t g lo n)=false:=rfl
theorem ZFH (cs:List AVal):ZaN (.agg cs)=false:=rfl
theorem Zwd (vs:List AVal):ZaN (.tup vs)=false:=rfl
theorem ZCY (f:Nat) (caps:List AVal):ZaN (.fn f caps)=false:=rfl
theorem ZCO  : ZaN (.nilm)=true:=rfl
theorem ZG3 (t:Nat):ZaN (.map t)=false:=rfl
theorem ZxB (t j o:Nat):ZaN (.nref t j o)=false:=rfl
theorem Zx5 (t j:Nat) (nx:Bool):ZaN (.mapg t j nx)=false:=by cases nx <;> rfl
theorem ZHs  : ZaN (.nili)=true:=rfl
theorem ZAm (t:Nat) (x:AVal):ZaN (.iface t x)=false:=rfl
theorem ZBs (x:AVal):ZaN (.pan x)=false:=rfl
theorem ZIJ  : Zbw (.top)=false:=rfl
theorem Zvm  : Zbw (.any)=false:=rfl
theorem ZvV (k:IntKind) (n:Int):Zbw (.int k n)=true:=rfl
theorem ZFt (b:Bool):Zbw (.bool b)=true:=rfl
theorem ZvA (l:List UInt8):Zbw (.str l)=true:=rfl
theorem Zs6  : Zbw (.nilp)=true:=rfl
theorem ZB7 (t:Nat) (o:Nat):Zbw (.ref t o)=false:=rfl
theorem ZHR (t:Nat) (g:Nat) (i:Nat) (o:Nat):Zbw (.eref t g i o)=false:=rfl
theorem ZAi (cs:List AVal) (o:Nat):Zbw (.iptr cs o)=false:=rfl
theorem ZAy (x:Bool) (xs:List AVal):Zbw (.lst x xs)=false:=rfl
theorem ZGz (t:Nat) (g:Nat) (lo:Nat) (n:Nat):Zbw (.sl t g lo n)=false:=rfl
theorem ZHX (cs:List AVal):Zbw (.agg cs)=cs.all ZaN:=rfl
theorem Zw9 (vs:List AVal):Zbw (.tup vs)=false:=rfl
theorem ZxC (f:Nat) (caps:List AVal):Zbw (.fn f caps)=false:=rfl
theorem ZBc  : Zbw (.nilm)=true:=rfl
theorem ZyC (t:Nat):Zbw (.map t)=false:=rfl
theorem ZwR (t j o:Nat):Zbw (.nref t j o)=false:=rfl
theorem Zyp (t j:Nat) (nx:Bool):Zbw (.mapg t j nx)=false:=by cases nx <;> rfl
theorem ZDx  : Zbw (.nili)=true:=rfl
theorem ZIF (t:Nat) (x:AVal):Zbw (.iface t x)=false:=rfl
theorem ZEG (x:AVal):Zbw (.pan x)=false:=rfl
theorem Zuy  : ZbB (.top)=false:=rfl
theorem Zwr  : ZbB (.any)=false:=rfl
theorem ZyS (k:IntKind) (n:Int):ZbB (.int k n)=true:=rfl
theorem ZIn (b:Bool):ZbB (.bool b)=true:=rfl
theorem ZF8 (l:List UInt8):ZbB (.str l)=true:=rfl
theorem ZG7  : ZbB (.nilp)=true:=rfl
theorem Zv4 (t:Nat) (o:Nat):ZbB (.ref t o)=false:=rfl
theorem ZAr (t:Nat) (g:Nat) (i:Nat) (o:Nat):ZbB (.eref t g i o)=false:=rfl
theorem Zyb (cs:List AVal) (o:Nat):ZbB (.iptr cs o)=false:=rfl
theorem ZBn (x:Bool) (xs:List AVal):ZbB (.lst x xs)=false:=rfl
theorem ZG2 (t:Nat) (g:Nat) (lo:Nat) (n:Nat):ZbB (.sl t g lo n)=false:=rfl
theorem ZIB (cs:List AVal):ZbB (.agg cs)=cs.all ZaN:=rfl
theorem ZEB (vs:List AVal):ZbB (.tup vs)=vs.all Zbw:=rfl
theorem ZCC (f:Nat) (caps:List AVal):ZbB (.fn f caps)=false:=rfl
theorem ZFK  : ZbB (.nilm)=true:=rfl
theorem ZCS (t:Nat):ZbB (.map t)=false:=rfl
theorem Zwl (t j o:Nat):ZbB (.nref t j o)=false:=rfl
theorem ZEv (t j:Nat) (nx:Bool):ZbB (.mapg t j nx)=false:=by cases nx <;> rfl
theorem ZAH  : ZbB (.nili)=true:=rfl
theorem Zx0 (t:Nat) (x:AVal):ZbB (.iface t x)=false:=rfl
theorem ZB0  : ZaQ (.top)=false:=rfl
theorem ZBy  : ZaQ (.any)=false:=rfl
theorem ZzY (k:IntKind) (n:Int):ZaQ (.int k n)=true:=rfl
theorem ZBx (b:Bool):ZaQ (.bool b)=true:=rfl
theorem ZyL (l:List UInt8):ZaQ (.str l)=true:=rfl
theorem ZGA  : ZaQ (.nilp)=true:=rfl
theorem ZzA (t:Nat) (o:Nat):ZaQ (.ref t o)=false:=rfl
theorem ZBf (t:Nat) (g:Nat) (i:Nat) (o:Nat):ZaQ (.eref t g i o)=false:=rfl
theorem ZIM (cs:List AVal) (o:Nat):ZaQ (.iptr cs o)=false:=rfl
theorem ZsZ (x:Bool) (xs:List AVal):ZaQ (.lst x xs)=true:=rfl
theorem ZFv (t:Nat) (g:Nat) (lo:Nat) (n:Nat):ZaQ (.sl t g lo n)=false:=rfl
theorem Zwc (cs:List AVal):ZaQ (.agg cs)=false:=rfl
theorem Zxg (vs:List AVal):ZaQ (.tup vs)=false:=rfl
theorem Zte  : ZaQ (.nilm)=true:=rfl
theorem Zwe (t:Nat):ZaQ (.map t)=false:=rfl
theorem ZD3 (t j o:Nat):ZaQ (.nref t j o)=false:=rfl
theorem ZtD (t j:Nat) (nx:Bool):ZaQ (.mapg t j nx)=false:=by cases nx <;> rfl
theorem ZtX  : ZaQ (.nili)=true:=rfl
theorem ZwM (t:Nat) (x:AVal):ZaQ (.iface t x)=false:=rfl
theorem Ztf (x:AVal):ZaQ (.pan x)=false:=rfl
theorem ZHD  : ZaD (.top)=false:=rfl
theorem ZF7  : ZaD (.any)=false:=rfl
theorem ZAs (k:IntKind) (n:Int):ZaD (.int k n)=true:=rfl
theorem ZBi (b:Bool):ZaD (.bool b)=true:=rfl
theorem ZCR (l:List UInt8):ZaD (.str l)=true:=rfl
theorem ZBL  : ZaD (.nilp)=true:=rfl
theorem Zxs (t:Nat) (o:Nat):ZaD (.ref t o)=false:=rfl
theorem Zxb (t:Nat) (g:Nat) (i:Nat) (o:Nat):ZaD (.eref t g i o)=false:=rfl
theorem ZGr (cs:List AVal) (o:Nat):ZaD (.iptr cs o)=false:=rfl
theorem Ztw (x:Bool) (xs:List AVal):ZaD (.lst x xs)=true:=rfl
theorem ZHl (t:Nat) (g:Nat) (lo:Nat) (n:Nat):ZaD (.sl t g lo n)=false:=rfl
theorem ZCw (cs:List AVal):ZaD (.agg cs)=cs.all ZaQ:=rfl
theorem ZvG (vs:List AVal):ZaD (.tup vs)=false:=rfl
theorem Zyw  : ZaD (.nilm)=true:=rfl
theorem ZyH (t:Nat):ZaD (.map t)=false:=rfl
theorem Zu1 (t j o:Nat):ZaD (.nref t j o)=false:=rfl
theorem ZHu (t j:Nat) (nx:Bool):ZaD (.mapg t j nx)=false:=by cases nx <;> rfl
theorem Zxf  : ZaD (.nili)=true:=rfl
theorem ZGc (t:Nat) (x:AVal):ZaD (.iface t x)=false:=rfl
theorem ZER (x:AVal):ZaD (.pan x)=false:=rfl
theorem ZD9  : Zbh (.top)=(.top):=rfl
theorem ZBg  : Zbh (.any)=(.any):=rfl
theorem ZFf (k:IntKind) (n:Int):Zbh (.int k n)=(.int k n):=rfl
theorem ZHb (b:Bool):Zbh (.bool b)=(.bool b):=rfl
theorem ZHk (l:List UInt8):Zbh (.str l)=(.str l):=rfl
theorem Zxn  : Zbh (.nilp)=(.nilp):=rfl
theorem Zvd (t:Nat) (o:Nat):Zbh (.ref t o)=(.ref t o):=rfl
theorem ZzX (t:Nat) (g:Nat) (i:Nat) (o:Nat):Zbh (.eref t g i o)=(.eref t g i o):=rfl
theorem ZFu (cs:List AVal) (o:Nat):Zbh (.iptr cs o)=(.iptr cs o):=rfl
theorem ZDr (x:Bool) (xs:List AVal):Zbh (.lst x xs)=.lst false xs:=rfl
theorem ZEQ (t:Nat) (g:Nat) (lo:Nat) (n:Nat):Zbh (.sl t g lo n)=(.sl t g lo n):=rfl
theorem ZCd (cs:List AVal):Zbh (.agg cs)=(.agg cs):=rfl
theorem Zv2 (vs:List AVal):Zbh (.tup vs)=(.tup vs):=rfl
theorem Zzv (f:Nat) (caps:List AVal):Zbh (.fn f caps)=(.fn f caps):=rfl
theorem Zua  : Zbh (.nilm)=(.nilm):=rfl
theorem ZGb (t:Nat):Zbh (.map t)=(.map t):=rfl
theorem ZFE (t j o:Nat):Zbh (.nref t j o)=(.nref t j o):=rfl
theorem ZuJ (t j:Nat) (nx:Bool):Zbh (.mapg t j nx)=(.mapg t j nx):=by cases nx <;> rfl
theorem ZBG  : Zbh (.nili)=(.nili):=rfl
theorem Zt3 (t:Nat) (x:AVal):Zbh (.iface t x)=(.iface t x):=rfl
theorem Zyf (x:AVal):Zbh (.pan x)=(.pan x):=rfl
theorem ZGR  : Zak (.top)=(.top):=rfl
theorem ZHA  : Zak (.any)=(.any):=rfl
theorem ZIl (k:IntKind) (n:Int):Zak (.int k n)=(.int k n):=rfl
theorem ZwU (b:Bool):Zak (.bool b)=(.bool b):=rfl
theorem ZCs (l:List UInt8):Zak (.str l)=(.str l):=rfl
theorem ZFG  : Zak (.nilp)=(.nilp):=rfl
theorem ZzJ (t:Nat) (o:Nat):Zak (.ref t o)=(.ref t o):=rfl
theorem ZIe (t:Nat) (g:Nat) (i:Nat) (o:Nat):Zak (.eref t g i o)=(.eref t g i o):=rfl
theorem ZDn (cs:List AVal) (o:Nat):Zak (.iptr cs o)=(.iptr cs o):=rfl
theorem ZyX (x:Bool) (xs:List AVal):Zak (.lst x xs)=.lst false xs:=rfl
theorem Zuk (t:Nat) (g:Nat) (lo:Nat) (n:Nat):Zak (.sl t g lo n)=(.sl t g lo n):=rfl
theorem Zzl (cs:List AVal):Zak (.agg cs)=.agg (cs.map Zbh):=rfl
theorem ZxN (vs:List AVal):Zak (.tup vs)=(.tup vs):=rfl
theorem ZuG (f:Nat) (caps:List AVal):Zak (.fn f caps)=(.fn f caps):=rfl
theorem Zww  : Zak (.nilm)=(.nilm):=rfl
theorem Zv7 (t:Nat):Zak (.map t)=(.map t):=rfl
theorem ZC2 (t j o:Nat):Zak (.nref t j o)=(.nref t j o):=rfl
theorem ZBE (t j:Nat) (nx:Bool):Zak (.mapg t j nx)=(.mapg t j nx):=by cases nx <;> rfl
theorem Zs3  : Zak (.nili)=(.nili):=rfl
theorem ZFW (t:Nat) (x:AVal):Zak (.iface t x)=(.iface t x):=rfl
theorem ZxF (x:AVal):Zak (.pan x)=(.pan x):=rfl
theorem ZEO  : AVal.cells (.top)=[(.top)]:=rfl
theorem ZzE  : AVal.cells (.any)=[(.any)]:=rfl
theorem ZzS (k:IntKind) (n:Int):AVal.cells (.int k n)=[(.int k n)]:=rfl
theorem ZGw (b:Bool):AVal.cells (.bool b)=[(.bool b)]:=rfl
theorem Zzz (l:List UInt8):AVal.cells (.str l)=[(.str l)]:=rfl
theorem ZAL  : AVal.cells (.nilp)=[(.nilp)]:=rfl
theorem Zzb (t:Nat) (o:Nat):AVal.cells (.ref t o)=[(.ref t o)]:=rfl
theorem ZC8 (t:Nat) (g:Nat) (i:Nat) (o:Nat):AVal.cells (.eref t g i o)=[(.eref t g i o)]:=rfl
theorem ZGC (cs:List AVal) (o:Nat):AVal.cells (.iptr cs o)=[(.iptr cs o)]:=rfl
theorem Zwf (x:Bool) (xs:List AVal):AVal.cells (.lst x xs)=[(.lst x xs)]:=rfl
theorem Zyr (t:Nat) (g:Nat) (lo:Nat) (n:Nat):AVal.cells (.sl t g lo n)=[(.sl t g lo n)]:=rfl
theorem Zyg (cs:List AVal):AVal.cells (.agg cs)=cs:=rfl
theorem ZvD (vs:List AVal):AVal.cells (.tup vs)=[(.tup vs)]:=rfl
theorem ZyZ (f:Nat) (caps:List AVal):AVal.cells (.fn f caps)=[(.fn f caps)]:=rfl
theorem ZBq  : AVal.cells (.nilm)=[(.nilm)]:=rfl
theorem ZGO (t:Nat):AVal.cells (.map t)=[(.map t)]:=rfl
theorem ZCj (t j o:Nat):AVal.cells (.nref t j o)=[(.nref t j o)]:=rfl
theorem ZA7 (t j:Nat) (nx:Bool):AVal.cells (.mapg t j nx)=[(.mapg t j nx)]:=by cases nx <;> rfl
theorem ZIi  : AVal.cells (.nili)=[(.nili)]:=rfl
theorem ZHT (t:Nat) (x:AVal):AVal.cells (.iface t x)=[(.iface t x)]:=rfl
theorem ZGf (x:AVal):AVal.cells (.pan x)=[(.pan x)]:=rfl
theorem ZDF  : ZaL (.top)=(.top):=rfl
theorem ZHB  : ZaL (.any)=(.any):=rfl
theorem ZzO (k:IntKind) (n:Int):ZaL (.int k n)=(.int k n):=rfl
theorem ZIt (b:Bool):ZaL (.bool b)=(.bool b):=rfl
theorem ZtW (l:List UInt8):ZaL (.str l)=(.str l):=rfl
theorem ZDg  : ZaL (.nilp)=(.nilp):=rfl
theorem Zw2 (t:Nat) (o:Nat):ZaL (.ref t o)=(.ref t o):=rfl
theorem Zy4 (t:Nat) (g:Nat) (i:Nat) (o:Nat):ZaL (.eref t g i o)=(.eref t g i o):=rfl
theorem ZC6 (cs:List AVal) (o:Nat):ZaL (.iptr cs o)=(.iptr cs o):=rfl
theorem ZIO (x:Bool) (xs:List AVal):ZaL (.lst x xs)=(.lst x xs):=rfl
theorem ZHP (t:Nat) (g:Nat) (lo:Nat) (n:Nat):ZaL (.sl t g lo n)=(.sl t g lo n):=rfl
theorem ZHK (cs:List AVal):ZaL (.agg cs)=(.agg cs):=rfl
theorem Zzy (vs:List AVal):ZaL (.tup vs)=(.tup vs):=rfl
theorem ZGT (f:Nat) (caps:List AVal):ZaL (.fn f caps)=(.fn f caps):=rfl
theorem Zx6  : ZaL (.nilm)=(.nilm):=rfl
theorem ZAa (t:Nat):ZaL (.map t)=(.map t):=rfl
theorem Zuj (t j o:Nat):ZaL (.nref t j o)=(.nref t j o):=rfl
theorem ZtC (t j:Nat) (nx:Bool):ZaL (.mapg t j nx)=(.mapg t j nx):=by cases nx <;> rfl
theorem Zwm  : ZaL (.nili)=(.nili):=rfl
theorem Zz5 (t:Nat) (x:AVal):ZaL (.iface t x)=(.iface t x):=rfl
theorem ZDD (x:AVal):ZaL (.pan x)=x:=rfl
theorem ZB6  : Zaj (.top)=4:=rfl
theorem ZF0  : Zaj (.any)=4:=rfl
theorem ZA9 (k:IntKind) (n:Int):Zaj (.int k n)=0:=rfl
theorem ZBk (b:Bool):Zaj (.bool b)=1:=rfl
theorem Zva (l:List UInt8):Zaj (.str l)=2:=rfl
theorem ZBa  : Zaj (.nilp)=4:=rfl
theorem ZAG (t:Nat) (o:Nat):Zaj (.ref t o)=4:=rfl
theorem ZDe (t:Nat) (g:Nat) (i:Nat) (o:Nat):Zaj (.eref t g i o)=4:=rfl
theorem ZIs (cs:List AVal) (o:Nat):Zaj (.iptr cs o)=4:=rfl
theorem ZyG (x:Bool) (xs:List AVal):Zaj (.lst x xs)=4:=rfl
theorem ZzZ (t:Nat) (g:Nat) (lo:Nat) (n:Nat):Zaj (.sl t g lo n)=4:=rfl
theorem ZA2 (cs:List AVal):Zaj (.agg cs)=4:=rfl
theorem ZFr (vs:List AVal):Zaj (.tup vs)=4:=rfl
theorem ZEW (f:Nat) (caps:List AVal):Zaj (.fn f caps)=4:=rfl
theorem Zw5  : Zaj (.nilm)=4:=rfl
theorem Zzd (t:Nat):Zaj (.map t)=4:=rfl
theorem Zw6 (t j o:Nat):Zaj (.nref t j o)=4:=rfl
theorem ZGK (t j:Nat) (nx:Bool):Zaj (.mapg t j nx)=4:=by cases nx <;> rfl
theorem ZEx  : Zaj (.nili)=4:=rfl
theorem ZAu (t:Nat) (x:AVal):Zaj (.iface t x)=4:=rfl
theorem ZF4 (x:AVal):Zaj (.pan x)=4:=rfl
theorem ZCl  : Zav (.top)=[]:=rfl
theorem ZwY  : Zav (.any)=[]:=rfl
theorem ZBR (k:IntKind) (n:Int):Zav (.int k n)=[]:=rfl
theorem ZCy (b:Bool):Zav (.bool b)=[]:=rfl
theorem ZvN (l:List UInt8):Zav (.str l)=[]:=rfl
theorem ZGL  : Zav (.nilp)=[]:=rfl
theorem ZH6 (t:Nat) (o:Nat):Zav (.ref t o)=[t]:=rfl
theorem ZFX (t:Nat) (g:Nat) (i:Nat) (o:Nat):Zav (.eref t g i o)=[t]:=rfl
theorem Zvw (cs:List AVal) (o:Nat):Zav (.iptr cs o)=[]:=rfl
theorem ZB3 (x:Bool) (xs:List AVal):Zav (.lst x xs)=[]:=rfl
theorem ZDa (t:Nat) (g:Nat) (lo:Nat) (n:Nat):Zav (.sl t g lo n)=[t]:=rfl
theorem ZG9 (cs:List AVal):Zav (.agg cs)=ZZ cs:=rfl
theorem ZC5 (vs:List AVal):Zav (.tup vs)=ZZ vs:=rfl
theorem ZCk (f:Nat) (caps:List AVal):Zav (.fn f caps)=ZZ caps:=rfl
theorem ZE4  : Zav (.nilm)=[]:=rfl
theorem ZzC (t:Nat):Zav (.map t)=[t]:=rfl
theorem Zuw (t j o:Nat):Zav (.nref t j o)=[t]:=rfl
theorem ZAM (t j:Nat) (nx:Bool):Zav (.mapg t j nx)=[t]:=by cases nx <;> rfl
theorem ZAN  : Zav (.nili)=[]:=rfl
theorem ZBp (t:Nat) (x:AVal):Zav (.iface t x)=Zav x:=rfl
theorem Zta (x:AVal):Zav (.pan x)=Zav x:=rfl
theorem Zxq  : Zv ρ (.top)=(.top):=rfl
theorem ZHw  : Zv ρ (.any)=(.any):=rfl
theorem ZDh (k:IntKind) (n:Int):Zv ρ (.int k n)=(.int k n):=rfl
theorem Zul (b:Bool):Zv ρ (.bool b)=(.bool b):=rfl
theorem ZDC (l:List UInt8):Zv ρ (.str l)=(.str l):=rfl
theorem ZAZ  : Zv ρ (.nilp)=(.nilp):=rfl
theorem Zuf (cs:List AVal) (o:Nat):Zv ρ (.iptr cs o)=(.iptr cs o):=rfl
theorem Zwx (x:Bool) (xs:List AVal):Zv ρ (.lst x xs)=(.lst x xs):=rfl
theorem ZCi (cs:List AVal):Zv ρ (.agg cs)=.agg (ZW ρ cs):=rfl
theorem ZuY (vs:List AVal):Zv ρ (.tup vs)=.tup (ZW ρ vs):=rfl
theorem ZCx (f:Nat) (caps:List AVal):Zv ρ (.fn f caps)=.fn f (ZW ρ caps):=rfl
theorem ZCH  : Zv ρ (.nilm)=(.nilm):=rfl
theorem ZGi  : Zv ρ (.nili)=(.nili):=rfl
theorem ZtL (t:Nat) (x:AVal):Zv ρ (.iface t x)=.iface t (Zv ρ x):=rfl
theorem ZwC (x:AVal):Zv ρ (.pan x)=.pan (Zv ρ x):=rfl
theorem ZEI (f:Nat):ZaQ (.fn f [])=true:=rfl
theorem ZAD (f:Nat):ZaD (.fn f [])=true:=rfl
theorem ZCa (t:Nat) (x:AVal):ZbB (.pan (.iface t x))=ZaN x:=rfl
theorem ZFN (live:List Nat) (tm:Tms):ZjN live (some (tm,σ,none))=some (.normal,keepL live tm,σ):=rfl
theorem ZHC (live:List Nat) (tm:Tms) (x:AVal):ZjN live (some (tm,σ,some x))=some (.panic x,[],σ):=rfl
theorem Zx2 (live:List Nat):ZjN live none=none:=rfl
theorem ZIa (t o:Nat):Zv ρ (.ref t o)=(match ρ t 0 with | some (t',0)=>.ref t' o | _=>.any):=rfl
theorem Ztm (t:Nat):Zv ρ (.map t)=(match ρ t 0 with | some (t',0)=>.map t' | _=>.any):=rfl
theorem Zv1 (t j o:Nat):Zv ρ (.nref t j o)=(match ρ t (1001+3*j) with | some (t',g')=>if g'=1001+3*j then .nref t' j o else .any | none=>.any):=rfl
theorem Zug (t j:Nat) (nx:Bool):Zv ρ (.mapg t j nx)=(match ρ t (Z8 j nx) with | some (t',g')=>if g'=Z8 j nx then .mapg t' j nx else .any | none=>.any):=rfl
theorem ZCv (t g lo n:Nat):Zv ρ (.sl t g lo n)=(match ρ t g with | some (t',g')=>.sl t' g' lo n | none=>.any):=rfl
theorem ZwV (t g i o:Nat):Zv ρ (.eref t g i o)=(match ρ t g with | some (t',g')=>.eref t' g' i o | none=>.any):=rfl
theorem ZuP:ZZ []=[]:=rfl
theorem ZwP (x:AVal) (xs:List AVal):ZZ (x::xs)=Zav x++ZZ xs:=rfl
theorem ZFi:ZW ρ []=[]:=rfl
theorem Zvt (x:AVal) (xs:List AVal):ZW ρ (x::xs)=Zv ρ x::ZW ρ xs:=rfl
end
end
section
mutual
def Zay:AVal->Bool
 | .ref _ _=>false
 | .eref _ _ _ _=>false
 | .sl _ _ _ _=>false
 | .map _=>false
 | .nref _ _ _=>false
 | .mapg _ _ _=>false
 | .agg cs=>Zw cs
 | .tup vs=>Zw vs
 | .fn _ vs=>Zw vs
 | .iface _ x=>Zay x
 | .pan x=>Zay x
 | .top=>true
 | .any=>true
 | .int _ _=>true
 | .bool _=>true
 | .str _=>true
 | .nilp=>true
 | .nilm=>true
 | .nili=>true
 | .iptr _ _=>true
 | .lst _ _=>true
def Zw:List AVal->Bool
 | []=>true
 | x::xs=>Zay x && Zw xs
end
mutual
theorem Zec (ρ:Rho):∀ (x:AVal),Zay x=true->Zv ρ x=x/\Zav x=[]
 | .ref _ _,h=>by simp [Zay] at h
 | .eref _ _ _ _,h=>by simp [Zay] at h
 | .sl _ _ _ _,h=>by simp [Zay] at h
 | .map _,h=>by simp [Zay] at h
 | .nref _ _ _,h=>by simp [Zay] at h
 | .mapg _ _ _,h=>by simp [Zay] at h
 | .agg cs,h=>by have:=ZeI ρ cs (by simpa only [Zay] using h);exact ⟨by simp only [Zv,this.1],by simp only [Zav,this.2]⟩
 | .tup cs,h=>by have:=ZeI ρ cs (by simpa only [Zay] using h);exact ⟨by simp only [Zv,this.1],by simp only [Zav,this.2]⟩
 | .fn f cs,h=>by have:=ZeI ρ cs (by simpa only [Zay] using h);exact ⟨by simp only [Zv,this.1],by simp only [Zav,this.2]⟩
 | .iface t x,h=>by have:=Zec ρ x (by simpa only [Zay] using h);exact ⟨by simp only [Zv,this.1],by simp only [Zav,this.2]⟩
 | .pan x,h=>by have:=Zec ρ x (by simpa only [Zay] using h);exact ⟨by simp only [Zv,this.1],by simp only [Zav,this.2]⟩
 | .top,_=>⟨rfl,rfl⟩
 | .any,_=>⟨rfl,rfl⟩
 | .int _ _,_=>⟨rfl,rfl⟩
 | .bool _,_=>⟨rfl,rfl⟩
 | .str _,_=>⟨rfl,rfl⟩
 | .nilp,_=>⟨rfl,rfl⟩
 | .nilm,_=>⟨rfl,rfl⟩
 | .nili,_=>⟨rfl,rfl⟩
 | .iptr _ _,_=>⟨rfl,rfl⟩
 | .lst _ _,_=>⟨rfl,rfl⟩
theorem ZeI (ρ:Rho):∀ (xs:List AVal),Zw xs=true->ZW ρ xs=xs/\ZZ xs=[]
 | [],_=>⟨rfl,rfl⟩
 | x::xs,h=>by
  simp only [Zw,Xp] at h
  have h1:=Zec ρ x h.1
  have h2:=ZeI ρ xs h.2
  exact ⟨by simp only [ZW,h1.1,h2.1],by simp only [ZZ,h1.2,h2.2,XU]⟩
end
theorem Zsj {σ:Za} {r:AVal} (h:Zay r=true):Zbq 0 σ r=some (r,[]):=by
 have h1:=Zec (Zc σ 0 []) r h
 have hids:Zh 0 [r] σ=[]:=by
  unfold Zh
  simp only [ZZ,h1.2,XU,List.range_zero,Wu]
  rfl
 unfold Zbq gcA
 simp only [hids,ZW,Ze,h1.1]
def Zb1:AVal->AVal
 | .tup vs=>.tup (vs.map Zak)
 | x=>Zak x
def Zb4:AVal->Bool
 | .tup vs=>vs.all ZaD
 | x=>ZaD x
def ZbG:AVal->Bool
 | .fn _ _=>false
 | _=>true
def ZbI:AVal->Bool
 | .agg cs=>cs.all ZbG
 | x=>ZbG x
def Zb2:AVal->Bool
 | .tup vs=>vs.all ZbI
 | x=>ZbI x
theorem ZtF {k g n:Nat} {xs:List AVal} {σ:Za} {t:Nat} (hs:σ[t]?=some (.row g k xs)) (hn:n<=xs.length):Zd6 0 (some (.sl t g 0 n,σ))=some (.lst false (xs.take n),[]):=by
 have hv:viewR σ (.sl t g 0 n)=some (.lst false (xs.take n),[t]):=by
  simp only [viewR,Zco,ZbH,Zl,hs,XM,hn,and_self,if_true,XaR]
 have e:Zd6 0 (some (.sl t g 0 n,σ))=(match viewR σ (.sl t g 0 n) with
  | some (r',ts)=>match gcA 0 [r'] (ZU σ ts) with
   | ([r''],σ')=>some (r'',σ')
   | _=>none
  | none=>none):=rfl
 rw [e,hv]
 exact Zsj rfl
theorem Zxr {m:Nat} {fn:ZaA} {tm:Tms} {σ:Za}:Zbt m fn (some (.ret,tm,σ))=match resA tm σ fn.res with
  | some r=>Zbq m σ r
  | none=>none:=rfl
theorem Zzf {m:Nat} {fn:ZaA} {tm:Tms} {σ:Za}:Zbt m fn (some (.normal,tm,σ))=match resA tm σ fn.res with
  | some r=>Zbq m σ r
  | none=>none:=rfl
theorem ZDz {m:Nat} {fn:ZaA} {tm:Tms} {σ:Za} {x:AVal}:Zbt m fn (some (.panic x,tm,σ))=Zbq m σ (.pan x):=rfl
theorem ZHd  : Zay (.top)=true:=rfl
theorem Zy5  : Zay (.any)=true:=rfl
theorem ZxS (k:IntKind) (n:Int):Zay (.int k n)=true:=rfl
theorem ZxY (b:Bool):Zay (.bool b)=true:=rfl
theorem ZwD (l:List UInt8):Zay (.str l)=true:=rfl
theorem ZyV  : Zay (.nilp)=true:=rfl
theorem ZCA (t:Nat) (o:Nat):Zay (.ref t o)=false:=rfl
theorem ZGd (t:Nat) (g:Nat) (i:Nat) (o:Nat):Zay (.eref t g i o)=false:=rfl
theorem ZvJ (cs:List AVal) (o:Nat):Zay (.iptr cs o)=true:=rfl
theorem ZuI (x:Bool) (xs:List AVal):Zay (.lst x xs)=true:=rfl
theorem ZC4 (t:Nat) (g:Nat) (lo:Nat) (n:Nat):Zay (.sl t g lo n)=false:=rfl
theorem ZG4 (cs:List AVal):Zay (.agg cs)=Zw cs:=rfl
theorem Zs4 (vs:List AVal):Zay (.tup vs)=Zw vs:=rfl
theorem ZBB (f:Nat) (caps:List AVal):Zay (.fn f caps)=Zw caps:=rfl
theorem ZGv  : Zay (.nilm)=true:=rfl
theorem ZA3 (t:Nat):Zay (.map t)=false:=rfl
theorem Zz9 (t j o:Nat):Zay (.nref t j o)=false:=rfl
theorem ZAe (t j:Nat) (nx:Bool):Zay (.mapg t j nx)=false:=by cases nx <;> rfl
theorem Zx4  : Zay (.nili)=true:=rfl
theorem ZID (t:Nat) (x:AVal):Zay (.iface t x)=Zay x:=rfl
theorem ZDQ (x:AVal):Zay (.pan x)=Zay x:=rfl
theorem ZFs  : ZbG (.top)=true:=rfl
theorem ZAz  : ZbG (.any)=true:=rfl
theorem ZGl (k:IntKind) (n:Int):ZbG (.int k n)=true:=rfl
theorem Zv9 (b:Bool):ZbG (.bool b)=true:=rfl
theorem Zxv (l:List UInt8):ZbG (.str l)=true:=rfl
theorem ZGQ  : ZbG (.nilp)=true:=rfl
theorem ZCM (t:Nat) (o:Nat):ZbG (.ref t o)=true:=rfl
theorem ZFO (t:Nat) (g:Nat) (i:Nat) (o:Nat):ZbG (.eref t g i o)=true:=rfl
theorem ZDN (cs:List AVal) (o:Nat):ZbG (.iptr cs o)=true:=rfl
theorem Zzq (x:Bool) (xs:List AVal):ZbG (.lst x xs)=true:=rfl
theorem Zuz (t:Nat) (g:Nat) (lo:Nat) (n:Nat):ZbG (.sl t g lo n)=true:=rfl
theorem ZIz (cs:List AVal):ZbG (.agg cs)=true:=rfl
theorem ZHc (vs:List AVal):ZbG (.tup vs)=true:=rfl
theorem ZHV (f:Nat) (caps:List AVal):ZbG (.fn f caps)=false:=rfl
theorem ZHt  : ZbG (.nilm)=true:=rfl
theorem ZzF (t:Nat):ZbG (.map t)=true:=rfl
theorem Zue (t j o:Nat):ZbG (.nref t j o)=true:=rfl
theorem ZHY (t j:Nat) (nx:Bool):ZbG (.mapg t j nx)=true:=by cases nx <;> rfl
theorem ZzM  : ZbG (.nili)=true:=rfl
theorem ZuX (t:Nat) (x:AVal):ZbG (.iface t x)=true:=rfl
theorem Zy2 (x:AVal):ZbG (.pan x)=true:=rfl
theorem ZFD  : ZbI (.top)=true:=rfl
theorem Zwv  : ZbI (.any)=true:=rfl
theorem Zw8 (k:IntKind) (n:Int):ZbI (.int k n)=true:=rfl
theorem ZBT (b:Bool):ZbI (.bool b)=true:=rfl
theorem ZEh (l:List UInt8):ZbI (.str l)=true:=rfl
theorem Zwa  : ZbI (.nilp)=true:=rfl
theorem Zwy (t:Nat) (o:Nat):ZbI (.ref t o)=true:=rfl
theorem ZEo (t:Nat) (g:Nat) (i:Nat) (o:Nat):ZbI (.eref t g i o)=true:=rfl
theorem ZIc (cs:List AVal) (o:Nat):ZbI (.iptr cs o)=true:=rfl
theorem Ztd (x:Bool) (xs:List AVal):ZbI (.lst x xs)=true:=rfl
theorem ZCV (t:Nat) (g:Nat) (lo:Nat) (n:Nat):ZbI (.sl t g lo n)=true:=rfl
theorem ZAc (cs:List AVal):ZbI (.agg cs)=cs.all ZbG:=rfl
theorem ZHg (vs:List AVal):ZbI (.tup vs)=true:=rfl
theorem ZvL (f:Nat) (caps:List AVal):ZbI (.fn f caps)=false:=rfl
theorem Zz6  : ZbI (.nilm)=true:=rfl
theorem ZIj (t:Nat):ZbI (.map t)=true:=rfl
theorem Zwh (t j o:Nat):ZbI (.nref t j o)=true:=rfl
theorem ZGM (t j:Nat) (nx:Bool):ZbI (.mapg t j nx)=true:=by cases nx <;> rfl
theorem ZtY  : ZbI (.nili)=true:=rfl
theorem ZId (t:Nat) (x:AVal):ZbI (.iface t x)=true:=rfl
theorem ZHm (x:AVal):ZbI (.pan x)=true:=rfl
theorem Ztg  : Zb2 (.top)=true:=rfl
theorem ZBX  : Zb2 (.any)=true:=rfl
theorem Zvn (k:IntKind) (n:Int):Zb2 (.int k n)=true:=rfl
theorem ZC1 (b:Bool):Zb2 (.bool b)=true:=rfl
theorem ZFC (l:List UInt8):Zb2 (.str l)=true:=rfl
theorem ZIA  : Zb2 (.nilp)=true:=rfl
theorem ZEk (t:Nat) (o:Nat):Zb2 (.ref t o)=true:=rfl
theorem ZHe (t:Nat) (g:Nat) (i:Nat) (o:Nat):Zb2 (.eref t g i o)=true:=rfl
theorem Ztk (cs:List AVal) (o:Nat):Zb2 (.iptr cs o)=true:=rfl
theorem ZB5 (x:Bool) (xs:List AVal):Zb2 (.lst x xs)=true:=rfl
theorem Zxt (t:Nat) (g:Nat) (lo:Nat) (n:Nat):Zb2 (.sl t g lo n)=true:=rfl
theorem ZxG (cs:List AVal):Zb2 (.agg cs)=cs.all ZbG:=rfl
theorem Zy8 (vs:List AVal):Zb2 (.tup vs)=vs.all ZbI:=rfl
theorem ZCu (f:Nat) (caps:List AVal):Zb2 (.fn f caps)=false:=rfl
theorem ZAA  : Zb2 (.nilm)=true:=rfl
theorem ZAh (t:Nat):Zb2 (.map t)=true:=rfl
theorem ZCe (t j o:Nat):Zb2 (.nref t j o)=true:=rfl
theorem ZBd (t j:Nat) (nx:Bool):Zb2 (.mapg t j nx)=true:=by cases nx <;> rfl
theorem Zyd  : Zb2 (.nili)=true:=rfl
theorem ZwX (t:Nat) (x:AVal):Zb2 (.iface t x)=true:=rfl
theorem ZEX (x:AVal):Zb2 (.pan x)=true:=rfl
theorem Zvg  : Zb4 (.top)=false:=rfl
theorem ZFQ  : Zb4 (.any)=false:=rfl
theorem Zyj (k:IntKind) (n:Int):Zb4 (.int k n)=true:=rfl
theorem ZAX (b:Bool):Zb4 (.bool b)=true:=rfl
theorem ZBS (l:List UInt8):Zb4 (.str l)=true:=rfl
theorem ZD2  : Zb4 (.nilp)=true:=rfl
theorem Zxp (t:Nat) (o:Nat):Zb4 (.ref t o)=false:=rfl
theorem ZEc (t:Nat) (g:Nat) (i:Nat) (o:Nat):Zb4 (.eref t g i o)=false:=rfl
theorem ZxA (cs:List AVal) (o:Nat):Zb4 (.iptr cs o)=false:=rfl
theorem ZBw (x:Bool) (xs:List AVal):Zb4 (.lst x xs)=true:=rfl
theorem ZIg (t:Nat) (g:Nat) (lo:Nat) (n:Nat):Zb4 (.sl t g lo n)=false:=rfl
theorem ZAj (cs:List AVal):Zb4 (.agg cs)=cs.all ZaQ:=rfl
theorem ZHQ (vs:List AVal):Zb4 (.tup vs)=vs.all ZaD:=rfl
theorem ZG5  : Zb4 (.nilm)=true:=rfl
theorem ZE1 (t:Nat):Zb4 (.map t)=false:=rfl
theorem ZFJ (t j o:Nat):Zb4 (.nref t j o)=false:=rfl
theorem ZEK (t j:Nat) (nx:Bool):Zb4 (.mapg t j nx)=false:=by cases nx <;> rfl
theorem Zzo  : Zb4 (.nili)=true:=rfl
theorem ZCz (t:Nat) (x:AVal):Zb4 (.iface t x)=false:=rfl
theorem Zzx (x:AVal):Zb4 (.pan x)=false:=rfl
theorem ZDP  : Zb1 (.top)=(.top):=rfl
theorem Zts  : Zb1 (.any)=(.any):=rfl
theorem ZEu (k:IntKind) (n:Int):Zb1 (.int k n)=(.int k n):=rfl
theorem Zx1 (b:Bool):Zb1 (.bool b)=(.bool b):=rfl
theorem ZyA (l:List UInt8):Zb1 (.str l)=(.str l):=rfl
theorem ZIL  : Zb1 (.nilp)=(.nilp):=rfl
theorem Zzw (t:Nat) (o:Nat):Zb1 (.ref t o)=(.ref t o):=rfl
theorem Zu6 (t:Nat) (g:Nat) (i:Nat) (o:Nat):Zb1 (.eref t g i o)=(.eref t g i o):=rfl
theorem ZAO (cs:List AVal) (o:Nat):Zb1 (.iptr cs o)=(.iptr cs o):=rfl
theorem ZAB (x:Bool) (xs:List AVal):Zb1 (.lst x xs)=.lst false xs:=rfl
theorem Zy9 (t:Nat) (g:Nat) (lo:Nat) (n:Nat):Zb1 (.sl t g lo n)=(.sl t g lo n):=rfl
theorem ZGE (cs:List AVal):Zb1 (.agg cs)=.agg (cs.map Zbh):=rfl
theorem ZGI (vs:List AVal):Zb1 (.tup vs)=.tup (vs.map Zak):=rfl
theorem ZHr (f:Nat) (caps:List AVal):Zb1 (.fn f caps)=(.fn f caps):=rfl
theorem ZuA  : Zb1 (.nilm)=(.nilm):=rfl
theorem Zz3 (t:Nat):Zb1 (.map t)=(.map t):=rfl
theorem ZAw (t j o:Nat):Zb1 (.nref t j o)=(.nref t j o):=rfl
theorem ZFh (t j:Nat) (nx:Bool):Zb1 (.mapg t j nx)=(.mapg t j nx):=by cases nx <;> rfl
theorem ZBZ  : Zb1 (.nili)=(.nili):=rfl
theorem ZEi (t:Nat) (x:AVal):Zb1 (.iface t x)=(.iface t x):=rfl
theorem Zs2 (x:AVal):Zb1 (.pan x)=(.pan x):=rfl
theorem ZHf:Zw []=true:=rfl
theorem Zy3 (x:AVal) (xs:List AVal):Zw (x::xs)=(Zay x && Zw xs):=rfl
theorem ZFo (f:Nat):Zb4 (.fn f [])=true:=rfl
theorem Zxe (p q:Bool):(if p=true then q else false)=(p && q):=by cases p <;> rfl
theorem ZB9 (p q:Bool):(if p=true then true else q)=(p || q):=by cases p <;> rfl
theorem ZGZ (p q:Bool):(if p=true then false else q)=(!p && q):=by cases p <;> rfl
theorem ZFp (p q:Bool):(if p=true then q else true)=(!p || q):=by cases p <;> rfl
theorem ZwE (p q:Bool):(if p=false then q else false)=(!p && q):=by cases p <;> rfl
theorem Zwt (p q:Bool):(if p=false then true else q)=(!p || q):=by cases p <;> rfl
theorem Zup (p q:Bool):(if p=false then false else q)=(p && q):=by cases p <;> rfl
theorem ZzV (p q:Bool):(if p=false then q else true)=(p || q):=by cases p <;> rfl
section
def ZcA (o:AOp):AOp:=⟨o.dst,o.ins,o.guard,[]⟩
def Zch:Zg->Zg
 | .region ops chk live=>.region (ops.map ZcA) chk live
 | .seq a b=>.seq (Zch a) (Zch b)
 | .cond c a b=>.cond c (Zch a) (Zch b)
 | .block id c=>.block id (Zch c)
 | .loop live c=>.loop live (Zch c)
 | .range pre live ms en b1 bg ent body rest=>.range (pre.map ZcA) live ms en b1 bg (ent.map ZcA) (Zch body) (Zch rest)
 | .skip=>.skip
 | .exit id=>.exit id
 | .ret=>.ret
 | .stuck=>.stuck
def Zjl (f:ZaA):ZaA:=⟨f.res,Zch f.body⟩
section
variable {O:Z7} {bf:Nat->Bool}
theorem ZDv (o:AOp) (s:Nat) (tm:Tms) (σ:Za):ZT O bf (ZcA o) s tm σ=ZT O bf o s tm σ:=rfl
theorem ZkE:∀ (ops:List AOp) (s:Nat) (tm:Tms) (σ:Za),Z6 O bf (ops.map ZcA) s tm σ=Z6 O bf ops s tm σ
 | [],_,_,_=>rfl
 | o::os,s,tm,σ=>by
  simp only [XI,Z6,ZDv]
  split
  ·rfl
  ·rfl
  ·rename_i tm' σ' c _ _
   rw [show (ZcA o).ins=o.ins from rfl,ZkE os]
theorem ZlH (ops:List AOp):sitesOf (ops.map ZcA)=sitesOf ops:=by
 simp [sitesOf,ZcA,Xbu]
theorem Zje (ops:List AOp) (i:Nat):((ops.map ZcA).getD i default).ins=(ops.getD i default).ins:=by
 simp only [Xe,XY]
 cases ops[i]? <;> rfl
theorem ZBu (ops:List AOp) (b:Nat) (l:List (Nat×Nat)) (cs:List Cls):ZdA (ops.map ZcA) b l cs=ZdA ops b l cs:=by
 unfold ZdA
 congr 1
 funext p
 unfold ZcQ Zcu
 rw [Zje,Zje,<-XbL,ZlH]
theorem ZDS (ops:List AOp) (b:Nat) (l:List (Nat×Nat)) (cs:List Cls):ZaG (ops.map ZcA) b l cs=ZaG ops b l cs:=by
 unfold ZaG
 congr 2
 funext p
 unfold ZcQ Zcu
 rw [Zje,Zje,<-XbL,ZlH]
theorem ZzT (ops:List AOp) (chk:Option (List (Nat×Nat))) (live:List Nat) (tm:Tms) (σ:Za):ZcJ O bf (ops.map ZcA) chk live tm σ=ZcJ O bf ops chk live tm σ:=by
 unfold ZcJ
 rw [ZkE,ZlH]
 cases Z6 O bf ops σ.length tm (σ++XK (sitesOf ops) .free) with
 | none=>rfl
 | some q =>
  obtain ⟨tm',σ',cs,p⟩:=q
  cases p with
  | some x =>
   cases chk with
   | none=>rfl
   | some l=>simp only [Zeb,ZDS]
  | none =>
   cases chk with
   | none=>rfl
   | some l=>simp only [Zeb,ZBu]
theorem Zqr (ops:List AOp) (tm:Tms) (σ:Za):ZcX bf (ops.map ZcA) tm σ=ZcX bf ops tm σ:=by
 unfold ZcX;rw [ZkE]
section
variable {m:Nat} {live:List Nat} {ms en b1:Nat} {bg:Bool} {ent:List AOp} {run fin:Nat->Tms->Za->Option (Z1×Tms×Za)}
theorem Zo8:Zcf bf ms en b1 bg (ent.map ZcA) run=Zcf bf ms en b1 bg ent run:=by
 funext t B kv tm σ
 unfold Zcf
 rw [Zqr]
theorem Zr4 (es:List (AVal×AVal)):∀ (l:List (AVal×AVal)) (tm:Tms) (σ:Za),Zbx bf m live ms en b1 bg (ent.map ZcA) run es l tm σ=Zbx bf m live ms en b1 bg ent run es l tm σ
 | [],_,_=>rfl
 | kv::l,tm,σ=>by
  simp only [Zbx,Zo8]
  split
  ·split
   ·split
    ·exact Zr4 es l _ _
    ·rfl
   ·rfl
  ·rfl
theorem ZyY (tm:Tms) (σ:Za):ZcP bf m live ms en b1 bg (ent.map ZcA) run fin tm σ=ZcP bf m live ms en b1 bg ent run fin tm σ:=by
 have h:ZbL bf m live ms en b1 bg (ent.map ZcA) run fin=ZbL bf m live ms en b1 bg ent run fin:=by
  funext es l tm σ
  unfold ZbL
  rw [Zr4]
 have h2:Zgj bf m live ms en b1 bg (ent.map ZcA) run fin=Zgj bf m live ms en b1 bg ent run fin:=by
  funext es tm σ
  unfold Zgj
  rw [h]
 unfold ZcP
 rw [h2,Zo8]
end
theorem Zfc (n:Nat):∀ (c:Zg) (m:Nat),Z0 O bf m n (Zch c)=Z0 O bf m n c
 | .region ops chk live,m=>by funext tm σ;simp only [Zch,Z0,ZzT]
 | .seq a b,m=>by funext tm σ;simp only [Zch,Z0,Zfc n a,Zfc n b]
 | .cond c a b,m=>by funext tm σ;simp only [Zch,Z0,Zfc n a,Zfc n b]
 | .block id c,m=>by funext tm σ;simp only [Zch,Z0,Zfc n c]
 | .loop live c,m=>by funext tm σ;simp only [Zch,Z0,Zfc n c]
 | .range pre live ms en b1 bg ent body rest,m=>by funext tm σ;simp only [Zch,Z0,Zqr,ZyY,Zfc n body,Zfc n rest]
 | .skip,m=>by funext tm σ;simp only [Zch]
 | .exit id,m=>by funext tm σ;simp only [Zch]
 | .ret,m=>by funext tm σ;simp only [Zch]
 | .stuck,m=>by funext tm σ;simp only [Zch]
end
theorem Zol (fs:Nat->Option ZaA) (prim:ZdS) (bf:Nat->Bool):∀ n,Zau (fun f=>(fs f).map Zjl) prim bf n=Zau fs prim bf n
 | 0=>rfl
 | n+1=>by
  funext f args σ
  simp only [Zau,Zol fs prim bf n]
  cases prim f with
  | some g=>rfl
  | none =>
   cases fs f with
   | none=>rfl
   | some fn =>
    simp only [XZ,Zjl,Zfc]
    rfl
theorem ZFw (fs:Nat->Option ZaA) (prim:ZdS) (bf:Nat->Bool):EV (fun f=>(fs f).map Zjl) prim bf=EV fs prim bf:=by
 funext f args σ
 apply Ze6
 intro r
 rw [ZcL,ZcL]
 simp only [Zol]
end
end
section
open Go.RowKit
def ZmD (args:List AVal) (σ:Za):Option (AVal×Za):=match args with
 | [.str l]=>some (.bool (Lib.validD l),σ)
 | _=>none
def Zkq (args:List AVal) (σ:Za):Option (AVal×Za):=match args with
 | [.str l,.int .u8 c]=>some (.int .i64 (Lib.indexByte l c.toNat.toUInt8),σ)
 | _=>none
def ZmL (args:List AVal) (σ:Za):Option (AVal×Za):=match args with
 | [.str l,.str [c]]=>some (.int .i64 (Lib.countByte l c),σ)
 | _=>none
section
variable {P:Program} {base:Nat->Prop} {w0 w w':World} {I0 I:Imm} {β:Bmap} {σ:Za}
theorem Zlt {f:Nat} (hf:∃ fn,P.funcs[f]?=some fn/\fn.body.isSome=true/\(fn.name == "runtime.NumGoroutine")=false) {args:List AVal} {r:AVal} {u:Value} (hn:∀ x,r≠.pan x) (hr:∀ I β,VR I β r u)
  (h:∀ base w0 I0 I β w (vs:Array Value),Rel base w0 I0 I β σ w->VRs I β args vs.toList->Calls P f vs w (fun e w'=>e=.returned u/\Below w.heap.size w w')) :
  (∃ fn,P.funcs[f]?=some fn/\fn.body.isSome=true/\(fn.name == "runtime.NumGoroutine")=false) /\
  ∀ base w0 I0 I β w (vs:Array Value),KLt base w0->Rel base w0 I0 I β σ w->VRs I β args vs.toList ->
   Calls P f vs w (fun e w'=>∃ u,Ends r e u/\Zcm σ.length base w0 I0 I β r σ u w'):=by
 refine ⟨hf,fun base w0 I0 I β w vs hb R hv=>(h base w0 I0 I β w vs R hv).mono ?_⟩
 rintro e w' ⟨rfl,hB⟩
 have hbw:=R.base_le hb
 refine ⟨u,?_,I,β,Imm.le.refl I,KeptE.refl _ β,R.stay (Imm.le.refl I) ⟨hB.os,hB.tape,hB.output,hB.size,fun k hk=>hB.block k (hbw k hk)⟩ (fun _ _ _=>rfl) ?_ ?_,by rw [Zf6 hn];exact hr I β⟩
 ·cases r <;> first | rfl | exact absurd rfl (hn _)
 ·intro b o x hx
  have h1:=R.imm b o x hx
  have hlt:=ZdI h1
  rw [<-h1]
  simp only [World.cell?,hB.block b hlt]
 ·intro t x b hx hb'
  exact ⟨hB.block b ((R.blk t x hx).owns_lt hb'),(R.own t x b hx hb').2⟩
theorem Zrh {f:Nat} (hf:∃ fn,P.funcs[f]?=some fn/\fn.body.isSome=true/\(fn.name == "runtime.NumGoroutine")=false)
  (hc:∀ (s:ByteArray) (c:Int) (w:World),Calls P f #[.string s,.int .u8 c] w fun e w'=>e=.returned (.int .i64 (Lib.indexByte s.data.toList c.toNat.toUInt8))/\w'=w) {args:List AVal} {σ σ':Za} {r:AVal} (h:Zkq args σ=some (r,σ')) :
  (∃ fn,P.funcs[f]?=some fn/\fn.body.isSome=true/\(fn.name == "runtime.NumGoroutine")=false) /\
  ∀ base w0 I0 I β w (vs:Array Value),KLt base w0->Rel base w0 I0 I β σ w->VRs I β args vs.toList ->
   Calls P f vs w (fun e w'=>∃ u,Ends r e u/\Zcm σ.length base w0 I0 I β r σ' u w'):=by
 unfold Zkq at h
 split at h
 case h_2=>cases h
 rename_i l c
 simp only [Xa,Xb] at h
 obtain ⟨rfl,rfl⟩:=h
 refine Zlt hf (u:=.int .i64 (Lib.indexByte l c.toNat.toUInt8)) (by simp) (fun _ _=>by simp only [VR]) ?_
 intro base w0 I0 I β w vs R hv
 obtain ⟨vs⟩:=vs
 simp only [VRs,VR] at hv
 obtain ⟨v1,r1,e1,⟨rfl,_⟩,v2,r2,rfl,rfl,rfl⟩:=hv
 subst e1
 refine (hc ⟨l.toArray⟩ c w).mono ?_
 rintro e w' ⟨rfl,rfl⟩
 exact ⟨by simp,Below.refl _ _⟩
theorem Zzm {f:Nat} (hf:∃ fn,P.funcs[f]?=some fn/\fn.body.isSome=true/\(fn.name == "runtime.NumGoroutine")=false)
  (hc:∀ (s:ByteArray) (c:UInt8) (w:World),Calls P f #[.string s,.string ⟨#[c]⟩] w fun e w'=>e=.returned (.int .i64 (Lib.countByte s.data.toList c))/\w'=w) {args:List AVal} {σ σ':Za} {r:AVal} (h:ZmL args σ=some (r,σ')) :
  (∃ fn,P.funcs[f]?=some fn/\fn.body.isSome=true/\(fn.name == "runtime.NumGoroutine")=false) /\
  ∀ base w0 I0 I β w (vs:Array Value),KLt base w0->Rel base w0 I0 I β σ w->VRs I β args vs.toList ->
   Calls P f vs w (fun e w'=>∃ u,Ends r e u/\Zcm σ.length base w0 I0 I β r σ' u w'):=by
 unfold ZmL at h
 split at h
 case h_2=>cases h
 rename_i l c
 simp only [Xa,Xb] at h
 obtain ⟨rfl,rfl⟩:=h
 refine Zlt hf (u:=.int .i64 (Lib.countByte l c)) (by simp) (fun _ _=>by simp only [VR]) ?_
 intro base w0 I0 I β w vs R hv
 obtain ⟨vs⟩:=vs
 simp only [VRs,VR] at hv
 obtain ⟨v1,r1,e1,⟨rfl,_⟩,v2,r2,rfl,⟨rfl,_⟩,rfl⟩:=hv
 subst e1
 refine (hc ⟨l.toArray⟩ c w).mono ?_
 rintro e w' ⟨rfl,rfl⟩
 exact ⟨by simp,Below.refl _ _⟩
theorem ZzN (R:Rel base w0 I0 I β σ w):Lib.Utf8Tabs 0 1 w:=by
 refine ⟨fun c hc=>R.imm _ _ _ (R.glob _ _ _ (by simp [Gl,hc])),fun i hi=>⟨R.imm _ _ _ (R.glob _ _ _ ?_),R.imm _ _ _ (R.glob _ _ _ ?_)⟩⟩
 ·have h1:2*i < 32:=by omega
  have h2:2*i % 2=0:=by omega
  have h3:2*i / 2=i:=by omega
  simp [Gl,h1,h3]
 ·have h1:2*i+1 < 32:=by omega
  have h2:(2*i+1) % 2=1:=by omega
  have h3:(2*i+1) / 2=i:=by omega
  simp [Gl,h1,h2,h3]
theorem Zzg {f:Nat} (hf:∃ fn,P.funcs[f]?=some fn/\fn.body.isSome=true/\(fn.name == "runtime.NumGoroutine")=false)
  (hc:∀ (s:ByteArray) (w:World),s.size<=9223372036854775807->Lib.Utf8Tabs 0 1 w->Calls P f #[.string s] w fun e w'=>e=.returned (.bool (Lib.validD s.data.toList))/\Below w.heap.size w w') {args:List AVal} {σ σ':Za} {r:AVal} (h:ZmD args σ=some (r,σ')) :
  (∃ fn,P.funcs[f]?=some fn/\fn.body.isSome=true/\(fn.name == "runtime.NumGoroutine")=false) /\
  ∀ base w0 I0 I β w (vs:Array Value),KLt base w0->Rel base w0 I0 I β σ w->VRs I β args vs.toList ->
   Calls P f vs w (fun e w'=>∃ u,Ends r e u/\Zcm σ.length base w0 I0 I β r σ' u w'):=by
 unfold ZmD at h
 split at h
 case h_2=>cases h
 rename_i l
 simp only [Xa,Xb] at h
 obtain ⟨rfl,rfl⟩:=h
 refine Zlt hf (u:=.bool (Lib.validD l)) (by simp) (fun _ _=>by simp only [VR]) ?_
 intro base w0 I0 I β w vs R hv
 obtain ⟨vs⟩:=vs
 simp only [VRs,VR] at hv
 obtain ⟨v1,r1,e1,⟨rfl,hl⟩,rfl⟩:=hv
 subst e1
 refine (hc ⟨l.toArray⟩ w (by simpa [WT] using hl) (ZzN R)).mono ?_
 rintro e w' ⟨rfl,hB⟩
 exact ⟨by simp,hB⟩
end
end
section
open Go.RowKit Go.Sort
def Zcv {α:Type} (g:AVal->Option α):List AVal->Option (List α)
 | []=>some []
 | x::r=>match g x with
  | some a=>(Zcv g r).map (a::·)
  | none=>none
section
variable {P:Program} {base:Nat->Prop} {w0 w w':World} {I0 I:Imm} {β:Bmap} {σ:Za}
theorem Rel.putAt (R:Rel base w0 I0 I β σ w) (hbl:KLt base w) {t b:Nat} {x x':Zy} (ht:σ[t]?=some x) (hx:Zk w β t x b) (hx':∀ b',Zk w' β t x' b'->b'=b) (hg:Zb x'=Zb x)
  (hos:w'.os=w.os) (hta:w'.tape=w.tape) (hou:w'.output=w.output) (hs:w.heap.size<=w'.heap.size) (hh:∀ k,k≠b->k < w.heap.size->w'.heap[k]?=w.heap[k]?) (hblk:BR I β w' t x') (hnf:x'≠.free:=by simp) (hns:∀ b',¬Zaz β t x' b':=by intro b h;cases h) :
  Rel base w0 I0 I β (σ.set t x') w':=by
 have hsl:t < σ.length:=(Xc.1 ht).1
 have ho:=R.own t x b ht hx
 refine R.upd (Imm.le.refl I) (Bmap.le.refl β) ⟨hos,hta,hou,hs,fun k hk=>hh k (by rintro rfl;exact ho.1 hk) (hbl k hk)⟩ (fun _ _ _=>rfl) ?_ t x' rfl hsl (fun _ _ _=>rfl) ?_ hblk ?_ ?_ ?_ (fun b h=>absurd h (hns b))
 ·intro b' o u h
  have hne:b'≠b:=by rintro rfl;rw [ho.2 o] at h;cases h
  have h1:=R.imm b' o u h
  have hlt:=ZdI h1
  rw [<-h1]
  simp only [World.cell?,hh b' hne hlt]
 ·intro t' y b' hne hy hb'
  have hbb:b'≠b:=by rintro rfl;exact hne (R.apart t' y t x b' hy ht hb' hx)
  exact ⟨hh b' hbb ((R.blk t' y hy).owns_lt hb'),(R.own t' y b' hy hb').2,fun e=>hbb (hx' _ e)⟩
 ·intro b' e
  obtain rfl:=hx' _ e
  exact ho
 ·intro g hlt
  exact R.gen t x g ht (by rw [<-hg];exact hlt)
 ·rintro rfl
  exact hnf rfl
theorem Zsi {α:Type} {g:AVal->Option α}:∀ {xs:List AVal} {zs:List α},Zcv g xs=some zs->zs.length=xs.length
 | [],zs,h=>by simp only [Zcv,Xa] at h;subst h;rfl
 | x::xs,zs,h=>by
  simp only [Zcv] at h
  split at h
  ·simp only [Xq] at h
   obtain ⟨zs',h,rfl⟩:=h
   simp [Zsi h]
  ·cases h
end
end
section
open Go.RowKit Go.Sort
def leC {κ:Type} (cf:κ->κ->Int) (x y:κ):Bool:=!decide (cf y x < 0)
def Zgs {κ:Type} (le:κ->κ->Bool):List κ->List κ
 | []=>[]
 | [a]=>[a]
 | l=>l.mergeSort le
theorem ZeZ {κ:Type} (le:κ->κ->Bool):∀ l:List κ,Zgs le l=l.mergeSort le
 | []=>by simp [Zgs]
 | [a]=>by simp [Zgs]
 | _::_::_=>rfl
def Zd9 {κ:Type} [DecidableEq κ] (cf:κ->κ->Int) (xs:List AVal) (ks:List κ):List AVal:=(Zgs (leC cf) ks).map fun a=>((ks.zip xs).lookup a).getD .nilp
def Zfv {κ:Type} [DecidableEq κ] (k f:Nat) (key:AVal->Option κ) (cf:κ->κ->Int) (args:List AVal) (σ:Za):Option (AVal×Za):=match args,σ with
 | [.sl 0 0 0 n,.fn f' []],[.row 0 k' xs]=>match Zcv key xs with
  | some ks=>if n=xs.length/\n < 4611686018427387904/\k'=k/\f'=f/\ks.Nodup then some (.tup [],[.row 0 k (Zd9 cf xs ks)]) else none
  | none=>none
 | [.lst b [],.fn f' []],[]=>some (.tup [],[])
 | _,_=>none
section
variable {P:Program} {base:Nat->Prop} {w0 w w':World} {I0 I:Imm} {β:Bmap} {σ:Za}
theorem Zpw {k:Nat}:∀ {xs:List AVal} {vs:List Value},(∀ x ∈ xs,x.cells.length=k)->VRs I β (xs.flatMap AVal.cells) vs->∃ VS:List (List Value),vs=VS.flatten/\VS.length=xs.length/\(∀ l ∈ VS,l.length=k)/\∀ (i:Nat) (x:AVal),xs[i]?=some x->∃ l,VS[i]?=some l/\VRs I β x.cells l
 | [],vs,_,h=>by
  simp only [Wu,VRs] at h
  subst h
  exact ⟨[],rfl,rfl,by simp,by simp⟩
 | x::xs,vs,hk,h=>by
  rw [XT] at h
  have hl:=Zao h
  have h1:=Zel h x.cells.length
  have h2:=ZeA h x.cells.length
  rw [List.take_left] at h1
  rw [List.drop_left] at h2
  obtain ⟨VS,e1,e2,e3,e4⟩:=Zpw (fun y hy=>hk y (by simp [hy])) h2
  refine ⟨vs.take x.cells.length::VS,by rw [Xbv,<-e1,Xa9],by simp [e2],?_,?_⟩
  ·intro l hl'
   rcases XH.1 hl' with rfl | hl'
   ·rw [<-Zao h1];exact hk x (by simp)
   ·exact e3 l hl'
  ·intro i y hy
   cases i with
   | zero=>simp only [XO,Xa] at hy;subst hy;exact ⟨_,rfl,h1⟩
   | succ i=>simp only [X3] at hy ⊢;exact e4 i y hy
theorem ZhD {κ β':Type} [DecidableEq κ]:∀ {ks:List κ} {ys:List β'} {i:Nat} {a:κ} {y:β'},ks.Nodup->ks[i]?=some a->ys[i]?=some y->(ks.zip ys).lookup a=some y
 | [],ys,i,a,y,_,h,_=>by simp at h
 | b::ks,[],i,a,y,_,_,h=>by simp at h
 | b::ks,z::ys,0,a,y,_,h,h'=>by
  simp only [XO,Xa] at h h'
  subst h h'
  simp [List.lookup]
 | b::ks,z::ys,i+1,a,y,hn,h,h'=>by
  simp only [X3] at h h'
  obtain ⟨n1,n2⟩:=Wb.1 hn
  have hne:a≠b:=by rintro rfl;exact n1 (XA h)
  rw [Wi,XN]
  have : (a == b)=false:=by simpa using hne
  rw [this]
  exact ZhD n2 h h'
theorem ZoO {k:Nat}:∀ {L:List (List Value)} {i c:Nat},(∀ l ∈ L,l.length=k)->c < k->(L.flatten)[i*k+c]?=(L[i]?).bind (·[c]?)
 | [],i,c,_,_=>by simp
 | l::L,0,c,h,hc=>by
  have:=h l (by simp)
  rw [Xbp,XM,Xbv,List.getElem?_append_left (by omega)]
  rfl
 | l::L,i+1,c,h,hc=>by
  have hl:=h l (by simp)
  rw [Xbv,List.getElem?_append_right (by rw [hl,XbB];omega)]
  have : (i+1)*k+c - l.length=i*k+c:=by rw [hl,XbB];omega
  rw [this,ZoO (fun m hm=>h m (by simp [hm])) hc]
  rfl
theorem Zr8 {α:Type} [Inhabited α] {enc:α->List Value} {k:Nat} (hk:∀ x,(enc x).length=k) (hk0:0 < k) (d:List α):(flatK enc k d.toArray).toList=d.flatMap enc:=by
 have hL:∀ l ∈ d.map enc,l.length=k:=fun l hl=>by obtain ⟨a,_,rfl⟩:=XJ.1 hl;exact hk a
 apply Wk
 intro t
 rw [List.flatMap_def]
 have e:t=t / k*k+t % k:=by rw [Nat.mul_comm];exact (Nat.div_add_mod t k).symm
 have hm:=Nat.mod_lt t hk0
 have h2:((d.map enc).flatten)[t]?=((d.map enc)[t / k]?).bind (·[t % k]?):=by
  have:=ZoO (i:=t / k) (c:=t % k) hL hm
  rwa [<-e] at this
 rw [h2]
 by_cases ht:t < d.length*k
 ·have hi:t / k < d.length:=Nat.div_lt_of_lt_mul (by rwa [Nat.mul_comm] at ht)
  have hz:(flatK enc k d.toArray).size=d.length*k:=by rw [size_flatK];rfl
  have hg:=get_flatK enc k d.toArray t (by simpa using ht)
  rw [WQ,Xaq (by rw [hz];exact ht)]
  rw [getElem!_pos _ t (by rw [hz];exact ht)] at hg
  rw [hg,XY,Xu hi]
  have e2:(d.toArray[t / k]!)=d[t / k]:=by simp [hi]
  rw [e2]
  simp only [XZ,XR]
  have hl:=hk d[t / k]
  rw [getElem!_pos _ _ (by omega),Xu (by omega)]
 ·have hd:d.length<=t / k:=(Nat.le_div_iff_mul_le hk0).2 (by omega)
  rw [X0 (by rw [X1,size_flatK];simpa using ht),X0 (by simpa using hd)]
  rfl
theorem Zrx {α:Type} {g:AVal->Option α}:∀ {xs:List AVal} {zs:List α} {i:Nat} {x:AVal},Zcv g xs=some zs->xs[i]?=some x->∃ a,zs[i]?=some a/\g x=some a
 | [],zs,i,x,_,hx=>by simp at hx
 | y::xs,zs,i,x,h,hx=>by
  simp only [Zcv] at h
  split at h
  ·rename_i a ha
   simp only [Xq] at h
   obtain ⟨zs',h,rfl⟩:=h
   cases i with
   | zero=>simp only [XO,Xa] at hx;subst hx;exact ⟨a,rfl,ha⟩
   | succ i=>simp only [X3] at hx ⊢;exact Zrx h hx
  ·cases h
theorem ZFV {κ:Type} [DecidableEq κ] [Inhabited κ] {k g f:Nat} {key:AVal->Option κ} {cf:κ->κ->Int} {pre:κ->List Value} {m:Nat} (hf:∃ fn,P.funcs[f]?=some fn/\fn.body.isSome=true/\(fn.name == "runtime.NumGoroutine")=false)
  (hm:m<=k) (hk0:0 < k) (hg0:g < 1000000) (hpre:∀ a,(pre a).length=m/\∀ v ∈ pre a,v.oneCell'=true)
  (hkey:∀ {I:Imm} {β:Bmap} (x:AVal) (a:κ) (l:List Value),key x=some a->VRs I β x.cells l->∃ t,l=pre a++t)
  (hcmp:∀ (a b:κ) (us vs:List Value) (W:World),m+us.length=k->m+vs.length=k->Calls P g #[.agg (pre a++us).toArray,.agg (pre b++vs).toArray] W fun e w'=>e=.returned (.int .i64 (cf a b))/\∃ q os',w'=grow (W.drewN q) os')
  (hsort:∀ (enc:κ->List Value),(∀ x,(enc x).length=k)->(∀ x,∀ v ∈ enc x,v.oneCell'=true)->∀ (blk off cap:Nat) (d:Array κ) (w:World),CmpLays P g #[] enc k cf blk off d.size w->HoldsK enc k w blk off d->blk < w.heap.size->d.size < 4611686018427387904 ->
   Calls P f #[.slice (some ⟨blk,off,none⟩) d.size cap,.func (.func g) #[] #[]] w fun e w'=>e=.returned (.tuple #[])/\∃ n os,w'=sortWorldK enc k w blk off n (d.toList.mergeSort (leC cf)).toArray os)
  (hnone:∀ (p:Option Addr) (cap:Nat) (fv:Value) (w:World),Calls P f #[.slice p 0 cap,fv] w fun e w'=>e=.returned (.tuple #[])/\w'=w)
  {args:List AVal} {σ σ':Za} {r:AVal} (hp:Zfv k g key cf args σ=some (r,σ')) :
  (∃ fn,P.funcs[f]?=some fn/\fn.body.isSome=true/\(fn.name == "runtime.NumGoroutine")=false) /\
  ∀ base w0 I0 I β w (vs:Array Value),KLt base w0->Rel base w0 I0 I β σ w->VRs I β args vs.toList ->
   Calls P f vs w (fun e w'=>∃ u,Ends r e u/\Zcm σ.length base w0 I0 I β r σ' u w'):=by
 refine ⟨hf,fun base w0 I0 I β w vs hb R hv=>?_⟩
 unfold Zfv at hp
 obtain ⟨vs⟩:=vs
 split at hp
 ·rename_i n f' k' xs
  split at hp
  case h_2=>cases hp
  rename_i ks hz
  split at hp
  case isFalse=>cases hp
  rename_i hn
  obtain ⟨rfl,hn,rfl,rfl,hnd⟩:=hn
  simp only [Xa,Xb] at hp
  obtain ⟨rfl,rfl⟩:=hp
  simp only [VRs] at hv
  obtain ⟨v,vs',rfl,hv,fv,vs'',rfl,hfv,rfl⟩:=hv
  have hfv':fv=.func (.func f') #[] #[]:=by
   simp only [VR,if_pos hg0,VRs] at hfv
   obtain ⟨fs,us,rfl,rfl,h⟩:=hfv
   have : us=#[]:=by
    have:=congrArg List.length h
    simp at this
    exact this
   rw [this]
  subst hfv'
  have hzl:=Zsi hz
  have hB:=R.blk 0 _ rfl
  obtain ⟨bi,e1,e2,e3,e4,e5,e6,e7,e8⟩:=hB
  rw [ZcS] at hv
  obtain ⟨bi',f1,f2,f3,f4⟩:=hv
  rw [e1] at f1
  injection f1 with f1
  subst f1
  rcases f4 with ⟨b,hb',rfl⟩ | ⟨hbn,hc0,A,rfl⟩
  ·rcases e8 with ⟨e8,_⟩ | ⟨b2,us,ty,q1,q2,q3,q4⟩
   ·rw [e8] at hb';cases hb'
   rw [hb'] at q1;injection q1 with q1;subst q1
   obtain ⟨VS,v1,v2,v3,v4⟩:=Zpw e7 q4
   let enc:κ->List Value:=fun a=>((ks.zip VS).lookup a).getD (pre a++XK (k' - m) (.int .i64 0))
   have hmem:∀ a l,(ks.zip VS).lookup a=some l->l ∈ VS/\∃ (i:Nat) (x:AVal),xs[i]?=some x/\ks[i]?=some a/\VS[i]?=some l:=by
    have key:∀ (ks:List κ) (VS:List (List Value)) a l,(ks.zip VS).lookup a=some l->∃ i:Nat,ks[i]?=some a/\VS[i]?=some l:=by
     intro ks
     induction ks with
     | nil=>intro VS a l h;simp at h
     | cons b ks ih =>
      intro VS a l h
      cases VS with
      | nil=>simp at h
      | cons y VS =>
       rw [Wi,XN] at h
       by_cases e:a=b
       ·subst e;simp only [beq_self_eq_true,Xa] at h;subst h;exact ⟨0,rfl,rfl⟩
       ·have : (a == b)=false:=by simpa using e
        rw [this] at h
        obtain ⟨i,h1,h2⟩:=ih VS a l h
        exact ⟨i+1,by simpa using h1,by simpa using h2⟩
    intro a l h
    obtain ⟨i,h1,h2⟩:=key ks VS a l h
    have hi:i < xs.length:=by have:=(Xc.1 h2).1;omega
    exact ⟨XA h2,i,xs[i],Xu hi,h1,h2⟩
   have henc:∀ a,(∃ (i:Nat) (x:AVal),xs[i]?=some x/\ks[i]?=some a/\VS[i]?=some (enc a)/\(ks.zip VS).lookup a=some (enc a))\/enc a=pre a++XK (k' - m) (.int .i64 0):=by
    intro a
    cases h:(ks.zip VS).lookup a with
    | none=>exact XD (by simp only [enc,h];rfl)
    | some l =>
     obtain ⟨_,i,x,h1,h2,h3⟩:=hmem a l h
     refine Xw ⟨i,x,h1,h2,?_,?_⟩ <;> simp only [enc,h,WE] <;> assumption
   have hpr:∀ a,∃ t,enc a=pre a++t:=by
    intro a
    rcases henc a with ⟨i,x,h1,h2,h3,_⟩ | h
    ·obtain ⟨a',k1,k2⟩:=Zrx hz h1
     rw [h2] at k1;injection k1 with k1;subst k1
     obtain ⟨l,l1,l2⟩:=v4 i x h1
     rw [h3] at l1;injection l1 with l1;subst l1
     exact hkey x _ _ k2 l2
    ·exact ⟨_,h⟩
   have hk:∀ a,(enc a).length=k':=by
    intro a
    rcases henc a with ⟨i,x,h1,h2,h3,_⟩ | h
    ·exact v3 _ (XA h3)
    ·rw [h,XL,(hpre a).1,List.length_replicate];omega
   have h1c:∀ a,∀ v ∈ enc a,v.oneCell'=true:=by
    intro a v hv
    rcases henc a with ⟨i,x,h1,h2,h3,_⟩ | h
    ·obtain ⟨l,l1,l2⟩:=v4 i x h1
     rw [h3] at l1;injection l1 with l1;subst l1
     refine Zhb (fun c hc=>?_) l2 v hv
     have:=(ZcG.1 e6) x (XA h1)
     exact Zjy ((Zdd.1 this) c hc)
    ·rw [h] at hv
     rcases Xz.1 hv with hv | hv
     ·exact (hpre a).2 v hv
     ·rw [List.mem_replicate] at hv;rw [hv.2];rfl
   have hall:ks.map enc=VS:=by
    apply Wk
    intro i
    rw [XY]
    by_cases hi:i < xs.length
    ·obtain ⟨a,ha⟩:∃ a,ks[i]?=some a:=⟨_,Xu (by omega)⟩
     obtain ⟨l,hl⟩:∃ l,VS[i]?=some l:=⟨_,Xu (by omega)⟩
     rw [ha,hl,XZ]
     congr 1
     simp only [enc,ZhD hnd ha hl,WE]
    ·rw [X0 (by omega),X0 (by omega)];rfl
   have hflat:(flatK enc k' ks.toArray).toList=us.toList.take (xs.length*k'):=by
    rw [Zr8 hk hk0,List.flatMap_def,hall,<-v1]
   have hH:HoldsK enc k' w b 0 ks.toArray:=by
    intro j hj
    refine ⟨?_,by simp [World.frozen?,q2]⟩
    have hj':j < ks.length*k':=by simpa using hj
    rw [hzl] at hj'
    have h1:(us.toList.take (xs.length*k'))[j]?=(flatK enc k' ks.toArray).toList[j]?:=by rw [hflat]
    rw [List.getElem?_take_of_lt hj'] at h1
    simp only [World.cell?,q2,XM]
    simp only [XaG,Xi,if_false]
    rw [<-WQ,h1,WQ,Xaq hj]
    have e:=getElem!_pos (flatK enc k' ks.toArray) j hj
    rw [e];rfl
   have hlt:b < w.heap.size:=(XG.1 q2).1
   have hcl:CmpLays P f' #[] enc k' cf b 0 ks.toArray.size w:=by
    intro q os dk _ x y
    obtain ⟨t1,ht1⟩:=hpr x
    obtain ⟨t2,ht2⟩:=hpr y
    have l1:=hk x
    have l2:=hk y
    rw [ht1,XL,(hpre x).1] at l1
    rw [ht2,XL,(hpre y).1] at l2
    rw [ht1,ht2]
    simpa using hcmp x y t1 t2 _ l1 l2
   have hS:=hsort enc hk h1c b 0 bi.cap ks.toArray w hcl hH hlt (by simp;omega)
   rw [show ks.toArray.size=xs.length by simp [hzl]] at hS
   refine hS.mono ?_
   rintro e w' ⟨rfl,nn,os,rfl⟩
   simp only [List.toList_toArray] at *
   have hml:(ks.mergeSort (leC cf)).length=ks.length:=List.length_mergeSort ks
   unfold sortWorldK putRowK
   have hsz:(flatK enc k' (ks.mergeSort (leC cf)).toArray).size=xs.length*k':=by rw [size_flatK];simp [hml,hzl]
   have hcap:xs.length*k'<=us.size:=by rw [q3];exact Nat.mul_le_mul_right k' e5
   generalize hfl:flatK enc k' (ks.mergeSort (leC cf)).toArray=FL at *
   have hfll:FL.toList=(ks.mergeSort (leC cf)).flatMap enc:=by rw [<-hfl,Zr8 hk hk0]
   have hheap:(grow (putRow id (Sort.ahead w nn) b 0 FL) os).heap[b]?=some (.cells (putCells id 0 FL us) ty (0,0)):=by
    rw [heap_grow_old _ _ (by simpa using hlt)]
    simp [putRow,mapBlock,Sort.ahead,Xam,q2,onCells]
   have htake:(putCells id 0 FL us).toList.take (xs.length*k')=(ks.mergeSort (leC cf)).flatMap enc:=by
    rw [<-hfll]
    apply Wk
    intro j
    by_cases hj:j < xs.length*k'
    ·rw [List.getElem?_take_of_lt hj,WQ,WQ]
     have hj2:j < us.size:=by omega
     have hj3:j < FL.size:=by omega
     simp [putCells,hj2,hj3]
    ·rw [List.getElem?_take_eq_none (by omega),X0 (by simp;omega)]
   have hperm:∀ a,a ∈ ks.mergeSort (leC cf)->a ∈ ks:=fun a ha=>(XaV ks _).mem_iff.1 ha
   have hown:Zk w β 0 (.row 0 k' xs) b:=by simp [Zk,e1,hb']
   have hlk:∀ a ∈ ks,∃ x ∈ xs,((ks.zip xs).lookup a).getD .nilp=x/\VRs I β x.cells (enc a):=by
    intro a ha
    obtain ⟨i,hi⟩:=WP.1 ha
    have hix:i < xs.length:=by have:=(Xc.1 hi).1;omega
    obtain ⟨x,hx⟩:∃ x,xs[i]?=some x:=⟨_,Xu hix⟩
    obtain ⟨l,l1,l2⟩:=v4 i x hx
    refine ⟨x,XA hx,by rw [ZhD hnd hi hx];rfl,?_⟩
    simp only [enc,ZhD hnd hi l1,WE]
    exact l2
   refine ⟨.tuple #[],rfl,I,β,Imm.le.refl I,KeptE.refl _ β,?_,by simp [ZaL,VR,VRs]⟩
   have:=R.putAt (R.base_le hb) (t:=0) (b:=b) (x:=.row 0 k' xs) (x':=.row 0 k' (Zd9 cf xs ks)) (w':=grow (putRow id (Sort.ahead w nn) b 0 FL) os) rfl hown (by simp [Zk,e1,hb']) rfl rfl rfl rfl (by simp) (fun c hc hcl=>by
    rw [heap_grow_old _ _ (by simpa using hcl)]
    have : b≠c:=fun e=>hc e.symm
    simp [putRow,mapBlock,Sort.ahead,Xam,this])
    ⟨bi,e1,e2,hk0,e4,by simp only [Zd9,ZeZ,WC,hml];omega,?_,?_,XD ⟨b,_,ty,hb',hheap,by simp [putCells];omega,?_⟩⟩
   ·exact this
   ·rw [ZcG]
    intro x hx
    obtain ⟨a,ha,rfl⟩:=XJ.1 hx
    rw [ZeZ] at ha
    obtain ⟨y,hy,e,_⟩:=hlk a (hperm a ha)
    rw [e]
    exact (ZcG.1 e6) y hy
   ·intro x hx
    obtain ⟨a,ha,rfl⟩:=XJ.1 hx
    rw [ZeZ] at ha
    obtain ⟨y,hy,e,_⟩:=hlk a (hperm a ha)
    rw [e]
    exact e7 y hy
   ·have e9:(Zd9 cf xs ks).length=xs.length:=by simp only [Zd9,ZeZ,WC,hml];omega
    rw [e9,htake]
    unfold Zd9
    rw [ZeZ]
    have key:∀ l:List κ,(∀ a ∈ l,a ∈ ks)->VRs I β ((l.map fun a=>((ks.zip xs).lookup a).getD .nilp).flatMap AVal.cells) (l.flatMap enc):=by
     intro l
     induction l with
     | nil=>intro _;simp [VRs]
     | cons a l ih =>
      intro hl
      rw [XI,XT,XT]
      obtain ⟨y,hy,e,h⟩:=hlk a (hl a (by simp))
      rw [e]
      exact Zb8 h (ih fun c hc=>hl c (by simp [hc]))
    exact key _ hperm
  ·have hx0:xs=[]:=X7 (by omega)
   subst hx0
   simp only [Zcv,Xa] at hz
   subst hz
   refine (hnone A 0 _ w).mono ?_
   rintro e w' ⟨rfl,rfl⟩
   exact ⟨.tuple #[],rfl,I,β,Imm.le.refl I,KeptE.refl _ β,by simpa [Zd9,Zgs] using R,by simp [ZaL,VR,VRs]⟩
 ·simp only [Xa,Xb] at hp
  obtain ⟨rfl,rfl⟩:=hp
  simp only [VRs] at hv
  obtain ⟨v,vs',rfl,hv,fv,vs'',rfl,hfv,rfl⟩:=hv
  simp only [VR] at hv
  obtain ⟨A,cap,rfl,_⟩:=hv
  refine (hnone A cap fv w).mono ?_
  rintro e w' ⟨rfl,rfl⟩
  exact ⟨.tuple #[],rfl,I,β,Imm.le.refl I,KeptE.refl _ β,R,by simp [ZaL,VR,VRs]⟩
 ·cases hp
end
end
section
open Go.RowKit Go.Sort Go.Lib
def ZcY (a b:List UInt8):Int:=if a < b then -1 else if b < a then 1 else 0
def Zbc (x y:List UInt8×List UInt8):Int:=if ZcY x.1 y.1≠0 then ZcY x.1 y.1 else ZcY x.2 y.2
def lt2 (x y:List UInt8×List UInt8):Prop:=x.1 < y.1\/x.1=y.1/\x.2 < y.2
theorem ZrH (a b:List UInt8):ZcY a b < 0↔a < b:=by
 unfold ZcY;split
 ·simp [*]
 ·split <;> simp [*]
theorem Zpz (a b:List UInt8):ZcY a b=0↔a=b:=by
 unfold ZcY
 constructor
 ·intro h
  split at h
  ·cases h
  ·rename_i h1
   split at h
   ·cases h
   ·rename_i h2
    exact Xbe (XaW.1 h2) (XaW.1 h1)
 ·rintro rfl
  simp [Xbr]
theorem ZeE (x y:List UInt8×List UInt8):Zbc x y < 0↔lt2 x y:=by
 unfold Zbc lt2
 by_cases h:ZcY x.1 y.1=0
 ·have e:=(Zpz _ _).1 h
  rw [if_neg (by simp [h]),ZrH]
  constructor
  ·exact fun h'=>XD ⟨e,h'⟩
  ·rintro (h' | ⟨_,h'⟩)
   ·rw [e] at h';exact absurd h' (Xbr _)
   ·exact h'
 ·rw [if_pos h,ZrH]
  constructor
  ·exact Xw
  ·rintro (h' | ⟨e,_⟩)
   ·exact h'
   ·exact absurd ((Zpz _ _).2 e) h
theorem Zfe {x y z:List UInt8×List UInt8} (h:lt2 x y) (h':lt2 y z):lt2 x z:=by
 unfold lt2 at *
 rcases h with h | ⟨e,h⟩ <;> rcases h' with h' | ⟨e',h'⟩
 ·exact Xw (List.lt_trans h h')
 ·exact Xw (e' ▸ h)
 ·exact Xw (e ▸ h')
 ·exact XD ⟨e.trans e',List.lt_trans h h'⟩
theorem ZeR (x:List UInt8×List UInt8):¬lt2 x x:=by
 rintro (h | ⟨_,h⟩) <;> exact Xbr _ h
theorem Zep {x y:List UInt8×List UInt8} (h:¬lt2 x y) (h':¬lt2 y x):x=y:=by
 unfold lt2 at *
 have e1:x.1=y.1:=Xbe (XaW.1 fun h2=>h' (Xw h2)) (XaW.1 fun h2=>h (Xw h2))
 have e2:x.2=y.2:=Xbe (XaW.1 fun h2=>h' (XD ⟨e1.symm,h2⟩)) (XaW.1 fun h2=>h (XD ⟨e1,h2⟩))
 exact Prod.ext e1 e2
instance:DecidableRel lt2:=fun x y=>by unfold lt2;infer_instance
theorem ZiR (x y:List UInt8×List UInt8):ltOf Zbc x y=decide (lt2 x y):=by
 unfold ltOf
 by_cases h:lt2 x y
 ·rw [decide_eq_true ((ZeE x y).2 h),decide_eq_true h]
 ·rw [decide_eq_false (fun h'=>h ((ZeE x y).1 h')),decide_eq_false h]
theorem ZDY:SWO (ltOf Zbc) where
 irrefl x:=by rw [ZiR];simpa using ZeR x
 trans x y z h1 h2:=by
  rw [ZiR] at *
  simp only [decide_eq_true_eq] at *
  exact Zfe h1 h2
 ntrans x y z h1 h2:=by
  rw [ZiR] at *
  simp only [decide_eq_false_iff_not] at *
  intro h
  by_cases e:lt2 y x
  ·exact h2 (by
    by_cases e2:lt2 z y
    ·exact absurd (Zfe (Zfe h e2) e) (ZeR _)
    ·by_cases e3:lt2 y z
     ·exact e3
     ·have:=Zep e2 e3;subst this;exact absurd (Zfe h e) (ZeR _))
  ·have:=Zep h1 e;subst this;exact h2 h
theorem ZDu (x y:List UInt8×List UInt8) (h1:ltOf Zbc x y=false) (h2:ltOf Zbc y x=false):x=y:=by
 rw [ZiR] at *
 simp only [decide_eq_false_iff_not] at *
 exact Zep h1 h2
def Zds:AVal->Option (List UInt8×List UInt8)
 | .agg (.str a::.str b::_)=>some (a,b)
 | _=>none
end
section
open Go.RowKit Go.Sort
theorem Zsq {x y:List UInt8×List UInt8} (h:lt2 x y):leC Zbc x y=true:=by
 unfold leC
 have : ¬lt2 y x:=fun h'=>ZeR _ (Zfe h h')
 simp only [ZeE,this,decide_false,Bool.not_false]
theorem ZiQ {x y:List UInt8×List UInt8} (h:leC Zbc x y=true):¬lt2 y x:=by
 unfold leC at h
 simpa only [ZeE,Wg,decide_eq_false_iff_not] using h
theorem ZoP (a b c:List UInt8×List UInt8) (h1:leC Zbc a b=true) (h2:leC Zbc b c=true):leC Zbc a c=true:=by
 have h1:=ZiQ h1
 have h2:=ZiQ h2
 by_cases e:lt2 a c
 ·exact Zsq e
 ·by_cases e2:lt2 c a
  ·exfalso
   by_cases e3:lt2 a b
   ·exact h2 (Zfe e2 e3)
   ·have:=Zep e3 h1;subst this;exact h2 e2
  ·have:=Zep e e2;subst this
   unfold leC;simp [ZeE,ZeR]
theorem Zpl (a b:List UInt8×List UInt8):(leC Zbc a b || leC Zbc b a)=true:=by
 by_cases e:lt2 a b
 ·simp [Zsq e]
 ·have : leC Zbc b a=true:=by unfold leC;simp [ZeE,e]
  simp [this]
theorem ZwS {a b:List (List UInt8×List UInt8)} (h:a.Perm b):Zgs (leC Zbc) a=Zgs (leC Zbc) b:=by
 rw [ZeZ,ZeZ]
 exact (((XaV _ _).trans h).trans (XaV _ _).symm).eq_of_pairwise (fun a b _ _ h1 h2=>Zep (ZiQ h2) (ZiQ h1)) (Xa0 ZoP Zpl a) (Xa0 ZoP Zpl b)
theorem Zg5 {α:Type} {g:AVal->Option α}:∀ {xs:List AVal} {ks:List α},Zcv g xs=some ks↔xs.map g=ks.map some
 | [],ks=>by
  simp only [Zcv,Xa,X9]
  constructor
  ·rintro rfl;rfl
  ·intro h;exact (List.map_eq_nil_iff.1 h.symm).symm
 | x::r,ks=>by
  simp only [Zcv,XI]
  cases hx:g x with
  | none =>
   simp only
   constructor
   ·intro h;cases h
   ·intro h;cases ks <;> simp at h
  | some a =>
   simp only [Xq]
   constructor
   ·rintro ⟨l,h,rfl⟩
    rw [Zg5.1 h];rfl
   ·intro h
    cases ks with
    | nil=>simp at h
    | cons b l =>
     simp only [XI,W7,Xa] at h
     obtain ⟨rfl,h⟩:=h
     exact ⟨l,Zg5.2 h,rfl⟩
theorem ZrQ {α:Type}:∀ ks:List α,(ks.map some).filterMap id=ks
 | []=>rfl
 | a::ks=>by
  simp only [XI,Wx,id_eq]
  rw [ZrQ ks]
theorem Zpo {α:Type} {g:AVal->Option α} {xs ys:List AVal} {ks:List α} (hp:xs.Perm ys) (h:Zcv g xs=some ks):∃ ls,Zcv g ys=some ls/\ks.Perm ls:=by
 have h1:=Zg5.1 h
 have h2:(ys.map g).Perm (ks.map some):=by rw [<-h1];exact (hp.map g).symm
 refine ⟨(ys.map g).filterMap id,Zg5.2 ?_,?_⟩
 ·have : ∀ o ∈ ys.map g,o.isSome=true:=fun o ho=>by
   obtain ⟨a,_,rfl⟩:=XJ.1 (h2.mem_iff.1 ho)
   rfl
  generalize ys.map g=L at this
  induction L with
  | nil=>rfl
  | cons o L ih =>
   cases o with
   | none=>have:=this none (by simp);cases this
   | some a =>
    simp only [Wx,id_eq,XI]
    rw [<-ih (fun o ho=>this o (by simp [ho]))]
 ·have:=h2.filterMap id
  rw [ZrQ ks] at this
  exact this.symm
def ZfQ (xs:List AVal):Option (List AVal):=match Zcv Zds xs with
 | some ks=>if ks.Nodup then some (Zd9 Zbc xs ks) else none
 | none=>none
theorem Zox {κ:Type} [DecidableEq κ] {g:AVal->Option κ} {xs:List AVal} {ks:List κ} (h:Zcv g xs=some ks) (hn:ks.Nodup) {x:AVal} {a:κ} (hx:x ∈ xs) (ha:g x=some a):(ks.zip xs).lookup a=some x:=by
 obtain ⟨i,hi⟩:=WP.1 hx
 have h1:=Zg5.1 h
 have h2:ks[i]?=some a:=by
  have h3:(ks.map some)[i]?=some (some a):=by rw [<-h1,XY,hi,XZ,ha]
  rw [XY,Xq] at h3
  obtain ⟨b,h4,h5⟩:=h3
  injection h5 with h5
  rw [h4,h5]
 exact ZhD hn h2 hi
theorem Zv0 {xs ys:List AVal} (hp:xs.Perm ys):ZfQ xs=ZfQ ys:=by
 unfold ZfQ
 cases hx:Zcv Zds xs with
 | none =>
  cases hy:Zcv Zds ys with
  | none=>rfl
  | some ls =>
   obtain ⟨ks,h,_⟩:=Zpo hp.symm hy
   rw [hx] at h;cases h
 | some ks =>
  obtain ⟨ls,hy,hkl⟩:=Zpo hp hx
  rw [hy]
  simp only
  by_cases hn:ks.Nodup
  ·have hn':ls.Nodup:=hkl.nodup_iff.1 hn
   rw [if_pos hn,if_pos hn']
   congr 1
   unfold Zd9
   rw [ZwS hkl]
   apply List.map_congr_left
   intro a ha
   rw [ZeZ,List.mem_mergeSort] at ha
   have ha':some a ∈ ys.map Zds:=by rw [Zg5.1 hy];exact XJ.2 ⟨a,ha,rfl⟩
   obtain ⟨y,hy1,hy2⟩:=XJ.1 ha'
   rw [Zox hy hn' hy1 hy2,Zox hx hn (hp.mem_iff.2 hy1) hy2]
  ·rw [if_neg hn,if_neg (fun h=>hn (hkl.nodup_iff.2 h))]
def Zp2 (q:Bag):Option (List AVal):=Quot.lift ZfQ (fun _ _ h=>Zv0 h) q
def Zgf (f:Nat) (args:List AVal) (σ:Za):Option (AVal×Za):=match args,σ with
 | [.sl 0 0 0 n,.fn f' []],[.bag 0 k' q]=>match Zp2 q with
  | some L=>if n=ZaB q/\n < 4611686018427387904/\k'=3/\f'=f then some (.tup [],[.row 0 3 L]) else none
  | none=>none
 | a,s=>Zfv 3 f Zds Zbc a s
theorem ZqL {f n f' k':Nat} {xs:List AVal} {r:AVal} {σ':Za} (h:Zgf f [.sl 0 0 0 n,.fn f' []] [.bag 0 k' (Quot.mk _ xs)]=some (r,σ')):Zfv 3 f Zds Zbc [.sl 0 0 0 n,.fn f' []] [.row 0 k' xs]=some (r,σ'):=by
 simp only [Zgf] at h
 split at h
 case h_2=>cases h
 rename_i L hL
 split at h
 case isFalse=>cases h
 rename_i hc
 obtain ⟨h1,h2,rfl,rfl⟩:=hc
 have hL:ZfQ xs=some L:=hL
 have h1:n=xs.length:=h1
 unfold ZfQ at hL
 split at hL
 case h_2=>cases hL
 rename_i ks hk
 split at hL
 case isFalse=>cases hL
 rename_i hn
 injection hL with hL
 subst hL
 simp only [Zfv,hk]
 rw [if_pos ⟨h1,h2,trivial,trivial,hn⟩]
 exact h
section
variable {P:Program} {base:Nat->Prop} {w0 w:World} {I0 I:Imm} {β:Bmap}
theorem ZCQ {F f:Nat}
  (hrow:∀ {args:List AVal} {σ σ':Za} {r:AVal},Zfv 3 f Zds Zbc args σ=some (r,σ') ->
   (∃ fn,P.funcs[F]?=some fn/\fn.body.isSome=true/\(fn.name == "runtime.NumGoroutine")=false) /\
   ∀ base w0 I0 I β w (vs:Array Value),KLt base w0->Rel base w0 I0 I β σ w->VRs I β args vs.toList->Calls P F vs w (fun e w'=>∃ u,Ends r e u/\Zcm σ.length base w0 I0 I β r σ' u w'))
  {args:List AVal} {σ σ':Za} {r:AVal} (hp:Zgf f args σ=some (r,σ')) :
   (∃ fn,P.funcs[F]?=some fn/\fn.body.isSome=true/\(fn.name == "runtime.NumGoroutine")=false) /\
   ∀ base w0 I0 I β w (vs:Array Value),KLt base w0->Rel base w0 I0 I β σ w->VRs I β args vs.toList->Calls P F vs w (fun e w'=>∃ u,Ends r e u/\Zcm σ.length base w0 I0 I β r σ' u w'):=by
 by_cases hb:∃ n f' k' q,args=[.sl 0 0 0 n,.fn f' []]/\σ=[.bag 0 k' q]
 ·obtain ⟨n,f',k',q,rfl,rfl⟩:=hb
  obtain ⟨xs,rfl⟩:=Quot.exists_rep q
  refine ⟨(hrow (ZqL hp)).1,fun base w0 I0 I β w vs hK R hv=>?_⟩
  obtain ⟨ys,hq,R'⟩:=R.unbag (t:=0) rfl
  rw [<-hq] at hp
  exact (hrow (ZqL hp)).2 base w0 I0 I β w vs hK R' hv
 ·have : Zfv 3 f Zds Zbc args σ=some (r,σ'):=by
   rw [<-hp]
   unfold Zgf
   split
   ·exact absurd ⟨_,_,_,_,rfl,rfl⟩ hb
   ·rfl
  exact hrow this
end
end
section
def Zmu (args:List AVal) (σ:Za):Option (AVal×Za):=match args,σ with
 | [],[]=>some (.nref 0 0 0,[.arena [([],[])]])
 | _,_=>none
section
variable {base:Nat->Prop} {w0 w:World} {I0 I:Imm} {β:Bmap}
theorem Rel.arena1 (R:Rel base w0 I0 I β [.var [.map 1,.map 2],.map [],.map []] w):∃ β',Rel base w0 I0 I β' [.arena [([],[])]] w/\∀ v,VR I β (.ref 0 0) v->VR I β' (.nref 0 0 0) v:=by
 obtain ⟨bs,k0,c0,us,ty,h0,a1,a2⟩:=R.blk 0 _ rfl
 obtain ⟨bv,k1,c1,arr,clk,h1,b1,b2,b3,b4,b5⟩:=R.blk 1 _ rfl
 obtain ⟨bn,k2,c2,arr',clk',h2,d1,d2,d3,d4,d5⟩:=R.blk 2 _ rfl
 have o0:Zk w β 0 (.var [.map 1,.map 2]) bs:=by simp [Zk,h0]
 have o1:Zk w β 1 (.map []) bv:=by simp [Zk,h1]
 have o2:Zk w β 2 (.map []) bn:=by simp [Zk,h2]
 have n01:bs≠bv:=by rintro rfl;exact absurd (R.apart 0 _ 1 _ bs rfl rfl o0 o1) (by decide)
 have n02:bs≠bn:=by rintro rfl;exact absurd (R.apart 0 _ 2 _ bs rfl rfl o0 o2) (by decide)
 have n12:bv≠bn:=by rintro rfl;exact absurd (R.apart 1 _ 2 _ bv rfl rfl o1 o2) (by decide)
 let β':Bmap:=fun t g=>if t=0 then (if g=1001 then β 0 0 else if g=1002 then β 1 0 else if g=1003 then β 2 0 else none) else none
 have e0:β' 0 1001=some ⟨some bs,k0,c0⟩:=by show (if (0:Nat)=0 then _ else _)=_;simp [h0]
 have e1:β' 0 1002=some ⟨some bv,k1,c1⟩:=by show (if (0:Nat)=0 then _ else _)=_;simp [h1]
 have e2:β' 0 1003=some ⟨some bn,k2,c2⟩:=by show (if (0:Nat)=0 then _ else _)=_;simp [h2]
 have hg:∀ g,1001<=g->g < 1001+3*1->∃ b k c,β' 0 g=some ⟨some b,k,c⟩/\((g=1001/\b=bs)\/(g=1002/\b=bv)\/(g=1003/\b=bn)):=by
  intro g g1 g2
  have : g=1001\/g=1002\/g=1003:=by omega
  rcases this with rfl | rfl | rfl
  ·exact ⟨_,_,_,e0,Xw ⟨rfl,rfl⟩⟩
  ·exact ⟨_,_,_,e1,XD (Xw ⟨rfl,rfl⟩)⟩
  ·exact ⟨_,_,_,e2,XD (XD ⟨rfl,rfl⟩)⟩
 have hown:∀ b,Zbu β' 0 [([],[])] b->b=bs\/b=bv\/b=bn:=by
  rintro b ⟨g,g1,g2,h⟩
  obtain ⟨b',k,c,e,hb⟩:=hg g g1 g2
  rw [e] at h
  simp only [XR,Xa] at h
  subst h
  rcases hb with ⟨_,h⟩ | ⟨_,h⟩ | ⟨_,h⟩
  ·exact Xw h
  ·exact XD (Xw h)
  ·exact XD (XD h)
 have own:∀ b,Zbu β' 0 [([],[])] b->¬base b/\∀ o,I b o=none:=by
  intro b hb
  rcases hown b hb with rfl | rfl | rfl
  ·exact R.own 0 _ _ rfl o0
  ·exact R.own 1 _ _ rfl o1
  ·exact R.own 2 _ _ rfl o2
 have lk:∀ (t:Nat) (x:Zy),[Zy.arena [([],[])]][t]?=some x->t=0/\x=.arena [([],[])]:=by
  intro t x h
  cases t with
  | zero=>simp only [XO,Xa] at h;exact ⟨rfl,h.symm⟩
  | succ t=>simp at h
 have v2:us.toList=[.map (some bv),.map (some bn)]:=by
  simp only [VRs,VR] at a2
  obtain ⟨v,vs',e,⟨b,k,c,q1,rfl⟩,v',vs'',e',⟨b',k',c',q2,rfl⟩,rfl⟩:=a2
  rw [h1] at q1
  rw [h2] at q2
  simp only [Xa,BI.mk.injEq] at q1 q2
  rw [e,e',q1.1,q2.1]
 refine ⟨β',⟨R.below,R.old,R.imm,?_,?_,?_,?_,?_,?_,R.glob,?_⟩,?_⟩
 ·intro t x h
  obtain ⟨rfl,rfl⟩:=lk t x h
  refine ⟨fun i nd hi=>?_,fun g g' b a1 a2 a3 a4 h1 h2=>?_⟩
  ·cases i with
   | succ i=>simp at hi
   | zero =>
    simp only [XO,Xa] at hi
    subst hi
    simp only [X9,VRs] at b2 b3 d2 d3
    exact ⟨bs,k0,c0,us,ty,bv,k1,c1,arr,clk,bn,k2,c2,arr',clk',e0,e1,e2,⟨a1,v2⟩,⟨b1,by simpa only [X9,VRs] using b2,by simpa only [X9,VRs] using b3,(fun p hp=>absurd hp (by simp)),b5⟩,d1,by simpa only [X9,VRs] using d2,by simpa only [X9,VRs] using d3,(fun p hp=>absurd hp (by simp)),d5⟩
  ·obtain ⟨b1,_,_,q1,p1⟩:=hg g a1 a2
   obtain ⟨b2,_,_,q2,p2⟩:=hg g' a3 a4
   rw [q1] at h1;rw [q2] at h2
   simp only [XR,Xa] at h1 h2
   subst h1
   subst h2
   rcases p1 with ⟨rfl,r1⟩ | ⟨rfl,r1⟩ | ⟨rfl,r1⟩ <;> rcases p2 with ⟨rfl,r2⟩ | ⟨rfl,r2⟩ | ⟨rfl,r2⟩ <;> first
    | rfl
    | (exfalso;exact n01 (r1.symm.trans r2))
    | (exfalso;exact n01 (r2.symm.trans r1))
    | (exfalso;exact n02 (r1.symm.trans r2))
    | (exfalso;exact n02 (r2.symm.trans r1))
    | (exfalso;exact n12 (r1.symm.trans r2))
    | (exfalso;exact n12 (r2.symm.trans r1))
 ·intro t x b h hb
  obtain ⟨rfl,rfl⟩:=lk t x h
  exact own b hb
 ·intro t x t' x' b h h' _ _
  rw [(lk t x h).1,(lk t' x' h').1]
 ·intro t g h
  have ht:t≠0:=by rintro rfl;simp at h
  show (if t=0 then _ else none)=none
  rw [if_neg ht]
 ·intro t g h
  cases (lk t _ h).2
 ·intro t x g h hgt
  obtain ⟨rfl,rfl⟩:=lk t x h
  simp only [Zb,WD] at hgt
  show (if (0:Nat)=0 then _ else none)=none
  rw [if_pos rfl,if_neg (by omega),if_neg (by omega),if_neg (by omega)]
 ·intro t x b h hs
  obtain ⟨rfl,rfl⟩:=lk t x h
  cases hs
 ·intro v hv
  simp only [VR] at hv ⊢
  obtain ⟨b,k,c,q1,q2⟩:=hv
  refine ⟨b,k,c,?_,q2⟩
  rw [h0] at q1
  rw [<-q1]
  exact e0
end
end
section
def Zeo {α:Type} (d:α):List (Nat×α)->Nat->α
 | [],_=>d
 | (k,v)::r,n=>if k=n then v else Zeo d r n
def Zac (own raw:List Nat) (cfg cfg2:List (Nat×Nat×Bool)) (lr ll:List (Nat×List Nat)):Ann:={ own:=fun n=>if own.contains n then 1 else if raw.contains n then 2 else if raw.contains (n+1000000) then 3 else if raw.contains (n+2000000) then 4 else if raw.contains (n+3000000) then 5 else if raw.contains (n+4000000) then 6 else if raw.contains (n+5000000) then 7 else 0,cfg:=Zeo (0,true) cfg,cfg2:=Zeo (0,true) cfg2,lr:=Zeo [] lr,ll:=Zeo [] ll }
def ZEY:List (Nat×Ann):=[
 (63,Zac [] [] [] [] [(0,[1,0]),(1,[4])] []),
 (20,Zac [] [] [] [] [(0,[1,0]),(1,[6,1,0]),(2,[6]),(3,[4])] []),
 (21,Zac [] [] [] [] [(0,[1,0]),(1,[7,6]),(2,[5,4])] []),
 (24,Zac [] [] [] [] [(0,[0]),(1,[2])] []),
 (15,Zac [] [] [(36,0,false)] [] [(0,[1,0]),(1,[5,1,0]),(5,[20,11,7,6,5,1]),(6,[11,5,1]),(7,[4])] [(3,[11,5,1])]),
 (14,Zac [] [] [] [] [(0,[2,1,0]),(1,[9,2,1,0]),(2,[6]),(3,[]),(4,[6])] []),
 (10,Zac [] [] [] [] [(0,[2,1,0]),(1,[7,0]),(2,[16,7,0]),(3,[7]),(4,[6])] []),
 (26,Zac [] [] [(42,0,false)] [] [(0,[2,1,0]),(1,[8,2,1,0]),(2,[9,8,2]),(3,[20,9,8,2]),(4,[7,6]),(5,[11,10]),(6,[7,6])] []),
 (12,Zac [] [] [] [] [(0,[0]),(1,[2])] []),
 (11,Zac [] [] [(34,1,false),(36,0,false)] [] [(0,[1,0]),(1,[8,1,0]),(2,[4]),(3,[5,1,0]),(4,[5]),(5,[4])] []),
 (35,Zac [] [] [] [] [(0,[])] []),
 (9,Zac [] [] [] [] [(0,[3,2,1,0]),(1,[11,3,2,1,0]),(2,[8]),(3,[21,0]),(4,[]),(5,[8])] []),
 (27,Zac [] [] [(43,1,false),(36,0,false)] [] [(0,[3,0]),(1,[5,3,0]),(2,[5]),(3,[4])] []),
 (44,Zac [] [] [] [] [(0,[10,4,2,1,0]),(1,[])] []),
 (43,Zac [] [5000017,5000032] [(43,1,false)] [] [(3,[13,2,1,0]),(7,[28,2,1])] [(1,[13,2,1,0]),(5,[28,2,1])]),
 (32,Zac [] [] [] [] [(0,[2,1,0]),(1,[12,2,1,0]),(2,[8,2,0]),(3,[8]),(4,[6]),(5,[9,2,1,0]),(6,[45,9,1,0]),(7,[6]),(8,[57,1,0]),(9,[]),(10,[6])] []),
 (42,Zac [] [] [] [] [(0,[1,0]),(1,[9,8,7,0]),(2,[10,9,8,7,0]),(3,[9,8,7,6,0]),(4,[9,8,7,0]),(5,[20,9,8,7,0]),(6,[4]),(7,[9,8,7,0]),(8,[4])] [(2,[9,8,7,0])]),
 (34,Zac [] [5000035,5000054] [(34,1,false)] [] [(0,[10,4,3,2,1,0]),(1,[27,10,4,3,2,1,0]),(5,[31,4,3,2,1,0]),(6,[46,4,3,2,1,0]),(10,[50,4,1]),(11,[15,4,3,2,1,0]),(12,[71,15,4,3,2,1,0]),(13,[4,3,2,1,0]),(14,[16,4,3,2,1]),(15,[92,16,4,2,1]),(16,[])] [(3,[31,4,3,2,1,0]),(8,[50,4,1])]),
 (30,Zac [] [] [(28,1,false)] [] [(0,[3,2,1,0]),(1,[15,14,13,3,2,0]),(2,[16,15,14,13,3,2,0]),(3,[15,14,13,10,3,2,0]),(4,[25,15,14,13,10,3,2,0]),(5,[15,14,13,10,3,2,0]),(6,[15,14,13,3,2,0]),(7,[15,14,13,3,2,0]),(8,[12,3,2,0]),(9,[12]),(10,[8])] [(2,[15,14,13,3,2,0])]),
 (51,Zac [] [] [] [] [(0,[1,0]),(1,[5,1,0]),(2,[6,5,1,0]),(3,[11,6,1,0]),(4,[12]),(5,[4]),(6,[4]),(7,[13,1,0]),(8,[4]),(9,[16,1,0]),(10,[4]),(11,[19]),(12,[4]),(13,[4])] []),
 (58,Zac [] [] [] [] [(0,[0]),(1,[2])] []),
 (86,Zac [] [] [] [] [(0,[1,0]),(1,[5,1,0]),(2,[16,5,1,0]),(3,[4]),(4,[24,5,1,0]),(5,[4]),(6,[31]),(7,[4]),(9,[4]),(10,[6,5,1,0]),(11,[7,6,5,1,0]),(12,[8,7,6,5,1,0]),(13,[9,8,7,6,5,1,0]),(14,[10,9,8,7,6,5,1,0]),(15,[59,10,9,8,7,6,5,1,0]),(16,[64,10,9,8,7,6,5,1,0]),(17,[11,10,8,7,5,1,0]),(18,[73,11,10,8,7,5,1,0]),(19,[4]),(20,[10,8,7,5,1,0]),(21,[93,10,8]),(22,[4]),(23,[10]),(24,[]),(26,[12,8]),(27,[114,12,8]),(28,[4]),(29,[4]),(31,[13,8]),(32,[139,13,8]),(33,[4]),(34,[4]),(35,[4])] [(15,[10,9,8,7,6,5,1,0])]),
 (57,Zac [] [] [] [] [(0,[0]),(1,[2]),(2,[2])] []),
 (76,Zac [] [] [] [] [(0,[2,0]),(1,[4,2,0]),(2,[0]),(3,[2,0]),(4,[8,2,0]),(5,[2,0]),(6,[2,0]),(7,[2])] []),
 (77,Zac [] [] [] [] [(0,[2,0]),(1,[4,2,0]),(2,[0]),(3,[2,0]),(4,[8,2,0]),(5,[2,0]),(6,[2,0]),(7,[14,2,0]),(8,[2,0]),(9,[2,0]),(10,[2])] []),
 (54,Zac [] [] [] [] [(0,[0]),(1,[6,0]),(2,[8,7,6,0]),(3,[6,4,0]),(4,[11,6,0]),(5,[2]),(6,[2])] [(2,[6,0])]),
 (45,Zac [] [] [] [] [(0,[1,0]),(1,[4])] []),
 (67,Zac [] [] [] [] [(0,[1,0]),(1,[4])] []),
 (53,Zac [] [] [] [] [(0,[1,0]),(1,[12,1,0]),(2,[4]),(3,[15,1,0]),(4,[5,0]),(5,[20,5,0]),(6,[5,0]),(7,[4]),(8,[26,1,0]),(9,[7,6,1,0]),(10,[32,6,1,0]),(11,[8,6,0]),(12,[36,8,6,0]),(13,[8,6,0]),(14,[42,8,6,0]),(15,[4]),(16,[4]),(17,[45,1]),(18,[47,46,45,1]),(19,[45,10,9,1]),(20,[53,45,9,1]),(21,[4]),(22,[4])] [(12,[8,6,0]),(18,[45,1])]),
 (60,Zac [] [] [] [] [(0,[1,0]),(1,[7,0]),(2,[8,7,0]),(3,[9,8,7,0]),(4,[9,8,7,0]),(5,[26,9,8,7,0]),(6,[33,9,8,7,0]),(7,[11,9,8,7,0]),(8,[43,11,9,8,7,0]),(9,[4]),(10,[9,8,7,0]),(11,[12,9,8,7,0]),(12,[51,12,9,8,7,0]),(13,[12,9,8,7,0]),(14,[64,12,9,8,7,0]),(15,[4]),(16,[10,9,8,7,0]),(17,[10,9,8,7,0]),(18,[98,9,8,7,0]),(19,[4]),(20,[13,9,8]),(21,[108,13,9,8]),(22,[4]),(23,[14,9,8,7,0]),(24,[15,14,9,8,7,0]),(25,[124,15,14,9,8,7,0]),(26,[15,14,9,8,7,0]),(27,[139,15,14,9,8,7,0]),(28,[16,15,14,9,8,7,0]),(29,[143,16,15,14,9,8,7,0]),(30,[16,15,14,9,8,7,0]),(31,[156,16,15,14,9,8,7,0]),(32,[4]),(33,[4]),(34,[160,1,0]),(35,[4]),(36,[171,1,0]),(37,[175]),(38,[177,176,175]),(39,[175,6,5]),(40,[181,175,5]),(41,[4]),(42,[4]),(43,[183,1,0]),(44,[4])] [(5,[9,8,7,0]),(12,[12,9,8,7,0]),(25,[15,14,9,8,7,0]),(29,[16,15,14,9,8,7,0]),(38,[175])]),
 (47,Zac [] [] [] [] [(0,[1,0]),(1,[4])] []),
 (55,Zac [] [] [] [] [(0,[3,2,1,0]),(1,[13,3,2,1,0]),(2,[8]),(3,[15,3,2,1,0]),(4,[8]),(5,[20,3,2,1,0]),(6,[3,2,1,0]),(7,[3,2,1,0]),(8,[9,3,2,1,0]),(9,[9,3,2,1,0]),(10,[10,9,3,2,1,0]),(11,[36,10,9,3,2,1,0]),(12,[11,10,9,3,2,1,0]),(13,[41,11,10,9,3,2,1,0]),(14,[11,10,9,3,2,1,0]),(15,[10,9,3,2,1,0]),(16,[10,9,3,2,1,0]),(17,[10,9]),(18,[8])] [(11,[10,9,3,2,1,0])]),
 (62,Zac [] [] [] [] [(0,[2,0]),(1,[4,2,0]),(2,[9,4,2,0]),(3,[4,2,0]),(4,[5,4,2,0]),(5,[16,5,4,2,0]),(6,[3,2]),(7,[4,2,0]),(8,[3,2])] [(2,[4,2,0])]),
 (61,Zac [] [] [] [] [(0,[0]),(1,[2])] []),
 (5,Zac [] [] [(13,2,false)] [] [(0,[0]),(1,[3,0]),(2,[23,3,0]),(3,[2]),(4,[4,3,0]),(5,[5,4,3,0]),(6,[31,5,4,3,0]),(7,[5,4,3,0]),(8,[6,5,4,3,0]),(9,[40,6,5,4,3,0]),(10,[15,6,5,4,3,0]),(11,[16,15,6,5,4,3,0]),(12,[47,16,15,6,5,4,3,0]),(13,[16,15,6,5,4,3,0]),(14,[16,15,6,5,4,3,0]),(15,[68,5,4,3,0]),(16,[2]),(17,[69,40,6,5,4,3,0]),(18,[7,6,5,4,3,0]),(19,[74,7,6,5,4,3,0]),(20,[7,6,5,4,3,0]),(21,[7,6,5,4,3,0]),(22,[90,5,4,3,0]),(23,[2]),(24,[91,40,6,5,4,3,0]),(25,[9,8,6,5,3,0]),(26,[9,6,5,4,3,0]),(27,[106,5,4,3,0]),(28,[2]),(29,[107,6,5,4,3,0]),(30,[11,10,6,5,4,3,0]),(31,[13,12,11,10,6,5,4,3,0]),(32,[14,13,12,11,10,6,5,4,3,0]),(33,[119,14,13,12,11,10,6,5,4,3,0]),(34,[14,13,12,11,10,6,5,4,3,0]),(35,[129,14,13,12,11,10,6,5,4,3,0]),(36,[14,13,12,11,10,6,5,4,3,0]),(37,[142,5,4,3,0]),(38,[2]),(39,[147,5,4,3,0]),(40,[2]),(41,[2])] [(6,[5,4,3,0]),(12,[16,15,6,5,4,3,0]),(33,[14,13,12,11,10,6,5,4,3,0])]),
 (4,Zac [] [] [(13,2,false),(7,2,false)] [] [(0,[1,0]),(1,[6,5,1,0]),(2,[27,6,5,1,0]),(3,[4]),(4,[30,6,5,1,0]),(5,[6,5,1,0]),(6,[35,6,5,1,0]),(7,[6,5,1,0]),(8,[7,6,5,1,0]),(9,[41,7,6,5,1,0]),(10,[7,6,5,1,0]),(11,[7,6,5,1,0]),(12,[8,6,5,1,0]),(13,[54,8,6,5,1,0]),(14,[8,6,5,1,0]),(15,[8,6,5,1,0]),(16,[9,6,5,1,0]),(17,[67,9,6,5,1,0]),(18,[9,6,5,1,0]),(19,[10,9,6,5,1,0]),(20,[73,10,9,6,5,1,0]),(21,[10,9,6,5,1,0]),(22,[12,11,10,9,6,5,1,0]),(23,[13,12,11,10,9,6,5,1,0]),(24,[14,13,12,11,10,9,6,5,1,0]),(25,[85,14,13,12,11,10,9,6,5,1,0]),(26,[14,13,12,11,10,9,6,5,1,0]),(27,[14,13,12,11,10,9,6,5,1,0]),(28,[13,12,11,10,9,6,5,1,0]),(29,[15,13,12,11,10,9,6,5,1,0]),(30,[110,15,13,12,11,10,9,6,5,1,0]),(31,[15,13,12,11,10,9,6,5,1,0]),(32,[15,13,12,11,10,9,6,5,1,0]),(33,[128,10,9,6,5,1,0]),(34,[4]),(35,[4])] [(9,[7,6,5,1,0]),(13,[8,6,5,1,0]),(17,[9,6,5,1,0]),(20,[10,9,6,5,1,0]),(25,[14,13,12,11,10,9,6,5,1,0]),(30,[15,13,12,11,10,9,6,5,1,0])]),
 (3,Zac [] [] [(7,2,false)] [] [(0,[2,1,0]),(1,[8,7,2,1,0]),(2,[27,8,7,2,1,0]),(3,[6]),(4,[30,8,7,2,1,0]),(5,[8,7,2,1,0]),(6,[35,8,7,2,1,0]),(7,[8,7,2,1,0]),(8,[9,8,7,2,1,0]),(9,[41,9,8,7,2,1,0]),(10,[9,8,7,2,1,0]),(11,[9,8,7,2,1,0]),(12,[10,8,7,2,1,0]),(13,[65,10,8,7,2,1,0]),(14,[10,8,7,2,1,0]),(15,[10,8,7,2,1,0]),(16,[11,8,7,2,1,0]),(17,[79,11,8,7,2,1,0]),(18,[11,8,7,2,1,0]),(19,[11,8,7,2,1,0]),(20,[12,8,7,2,1]),(21,[103,12,8,7,2,1]),(22,[12,8,7,2,1]),(23,[12,8,7,2,1]),(24,[12,8,7,2,1]),(25,[14,13,8,7]),(26,[137,14,13]),(27,[6]),(28,[15,14,13]),(29,[141,15,14,13]),(30,[15,14,13]),(31,[152,15,14,13]),(32,[6]),(33,[6])] [(9,[9,8,7,2,1,0]),(13,[10,8,7,2,1,0]),(17,[11,8,7,2,1,0]),(21,[12,8,7,2,1]),(29,[15,14,13])]),
 (6,Zac [] [] [(7,2,false)] [] [(0,[0]),(1,[3,0]),(2,[25,3,0]),(3,[2]),(4,[4,3,0]),(5,[5,4,3,0]),(6,[33,5,4,3,0]),(7,[5,4,3,0]),(8,[6,5,4,3,0]),(9,[42,6,5,4,3,0]),(10,[17,6,5,4,3,0]),(11,[18,17,6,5,4,3,0]),(12,[49,18,17,6,5,4,3,0]),(13,[18,17,6,5,4,3,0]),(14,[18,17,6,5,4,3,0]),(15,[70,5,4,3,0]),(16,[2]),(17,[71,42,6,5,4,3,0]),(18,[7,6,5,4,3,0]),(19,[76,7,6,5,4,3,0]),(20,[7,6,5,4,3,0]),(21,[7,6,5,4,3,0]),(22,[96,5,4,3,0]),(23,[2]),(24,[97,42,6,5,4,3,0]),(25,[9,8,6,5,3,0]),(26,[9,6,5,4,3,0]),(27,[116,5,4,3,0]),(28,[2]),(29,[117,42,6,5,4,3,0]),(30,[11,10,6,5,4,3,0]),(31,[13,12,11,10,6,5,4,3,0]),(32,[14,13,12,11,10,6,5,4,3,0]),(33,[131,14,13,12,11,10,6,5,4,3,0]),(34,[14,13,12,11,10,6,5,4,3,0]),(35,[151,14,13,12,11,10,6,5,4,3,0]),(36,[14,13,12,11,10,6,5,4,3,0]),(37,[164,5,4,3,0]),(38,[2]),(39,[165,6,5,4,3,0]),(40,[15,6,5,4,3,0]),(41,[16,15,6,5,4,3,0]),(42,[173,16,15,6,5,4,3,0]),(43,[16,15,6,5,4,3,0]),(44,[16,15,6,5,4,3,0]),(45,[194,5,4,3,0]),(46,[2]),(47,[199,5,4,3,0]),(48,[2]),(49,[2])] [(6,[5,4,3,0]),(12,[18,17,6,5,4,3,0]),(33,[14,13,12,11,10,6,5,4,3,0]),(42,[16,15,6,5,4,3,0])]),
 (23,Zac [] [] [] [] [(0,[2,1,0]),(1,[7,2,1,0]),(2,[8,7,2,1,0]),(3,[12,8,7,2,1,0]),(4,[8,7,2,1,0]),(5,[19,8,7,2,1,0]),(6,[46,8,7,2,1,0]),(7,[6]),(8,[8,7,2,1,0]),(9,[6])] [(3,[8,7,2,1,0])]),
 (40,Zac [] [] [] [] [(0,[3,2]),(1,[4])] []),
 (18,Zac [] [] [] [] [(0,[0]),(1,[2])] []),
 (17,Zac [] [] [] [] [(0,[3,0]),(1,[5,3,0]),(2,[18,5,3,0]),(3,[5,3,0]),(4,[6,5,3,0]),(5,[6,5,3,0]),(6,[52,6,5,0]),(7,[6,5,0]),(8,[4])] [(2,[5,3,0])]),
 (8,Zac [] [] [(7,2,false)] [] [(0,[]),(1,[1]),(2,[7,1]),(3,[0]),(4,[2,1]),(5,[3,2,1]),(6,[4,3,2]),(7,[0])] []),
 (19,Zac [] [] [] [] [(0,[2,1,0]),(1,[8,2,1,0]),(2,[13,8,2,1,0]),(3,[8,2,1,0]),(4,[31,8,2,1,0]),(5,[9,8,0]),(6,[7,6]),(7,[7,6])] [(2,[8,2,1,0])]),
 (52,Zac [] [] [] [] [(0,[0]),(1,[6,0]),(2,[4,3,0]),(3,[17,4,0]),(4,[2]),(5,[0]),(6,[2])] [(1,[0])]),
 (59,Zac [] [] [] [] [(0,[0]),(1,[4,0]),(2,[4,0]),(3,[3,2]),(4,[11,4,0]),(5,[3,2]),(6,[15,4,0]),(7,[6,5,4,0]),(8,[24,4,0]),(9,[6,5,4,0]),(10,[33,4,0]),(11,[6,5,4,0]),(12,[45,6,5,4,0]),(13,[3,2]),(14,[7,6,5,4,0]),(15,[48,7,6,5,4,0]),(16,[7,6,5,4,0]),(17,[60,7,6,5,4,0]),(18,[3,2]),(19,[7,6,5,4,0]),(20,[83,5,4]),(21,[3,2]),(22,[3,2])] [(15,[7,6,5,4,0])]),
 (25,Zac [] [] [] [] [(0,[0]),(1,[7,0]),(2,[2]),(3,[3]),(4,[4,3]),(5,[13,4,3]),(6,[4,3]),(7,[48,4,3]),(8,[2]),(9,[2])] [(5,[4,3])]),
 (41,Zac [] [] [] [] [(0,[0]),(1,[3,0]),(2,[4,3,0]),(3,[5,4,3,0]),(4,[9,5,4,3,0]),(5,[5,4,3,0]),(6,[15,5,4,3,0]),(7,[5,3,0]),(8,[5,4,3,0]),(9,[5,4,3,0]),(10,[2])] [(4,[5,4,3,0])]),
 (22,Zac [] [] [] [] [(0,[1,0]),(1,[15,1,0]),(2,[4]),(3,[6,5,1]),(4,[34,6,5]),(5,[4]),(6,[7,6,5]),(7,[38,7,6,5]),(8,[7,6,5]),(9,[45,7,6,5]),(10,[4]),(11,[71,7,6,5]),(12,[4]),(13,[4])] [(7,[7,6,5])]),
 (16,Zac [] [] [] [] [(0,[0]),(1,[2])] []),
 (39,Zac [] [] [] [] [(0,[1,0]),(1,[5,1,0]),(2,[9,5,1,0]),(3,[5,1,0]),(4,[16,5,1,0]),(5,[4]),(6,[4])] [(2,[5,1,0])]),
 (38,Zac [] [] [] [] [(0,[0]),(1,[2])] []),
 (29,Zac [] [] [] [] [(0,[0]),(1,[3,0]),(2,[11,10,9,3,0]),(3,[12,11,10,9,3,0]),(4,[11,10,9,5,4,3,0]),(5,[11,10,9,6,5,3,0]),(6,[34,11,10,9,3,0]),(7,[2]),(8,[11,10,9,3,0]),(9,[2])] [(3,[11,10,9,3,0])]),
 (31,Zac [] [] [] [] [(0,[0]),(1,[2])] []),
 (37,Zac [] [] [] [] [(0,[1,0]),(1,[16,1,0]),(2,[4]),(3,[6,5,1]),(4,[35,6,5]),(5,[4]),(6,[38,37,36,6,5]),(7,[39,38,37,36,6,5]),(8,[38,37,36,8,7,6,5]),(9,[43,38,37,36,8,7,6,5]),(10,[4]),(11,[46,38,37,36,6,5]),(12,[4]),(13,[38,37,36,6,5]),(14,[4])] [(7,[38,37,36,6,5])]),
 (33,Zac [] [] [] [] [(0,[0]),(1,[2])] []),
 (46,Zac [] [] [] [] [(0,[0]),(1,[2])] []),
 (13,Zac [] [] [] [] [(0,[]),(1,[0])] []),
 (7,Zac [] [] [(28,1,false)] [] [(0,[]),(1,[0])] []),
 (48,Zac [] [] [] [] [(0,[1,0]),(1,[6,1,0]),(2,[4]),(3,[4])] []),
 (28,Zac [] [] [] [] [(0,[]),(1,[0])] []),
 (36,Zac [] [] [] [] [(0,[0]),(1,[0]),(2,[2])] []),
 (50,Zac [] [] [] [] [(0,[3,2]),(1,[5,3,2]),(2,[12,5,3,2]),(3,[4]),(4,[4])] []),
 (79,Zac [] [] [] [] [(0,[0]),(1,[3,0]),(2,[2]),(3,[10]),(4,[2]),(5,[2])] []),
 (1000000,{})]
def ann:Nat->Ann:=Zeo {} ZEY
def ZDm:List (Nat×Bool):=[
 (36,true),
 (49,true),
 (1000000,false)]
def BY:Nat->Bool:=Zeo false ZDm
noncomputable def CF:Nat->Option ZaA:=Zhk Tryd.prog ann
noncomputable def FC:Nat->Option ZaA:=fun f=>(CF f).map Zjl
def ZrJ:List (Nat×Option (List AVal->Za->Option (AVal×Za))):=[
 (78,some (Zkq)),
 (92,some (Zkq)),
 (66,some (ZmL)),
 (64,some (ZmD)),
 (49,some (Zgf 50)),
 (28,some (Zmu)),
 (1000000,none)]
def PR:ZdS:=Zeo none ZrJ
theorem xw (c d:Zg) (h:c=d) (m:Nat) (tm:Tms) (σ:Za):evC FC PR BY m c tm σ=evC FC PR BY m d tm σ:=by rw [h]
noncomputable abbrev E:Z7:=EV FC PR BY
theorem ZaY {f:Nat} {fn:ZaA} (hp:PR f=none) (hf:FC f=some fn) (args:List AVal) (σ:Za):E f args σ=Zbt σ.length fn (evC FC PR BY σ.length fn.body (enterA 0 args []) σ):=Zzc hp hf args σ
end
section
def ZjB:Zg:=(.seq (.region [oI 6 (.mov (.c (.bool false)))] none [2,1,0]) (.seq (.region [oM 8 0,oI 9 (.nilchk (.t 8)),oF 10 0 9,oL 11 10,oM 12 1,oI 13 (.call 31 0 true [(.t 12)]),oM 14 2,oI 15 (.call 32 0 true [(.t 11),(.t 13),(.t 14)]),oM 7 15] (some [(3,5),(7,7)]) [7,0]) (.seq (.seq (.region [oM 16 7] none [16,7,0]) (.cond (.t 16) (.region [oM 17 0,oI 18 (.nilchk (.t 17)),oF 19 1 18,oL 20 19,oI 21 (.bin .sub (.t 20) (.c (.int .i64 1))),oI 22 (.nilchk (.t 17)),oF 23 1 22,oN (.st 1 (.t 23) (.t 21))] none [7]) .skip)) (.seq (.region [oM 24 7,oM 6 24] none [6]) .ret))))
def ZkY:ZaA:=⟨[(.tmp 6)],ZjB⟩
theorem Zt9:FC 10=some ZkY:=by kernel_rfl
theorem ZpR:ZkY.body=ZjB:=rfl
theorem ZsI:ZkY.res=[(.tmp 6)]:=rfl
def Zkz:Zg:=(.seq (.region [oI 2 (.mov (.c (.int .i64 0)))] none [0]) (.seq (.region [oM 3 0,oI 4 (.nilchk (.t 3)),oF 5 1 4,oL 6 5,oM 2 6] none [2]) .ret))
def ZlO:ZaA:=⟨[(.tmp 2)],Zkz⟩
theorem ZH5:FC 12=some ZlO:=by kernel_rfl
theorem ZtG:ZlO.body=Zkz:=rfl
theorem ZF2:ZlO.res=[(.tmp 2)]:=rfl
def Zh8:Zg:=(.seq (.region [oI 4 (.mov (.c (.lst true [])))] none [1,0]) (.seq (.seq (.region [oM 6 1,oI 7 (.call 33 0 true [(.t 6)]),oI 8 (.un .not (.t 7))] none [8,1,0]) (.cond (.t 8) (.seq (.region [oI 4 (.mov (.c (.lst true [])))] none [4]) .ret) .skip)) (.seq (.region [oI 5 (.alloc [(.lst true [])])] none [5,1,0]) (.seq (.region [oM 9 0,oI 10 (.nilchk (.t 9)),oF 11 0 10,oL 12 11,oM 13 1,oI 14 (.call 31 0 true [(.t 13)]),oM 15 1,oI 16 (.sindex (.t 15) (.c (.int .i64 0))),oI 17 (.bin .eql (.t 16) (.c (.int .u8 36))),oI 18 (.mkfn 35 [(.t 5)]),oI 19 (.call 34 1 false [(.t 12),(.c (.str [0])),(.t 14),(.t 17),(.t 18)])] (some [(3,5),(10,10)]) [5]) (.seq (.region [oL 20 5,oI 21 (.call 36 0 false [(.t 20)]),oM 4 21] none [4]) .ret)))))
def Zmp:ZaA:=⟨[(.tmp 4)],Zh8⟩
theorem ZnK:FC 11=some Zmp:=by kernel_rfl
theorem Znj:Zmp.body=Zh8:=rfl
theorem Zmj:Zmp.res=[(.tmp 4)]:=rfl
def ZiN:Zg:=(.region [oL 7 3,oM 8 0,oM 9 1,oM 10 2,oI 11 (.build [(.str []),(.str []),(.int .i64 0)] [(0,1,(.t 8)),(1,1,(.t 9)),(2,1,(.t 10))]),oI 12 (.bslice false 3 1 (.agg [(.str []),(.str []),(.int .i64 0)]) [(0,(.t 11))]),oI 13 (.app 3 40 (.agg [(.str []),(.str []),(.int .i64 0)]) (.t 7) (.t 12)),oN (.st 1 (.t 3) (.t 13))] none [])
def ZmR:ZaA:=⟨[],ZiN⟩
theorem Zou:FC 35=some ZmR:=by kernel_rfl
theorem ZsD:ZmR.body=ZiN:=rfl
theorem ZrU:ZmR.res=[]:=rfl
def Ziz:Zg:=(.seq (.region [oI 8 (.mov (.c (.int .i64 0)))] none [3,2,1,0]) (.seq (.seq (.region [oM 9 1,oI 10 (.call 29 0 true [(.t 9)]),oI 11 (.un .not (.t 10))] none [11,3,2,1,0]) (.cond (.t 11) (.seq (.region [oI 8 (.mov (.c (.int .i64 150)))] none [8]) .ret) .skip)) (.seq (.seq (.region [oM 12 0,oI 13 (.nilchk (.t 12)),oF 14 0 13,oL 15 14,oM 16 1,oI 17 (.call 31 0 true [(.t 16)]),oM 18 2,oM 19 3,oI 20 (.call 30 0 true [(.t 15),(.t 17),(.t 18),(.t 19)]),oI 21 (.un .not (.t 20))] (some [(3,5),(8,8)]) [21,0]) (.cond (.t 21) (.region [oM 22 0,oI 23 (.nilchk (.t 22)),oF 24 1 23,oL 25 24,oI 26 (.bin .add (.t 25) (.c (.int .i64 1))),oI 27 (.nilchk (.t 22)),oF 28 1 27,oN (.st 1 (.t 28) (.t 26))] none []) .skip)) (.seq (.region [oI 8 (.mov (.c (.int .i64 0)))] none [8]) .ret))))
def Zmq:ZaA:=⟨[(.tmp 8)],Ziz⟩
theorem ZoS:FC 9=some Zmq:=by kernel_rfl
theorem Zmb:Zmq.body=Ziz:=rfl
theorem Zls:Zmq.res=[(.tmp 8)]:=rfl
def Zgn:Zg:=(.seq (.region [oI 6 (.mov (.c (.bool false)))] none [2,1,0]) (.seq (.seq (.region [oM 10 1,oI 11 (.len (.t 10)),oI 12 (.bin .eql (.t 11) (.c (.int .i64 0)))] none [12,2,1,0]) (.cond (.t 12) (.seq (.region [oM 14 0,oI 15 (.nilchk (.t 14)),oF 16 0 15,oL 17 16,oM 18 2,oI 19 (.look 2 (.int .i64 0) true (.t 17) (.t 18)),oM 13 19,oI 20 (.ext (.t 13) 0),oI 21 (.ext (.t 13) 1),oM 7 20,oM 8 21] none [8,2,0]) (.seq (.region [oM 22 0,oI 23 (.nilchk (.t 22)),oF 24 0 23,oL 25 24,oM 26 2,oN (.mdel 2 (.t 25) (.t 26))] none [8]) (.seq (.region [oM 27 8,oM 6 27] none [6]) .ret))) .skip)) (.seq (.region [oM 28 0,oI 29 (.nilchk (.t 28)),oF 30 1 29,oL 31 30,oM 32 1,oI 33 (.iaddr 1 (.t 32) (.c (.int .i64 0))),oL 34 33,oI 35 (.look 2 .nilp false (.t 31) (.t 34)),oM 9 35] (some [(3,5),(3,6)]) [9,2,1,0]) (.seq (.seq (.region [oM 36 9,oI 37 (.peq false (.t 36) (.c .nilp)),oM 38 37,⟨(some 39),(.mov (.t 9)),(some (38,false)),[]⟩,⟨(some 40),(.mov (.t 1)),(some (38,false)),[]⟩,⟨(some 41),(.slice 1 (.t 40) (some (.c (.int .i64 1))) none none),(some (38,false)),[]⟩,⟨(some 42),(.mov (.t 2)),(some (38,false)),[]⟩,⟨(some 43),(.call 32 0 true [(.t 39),(.t 41),(.t 42)]),(some (38,false)),[]⟩,⟨(some 44),(.un .not (.t 43)),(some (38,false)),[]⟩,oI 45 (.pick (.t 38) (.c (.bool true)) (.t 44))] none [45,9,1,0]) (.cond (.t 45) (.seq (.region [oI 6 (.mov (.c (.bool false)))] none [6]) .ret) .skip)) (.seq (.seq (.region [oM 46 9,oI 47 (.nilchk (.t 46)),oF 48 0 47,oL 49 48,oI 50 (.mlen (.t 49)),oM 51 9,oI 52 (.nilchk (.t 51)),oF 53 1 52,oL 54 53,oI 55 (.mlen (.t 54)),oI 56 (.bin .add (.t 50) (.t 55)),oI 57 (.bin .eql (.t 56) (.c (.int .i64 0)))] (some [(3,8),(4,8)]) [57,1,0]) (.cond (.t 57) (.region [oM 58 0,oI 59 (.nilchk (.t 58)),oF 60 1 59,oL 61 60,oM 62 1,oI 63 (.iaddr 1 (.t 62) (.c (.int .i64 0))),oL 64 63,oN (.mdel 2 (.t 61) (.t 64))] (some [(3,5),(3,6)]) []) .skip)) (.seq (.region [oI 6 (.mov (.c (.bool true)))] none [6]) .ret))))))
def Zk7:ZaA:=⟨[(.tmp 6)],Zgn⟩
theorem Zik:FC 32=some Zk7:=by kernel_rfl
theorem Ziu:Zk7.body=Zgn:=rfl
theorem ZhW:Zk7.res=[(.tmp 6)]:=rfl
def Zb3:Zg:=(.seq (.seq (.region [oM 62 0,oI 63 (.nilchk (.t 62)),oF 64 1 63,oL 65 64,oM 66 2,oI 67 (.iaddr 1 (.t 66) (.c (.int .i64 0))),oL 68 67,oI 69 (.look 2 .nilp false (.t 65) (.t 68)),oM 15 69] (some [(3,5),(3,6)]) [15,4,3,2,1,0]) (.seq (.region [oM 70 15,oI 71 (.peq true (.t 70) (.c .nilp))] none [71,15,4,3,2,1,0]) (.cond (.t 71) (.region [oM 72 15,oM 73 1,oM 74 2,oI 75 (.iaddr 1 (.t 74) (.c (.int .i64 0))),oL 76 75,oI 77 (.call 48 0 true [(.t 73),(.t 76)]),oM 78 2,oI 79 (.slice 1 (.t 78) (some (.c (.int .i64 1))) none none),oM 80 4,oI 81 (.call 34 1 false [(.t 72),(.t 77),(.t 79),(.c (.bool false)),(.t 80)])] (some [(3,7),(4,7),(5,7),(9,9)]) [4,3,2,1,0]) .skip))) (.seq (.region [oM 82 0,oI 83 (.nilchk (.t 82)),oF 84 1 83,oL 85 84,oI 86 (.look 2 .nilp false (.t 85) (.c (.str [43]))),oM 16 86] none [16,4,3,2,1]) (.seq (.region [oM 87 16,oI 88 (.peq true (.t 87) (.c .nilp)),oM 89 88,⟨(some 90),(.mov (.t 3)),(some (89,true)),[]⟩,⟨(some 91),(.un .not (.t 90)),(some (89,true)),[]⟩,oI 92 (.pick (.t 89) (.t 91) (.c (.bool false)))] none [92,16,4,2,1]) (.cond (.t 92) (.region [oM 93 16,oM 94 1,oI 95 (.call 48 0 true [(.t 94),(.c (.str [43]))]),oM 96 2,oI 97 (.slice 1 (.t 96) (some (.c (.int .i64 1))) none none),oM 98 4,oI 99 (.call 34 1 false [(.t 93),(.t 95),(.t 97),(.c (.bool false)),(.t 98)])] (some [(2,4),(6,6)]) []) .skip))))
def ZjI:Zg:=Zb3
def Zct:=xw ZjI Zb3 rfl
def Zcj:Zg:=(.region [oM 57 4,oM 58 1,oM 59 13,oM 60 14,oI 61 (.callv (.t 57) [(.t 58),(.t 59),(.t 60)])] none [50,4,1])
def Zj2:Zg:=Zcj
def ZcF:=xw Zj2 Zcj rfl
def Zb9:Zg:=.ret
def ZiT:Zg:=Zb9
def ZcE:=xw ZiT Zb9 rfl
def ZbO:Zg:=(.seq (.seq (.region [oM 44 2,oI 45 (.len (.t 44)),oI 46 (.bin .eql (.t 45) (.c (.int .i64 0)))] none [46,4,3,2,1,0]) (.cond (.t 46) (.range [oM 47 0,oI 48 (.nilchk (.t 47)),oF 49 0 48,oL 50 49] [50,4,1] 50 54 3 true [oI 55 (.ext (.t 54) 0),oI 56 (.ext (.t 54) 1),oM 13 55,oM 14 56] Zj2 ZiT) .skip)) ZjI)
def ZhY:Zg:=ZbO
def ZbW:=xw ZhY ZbO rfl
def Zce:Zg:=(.region [oM 38 4,oM 39 1,oI 40 (.call 48 0 true [(.t 39),(.c (.str [35]))]),oM 41 11,oM 42 12,oI 43 (.callv (.t 38) [(.t 40),(.t 41),(.t 42)])] none [31,4,3,2,1,0])
def Zia:Zg:=Zce
def ZcD:=xw Zia Zce rfl
def Zck:Zg:=.skip
def ZiS:Zg:=Zck
def ZcC:=xw ZiS Zck rfl
def Zb7:Zg:=(.seq (.seq (.region [oM 17 0,oI 18 (.nilchk (.t 17)),oF 19 1 18,oL 20 19,oI 21 (.look 2 .nilp false (.t 20) (.c (.str [35]))),oM 10 21] none [10,4,3,2,1,0]) (.seq (.region [oM 22 10,oI 23 (.peq true (.t 22) (.c .nilp)),oM 24 23,⟨(some 25),(.mov (.t 3)),(some (24,true)),[]⟩,⟨(some 26),(.un .not (.t 25)),(some (24,true)),[]⟩,oI 27 (.pick (.t 24) (.t 26) (.c (.bool false)))] none [27,10,4,3,2,1,0]) (.cond (.t 27) (.range [oM 28 10,oI 29 (.nilchk (.t 28)),oF 30 0 29,oL 31 30] [31,4,3,2,1,0] 31 35 1 true [oI 36 (.ext (.t 35) 0),oI 37 (.ext (.t 35) 1),oM 11 36,oM 12 37] Zia ZiS) .skip))) ZhY)
def Zln:ZaA:=⟨[],Zb7⟩
theorem ZqJ:FC 34=some Zln:=by kernel_rfl
theorem Zcg:Zln.body=Zb7:=rfl
theorem ZcB:Zln.res=[]:=rfl
def Zis:Zg:=(.seq (.region [oM 40 0,oI 41 (.nilchk (.t 40)),oF 42 0 41,oL 43 42,oM 44 2,oI 45 (.look 2 (.int .i64 0) true (.t 43) (.t 44)),oM 39 45,oI 46 (.ext (.t 39) 0),oI 47 (.ext (.t 39) 1),oM 11 46,oM 12 47] none [12,3,2,0]) (.seq (.region [oM 48 0,oI 49 (.nilchk (.t 48)),oF 50 0 49,oL 51 50,oM 52 2,oM 53 3,oN (.mset 2 (.t 51) (.t 52) (.t 53))] none [12]) (.seq (.region [oM 54 12,oM 8 54] none [8]) .ret)))
def Zlc:Zg:=Zis
def ZlK:=xw Zlc Zis rfl
def ZhG:Zg:=(.seq (.region [oI 16 (.bin .lss (.t 15) (.t 14))] none [16,15,14,13,3,2,0]) (.seq (.cond (.t 16) .skip (.exit 0)) (.seq (.block 1 (.seq (.region [oI 17 (.iaddr 1 (.t 13) (.t 15)),oL 18 17,oM 10 18] none [15,14,13,10,3,2,0]) (.seq (.seq (.region [oM 19 0,oI 20 (.nilchk (.t 19)),oF 21 1 20,oL 22 21,oM 23 10,oI 24 (.look 2 .nilp false (.t 22) (.t 23)),oI 25 (.peq false (.t 24) (.c .nilp))] none [25,15,14,13,10,3,2,0]) (.cond (.t 25) (.region [oM 26 0,oI 27 (.nilchk (.t 26)),oF 28 1 27,oL 29 28,oM 30 10,oI 31 (.call 28 1 false []),oN (.mset 2 (.t 29) (.t 30) (.t 31))] (some [(3,5),(5,5)]) [15,14,13,10,3,2,0]) .skip)) (.region [oM 32 0,oI 33 (.nilchk (.t 32)),oF 34 1 33,oL 35 34,oM 36 10,oI 37 (.look 2 .nilp false (.t 35) (.t 36)),oM 0 37] none [15,14,13,3,2,0])))) (.region [oI 38 (.bin .add (.t 15) (.c (.int .i64 1))),oM 15 38] none [15,14,13,3,2,0]))))
def Znv:Zg:=ZhG
def Znt:=xw Znv ZhG rfl
def ZgF:Zg:=(.seq (.region [oI 8 (.mov (.c (.bool false)))] none [3,2,1,0]) (.seq (.seq (.region [oM 13 1,oI 14 (.len (.t 13)),oI 15 (.mov (.c (.int .i64 0)))] none [15,14,13,3,2,0]) (.block 0 (.loop [15,14,13,3,2,0] Znv))) Zlc))
def Zj8:ZaA:=⟨[(.tmp 8)],ZgF⟩
theorem ZyB:FC 30=some Zj8:=by kernel_rfl
theorem Zi5:Zj8.body=ZgF:=rfl
theorem Zks:Zj8.res=[(.tmp 8)]:=rfl
noncomputable def Zh7 (m:Nat) (tm:Tms) (σ:Za):Option (AVal×Za):=(Zbt m Zj8 (Zb5 FC PR BY m Zlc (W0 (Zbz 0) (evL FC PR BY m [15,14,13,3,2,0] Znv tm σ))))
def ZhE:Zg:=(.seq (.region [oI 4 (.mov (.c (.str [])))] none [1,0]) (.seq (.seq (.region [oM 5 0,oI 6 (.bin .eql (.t 5) (.c (.str [0])))] none [6,1,0]) (.cond (.t 6) (.seq (.region [oM 7 1,oM 4 7] none [4]) .ret) .skip)) (.seq (.region [oM 8 0,oI 9 (.bin .add (.t 8) (.c (.str [47]))),oM 10 1,oI 11 (.bin .add (.t 9) (.t 10)),oM 4 11] none [4]) .ret)))
def ZkB:ZaA:=⟨[(.tmp 4)],ZhE⟩
theorem ZrS:FC 48=some ZkB:=by kernel_rfl
theorem ZmK:ZkB.body=ZhE:=rfl
theorem Zma:ZkB.res=[(.tmp 4)]:=rfl
def Znx:Zg:=(.seq (.region [oI 2 (.mov (.c (.lst true [])))] none [0]) (.seq (.region [oM 3 0,oI 4 (.call 49 0 true [(.t 3),(.c (.fn 50 []))])] none [0]) (.seq (.region [oM 5 0,oM 2 5] none [2]) .ret)))
def ZnR:ZaA:=⟨[(.tmp 2)],Znx⟩
theorem Zxh:FC 36=some ZnR:=by kernel_rfl
theorem ZG8:ZnR.body=Znx:=rfl
theorem ZAU:ZnR.res=[(.tmp 2)]:=rfl
end
section
open Go.RowKit
inductive Ty where
 | bool
 | int (k:IntKind)
 | str
 | slice (s:Bool) (e:Ty)
 | struct (fs:List Ty)
 deriving Inhabited
def ZdY:Option TypeDesc->Bool
 | some (.struct _)=>true
 | some (.array _ _)=>true
 | _=>false
def ZiA (P:Program):Nat->List Field->Nat->Bool
 | at',[],n=>at' == n
 | at',f::fs,n=>f.offset == at' && ZiA P (at'+P.cellsOf f.type) fs n
def Zdz (P:Program):Nat->TypeId->Option Ty
 | 0,_=>none
 | n+1,t=>match P.underlying t with
  | some .bool=>some .bool
  | some (.int k)=>some (.int k)
  | some .string=>some .str
  | some (.slice e)=>if 0 < P.cellsOf e then (Zdz P n e).map (.slice (ZdY (P.underlying e))) else none
  | some (.struct fs)=>if ZiA P 0 fs.toList (P.cellsOf t) then (fs.toList.mapM fun f=>Zdz P n f.type).map .struct else none
  | _=>none
def ZcK (s:Bool) (y:List AVal):AVal:=if s then .agg y else y.headD .nilp
def Imm.of (w:World):Imm:=fun b o=>w.cell? ⟨b,o,none⟩
section
variable {H:Type} {enc:TypeId×Value->H} {P:Program} {w:World} {spare:Nat->Bool} {held:Bool}
theorem Zt2 {b off:Nat} {s:Option Nat} {u:Value} (h:w.cell? ⟨b,off,s⟩=some u):s=none:=by
 unfold World.cell? at h
 split at h
 ·rcases s with _ | s
  ·rfl
  ·simp at h
 ·cases h
theorem ZAR {s:Bool} {y:List AVal} (h:s=false->y.length=1) (h1:s=false->∀ x ∈ y,Zae x=true):(ZcK s y).cells=y:=by
 cases s with
 | true=>rfl
 | false =>
  match y,h rfl with
  | [x],_ =>
   have:=h1 rfl x (by simp)
   cases x <;> simp_all [ZcK,AVal.cells,Zae]
theorem Zt4 {a:Addr} (h:a.spot=none) (n:Nat):a.add n=⟨a.block,a.off+n,none⟩:=by
 unfold Addr.add
 split
 ·rename_i e;subst e;cases a;simp_all
 ·rfl
theorem ZIH {I:Imm} {β:Bmap} {xs:List AVal} {vs:List Value} {n:Nat} (h:VRs I β xs (vs.take n)) {ys:List AVal} (h':VRs I β ys (vs.drop n)):VRs I β (xs++ys) vs:=by
 have:=Zb8 h h'
 rwa [Xa9] at this
theorem Zqv {α β:Type} {f:α->Option β} {a:α} {l:List α} {r:List β} (h:(a::l).mapM f=some r):∃ b r',f a=some b/\l.mapM f=some r'/\r=b::r':=by
 rw [Xbq] at h
 simp only [Option.bind_eq_bind,Option.bind_eq_some_iff,Option.pure_def,Xa] at h
 obtain ⟨b,h1,r',h2,h3⟩:=h
 exact ⟨b,r',h1,h2,h3.symm⟩
theorem ZAS {a b:List AVal} (ha:Zat a=true) (hb:Zat b=true):Zat (a++b)=true:=by
 induction a with
 | nil=>exact hb
 | cons x a ih=>simp only [XP,Zat,Xp] at ha ⊢;exact ⟨ha.1,ih ha.2⟩
theorem Zp1 {I:Imm} {β:Bmap} {s:Bool} {k b:Nat}:∀ (n off:Nat) (Y:Nat->List AVal),(∀ i,i < n->(ZcK s (Y i)).cells.length=k/\CR I β (ZcK s (Y i)).cells b (off+i*k))->LR I β k ((Wt n).map fun i=>ZcK s (Y i)) b off
 | 0,off,Y,_=>by simp [LR]
 | n+1,off,Y,h=>by
  rw [List.range_succ_eq_map,XI,Zgb]
  have h0:=h 0 (by omega)
  simp only [Xbp,Ws] at h0
  refine ⟨h0,?_⟩
  rw [Wm]
  exact Zp1 n (off+k) (fun i=>Y (i+1)) (fun i hi=>by
   have:=h (i+1) (by omega)
   rw [show off+k+i*k=off+(i+1)*k by rw [XbB];omega]
   exact this)
theorem Zso {I:Imm} {β:Bmap} {b:Nat}:∀ (xs:List AVal) (cs:List Value) (off:Nat),VRs I β xs cs->(∀ i,i < cs.length->I b (off+i)=cs[i]?)->CR I β xs b off
 | [],_,_,_,_=>by simp only [CR]
 | x::xs,cs,off,h,hI=>by
  simp only [VRs] at h
  obtain ⟨v,vs',rfl,h1,h2⟩:=h
  simp only [CR]
  refine ⟨⟨v,by have:=hI 0 (by simp);simpa using this,h1⟩,Zso xs vs' (off+1) h2 fun i hi=>?_⟩
  have:=hI (i+1) (by simp;omega)
  rw [show off+1+i=off+(i+1) by omega,this]
  simp
theorem ZnC {s:Bool}:∀ (n:Nat) (Y:Nat->List AVal),(∀ i,i < n->Zat (ZcK s (Y i)).cells=true)->Zaa ((Wt n).map fun i=>ZcK s (Y i))=true
 | 0,Y,_=>by simp [Zaa]
 | n+1,Y,h=>by
  rw [List.range_succ_eq_map,XI,Zog,h 0 (by omega),Wm]
  simp only [Xbh]
  exact ZnC n (fun i=>Y (i+1)) (fun i hi=>h (i+1) (by omega))
theorem ZoK {xs:List AVal} (h:Zat xs=true):∀ x ∈ xs,Zae x=true:=by
 induction xs with
 | nil=>intro x hx;simp at hx
 | cons y ys ih =>
  simp only [Zat,Xp] at h
  intro x hx
  rcases XH.1 hx with rfl | hx
  ·cases x <;> simp_all [Zaq,Zae]
  ·exact ih h.2 x hx
theorem Rel.start (w:World) (hG:Gl.le (Imm.of w)):Rel (fun b=>b < w.heap.size) w (Imm.of w) (Imm.of w) B0 [] w where
 below:=KB.refl _ w
 old:=fun _ _ _=>rfl
 imm:=fun _ _ _ h=>h
 blk:=fun t x h=>by simp at h
 own:=fun t x b h=>by simp at h
 apart:=fun t x t' x' b h=>by simp at h
 fresh:=fun _ _ _=>rfl
 free:=fun t g h=>by simp at h
 gen:=fun t b g h=>by simp at h
 glob:=hG
 ro:=fun t x b h=>by simp at h
theorem ZAo {O:Z7} (hO:ZaC P O) {f:Nat} {args:List AVal} {vs:Array Value} {σ':Za} (hG:Gl.le (Imm.of w)) (hargs:VRs (Imm.of w) B0 args vs.toList) (h:O f args []=some (.bool true,σ')) :
  Calls P f vs w (fun e w'=>e=.returned (.bool true)/\Below w.heap.size w w'):=by
 refine ((hO f args [] _ _ h).2 _ w _ _ B0 w vs (fun b hb=>hb) (Rel.start w hG) hargs).mono ?_
 rintro e w' ⟨u,he,I',β',_,_,R,hv⟩
 simp only [ZaL,VR] at hv
 subst hv
 exact ⟨he,R.below.os,R.below.tape,R.below.output,R.below.size,R.below.block⟩
end
end
section
open Go.RowKit
theorem ZGg (id:Nat) (tm:Tms) (σ:Za):Zbz id (.normal,tm,σ)=(.normal,tm,σ):=rfl
theorem ZGp (id i:Nat) (tm:Tms) (σ:Za):Zbz id (.exit i,tm,σ)=if i=id then (.normal,tm,σ) else (.exit i,tm,σ):=by simp only [Zbz]
theorem ZFm (id:Nat) (tm:Tms) (σ:Za):Zbz id (.ret,tm,σ)=(.ret,tm,σ):=rfl
theorem ZBb (id:Nat) (x:AVal) (tm:Tms) (σ:Za):Zbz id (.panic x,tm,σ)=(.panic x,tm,σ):=rfl
section
variable (O:Z7) (bf:Nat->Bool)
def ZdZ (c:Cls):Option (Tms×Za×List Cls×Option AVal)->Option (Tms×Za×List Cls×Option AVal)
 | none=>none
 | some (tm,σ,cs,p)=>some (tm,σ,c::cs,p)
def Zga (c:List Cls):Option (Tms×Za×List Cls×Option AVal)->Option (Tms×Za×List Cls×Option AVal)
 | none=>none
 | some (tm,σ,cs,p)=>some (tm,σ,c++cs,p)
def kC (d:Option Nat) (os:List AOp) (s:Nat) (tm:Tms):Option (AVal×Za×Cls)->Option (Tms×Za×List Cls×Option AVal)
 | none=>none
 | some (v,σ,c)=>if ZaK v then some (tput tm d v,σ,[c],some (ZaL v)) else ZdZ c (Z6 O bf os s (tput tm d v) σ)
def Zez (ops:List AOp) (L:Nat) (l:List (Nat×Nat)) (live:List Nat):Option (Tms×Za×List Cls×Option AVal)->Option (Z1×Tms×Za)
 | none=>none
 | some (_,σ,cs,some x)=>if ZaG ops L l cs then some (.panic x,[],σ) else none
 | some (tm,σ,cs,none)=>if ZdA ops L l cs then some (.normal,keepL live tm,σ) else none
variable {O bf}
theorem Zsf (s:Nat) (tm:Tms) (σ:Za):Z6 O bf [] s tm σ=some (tm,σ,[],none):=rfl
theorem ZA1 (c:Cls) (tm:Tms) (σ:Za) (cs:List Cls) (p:Option AVal):ZdZ c (some (tm,σ,cs,p))=some (tm,σ,c::cs,p):=rfl
theorem ZE9 (c:Cls):ZdZ c none=none:=rfl
theorem ZD0 (c:Cls) (q:Prop) [Decidable q] (x y:Option (Tms×Za×List Cls×Option AVal)):ZdZ c (if q then x else y)=if q then ZdZ c x else ZdZ c y:=by split <;> rfl
theorem ZDR (c:List Cls) (tm:Tms) (σ:Za) (cs:List Cls) (p:Option AVal):Zga c (some (tm,σ,cs,p))=some (tm,σ,c++cs,p):=rfl
theorem Zus (c:List Cls):Zga c none=none:=rfl
theorem ZvT (c:List Cls) (q:Prop) [Decidable q] (x y:Option (Tms×Za×List Cls×Option AVal)):Zga c (if q then x else y)=if q then Zga c x else Zga c y:=by split <;> rfl
theorem ZjU {o:AOp} {os:List AOp} {s:Nat} {tm tm1:Tms} {σ σ1:Za} {v:AVal} {c:Cls} (h:ZT O bf o s tm σ=some (v,tm1,σ1,c)) (hn:ZaK v=false):Z6 O bf (o::os) s tm σ=ZdZ c (Z6 O bf os (s+nsite o.ins) tm1 σ1):=by
 rw [ZqC h hn]
 cases Z6 O bf os (s+nsite o.ins) tm1 σ1 <;> rfl
theorem Zmd (d:Option Nat) (i:Ins) (af:List Nat) (os:List AOp) (s:Nat) (tm:Tms) (σ:Za):Z6 O bf (⟨d,i,none,af⟩::os) s tm σ=kC O bf d os (s+nsite i) tm (exI O bf i s tm σ):=by
 cases h:exI O bf i s tm σ with
 | none=>exact Zio (by rw [Zjn,h];rfl)
 | some q =>
  obtain ⟨v,σ1,c⟩:=q
  have hs:ZT O bf ⟨d,i,none,af⟩ s tm σ=some (v,tput tm d v,σ1,c):=by rw [Zjn,h];rfl
  cases hp:ZaK v with
  | true =>
   obtain ⟨x,rfl⟩:=Zj3 hp
   exact Zjr hs
  | false =>
   rw [ZjU hs hp]
   simp only [kC,hp,Xi,if_false]
theorem ZkC (d:Option Nat) (os:List AOp) (s:Nat) (tm:Tms) (v:AVal) (σ:Za) (c:Cls) (h:ZaK v=false):kC O bf d os s tm (some (v,σ,c))=ZdZ c (Z6 O bf os s (tput tm d v) σ):=by
 simp only [kC,h,Xi,if_false]
theorem Zxu (d:Option Nat) (os:List AOp) (s:Nat) (tm:Tms) (x:AVal) (σ:Za) (c:Cls):kC O bf d os s tm (some (.pan x,σ,c))=some (tput tm d (.pan x),σ,[c],some x):=rfl
theorem Ztq (d:Option Nat) (os:List AOp) (s:Nat) (tm:Tms):kC O bf d os s tm none=none:=rfl
theorem ZFB (d:Option Nat) (os:List AOp) (s:Nat) (tm:Tms) (q:Prop) [Decidable q] (x y:Option (AVal×Za×Cls)):kC O bf d os s tm (if q then x else y)=if q then kC O bf d os s tm x else kC O bf d os s tm y:=by split <;> rfl
theorem Za0 (ops:List AOp) (l:List (Nat×Nat)) (live:List Nat) (tm:Tms) (σ:Za):ZcJ O bf ops (some l) live tm σ=Zez ops σ.length l live (Z6 O bf ops σ.length tm (σ++XK (sitesOf ops) .free)):=by
 unfold ZcJ
 cases Z6 O bf ops σ.length tm (σ++XK (sitesOf ops) .free) with
 | none=>rfl
 | some q =>
  obtain ⟨tm',σ',cs,p⟩:=q
  cases p <;> rfl
theorem ZaX (ops:List AOp) (L:Nat) (l:List (Nat×Nat)) (live:List Nat) (tm:Tms) (σ:Za) (cs:List Cls) (h:ZdA ops L l cs=true):Zez ops L l live (some (tm,σ,cs,none))=some (.normal,keepL live tm,σ):=by
 simp only [Zez,h,if_true]
theorem Zbd (ops:List AOp) (L:Nat) (l:List (Nat×Nat)) (live:List Nat) (tm:Tms) (σ:Za) (cs:List Cls) (x:AVal) (h:ZaG ops L l cs=true):Zez ops L l live (some (tm,σ,cs,some x))=some (.panic x,[],σ):=by
 simp only [Zez,h,if_true]
theorem ZHz (ops:List AOp) (L:Nat) (l:List (Nat×Nat)) (live:List Nat):Zez ops L l live none=none:=rfl
theorem ZyK (ops:List AOp) (L:Nat) (l:List (Nat×Nat)) (live:List Nat) (q:Prop) [Decidable q] (x y:Option (Tms×Za×List Cls×Option AVal)):Zez ops L l live (if q then x else y)=if q then Zez ops L l live x else Zez ops L l live y:=by split <;> rfl
theorem ZvE (ops:List AOp) (L:Nat) (l:List (Nat×Nat)) (cs:List Cls) (h:(cs.all fun c=>c.wr.isEmpty && !c.any)=true) (hs:(l.all fun p=>p.1 == p.2 || nsite (ops.getD p.1 default).ins == 0)=true):ZdA ops L l cs=true:=by
 have hd:∀ i,Zdp (cs.getD i {})=true:=by
  intro i
  rw [XS] at h
  rw [Xe]
  cases hi:cs[i]? with
  | none=>rfl
  | some c=>exact h c (XA hi)
 unfold ZdA
 rw [XS] at hs ⊢
 intro p hp
 have:=hs p hp
 rw [Bool.or_eq_true] at this ⊢
 rcases this with this | this
 ·exact Xw this
 ·refine XD ?_
  unfold ZcQ
  simp only [hd,this,Bool.and_true,Xbh,Xae,Bool.or_true]
theorem ZtS (ops:List AOp) (L:Nat) (l:List (Nat×Nat)) (live:List Nat) (tm:Tms) (σ:Za) (cs:List Cls) (h:(cs.all fun c=>c.wr.isEmpty && !c.any)=true) (hs:(l.all fun p=>p.1 == p.2 || nsite (ops.getD p.1 default).ins == 0)=true):Zez ops L l live (some (tm,σ,cs,none))=some (.normal,keepL live tm,σ) :=
 ZaX _ _ _ _ _ _ _ (ZvE _ _ _ _ h hs)
variable (O bf) in
def gKC (os:List AOp) (s:Nat):Option (Tms×Za×List Cls×Option AVal)->Option (Tms×Za×List Cls×Option AVal)
 | none=>none
 | some (tm,σ,cs,some x)=>some (tm,σ,cs,some x)
 | some (tm,σ,cs,none)=>Zga cs (Z6 O bf os s tm σ)
theorem ZwL (os:List AOp) (s:Nat) (tm:Tms) (σ:Za) (cs:List Cls):gKC O bf os s (some (tm,σ,cs,none))=Zga cs (Z6 O bf os s tm σ):=rfl
theorem ZDW (os:List AOp) (s:Nat) (q:Prop) [Decidable q] (x y:Option (Tms×Za×List Cls×Option AVal)):gKC O bf os s (if q then x else y)=if q then gKC O bf os s x else gKC O bf os s y:=by split <;> rfl
theorem ZzP (os:List AOp) (s:Nat) (c:Cls) (r:Option (Tms×Za×List Cls×Option AVal)):gKC O bf os s (ZdZ c r)=ZdZ c (gKC O bf os s r):=by
 cases r with
 | none=>rfl
 | some q =>
  obtain ⟨tm,σ,cs,p⟩:=q
  cases p with
  | some x=>rfl
  | none =>
   simp only [ZdZ,gKC]
   cases Z6 O bf os s tm σ <;> rfl
theorem ZoL:∀ (a b:List AOp) (s:Nat) (tm:Tms) (σ:Za),Z6 O bf (a++b) s tm σ=gKC O bf b (s+sitesOf a) (Z6 O bf a s tm σ)
 | [],b,s,tm,σ=>by
  simp only [XE,Zsf,gKC,sitesOf,X9,List.sum_nil,Ws]
  cases Z6 O bf b s tm σ <;> rfl
 | o::a,b,s,tm,σ=>by
  have ih:=ZoL a b
  simp only [XP]
  have hs:s+nsite o.ins+sitesOf a=s+sitesOf (o::a):=by simp [sitesOf,WK]
  cases hst:ZT O bf o s tm σ with
  | none=>rw [Zio hst,Zio hst];rfl
  | some q =>
   obtain ⟨v,tm1,σ1,c⟩:=q
   cases hp:ZaK v with
   | true =>
    obtain ⟨x,rfl⟩:=Zj3 hp
    rw [Zjr hst,Zjr hst];rfl
   | false=>rw [ZjU hst hp,ZjU hst hp,ih,hs,ZzP]
variable (O bf) in
def ZeF (j:Nat) (w:Bool) (g:List AOp) (s:Nat) (tm:Tms) (σ:Za):Option (Tms×Za×List Cls×Option AVal):=match ZbN (some (j,w)) tm with
 | none=>none
 | some false=>some (Zz g tm,σ,g.map fun _=>{},none)
 | some true=>Z6 O bf (g.map unG) s tm σ
theorem Zqd (j:Nat) (w:Bool):∀ (g:List AOp),(∀ o ∈ g,o.guard=some (j,w)/\o.dst≠some j)->∀ (s:Nat) (tm:Tms) (σ:Za),g≠[]->Z6 O bf g s tm σ=ZeF O bf j w g s tm σ
 | [],_,_,_,_,h=>absurd rfl h
 | o::g,hall,s,tm,σ,_=>by
  obtain ⟨hg,hd⟩:=hall o (by simp)
  have ih:∀ (tm:Tms) (σ:Za) (s:Nat),ZbN (some (j,w)) tm≠none->Z6 O bf g s tm σ=ZeF O bf j w g s tm σ:=by
   intro tm σ s hw
   by_cases he:g=[]
   ·subst he
    unfold ZeF
    cases hx:ZbN (some (j,w)) tm with
    | none=>exact absurd hx hw
    | some b=>cases b <;> rfl
   ·exact Zqd j w g (fun o ho=>hall o (by simp [ho])) s tm σ he
  cases hx:ZbN (some (j,w)) tm with
  | none =>
   rw [Zio (by simp only [ZT,hg,hx])]
   simp only [ZeF,hx]
  | some b =>
   cases b with
   | false =>
    have h1:Z6 O bf (o::g) s tm σ=ZdZ {} (Z6 O bf g (s+nsite o.ins) (tput tm o.dst (.tup [])) σ) :=
     ZjU (v:=.tup []) (c:={}) (by simp only [ZT,hg,hx]) rfl
    rw [h1,ih _ _ _ (by rw [ZfJ hd,hx];simp)]
    unfold ZeF
    rw [ZfJ hd,hx]
    rfl
   | true =>
    have key:∀ r:Option (AVal×Za×Cls),(∀ v σ' c,r=some (v,σ',c)->ZaK v=false->Z6 O bf g (s+nsite o.ins) (tput tm o.dst v) σ'=Z6 O bf (g.map unG) (s+nsite o.ins) (tput tm o.dst v) σ')->kC O bf o.dst g (s+nsite o.ins) tm r=kC O bf o.dst (g.map unG) (s+nsite o.ins) tm r:=by
     intro r hr
     cases r with
     | none=>rfl
     | some q =>
      obtain ⟨v,σ',c⟩:=q
      cases hp:ZaK v with
      | true=>simp only [kC,hp,if_true]
      | false=>rw [ZkC _ _ _ _ _ _ _ hp,ZkC _ _ _ _ _ _ _ hp,hr v σ' c rfl hp]
    have h1:Z6 O bf (o::g) s tm σ=kC O bf o.dst g (s+nsite o.ins) tm (exI O bf o.ins s tm σ):=by
     have h0:Z6 O bf (o::g) s tm σ=Z6 O bf (⟨o.dst,o.ins,none,o.after⟩::g) s tm σ:=by
      have hst:ZT O bf o s tm σ=ZT O bf ⟨o.dst,o.ins,none,o.after⟩ s tm σ:=by
       unfold ZT
       simp only [hg,hx]
       rfl
      simp only [Z6,hst]
     rw [h0,Zmd]
    rw [h1]
    unfold ZeF
    rw [hx]
    simp only [XI]
    rw [show unG o=⟨o.dst,o.ins,none,o.after⟩ from rfl,Zmd]
    refine key _ fun v σ' c _ _=>?_
    rw [ih _ _ _ (by rw [ZfJ hd,hx];simp)]
    unfold ZeF
    rw [ZfJ hd,hx]
theorem ZzU (d:Option Nat) (i:Ins) (j:Nat) (w:Bool) (af:List Nat) (os:List AOp) (s:Nat) (tm:Tms) (σ:Za) (hd:decide (d=some j)=false) :
  Z6 O bf (⟨d,i,some (j,w),af⟩::os) s tm σ=gKC O bf (Zx j w os).2 (s+sitesOf (⟨d,i,some (j,w),af⟩::(Zx j w os).1)) (ZeF O bf j w (⟨d,i,some (j,w),af⟩::(Zx j w os).1) s tm σ):=by
 have h:=ZmA j w os
 have hall:∀ o ∈ (⟨d,i,some (j,w),af⟩::(Zx j w os).1:List AOp),o.guard=some (j,w)/\o.dst≠some j:=by
  intro o ho
  rcases XH.1 ho with rfl | ho
  ·exact ⟨rfl,by simpa using hd⟩
  ·exact ZnT j w os o ho
 rw [<-Zqd j w _ hall s tm σ (by simp),<-ZoL,XP,h]
variable (O bf) in
def gWC (w:Bool) (g:List AOp) (s:Nat) (tm:Tms) (σ:Za):AVal->Option (Tms×Za×List Cls×Option AVal)
 | .bool b=>if b=w then Z6 O bf (g.map unG) s tm σ else some (Zz g tm,σ,g.map fun _=>{},none)
 | .tup []=>some (Zz g tm,σ,g.map fun _=>{},none)
 | _=>none
theorem ZIC (j:Nat) (w:Bool) (g:List AOp) (s:Nat) (tm:Tms) (σ:Za):ZeF O bf j w g s tm σ=gWC O bf w g s tm σ (tget tm j):=by
 unfold ZeF ZbN
 simp only
 generalize tget tm j=v
 cases v
 case bool b=>cases b <;> cases w <;> rfl
 case tup vs=>cases vs <;> rfl
 all_goals rfl
theorem ZC9 (w:Bool) (g:List AOp) (s:Nat) (tm:Tms) (σ:Za) (b:Bool):gWC O bf w g s tm σ (.bool b)=if b=w then Z6 O bf (g.map unG) s tm σ else some (Zz g tm,σ,g.map fun _=>{},none):=rfl
theorem Zuh (w:Bool) (g:List AOp) (s:Nat) (tm:Tms) (σ:Za):gWC O bf w g s tm σ (.tup [])=some (Zz g tm,σ,g.map fun _=>{},none):=rfl
theorem ZuO (q:Prop) [Decidable q] (t1 t2:Tms) (σ1 σ2:Za) (cs:List Cls):(if q then some (t1,σ1,cs,(none:Option AVal)) else some (t2,σ2,cs,none))=some ((if q then t1 else t2),(if q then σ1 else σ2),cs,none):=by split <;> rfl
end
section
theorem ZpP {r:AVal} {cs:List AVal} {σ:Za} (hr:Zay r=true) (hc:Zw cs=true):gcA 1 [r] (.var cs::σ)=([r],[.var cs]):=by
 have e1:=(Zec (Zc (.var cs::σ) 1 [0]) r hr)
 have e2:=(ZeI (Zc (.var cs::σ) 1 [0]) cs hc)
 have h1:Zh 1 [r] (.var cs::σ)=[0]:=by
  have : ZZ [r]=[]:=by simp only [ZZ,e1.2,XU]
  simp only [Zh,this,XE,List.range_one,XT,Wu,XU,Xs,Zu,e2.2]
  rfl
 simp only [gcA,h1,ZW,e1.1,Ze,Xs,Zi,Zb,Zd,e2.1]
theorem ZFc {r:AVal} {cs:List AVal} {σ:Za} (hr:Zay r=true) (hc:Zw cs=true):Zbq 1 (.var cs::σ) r=some (r,[.var cs]):=by
 simp only [Zbq,ZpP hr hc]
theorem Zzt {σ:Za} {t:Nat} {cs:List AVal} (hs:σ[t]?=some (.var cs)) (hc:Zw cs=true):Zf σ 1000 [t] []=[t]:=by
 have hd:σ.getD t .free=.var cs:=by simp [Xe,hs]
 have e2:=(ZeI (fun _ _=>none) cs hc).2
 show Zf σ (999+1) [t] []=[t]
 simp only [Zf,List.contains_nil,Xi,if_false,hd,Zu,e2,XE]
theorem ZA0 {O:Z7} {bf:Nat->Bool} {σ:Za} {t sq f:Nat} {view:Bool} {rest:List AVal} {cs cs':List AVal} {r:AVal} (hs:σ[t]?=some (.var cs)) (hc:Zw cs=true) (hc':Zw cs'=true) (hb:bf f=false) (hp:rest.all ZaD=true) (hr:ZbB r=true) (hn:Zay r=true) (hv:viewR [.var cs'] r=some (r,[]))
  (h:O f (.ref 0 0::rest.map Zak) [.var cs]=some (r,[.var cs'])):ZX O bf σ sq f 0 view (.ref t 0::rest)=some (r,σ.set t (.var cs'),{ any:=true,upd:=[(t,cs')] }):=by
 have htl:t < σ.length:=by
  rcases Xav t σ.length with h | h
  ·exact h
  ·rw [X0 h] at hs;cases hs
 have hup:ZbP (σ.set t (.var cs')) [t]=[(t,cs')]:=by
  simp only [ZbP,List.getElem?_set,if_pos htl,if_true]
 have hd:σ.getD t .free=.var cs:=by simp [Xe,hs]
 have hf0:ZU σ []=σ:=rfl
 have hsh:showAs σ (.ref t 0::rest)=some (.ref t 0::rest.map Zak,[]):=by
  rw [showAs,show showA σ (.ref t 0)=some (.ref t 0,[]) from rfl,ZhQ hp]
  rfl
 have href:ZZ (.ref t 0::rest.map Zak)=[t]:=by
  rw [ZZ,ZiD hp];rfl
 unfold ZX ZcZ
 rw [hb]
 simp only [Xi,if_false,hsh,hf0,href,Zzt hs hc]
 unfold Zb0
 have hall:([t].all fun t=>okB (σ.getD t .free))=true:=by simp [Xr,Xy,hs,okB]
 rw [if_pos hall]
 have hρ:Zc σ 0 [t] t 0=some (0,0):=by simp [Zc,Zt,hs,Zb,Zi]
 have hheap:Ze σ 0 [t] (Zc σ 0 [t]) [t] 0=[.var cs]:=by
  simp only [Ze,hd,Zi,Zb,Zd,(ZeI _ cs hc).1]
 have hargs:ZW (Zc σ 0 [t]) (.ref t 0::rest.map Zak)=.ref 0 0::rest.map Zak:=by
  rw [ZW,ZiG hp]
  simp only [Zv,hρ]
 rw [hargs,hheap,h]
 have hask:Zba view [t].length (some (r,[.var cs']))=some (r,[.var cs']):=by
  unfold Zba
  split
  ·have hnp:∀ x,r≠.pan x:=by rintro x rfl;simp [viewR,Zco,ZbH] at hv
   rw [show Zd6 [t].length (some (r,[.var cs']))=(match viewR [.var cs'] r with
    | some (r',ts)=>match gcA [t].length [r'] (ZU [.var cs'] ts) with
     | ([r''],σ')=>some (r'',σ')
     | _=>none
    | none=>none) from by cases r <;> first | rfl | exact absurd rfl (hnp _)]
   rw [hv]
   simp only [Xv,XC,XM,show ZU [Zy.var cs'] []=[.var cs'] from rfl,ZpP hn hc']
  ·rfl
 rw [hask]
 have hk:ZaW σ [t] [.var cs'] 0=true:=by
  simp [ZaW,okB,hs,Zb6,Zb]
 simp only [ZaV,List.isEmpty_cons,Xac,Xi,if_false,Xv,XC,XM,Ws,XQ,decide_true,hk,Zbe,Wy,if_true,ZaI,Zaw,Xs,ZbC,XO,hd,Zb,Zd,(Zec _ r hn).1,(ZeI _ cs' hc').1,hup]
end
end
section
section
variable (c:Prop) [Decidable c]
theorem ZHJ (t1 t2:Tms) (σ1 σ2:Za):(if c then some (Z1.normal,t1,σ1) else some (Z1.normal,t2,σ2))=some (Z1.normal,(if c then t1 else t2),(if c then σ1 else σ2)):=by split <;> rfl
theorem Ztt (t1 t2:Tms) (σ1 σ2:Za):(if c then some (Z1.ret,t1,σ1) else some (Z1.ret,t2,σ2))=some (Z1.ret,(if c then t1 else t2),(if c then σ1 else σ2)):=by split <;> rfl
theorem ZA6 (t1 t2:Tms) (σ1 σ2:Za):(if c then some (t1,σ1,(none:Option AVal)) else some (t2,σ2,none))=some ((if c then t1 else t2),(if c then σ1 else σ2),none):=by split <;> rfl
theorem Zys (n:Nat) (a b:AVal):(if c then (n,a) else (n,b))=(n,if c then a else b):=by split <;> rfl
theorem ZCr (a b:AVal) (σ1 σ2:Za):(if c then some (a,σ1) else some (b,σ2))=some ((if c then a else b),(if c then σ1 else σ2)):=by split <;> rfl
theorem ZHE (a b:AVal) (σ1 σ2:Za) (x y:Cls):(if c then some (a,σ1,x) else some (b,σ2,y))=some ((if c then a else b),(if c then σ1 else σ2),if c then x else y):=by split <;> rfl
end
theorem ZJ {α:Type} (p:Bool) (x y z:α):(if p=true then x else (if p=false then y else z))=if p=true then x else y:=by cases p <;> rfl
theorem ZN {α:Type} (p:Bool) (x y z:α):(if p=false then x else (if p=true then y else z))=if p=false then x else y:=by cases p <;> rfl
theorem ZO {α:Type} (p:Bool) (x y z:α):(if p=true then (if p=false then x else y) else z)=if p=true then y else z:=by cases p <;> rfl
theorem ZL {α:Type} (p:Bool) (x y z:α):(if p=false then (if p=true then x else y) else z)=if p=false then y else z:=by cases p <;> rfl
theorem Za8 (ops:List AOp) (b:Nat) (cs:List Cls):ZdA ops b [] cs=true:=rfl
theorem Za5 (ops:List AOp) (b:Nat) (p:Nat×Nat) (l:List (Nat×Nat)) (cs:List Cls):ZdA ops b (p::l) cs=((p.1 == p.2 || ZcQ (ops.getD p.1 default) (ops.getD p.2 default) (cs.getD p.1 {}) (cs.getD p.2 {}) (b+sitesOf (ops.take p.1))) && ZdA ops b l cs):=by
 simp only [ZdA,Xr]
theorem Za9 (oj oi:AOp) (cj ci:Cls) (sj:Nat):ZcQ oj oi cj ci sj=(Zcu oj cj || Zcu oi ci || (Zdp cj && Zdp ci && (nsite oj.ins == 0 || !ci.rd.contains sj)) || ((Zai oj.ins || (Zas oj.ins && !cj.any)) && (Zdp ci && ci.rd.isEmpty)) || (Zan oj.ins && Zai oi.ins && ci.any && Zax cj ci) || (Zan oj.ins && (Zas oi.ins || (ZaF oi.ins && ZaT cj ci)) && Zax cj ci) || (ZaO oj.ins && ZaM oi.ins) || (Zai oj.ins && Zan oi.ins && cj.any && ZaU cj ci sj) || (((Zas oj.ins && !cj.any) || ZaF oj.ins) && Zdp ci && nsite oi.ins == 0 && ci.rd.all fun t=>!cj.wr.contains t && t != sj) || (Zan oj.ins && Zai oi.ins && ci.any && cj.nd)):=rfl
theorem Za1 (o:AOp) (rd wr:List Nat) (any:Bool) (got:List (Nat×Option Nat×Nat×AVal)) (upd:List (Nat×List AVal)) (nd:Bool):Zcu o ⟨rd,wr,any,got,upd,nd⟩=(nsite o.ins == 0 && rd.isEmpty && wr.isEmpty && !any):=rfl
theorem Za6 (rd wr:List Nat) (any:Bool) (got:List (Nat×Option Nat×Nat×AVal)) (upd:List (Nat×List AVal)) (nd:Bool):Zdp ⟨rd,wr,any,got,upd,nd⟩=(wr.isEmpty && !any):=rfl
theorem ZdU {α:Type} {l:List α} {i:Nat} {x:α} {r:List α} (h:l.drop i=x::r):l[i]?=some x/\l.drop (i+1)=r/\i < l.length:=by
 have h1:i < l.length:=by
  rcases Xav i l.length with h1 | h1
  ·exact h1
  ·rw [List.drop_eq_nil_of_le h1] at h;cases h
 rw [List.drop_eq_getElem_cons h1] at h
 injection h with h2 h3
 exact ⟨by rw [Xu h1,h2],h3,h1⟩
theorem Zgw {α:Type} {l:List α} {i:Nat} (h:l.drop i=[]):¬(i:Int) < l.length:=by
 have:=List.drop_eq_nil_iff.1 h;omega
theorem iad {α:Type} {l:List α} {i:Nat} {x:α} (h:l[i]?=some x) (f:α->AVal) {k:Nat} (hk:(f x).cells.length=k) (σ:Za) (n:Bool) (kk:IntKind):ZbY σ k (.lst n (l.map f)) (.int kk (i:Int))=some (.iptr (f x).cells 0,σ,{}):=by
 have h0:(0:Int)<=(i:Int):=Int.natCast_nonneg i
 unfold ZbY
 simp only [h0,if_true,Xaa,XY,h,XZ,hk]
theorem ZcW {n:Int} (h0:-9223372036854775808<=n) (h:n<=9223372036854775807):IntKind.i64.wrap n=n:=by
 rw [IntKind.wrap_i64];omega
theorem Zfi {i n:Nat} (h:(i:Int) < n) (hn:n<=9223372036854775807):IntKind.i64.wrap ((i:Int)+1)=((i+1:Nat):Int):=by
 rw [ZcW (by omega) (by omega)];rfl
theorem Zcc {O:Z7} {bf:Nat->Bool} {f:Nat} {args:List AVal} {r:AVal} (h:O f args []=some (r,[])) (hb:bf f=false) (hp:args.all ZaD=true) (hn:args.map Zak=args) (hv:Zd6 0 (some (r,[]))=some (r,[])) (hr:∀ sq,Zv (Zbg [] [] sq) r=r) (σ:Za) (sq own:Nat) (view:Bool):ZX O bf σ sq f own view args=some (r,σ,{}):=by
 rw [ZqN hb hp,hn,h]
 have : Zba view 0 (some (r,[]))=some (r,[]):=by
  unfold Zba
  split
  ·exact hv
  ·rfl
 rw [this,Zqg _ _ _ _ (hr sq)]
theorem ZsH {α:Type} (σ:Za) (k:Nat) (l:List α) (f:α->AVal) (kk:IntKind) (n:Int) (h0:0<=n) (h:n<=(l.length:Int)):Zcn σ k (.lst false (l.map f)) none (some (.int kk n)) none=some (.lst false ((l.take n.toNat).map f),σ,{}):=by
 simp only [Zcn,Zbm,Zdr,WC,h0,h,and_self,if_true,beq_self_eq_true,Xae,XaG,Xi,if_false,Xac,XaR,XbL]
abbrev Zin:=List UInt8
def ZA (b:Zin):AVal:=.lst false (b.map Zby)
structure ZmT where
 id:Int
 num:Int
 text:Zin
 pair:Zin
 data:Zin
 deriving DecidableEq
def ZC (p:ZmT):List AVal:=[.int .i64 p.id,.int .i64 p.num,.str p.text,.str p.pair,ZA p.data]
def ZB (p:ZmT):AVal:=.agg (ZC p)
def ZD (l:List ZmT):AVal:=.lst false (l.map ZB)
def Zj (l:List Int):AVal:=.lst false (l.map (.int .i64 ·))
theorem ZV (l:Zin):ZfF (l.map Zby)=some l:=by
 induction l with
 | nil=>rfl
 | cons b l ih =>
  simp only [XI,ZfF,ih,Zby,Zns,Xaa,UInt8.ofNat_toNat]
end
end Go.Proofs.YtbjflkbenobjjaaDoor
