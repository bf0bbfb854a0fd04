/- packed -/
import Derived.Test.YtjhabjdfhmbanaaGreatDoorMq0
import Derived.Laws.Small
import Derived.Orders
import Derived.LoopN
import Derived.Scope
import Derived.Laws.Cover3
import Derived.Lib.Index
import Derived.Shelf.Unicode.ValidAny
import Derived.Shelf.Strings.Count
set_option linter.unusedSimpArgs false
set_option linter.unusedVariables false
open Option.some renaming injEq→Xb
open Prod.mk renaming injEq→Xe
open List renaming getD_eq_getElem?_getD→Xh,getElem?_set_ne→Xl,getD_cons_zero→Xm,getElem?_eq_some_iff→Xn,append_nil→Xr,getD_cons_succ→Xs,map_cons→Xu,length_nil→Xw,all_eq_true→Xy,map_nil→XC,mem_append→XE,replicate→XI,cons_append→XJ,getElem?_cons_zero→XK,mem_of_getElem?→XL,getElem?_set→XO,all_cons→XW,all_nil→XX,mem_cons→X0,mem_map→X7,isEmpty_nil→X8,lookup_cons→Wa,getElem?_eq_none→Wb,drop_eq_nil_of_le→Wg,contains_nil→Wh,set_comm→Wj,map_append→Wl,mem_flatMap→Wr,getElem?_append_right→Wv,getElem?_append_left→Wx,drop_eq_getElem_cons→WM,isEmpty_iff→WR,pairwise_append→W8,getElem?_map→Xab,mem_filter→Xac,pairwise_cons→Xam,any_eq_false→Xar,map_congr_left→Xax,range'→Xay,mapM_cons→XaW,mem_range→XaY,map_take→Xa1,range'_succ→Xa4,map_set→Xbg
open Bool renaming false_eq_true→Xi,and_eq_true→Xk,and_self→XT,false_and→Wi,or_eq_true→WH,true_or→WV,or_true→W7,false_ne_true→Xan,not_eq_true'→Xap,not_true→Xa0
open Option renaming map_eq_some_iff→Xo,map_some→X9,map→Wf,getD_some→Xau
open Or renaming inl→Xq,inr→Xt
open Nat renaming zero_add→XF,le_refl→XH,add_zero→X6,lt_or_ge→Wz,le_max_right→WS,le_max_left→WZ,sub_self→XaB,add_assoc→XaQ
open Array renaming length_toList→XU,getElem?_eq_some_iff→XZ,getD_eq_getD_getElem?→Wq,getD→WX,replicate→WY,toList_append→XaT,ext'→Xbd
open ByteArray renaming size→Ws
namespace Go.Proofs.YtjhabjdfhmbanaaGreatDoor
set_option maxHeartbeats 16000000
set_option maxRecDepth 10000
section
open Go.RowKit
section
variable {P:Program}{base:Nat->Prop}{w0 w w':World}{I0 I I':Imm}{V V':Bmap}{G G':Za}
def Zd6:TypeDesc->Option Nat
 | .int _=>some 0
 | .bool=>some 1
 | .string=>some 2
 |_=>none
theorem Zl1{P:Program}{t:TypeId}{kc:Nat}{z:AVal}(h:Zjg P t=some (kc,z)):∃ kt et d,P.underlying t=some (.map kt et)/\P.underlying kt=some d/\Zd6 d=some kc/\Zer P et=some z:=by
 unfold Zjg at h
 split at h
 case h_2=>cases h
 rename_i kt et ht
 split at h
 case h_2=>cases h
 rename_i kc' z' hk hz
 simp only[Xb,Xe]at h
 obtain⟨rfl,rfl⟩:=h
 unfold ZhE at hk
 split at hk
 ·rename_i e;injection hk with hk;subst hk;exact⟨kt,et,_,ht,e,rfl,hz⟩
 ·rename_i e;injection hk with hk;subst hk;exact⟨kt,et,_,ht,e,rfl,hz⟩
 ·rename_i e;injection hk with hk;subst hk;exact⟨kt,et,_,ht,e,rfl,hz⟩
 ·cases hk
theorem ZwN{l l':List UInt8}:((⟨l.toArray⟩:ByteArray)==⟨l'.toArray⟩)=(l==l'):=by
 rw[beq_toListBytes,ZoA,ZoA]
theorem Zv4{d:TypeDesc}{x y:AVal}{vx vy:Value}{b:Bool}(hd:Zd6 d=some (Zbr x))(h:Zgu x y=some b)(hx:VR I V x vx)(hy:VR I V y vy):Instr.sameNow d vx vy=some b:=by
 unfold Zgu at h
 split at h
 ·rename_i k n k' m
  split at h
  case isFalse=>cases h
  rename_i hk
  subst hk
  injection h with h
  subst h
  simp only[VR]at hx hy
  subst hx hy
  cases d<;>simp[Zd6,Zbr]at hd
  simp[Instr.sameNow]
 ·injection h with h
  subst h
  simp only[VR]at hx hy
  subst hx hy
  cases d<;>simp[Zd6,Zbr]at hd
  simp[Instr.sameNow]
 ·rename_i l l'
  injection h with h
  subst h
  simp only[VR]at hx hy
  rw[hx.1,hy.1]
  cases d<;>simp[Zd6,Zbr]at hd
  simp only[Instr.sameNow,ZwN]
 ·cases h
theorem ZBx{x y:AVal}{vx vy:Value}(h:Zgu x y=some true)(hx:VR I V x vx)(hy:VR I V y vy):Instr.sameBits 10000 vy vx=true/\vx=vy:=by
 unfold Zgu at h
 split at h
 ·rename_i k n k' m
  split at h
  case isFalse=>cases h
  rename_i hk
  subst hk
  simp only[Xb,beq_iff_eq]at h
  subst h
  simp only[VR]at hx hy
  subst hx hy
  exact⟨by simp[Instr.sameBits],rfl⟩
 ·simp only[Xb,beq_iff_eq]at h
  subst h
  simp only[VR]at hx hy
  subst hx hy
  exact⟨by simp[Instr.sameBits],rfl⟩
 ·simp only[Xb,beq_iff_eq]at h
  subst h
  simp only[VR]at hx hy
  rw[hx.1,hy.1]
  exact⟨by simp only[Instr.sameBits,ZwN,beq_self_eq_true],rfl⟩
 ·cases h
theorem Zh1{d:TypeDesc}{x:AVal}{vx:Value}(hd:Zd6 d=some (Zbr x))(hx:VR I V x vx):∀ (es:List (AVal×AVal)) (arr:List MapEntry) (i:Nat) (r:Option (Nat×AVal)),VRs I V (es.map (·.1)) (arr.map (·.key))->VRs I V (es.map (·.2)) (arr.map (·.val))->Zh9 x es i=some r ->
  (r=none/\Instr.findNow d vx arr i=some none) \/
  ∃ j y e p,r=some (i+j,y)/\Instr.findNow d vx arr i=some (some (i+j,e.val))/\arr[j]?=some e/\es[j]?=some p/\p.2=y/\VR I V y e.val/\Zgu x p.1=some true/\VR I V p.1 e.key
 | [],arr,i,r,hk,_,h=>by
  unfold Zh9 at h
  injection h with h
  subst h
  simp only[XC,VRs,List.map_eq_nil_iff]at hk
  subst hk
  exact Xq ⟨rfl,by simp[Instr.findNow]⟩
 |(k,y)::es,arr,i,r,hk,hv,h=>by
  unfold Zh9 at h
  cases arr with
  |nil =>
   simp only[Xu,XC,VRs]at hk
   grind
  |cons e arr =>
  simp only[Xu,VRs]at hk hv
  obtain⟨_,_,ek,k1,k2⟩:=hk
  injection ek with ek1 ek2
  subst ek1 ek2
  obtain⟨_,_,ev,v1,v2⟩:=hv
  injection ev with ev1 ev2
  subst ev1 ev2
  split at h
  ·rename_i ha
   injection h with h
   subst h
   refine Xt ⟨0,y,e,(k,y),rfl,?_,rfl,rfl,rfl,v1,ha,k1⟩
   simp only[Instr.findNow,Zv4 hd ha hx k1,X6]
  ·rename_i ha
   have hn:=Zv4 hd ha hx k1
   rcases Zh1 hd hx es arr (i+1) r k2 v2 h with⟨h1,h2⟩ |⟨j,y',e',p',h1,h2,h3,h4,h5⟩
   ·exact Xq ⟨h1,by simp only[Instr.findNow,hn];exact h2⟩
   ·refine Xt ⟨j+1,y',e',p',by grind,?_,by grind,by grind,h5⟩
    simp only[Instr.findNow,hn]
    grind
  ·cases h
theorem Zha{kt:TypeId}{d:TypeDesc}{kc:Nat}(hk:P.underlying kt=some d)(hd:Zd6 d=some kc)(e:Bool)(v:Value):(Instr.checkKey e 10000 kt v).run P w=.ok () w:=by
 show(Instr.checkKey e (9999+1) kt v).run P w=_
 unfold Instr.checkKey
 rw[Sem.run_bind,run_underlying hk]
 cases d<;>simp[Zd6]at hd<;>rfl
theorem ZhO{kt:TypeId}{d:TypeDesc}(hk:P.underlying kt=some d){v:Value}{arr:List MapEntry}{r:Option (Nat×Value)}(h:Instr.findNow d v arr 0=some r):(Instr.findKey kt v arr).run P w=.ok r w:=by
 unfold Instr.findKey
 rw[Sem.run_bind,run_underlying hk]
 simp only[Result.andThen_ok,h,Sem.run_pure]
theorem ZLl{e:TypeId}{z:AVal}(hz:Zer P e=some z):∃ v,(zeroValue e).run P w=.ok v w/\VR I V z v:=by
 unfold Zer at hz
 split at hz
 case h_2=>cases hz
 rename_i i hi
 split at hz
 case h_2=>cases hz
 rename_i v hv
 exact⟨v,by simp[zeroValue,typeInfo,hi,hv],(Zgr hz).1⟩
theorem Znn{b:Nat}{arr:Array MapEntry}{clk:Nat}(h:w.heap[b]?=some (.map arr clk)):(getObj b).run P w=.ok (.map arr clk) w:=by simp[getObj,Sem.run,h]
theorem Zja:VR I V (.tup []) undef:=by simp[VR,VRs,undef]
theorem ZpZ{x:AVal}{v:Value}(b:Bool)(h:VR I V x v):VR I V (.tup [x,.bool b]) (.tuple #[v,.bool b]):=by
 simp only[VR]
 exact⟨_,rfl,by simp only[VRs];exact⟨_,_,rfl,h,_,_,rfl,rfl,rfl⟩⟩
theorem ZRH(R:Rel base w0 I0 I V G w){t kt et:TypeId}(ht:P.underlying t=some (.map kt et)){d:TypeDesc}(hdk:P.underlying kt=some d){kc:Nat}(hd:Zd6 d=some kc){z:AVal}(hz:Zer P et=some z){ok:Bool}{m k v:AVal}{vm vk:Value}{c:Cls}(hm:VR I V m vm)(hk:VR I V k vk)
  (h:ZgE G kc z ok m k=some (v,G',c)):G'=G/\∃ u,(Instr.lookup t vm vk ok).run P w=.ok u w/\VR I V v u:=by
 obtain⟨vz,hvz,hzr⟩:=ZLl (P:=P) (w:=w) (I:=I) (V:=V) hz
 unfold ZgE at h
 split at h
 case isFalse=>cases h
 rename_i hkc
 have hd':Zd6 d=some (Zbr k):=by rw[hd,hkc]
 split at h
 ·simp only[Xb,Xe]at h
  obtain⟨rfl,rfl,rfl⟩:=h
  simp only[VR]at hm
  subst hm
  have hf:=ZhO (P:=P) (w:=w) hdk (v:=vk) (arr:=[]) (r:=none) (by simp[Instr.findNow])
  refine⟨rfl,if ok then .tuple #[vz,.bool false]else vz,?_,?_⟩
  ·simp[Instr.lookup,run_underlying ht,Zha hdk hd,hf,hvz]
  ·cases ok
   ·exact hzr
   ·exact ZpZ false hzr
 ·rename_i b
  simp only[VR]at hm
  obtain⟨bb,kk,cc,hb,rfl⟩:=hm
  split at h
  case h_2=>cases h
  rename_i es hs
  obtain⟨b',k',c',arr,clk,e1,e2,e3,e4,_⟩:=R.blk _ _ hs
  rw[hb]at e1
  simp only[Xb,BI.mk.injEq]at e1
  obtain⟨rfl,rfl,rfl⟩:=e1
  have hg:=Znn (P:=P) e2
  split at h
  ·rename_i j y hf
   simp only[Xb,Xe]at h
   obtain⟨rfl,rfl,rfl⟩:=h
   rcases Zh1 hd' hk es arr.toList 0 _ e3 e4 hf with⟨h1,_⟩ |⟨j',y',e,p,h1,h2,_,_,_,h5,_⟩
   ·cases h1
   ·injection h1 with h1
    injection h1 with h1 h1'
    subst h1'
    have hr:=ZhO (P:=P) (w:=w) hdk h2
    refine⟨rfl,if ok then .tuple #[e.val,.bool true]else e.val,?_,?_⟩
    ·simp[Instr.lookup,run_underlying ht,Zha hdk hd,hg,hr]
    ·cases ok
     ·exact h5
     ·exact ZpZ true h5
  ·rename_i hf
   simp only[Xb,Xe]at h
   obtain⟨rfl,rfl,rfl⟩:=h
   rcases Zh1 hd' hk es arr.toList 0 _ e3 e4 hf with⟨_,h2⟩ |⟨j',y',e,p,h1,_⟩
   ·have hr:=ZhO (P:=P) (w:=w) hdk h2
    refine⟨rfl,if ok then .tuple #[vz,.bool false]else vz,?_,?_⟩
    ·simp[Instr.lookup,run_underlying ht,Zha hdk hd,hg,hr,hvz]
    ·cases ok
     ·exact hzr
     ·exact ZpZ false hzr
   ·cases h1
  ·cases h
 ·cases h
theorem ZnM(R:Rel base w0 I0 I V G w){t b k c:Nat}{es es':List (AVal×AVal)}(hs:G[t]?=some (.map es))(hb:V t 0=some ⟨some b,k,c⟩){arr':Array MapEntry}{clk':Nat}(hk:VRs I V (es'.map (·.1)) (arr'.toList.map (·.key)))(hv:VRs I V (es'.map (·.2)) (arr'.toList.map (·.val)))(hA:∀ p∈es',ZlN p.1=true)(hS:Zp9 arr' clk')(hlt:b<w.heap.size) :
  Rel base w0 I0 I V (G.set t (.map es')) { w with heap:=w.heap.setIfInBounds b (.map arr' clk') } :=
 R.putObj hs (by simp[ZJ,hb]) (by simp[ZJ,hb]) _ ⟨b,k,c,arr',clk',hb,by grind,hk,hv,hA,hS⟩ rfl
theorem Zn3(arr:Array MapEntry)(i:Nat)(f:MapEntry->MapEntry):(arr.modify i f).toList=arr.toList.modify i f:=by simp
theorem ZuH{D V:Type}(g:D->V)(f:D->D)(v:V)(hf:∀ x,g (f x)=v):∀ (l:List D) (i:Nat),(l.modify i f).map g=(l.map g).set i v
 | [],i=>by simp
 |x::l,0=>by simp[hf]
 |x::l,i+1=>by simp[ZuH g f v hf l i]
theorem Zpp{D V:Type}(g:D->V)(f:D->D)(hf:∀ x,g (f x)=g x):∀ (l:List D) (i:Nat),(l.modify i f).map g=l.map g
 | [],i=>by simp
 |x::l,0=>by simp[hf]
 |x::l,i+1=>by simp[Zpp g f hf l i]
theorem Zm5{b:Nat}{arr:Array MapEntry}{clk:Nat}{o':Obj}(h:w.heap[b]?=some (.map arr clk)):(setObj b o').run P w=.ok () { w with heap:=w.heap.setIfInBounds b o' }:=by simp[setObj,Sem.run,h]
theorem ZqZ:∀ {xs:List AVal} {vs:List Value} (i:Nat),VRs I V xs vs->VRs I V (xs.eraseIdx i) (vs.eraseIdx i)
 | [],vs,i,h=>by simp only[VRs]at h;subst h;simp[VRs]
 |x::xs,vs,0,h=>by
  simp only[VRs]at h
  grind
 |x::xs,vs,i+1,h=>by
  simp only[VRs]at h
  obtain⟨v,vs',rfl,h1,h⟩:=h
  simp only[List.eraseIdx_cons_succ,VRs]
  exact⟨v,_,rfl,h1,ZqZ i h⟩
theorem Zkn{D V:Type}(g:D->V):∀ (l:List D) (i:Nat),(l.eraseIdx i).map g=(l.map g).eraseIdx i
 | [],i=>by simp
 |x::l,0=>by simp
 |x::l,i+1=>by simp[Zkn g l i]
theorem Zu7(R:Rel base w0 I0 I V G w){t kt et:TypeId}(ht:P.underlying t=some (.map kt et)){d:TypeDesc}(hdk:P.underlying kt=some d){kc:Nat}(hd:Zd6 d=some kc){m k x v:AVal}{vm vk vx:Value}{c:Cls}(hm:VR I V m vm)(hk:VR I V k vk)(hx:VR I V x vx)
  (h:ZmC G kc m k x=some (v,G',c)):v=.tup []/\∃ w',(Instr.mapUpdate t vm vk vx).run P w=.ok () w'/\Rel base w0 I0 I V G' w':=by
 unfold ZmC at h
 split at h
 case isFalse=>cases h
 rename_i hkc
 obtain⟨hkc,hkA,_⟩:=hkc
 have hd':Zd6 d=some (Zbr k):=by rw[hd,hkc]
 split at h
 case h_2=>cases h
 rename_i b
 simp only[VR]at hm
 obtain⟨bb,kk,cc,hb,rfl⟩:=hm
 split at h
 case h_2=>cases h
 rename_i es hs
 obtain⟨b',k',c',arr,clk,e1,e2,e3,e4,e5,e6,e7⟩:=R.blk _ _ hs
 have hb0:=hb
 rw[hb]at e1
 simp only[Xb,BI.mk.injEq]at e1
 obtain⟨rfl,rfl,rfl⟩:=e1
 have hg:=Znn (P:=P) e2
 have hlt:bb<w.heap.size:=(XZ.1 e2).1
 split at h
 ·rename_i j y hf
  simp only[Xb,Xe]at h
  obtain⟨rfl,rfl,rfl⟩:=h
  rcases Zh1 hd' hk es arr.toList 0 _ e3 e4 hf with⟨h1,_⟩ |⟨j',y',e,p,h1,h2,h3,h4,_,h5,h6,h7⟩
  ·cases h1
  ·simp only[XF]at h1 h2
   injection h1 with h1
   injection h1 with h1 h1'
   subst h1 h1'
   have hr:=ZhO (P:=P) (w:=w) hdk h2
   obtain⟨sb,_⟩:=ZBx h6 hk h7
   have h3':arr[j]?=some e:=by rw[<-Array.getElem?_toList];exact h3
   have hst:(Instr.keyThatStays (((arr[j]?).map (·.key)).getD vk) vk).run P w=.ok vk w:=by
    rw[h3']
    simp[Instr.keyThatStays,sb]
   refine⟨rfl,_,?_,ZnM R hs hb0 (arr':=arr.modify j fun e=>{ e with key:=vk,val:=vx }) (clk':=clk) ?_ ?_ ?_ ?_ hlt⟩
   ·simp only[Instr.mapUpdate,run_underlying ht,Zha hdk hd,hg,hr,hst,Sem.run_bind,Result.andThen_ok,Zm5 e2]
   ·rw[Zn3,ZuH (fun x:MapEntry=>x.key) _ vk (fun _=>rfl),Xbg]
    exact ZzF e3 hk j
   ·rw[Zn3,ZuH (fun x:MapEntry=>x.val) _ vx (fun _=>rfl),Xbg]
    exact ZzF e4 hx j
   ·grind
   ·refine⟨fun e he=>?_,?_⟩
    ·rw[Zn3]at he
     have hm:e.born∈(arr.toList.modify j fun e=>{ e with key:=vk,val:=vx }).map (·.born):=X7.2 ⟨e,he,rfl⟩
     rw[Zpp (fun x:MapEntry=>x.born) (fun e:MapEntry=>{ e with key:=vk,val:=vx }) (fun _=>rfl)]at hm
     obtain⟨e',he',hb'⟩:=X7.1 hm
     rw[<-hb'];exact e6 e' he'
    ·rw[Zn3,Zpp (fun x:MapEntry=>x.born) (fun e:MapEntry=>{ e with key:=vk,val:=vx }) (fun _=>rfl)]
     exact e7
 ·rename_i hf
  simp only[Xb,Xe]at h
  obtain⟨rfl,rfl,rfl⟩:=h
  rcases Zh1 hd' hk es arr.toList 0 _ e3 e4 hf with⟨_,h2⟩ |⟨j',y',e,p,h1,_⟩
  ·have hr:=ZhO (P:=P) (w:=w) hdk h2
   refine⟨rfl,_,?_,ZnM R hs hb0 (arr':=arr.push { key:=vk,val:=vx,born:=clk }) (clk':=clk+1) ?_ ?_ ?_ ?_ hlt⟩
   ·simp only[Instr.mapUpdate,run_underlying ht,Zha hdk hd,hg,hr,Sem.run_bind,Result.andThen_ok,Zm5 e2]
   ·rw[Array.toList_push,Wl,Wl]
    exact Zc3 e3 (by simp only[Xu,XC,VRs];grind)
   ·rw[Array.toList_push,Wl,Wl]
    exact Zc3 e4 (by simp only[Xu,XC,VRs];grind)
   ·grind
   ·refine⟨fun e he=>?_,?_⟩
    ·grind
    grind
  ·cases h1
 ·cases h
theorem ZUL(R:Rel base w0 I0 I V G w){t kt et:TypeId}(ht:P.underlying t=some (.map kt et)){d:TypeDesc}(hdk:P.underlying kt=some d){kc:Nat}(hd:Zd6 d=some kc){m k v:AVal}{vm vk:Value}{c:Cls}(ts:List TypeId)(ty:TypeId)(hm:VR I V m vm)(hk:VR I V k vk)
  (h:ZkS G kc m k=some (v,G',c)):∃ w',(Builtin.delete_ (t::ts).toArray ty #[vm,vk]).run P w=.ok (.tuple #[]) w'/\v=.tup []/\Rel base w0 I0 I V G' w':=by
 unfold ZkS at h
 split at h
 case isFalse=>cases h
 rename_i hkc
 have hd':Zd6 d=some (Zbr k):=by rw[hd,hkc]
 split at h
 ·simp only[Xb,Xe]at h
  obtain⟨rfl,rfl,rfl⟩:=h
  simp only[VR]at hm
  subst hm
  exact⟨w,by simp[Builtin.delete_,run_underlying ht,Zha hdk hd],rfl,R⟩
 ·rename_i b
  simp only[VR]at hm
  obtain⟨bb,kk,cc,hb,rfl⟩:=hm
  split at h
  case h_2=>cases h
  rename_i es hs
  obtain⟨b',k',c',arr,clk,e1,e2,e3,e4,e5,e6,e7⟩:=R.blk _ _ hs
  have hb0:=hb
  rw[hb]at e1
  simp only[Xb,BI.mk.injEq]at e1
  obtain⟨rfl,rfl,rfl⟩:=e1
  have hg:=Znn (P:=P) e2
  have hlt:bb<w.heap.size:=(XZ.1 e2).1
  split at h
  ·rename_i j y hf
   simp only[Xb,Xe]at h
   obtain⟨rfl,rfl,rfl⟩:=h
   rcases Zh1 hd' hk es arr.toList 0 _ e3 e4 hf with⟨h1,_⟩ |⟨j',y',e,p,h1,h2,h3,h4,_⟩
   ·cases h1
   ·simp only[XF]at h1 h2
    injection h1 with h1
    injection h1 with h1 h1'
    subst h1 h1'
    have hr:=ZhO (P:=P) (w:=w) hdk h2
    have el:(arr.eraseIdxIfInBounds j).toList=arr.toList.eraseIdx j:=by simp
    refine⟨_,?_,rfl,ZnM R hs hb0 (arr':=arr.eraseIdxIfInBounds j) (clk':=clk) ?_ ?_ ?_ ?_ hlt⟩
    ·simp[Builtin.delete_,run_underlying ht,Zha hdk hd,hg,hr,Zm5 e2]
    ·rw[el,Zkn,Zkn];exact ZqZ j e3
    ·rw[el,Zkn,Zkn];exact ZqZ j e4
    ·exact fun q hq=>e5 q (List.mem_of_mem_eraseIdx hq)
    ·refine⟨fun e he=>?_,?_⟩
     ·grind
     grind
  ·rename_i hf
   simp only[Xb,Xe]at h
   obtain⟨rfl,rfl,rfl⟩:=h
   rcases Zh1 hd' hk es arr.toList 0 _ e3 e4 hf with⟨_,h2⟩ |⟨j',y',e,p,h1,_⟩
   ·have hr:=ZhO (P:=P) (w:=w) hdk h2
    refine⟨_,?_,rfl,ZnM R hs hb0 (arr':=arr) (clk':=clk) e3 e4 e5 ⟨e6,e7⟩ hlt⟩
    simp[Builtin.delete_,run_underlying ht,Zha hdk hd,hg,hr,Zm5 e2]
   ·cases h1
  ·cases h
 ·cases h
theorem ZFd(R:Rel base w0 I0 I V G w){t kt et:TypeId}(ht:P.underlying t=some (.map kt et)){m v:AVal}{vm:Value}{c:Cls}(ty:TypeId)(hm:VR I V m vm)(h:ZhR G m=some (v,G',c)):G'=G/\∃ u,(Builtin.len_ #[t] ty #[vm]).run P w=.ok u w/\VR I V v u:=by
 unfold ZhR at h
 split at h
 ·simp only[Xb,Xe]at h
  obtain⟨rfl,rfl,rfl⟩:=h
  simp only[VR]at hm
  subst hm
  exact⟨rfl,goInt 0,by simp[Builtin.len_,run_underlying ht],by simp[VR,goInt]⟩
 ·rename_i b
  simp only[VR]at hm
  obtain⟨bb,kk,cc,hb,rfl⟩:=hm
  split at h
  case h_2=>cases h
  rename_i es hs
  simp only[Xb,Xe]at h
  obtain⟨rfl,rfl,rfl⟩:=h
  obtain⟨b',k',c',arr,clk,e1,e2,e3,_⟩:=R.blk _ _ hs
  rw[hb]at e1
  simp only[Xb,BI.mk.injEq]at e1
  obtain⟨rfl,rfl,rfl⟩:=e1
  have hg:=Znn (P:=P) e2
  have hl:es.length=arr.size:=by simpa using ZaO e3
  exact⟨rfl,goInt arr.size,by simp[Builtin.len_,run_underlying ht,hg],by simp[VR,goInt,hl]⟩
 ·cases h
theorem ZLq(R:Rel base w0 I0 I V G w)(hb:KLt base w0)(t:TypeId){sq:Nat}(hs:G[sq]?=some .free) :
  ∃ u w',(Instr.makeMap t none).run P w=.ok u w'/\Post base w0 I0 I V (.map sq) (G.set sq (.map [])) u w':=by
 obtain⟨R',hle⟩:=R.newObj hb hs (.map #[] 0) (.map []) 1 1 (by simp[ZJ,Bmap.put_same]) rfl (by simp)
  ⟨_,_,_,#[],0,Bmap.put_same V sq 0 _,by simp,by simp[VRs],by simp[VRs],by simp,by simp[Zp9]⟩
 refine⟨.map (some w.heap.size),_,run_makeMap t w,Post.mk (Imm.le.refl I) hle R' ?_⟩
 simp only[VR]
 exact⟨_,_,_,Bmap.put_same V sq 0 _,rfl⟩
end
end
section
open Go.RowKit
section
variable {P:Program}{base:Nat->Prop}{w0 w w':World}{I0 I I':Imm}{V V':Bmap}{G G':Za}{tm:Tms}
theorem Zht{D:Type}{x:Option D}{f:D->AVal×Za×Cls}{y:AVal×Za×Cls}(h:x.map f=some y):∃ a,x=some a/\f a=y:=by simpa[Xo]using h
theorem ZHV{t:TypeId}(hu:P.underlying t=some .bool)(p q:Bool)(x y:Operand):(do eqGuard .eql t x y (.bool p) (.bool q);binOp .eql t (.bool p) (.bool q):Sem Value).run P w=.ok (.bool ((p==q) != false)) w:=by
 have h1:(eqGuard .eql t x y (.bool p) (.bool q)).run P w=.ok () w:=by simp[eqGuard]
 simp only[Sem.run_bind,h1,Result.andThen_ok,run_eql_bool w t p q hu]
 cases p<;>cases q<;>rfl
theorem ZFN{t:TypeId}(hu:P.underlying t=some .bool)(p q:Bool)(x y:Operand):(do eqGuard .neq t x y (.bool p) (.bool q);binOp .neq t (.bool p) (.bool q):Sem Value).run P w=.ok (.bool ((p==q) != true)) w:=by
 have h1:(eqGuard .neq t x y (.bool p) (.bool q)).run P w=.ok () w:=by simp[eqGuard]
 have h2:(binOp .neq t (.bool p) (.bool q)).run P w=.ok (.bool (!(p==q))) w:=by
  simp only[binOp,Sem.run_bind,run_equal_bool w t p q hu,Result.andThen_ok,Sem.run_pure]
 simp only[Sem.run_bind,h1,Result.andThen_ok,h2]
 cases p<;>cases q<;>rfl
theorem Zzl{t e:TypeId}(hu:P.underlying t=some (.pointer e))(p q:Option Addr)(hpq:p=none\/q=none):(Op.equal t (.pointer p) (.pointer q)).run P w=.ok (p.isNone&&q.isNone) w:=by
 show(Op.equalIn (9999+1) t (.pointer p) (.pointer q)).run P w=_
 unfold Op.equalIn
 rw[Sem.run_bind,run_underlying hu]
 simp only[Result.andThen_ok]
 rcases hpq with rfl |rfl
 ·cases q<;>simp
 ·cases p<;>simp
theorem ZsJ{t e:TypeId}(hu:P.underlying t=some (.pointer e))(p q:Option Addr)(x y:Operand)(hpq:p=none\/q=none):(do eqGuard .eql t x y (.pointer p) (.pointer q);binOp .eql t (.pointer p) (.pointer q):Sem Value).run P w=.ok (.bool ((p.isNone&&q.isNone) != false)) w:=by
 have h1:(eqGuard .eql t x y (.pointer p) (.pointer q)).run P w=.ok () w:=by simp[eqGuard]
 simp only[Sem.run_bind,h1,Result.andThen_ok,binOp,Zzl hu p q hpq,Sem.run_pure]
 simp
theorem Zsn{t e:TypeId}(hu:P.underlying t=some (.pointer e))(p q:Option Addr)(x y:Operand)(hpq:p=none\/q=none):(do eqGuard .neq t x y (.pointer p) (.pointer q);binOp .neq t (.pointer p) (.pointer q):Sem Value).run P w=.ok (.bool ((p.isNone&&q.isNone) != true)) w:=by
 have h1:(eqGuard .neq t x y (.pointer p) (.pointer q)).run P w=.ok () w:=by simp[eqGuard]
 simp only[Sem.run_bind,h1,Result.andThen_ok,binOp,Zzl hu p q hpq,Sem.run_pure]
 simp
theorem ZvR{t:TypeId}{ms}(hu:P.underlying t=some (.interface ms))(neg:Bool){op:BinOp}(x:Operand)(vy:Value)(hop:op=(if neg then .neq else .eql)):(do eqGuard op t x (.const vy) .nilIface .nilIface;binOp op t .nilIface .nilIface:Sem Value).run P w=.ok (.bool (true != neg)) w:=by
 have h1:(eqGuard op t x (.const vy) .nilIface .nilIface).run P w=.ok () w:=by subst hop;cases neg<;>simp[eqGuard]
 have h2:(Op.equal t .nilIface .nilIface).run P w=.ok true w:=by
  show(Op.equalIn (9999+1) t .nilIface .nilIface).run P w=_
  unfold Op.equalIn
  rw[Sem.run_bind,run_underlying hu]
  simp only[Result.andThen_ok]
  rfl
 subst hop
 cases neg
 ·simp only[Xi,if_false]at h1 ⊢
  simp[h1,h2,binOp]
 ·simp only[if_true]at h1 ⊢
  simp[h1,h2,binOp]
theorem Zzv{t t1:TypeId}{u:Value}{ms}(hu:P.underlying t=some (.interface ms))(neg:Bool){op:BinOp}(x:Operand)(vy:Value)(hop:op=(if neg then .neq else .eql)):(do eqGuard op t x (.const vy) (.iface t1 u) .nilIface;binOp op t (.iface t1 u) .nilIface:Sem Value).run P w=.ok (.bool (false != neg)) w:=by
 have h1:(eqGuard op t x (.const vy) (.iface t1 u) .nilIface).run P w=.ok () w:=by subst hop;cases neg<;>simp[eqGuard]
 have h2:(Op.equal t (.iface t1 u) .nilIface).run P w=.ok false w:=by
  show(Op.equalIn (9999+1) t (.iface t1 u) .nilIface).run P w=_
  unfold Op.equalIn
  rw[Sem.run_bind,run_underlying hu]
  simp only[Result.andThen_ok]
  rfl
 subst hop
 cases neg
 ·simp only[Xi,if_false]at h1 ⊢
  simp[h1,h2,binOp]
 ·simp only[if_true]at h1 ⊢
  simp[h1,h2,binOp]
def OpR(P:Program)(s:Sem Next)(w:World)(base:Nat->Prop)(w0:World)(I0 I:Imm)(V:Bmap)(v:AVal)(G':Za):Prop :=
 OpOk P s w (Post base w0 I0 I V v G')\/∃ x,v=.pan x/\OpPan P s w (Post base w0 I0 I V x G')
theorem OpR.of_call{s:Sem Next}{f:FuncId}{args:Array Value}{v:AVal}(h:s.run P w=.ok (.enter f args) w)(hc:Calls P f args w (fun e w'=>∃ u,Ends v e u/\Post base w0 I0 I V (ZaX v) G' u w')):OpR P s w base w0 I0 I V v G':=by
 by_cases hp:∃ x,v=.pan x
 ·obtain⟨x,rfl⟩:=hp
  exact Xt ⟨x,rfl,Xt ⟨f,args,w,h,hc.mono fun e w' ⟨u,h1,h2⟩=>⟨u,h1,h2⟩⟩⟩
 ·have hn:∀ x,v≠.pan x:=fun x e=>hp ⟨x,e⟩
  refine Xq (Xt (Xt ⟨f,args,w,h,hc.mono fun e w' ⟨u,h1,h2⟩=>⟨u,?_,by rw[Zgs hn]at h2;exact h2⟩⟩))
  cases v<;>first |exact h1 |grind
theorem ZIC{O:ZS}(hO:ZaM P O){bf:Nat->Bool}{an:Ann}{a:Act}{o:Oper}{own:Nat}{ins:Ins}(x:Operand)(ho:o.op=.move x)(hc:Zad P an own (.move x)=some ins)(T:TR I V tm a.tmps)(R:Rel base w0 I0 I V G w)(hb:KLt base w0)
  {sq:Nat} (hsite:nsite ins≠0->G[sq]?=some .free) {v:AVal} {c:Cls} (h:execI O bf tm G sq ins=some (v,G',c)):OpOk P (execOp a.eval o) w (Post base w0 I0 I V v G'):=by
 rw[show execOp a.eval o=(pure (.value (a.eval x)):Sem Next)by unfold execOp;rw[ho]]
 simp only[Zad]at hc
 simp only[Xo]at hc
 obtain⟨y,hy,rfl⟩:=hc
 simp only[execI,Xb,Xe]at h
 obtain⟨rfl,rfl,rfl⟩:=h
 exact Xq ⟨_,w,rfl,Post.here R (Zay T hy)⟩
theorem ZOl{O:ZS}(hO:ZaM P O){bf:Nat->Bool}{an:Ann}{a:Act}{o:Oper}{own:Nat}{ins:Ins}(x:Operand)(ho:o.op=.assign x)(hc:Zad P an own (.assign x)=some ins)(T:TR I V tm a.tmps)(R:Rel base w0 I0 I V G w)(hb:KLt base w0)
  {sq:Nat} (hsite:nsite ins≠0->G[sq]?=some .free) {v:AVal} {c:Cls} (h:execI O bf tm G sq ins=some (v,G',c)):OpOk P (execOp a.eval o) w (Post base w0 I0 I V v G'):=by
 rw[show execOp a.eval o=(pure (.value (a.eval x)):Sem Next)by unfold execOp;rw[ho]]
 simp only[Zad]at hc
 simp only[Xo]at hc
 obtain⟨y,hy,rfl⟩:=hc
 simp only[execI,Xb,Xe]at h
 obtain⟨rfl,rfl,rfl⟩:=h
 exact Xq ⟨_,w,rfl,Post.here R (Zay T hy)⟩
theorem ZCi{O:ZS}(hO:ZaM P O){bf:Nat->Bool}{an:Ann}{a:Act}{o:Oper}{own:Nat}{ins:Ins}(x:Operand)(y:Operand)(z:Operand)(ho:o.op=.pick x y z)(hc:Zad P an own (.pick x y z)=some ins)(T:TR I V tm a.tmps)(R:Rel base w0 I0 I V G w)(hb:KLt base w0)
  {sq:Nat} (hsite:nsite ins≠0->G[sq]?=some .free) {v:AVal} {c:Cls} (h:execI O bf tm G sq ins=some (v,G',c)):OpOk P (execOp a.eval o) w (Post base w0 I0 I V v G'):=by
 rw[show execOp a.eval o=(do pure (.value (if <-asBool (a.eval x)then a.eval y else a.eval z)):Sem Next)by unfold execOp;rw[ho]]
 simp only[Zad]at hc
 split at hc
 ·rename_i c' a' b' hx hy hz
  injection hc with hc;subst hc
  have hx':=Zay T hx
  simp only[execI]at h
  unfold Zhh at h
  split at h
  ·rename_i e
   rw[e]at hx';simp only[VR]at hx'
   simp only[Xb,Xe]at h
   obtain⟨rfl,rfl,rfl⟩:=h
   exact Xq ⟨_,w,by simp[hx',asBool],Post.here R (Zay T hy)⟩
  ·rename_i e
   rw[e]at hx';simp only[VR]at hx'
   simp only[Xb,Xe]at h
   obtain⟨rfl,rfl,rfl⟩:=h
   exact Xq ⟨_,w,by simp[hx',asBool],Post.here R (Zay T hz)⟩
  ·cases h
 ·cases hc
theorem ZCm{O:ZS}(hO:ZaM P O){bf:Nat->Bool}{an:Ann}{a:Act}{o:Oper}{own:Nat}{ins:Ins}(e:TypeId)(ho:o.op=.alloc e)(hc:Zad P an own (.alloc e)=some ins)(T:TR I V tm a.tmps)(R:Rel base w0 I0 I V G w)(hb:KLt base w0)
  {sq:Nat} (hsite:nsite ins≠0->G[sq]?=some .free) {v:AVal} {c:Cls} (h:execI O bf tm G sq ins=some (v,G',c)):OpOk P (execOp a.eval o) w (Post base w0 I0 I V v G'):=by
 rw[show execOp a.eval o=(do pure (.value (<-Instr.alloc e true (.tuple #[]))):Sem Next)by unfold execOp;rw[ho]]
 simp only[Zad]at hc
 simp only[Xo]at hc
 obtain⟨z,hz,rfl⟩:=hc
 simp only[execI,Xb,Xe]at h
 obtain⟨rfl,rfl,rfl⟩:=h
 exact OpOk.val (ZTM R hb hz (hsite (by simp[nsite])))
theorem ZK6{O:ZS}(hO:ZaM P O){bf:Nat->Bool}{an:Ann}{a:Act}{o:Oper}{own:Nat}{ins:Ins}(e:TypeId)(x:Operand)(ho:o.op=.box e x)(hc:Zad P an own (.box e x)=some ins)(T:TR I V tm a.tmps)(R:Rel base w0 I0 I V G w)(hb:KLt base w0)
  {sq:Nat} (hsite:nsite ins≠0->G[sq]?=some .free) {v:AVal} {c:Cls} (h:execI O bf tm G sq ins=some (v,G',c)):OpOk P (execOp a.eval o) w (Post base w0 I0 I V v G'):=by
 rw[show execOp a.eval o=(do pure (.value (<-Instr.box e (a.eval x))):Sem Next)by unfold execOp;rw[ho]]
 simp only[Zad]at hc
 simp only[Xo]at hc
 obtain⟨y,hy,rfl⟩:=hc
 simp only[execI]at h
 split at h
 ·cases h
 ·cases h
 ·cases h
 ·rename_i _ hnt _
  simp only[Xb,Xe]at h
  obtain⟨rfl,rfl,rfl⟩:=h
  exact OpOk.val (ZBV R hb hnt (Zay T hy) (hsite (by simp[nsite])))
theorem ZRl{O:ZS}(hO:ZaM P O){bf:Nat->Bool}{an:Ann}{a:Act}{o:Oper}{own:Nat}{ins:Ins}(t:TypeId)(parts:Array (Nat×Operand))(ho:o.op=.build t parts)(hc:Zad P an own (.build t parts)=some ins)(T:TR I V tm a.tmps)(R:Rel base w0 I0 I V G w)(hb:KLt base w0)
  {sq:Nat} (hsite:nsite ins≠0->G[sq]?=some .free) {v:AVal} {c:Cls} (h:execI O bf tm G sq ins=some (v,G',c)):OpOk P (execOp a.eval o) w (Post base w0 I0 I V v G'):=by
 rw[show execOp a.eval o=(do pure (.value (<-Instr.build t (parts.map fun(i,x)=>(i,a.eval x)))):Sem Next)by unfold execOp;rw[ho]]
 simp only[Zad]at hc
 have hc0:Zad P an own (.build t parts)=some ins:=by simp only[Zad];exact hc
 obtain⟨zs,ps,rfl⟩:∃ zs ps,ins=.build zs ps:=by
  split at hc
  ·split at hc
   ·simp only[Xo]at hc;grind
   ·cases hc
  ·split at hc
   ·simp only[Xo]at hc;grind
   ·cases hc
  ·cases hc
 simp only[execI]at h
 split at h
 ·rename_i cs hf
  simp only[Xb,Xe]at h
  obtain⟨rfl,rfl,rfl⟩:=h
  obtain⟨u,h1,h2⟩:=ZQV (w:=w) T hc0 hf
  exact OpOk.val ⟨u,w,h1,Post.here R h2⟩
 ·cases h
theorem ZSL{O:ZS}(hO:ZaM P O){bf:Nat->Bool}{an:Ann}{a:Act}{o:Oper}{own:Nat}{ins:Ins}(t:TypeId)(n:Nat)(parts:Array (Nat×Operand))(ho:o.op=.buildSlice t n parts)(hc:Zad P an own (.buildSlice t n parts)=some ins)(T:TR I V tm a.tmps)(R:Rel base w0 I0 I V G w)(hb:KLt base w0)
  {sq:Nat} (hsite:nsite ins≠0->G[sq]?=some .free) {v:AVal} {c:Cls} (h:execI O bf tm G sq ins=some (v,G',c)):OpOk P (execOp a.eval o) w (Post base w0 I0 I V v G'):=by
 rw[show execOp a.eval o=(do pure (.value (<-Instr.buildSlice t n (parts.map fun(i,x)=>(i,a.eval x)))):Sem Next)by unfold execOp;rw[ho]]
 simp only[Zad]at hc
 split at hc
 ·rename_i k bytes z he
  split at hc
  ·rename_i hn
   simp only[Xo]at hc
   obtain⟨ps,hps,rfl⟩:=hc
   split at h
   ·rename_i ho
    exact OpOk.val (ZJ6 T R hb he hn hps (hsite (by rw[if_pos ho];simp[nsite])) h)
   ·rename_i ho
    exact OpOk.val (ZUt T R hb he hn hps (fun ho'=>hsite (by rw[if_neg ho];simp[nsite,ho'])) h)
  ·cases hc
 ·cases hc
theorem ZB5{O:ZS}(hO:ZaM P O){bf:Nat->Bool}{an:Ann}{a:Act}{o:Oper}{own:Nat}{ins:Ins}(t:TypeId)(x:Operand)(ho:o.op=.load t x)(hc:Zad P an own (.load t x)=some ins)(T:TR I V tm a.tmps)(R:Rel base w0 I0 I V G w)(hb:KLt base w0)
  {sq:Nat} (hsite:nsite ins≠0->G[sq]?=some .free) {v:AVal} {c:Cls} (h:execI O bf tm G sq ins=some (v,G',c)):OpOk P (execOp a.eval o) w (Post base w0 I0 I V v G'):=by
 rw[show execOp a.eval o=(do pure (.value (<-Instr.loadAt t (a.eval x))):Sem Next)by unfold execOp;rw[ho]]
 simp only[Zad]at hc
 split at hc
 ·rename_i k y hk hy
  injection hc with hc;subst hc
  simp only[execI]at h
  obtain⟨u,h1,h2,rfl⟩:=Zv1 hk R (Zay T hy) h
  exact OpOk.val ⟨u,w,h1,Post.here R h2⟩
 ·cases hc
theorem ZGz{O:ZS}(hO:ZaM P O){bf:Nat->Bool}{an:Ann}{a:Act}{o:Oper}{own:Nat}{ins:Ins}(t:TypeId)(x:Operand)(y:Operand)(ho:o.op=.store t x y)(hc:Zad P an own (.store t x y)=some ins)(T:TR I V tm a.tmps)(R:Rel base w0 I0 I V G w)(hb:KLt base w0)
  {sq:Nat} (hsite:nsite ins≠0->G[sq]?=some .free) {v:AVal} {c:Cls} (h:execI O bf tm G sq ins=some (v,G',c)):OpOk P (execOp a.eval o) w (Post base w0 I0 I V v G'):=by
 rw[show execOp a.eval o=(do Instr.storeAt t (a.eval x) (a.eval y);pure .skip:Sem Next)by unfold execOp;rw[ho]]
 simp only[Zad]at hc
 split at hc
 ·rename_i k x' y' hk hx hy
  injection hc with hc;subst hc
  simp only[execI]at h
  exact OpOk.unit (ZIt hk R (Zay T hx) (Zay T hy) h)
 ·cases hc
theorem ZHG{O:ZS}(hO:ZaM P O){bf:Nat->Bool}{an:Ann}{a:Act}{o:Oper}{own:Nat}{ins:Ins}(x:Operand)(ho:o.op=.nilCheck x)(hc:Zad P an own (.nilCheck x)=some ins)(T:TR I V tm a.tmps)(R:Rel base w0 I0 I V G w)(hb:KLt base w0)
  {sq:Nat} (hsite:nsite ins≠0->G[sq]?=some .free) {v:AVal} {c:Cls} (h:execI O bf tm G sq ins=some (v,G',c)):OpOk P (execOp a.eval o) w (Post base w0 I0 I V v G'):=by
 simp only[Zad]at hc
 simp only[Xo]at hc
 obtain⟨y,hy,rfl⟩:=hc
 have hx:=Zay T hy
 have key:∀ ad,a.eval x=.pointer (some ad)->execOp a.eval o=pure (.value (a.eval x)):=by
  intro ad e
  unfold execOp
  rw[ho]
  simp only[e]
 simp only[execI]at h
 split at h
 ·rename_i t' o' e
  simp only[Xb,Xe]at h
  obtain⟨rfl,rfl,rfl⟩:=h
  rw[e]at hx
  have hx':=hx
  simp only[VR]at hx'
  obtain⟨b,k,c',_,hp⟩:=hx'
  rw[key _ hp]
  exact Xq ⟨a.eval x,w,rfl,Post.here R hx⟩
 ·rename_i t' g' i' o' e
  simp only[Xb,Xe]at h
  obtain⟨rfl,rfl,rfl⟩:=h
  rw[e]at hx
  have hx':=hx
  simp only[VR]at hx'
  obtain⟨b,k,c',_,hp⟩:=hx'
  rw[key _ hp]
  exact Xq ⟨a.eval x,w,rfl,Post.here R hx⟩
 ·rename_i cs o' e
  simp only[Xb,Xe]at h
  obtain⟨rfl,rfl,rfl⟩:=h
  rw[e]at hx
  have hx':=hx
  simp only[VR]at hx'
  obtain⟨b,off,hp,_⟩:=hx'
  rw[key _ hp]
  exact Xq ⟨a.eval x,w,rfl,Post.here R hx⟩
 ·cases h
theorem ZUw {O : ZS} (hO : ZaM P O) {bf : Nat -> Bool} {an : Ann} {a : Act} {o : Oper} {own : Nat} {ins : Ins} (op : BinOp) (t : TypeId) (x : Operand) (y : Operand) (yt : TypeId) (ho : o.op = .binOp op t x y yt) (hc : Zad P an own (.binOp op t x y yt) = some ins) (T : TR I V tm a.tmps) (R : Rel base w0 I0 I V G w) (hb : KLt base w0)
    {sq : Nat} (hsite : nsite ins ≠ 0 -> G[sq]? = some .free) {v : AVal} {c : Cls} (h : execI O bf tm G sq ins = some (v, G', c)) : OpOk P (execOp a.eval o) w (Post base w0 I0 I V v G') := by
  rw [show execOp a.eval o = (do pure (.value (<- (do eqGuard op t x y (a.eval x) (a.eval y); binOp op t (a.eval x) (a.eval y)))) : Sem Next) by unfold execOp; rw [ho]]
  simp only [Zad] at hc
  split at hc
  . rename_i x' y' hx hy
    have hx' := Zay T hx
    have hy' := Zay T hy
    unfold ZuQ at hc
    split at hc
    . injection hc with hc; subst hc
      simp only [execI] at h
      obtain ⟨r, hr, he⟩ := Zht h
      simp only [Xe] at he
      obtain ⟨rfl, rfl, rfl⟩ := he
      obtain ⟨u, h1, h2⟩ := ZwM (P := P) (w := w) (t := t) x y hx' hy' hr
      exact OpOk.val ⟨u, w, h1, Post.here R h2⟩
    . injection hc with hc; subst hc
      simp only [execI] at h
      obtain ⟨r, hr, he⟩ := Zht h
      simp only [Xe] at he
      obtain ⟨rfl, rfl, rfl⟩ := he
      obtain ⟨u, h1, h2⟩ := ZwM (P := P) (w := w) (t := t) x y hx' hy' hr
      exact OpOk.val ⟨u, w, h1, Post.here R h2⟩
    . rename_i hu
      split at hc
      all_goals first
        | (cases hc; done)
        | (injection hc with hc; subst hc
           simp only [execI] at h
           split at h
           . rename_i p q e1 e2
             rw [e1] at hx'; rw [e2] at hy'
             simp only [VR] at hx' hy'
             simp only [Xb, Xe] at h
             obtain ⟨rfl, rfl, rfl⟩ := h
             refine OpOk.val ⟨_, w, ?_, Post.here R (by simp only [VR]; rfl)⟩
             rw [hx', hy']
             first | exact ZHV hu p q x y | exact ZFN hu p q x y
           . cases h)
    . rename_i elem hu
      split at hc
      all_goals first
        | (cases hc; done)
        | (injection hc with hc; subst hc
           simp only [execI] at h
           split at h
           . rename_i e1 e2
             rw [e1] at hx'; rw [e2] at hy'
             simp only [VR] at hx' hy'
             simp only [Xb, Xe] at h
             obtain ⟨rfl, rfl, rfl⟩ := h
             refine OpOk.val ⟨_, w, ?_, Post.here R (by simp only [VR]; rfl)⟩
             rw [hx', hy']
             first | exact ZsJ hu _ _ x y (by simp) | exact Zsn hu _ _ x y (by simp)
           . rename_i t1 o1 e1 e2
             rw [e1] at hx'; rw [e2] at hy'
             simp only [VR] at hx' hy'
             obtain ⟨b, k, c', _, hy'⟩ := hy'
             simp only [Xb, Xe] at h
             obtain ⟨rfl, rfl, rfl⟩ := h
             refine OpOk.val ⟨_, w, ?_, Post.here R (by simp only [VR]; rfl)⟩
             rw [hx', hy']
             first | exact ZsJ hu _ _ x y (by simp) | exact Zsn hu _ _ x y (by simp)
           . rename_i t1 o1 e1 e2
             rw [e1] at hx'; rw [e2] at hy'
             simp only [VR] at hx' hy'
             obtain ⟨b, k, c', _, hx'⟩ := hx'
             simp only [Xb, Xe] at h
             obtain ⟨rfl, rfl, rfl⟩ := h
             refine OpOk.val ⟨_, w, ?_, Post.here R (by simp only [VR]; rfl)⟩
             rw [hx', hy']
             first | exact ZsJ hu _ _ x y (by simp) | exact Zsn hu _ _ x y (by simp)
           . cases h)
    . rename_i fs hu
      split at hc
      case isFalse => cases hc
      rename_i hfl
      have fin : ∀ (neg : Bool), op = (if neg then .neq else .eql) -> execI O bf tm G sq (.eqv neg (fs.toList.map fun f => (ZhE P f.type).getD 3) x' y') = some (v, G', c) -> OpOk P (do pure (.value (<- (do eqGuard op t x y (a.eval x) (a.eval y); binOp op t (a.eval x) (a.eval y))))) w (Post base w0 I0 I V v G') := by
        intro neg hop h
        simp only [execI] at h
        split at h
        . rename_i xs ys e1 e2
          rw [e1] at hx'; rw [e2] at hy'
          simp only [VR] at hx' hy'
          obtain ⟨us, hx1, hx2⟩ := hx'
          obtain ⟨vs, hy1, hy2⟩ := hy'
          split at h
          case isFalse => cases h
          rename_i hk
          split at h
          . rename_i b hb'
            simp only [Xb, Xe] at h
            obtain ⟨rfl, rfl, rfl⟩ := h
            refine OpOk.val ⟨_, w, ?_, Post.here R (by simp only [VR]; rfl)⟩
            rw [hx1, hy1]
            exact ZPY hu hfl hx2 hy2 (ZwW hk) hb' neg hop x y
          . cases h
        . cases h
      grind
    . rename_i ms hu
      have fin : ∀ (neg : Bool), y' = .c .nili -> op = (if neg then .neq else .eql) -> execI O bf tm G sq (.ieq neg x' y') = some (v, G', c) -> OpOk P (do pure (.value (<- (do eqGuard op t x y (a.eval x) (a.eval y); binOp op t (a.eval x) (a.eval y))))) w (Post base w0 I0 I V v G') := by
        intro neg hy0 hop h
        subst hy0
        obtain ⟨vy, rfl⟩ : ∃ vy, y = .const vy := by
          cases y with
          | const vy => grind
          | tmp t => simp [Zat] at hy
          | func f => simp only [Zat] at hy; split at hy <;> simp at hy
          | global g => simp [Zat] at hy
        simp only [Opd.ev, VR] at hy'
        have hms : P.underlying t = some (.interface ms) := hu
        simp only [execI] at h
        rw [show (Opd.c AVal.nili).ev tm = .nili from rfl] at h
        split at h
        . rename_i e1 e2
          rw [e1] at hx'
          simp only [VR] at hx'
          simp only [Xb, Xe] at h
          obtain ⟨rfl, rfl, rfl⟩ := h
          refine OpOk.val ⟨_, w, ?_, Post.here R (by simp only [VR]; rfl)⟩
          rw [hx', hy']
          exact ZvR hms neg x vy hop
        . grind
        . rename_i t1 x1 e1 e2
          rw [e1] at hx'
          simp only [VR] at hx'
          obtain ⟨u, hx', _⟩ := hx'
          simp only [Xb, Xe] at h
          obtain ⟨rfl, rfl, rfl⟩ := h
          refine OpOk.val ⟨_, w, ?_, Post.here R (by simp only [VR]; rfl)⟩
          rw [hx', hy']
          exact Zzv hms neg x vy hop
        . cases h
      grind
    . cases hc
  . cases hc
theorem ZMz{O:ZS}(hO:ZaM P O){bf:Nat->Bool}{an:Ann}{a:Act}{o:Oper}{own:Nat}{ins:Ins}(op:UnOp)(t:TypeId)(x:Operand)(ho:o.op=.unOp op t x)(hc:Zad P an own (.unOp op t x)=some ins)(T:TR I V tm a.tmps)(R:Rel base w0 I0 I V G w)(hb:KLt base w0)
  {sq:Nat} (hsite:nsite ins≠0->G[sq]?=some .free) {v:AVal} {c:Cls} (h:execI O bf tm G sq ins=some (v,G',c)):OpOk P (execOp a.eval o) w (Post base w0 I0 I V v G'):=by
 rw[show execOp a.eval o=(do pure (.value (<-Op.unary op (a.eval x))):Sem Next)by unfold execOp;rw[ho]]
 simp only[Zad]at hc
 simp only[Xo]at hc
 obtain⟨y,hy,rfl⟩:=hc
 simp only[execI]at h
 obtain⟨r,hr,he⟩:=Zht h
 simp only[Xe]at he
 obtain⟨rfl,rfl,rfl⟩:=he
 obtain⟨u,h1,h2⟩:=ZUs (P:=P) (w:=w) (Zay T hy) hr
 exact OpOk.val ⟨u,w,h1,Post.here R h2⟩
theorem ZBl{O:ZS}(hO:ZaM P O){bf:Nat->Bool}{an:Ann}{a:Act}{o:Oper}{own:Nat}{ins:Ins}(src:TypeId)(dst:TypeId)(x:Operand)(ho:o.op=.convert src dst x)(hc:Zad P an own (.convert src dst x)=some ins)(T:TR I V tm a.tmps)(R:Rel base w0 I0 I V G w)(hb:KLt base w0)
  {sq:Nat} (hsite:nsite ins≠0->G[sq]?=some .free) {v:AVal} {c:Cls} (h:execI O bf tm G sq ins=some (v,G',c)):OpOk P (execOp a.eval o) w (Post base w0 I0 I V v G'):=by
 rw[show execOp a.eval o=(do pure (.value (<-convert src dst (a.eval x))):Sem Next)by unfold execOp;rw[ho]]
 simp only[Zad]at hc
 split at hc
 ·rename_i y hy
  have hx:=Zay T hy
  unfold Zy2 at hc
  split at hc
  ·rename_i k1 k2 hs hd
   injection hc with hc;subst hc
   simp only[execI]at h
   split at h
   ·rename_i k n e
    rw[e]at hx;simp only[VR]at hx
    simp only[Xb,Xe]at h
    obtain⟨rfl,rfl,rfl⟩:=h
    refine OpOk.val ⟨.int k2 (k2.wrap n),w,?_,Post.here R (by simp only[VR])⟩
    rw[hx]
    simp[convert,run_underlying hs,run_underlying hd,Conv.intToInt]
   ·cases h
  ·rename_i hs hd
   injection hc with hc;subst hc
   simp only[execI]at h
   split at h
   ·rename_i k n e
    rw[e]at hx;simp only[VR]at hx
    simp only[Xb,Xe]at h
    obtain⟨rfl,rfl,rfl⟩:=h
    refine OpOk.val ⟨.string (Utf8.encode n),w,?_,Post.here R ?_⟩
    ·rw[hx]
     simp[convert,run_underlying hs,run_underlying hd,Conv.intToString]
    ·simp only[VR]
     refine⟨by simp,?_⟩
     unfold Utf8.encode
     grind
   ·cases h
  ·rename_i hs hd
   injection hc with hc;subst hc
   simp only[execI]at h
   split at h
   ·rename_i l e
    rw[e]at hx
    have hx':=hx
    simp only[VR]at hx'
    simp only[Xb,Xe]at h
    obtain⟨rfl,rfl,rfl⟩:=h
    refine OpOk.val ⟨_,w,?_,Post.here R hx⟩
    rw[hx'.1]
    simp[convert,run_underlying hs,run_underlying hd]
   ·cases h
  ·rename_i e hs hd
   split at hc
   ·rename_i he
    injection hc with hc;subst hc
    simp only[execI]at h
    split at h
    ·rename_i l e'
     rw[e']at hx
     simp only[VR]at hx
     simp only[Xb,Xe]at h
     obtain⟨rfl,rfl,rfl⟩:=h
     rw[hx.1]
     exact OpOk.val (ZRP hs hd he R hb hx.2)
    ·cases h
   ·cases hc
  ·rename_i e1 e hs hd
   split at hc
   ·rename_i hsd
    subst hsd
    split at hc
    ·rename_i he
     injection hc with hc;subst hc
     simp only[execI]at h
     split at h
     ·rename_i t' g n ev
      rw[ev]at hx
      split at h
      ·rename_i g' k xs hrow
       split at h
       ·rename_i hcond
        obtain⟨rfl,hn,h0⟩:=hcond
        simp only[Xb,Xe]at h
        obtain⟨rfl,rfl,rfl⟩:=h
        obtain⟨w1,h1,h2⟩:=ZHo hd he R hrow hn h0 hx
        exact OpOk.val ⟨_,w1,h1,h2⟩
       ·cases h
      ·cases h
     ·cases h
    ·cases hc
   ·cases hc
  ·rename_i e hs hd
   split at hc
   ·rename_i he
    injection hc with hc;subst hc
    simp only[execI]at h
    split at h
    ·rename_i xs ts hel
     split at h
     ·rename_i l hl
      simp only[Xb,Xe]at h
      obtain⟨rfl,rfl,rfl⟩:=h
      by_cases hst:∃ l',y.ev tm=.str l'
      ·obtain⟨l',e'⟩:=hst
       rw[e']at hel hx
       simp only[ZZ,Xb,Xe]at hel
       obtain⟨rfl,rfl⟩:=hel
       simp only[VR]at hx
       have hll:l=l':=by
        obtain⟨ns,e1,e2⟩:=ZsN hl
        subst e2
        have : l'.map Zh=ns.map (AVal.int .u8):=e1
        apply List.ext_getElem?
        intro j
        have hj:=congrArg (fun q:List AVal=>q[j]?) this
        simp only[Xab]at hj ⊢
        cases h1:l'[j]? <;> cases h2:ns[j]? <;> simp_all[Zh]
        rename_i b n
        rw[<-hj];simp
       subst hll
       refine OpOk.val ⟨.string ⟨l.toArray⟩,w,?_,Post.here R (by simp only[VR];grind)⟩
       rw[hx.1]
       simp[convert,run_underlying hs,run_underlying hd]
      ·have hrd:=ZlZ R (fun l' e'=>hst ⟨l',e'⟩) hel hx
       obtain⟨h1,h2⟩:=ZGp (P:=P) hs he hd hrd hl
       exact OpOk.val ⟨_,w,h1,Post.here R (by simp only[VR];grind)⟩
     ·cases h
    ·cases h
   ·cases hc
  ·cases hc
 ·cases hc
theorem ZBr{O:ZS}(hO:ZaM P O){bf:Nat->Bool}{an:Ann}{a:Act}{o:Oper}{own:Nat}{ins:Ins}(t:TypeId)(x:Operand)(lo:Option Operand)(hi:Option Operand)(mx:Option Operand)(ho:o.op=.slice t x lo hi mx)(hc:Zad P an own (.slice t x lo hi mx)=some ins)(T:TR I V tm a.tmps)(R:Rel base w0 I0 I V G w)(hb:KLt base w0)
  {sq:Nat} (hsite:nsite ins≠0->G[sq]?=some .free) {v:AVal} {c:Cls} (h:execI O bf tm G sq ins=some (v,G',c)):OpOk P (execOp a.eval o) w (Post base w0 I0 I V v G'):=by
 rw[show execOp a.eval o=(do pure (.value (<-Instr.sliceAt t (a.eval x) (lo.map a.eval) (hi.map a.eval) (mx.map a.eval))):Sem Next)by unfold execOp;rw[ho]]
 simp only[Zad]at hc
 split at hc
 ·rename_i x' lo' hi' mx' hx hlo hhi hmx
  split at hc
  ·rename_i hu
   split at hc
   ·injection hc with hc;subst hc
    have hmx0:mx=none:=by cases mx<;>simp_all[ZhW]
    subst hmx0
    have hx':=Zay T hx
    simp only[execI]at h
    split at h
    ·rename_i s e
     rw[e]at hx';simp only[VR]at hx'
     split at h
     ·cases h
     rename_i hh h1
     split at h
     ·cases h
     rename_i ll h2
     simp only[Xb,Xe]at h
     obtain⟨rfl,rfl,rfl⟩:=h
     refine OpOk.val ⟨_,w,?_,Post.here R (by simp only[VR];exact⟨rfl,by simp;omega⟩)⟩
     rw[hx'.1]
     exact ZHw hu hx'.2 (Zku T hlo) (Zku T hhi) h1 h2
    ·cases h
   ·cases hc
  ·rename_i e hu
   split at hc
   ·rename_i k hk
    split at hc
    ·split at hc
     ·cases hc
     ·rename_i hnn
      injection hc with hc;subst hc
      simp only[execI]at h
      obtain⟨u,h1,h2⟩:=ZGJ hu hk R (Zay T hx) (Zku T hlo) (Zku T hhi) (Zku T hmx) (by
       intro e'
       cases hi' with
       |some _=>simp at e'
       |none=>cases mx' with
        |none=>rfl
        |some q=>grind) h
      exact OpOk.val ⟨u,w,h1,h2⟩
    ·cases hc
   ·cases hc
  ·cases hc
 ·cases hc
theorem ZOz{O:ZS}(hO:ZaM P O){bf:Nat->Bool}{an:Ann}{a:Act}{o:Oper}{own:Nat}{ins:Ins}(s:TypeId)(x:Operand)(i:Nat)(ho:o.op=.fieldAddr s x i)(hc:Zad P an own (.fieldAddr s x i)=some ins)(T:TR I V tm a.tmps)(R:Rel base w0 I0 I V G w)(hb:KLt base w0)
  {sq:Nat} (hsite:nsite ins≠0->G[sq]?=some .free) {v:AVal} {c:Cls} (h:execI O bf tm G sq ins=some (v,G',c)):OpOk P (execOp a.eval o) w (Post base w0 I0 I V v G'):=by
 rw[show execOp a.eval o=(do pure (.value (<-Instr.fieldAt s (a.eval x) i)):Sem Next)by unfold execOp;rw[ho]]
 simp only[Zad]at hc
 split at hc
 ·rename_i fields x' hs hx
  split at hc
  ·rename_i f hf
   split at hc
   ·rename_i k hk
    split at hc
    ·cases hc
    ·rename_i hk0
     injection hc with hc;subst hc
     simp only[execI]at h
     obtain⟨r,hr,he⟩:=Zht h
     simp only[Xe]at he
     obtain⟨rfl,rfl,rfl⟩:=he
     obtain⟨u,h1,h2⟩:=ZJW (w:=w) hs hf hk hk0 (Zay T hx) hr
     exact OpOk.val ⟨u,w,h1,Post.here R h2⟩
   ·cases hc
  ·cases hc
 ·cases hc
theorem ZHf{O:ZS}(hO:ZaM P O){bf:Nat->Bool}{an:Ann}{a:Act}{o:Oper}{own:Nat}{ins:Ins}(s:TypeId)(x:Operand)(i:Nat)(ho:o.op=.field s x i)(hc:Zad P an own (.field s x i)=some ins)(T:TR I V tm a.tmps)(R:Rel base w0 I0 I V G w)(hb:KLt base w0)
  {sq:Nat} (hsite:nsite ins≠0->G[sq]?=some .free) {v:AVal} {c:Cls} (h:execI O bf tm G sq ins=some (v,G',c)):OpOk P (execOp a.eval o) w (Post base w0 I0 I V v G'):=by
 rw[show execOp a.eval o=(do pure (.value (<-Instr.field s (a.eval x) i)):Sem Next)by unfold execOp;rw[ho]]
 simp only[Zad]at hc
 split at hc
 ·rename_i fields x' hs hx
  split at hc
  ·rename_i f hf
   simp only[Xo]at hc
   obtain⟨k,hk,rfl⟩:=hc
   have hx':=Zay T hx
   simp only[execI]at h
   split at h
   ·rename_i cs e
    rw[e]at hx';simp only[VR]at hx'
    obtain⟨us,hus,hv⟩:=hx'
    obtain⟨r,hr,he⟩:=Zht h
    simp only[Xe]at he
    obtain⟨rfl,rfl,rfl⟩:=he
    obtain⟨u,h1,h2⟩:=Zyb (P:=P) (w:=w) hk hv hr
    refine OpOk.val ⟨u,w,?_,Post.here R h2⟩
    rw[hus]
    simp[Instr.field,run_underlying hs,hf,asAgg,h1]
   ·cases h
  ·cases hc
 ·cases hc
theorem ZCX{O:ZS}(hO:ZaM P O){bf:Nat->Bool}{an:Ann}{a:Act}{o:Oper}{own:Nat}{ins:Ins}(t:TypeId)(x:Operand)(i:Operand)(ho:o.op=.indexAddr t x i)(hc:Zad P an own (.indexAddr t x i)=some ins)(T:TR I V tm a.tmps)(R:Rel base w0 I0 I V G w)(hb:KLt base w0)
  {sq:Nat} (hsite:nsite ins≠0->G[sq]?=some .free) {v:AVal} {c:Cls} (h:execI O bf tm G sq ins=some (v,G',c)):OpOk P (execOp a.eval o) w (Post base w0 I0 I V v G'):=by
 rw[show execOp a.eval o=(do pure (.value (<-Instr.indexAt t (a.eval x) (a.eval i))):Sem Next)by unfold execOp;rw[ho]]
 simp only[Zad]at hc
 split at hc
 ·rename_i e x' i' hu hx hi
  simp only[Xo]at hc
  obtain⟨k,hk,rfl⟩:=hc
  simp only[execI]at h
  obtain⟨u,h1,h2,rfl⟩:=ZQD hu hk R (Zay T hx) (Zay T hi) h
  exact OpOk.val ⟨u,w,h1,Post.here R h2⟩
 ·rename_i n e x' i' hu hx hi
  simp only[Xo]at hc
  obtain⟨k,hk,rfl⟩:=hc
  have hi':=Zay T hi
  simp only[execI]at h
  split at h
  ·rename_i kk ii e'
   rw[e']at hi';simp only[VR]at hi'
   split at h
   ·rename_i hb'
    obtain⟨r,hr,he⟩:=Zht h
    simp only[Xe]at he
    obtain⟨rfl,rfl,rfl⟩:=he
    obtain⟨u,h1,h2⟩:=ZQ5 (P:=P) (w:=w) (kk:=kk) hu hk (Zay T hx) hb'.1 hb'.2 hr
    exact OpOk.val ⟨u,w,by grind,Post.here R h2⟩
   ·cases h
  ·cases h
 ·cases hc
theorem ZUa{O:ZS}(hO:ZaM P O){bf:Nat->Bool}{an:Ann}{a:Act}{o:Oper}{own:Nat}{ins:Ins}(t:TypeId)(x:Operand)(i:Operand)(ho:o.op=.index t x i)(hc:Zad P an own (.index t x i)=some ins)(T:TR I V tm a.tmps)(R:Rel base w0 I0 I V G w)(hb:KLt base w0)
  {sq:Nat} (hsite:nsite ins≠0->G[sq]?=some .free) {v:AVal} {c:Cls} (h:execI O bf tm G sq ins=some (v,G',c)):OpOk P (execOp a.eval o) w (Post base w0 I0 I V v G'):=by
 rw[show execOp a.eval o=(do pure (.value (<-Instr.index t (a.eval x) (a.eval i))):Sem Next)by unfold execOp;rw[ho]]
 simp only[Zad]at hc
 split at hc
 ·rename_i x' i' hu hx hi
  injection hc with hc;subst hc
  have hx':=Zay T hx
  have hi':=Zay T hi
  simp only[execI]at h
  split at h
  ·rename_i s kk ii e1 e2
   rw[e1]at hx';rw[e2]at hi'
   simp only[VR]at hx' hi'
   split at h
   ·rename_i h0
    simp only[Xo]at h
    obtain⟨b,hbb,he⟩:=h
    simp only[Xe]at he
    obtain⟨rfl,rfl,rfl⟩:=he
    refine OpOk.val ⟨.int .u8 b.toNat,w,?_,Post.here R (by simp only[Zh,VR])⟩
    rw[hx'.1,hi']
    have hg:(⟨s.toArray⟩:ByteArray)[ii.toNat]?=some b:=by
     have hlt:=(Xn.1 hbb).1
     have : ii.toNat<Ws ⟨s.toArray⟩:=by simpa[Ws]using hlt
     rw[getElem?_pos (⟨s.toArray⟩:ByteArray) ii.toNat this]
     have:=(Xn.1 hbb).2
     rw[<-this]
     rfl
    simp[Instr.index,asIntOf,run_underlying hu,h0,hg]
   ·cases h
  ·cases h
 ·rename_i n e x' i' hu hx hi
  split at hc
  ·rename_i s k hk hk2
   injection hc with hc;subst hc
   have hx':=Zay T hx
   have hi':=Zay T hi
   simp only[execI]at h
   split at h
   ·rename_i cs kk ii e1 e2
    rw[e1]at hx';rw[e2]at hi'
    simp only[VR]at hx' hi'
    obtain⟨us,hus,hv⟩:=hx'
    split at h
    ·rename_i hb'
     obtain⟨r,hr,he⟩:=Zht h
     simp only[Xe]at he
     obtain⟨rfl,rfl,rfl⟩:=he
     obtain⟨u,h1,h2⟩:=Zyb (P:=P) (w:=w) hk hv hr
     obtain⟨ie,hie,hke⟩:∃ ie,P.info? e=some ie/\ie.size=k:=by
      unfold Zca at hk2
      cases hi:P.info? e with
      |none=>grind
      |some i=>grind
     refine OpOk.val ⟨u,w,?_,Post.here R h2⟩
     rw[hus,hi']
     simp[Instr.index,asIntOf,run_underlying hu,hb'.1,hb'.2,sizeOf,typeInfo,hie,hke,h1]
    ·cases h
   ·cases h
  ·cases hc
 ·cases hc
theorem ZVf{O:ZS}(hO:ZaM P O){bf:Nat->Bool}{an:Ann}{a:Act}{o:Oper}{own:Nat}{ins:Ins}(x:Operand)(i:Nat)(ho:o.op=.extract x i)(hc:Zad P an own (.extract x i)=some ins)(T:TR I V tm a.tmps)(R:Rel base w0 I0 I V G w)(hb:KLt base w0)
  {sq:Nat} (hsite:nsite ins≠0->G[sq]?=some .free) {v:AVal} {c:Cls} (h:execI O bf tm G sq ins=some (v,G',c)):OpOk P (execOp a.eval o) w (Post base w0 I0 I V v G'):=by
 rw[show execOp a.eval o=(do pure (.value (<-Instr.extract (a.eval x) i)):Sem Next)by unfold execOp;rw[ho]]
 simp only[Zad]at hc
 simp only[Xo]at hc
 obtain⟨y,hy,rfl⟩:=hc
 have hx:=Zay T hy
 simp only[execI]at h
 split at h
 ·rename_i vs e
  rw[e]at hx;simp only[VR]at hx
  obtain⟨us,hus,hv⟩:=hx
  obtain⟨r,hr,he⟩:=Zht h
  simp only[Xe]at he
  obtain⟨rfl,rfl,rfl⟩:=he
  obtain⟨u,h1,h2⟩:=Zcm hv hr
  have h1':us[i]?=some u:=by simpa using h1
  exact OpOk.val ⟨u,w,by rw[hus];simp[Instr.extract,h1'],Post.here R h2⟩
 ·cases h
theorem ZUO{O:ZS}(hO:ZaM P O){bf:Nat->Bool}{an:Ann}{a:Act}{o:Oper}{own:Nat}{ins:Ins}(t:TypeId)(l:Operand)(c':Operand)(ho:o.op=.makeSlice t l c')(hc:Zad P an own (.makeSlice t l c')=some ins)(T:TR I V tm a.tmps)(R:Rel base w0 I0 I V G w)(hb:KLt base w0)
  {sq:Nat} (hsite:nsite ins≠0->G[sq]?=some .free) {v:AVal} {c:Cls} (h:execI O bf tm G sq ins=some (v,G',c)):OpOk P (execOp a.eval o) w (Post base w0 I0 I V v G'):=by
 rw[show execOp a.eval o=(do pure (.value (<-Instr.makeSlice t (a.eval l) (a.eval c'))):Sem Next)by unfold execOp;rw[ho]]
 simp only[Zad]at hc
 split at hc
 ·rename_i k bytes z l' c'' he hl hc'
  injection hc with hc;subst hc
  have hl':=Zay T hl
  have hc'':=Zay T hc'
  simp only[execI]at h
  split at h
  ·rename_i li ci e1 e2
   rw[e1]at hl';rw[e2]at hc''
   simp only[VR]at hl' hc''
   split at h
   ·rename_i hcond
    simp only[Xb,Xe]at h
    obtain⟨rfl,rfl,rfl⟩:=h
    rw[hl',hc'']
    exact OpOk.val (ZO1 R hb he hcond.1 hcond.2.1 hcond.2.2.1 hcond.2.2.2.1 (hsite (by simp[nsite])))
   ·cases h
  ·cases h
 ·cases hc
theorem ZDq{O:ZS}(hO:ZaM P O){bf:Nat->Bool}{an:Ann}{a:Act}{o:Oper}{own:Nat}{ins:Ins}(fn:Fn)(first:Array Operand)(captured:Array Operand)(ho:o.op=.makeFunc fn first captured)(hc:Zad P an own (.makeFunc fn first captured)=some ins)(T:TR I V tm a.tmps)(R:Rel base w0 I0 I V G w)(hb:KLt base w0)
  {sq:Nat} (hsite:nsite ins≠0->G[sq]?=some .free) {v:AVal} {c:Cls} (h:execI O bf tm G sq ins=some (v,G',c)):OpOk P (execOp a.eval o) w (Post base w0 I0 I V v G'):=by
 rw[show execOp a.eval o=(do pure (.value (<-Instr.makeFunc fn (first.map a.eval) (captured.map a.eval))):Sem Next)by unfold execOp;rw[ho]]
 simp only[Zad]at hc
 cases fn<;>simp only at hc<;>try grind
 rename_i f
 split at hc
 case isFalse=>cases hc
 rename_i hlt
 split at hc
 ·rename_i hf
  simp only[Xo]at hc
  obtain⟨caps,hcaps,rfl⟩:=hc
  simp only[execI,Xb,Xe]at h
  obtain⟨rfl,rfl,rfl⟩:=h
  have hfe:first=#[]:=by simpa using hf
  subst hfe
  refine OpOk.val ⟨.func (.func f) #[] (captured.map a.eval),w,by simp[Instr.makeFunc],Post.here R ?_⟩
  simp only[VR,if_pos hlt]
  exact⟨_,_,rfl,rfl,by simpa using ZlQ T hcaps⟩
 ·split at hc
  case isFalse=>cases hc
  rename_i hf
  simp only[Xo]at hc
  obtain⟨caps,hcaps,rfl⟩:=hc
  simp only[execI,Xb,Xe]at h
  obtain⟨rfl,rfl,rfl⟩:=h
  have hfe:captured=#[]:=by simpa using hf
  subst hfe
  refine OpOk.val ⟨.func (.func f) (first.map a.eval) #[],w,by simp[Instr.makeFunc],Post.here R ?_⟩
  have hn:¬(f+1000000<1000000):=Nat.not_lt.2 (Nat.le_add_left _ _)
  simp only[VR,if_neg hn,Nat.add_sub_cancel]
  exact⟨_,_,rfl,rfl,by simpa using ZlQ T hcaps⟩
theorem ZKA{O:ZS}(hO:ZaM P O){bf:Nat->Bool}{an:Ann}{a:Act}{o:Oper}{own:Nat}{ins:Ins}(t:TypeId)(x:Operand)(ho:o.op=.makeInterface t x)(hc:Zad P an own (.makeInterface t x)=some ins)(T:TR I V tm a.tmps)(R:Rel base w0 I0 I V G w)(hb:KLt base w0)
  {sq:Nat} (hsite:nsite ins≠0->G[sq]?=some .free) {v:AVal} {c:Cls} (h:execI O bf tm G sq ins=some (v,G',c)):OpOk P (execOp a.eval o) w (Post base w0 I0 I V v G'):=by
 rw[show execOp a.eval o=(do pure (.value (<-Instr.makeInterface t (a.eval x))):Sem Next)by unfold execOp;rw[ho]]
 simp only[Zad]at hc
 split at hc
 ·cases hc
 ·rename_i d hd hnd
  simp only[Xo]at hc
  obtain⟨y,hy,rfl⟩:=hc
  have hy':=Zay T hy
  have hrun:∀ u,(Instr.makeInterface t u).run P w=.ok (.iface t u) w:=by
   intro u
   unfold Instr.makeInterface
   rw[Sem.run_bind,run_underlying hnd]
   simp only[Result.andThen_ok]
   cases d<;>first |rfl |exact absurd rfl (hd _)
  simp only[execI]at h
  split at h
  ·cases h
  ·cases h
  ·cases h
  ·simp only[Xb,Xe]at h
   obtain⟨rfl,rfl,rfl⟩:=h
   exact OpOk.val ⟨_,w,hrun _,Post.here R (by simp only[VR];grind)⟩
 ·cases hc
theorem ZNT{O:ZS}(hO:ZaM P O){bf:Nat->Bool}{an:Ann}{a:Act}{o:Oper}{own:Nat}{ins:Ins}(x:Operand)(ho:o.op=.panic x)(hc:Zad P an own (.panic x)=some ins)(T:TR I V tm a.tmps)(R:Rel base w0 I0 I V G w)(hb:KLt base w0)
  {sq:Nat} (hsite:nsite ins≠0->G[sq]?=some .free) {v:AVal} {c:Cls} (h:execI O bf tm G sq ins=some (v,G',c)):OpR P (execOp a.eval o) w base w0 I0 I V v G':=by
 rw[show execOp a.eval o=(do pure (.value (<-Instr.panic (a.eval x))):Sem Next)by unfold execOp;rw[ho]]
 simp only[Zad]at hc
 simp only[Xo]at hc
 obtain⟨y,hy,rfl⟩:=hc
 have hy':=Zay T hy
 simp only[execI]at h
 split at h
 ·rename_i t1 x1 e
  rw[e]at hy'
  simp only[Xb,Xe]at h
  obtain⟨rfl,rfl,rfl⟩:=h
  refine Xt ⟨_,rfl,Xq ⟨a.eval x,w,?_,Post.here R hy'⟩⟩
  simp only[VR]at hy'
  obtain⟨u,hu,_⟩:=hy'
  simp[hu,Instr.panic,goPanic]
 ·cases h
theorem ZGt{O:ZS}(hO:ZaM P O){bf:Nat->Bool}{an:Ann}{a:Act}{o:Oper}{own:Nat}{ins:Ins}(t:TypeId)(x:Operand)(ho:o.op=.range t x)(hc:Zad P an own (.range t x)=some ins)(T:TR I V tm a.tmps)(R:Rel base w0 I0 I V G w)(hb:KLt base w0)
  {sq:Nat} (hsite:nsite ins≠0->G[sq]?=some .free) {v:AVal} {c:Cls} (h:execI O bf tm G sq ins=some (v,G',c)):OpOk P (execOp a.eval o) w (Post base w0 I0 I V v G'):=by
 rw[show execOp a.eval o=(do pure (.value (<-Instr.range t (a.eval x))):Sem Next)by unfold execOp;rw[ho]]
 simp only[Zad]at hc
 split at hc
 case h_2=>cases hc
 rename_i ht
 simp only[Xo]at hc
 obtain⟨y,hy,rfl⟩:=hc
 have hy':=Zay T hy
 simp only[execI]at h
 split at h
 case h_2=>cases h
 rename_i l e
 simp only[Xb,Xe]at h
 obtain⟨rfl,rfl,rfl⟩:=h
 rw[e]at hy'
 simp only[VR]at hy'
 rw[hy'.1]
 exact OpOk.val (ZBE R hb ht (hsite (by simp[nsite])))
theorem ZN4{O:ZS}(hO:ZaM P O){bf:Nat->Bool}{an:Ann}{a:Act}{o:Oper}{own:Nat}{ins:Ins}(x:Operand)(str:Bool)(ho:o.op=.next x str)(hc:Zad P an own (.next x str)=some ins)(T:TR I V tm a.tmps)(R:Rel base w0 I0 I V G w)(hb:KLt base w0)
  {sq:Nat} (hsite:nsite ins≠0->G[sq]?=some .free) {v:AVal} {c:Cls} (h:execI O bf tm G sq ins=some (v,G',c)):OpOk P (execOp a.eval o) w (Post base w0 I0 I V v G'):=by
 rw[show execOp a.eval o=(do pure (.value (<-Instr.next (a.eval x) str o.type)):Sem Next)by unfold execOp;rw[ho]]
 simp only[Zad]at hc
 cases str
 case false=>cases hc
 simp only[Xo]at hc
 obtain⟨y,hy,rfl⟩:=hc
 have hy':=Zay T hy
 simp only[execI]at h
 split at h
 case h_2=>cases h
 rename_i t e
 rw[e]at hy'
 split at h
 case h_2=>cases h
 rename_i l p hs
 obtain⟨u,w',h1,h2⟩:=ZMZ (P:=P) R hs hy' o.type
 split at h
 ·rename_i hp
  rw[if_pos hp]at h2
  simp only[Xb,Xe]at h
  obtain⟨rfl,rfl,rfl⟩:=h
  exact OpOk.val ⟨u,w',h1,h2⟩
 ·rename_i hp
  rw[if_neg hp]at h2
  simp only[Xb,Xe]at h
  obtain⟨rfl,rfl,rfl⟩:=h
  exact OpOk.val ⟨u,w',h1,h2⟩
theorem ZOI{O:ZS}(hO:ZaM P O){bf:Nat->Bool}{an:Ann}{a:Act}{o:Oper}{own:Nat}{ins:Ins}(t:TypeId)(r:Option Operand)(ho:o.op=.makeMap t r)(hc:Zad P an own (.makeMap t r)=some ins)(T:TR I V tm a.tmps)(R:Rel base w0 I0 I V G w)(hb:KLt base w0)
  {sq:Nat} (hsite:nsite ins≠0->G[sq]?=some .free) {v:AVal} {c:Cls} (h:execI O bf tm G sq ins=some (v,G',c)):OpOk P (execOp a.eval o) w (Post base w0 I0 I V v G'):=by
 rw[show execOp a.eval o=(do pure (.value (<-Instr.makeMap t (r.map a.eval))):Sem Next)by unfold execOp;rw[ho]]
 simp only[Zad]at hc
 cases r with
 |some r=>cases hc
 |none =>
  injection hc with hc;subst hc
  simp only[execI,Xb,Xe]at h
  obtain⟨rfl,rfl,rfl⟩:=h
  exact OpOk.val (ZLq R hb t (hsite (by simp[nsite])))
theorem ZTu{O:ZS}(hO:ZaM P O){bf:Nat->Bool}{an:Ann}{a:Act}{o:Oper}{own:Nat}{ins:Ins}(t:TypeId)(x:Operand)(z:Operand)(ok:Bool)(ho:o.op=.lookup t x z ok)(hc:Zad P an own (.lookup t x z ok)=some ins)(T:TR I V tm a.tmps)(R:Rel base w0 I0 I V G w)(hb:KLt base w0)
  {sq:Nat} (hsite:nsite ins≠0->G[sq]?=some .free) {v:AVal} {c:Cls} (h:execI O bf tm G sq ins=some (v,G',c)):OpOk P (execOp a.eval o) w (Post base w0 I0 I V v G'):=by
 rw[show execOp a.eval o=(do pure (.value (<-Instr.lookup t (a.eval x) (a.eval z) ok)):Sem Next)by unfold execOp;rw[ho]]
 simp only[Zad]at hc
 split at hc
 case h_2=>cases hc
 rename_i kc zv m k hmp hm hk
 injection hc with hc;subst hc
 simp only[execI]at h
 obtain⟨kt,et,d,ht,hdk,hd,hz⟩:=Zl1 hmp
 obtain⟨rfl,u,h1,h2⟩:=ZRH R ht hdk hd hz (Zay T hm) (Zay T hk) h
 exact OpOk.val ⟨u,w,h1,Post.here R h2⟩
theorem ZFl{O:ZS}(hO:ZaM P O){bf:Nat->Bool}{an:Ann}{a:Act}{o:Oper}{own:Nat}{ins:Ins}(t:TypeId)(x:Operand)(z:Operand)(y:Operand)(ho:o.op=.mapUpdate t x z y)(hc:Zad P an own (.mapUpdate t x z y)=some ins)(T:TR I V tm a.tmps)(R:Rel base w0 I0 I V G w)(hb:KLt base w0)
  {sq:Nat} (hsite:nsite ins≠0->G[sq]?=some .free) {v:AVal} {c:Cls} (h:execI O bf tm G sq ins=some (v,G',c)):OpOk P (execOp a.eval o) w (Post base w0 I0 I V v G'):=by
 rw[show execOp a.eval o=(do Instr.mapUpdate t (a.eval x) (a.eval z) (a.eval y);pure .skip:Sem Next)by unfold execOp;rw[ho]]
 simp only[Zad]at hc
 split at hc
 case h_2=>cases hc
 rename_i kc zv m k vv hmp hm hk hv
 injection hc with hc;subst hc
 simp only[execI]at h
 obtain⟨kt,et,d,ht,hdk,hd,hz⟩:=Zl1 hmp
 obtain⟨rfl,w',h1,h2⟩:=Zu7 R ht hdk hd (Zay T hm) (Zay T hk) (Zay T hv) h
 exact OpOk.unit ⟨w',h1,Post.here h2 Zja⟩
theorem ZOt{O:ZS}(hO:ZaM P O){bf:Nat->Bool}{an:Ann}{a:Act}{o:Oper}{own:Nat}{ins:Ins}(t:TypeId)(x:Operand)(z:Operand)(y:Operand)(ho:o.op=.insert t x z y)(hc:Zad P an own (.insert t x z y)=some ins)(T:TR I V tm a.tmps)(R:Rel base w0 I0 I V G w)(hb:KLt base w0)
  {sq:Nat} (hsite:nsite ins≠0->G[sq]?=some .free) {v:AVal} {c:Cls} (h:execI O bf tm G sq ins=some (v,G',c)):OpOk P (execOp a.eval o) w (Post base w0 I0 I V v G'):=by
 rw[show execOp a.eval o=(do Instr.mapUpdate t (a.eval x) (a.eval z) (a.eval y);pure .skip:Sem Next)by unfold execOp;rw[ho]]
 simp only[Zad]at hc
 split at hc
 case h_2=>cases hc
 rename_i kc zv m k vv hmp hm hk hv
 injection hc with hc;subst hc
 simp only[execI]at h
 obtain⟨kt,et,d,ht,hdk,hd,hz⟩:=Zl1 hmp
 obtain⟨rfl,w',h1,h2⟩:=Zu7 R ht hdk hd (Zay T hm) (Zay T hk) (Zay T hv) h
 exact OpOk.unit ⟨w',h1,Post.here h2 Zja⟩
theorem ZFD{O:ZS}(hO:ZaM P O){bf:Nat->Bool}{an:Ann}{a:Act}{o:Oper}{own:Nat}{ins:Ins}(cl:Call)(ho:o.op=.call cl)(hc:Zad P an own (.call cl)=some ins)(T:TR I V tm a.tmps)(R:Rel base w0 I0 I V G w)(hb:KLt base w0)
  {sq:Nat} (hsite:nsite ins≠0->G[sq]?=some .free) {v:AVal} {c:Cls} (h:execI O bf tm G sq ins=some (v,G',c)):OpR P (execOp a.eval o) w base w0 I0 I V v G':=by
 rw[show execOp a.eval o=(do let d <-resolve a.eval cl o.type;invoke d.target d.args:Sem Next)by unfold execOp;rw[ho]]
 simp only[Zad]at hc
 unfold ZyM at hc
 split at hc
 ·cases hc
 rename_i args hargs
 have hav:=ZlQ T hargs
 obtain⟨callee,cargs,ctypes⟩:=cl
 simp only at hc hargs hav
 have hmap:(cargs.toList.map a.eval)=(cargs.map a.eval).toList:=by simp
 split at hc
 ·rename_i f
  injection hc with hc;subst hc
  simp only[execI]at h
  obtain⟨⟨fn,f1,f2,f3⟩,g2⟩:=Zpw hO R hb (vs:=cargs.map a.eval) (by grind) (fun ho=>hsite (by simp[nsite,ho])) h
  exact OpR.of_call (by simp[resolve,Act.eval,Deferred.ofValue,invoke,Zml f1 f2 f3]) g2
 ·rename_i t
  injection hc with hc;subst hc
  simp only[execI]at h
  split at h
  ·rename_i f caps hf
   have hfv:=Zay (x:=.tmp t) T rfl
   rw[hf]at hfv
   simp only[VR]at hfv
   obtain⟨fs,us,hus,h0,hcaps⟩:=hfv
   by_cases hlt:f<1000000
   ·simp only[if_pos hlt]at h hus h0
    subst h0
    obtain⟨⟨fn,f1,f2,f3⟩,g2⟩:=Zpw hO R hb (vs:=cargs.map a.eval++us) (by rw[XaT,<-hmap];exact Zc3 hav (by grind)) (fun ho=>absurd ho (by decide)) h
    exact OpR.of_call (by simp[resolve,hus,Deferred.ofValue,invoke,Zml f1 f2 f3]) g2
   ·simp only[if_neg hlt]at h hus h0
    subst h0
    obtain⟨⟨fn,f1,f2,f3⟩,g2⟩:=Zpw hO R hb (vs:=fs++cargs.map a.eval) (by rw[XaT,<-hmap];exact Zc3 (by grind) hav) (fun ho=>absurd ho (by decide)) h
    exact OpR.of_call (by simp[resolve,hus,Deferred.ofValue,invoke,Zml f1 f2 f3]) g2
  ·cases h
 ·refine Xq ?_
  split at hc
  ·rename_i t u x y hty
   split at hc
   ·rename_i k bytes z he
    obtain⟨e,i,vz,hu,hi,hik,hib,hvz,hz,hk,hby,hzl⟩:=Zj0 he
    obtain⟨hz1,hz2⟩:=Zgr (I:=I) (V:=V) hz
    have hzs:vz.cells.size=i.size:=by rw[Zh0 (Zgt hz) hz1,hzl,hik]
    have hargs2:∃ ox oy,cargs=#[ox,oy]/\Zat ox=some x/\Zat oy=some y:=by
     obtain⟨l⟩:=cargs
     match l,hargs with
     | [],hargs=>simp[Zdm]at hargs
     | [ox],hargs =>
      simp only[Zdm]at hargs
      grind
     | [ox,oy],hargs =>
      simp only[Zdm]at hargs
      grind
     |ox::oy::oz::r,hargs=>have:=ZaO hav;simp at this
    obtain⟨ox,oy,rfl,hx,hy⟩:=hargs2
    have htys:ctypes=#[t,u]:=by
     obtain⟨l⟩:=ctypes
     simpa using hty
    subst htys
    have fin:Zj4 P t u e i vz->Zan G sq k bytes (x.ev tm) (y.ev tm)=some (v,G',c)->OpOk P (do let d <-resolve a.eval { callee:=.builtin .append,args:=#[ox,oy],argTypes:=#[t,u] } o.type;invoke d.target d.args) w (Post base w0 I0 I V v G'):=by
     intro TT h
     rw[<-hik,<-hib]at h
     have hns:nsite ins≠0:=by
      split at hc
      ·injection hc with hc;subst hc;simp[nsite]
      ·split at hc
       ·injection hc with hc;subst hc;simp[nsite]
       ·cases hc
      ·cases hc
     obtain⟨vr,w1,h1,h2⟩:=ZPz (ty:=o.type) TT R hb (Zay T hx) (Zay T hy) (hsite hns) h
     exact Xq ⟨vr,w1,by simp[resolve,invoke,builtin,h1],h2⟩
    split at hc
    ·rename_i e' hu2
     injection hc with hc;subst hc
     simp only[execI]at h
     exact fin ⟨hu,Xq ⟨e',hu2⟩,hi,hvz,hzs,by omega,by omega⟩ h
    ·rename_i hu2
     split at hc
     ·injection hc with hc;subst hc
      simp only[execI]at h
      exact fin ⟨hu,Xt hu2,hi,hvz,hzs,by omega,by omega⟩ h
     ·cases hc
    ·cases hc
   ·cases hc
  ·cases hc
 ·refine Xq ?_
  split at hc
  ·rename_i t x hty
   have hargs2:∃ ox,cargs=#[ox]/\Zat ox=some x:=by
    obtain⟨l⟩:=cargs
    match l,hargs with
    | [],hargs=>simp[Zdm]at hargs
    | [ox],hargs =>
     simp only[Zdm]at hargs
     grind
    |ox::oy::r,hargs =>
     have:=ZaO hav
     simp at this
   obtain⟨ox,rfl,hx⟩:=hargs2
   have htys:ctypes=#[t]:=by
    obtain⟨l⟩:=ctypes
    simpa using hty
   subst htys
   have hx':=Zay T hx
   split at hc
   ·rename_i e hu
    injection hc with hc;subst hc
    simp only[execI]at h
    split at h
    ·rename_i b xs hh
     rw[hh]at hx';simp only[VR]at hx'
     obtain⟨A,cap,hv,_⟩:=hx'
     simp only[Xb,Xe]at h
     obtain⟨rfl,rfl,rfl⟩:=h
     refine Xq ⟨.int .i64 xs.length,w,?_,Post.here R (by simp only[VR])⟩
     simp[resolve,invoke,builtin,hv,Builtin.len_,run_underlying hu,goInt]
    ·rename_i t' g lo n hh
     rw[hh]at hx';simp only[VR]at hx'
     obtain⟨bi,_,hle,_,hv⟩:=hx'
     simp only[Xb,Xe]at h
     obtain⟨rfl,rfl,rfl⟩:=h
     refine Xq ⟨.int .i64 n,w,?_,Post.here R (by simp only[VR])⟩
     rcases hv with⟨b,_,hv⟩ |⟨_,hc0,A,hv⟩ |⟨_,_,hn0,A,hv⟩
     ·simp[resolve,invoke,builtin,hv,Builtin.len_,run_underlying hu,goInt]
     ·have : n=0:=by omega
      subst this
      simp[resolve,invoke,builtin,hv,Builtin.len_,run_underlying hu,goInt]
     ·subst hn0
      simp[resolve,invoke,builtin,hv,Builtin.len_,run_underlying hu,goInt]
    ·rename_i l hh
     rw[hh]at hx';simp only[VR]at hx'
     obtain⟨A,cap,hv,_⟩:=hx'
     simp only[Xb,Xe]at h
     obtain⟨rfl,rfl,rfl⟩:=h
     refine Xq ⟨.int .i64 l.length,w,?_,Post.here R (by simp only[VR])⟩
     simp[resolve,invoke,builtin,hv,Builtin.len_,run_underlying hu,goInt]
    ·cases h
   ·rename_i hu
    injection hc with hc;subst hc
    simp only[execI]at h
    split at h
    ·rename_i l hh
     rw[hh]at hx';simp only[VR]at hx'
     simp only[Xb,Xe]at h
     obtain⟨rfl,rfl,rfl⟩:=h
     refine Xq ⟨.int .i64 l.length,w,?_,Post.here R (by simp only[VR])⟩
     have hsz:Ws ⟨l.toArray⟩=l.length:=by simp[Ws]
     simp[resolve,invoke,builtin,hx'.1,Builtin.len_,run_underlying hu,goInt,hsz]
    ·cases h
   ·rename_i kt et hu
    injection hc with hc;subst hc
    simp only[execI]at h
    obtain⟨rfl,u,h1,h2⟩:=ZFd R hu o.type hx' h
    exact Xq ⟨u,w,by simp[resolve,invoke,builtin,h1],Post.here R h2⟩
   ·cases hc
  ·cases hc
 ·refine Xq ?_
  split at hc
  ·rename_i t ts x y hty
   split at hc
   case h_2=>cases hc
   rename_i kc zv hmp
   injection hc with hc;subst hc
   obtain⟨kt,et,d,ht,hdk,hd,hz⟩:=Zl1 hmp
   have hargs2:∃ ox oy,cargs=#[ox,oy]/\Zat ox=some x/\Zat oy=some y:=by
    obtain⟨l⟩:=cargs
    match l,hargs with
    | [],hargs=>simp[Zdm]at hargs
    | [ox],hargs =>
     simp only[Zdm]at hargs
     grind
    | [ox,oy],hargs =>
     simp only[Zdm]at hargs
     grind
    |ox::oy::oz::r,hargs=>have:=ZaO hav;simp at this
   obtain⟨ox,oy,rfl,hx,hy⟩:=hargs2
   have htys:ctypes=(t::ts).toArray:=by
    obtain⟨l⟩:=ctypes
    simpa using hty
   subst htys
   simp only[execI]at h
   obtain⟨w',h1,rfl,h2⟩:=ZUL R ht hdk hd ts o.type (Zay T hx) (Zay T hy) h
   exact Xq ⟨.tuple #[],w',by simp[resolve,invoke,builtin,h1],Post.here h2 Zja⟩
  ·cases hc
 ·refine Xq ?_
  split at hc
  ·rename_i t x hty
   have hargs2:∃ ox,cargs=#[ox]/\Zat ox=some x:=by
    obtain⟨l⟩:=cargs
    match l,hargs with
    | [],hargs=>simp[Zdm]at hargs
    | [ox],hargs =>
     simp only[Zdm]at hargs
     grind
    |ox::oy::r,hargs =>
     have:=ZaO hav
     simp at this
   obtain⟨ox,rfl,hx⟩:=hargs2
   have htys:ctypes=#[t]:=by
    obtain⟨l⟩:=ctypes
    simpa using hty
   subst htys
   split at hc
   ·rename_i k bytes z he
    injection hc with hc;subst hc
    simp only[execI]at h
    obtain⟨vr,w1,h1,h2⟩:=ZJO (ty:=o.type) R he (Zay T hx) h
    exact Xq ⟨vr,w1,by simp[resolve,invoke,builtin,h1],h2⟩
   ·cases hc
  ·cases hc
 ·refine Xq ?_
  split at hc
  ·rename_i hl2
   injection hc with hc;subst hc
   simp only[execI]at h
   split at h
   ·rename_i k p k' q hh
    rw[hh]at hav
    simp only[VRs,VR]at hav
    obtain⟨v1,vs1,e1,rfl,v2,vs2,rfl,rfl,rfl⟩:=hav
    simp only[Xb,Xe]at h
    obtain⟨rfl,rfl,rfl⟩:=h
    have hca:cargs.map a.eval=#[.int k p,.int k' q]:=by
     apply Xbd
     simpa using e1
    refine Xq ⟨_,w,?_,Post.here R (by simp only[VR];rfl)⟩
    simp[resolve,invoke,builtin,hca,Builtin.max_,Builtin.max2]
   ·cases h
  ·cases hc
 ·refine Xq ?_
  split at hc
  ·rename_i hl2
   injection hc with hc;subst hc
   simp only[execI]at h
   split at h
   ·rename_i k p k' q hh
    rw[hh]at hav
    simp only[VRs,VR]at hav
    obtain⟨v1,vs1,e1,rfl,v2,vs2,rfl,rfl,rfl⟩:=hav
    simp only[Xb,Xe]at h
    obtain⟨rfl,rfl,rfl⟩:=h
    have hca:cargs.map a.eval=#[.int k p,.int k' q]:=by
     apply Xbd
     simpa using e1
    refine Xq ⟨_,w,?_,Post.here R (by simp only[VR];rfl)⟩
    simp[resolve,invoke,builtin,hca,Builtin.min_,Builtin.min2]
   ·cases h
  ·cases hc
 ·cases hc
theorem ZMV{O:ZS}(hO:ZaM P O){bf:Nat->Bool}{an:Ann}{a:Act}{o:Oper}{own:Nat}{ins:Ins}(hc:Zad P an own o.op=some ins)(T:TR I V tm a.tmps)(R:Rel base w0 I0 I V G w)(hb:KLt base w0)
  {sq:Nat} (hsite:nsite ins≠0->G[sq]?=some .free) {v:AVal} {c:Cls} (h:execI O bf tm G sq ins=some (v,G',c)):OpR P (execOp a.eval o) w base w0 I0 I V v G':=by
 cases ho:o.op<;>rw[ho]at hc<;>first
  |exact Xq (ZIC hO _ ho hc T R hb hsite h)
  |exact Xq (ZOl hO _ ho hc T R hb hsite h)
  |exact Xq (ZCi hO _ _ _ ho hc T R hb hsite h)
  |exact Xq (ZCm hO _ ho hc T R hb hsite h)
  |exact Xq (ZK6 hO _ _ ho hc T R hb hsite h)
  |exact Xq (ZRl hO _ _ ho hc T R hb hsite h)
  |exact Xq (ZSL hO _ _ _ ho hc T R hb hsite h)
  |exact Xq (ZB5 hO _ _ ho hc T R hb hsite h)
  |exact Xq (ZGz hO _ _ _ ho hc T R hb hsite h)
  |exact Xq (ZHG hO _ ho hc T R hb hsite h)
  |exact Xq (ZUw hO _ _ _ _ _ ho hc T R hb hsite h)
  |exact Xq (ZMz hO _ _ _ ho hc T R hb hsite h)
  |exact Xq (ZBl hO _ _ _ ho hc T R hb hsite h)
  |exact Xq (ZBr hO _ _ _ _ _ ho hc T R hb hsite h)
  |exact Xq (ZOz hO _ _ _ ho hc T R hb hsite h)
  |exact Xq (ZHf hO _ _ _ ho hc T R hb hsite h)
  |exact Xq (ZCX hO _ _ _ ho hc T R hb hsite h)
  |exact Xq (ZUa hO _ _ _ ho hc T R hb hsite h)
  |exact Xq (ZVf hO _ _ ho hc T R hb hsite h)
  |exact Xq (ZUO hO _ _ _ ho hc T R hb hsite h)
  |exact Xq (ZDq hO _ _ _ ho hc T R hb hsite h)
  |exact Xq (ZKA hO _ _ ho hc T R hb hsite h)
  |exact ZNT hO _ ho hc T R hb hsite h
  |exact Xq (ZGt hO _ _ ho hc T R hb hsite h)
  |exact Xq (ZN4 hO _ _ ho hc T R hb hsite h)
  |exact Xq (ZOI hO _ _ ho hc T R hb hsite h)
  |exact Xq (ZTu hO _ _ _ _ ho hc T R hb hsite h)
  |exact Xq (ZFl hO _ _ _ _ ho hc T R hb hsite h)
  |exact Xq (ZOt hO _ _ _ _ ho hc T R hb hsite h)
  |exact ZFD hO _ ho hc T R hb hsite h
  |(simp only[Zad]at hc;grind)
end
end
section
open Go.RowKit
section
variable {O:ZS}{bf:Nat->Bool}{tm tm':Tms}{G G' G2:Za}{sq:Nat}
theorem Opd.ev_congr{x:Opd}(h:∀ n∈x.reads,tget tm n=tget tm' n):x.ev tm=x.ev tm':=by
 cases x with
 |t n=>exact h n (by simp[Opd.reads])
 |c v=>rfl
theorem Zmf{xs:List Opd}(h:∀ n∈xs.flatMap Opd.reads,tget tm n=tget tm' n):(xs.map fun x=>x.ev tm)=xs.map fun x=>x.ev tm':=by
 apply Xax
 intro x hx
 exact Opd.ev_congr fun n hn=>h n (Wr.2 ⟨x,hx,hn⟩)
theorem ZkV{x:Option Opd}(h:∀ n∈Zjz x,tget tm n=tget tm' n):(x.map fun x=>x.ev tm)=x.map fun x=>x.ev tm':=by
 cases x with
 |none=>rfl
 |some x=>simp only[X9];rw[Opd.ev_congr (x:=x) h]
theorem Zin{ins:Ins}(h:∀ n∈ins.reads,tget tm n=tget tm' n):execI O bf tm G sq ins=execI O bf tm' G sq ins:=by
 cases ins with
 |alloc zs=>rfl
 |build zs ps =>
  have : (ps.map fun p=>(p.1,p.2.1,p.2.2.ev tm))=ps.map fun p=>(p.1,p.2.1,p.2.2.ev tm'):=by
   apply Xax
   intro p hp
   rw[Opd.ev_congr (x:=p.2.2) fun n hn=>h n (by simp only[Ins.reads];exact Wr.2 ⟨p,hp,hn⟩)]
  simp only[execI,this]
 |bslice own k n z ps =>
  have : (ps.map fun p=>p.2.ev tm)=ps.map fun p=>p.2.ev tm':=by
   apply Xax
   intro p hp
   rw[Opd.ev_congr (x:=p.2) fun n hn=>h n (by simp only[Ins.reads];exact Wr.2 ⟨p,hp,hn⟩)]
  simp only[execI,this]
 |rslice k n z ps =>
  have h0:∀ p∈ps,p.2.ev tm=p.2.ev tm':=fun p hp=>Opd.ev_congr (x:=p.2) fun n hn=>h n (by simp only[Ins.reads];grind)
  have h1:(ps.map fun p=>(p.1,p.2.ev tm))=ps.map fun p=>(p.1,p.2.ev tm'):=Xax fun p hp=>by grind
  have h2:(ps.all fun p=>(p.2.ev tm).cells.length==k&&(p.2.ev tm).cells.all ZY)=ps.all fun p=>(p.2.ev tm').cells.length==k&&(p.2.ev tm').cells.all ZY:=by
   rw[Bool.eq_iff_iff,Xy,Xy]
   exact⟨fun h p hp=>by rw[<-h0 p hp];exact h p hp,fun h p hp=>by rw[h0 p hp];exact h p hp⟩
  simp only[execI,h1,h2]
 |rng x=>simp only[execI,Opd.ev_congr (x:=x) h]
 |nxt x=>simp only[execI,Opd.ev_congr (x:=x) h]
 |mkmap=>rfl
 |mlen x=>simp only[execI,Opd.ev_congr (x:=x) h]
 |look kc z ok x y=>simp only[Ins.reads,XE]at h;simp only[execI,Opd.ev_congr (x:=x) fun n hn=>h n (Xq hn),Opd.ev_congr (x:=y) fun n hn=>h n (Xt hn)]
 |mdel kc x y=>simp only[Ins.reads,XE]at h;simp only[execI,Opd.ev_congr (x:=x) fun n hn=>h n (Xq hn),Opd.ev_congr (x:=y) fun n hn=>h n (Xt hn)]
 |mset kc x y z =>
  simp only[Ins.reads,XE]at h
  simp only[execI,Opd.ev_congr (x:=x) fun n hn=>h n (Xq (Xq hn)),Opd.ev_congr (x:=y) fun n hn=>h n (Xq (Xt hn)),Opd.ev_congr (x:=z) fun n hn=>h n (Xt hn)]
 |mov x=>simp only[execI,Opd.ev_congr (x:=x) h]
 |box x=>simp only[execI,Opd.ev_congr (x:=x) h]
 |un op x=>simp only[execI,Opd.ev_congr (x:=x) h]
 |i2i k x=>simp only[execI,Opd.ev_congr (x:=x) h]
 |i2s x=>simp only[execI,Opd.ev_congr (x:=x) h]
 |clr k z x=>simp only[execI,Opd.ev_congr (x:=x) h]
 |same x=>simp only[execI,Opd.ev_congr (x:=x) h]
 |s2b x=>simp only[execI,Opd.ev_congr (x:=x) h]
 |b2s x=>simp only[execI,Opd.ev_congr (x:=x) h]
 |s2s x=>simp only[execI,Opd.ev_congr (x:=x) h]
 |faddr o x=>simp only[execI,Opd.ev_congr (x:=x) h]
 |field k o x=>simp only[execI,Opd.ev_congr (x:=x) h]
 |ext x i=>simp only[execI,Opd.ev_congr (x:=x) h]
 |len x=>simp only[execI,Opd.ev_congr (x:=x) h]
 |slen x=>simp only[execI,Opd.ev_congr (x:=x) h]
 |nilchk x=>simp only[execI,Opd.ev_congr (x:=x) h]
 |mki t x=>simp only[execI,Opd.ev_congr (x:=x) h]
 |panic x=>simp only[execI,Opd.ev_congr (x:=x) h]
 |ld k x=>simp only[execI,Opd.ev_congr (x:=x) h]
 |pick c a b =>
  simp only[Ins.reads,XE]at h
  simp only[execI,Opd.ev_congr (x:=c) fun n hn=>h n (Xq (Xq hn)),Opd.ev_congr (x:=a) fun n hn=>h n (Xq (Xt hn)),Opd.ev_congr (x:=b) fun n hn=>h n (Xt hn)]
 |st k x y=>simp only[Ins.reads,XE]at h;simp only[execI,Opd.ev_congr (x:=x) fun n hn=>h n (Xq hn),Opd.ev_congr (x:=y) fun n hn=>h n (Xt hn)]
 |bin k x y=>simp only[Ins.reads,XE]at h;simp only[execI,Opd.ev_congr (x:=x) fun n hn=>h n (Xq hn),Opd.ev_congr (x:=y) fun n hn=>h n (Xt hn)]
 |iaddr k x y=>simp only[Ins.reads,XE]at h;simp only[execI,Opd.ev_congr (x:=x) fun n hn=>h n (Xq hn),Opd.ev_congr (x:=y) fun n hn=>h n (Xt hn)]
 |aaddr k n x y=>simp only[Ins.reads,XE]at h;simp only[execI,Opd.ev_congr (x:=x) fun n hn=>h n (Xq hn),Opd.ev_congr (x:=y) fun n hn=>h n (Xt hn)]
 |sindex x y=>simp only[Ins.reads,XE]at h;simp only[execI,Opd.ev_congr (x:=x) fun n hn=>h n (Xq hn),Opd.ev_congr (x:=y) fun n hn=>h n (Xt hn)]
 |aindex s k n x y=>simp only[Ins.reads,XE]at h;simp only[execI,Opd.ev_congr (x:=x) fun n hn=>h n (Xq hn),Opd.ev_congr (x:=y) fun n hn=>h n (Xt hn)]
 |app k b z x y=>simp only[Ins.reads,XE]at h;simp only[execI,Opd.ev_congr (x:=x) fun n hn=>h n (Xq hn),Opd.ev_congr (x:=y) fun n hn=>h n (Xt hn)]
 |mkslice k b z x y=>simp only[Ins.reads,XE]at h;simp only[execI,Opd.ev_congr (x:=x) fun n hn=>h n (Xq hn),Opd.ev_congr (x:=y) fun n hn=>h n (Xt hn)]
 |beq k x y=>simp only[Ins.reads,XE]at h;simp only[execI,Opd.ev_congr (x:=x) fun n hn=>h n (Xq hn),Opd.ev_congr (x:=y) fun n hn=>h n (Xt hn)]
 |peq k x y=>simp only[Ins.reads,XE]at h;simp only[execI,Opd.ev_congr (x:=x) fun n hn=>h n (Xq hn),Opd.ev_congr (x:=y) fun n hn=>h n (Xt hn)]
 |eqv k ks x y=>simp only[Ins.reads,XE]at h;simp only[execI,Opd.ev_congr (x:=x) fun n hn=>h n (Xq hn),Opd.ev_congr (x:=y) fun n hn=>h n (Xt hn)]
 |ieq k x y=>simp only[Ins.reads,XE]at h;simp only[execI,Opd.ev_congr (x:=x) fun n hn=>h n (Xq hn),Opd.ev_congr (x:=y) fun n hn=>h n (Xt hn)]
 |slice k x lo hi mx =>
  simp only[Ins.reads,XE]at h
  simp only[execI,Opd.ev_congr (x:=x) fun n hn=>h n (Xq (Xq (Xq hn))),ZkV (x:=lo) fun n hn=>h n (Xq (Xq (Xt hn))),ZkV (x:=hi) fun n hn=>h n (Xq (Xt hn)),ZkV (x:=mx) fun n hn=>h n (Xt hn)]
 |sslice x lo hi =>
  simp only[Ins.reads,XE]at h
  simp only[execI,Opd.ev_congr (x:=x) fun n hn=>h n (Xq (Xq hn)),ZkV (x:=lo) fun n hn=>h n (Xq (Xt hn)),ZkV (x:=hi) fun n hn=>h n (Xt hn)]
 |mm m xs=>simp only[Ins.reads]at h;simp only[execI,Zmf h]
 |call f own vw xs=>simp only[Ins.reads]at h;simp only[execI,Zmf h]
 |mkfn f xs=>simp only[Ins.reads]at h;simp only[execI,Zmf h]
 |callv x xs =>
  simp only[Ins.reads,XE]at h
  simp only[execI,Opd.ev_congr (x:=x) fun n hn=>h n (Xq hn),Zmf (xs:=xs) fun n hn=>h n (Xt hn)]
def Agree(G G2:Za)(ts:List Nat):Prop:=∀ t∈ts,G2[t]?=G[t]?
theorem Agree.left{ts us:List Nat}(h:Agree G G2 (ts++us)):Agree G G2 ts:=fun t ht=>h t (by simp[ht])
theorem Agree.right{ts us:List Nat}(h:Agree G G2 (ts++us)):Agree G G2 us:=fun t ht=>h t (by simp[ht])
theorem Zgo{a:AVal}{xs:List AVal}{ts:List Nat}(h:ZZ G a=some (xs,ts))(hA:Agree G G2 ts):ZZ G2 a=some (xs,ts):=by
 unfold ZZ at h⊢
 split at h
 ·exact h
 ·exact h
 ·exact h
 ·rename_i t g lo n
  have ht:t∈ts:=by
   split at h
   ·split at h
    ·simp only[Xb,Xe]at h;rw[<-h.2];simp
    ·cases h
   ·split at h
    ·simp only[Xb,Xe]at h;rw[<-h.2];simp
    ·cases h
   ·cases h
  rw[hA t ht]
  exact h
 ·cases h
theorem Zvr{a y:AVal}{ts:List Nat}(h:ZN G a=some (y,ts))(hA:Agree G G2 ts):ZN G2 a=some (y,ts):=by
 unfold ZN at h⊢
 split at h
 case h_2 =>
  split at h
  ·rename_i he
   simp only[Xb,Xe]at h
   obtain⟨rfl,rfl⟩:=h
   rw[Zgo he hA]
  ·cases h
 all_goals exact h
theorem ZvV:∀ {cs ys:List AVal} {ts:List Nat},Zae G cs=some (ys,ts)->Agree G G2 ts->Zae G2 cs=some (ys,ts)
 | [],ys,ts,h,_=>h
 |c::cs,ys,ts,h,hA=>by
  simp only[Zae]at h⊢
  split at h
  ·rename_i h1
   split at h
   ·rename_i h2
    simp only[Xb,Xe]at h
    obtain⟨rfl,rfl⟩:=h
    rw[Zvr h1 hA.left]
    simp only
    rw[ZvV h2 hA.right]
   ·cases h
  ·cases h
theorem ZUg{a y:AVal}{ts:List Nat}(h:Z3 G a=some (y,ts))(hA:Agree G G2 ts):Z3 G2 a=some (y,ts):=by
 unfold Z3 at h⊢
 split at h
 ·split at h
  ·rename_i h1
   simp only[Xb,Xe]at h
   obtain⟨rfl,rfl⟩:=h
   rw[ZvV h1 hA]
  ·cases h
 ·exact Zvr h hA
theorem Zrl:∀ {cs ys:List AVal} {ts:List Nat},viewAs G cs=some (ys,ts)->Agree G G2 ts->viewAs G2 cs=some (ys,ts)
 | [],ys,ts,h,_=>h
 |c::cs,ys,ts,h,hA=>by
  simp only[viewAs]at h⊢
  split at h
  ·rename_i h1
   split at h
   ·rename_i h2
    simp only[Xb,Xe]at h
    obtain⟨rfl,rfl⟩:=h
    rw[ZUg h1 hA.left]
    simp only
    rw[Zrl h2 hA.right]
   ·cases h
  ·cases h
theorem ZtH{a y:AVal}{ts:List Nat}(h:Zcu G a=some (y,ts))(hA:Agree G G2 ts):Zcu G2 a=some (y,ts):=by
 unfold Zcu at h⊢
 split at h
 case h_2 =>
  split at h
  ·rename_i he
   simp only[Xb,Xe]at h
   obtain⟨rfl,rfl⟩:=h
   rw[Zgo he hA]
  ·cases h
 all_goals exact h
theorem ZyC:∀ {cs ys:List AVal} {ts:List Nat},ZcJ G cs=some (ys,ts)->Agree G G2 ts->ZcJ G2 cs=some (ys,ts)
 | [],ys,ts,h,_=>h
 |c::cs,ys,ts,h,hA=>by
  simp only[ZcJ]at h⊢
  split at h
  ·rename_i h1
   split at h
   ·rename_i h2
    simp only[Xb,Xe]at h
    obtain⟨rfl,rfl⟩:=h
    rw[ZtH h1 hA.left]
    simp only
    rw[ZyC h2 hA.right]
   ·cases h
  ·cases h
theorem ZN5{a y:AVal}{ts:List Nat}(h:showA G a=some (y,ts))(hA:Agree G G2 ts):showA G2 a=some (y,ts):=by
 unfold showA at h⊢
 split at h
 ·split at h
  ·rename_i h1
   simp only[Xb,Xe]at h
   obtain⟨rfl,rfl⟩:=h
   rw[ZyC h1 hA]
  ·cases h
 ·exact ZtH h hA
theorem Znc:∀ {cs ys:List AVal} {ts:List Nat},showAs G cs=some (ys,ts)->Agree G G2 ts->showAs G2 cs=some (ys,ts)
 | [],ys,ts,h,_=>h
 |c::cs,ys,ts,h,hA=>by
  simp only[showAs]at h⊢
  split at h
  ·rename_i h1
   split at h
   ·rename_i h2
    simp only[Xb,Xe]at h
    obtain⟨rfl,rfl⟩:=h
    rw[ZN5 h1 hA.left]
    simp only
    rw[Znc h2 hA.right]
   ·cases h
  ·cases h
theorem ZLF{a:AVal}{l:List UInt8}{ls:List Nat}(h:Ze1 G a=some (l,ls))(hA:Agree G G2 ls):Ze1 G2 a=some (l,ls):=by
 unfold Ze1 at h⊢
 split at h
 ·split at h
  ·rename_i he
   split at h
   ·rename_i hb
    simp only[Xb,Xe]at h
    obtain⟨rfl,rfl⟩:=h
    rw[Zgo he hA]
    simp only[hb]
   ·cases h
  ·cases h
 ·cases h
theorem ZSN{a y:AVal}{ts:List Nat}(h:Ze1 G a=none)(hs:Zcu G a=some (y,ts))(hA:Agree G G2 ts):Ze1 G2 a=none:=by
 cases a with
 |sl t g lo n =>
  simp only[Ze1]at h⊢
  simp only[Zcu]at hs
  split at hs
  ·rename_i he
   simp only[Xb,Xe]at hs
   obtain⟨_,rfl⟩:=hs
   rw[Zgo he hA]
   rw[he]at h
   exact h
  ·cases hs
 |_=>rfl
theorem ZvZ{a y:AVal}{ts ls:List Nat}(h:ZfP G a=some (y,ts,ls))(hA:Agree G G2 ts)(hB:Agree G G2 ls):ZfP G2 a=some (y,ts,ls):=by
 unfold ZfP at h⊢
 split at h
 ·rename_i hb
  simp only[Xb,Xe]at h
  obtain⟨rfl,rfl,rfl⟩:=h
  rw[ZLF hb hB]
 ·rename_i hb
  split at h
  ·rename_i hs
   simp only[Xb,Xe]at h
   obtain⟨rfl,rfl,rfl⟩:=h
   rw[ZSN hb hs hA]
   simp only[ZtH hs hA]
  ·cases h
theorem ZvL:∀ {cs ys:List AVal} {ts ls:List Nat},Ze8 G cs=some (ys,ts,ls)->Agree G G2 ts->Agree G G2 ls->Ze8 G2 cs=some (ys,ts,ls)
 | [],ys,ts,ls,h,_,_=>h
 |c::cs,ys,ts,ls,h,hA,hB=>by
  simp only[Ze8]at h⊢
  split at h
  ·rename_i h1
   split at h
   ·rename_i h2
    simp only[Xb,Xe]at h
    obtain⟨rfl,rfl,rfl⟩:=h
    rw[ZvZ h1 hA.left hB.left]
    simp only
    rw[ZvL h2 hA.right hB.right]
   ·cases h
  ·cases h
theorem ZSO{a y:AVal}{ts ls:List Nat}(h:ZgF G a=some (y,ts,ls))(hA:Agree G G2 ts)(hB:Agree G G2 ls):ZgF G2 a=some (y,ts,ls):=by
 unfold ZgF at h⊢
 split at h
 ·split at h
  ·rename_i h1
   simp only[Xb,Xe]at h
   obtain⟨rfl,rfl,rfl⟩:=h
   rw[ZvL h1 hA hB]
  ·cases h
 ·exact ZvZ h hA hB
theorem ZAe:∀ {cs ys:List AVal} {ts ls:List Nat},ZdT G cs=some (ys,ts,ls)->Agree G G2 ts->Agree G G2 ls->ZdT G2 cs=some (ys,ts,ls)
 | [],ys,ts,ls,h,_,_=>h
 |c::cs,ys,ts,ls,h,hA,hB=>by
  simp only[ZdT]at h⊢
  split at h
  ·rename_i h1
   split at h
   ·rename_i h2
    simp only[Xb,Xe]at h
    obtain⟨rfl,rfl,rfl⟩:=h
    rw[ZSO h1 hA.left hB.left]
    simp only
    rw[ZAe h2 hA.right hB.right]
   ·cases h
  ·cases h
def Zbn(G:Za)(s:Nat):Option ZP->Za
 |none=>G
 |some b=>G.set s b
def Zg2(G:Za)(ts:List Nat):Prop:=∀ t∈ts,∃ x,G[t]?=some x/\x≠.free
theorem Rowy.nonfree{ts:List Nat}(h:Rowy G ts):Zg2 G ts:=by
 intro t ht
 obtain⟨g,k,xs,h |h⟩:=h t ht
 ·grind
 grind
theorem Zfu:Zg2 G []:=fun t ht=>by simp at ht
theorem Zxz{bf:Nat->Bool}{f md:Nat}{args xs:List AVal}{ts us:List Nat}(h:Zbb bf f G args=some (xs,ts,us,md)) :
  (∀ t∈ts,t∈us)/\Zg2 G us/\∀ G2,Agree G G2 us->Zbb bf f G2 args=some (xs,ts,us,md):=by
 unfold Zbb at h
 split at h
 ·rename_i hb
  split at h
  ·rename_i hb2
   split at h
   ·rename_i hl
    split at h
    case isFalse=>cases h
    rename_i hr
    simp only[Xb,Xe]at h
    obtain⟨rfl,rfl,rfl,rfl⟩:=h
    refine⟨fun t ht=>by simp[ht],((Zk5 hl).1.append (Zk5 hl).2).nonfree,fun G2 hA=>?_⟩
    simp only[Zbb,hb,hb2,if_true,ZAe hl hA.left hA.right,hr]
   ·cases h
  rename_i hb2
  split at h
  ·rename_i hb3
   split at h
   ·rename_i hs
    simp only[Xb,Xe]at h
    obtain⟨rfl,rfl,rfl,rfl⟩:=h
    refine⟨fun t ht=>ht,(ZjX hs).nonfree,fun G2 hA=>?_⟩
    simp only[Zbb,hb,hb2,hb3,if_true,if_false,Xi,Znc hs hA]
   ·cases h
  ·rename_i hb3
   simp only[Xb,Xe]at h
   obtain⟨rfl,rfl,rfl,rfl⟩:=h
   refine⟨fun t ht=>ht,Zfu,fun G2 _=>?_⟩
   simp only[Zbb,hb,hb2,hb3,if_true,if_false,Xi]
 ·rename_i hb
  split at h
  ·rename_i hs
   split at h
   ·rename_i hl
    split at h
    case isFalse=>cases h
    rename_i hr
    simp only[Xb,Xe]at h
    obtain⟨rfl,rfl,rfl,rfl⟩:=h
    refine⟨fun t ht=>ht,(ZjX hs).nonfree,fun G2 hA=>?_⟩
    simp only[Zbb,hb,if_false,Xi,Znc hs hA,hl,hr,if_true]
   ·rename_i hl
    simp only[Xb,Xe]at h
    obtain⟨rfl,rfl,rfl,rfl⟩:=h
    refine⟨fun t ht=>ht,(ZjX hs).nonfree,fun G2 hA=>?_⟩
    simp only[Zbb,hb,if_false,Xi,Znc hs hA,hl]
  ·cases h
theorem Zty{t:Nat}{x:ZP}(h:G[t]?=some x)(hx:x≠.free):Zg2 G [t]:=fun t' ht=>by
 grind
def Framed(f:Za->Option (AVal×Za×Cls))(G:Za)(sq ns:Nat)(v:AVal)(G':Za)(c:Cls):Prop :=
 ∃ ob,G'=Zbn G sq ob/\(ob.isSome=true->ns≠0)/\ob≠some .free/\Zg2 G c.rd/\∀ G2,Agree G G2 c.rd->f G2=some (v,Zbn G2 sq ob,c)
theorem Framed.pure{f:Za->Option (AVal×Za×Cls)}{v:AVal}{c:Cls}{ns:Nat}(hr:c.rd=[])(hf:∀ G2,f G2=some (v,G2,c)):Framed f G sq ns v G c :=
 ⟨none,rfl,by simp,by simp,by rw[hr];exact Zfu,fun G2 _=>hf G2⟩
theorem ZR8{kc:Nat}{z:AVal}{ok:Bool}{m k v:AVal}{c:Cls}{ns:Nat}(h:ZgE G kc z ok m k=some (v,G',c)):Framed (fun G=>ZgE G kc z ok m k) G sq ns v G' c:=by
 unfold ZgE at h
 split at h
 case isFalse=>cases h
 rename_i hk
 split at h
 ·simp only[Xb,Xe]at h
  obtain⟨rfl,rfl,rfl⟩:=h
  exact Framed.pure rfl fun G2=>by simp only[ZgE];grind
 ·rename_i t
  split at h
  case h_2=>cases h
  rename_i es hs
  have hnf:Zg2 G [t]:=fun u hu=>by grind
  split at h
  ·rename_i j y hf
   simp only[Xb,Xe]at h
   obtain⟨rfl,rfl,rfl⟩:=h
   refine⟨none,rfl,by simp,by simp,hnf,fun G2 hA=>?_⟩
   have e2:G2[t]?=some (.map es):=by rw[hA t (by simp)];exact hs
   simp only[ZgE,e2,hf,Zbn]
   grind
  ·rename_i hf
   simp only[Xb,Xe]at h
   obtain⟨rfl,rfl,rfl⟩:=h
   refine⟨none,rfl,by simp,by simp,hnf,fun G2 hA=>?_⟩
   have e2:G2[t]?=some (.map es):=by rw[hA t (by simp)];exact hs
   simp only[ZgE,e2,hf,Zbn]
   grind
  ·cases h
 ·cases h
theorem ZQE{m v:AVal}{c:Cls}{ns:Nat}(h:ZhR G m=some (v,G',c)):Framed (fun G=>ZhR G m) G sq ns v G' c:=by
 unfold ZhR at h
 split at h
 ·simp only[Xb,Xe]at h
  obtain⟨rfl,rfl,rfl⟩:=h
  exact Framed.pure rfl fun G2=>rfl
 ·rename_i t
  split at h
  case h_2=>cases h
  rename_i es hs
  simp only[Xb,Xe]at h
  obtain⟨rfl,rfl,rfl⟩:=h
  refine⟨none,rfl,by simp,by simp,fun u hu=>by grind,fun G2 hA=>?_⟩
  have e2:G2[t]?=some (.map es):=by rw[hA t (by simp)];exact hs
  simp only[ZhR,e2,Zbn]
 ·cases h
theorem ZA7{k:Option Nat}{a v:AVal}{c:Cls}{ns:Nat}(h:ldA G k a=some (v,G',c)):Framed (fun G=>ldA G k a) G sq ns v G' c:=by
 have h0:=h
 unfold ldA at h
 have fin:∀ t,G'=G->c.rd=[t]->(∃ x,G[t]?=some x/\x≠.free)->(∀ G2:Za,G2[t]?=G[t]?->ldA G2 k a=(ldA G k a).map fun p=>(p.1,G2,p.2.2))->Framed (fun G=>ldA G k a) G sq ns v G' c:=by
  intro t e1 e2 ⟨x,hx,hne⟩ hf
  subst e1
  refine⟨none,rfl,by simp,by simp,by rw[e2];exact Zty hx hne,fun G2 hA=>?_⟩
  rw[e2]at hA
  simp only
  rw[hf G2 (hA t (by simp)),h0]
  rfl
 split at h
 ·rename_i t o
  split at h
  ·rename_i cs hs
   split at h
   ·rename_i v' hp
    simp only[Xb,Xe]at h
    obtain⟨rfl,rfl,rfl⟩:=h
    exact fin t rfl rfl ⟨_,hs,by simp⟩ (fun G2 h2=>by simp only[ldA,h2,hs,hp,X9])
   ·cases h
  ·cases h
 ·rename_i t g i o
  split at h
  ·rename_i g' kk xs hs
   split at h
   ·rename_i e
    split at h
    ·rename_i x hx
     split at h
     ·rename_i v' hp
      simp only[Xb,Xe]at h
      obtain⟨rfl,rfl,rfl⟩:=h
      exact fin t rfl rfl ⟨_,hs,by simp⟩ (fun G2 h2=>by simp only[ldA,h2,hs,e,if_true,hx,hp,X9])
     ·cases h
    ·cases h
   ·cases h
  ·rename_i g' kk xs hs
   split at h
   ·rename_i e
    split at h
    ·rename_i x hx
     split at h
     ·rename_i v' hp
      simp only[Xb,Xe]at h
      obtain⟨rfl,rfl,rfl⟩:=h
      exact fin t rfl rfl ⟨_,hs,by simp⟩ (fun G2 h2=>by simp only[ldA,h2,hs,e,if_true,hx,hp,X9])
     ·cases h
    ·cases h
   ·cases h
  ·rename_i g' kk xs hs
   split at h
   ·rename_i e
    split at h
    ·rename_i x hx
     split at h
     ·rename_i v' hp
      simp only[Xb,Xe]at h
      obtain⟨rfl,rfl,rfl⟩:=h
      exact fin t rfl rfl ⟨_,hs,by simp⟩ (fun G2 h2=>by simp only[ldA,h2,hs,e,if_true,hx,hp,X9])
     ·cases h
    ·cases h
   ·cases h
  ·cases h
 ·rename_i cs o
  split at h
  ·rename_i v' hp
   simp only[Xb,Xe]at h
   obtain⟨rfl,rfl,rfl⟩:=h
   exact Framed.pure rfl (fun G2=>by simp only[ldA,hp])
  ·cases h
 ·cases h
theorem ZDS{k:Nat}{x i v:AVal}{c:Cls}{ns:Nat}(h:Zc5 G k x i=some (v,G',c)):Framed (fun G=>Zc5 G k x i) G sq ns v G' c:=by
 have h0:=h
 unfold Zc5 at h
 split at h
 case h_2=>cases h
 rename_i kk ii
 split at h
 case isFalse=>cases h
 rename_i hi
 split at h
 ·rename_i b xs
  split at h
  ·rename_i y hy
   split at h
   ·rename_i hk
    simp only[Xb,Xe]at h
    obtain⟨rfl,rfl,rfl⟩:=h
    exact Framed.pure rfl (fun G2=>by simp only[Zc5,hi,if_true,hy,hk])
   ·cases h
  ·cases h
 ·rename_i t g p n
  split at h
  case isFalse=>cases h
  rename_i hn
  have fin:G'=G->c.rd=[t]->(∃ x,G[t]?=some x/\x≠.free)->Framed (fun G=>Zc5 G k (.sl t g p n) (.int kk ii)) G sq ns v G' c:=by
   intro e1 e2 ⟨x,hx,hne⟩
   subst e1
   refine⟨none,rfl,by simp,by simp,by rw[e2];exact Zty hx hne,fun G2 hA=>?_⟩
   rw[e2]at hA
   have h2:=hA t (by simp)
   simp only[Zc5,hi,if_true,hn]at h0 ⊢
   rw[h2]
   split at h0
   ·split at h0
    ·rename_i hc
     simp only[Xb,Xe]at h0
     obtain⟨rfl,_,rfl⟩:=h0
     rename_i hs
     simp only[hc,and_self,if_true]
     rfl
    ·cases h0
   ·split at h0
    ·rename_i hc
     simp only[Xb,Xe]at h0
     obtain⟨rfl,_,rfl⟩:=h0
     rename_i hs
     simp only[hc,and_self,if_true]
     rfl
    ·cases h0
   ·split at h0
    ·rename_i hc
     simp only[Xb,Xe]at h0
     obtain⟨rfl,_,rfl⟩:=h0
     rename_i hs
     simp only[hc,and_self,if_true]
     rfl
    ·cases h0
   ·cases h0
  grind
 ·cases h
end
end
section
open Go.RowKit
section
variable {O:ZS}{bf:Nat->Bool}{tm tm':Tms}{G G' G2:Za}{sq:Nat}
theorem Framed.one{f:Za->Option (AVal×Za×Cls)}{v:AVal}{c:Cls}{ns t:Nat}(hr:c.rd=[t])(hn:∃ x,G[t]?=some x/\x≠.free)(hf:∀ G2:Za,G2[t]?=G[t]?->f G2=some (v,G2,c)):Framed f G sq ns v G c:=by
 obtain⟨x,hx,hne⟩:=hn
 exact⟨none,rfl,by simp,by simp,by rw[hr];exact Zty hx hne,fun G2 hA=>hf G2 (hA t (by grind))⟩
theorem ZQx{k:Nat}{x v:AVal}{lo hi mx:Option AVal}{c:Cls}{ns:Nat}(h:ZbO G k x lo hi mx=some (v,G',c))(hw:c.wr=[]):Framed (fun G=>ZbO G k x lo hi mx) G sq ns v G' c:=by
 unfold ZbO at h
 split at h
 ·rename_i b xs
  split at h
  ·cases h
  rename_i m hm
  split at h
  ·cases h
  rename_i h' hh
  split at h
  ·cases h
  rename_i l hl
  split at h
  case isFalse=>cases h
  rename_i hk0
  split at h
  ·rename_i hmx
   simp only[Xb,Xe]at h
   obtain⟨rfl,rfl,rfl⟩:=h
   exact Framed.pure rfl (fun G2=>by simp only[ZbO,hm,hh,hl,hk0,if_true,hmx])
  ·rename_i hmx
   simp only[Xb,Xe]at h
   obtain⟨rfl,rfl,rfl⟩:=h
   exact Framed.pure rfl (fun G2=>by simp only[ZbO,hm,hh,hl,hk0,if_true,hmx,if_false,Xi])
 ·rename_i xs
  split at h
  case isFalse=>cases h
  rename_i hk1
  split at h
  ·cases h
  rename_i h' hh
  split at h
  ·cases h
  rename_i l hl
  simp only[Xb,Xe]at h
  obtain⟨rfl,rfl,rfl⟩:=h
  exact Framed.pure rfl (fun G2=>by simp only[ZbO];grind)
 ·rename_i t g p n
  split at h
  ·cases h
  rename_i els hels
  have hnf:∃ x,G[t]?=some x/\x≠.free:=by
   simp only[ZZ]at hels
   split at hels
   ·grind
   ·grind
   ·cases hels
  have hel2:∀ G2:Za,G2[t]?=G[t]?->ZZ G2 (.sl t g p n)=some els:=by
   intro G2 h2
   rw[<-hels]
   simp only[ZZ,h2]
  split at h
  ·rename_i m0
   split at h
   ·rename_i q1 hq1
    split at h
    ·rename_i q2 hq2
     split at h
     ·rename_i q3 hq3
      simp only[Xb,Xe]at h
      obtain⟨rfl,rfl,rfl⟩:=h
      exact Framed.one rfl hnf (fun G2 h2=>by simp only[ZbO,hel2 G2 h2,hq1,hq2,hq3])
     ·cases h
    ·cases h
   ·rename_i hq0
    split at h
    ·rename_i q1 hq1
     split at h
     ·rename_i q2 hq2
      split at h
      ·rename_i q3 hq3
       simp only[Xb,Xe]at h
       obtain⟨rfl,rfl,rfl⟩:=h
       exact Framed.one rfl hnf (fun G2 h2=>by simp only[ZbO,hel2 G2 h2,hq0,hq1,hq2,hq3])
      ·cases h
     ·cases h
    ·cases h
  ·split at h
   ·rename_i g' k' xs hs
    split at h
    case isFalse=>cases h
    rename_i hkk
    split at h
    ·cases h
    rename_i h' hh
    split at h
    ·cases h
    rename_i l hl
    simp only[Xb,Xe]at h
    obtain⟨rfl,rfl,rfl⟩:=h
    exact Framed.one rfl hnf (fun G2 h2=>by simp only[ZbO,hel2 G2 h2,h2,hs,hkk,if_true,hh,hl])
   ·rename_i g' k' xs hs
    split at h
    case isFalse=>cases h
    rename_i hkk
    split at h
    ·cases h
    rename_i h' hh
    split at h
    ·cases h
    rename_i l hl
    simp only[Xb,Xe]at h
    obtain⟨rfl,rfl,rfl⟩:=h
    exact Framed.one rfl hnf (fun G2 h2=>by simp only[ZbO,hel2 G2 h2,h2,hs,hkk,if_true,hh,hl])
   ·cases h
 ·cases h
theorem ZS7{k bytes:Nat}{x y v:AVal}{c:Cls}(h:ZdY G sq k bytes x y=some (v,G',c)):c.any=true:=by
 unfold ZdY at h
 grind
theorem ZOb{k bytes:Nat}{x y v:AVal}{c:Cls}(h:Zan G sq k bytes x y=some (v,G',c))(hw:c.wr=[])(ha:c.any=false):Framed (fun G=>Zan G sq k bytes x y) G sq 1 v G' c:=by
 unfold Zan at h
 split at h
 ·rw[ZS7 h]at ha;cases ha
 rename_i ys us he
 split at h
 case isFalse=>cases h
 rename_i hk
 have hnf:=(ZjW he).nonfree
 split at h
 ·split at h
  ·rename_i hb
   simp only[Xb,Xe]at h
   obtain⟨rfl,rfl,rfl⟩:=h
   refine⟨some (.row 0 k ys),rfl,by simp,by simp,hnf,fun G2 hA=>?_⟩
   simp only[Zan,Zgo he hA,hk,if_true,hb,Zbn]
  ·cases h
 ·rename_i x0 xs0
  split at h
  ·rename_i hb
   split at h
   ·simp only[Xb,Xe]at h
    obtain⟨rfl,rfl,rfl⟩:=h
    refine⟨none,rfl,by simp,by simp,hnf,fun G2 hA=>?_⟩
    simp only[Zan,Zgo he hA,hk,if_true,Zbn]
    grind
   ·rename_i y0 ys0
    simp only[Xb,Xe]at h
    obtain⟨rfl,rfl,rfl⟩:=h
    refine⟨some (.row 0 k ((x0::xs0)++(y0::ys0))),rfl,by simp,by simp,hnf,fun G2 hA=>?_⟩
    simp only[Zan,Zgo he hA,hk,if_true,Zbn]
    grind
  ·cases h
 ·grind
 ·cases h
theorem Zvd{G:Za}{vs:List AVal}(h:Zt G 1000 (Zl vs) []=[]):Zl vs=[]:=by
 cases e:Zl vs with
 |nil=>rfl
 |cons t r =>
  rw[e]at h
  simp only[Zt,Wh,Xi,if_false,List.nil_append]at h
  obtain⟨_,r',hr⟩:=ZkE (G:=G) 999 (ZB (G.getD t .free)++r) [t] (by simp)
  grind
theorem ZAi{f own:Nat}{view:Bool}{args:List AVal}{v:AVal}{c:Cls}{ns:Nat}(hns:own=1->ns≠0)(h:Zq O bf G sq f own view args=some (v,G',c))(hw:c.wr=[])(ha:c.any=false):Framed (fun G=>Zq O bf G sq f own view args) G sq ns v G' c:=by
 unfold Zq at h
 split at h
 ·cases h
 rename_i xs ts us md hs
 obtain⟨hsub,hnf,hag⟩:=Zxz hs
 generalize hids:Zt (Zv G ts) 1000 (Zl xs) []=ids at h
 unfold Zbk at h
 split at h
 case isFalse=>cases h
 generalize hq:ZV view ids.length (ZbV md (O f (Zj (Zn (Zv G ts) 0 ids) xs) (Zo (Zv G ts) 0 ids (Zn (Zv G ts) 0 ids) ids 0)))=q at h
 cases q with
 |none=>simp only[Zaz]at h;cases h
 |some q =>
  obtain⟨r,hp⟩:=q
  simp only[Zaz]at h
  split at h
  ·rename_i hc
   simp only[Xk,WR]at hc
   obtain⟨rfl,rfl⟩:=hc
   have hrl:=Zvd hids
   have hrho:∀ G:Za,Zn G 0 []=fun _ _=>none:=fun G=>by funext t g;simp[Zn,ZI]
   have hall:∀ G2,Agree G G2 us->Zq O bf G2 sq f own view args=Zaz G2 (Zv G2 ts) [] us sq own (some (r,[])):=by
    intro G2 hA
    unfold Zq
    rw[hag G2 hA]
    simp only
    rw[hrl]
    have h0:Zt (Zv G2 ts) 1000 [] []=[]:=rfl
    rw[h0]
    unfold Zbk
    simp only[XX,if_true]
    rw[hrho]
    rw[hrho]at hq
    simp only[Zo]at hq ⊢
    rw[hq]
   split at h
   ·rename_i hf
    simp only[Xb,Xe]at h
    obtain⟨rfl,rfl,rfl⟩:=h
    refine⟨none,rfl,by simp,by simp,hnf,fun G2 hA=>?_⟩
    simp only
    rw[hall G2 hA]
    simp only[Zaz,X8,XT,if_true,hf,Zbn]
   split at h
   ·rename_i hf hap
    simp only[Xb,Xe]at h
    obtain⟨rfl,rfl,rfl⟩:=h
    refine⟨none,rfl,by simp,by simp,hnf,fun G2 hA=>?_⟩
    have hap2:Zda G2 us r=true:=by
     unfold Zda at hap ⊢
     simp only[Xk]at hap ⊢
     refine⟨hap.1,Xy.2 fun t ht=>?_⟩
     have:=Xy.1 hap.2 t ht
     unfold Zej at this ⊢
     rw[hA t ht];exact this
    simp only
    rw[hall G2 hA]
    simp only[Zaz,X8,XT,if_true,hf,hap2,Zbn,if_false,Xi]
   ·rename_i hf hap
    simp only[Xb,Xe]at h
    obtain⟨rfl,rfl,rfl⟩:=h
    simp only at hw
    subst hw
    obtain rfl:ts=[]:=List.eq_nil_iff_forall_not_mem.2 fun t ht=>by grind
    refine⟨none,rfl,by simp,by simp,hnf,fun G2 hA=>?_⟩
    simp only
    rw[hall G2 hA]
    simp only[Zaz,X8,XT,if_true,hf,Zbn,Zv,if_false,Xi,Zda,X8,Xa0,Wi]
  ·rename_i hne
   split at h
   ·rename_i lo n k xs' hcl
    have hcl0:=hcl
    split at hcl
    case isFalse=>cases hcl
    rename_i hid
    simp only[WR]at hid
    subst hid
    unfold ZgJ at hcl
    split at hcl
    case h_2=>cases hcl
    split at hcl
    case isFalse=>cases hcl
    rename_i hcc
    simp only[Xk,decide_eq_true_eq]at hcc
    simp only[Xb,Xe]at hcl h
    obtain⟨rfl,rfl,rfl,rfl⟩:=hcl
    obtain⟨rfl,rfl,rfl⟩:=h
    have hrl:=Zvd hids
    have hrho:∀ G:Za,Zn G 0 []=fun _ _=>none:=fun G=>by funext t g;simp[Zn,ZI]
    refine⟨some (.row 0 _ _),rfl,fun _=>hns hcc.1,by simp,hnf,fun G2 hA=>?_⟩
    simp only
    unfold Zq
    rw[hag G2 hA]
    simp only
    rw[hrl]
    have h0:Zt (Zv G2 ts) 1000 [] []=[]:=rfl
    rw[h0]
    unfold Zbk
    simp only[XX,if_true]
    rw[hrho]
    rw[hrho]at hq
    simp only[Zo]at hq ⊢
    rw[hq]
    simp only[Zaz]
    rw[if_neg hne,hcl0]
    rfl
   grind
theorem ZdO{x:Option AVal}{v:AVal}{c:Cls}(h:x.map (fun r=>(r,G,({}:Cls)))=some (v,G',c)):G'=G/\c={}/\x=some v:=by
 simp only[Xo,Xe]at h
 grind
theorem ZFC{ins:Ins}{v:AVal}{c:Cls}(h:execI O bf tm G sq ins=some (v,G',c))(hw:c.wr=[])(ha:c.any=false):Framed (fun G=>execI O bf tm G sq ins) G sq (nsite ins) v G' c:=by
 cases ins with
 |alloc zs =>
  simp only[execI,Xb,Xe]at h
  obtain⟨rfl,rfl,rfl⟩:=h
  exact⟨some (.var zs),rfl,by simp[nsite],by simp,Zfu,fun G2 _=>rfl⟩
 |box x =>
  simp only[execI]at h
  split at h
  ·cases h
  ·cases h
  ·cases h
  ·rename_i hne1 hne2 hne3
   simp only[Xb,Xe]at h
   obtain⟨rfl,rfl,rfl⟩:=h
   refine⟨some (.var (x.ev tm).cells),rfl,by simp[nsite],by simp,Zfu,fun G2 _=>?_⟩
   simp only[execI,Zbn]
 |mkslice k b z x y =>
  simp only[execI]at h
  split at h
  ·rename_i l c' e1 e2
   split at h
   ·rename_i hc
    simp only[Xb,Xe]at h
    obtain⟨rfl,rfl,rfl⟩:=h
    refine⟨some (.row 0 k (XI c'.toNat z)),rfl,by simp[nsite],by simp,Zfu,fun G2 _=>?_⟩
    simp only[execI,e1,e2,Zbn]
    grind
   ·cases h
  ·cases h
 |bslice own k n z ps =>
  simp only[execI]at h
  split at h
  ·cases h
  rename_i ys ts hv
  split at h
  case isFalse=>cases h
  rename_i hc
  split at h
  ·rename_i ho
   simp only[Xb,Xe]at h
   obtain⟨rfl,rfl,rfl⟩:=h
   simp only at hw
   subst hw
   refine⟨some (.row 0 k (((ps.map (·.1)).zip ys).foldl (fun l p=>l.set p.1 p.2) (XI n z))),rfl,by simp[nsite,ho],by simp,Zfu,fun G2 hA=>?_⟩
   simp only[execI,Zrl hv hA,Zbn,Zv]
   grind
  ·rename_i ho
   simp only[Xb,Xe]at h
   obtain⟨rfl,rfl,rfl⟩:=h
   simp only at hw
   subst hw
   refine⟨none,rfl,by simp,by simp,Zfu,fun G2 hA=>?_⟩
   simp only[execI,Zrl hv hA,Zbn,Zv]
   grind
 |rslice k n z ps =>
  simp only[execI]at h
  split at h
  case isFalse=>cases h
  rename_i hc
  simp only[Xb,Xe]at h
  obtain⟨rfl,rfl,rfl⟩:=h
  refine⟨some (.rrow 0 k ((ps.map fun p=>(p.1,p.2.ev tm)).foldl (fun l p=>l.set p.1 p.2) (XI n z))),rfl,by simp[nsite],by simp,Zfu,fun G2 hA=>?_⟩
  simp only[execI,Zbn]
  grind
 |rng x =>
  simp only[execI]at h
  split at h
  ·rename_i l e
   simp only[Xb,Xe]at h
   obtain⟨rfl,rfl,rfl⟩:=h
   exact⟨some (.siter l 0),rfl,by simp[nsite],by simp,Zfu,fun G2 _=>by simp only[execI,e,Zbn]⟩
  ·cases h
 |mkmap =>
  simp only[execI,Xb,Xe]at h
  obtain⟨rfl,rfl,rfl⟩:=h
  exact⟨some (.map []),rfl,by simp[nsite],by simp,Zfu,fun G2 _=>rfl⟩
 |look kc z ok m k=>simp only[execI]at h⊢;exact ZR8 h
 |mlen m=>simp only[execI]at h⊢;exact ZQE h
 |mset kc m k v =>
  simp only[execI]at h
  unfold ZmC at h
  grind
 |mdel kc m k =>
  simp only[execI]at h⊢
  unfold ZkS at h
  split at h
  case isFalse=>cases h
  rename_i hk
  split at h
  ·rename_i e
   simp only[Xb,Xe]at h;obtain⟨rfl,rfl,rfl⟩:=h
   refine Framed.pure rfl fun G2=>?_
   simp only[ZkS,e]
   grind
  ·grind
  ·cases h
 |clr k z x =>
  simp only[execI]at h
  unfold Zoi at h
  grind
 |nxt x =>
  simp only[execI]at h
  grind
 |ld k a=>simp only[execI]at h⊢;exact ZA7 h
 |st k a x =>
  simp only[execI]at h
  unfold stA at h
  split at h
  ·split at h
   ·grind
   ·grind
   ·cases h
  ·cases h
 |slice k x lo hi mx=>simp only[execI]at h⊢;exact ZQx h hw
 |iaddr k x i=>simp only[execI]at h⊢;exact ZDS h
 |app k b z x y=>simp only[execI]at h⊢;exact ZOb h hw ha
 |b2s x =>
  simp only[execI]at h
  split at h
  ·rename_i xs ts he
   split at h
   ·rename_i l hl
    simp only[Xb,Xe]at h
    obtain⟨rfl,rfl,rfl⟩:=h
    refine⟨none,rfl,by simp,by simp,(ZjW he).nonfree,fun G2 hA=>?_⟩
    simp only[execI,Zgo he hA,hl,Zbn]
   ·cases h
  ·cases h
 |s2s x =>
  simp only[execI]at h
  grind
 |call f own vw xs=>simp only[execI]at h⊢;exact ZAi (fun ho=>by simp[nsite,ho]) h hw ha
 |callv x xs =>
  simp only[execI]at h
  split at h
  ·rename_i f caps e
   have:=ZAi (ns:=nsite (.callv x xs)) (fun ho=>absurd ho (by decide)) h hw ha
   have he:(fun G=>execI O bf tm G sq (.callv x xs))=fun G=>Zq O bf G sq (if f<1000000 then f else f-1000000) 4 false (if f<1000000 then xs.map (·.ev tm)++caps else caps++xs.map (·.ev tm)):=by funext G;simp only[execI,e]
   grind
  ·cases h
 |mki t x =>
  simp only[execI]at h
  split at h
  ·cases h
  ·cases h
  ·cases h
  ·simp only[Xb,Xe]at h;obtain⟨rfl,rfl,rfl⟩:=h;exact Framed.pure rfl (fun G2=>by simp only[execI])
 |panic x =>
  simp only[execI]at h
  split at h
  ·rename_i e;simp only[Xb,Xe]at h;obtain⟨rfl,rfl,rfl⟩:=h;exact Framed.pure rfl (fun G2=>by simp only[execI,e])
  ·cases h
 |eqv neg ks x y =>
  simp only[execI]at h
  split at h
  ·rename_i e1 e2
   split at h
   ·rename_i e4
    split at h
    ·rename_i e3;simp only[Xb,Xe]at h;obtain⟨rfl,rfl,rfl⟩:=h;exact Framed.pure rfl (fun G2=>by simp only[execI,e1,e2,e3,e4,if_true])
    ·cases h
   ·cases h
  ·cases h
 |ieq neg x y =>
  simp only[execI]at h
  split at h
  ·rename_i e1 e2;simp only[Xb,Xe]at h;obtain⟨rfl,rfl,rfl⟩:=h;exact Framed.pure rfl (fun G2=>by simp only[execI,e1,e2])
  ·rename_i e1 e2;simp only[Xb,Xe]at h;obtain⟨rfl,rfl,rfl⟩:=h;exact Framed.pure rfl (fun G2=>by simp only[execI,e1,e2])
  ·rename_i e1 e2;simp only[Xb,Xe]at h;obtain⟨rfl,rfl,rfl⟩:=h;exact Framed.pure rfl (fun G2=>by simp only[execI,e1,e2])
  ·cases h
 |mov x=>simp only[execI,Xb,Xe]at h;obtain⟨rfl,rfl,rfl⟩:=h;exact Framed.pure rfl (fun G2=>rfl)
 |mkfn f xs=>simp only[execI,Xb,Xe]at h;obtain⟨rfl,rfl,rfl⟩:=h;exact Framed.pure rfl (fun G2=>rfl)
 |bin op x y =>
  simp only[execI]at h
  obtain⟨rfl,rfl,hx⟩:=ZdO h
  exact Framed.pure rfl (fun G2=>by simp only[execI,hx,X9])
 |un op x =>
  simp only[execI]at h
  obtain⟨rfl,rfl,hx⟩:=ZdO h
  exact Framed.pure rfl (fun G2=>by simp only[execI,hx,X9])
 |faddr off x =>
  simp only[execI]at h
  obtain⟨rfl,rfl,hx⟩:=ZdO h
  exact Framed.pure rfl (fun G2=>by simp only[execI,hx,X9])
 |pick a b d =>
  simp only[execI]at h
  unfold Zhh at h
  split at h
  ·rename_i e;simp only[Xb,Xe]at h;obtain⟨rfl,rfl,rfl⟩:=h;exact Framed.pure rfl (fun G2=>by simp only[execI,Zhh,e])
  ·rename_i e;simp only[Xb,Xe]at h;obtain⟨rfl,rfl,rfl⟩:=h;exact Framed.pure rfl (fun G2=>by simp only[execI,Zhh,e])
  ·cases h
 |build zs ps =>
  simp only[execI]at h
  split at h
  ·rename_i cs hf
   simp only[Xb,Xe]at h;obtain⟨rfl,rfl,rfl⟩:=h
   exact Framed.pure rfl (fun G2=>by simp only[execI,hf])
  ·cases h
 |i2i k x =>
  simp only[execI]at h
  split at h
  ·rename_i e;simp only[Xb,Xe]at h;obtain⟨rfl,rfl,rfl⟩:=h;exact Framed.pure rfl (fun G2=>by simp only[execI,e])
  ·cases h
 |i2s x =>
  simp only[execI]at h
  split at h
  ·rename_i e;simp only[Xb,Xe]at h;obtain⟨rfl,rfl,rfl⟩:=h;exact Framed.pure rfl (fun G2=>by simp only[execI,e])
  ·cases h
 |same x =>
  simp only[execI]at h
  split at h
  ·rename_i e;simp only[Xb,Xe]at h;obtain⟨rfl,rfl,rfl⟩:=h;exact Framed.pure rfl (fun G2=>by simp only[execI,e])
  ·cases h
 |s2b x =>
  simp only[execI]at h
  split at h
  ·rename_i e;simp only[Xb,Xe]at h;obtain⟨rfl,rfl,rfl⟩:=h;exact Framed.pure rfl (fun G2=>by simp only[execI,e])
  ·cases h
 |sslice x lo hi =>
  simp only[execI]at h
  split at h
  ·rename_i s e
   split at h
   ·cases h
   rename_i h1 hh
   split at h
   ·cases h
   rename_i l hl
   simp only[Xb,Xe]at h;obtain⟨rfl,rfl,rfl⟩:=h
   exact Framed.pure rfl (fun G2=>by simp only[execI,e,hh,hl])
  ·cases h
 |field k off x =>
  simp only[execI]at h
  split at h
  ·rename_i cs e
   obtain⟨rfl,rfl,hx⟩:=ZdO h
   exact Framed.pure rfl (fun G2=>by simp only[execI,e,hx,X9])
  ·cases h
 |aaddr k n x i =>
  simp only[execI]at h
  split at h
  ·rename_i e
   split at h
   ·rename_i hc
    obtain⟨rfl,rfl,hx⟩:=ZdO h
    exact Framed.pure rfl (fun G2=>by simp only[execI,e];grind)
   ·cases h
  ·cases h
 |sindex x i =>
  simp only[execI]at h
  split at h
  ·rename_i e1 e2
   split at h
   ·rename_i hc
    simp only[Xo,Xe]at h
    obtain⟨b,hb,rfl,rfl,rfl⟩:=h
    exact Framed.pure rfl (fun G2=>by simp only[execI,e1,e2];grind)
   ·cases h
  ·cases h
 |aindex s k n x i =>
  simp only[execI]at h
  split at h
  ·rename_i e1 e2
   split at h
   ·rename_i hc
    obtain⟨rfl,rfl,hx⟩:=ZdO h
    exact Framed.pure rfl (fun G2=>by simp only[execI,e1,e2];grind)
   ·cases h
  ·cases h
 |ext x i =>
  simp only[execI]at h
  split at h
  ·rename_i e
   obtain⟨rfl,rfl,hx⟩:=ZdO h
   exact Framed.pure rfl (fun G2=>by simp only[execI,e,hx,X9])
  ·cases h
 |len x =>
  simp only[execI]at h
  split at h
  ·rename_i e;simp only[Xb,Xe]at h;obtain⟨rfl,rfl,rfl⟩:=h;exact Framed.pure rfl (fun G2=>by simp only[execI,e])
  ·rename_i e;simp only[Xb,Xe]at h;obtain⟨rfl,rfl,rfl⟩:=h;exact Framed.pure rfl (fun G2=>by simp only[execI,e])
  ·rename_i e;simp only[Xb,Xe]at h;obtain⟨rfl,rfl,rfl⟩:=h;exact Framed.pure rfl (fun G2=>by simp only[execI,e])
  ·cases h
 |slen x =>
  simp only[execI]at h
  split at h
  ·rename_i e;simp only[Xb,Xe]at h;obtain⟨rfl,rfl,rfl⟩:=h;exact Framed.pure rfl (fun G2=>by simp only[execI,e])
  ·cases h
 |mm m xs =>
  simp only[execI]at h
  split at h
  ·rename_i e;simp only[Xb,Xe]at h;obtain⟨rfl,rfl,rfl⟩:=h;exact Framed.pure rfl (fun G2=>by simp only[execI,e])
  ·cases h
 |nilchk x =>
  simp only[execI]at h
  split at h
  ·rename_i e;simp only[Xb,Xe]at h;obtain⟨rfl,rfl,rfl⟩:=h;exact Framed.pure rfl (fun G2=>by simp only[execI,e])
  ·rename_i e;simp only[Xb,Xe]at h;obtain⟨rfl,rfl,rfl⟩:=h;exact Framed.pure rfl (fun G2=>by simp only[execI,e])
  ·rename_i e;simp only[Xb,Xe]at h;obtain⟨rfl,rfl,rfl⟩:=h;exact Framed.pure rfl (fun G2=>by simp only[execI,e])
  ·cases h
 |beq neg x y =>
  simp only[execI]at h
  split at h
  ·rename_i e1 e2;simp only[Xb,Xe]at h;obtain⟨rfl,rfl,rfl⟩:=h;exact Framed.pure rfl (fun G2=>by simp only[execI,e1,e2])
  ·cases h
 |peq neg x y =>
  simp only[execI]at h
  split at h
  ·rename_i e1 e2;simp only[Xb,Xe]at h;obtain⟨rfl,rfl,rfl⟩:=h;exact Framed.pure rfl (fun G2=>by simp only[execI,e1,e2])
  ·rename_i e1 e2;simp only[Xb,Xe]at h;obtain⟨rfl,rfl,rfl⟩:=h;exact Framed.pure rfl (fun G2=>by simp only[execI,e1,e2])
  ·rename_i e1 e2;simp only[Xb,Xe]at h;obtain⟨rfl,rfl,rfl⟩:=h;exact Framed.pure rfl (fun G2=>by simp only[execI,e1,e2])
  ·cases h
theorem ZSb{ins:Ins}{v:AVal}{c:Cls}(ht:ins.touches=false)(h:execI O bf tm G sq ins=some (v,G',c)):c={}/\nsite ins=0:=by
 cases ins<;>simp[Ins.touches]at ht<;>refine⟨?_,rfl⟩<;>simp only[execI]at h
 case mov x=>grind
 case mkfn f xs=>grind
 case bin op x y=>exact(ZdO h).2.1
 case un op x=>exact(ZdO h).2.1
 case faddr off x=>exact(ZdO h).2.1
 case pick c x y =>
  unfold Zhh at h
  grind
 all_goals
  repeat' (split at h)
  all_goals first
   |(cases h;done)
   |(simp only[Xb,Xe]at h;exact h.2.2.symm)
   |exact(ZdO h).2.1
   |(simp only[Xo,Xe]at h;obtain⟨_,_,_,_,h⟩:=h;exact h.symm)
theorem ZKv{ins:Ins}{v:AVal}{c:Cls}(ht:ins.touches=false)(h:execI O bf tm G sq ins=some (v,G',c)):G'=G:=by
 cases ins<;>simp[Ins.touches]at ht<;>simp only[execI]at h
 case mov x=>grind
 case mkfn f xs=>grind
 case bin op x y=>exact(ZdO h).1
 case un op x=>exact(ZdO h).1
 case faddr off x=>exact(ZdO h).1
 case pick c x y =>
  unfold Zhh at h
  grind
 all_goals
  repeat' (split at h)
  all_goals first
   |(cases h;done)
   |(simp only[Xb,Xe]at h;exact h.2.1.symm)
   |exact(ZdO h).1
   |(simp only[Xo,Xe]at h;obtain⟨_,_,_,h,_⟩:=h;exact h.symm)
end
end
section
open Go.RowKit
section
variable {O:ZS}{bf:Nat->Bool}{tm:Tms}{G G':Za}{sq s:Nat}{b:ZP}
theorem Zit:∀ (ts:List Nat) (G:Za),(Zv G ts)[s]?=some .free↔G[s]?=some .free
 | [],G=>Iff.rfl
 |t::ts,G=>by
  simp only[Zv]
  split
  ·rename_i g k xs hs
   rw[Zit ts,XO]
   split
   ·rename_i e;subst e
    split
    ·simp[hs]
    ·simp[hs]
   ·exact Iff.rfl
  ·exact Zit ts G
theorem Zr4{cs:List AVal}{t:Nat}:∀ (ts:List Nat) (G:Za),G[t]?=some (.var cs)->(Zv G ts)[t]?=some (.var cs)
 | [],G,h=>h
 |u::ts,G,h=>by
  simp only[Zv]
  split
  ·rename_i g k xs hs
   refine Zr4 ts _ ?_
   grind
  ·exact Zr4 ts G h
theorem ZsV:∀ (ts:List Nat) (G:Za),s∉ts->Zv (G.set s b) ts=(Zv G ts).set s b
 | [],G,_=>rfl
 |t::ts,G,h=>by
  simp only[X0,not_or]at h
  have e:(G.set s b)[t]?=G[t]?:=by rw[XO,if_neg h.1]
  simp only[Zv,e]
  split
  ·rw[Wj _ _ h.1,ZsV ts _ h.2]
  ·exact ZsV ts G h.2
theorem Zs5{t:Nat}(h:s≠t):(G.set s b).getD t .free=G.getD t .free:=by
 grind
theorem Zp8:∀ (n:Nat) (todo acc:List Nat),∀ x∈acc,x∈Zt G n todo acc
 |0,_,acc,x,h=>h
 |n+1,[],acc,x,h=>h
 |n+1,t::todo,acc,x,h=>by
  simp only[Zt]
  split
  ·exact Zp8 n todo acc x h
  ·exact Zp8 n _ _ x (by simp[h])
theorem Zt3:∀ (n:Nat) (todo acc:List Nat),s∉Zt G n todo acc->Zt (G.set s b) n todo acc=Zt G n todo acc
 |0,_,acc,_=>rfl
 |n+1,[],acc,_=>rfl
 |n+1,t::todo,acc,h=>by
  simp only[Zt]at h⊢
  split
  ·rename_i hc;rw[if_pos hc]at h;exact Zt3 n todo acc h
  ·rename_i hc
   rw[if_neg hc]at h
   have hne:s≠t:=by
    rintro rfl
    exact h (Zp8 n _ _ s (by simp))
   rw[Zs5 hne]
   exact Zt3 n _ _ h
theorem ZAQ{m:Nat}{ids:List Nat}(h:s∉ids):Zn (G.set s b) m ids=Zn G m ids:=by
 funext t g
 unfold Zn
 split
 ·rename_i j hj
  obtain⟨k,_,hk⟩:=Zuc hj
  grind
 ·rfl
theorem ZAA{m:Nat}{ids:List Nat}{C:Rho}:∀ (ts:List Nat) (j:Nat),s∉ts->Zo (G.set s b) m ids C ts j=Zo G m ids C ts j
 | [],_,_=>rfl
 |t::ts,j,h=>by
  simp only[X0,not_or]at h
  simp only[Zo,Zs5 h.1,ZAA ts (j+1) h.2]
theorem Zz6{ids:List Nat}(h:s∉ids):∀ (hp:Za) (j:Nat),Za1 (G.set s b) ids hp j=Za1 G ids hp j
 | [],_=>rfl
 |x::xs,j=>by
  simp only[Za1,Zz6 h xs (j+1)]
  grind
theorem Zzk:∀ (n sq:Nat),(∀ i,i<n->sq+i≠s)->Zaj (G.set s b) sq n=Zaj G sq n
 |0,_,_=>rfl
 |n+1,sq,h=>by
  have h0:=h 0 (by omega)
  simp only[Zaj,freeAt]
  rw[XO,if_neg (by intro e;exact h0 (by simpa using e.symm)),Zzk n (sq+1) (fun i hi=>by have:=h (i+1) (by omega);rwa [show sq+1+i=sq+(i+1)by omega])]
theorem Zzh{ids:List Nat}(h:s∉ids):Zak (G.set s b) ids sq=Zak G ids sq:=by
 funext j g
 unfold Zak
 grind
theorem ZyI{G0:Za}{ids:List Nat}(h:s∉ids):∀ (hp:Za) (j:Nat) (G:Za),(∀ i,i<hp.length->ZaA ids sq (j+i)≠s)->ZaQ (G0.set s b) ids sq hp j (G.set s b)=(ZaQ G0 ids sq hp j G).set s b
 | [],_,_,_=>rfl
 |x::xs,j,G,hn=>by
  have h0:=hn 0 (by simp)
  simp only[X6]at h0
  have eg:ZbZ (G0.set s b) ids j x=ZbZ G0 ids j x:=by
   unfold ZbZ
   split
   ·grind
   ·rfl
  simp only[ZaQ,Zzh h,eg]
  rw[Wj _ _ (Ne.symm h0)]
  exact ZyI h xs (j+1) _ (fun i hi=>by have:=hn (i+1) (by simp;omega);rwa [show j+1+i=j+(i+1)by omega])
theorem ZAb:∀ (ids:List Nat),s∉ids->Za9 (G.set s b) ids=Za9 G ids
 | [],_=>rfl
 |t::ts,h=>by
  simp only[X0,not_or]at h
  simp only[Za9,XO,if_neg h.1,ZAb ts h.2]
theorem ZPu{C:Rho}{g:Nat}{x:ZP}(h:okB x=true):Zz C g x≠.free:=by
 cases x<;>simp[okB]at h<;>simp[Zz]
theorem Zo5{G0:Za}{ids:List Nat}:∀ (hp:Za) (j:Nat) (G:Za),Za1 G0 ids hp j=true->(ZaQ G0 ids sq hp j G)[s]?=some .free->G[s]?=some .free
 | [],_,_,_,h=>h
 |x::xs,j,G,hk,h=>by
  simp only[Za1,Xk]at hk
  simp only[ZaQ]at h
  have:=Zo5 xs (j+1) _ hk.2 h
  rw[XO]at this
  split at this
  ·split at this
   ·injection this with this;exact absurd this (ZPu hk.1.1)
   grind
  grind
theorem ZKp{ts:List Nat}(h:Zg2 G ts)(hs:G[s]?=some .free):s∉ts:=by
 intro hm
 obtain⟨x,hx,hne⟩:=h s hm
 grind
theorem ZuZ{f own:Nat}{view:Bool}{args:List AVal}{v:AVal}{c:Cls}(h:Zq O bf G sq f own view args=some (v,G',c))(hs':G'[s]?=some .free)(hne:∀ i,i<own->sq+i≠s) :
  G[s]?=some .free/\Zq O bf (G.set s b) sq f own view args=some (v,G'.set s b,c):=by
 unfold Zq at h
 split at h
 ·cases h
 rename_i xs ts us md hsh
 obtain⟨hsub,hnf,hag⟩:=Zxz hsh
 generalize hids:Zt (Zv G ts) 1000 (Zl xs) []=ids at h
 unfold Zbk at h
 split at h
 case isFalse=>cases h
 rename_i hall
 generalize hq:ZV view ids.length (ZbV md (O f (Zj (Zn (Zv G ts) 0 ids) xs) (Zo (Zv G ts) 0 ids (Zn (Zv G ts) 0 ids) ids 0)))=q at h
 have key:G[s]?=some .free->s∉us/\s∉ids/\Zq O bf (G.set s b) sq f own view args=Zaz (G.set s b) ((Zv G ts).set s b) ids us sq own q:=by
  intro hs
  have n1:=ZKp hnf hs
  have hsf:(Zv G ts)[s]?=some .free:=(Zit ts G).2 hs
  have n2:s∉ids:=by
   intro hm
   have:=Xy.1 hall s hm
   rw[Xh,hsf]at this
   simp[okB]at this
  refine⟨n1,n2,?_⟩
  unfold Zq
  rw[hag _ (fun t ht=>by grind)]
  simp only
  rw[ZsV ts G (fun hm=>n1 (hsub s hm)),Zt3 _ _ _ (by grind),hids]
  unfold Zbk
  have hall2:(ids.all fun t=>okB (((Zv G ts).set s b).getD t .free))=true:=by
   rw[Xy]at hall ⊢
   intro t ht
   rw[Zs5 (by rintro rfl;exact n2 ht)]
   exact hall t ht
  rw[if_pos hall2,ZAQ n2,ZAA ids 0 n2,hq]
 cases q with
 |none=>simp only[Zaz]at h;cases h
 |some q =>
  obtain⟨r,hp⟩:=q
  simp only[Zaz]at h
  split at h
  ·rename_i hc
   split at h
   ·rename_i hf
    simp only[Xb,Xe]at h
    obtain⟨rfl,rfl,rfl⟩:=h
    obtain⟨n1,n2,k⟩:=key hs'
    refine⟨hs',?_⟩
    rw[k]
    simp only[Zaz,hc,if_true,hf]
   split at h
   ·rename_i hf hap
    simp only[Xb,Xe]at h
    obtain⟨rfl,rfl,rfl⟩:=h
    obtain⟨n1,n2,k⟩:=key hs'
    refine⟨hs',?_⟩
    have hap2:Zda (G.set s b) us r=true:=by
     unfold Zda at hap ⊢
     simp only[Xk]at hap ⊢
     refine⟨hap.1,Xy.2 fun t ht=>?_⟩
     have:=Xy.1 hap.2 t ht
     unfold Zej at this ⊢
     rw[XO,if_neg (by grind)];exact this
    rw[k]
    simp only[Zaz,hc,if_true,hf,hap2,if_false,Xi]
   ·rename_i hf hap
    simp only[Xb,Xe]at h
    obtain⟨rfl,rfl,rfl⟩:=h
    have hs:=(Zit ts G).1 hs'
    obtain⟨n1,n2,k⟩:=key hs
    refine⟨hs,?_⟩
    have hap2:¬Zda (G.set s b) us r=true:=by
     intro h2
     refine hap ?_
     unfold Zda at h2 ⊢
     simp only[Xk]at h2 ⊢
     refine⟨h2.1,Xy.2 fun t ht=>?_⟩
     have:=Xy.1 h2.2 t ht
     unfold Zej at this ⊢
     rw[XO,if_neg (by grind)]at this;exact this
    rw[k]
    simp only[Zaz,hc,if_true,hf,if_neg hap2,if_false,Xi]
  ·rename_i hc
   split at h
   ·rename_i lo n k xs' hcl
    simp only[Xb,Xe]at h
    obtain⟨rfl,rfl,rfl⟩:=h
    have hown:own=1:=by
     split at hcl
     case isFalse=>cases hcl
     unfold ZgJ at hcl
     split at hcl
     case h_2=>cases hcl
     split at hcl
     case isFalse=>cases hcl
     rename_i hcc
     simp only[Xk,decide_eq_true_eq]at hcc
     exact hcc.1
    have hns:sq≠s:=by have:=hne 0 (by omega);simpa using this
    have hs:G[s]?=some .free:=by rwa [XO,if_neg hns]at hs'
    obtain⟨n1,n2,kk⟩:=key hs
    refine⟨hs,?_⟩
    rw[kk]
    simp only[Zaz]
    rw[if_neg hc,hcl]
    simp only
    rw[Wj _ _ (Ne.symm hns)]
   split at h
   ·rename_i hcl hcc
    simp only[Xb,Xe]at h
    obtain⟨rfl,rfl,rfl⟩:=h
    simp only[Xk,decide_eq_true_eq]at hcc
    obtain⟨⟨⟨c1,c2⟩,c3⟩,c4⟩:=hcc
    have hs:=(Zit ts G).1 (Zo5 hp 0 _ c3 hs')
    obtain⟨n1,n2,kk⟩:=key hs
    refine⟨hs,?_⟩
    rw[kk]
    have htg:∀ i,i<hp.length->ZaA ids sq (0+i)≠s:=by
     intro i hi e
     rw[XF]at e
     unfold ZaA at e
     rw[Xh]at e
     rcases Wz i ids.length with hl |hl
     ·grind
     ·rw[Wb hl]at e
      exact hne (i-ids.length) (by omega) e
    simp only[Zaz]
    rw[if_neg hc,hcl]
    simp only[c1,c2,decide_true,Zz6 n2,c3,Zzk own sq hne,c4,XT,if_true,Zzh n2,ZyI n2 hp 0 _ htg,ZAb ids n2]
   ·cases h
theorem ZJ9{f own:Nat}{view:Bool}{args:List AVal}{v:AVal}{c:Cls}(h:Zq O bf G sq f own view args=some (v,G',c))(hs:G'[s]?=some .free):G[s]?=some .free:=by
 unfold Zq at h
 split at h
 ·cases h
 rename_i xs ts us md hsh
 unfold Zbk at h
 split at h
 case isFalse=>cases h
 generalize Zt (Zv G ts) 1000 (Zl xs) []=ids at h
 generalize ZV view ids.length (ZbV md (O f (Zj (Zn (Zv G ts) 0 ids) xs) (Zo (Zv G ts) 0 ids (Zn (Zv G ts) 0 ids) ids 0)))=q at h
 cases q with
 |none=>simp only[Zaz]at h;cases h
 |some q =>
  obtain⟨r,hp⟩:=q
  simp only[Zaz]at h
  split at h
  ·split at h
   ·grind
   split at h
   ·grind
   ·simp only[Xb,Xe]at h
    rw[<-h.2.1]at hs
    exact(Zit ts G).1 hs
  ·split at h
   ·grind
   split at h
   ·rename_i hcc
    simp only[Xb,Xe]at h
    rw[<-h.2.1]at hs
    simp only[Xk,decide_eq_true_eq]at hcc
    exact(Zit ts G).1 (Zo5 hp 0 _ hcc.1.2 hs)
   ·cases h
theorem Zq8{t:Nat}{cs:List AVal}:∀ {ids:List Nat},(Za9 G ids).lookup t=some cs->G[t]?=some (.var cs)
 | [],h=>by simp[Za9]at h
 |u::us,h=>by
  simp only[Za9]at h
  split at h
  ·rename_i cs' hu
   rw[Wa]at h
   split at h
   ·grind
   ·exact Zq8 h
  ·exact Zq8 h
theorem ZnT{t:Nat}{cs:List AVal}:∀ {ids:List Nat},(Za9 G ids).lookup t=none->t∈ids->G[t]?≠some (.var cs)
 |u::us,h,hm=>by
  intro hv
  simp only[Za9]at h
  rcases X0.1 hm with e |hm
  ·grind
  ·split at h
   ·rw[Wa]at h
    split at h
    ·cases h
    ·exact ZnT h hm hv
   ·exact ZnT h hm hv
theorem Zxh{G0:Za}{ids:List Nat}{t:Nat}:∀ (hp:Za) (j:Nat) (G:Za),(∀ i x,hp[i]?=some x->ZaA ids sq (j+i)=t->∃ cs,x=.var cs)->(∃ cs,G[t]?=some (.var cs))->∃ cs,(ZaQ G0 ids sq hp j G)[t]?=some (.var cs)
 | [],_,_,_,h=>h
 |x::xs,j,G,hv,⟨cs,h⟩=>by
  simp only[ZaQ]
  refine Zxh xs (j+1) _ (fun i y hy e=>hv (i+1) y (by grind) (by rwa [show j+(i+1)=j+1+i by omega])) ?_
  rw[XO]
  split
  ·rename_i e
   obtain⟨cs',rfl⟩:=hv 0 x rfl (by grind)
   split
   ·exact⟨_,rfl⟩
   grind
  grind
theorem ZCB{f own:Nat}{view:Bool}{args:List AVal}{v:AVal}{c:Cls}(h:Zq O bf G sq f own view args=some (v,G',c))(ha:c.any=true){t:Nat}{cs:List AVal}(ht:G[t]?=some (.var cs)) :
  (c.upd.lookup t=none->G'[t]?=some (.var cs))/\(∀ cs2,c.upd.lookup t=some cs2->G'[t]?=some (.var cs2)):=by
 unfold Zq at h
 split at h
 ·cases h
 rename_i xs ts us md hsh
 generalize hids:Zt (Zv G ts) 1000 (Zl xs) []=ids at h
 unfold Zbk at h
 split at h
 case isFalse=>cases h
 generalize ZV view ids.length (ZbV md (O f (Zj (Zn (Zv G ts) 0 ids) xs) (Zo (Zv G ts) 0 ids (Zn (Zv G ts) 0 ids) ids 0)))=q at h
 cases q with
 |none=>simp only[Zaz]at h;cases h
 |some q =>
  obtain⟨r,hp⟩:=q
  simp only[Zaz]at h
  split at h
  ·grind
  ·split at h
   ·grind
   split at h
   ·rename_i hcc
    simp only[Xb,Xe]at h
    obtain⟨_,rfl,rfl⟩:=h
    simp only[Xk,decide_eq_true_eq]at hcc
    obtain⟨⟨⟨c1,c2⟩,c3⟩,c4⟩:=hcc
    have hf:=Zr4 ts G ht
    refine⟨fun hn=>?_,fun cs2 hc2=>Zq8 hc2⟩
    have tgt:∀ i,i<hp.length->ZaA ids sq (0+i)=t->i<ids.length/\ids[i]?=some t:=by
     intro i hi e
     rw[XF]at e
     unfold ZaA at e
     rw[Xh]at e
     rcases Wz i ids.length with hl |hl
     ·grind
     ·rw[Wb hl]at e
      simp only[Option.getD_none]at e
      have:=Zeh c4 (i:=i-ids.length) (by omega)
      rw[e,hf]at this;cases this
    by_cases hm:t∈ids
    ·exfalso
     obtain⟨cs3,h3⟩:=Zxh (G0:=Zv G ts) (sq:=sq) (ids:=ids) (t:=t) hp 0 (Zv G ts) (fun i x hx e=>by
      obtain⟨hl,hi⟩:=tgt i (Xn.1 hx).1 e
      have:=(Zi7 c3 hx).2
      rw[XF,hi]at this
      simp only at this
      have hk:=this.1
      rw[Xh,hf]at hk
      simp only[Xau]at hk
      cases x<;>simp[Zcy]at hk
      grind) ⟨_,hf⟩
     exact ZnT hn hm h3
    ·rw[ZkP (fun i hi e=>hm (by
      obtain⟨hl,hi⟩:=tgt i hi e
      exact XL hi))]
     exact hf
   ·cases h
end
end
section
open Go.RowKit
section
variable {P:Program}{O:ZS}{bf:Nat->Bool}{tm tm1 tm2:Tms}{G G' G1 G2:Za}{sq:Nat}
theorem ZxD{d:Option Nat}{v:AVal}{n:Nat}(h:d≠some n):tget (tput tm d v) n=tget tm n:=by
 cases d with
 |none=>rfl
 |some d =>
  have : d≠n:=by rintro rfl;exact h rfl
  simp only[tput,ZnP,this,if_false]
theorem ZzG{a b:Nat}(u v:AVal)(h:a≠b):∀ tm:Tms,tins b v (tins a u tm)=tins a u (tins b v tm)
 | []=>by
  simp only[tins]
  grind
 |(e,w)::r=>by
  have ih:=ZzG u v h r
  rcases Nat.lt_trichotomy e a with ha |ha |ha<;>rcases Nat.lt_trichotomy e b with hb |hb |hb
  ·rcases Nat.lt_or_gt_of_ne h with hab |hab
   ·have n1:¬b<a:=by omega
    have n2:¬b=a:=by omega
    simp[tins,ha,hb,hab,n1,n2]
   ·have n1:¬a<b:=by omega
    have n2:¬a=b:=h
    simp[tins,ha,hb,hab,n1,n2]
  ·subst hb
   have n1:¬a<e:=by omega
   have n2:¬a=e:=h
   simp[tins,ha,n1,n2]
  ·have n1:¬a<b:=by omega
   have n2:¬a=b:=h
   have n3:¬e<b:=by omega
   have n4:¬e=b:=by omega
   simp[tins,ha,n1,n2,n3,n4]
  ·subst ha
   have n1:¬b<e:=by omega
   have n2:¬b=e:=fun q=>h q.symm
   simp[tins,hb,n1,n2]
  ·grind
  ·subst ha
   have n3:¬e<b:=by omega
   have n4:¬e=b:=by omega
   simp[tins,n3,n4]
  ·have n1:¬b<a:=by omega
   have n2:¬b=a:=by omega
   have n3:¬e<a:=by omega
   have n4:¬e=a:=by omega
   simp[tins,hb,n1,n2,n3,n4]
  ·subst hb
   have n3:¬e<a:=by omega
   have n4:¬e=a:=by omega
   simp[tins,n3,n4]
  ·have n1:¬e<a:=by omega
   have n2:¬e=a:=by omega
   have n3:¬e<b:=by omega
   have n4:¬e=b:=by omega
   simp[tins,n1,n2,n3,n4,ih]
theorem Zgk{a b:Option Nat}(u v:AVal)(h:∀ d,a=some d->b≠some d):tput (tput tm a u) b v=tput (tput tm b v) a u:=by
 cases a with
 |none=>cases b<;>rfl
 |some a =>
  cases b with
  |none=>rfl
  |some b =>
   simp only[tput]
   exact ZzG u v (by grind) tm
theorem Ze3{g:Option (Nat×Bool)}(h:∀ j b,g=some (j,b)->tget tm j=tget tm1 j):ZbM g tm=ZbM g tm1:=by
 cases g with
 |none=>rfl
 |some g=>simp only[ZbM];grind
theorem ZeK{o:AOp}{j:Nat}{b:Bool}(h:o.guard=some (j,b)):j∈o.reads:=by simp[AOp.reads,h]
theorem Ziu{o:AOp}{n:Nat}(h:n∈o.ins.reads):n∈o.reads:=by simp[AOp.reads,h]
theorem ZhP{o:AOp}{v:AVal}{c:Cls}(h:ZW O bf o sq tm G=some (v,tm1,G1,c)):tm1=tput tm o.dst v/\∀ tm',(∀ n∈o.reads,tget tm n=tget tm' n)->ZW O bf o sq tm' G=some (v,tput tm' o.dst v,G1,c):=by
 unfold ZW at h
 split at h
 ·cases h
 ·rename_i hw
  simp only[Xb,Xe]at h
  obtain⟨rfl,rfl,rfl,rfl⟩:=h
  refine⟨rfl,fun tm' hr=>?_⟩
  simp only[ZW,Ze3 (g:=o.guard) (tm:=tm') (tm1:=tm) (fun j b hg=>(hr j (ZeK hg)).symm),hw]
 ·rename_i hw
  split at h
  ·rename_i hf
   split at h
   ·rename_i v' G'' c' he
    simp only[Xb,Xe]at h
    obtain⟨rfl,rfl,rfl,rfl⟩:=h
    refine⟨rfl,fun tm' hr=>?_⟩
    simp only[ZW,Ze3 (g:=o.guard) (tm:=tm') (tm1:=tm) (fun j b hg=>(hr j (ZeK hg)).symm),hw]
    rw[if_pos hf,<-Zin (tm:=tm) (tm':=tm') (fun n hn=>hr n (Ziu hn)),he]
   ·cases h
  ·cases h
theorem Zlk{o:AOp}{v:AVal}{c:Cls}(h:ZW O bf o sq tm G=some (v,tm1,G1,c))(hn:ZeJ c=true) :
  ∃ ob,tm1=tput tm o.dst v/\G1=Zbn G sq ob/\(ob.isSome=true->nsite o.ins≠0/\freeAt G sq=true)/\ob≠some .free/\Zg2 G c.rd /\
   ∀ tm' G2,(∀ n∈o.reads,tget tm n=tget tm' n)->Agree G G2 c.rd->(nsite o.ins≠0->freeAt G sq=true->freeAt G2 sq=true)->ZW O bf o sq tm' G2=some (v,tput tm' o.dst v,Zbn G2 sq ob,c):=by
 simp only[ZeJ,Xk,WR,Xap]at hn
 unfold ZW at h
 split at h
 ·cases h
 ·rename_i hw
  simp only[Xb,Xe]at h
  obtain⟨rfl,rfl,rfl,rfl⟩:=h
  refine⟨none,rfl,rfl,by simp,by simp,Zfu,fun tm' G2 hr _ _=>?_⟩
  simp only[ZW,Ze3 (g:=o.guard) (tm:=tm') (tm1:=tm) (fun j b hg=>(hr j (ZeK hg)).symm),hw,Zbn]
 ·rename_i hw
  split at h
  ·rename_i hf
   split at h
   ·rename_i v' G'' c' he
    simp only[Xb,Xe]at h
    obtain⟨rfl,rfl,rfl,rfl⟩:=h
    obtain⟨ob,e1,e2,e3,e4,e5⟩:=ZFC he hn.1 hn.2
    refine⟨ob,rfl,e1,fun ho=>⟨e2 ho,?_⟩,e3,e4,fun tm' G2 hr hA hfr=>?_⟩
    ·grind
    ·have hf2:(nsite o.ins==0 ||freeAt G2 sq)=true:=by
      by_cases h0:nsite o.ins=0
      ·simp[h0]
      ·simp only[WH,beq_iff_eq,h0,false_or]at hf ⊢
       exact hfr h0 hf
     simp only[ZW,Ze3 (g:=o.guard) (tm:=tm') (tm1:=tm) (fun j b hg=>(hr j (ZeK hg)).symm),hw]
     have e5':execI O bf tm G2 sq o.ins=some (v',Zbn G2 sq ob,c'):=e5 G2 hA
     rw[if_pos hf2,<-Zin (tm:=tm) (tm':=tm') (fun n hn=>hr n (Ziu hn)),e5']
   ·cases h
  ·cases h
theorem Zgf{s:Nat}:freeAt G s=true↔G[s]?=some .free:=by
 unfold freeAt
 grind
theorem ZkH{s t:Nat}{ob:Option ZP}(h:ob.isSome=true->s≠t):(Zbn G s ob)[t]?=G[t]?:=by
 cases ob with
 |none=>rfl
 |some b=>simp only[Zbn];grind
theorem ZJg{s t:Nat}{ob oc:Option ZP}(h:ob.isSome=true->oc.isSome=true->s≠t):Zbn (Zbn G s ob) t oc=Zbn (Zbn G t oc) s ob:=by
 cases ob with
 |none=>cases oc<;>rfl
 |some b =>
  cases oc with
  |none=>rfl
  |some c=>simp only[Zbn];exact Wj b c (h rfl rfl)
theorem ZNV{x y:AVal}(h:Zei x y=true):x=y:=by
 unfold Zei at h
 grind
theorem Znr{o:AOp}{v:AVal}{c:Cls}(hc:ZaG o.ins=true)(h:ZW O bf o sq tm G=some (v,tm1,G1,c)) :
  (ZbM o.guard tm=some false/\v=.tup []/\G1=G/\c={}) \/
  (ZbM o.guard tm=some true/\(nsite o.ins==0 ||freeAt G sq)=true/\∃ f own view args,own<=nsite o.ins/\(∀ tm' G2 v2 G3 c2,(∀ n∈o.reads,tget tm n=tget tm' n)->(nsite o.ins==0 ||freeAt G2 sq)=true->Zq O bf G2 sq f own view args=some (v2,G3,c2)->ZW O bf o sq tm' G2=some (v2,tput tm' o.dst v2,G3,c2))/\Zq O bf G sq f own view args=some (v,G1,c)):=by
 unfold ZW at h
 split at h
 ·cases h
 ·grind
 ·rename_i hw
  split at h
  ·rename_i hf
   split at h
   ·rename_i v' G'' c' he
    simp only[Xb,Xe]at h
    obtain⟨rfl,rfl,rfl,rfl⟩:=h
    refine Xt ⟨hw,hf,?_⟩
    have gen:∀ tm' G2,(∀ n∈o.reads,tget tm n=tget tm' n)->(nsite o.ins==0 ||freeAt G2 sq)=true->∀ v2 G3 c2,execI O bf tm G2 sq o.ins=some (v2,G3,c2)->ZW O bf o sq tm' G2=some (v2,tput tm' o.dst v2,G3,c2):=by
     intro tm' G2 hr hf2 v2 G3 c2 he2
     simp only[ZW,Ze3 (g:=o.guard) (tm:=tm') (tm1:=tm) (fun j b hg=>(hr j (ZeK hg)).symm),hw]
     rw[if_pos hf2,<-Zin (tm:=tm) (tm':=tm') (fun n hn=>hr n (Ziu hn)),he2]
    cases hins:o.ins with
    |call f own view args =>
     rw[hins]at he gen
     simp only[execI]at he gen
     refine⟨f,own,view,args.map (·.ev tm),XH _,fun tm' G2 v2 G3 c2 hr hf2 h2=>?_,he⟩
     grind
    |callv x args =>
     rw[hins]at he gen
     simp only[execI]at he
     split at he
     ·rename_i f caps hx
      refine⟨(if f<1000000 then f else f-1000000),4,false,(if f<1000000 then args.map (·.ev tm)++caps else caps++args.map (·.ev tm)),by simp[nsite],fun tm' G2 v2 G3 c2 hr hf2 h2=>?_,he⟩
      refine gen tm' G2 hr hf2 v2 G3 c2 ?_
      simp only[execI,hx]
      exact h2
     ·cases he
    |_=>rw[hins]at hc;simp[ZaG]at hc
   ·cases h
  ·cases h
theorem ZSP{o:AOp}{v:AVal}{c:Cls}{s:Nat}(hc:ZaG o.ins=true)(h:ZW O bf o sq tm G=some (v,tm1,G1,c))(hs:G1[s]?=some .free)(hne:∀ i,i<nsite o.ins->sq+i≠s) :
  G[s]?=some .free/\∀ b tm',(∀ n∈o.reads,tget tm n=tget tm' n)->ZW O bf o sq tm' (G.set s b)=some (v,tput tm' o.dst v,G1.set s b,c):=by
 have h0:=h
 rcases Znr hc h with⟨hw,rfl,rfl,rfl⟩ |⟨hw,hf,f,own,view,args,ho,gen,hg⟩
 ·refine⟨hs,fun b tm' hr=>?_⟩
  simp only[ZW,Ze3 (g:=o.guard) (tm:=tm') (tm1:=tm) (fun j b hg=>(hr j (ZeK hg)).symm),hw]
 ·obtain⟨k1,k2⟩:=ZuZ (b:=.free) hg hs (fun i hi=>hne i (by omega))
  refine⟨k1,fun b tm' hr=>gen tm' _ _ _ _ hr ?_ (ZuZ (b:=b) hg hs (fun i hi=>hne i (by omega))).2⟩
  by_cases h0:nsite o.ins=0
  ·simp[h0]
  ·simp only[WH,beq_iff_eq,h0,false_or,Zgf]at hf ⊢
   have:=hne 0 (by omega)
   rw[XO,if_neg (by intro e;exact this (by simpa using e.symm))]
   exact hf
theorem ZPU{o:AOp}{v:AVal}{c:Cls}{s:Nat}(hc:ZaG o.ins=true)(h:ZW O bf o sq tm G=some (v,tm1,G1,c))(hs:G1[s]?=some .free):G[s]?=some .free:=by
 rcases Znr hc h with⟨hw,rfl,rfl,rfl⟩ |⟨hw,hf,f,own,view,args,ho,gen,hg⟩
 ·exact hs
 ·exact ZJ9 hg hs
theorem ZBz{o:AOp}{v:AVal}{c:Cls}{t:Nat}{cs:List AVal}(hc:ZaG o.ins=true)(h:ZW O bf o sq tm G=some (v,tm1,G1,c))(ha:c.any=true)(ht:G[t]?=some (.var cs)) :
  (c.upd.lookup t=none->G1[t]?=some (.var cs))/\(∀ cs2,c.upd.lookup t=some cs2->G1[t]?=some (.var cs2)):=by
 rcases Znr hc h with⟨hw,rfl,rfl,rfl⟩ |⟨hw,hf,f,own,view,args,ho,gen,hg⟩
 ·cases ha
 ·exact ZCB hg ha ht
theorem ZGn {G G1 : Za} {sq k bytes : Nat} {x y v : AVal} {c : Cls} {t : Nat} {cs : List AVal} (h : Zan G sq k bytes x y = some (v, G1, c)) (hs : sq ≠ t) (ht : G[t]? = some (.var cs)) : G1[t]? = some (.var cs) := by
  have key : ∀ (u : Nat) (b : ZP), (u = sq \/ ∃ b0, G[u]? = some b0 /\ ∀ cs, b0 ≠ .var cs) -> (G.set u b)[t]? = some (.var cs) := by
    intro u b hu
    rw [XO, if_neg, ht]
    rintro rfl
    rcases hu with rfl | ⟨b0, h1, h2⟩
    . exact hs rfl
    . rw [ht] at h1; injection h1 with h1; exact h2 _ h1.symm
  unfold Zan at h
  repeat' split at h
  all_goals first
    | (cases h; done)
    | (unfold ZdY at h
       repeat' split at h
       all_goals first
         | (cases h; done)
         | (simp only [Xb, Xe] at h
            obtain ⟨-, rfl, -⟩ := h
            first
              | exact key _ _ (Xq rfl)
              | exact key _ _ (Xt ⟨_, by assumption, by simp⟩)))
    | (simp only [Xb, Xe] at h
       obtain ⟨-, rfl, -⟩ := h
       first
         | exact ht
         | exact key _ _ (Xq rfl)
         | exact key _ _ (Xt ⟨_, by assumption, by simp⟩))
theorem ZIz{o:AOp}{v:AVal}{c:Cls}{t:Nat}{cs:List AVal}(hc:ZaU o.ins=true)(h:ZW O bf o sq tm G=some (v,tm1,G1,c))(ht:G[t]?=some (.var cs)):G1[t]?=some (.var cs):=by
 unfold ZW at h
 split at h
 ·cases h
 ·grind
 ·split at h
  ·rename_i hf
   split at h
   ·rename_i v' G'' c' he
    simp only[Xb,Xe]at h
    obtain⟨rfl,rfl,rfl,rfl⟩:=h
    cases hins:o.ins with
    |app k bytes z x y =>
     rw[hins]at he hf
     simp only[execI]at he
     refine ZGn he ?_ ht
     rintro rfl
     simp[nsite,freeAt,ht]at hf
    |_=>rw[hins]at hc;simp[ZaU]at hc
   ·cases h
  ·cases h
theorem Zxd {G G1 : Za} {sq k bytes : Nat} {x y v : AVal} {c : Cls} {s : Nat} (h : Zan G sq k bytes x y = some (v, G1, c)) (hs : G1[s]? = some .free) : G[s]? = some .free := by
  have key : ∀ (u : Nat) (b0 : ZP), b0 ≠ .free -> (G.set u b0)[s]? = some .free -> G[s]? = some .free := by
    intro u b0 hb hh
    rw [XO] at hh
    split at hh
    . split at hh
      . injection hh with hh; exact absurd hh hb
      . cases hh
    . exact hh
  unfold Zan at h
  repeat' split at h
  all_goals first
    | (cases h; done)
    | (unfold ZdY at h
       repeat' split at h
       all_goals first
         | (cases h; done)
         | (simp only [Xb, Xe] at h
            obtain ⟨-, rfl, -⟩ := h
            exact key _ _ (by simp) hs))
    | (simp only [Xb, Xe] at h
       obtain ⟨-, rfl, -⟩ := h
       first
         | exact hs
         | exact key _ _ (by simp) hs)
theorem ZHE{G G1:Za}{sq k bytes:Nat}{x y v:AVal}{c:Cls}{s:Nat}(ha:c.any=false)(h:Zan G sq k bytes x y=some (v,G1,c))(hs:G[s]?=some .free)(hne:sq≠s)(b:ZP):Zan (G.set s b) sq k bytes x y=some (v,G1.set s b,c):=by
 have get:∀ (t:Nat) (b0:ZP),G[t]?=some b0->b0≠.free->(G.set s b)[t]?=some b0/\s≠t:=by
  intro t b0 h1 h2
  have hst:s≠t:=by
   rintro rfl
   rw[hs]at h1;injection h1 with h1;exact h2 h1.symm
  exact⟨by rw[Xl hst];exact h1,hst⟩
 have hel:∀ ys us,ZZ G y=some (ys,us)->ZZ (G.set s b) y=some (ys,us):=by
  intro ys us he
  unfold ZZ at he ⊢
  split at he
  ·exact he
  ·exact he
  ·exact he
  ·grind
  ·cases he
 unfold Zan at h
 cases he:ZZ G y with
 |none =>
  rw[he]at h
  simp only at h
  unfold ZdY at h
  grind
 |some z =>
  obtain⟨ys,us⟩:=z
  rw[he]at h
  simp only at h
  unfold Zan
  rw[hel _ _ he]
  simp only
  split at h
  case isFalse=>cases h
  rename_i hk
  rw[if_pos hk]
  split at h
  ·split at h
   case isFalse=>cases h
   rename_i h1
   simp only[Xb,Xe]at h
   obtain⟨rfl,rfl,rfl⟩:=h
   simp only[h1,if_true]
   rw[Wj _ _ hne]
  ·split at h
   case isFalse=>cases h
   rename_i h1
   simp only[h1,and_self,if_true]
   split at h
   ·grind
   ·simp only[Xb,Xe]at h
    obtain⟨rfl,rfl,rfl⟩:=h
    rw[Wj _ _ hne]
  ·split at h
   ·rename_i hr
    obtain⟨g1,g2⟩:=get _ _ hr (by simp)
    rw[g1]
    simp only
    split at h
    case isFalse=>cases h
    rename_i h1
    rw[if_pos h1]
    split at h
    ·rename_i h2
     rw[if_pos h2]
     simp only[Xb,Xe]at h
     obtain⟨rfl,rfl,rfl⟩:=h
     rw[Wj _ _ g2]
    ·rename_i h2
     rw[if_neg h2]
     split at h
     case isFalse=>cases h
     rename_i h3
     rw[if_pos h3]
     simp only[Xb,Xe]at h
     obtain⟨rfl,rfl,rfl⟩:=h
     rw[Wj _ _ g2]
   ·cases h
  ·cases h
theorem Zvv{o:AOp}{v:AVal}{c:Cls}(hc:ZaU o.ins=true)(h:ZW O bf o sq tm G=some (v,tm1,G1,c)) :
  (ZbM o.guard tm=some false/\v=.tup []/\G1=G/\c={})\/(freeAt G sq=true/\∃ k bytes x y,Zan G sq k bytes x y=some (v,G1,c)/\∀ tm' G2 v2 G3 c2,(∀ n∈o.reads,tget tm n=tget tm' n)->freeAt G2 sq=true->Zan G2 sq k bytes x y=some (v2,G3,c2)->ZW O bf o sq tm' G2=some (v2,tput tm' o.dst v2,G3,c2)):=by
 unfold ZW at h
 split at h
 ·cases h
 ·grind
 ·rename_i hw
  split at h
  ·rename_i hf
   split at h
   ·rename_i v' G'' c' he
    simp only[Xb,Xe]at h
    obtain⟨rfl,rfl,rfl,rfl⟩:=h
    cases hins:o.ins with
    |app k bytes z x y =>
     have he0:=he
     rw[hins]at he hf
     simp only[execI]at he
     refine Xt ⟨by simpa[nsite]using hf,k,bytes,_,_,he,fun tm' G2 v2 G3 c2 hr hf2 h2=>?_⟩
     simp only[ZW,Ze3 (g:=o.guard) (tm:=tm') (tm1:=tm) (fun j b hg=>(hr j (ZeK hg)).symm),hw]
     rw[if_pos (by grind),<-Zin (tm:=tm) (tm':=tm') (fun n hn=>hr n (Ziu hn)),hins]
     simp only[execI,h2]
    |_=>rw[hins]at hc;simp[ZaU]at hc
   ·cases h
  ·cases h
theorem Zqp{t:Nat}{cs:List AVal}:∀ (ts:List Nat) (G:Za),G[t]?=some (.var cs)->(Zv G ts)[t]?=some (.var cs)
 | [],G,h=>h
 |u::ts,G,h=>by
  unfold Zv
  split
  ·rename_i g k xs hu
   refine Zqp ts _ ?_
   rw[XO,if_neg,h]
   grind
  ·exact Zqp ts G h
theorem ZEa {G G1 : Za} {k : Nat} {a x v : AVal} {c : Cls} {t : Nat} {cs : List AVal} (h : stA G k a x = some (v, G1, c)) (hw : c.wr.contains t = false) (ht : G[t]? = some (.var cs)) : G1[t]? = some (.var cs) := by
  unfold stA at h
  repeat' split at h
  all_goals first
    | (cases h; done)
    | (simp only [Xb, Xe] at h
       obtain ⟨-, rfl, rfl⟩ := h
       simp only [List.contains_cons, Wh, Bool.or_false, Bool.or_eq_false_iff, beq_eq_false_iff_ne, ne_eq] at hw
       first
         | (rw [XO, if_neg (fun e => hw e.symm)]; exact ht)
         | (rw [XO, if_neg (fun e => hw.1 e.symm)]; exact Zqp _ _ ht))
theorem ZIx{o:AOp}{v:AVal}{c:Cls}{t:Nat}{cs:List AVal}(hc:Zbi o.ins=true)(hw:c.wr.contains t=false)(h:ZW O bf o sq tm G=some (v,tm1,G1,c))(ht:G[t]?=some (.var cs)):G1[t]?=some (.var cs):=by
 unfold ZW at h
 split at h
 ·cases h
 ·grind
 ·split at h
  ·rename_i hf
   split at h
   ·rename_i v' G'' c' he
    simp only[Xb,Xe]at h
    obtain⟨rfl,rfl,rfl,rfl⟩:=h
    cases hins:o.ins with
    |st k x y =>
     rw[hins]at he hf
     simp only[execI]at he
     exact ZEa he hw ht
    |_=>rw[hins]at hc;simp[Zbi]at hc
   ·cases h
  ·cases h
theorem ZtT {o : AOp} {v : AVal} {c ci : Cls} (hl : ZaP o.ins = true) (h : ZW O bf o sq tm G = some (v, tm1, G1, c)) (hg : ZaV c ci = true) :
    ∃ t k off, c.got = [(t, k, off, v)] /\ G1 = G /\ tm1 = tput tm o.dst v /\ (∀ tm' G2, (∀ n ∈ o.reads, tget tm n = tget tm' n) -> (∃ cs, G2[t]? = some (.var cs) /\ partA k cs off = some v) -> ZW O bf o sq tm' G2 = some (v, tput tm' o.dst v, G2, c)) /\ ∃ cs, G[t]? = some (.var cs) /\ partA k cs off = some v := by
  unfold ZW at h
  split at h
  . cases h
  . simp only [Xb, Xe] at h
    obtain ⟨rfl, rfl, rfl, rfl⟩ := h
    simp [ZaV] at hg
  . rename_i hw
    split at h
    . rename_i hf
      split at h
      . rename_i v' G'' c' he
        simp only [Xb, Xe] at h
        obtain ⟨rfl, rfl, rfl, rfl⟩ := h
        cases hins : o.ins with
        | ld k a =>
          rw [hins] at he hf
          simp only [execI] at he
          have he0 := he
          unfold ldA at he
          split at he
          . rename_i t off ha
            split at he
            . rename_i cs hcs
              split at he
              . rename_i v2 hp
                simp only [Xb, Xe] at he
                obtain ⟨rfl, rfl, rfl⟩ := he
                refine ⟨t, k, off, rfl, rfl, rfl, fun tm' G2 hr ⟨cs2, h1, h2⟩ => ?_, cs, hcs, hp⟩
                simp only [ZW, Ze3 (g := o.guard) (tm := tm') (tm1 := tm) (fun j b hg => (hr j (ZeK hg)).symm), hw]
                rw [if_pos (by rw [hins]; rfl), <- Zin (tm := tm) (tm' := tm') (fun n hn => hr n (Ziu hn)), hins]
                simp only [execI, ha, ldA, h1, h2]
              . cases he
            . cases he
          . repeat' split at he
            all_goals first
              | (cases he; done)
              | (simp only [Xb, Xe] at he
                 obtain ⟨rfl, rfl, rfl⟩ := he
                 simp [ZaV] at hg)
          . repeat' split at he
            all_goals first
              | (cases he; done)
              | (simp only [Xb, Xe] at he
                 obtain ⟨rfl, rfl, rfl⟩ := he
                 simp [ZaV] at hg)
          . cases he
        | _ => rw [hins] at hl; simp [ZaP] at hl
      . cases h
    . cases h
theorem ZO2{o:AOp}{v:AVal}{c:Cls}{s:Nat}(hc:ZaG o.ins=true\/(ZaU o.ins=true/\(!c.any)=true))(h:ZW O bf o sq tm G=some (v,tm1,G1,c))(hs:G1[s]?=some .free):G[s]?=some .free:=by
 rcases hc with hc |⟨hc,_⟩
 ·exact ZPU hc h hs
 ·rcases Zvv hc h with⟨_,_,rfl,_⟩ |⟨_,_,_,_,_,ha,_⟩
  ·exact hs
  ·exact Zxd ha hs
theorem ZDD{o:AOp}{v:AVal}{c:Cls}{s:Nat}(hc:ZaG o.ins=true\/(ZaU o.ins=true/\(!c.any)=true))(h:ZW O bf o sq tm G=some (v,tm1,G1,c))(hs:G1[s]?=some .free)(hne:∀ i,i<nsite o.ins->sq+i≠s) :
  G[s]?=some .free/\∀ b tm',(∀ n∈o.reads,tget tm n=tget tm' n)->ZW O bf o sq tm' (G.set s b)=some (v,tput tm' o.dst v,G1.set s b,c):=by
 rcases hc with hc |⟨hc,hany⟩
 ·exact ZSP hc h hs hne
 ·have hn:sq≠s:=by
   have : nsite o.ins=1:=by
    cases hins:o.ins with
    |app k bytes z x y=>rfl
    |_=>rw[hins]at hc;simp[ZaU]at hc
   simpa using hne 0 (by omega)
  rcases Zvv hc h with⟨hw,rfl,rfl,rfl⟩ |⟨hf,k,bytes,x,y,ha,gen⟩
  ·refine⟨hs,fun b tm' hr=>?_⟩
   simp only[ZW,Ze3 (g:=o.guard) (tm:=tm') (tm1:=tm) (fun j b hg=>(hr j (ZeK hg)).symm),hw]
  ·have h0:=Zxd ha hs
   refine⟨h0,fun b tm' hr=>gen tm' _ _ _ _ hr ?_ (ZHE (by grind) ha h0 hn b)⟩
   rw[Zgf]at hf ⊢
   rw[Xl (fun e=>hn e.symm)]
   exact hf
def Frz(G G2:Za):Prop:=∀ t:Nat,G2[t]?=G[t]?\/∃ (g k:Nat) (xs:List AVal),G[t]?=some (ZP.row g k xs)/\G2[t]?=some (ZP.frow g k xs)
theorem Frz.refl(G:Za):Frz G G:=fun _=>Xq rfl
theorem Zog:∀ (ts:List Nat) (G:Za),Frz G (Zv G ts)
 | [],G=>Frz.refl G
 |t::ts,G=>by
  unfold Zv
  split
  ·rename_i g k xs ht
   intro u
   have ih:=Zog ts (G.set t (.frow g k xs)) u
   have htl:t<G.length:=(Xn.1 ht).1
   by_cases e:u=t
   ·subst e
    have e1:(G.set u (.frow g k xs))[u]?=some (.frow g k xs):=by simp[htl]
    rw[e1]at ih
    rcases ih with ih |⟨_,_,_,ih,_⟩
    ·exact Xt ⟨g,k,xs,ht,ih⟩
    ·cases ih
   ·rw[Xl (fun h=>e h.symm)]at ih
    exact ih
  ·exact Zog ts G
theorem ZAB{G G2 G':Za}{k:Option Nat}{a v:AVal}{c:Cls}(hf:Frz G G2)(h:ldA G k a=some (v,G',c)):G'=G/\ldA G2 k a=some (v,G2,c):=by
 unfold ldA at h⊢
 split at h
 ·rename_i t o
  rcases hf t with e |⟨_,_,_,e1,_⟩
  ·simp only[e]
   repeat' split at h
   all_goals grind
  grind
 ·rename_i t g i o
  rcases hf t with e |⟨g1,k1,xs1,e1,e2⟩
  ·simp only[e]
   repeat' split at h
   all_goals grind
  grind
 ·repeat' split at h
  all_goals grind
 ·cases h
theorem Zyj{G G2 G':Za}{k:Nat}{a i v:AVal}{c:Cls}(hf:Frz G G2)(h:Zc5 G k a i=some (v,G',c)):G'=G/\Zc5 G2 k a i=some (v,G2,c):=by
 unfold Zc5 at h⊢
 split at h
 ·split at h
  ·rename_i h0
   rw[if_pos h0]
   split at h
   ·repeat' split at h
    all_goals grind
   ·rename_i t g p n
    rcases hf t with e |⟨g1,k1,xs1,e1,e2⟩
    ·simp only[e]
     repeat' split at h
     all_goals grind
    grind
   ·cases h
  ·cases h
 ·cases h
theorem ZOD{o:AOp}{v:AVal}{c:Cls}(hl:Zbl o.ins=true)(h:ZW O bf o sq tm G=some (v,tm1,G1,c)) :
  G1=G/\tm1=tput tm o.dst v/\∀ tm' G2,(∀ n∈o.reads,tget tm n=tget tm' n)->Frz G G2->ZW O bf o sq tm' G2=some (v,tput tm' o.dst v,G2,c):=by
 unfold ZW at h
 split at h
 ·cases h
 ·rename_i hw
  simp only[Xb,Xe]at h
  obtain⟨rfl,rfl,rfl,rfl⟩:=h
  refine⟨rfl,rfl,fun tm' G2 hr _=>?_⟩
  simp only[ZW,Ze3 (g:=o.guard) (tm:=tm') (tm1:=tm) (fun j b hg=>(hr j (ZeK hg)).symm),hw]
 ·rename_i hw
  split at h
  ·rename_i hf
   split at h
   ·rename_i v' G'' c' he
    simp only[Xb,Xe]at h
    obtain⟨rfl,rfl,rfl,rfl⟩:=h
    cases hins:o.ins with
    |ld k a =>
     rw[hins]at he
     simp only[execI]at he
     have e1:=(ZAB (Frz.refl G) he).1
     subst e1
     refine⟨rfl,rfl,fun tm' G2 hr hz=>?_⟩
     simp only[ZW,Ze3 (g:=o.guard) (tm:=tm') (tm1:=tm) (fun j b hg=>(hr j (ZeK hg)).symm),hw]
     rw[if_pos (by rw[hins];rfl),<-Zin (tm:=tm) (tm':=tm') (fun n hn=>hr n (Ziu hn)),hins]
     simp only[execI,(ZAB hz he).2]
    |iaddr k x i =>
     rw[hins]at he
     simp only[execI]at he
     have e1:=(Zyj (Frz.refl G) he).1
     subst e1
     refine⟨rfl,rfl,fun tm' G2 hr hz=>?_⟩
     simp only[ZW,Ze3 (g:=o.guard) (tm:=tm') (tm1:=tm) (fun j b hg=>(hr j (ZeK hg)).symm),hw]
     rw[if_pos (by rw[hins];rfl),<-Zin (tm:=tm) (tm':=tm') (fun n hn=>hr n (Ziu hn)),hins]
     simp only[execI,(Zyj hz he).2]
    |_=>rw[hins]at hl;simp[Zbl]at hl
   ·cases h
  ·cases h
theorem ZHC{o:AOp}{v:AVal}{c:Cls}(hl:Zbg o.ins=true)(h:ZW O bf o sq tm G=some (v,tm1,G1,c)):Frz G G1:=by
 unfold ZW at h
 split at h
 ·cases h
 ·simp only[Xb,Xe]at h
  obtain⟨rfl,rfl,rfl,rfl⟩:=h
  exact Frz.refl _
 ·split at h
  ·split at h
   ·rename_i v' G'' c' he
    simp only[Xb,Xe]at h
    obtain⟨rfl,rfl,rfl,rfl⟩:=h
    cases hins:o.ins with
    |bslice own k n z parts =>
     rw[hins]at hl he
     simp only[Zbg,Xap]at hl
     subst hl
     simp only[execI]at he
     split at he
     ·cases he
     ·rename_i ys ts hv
      split at he
      ·simp only[Xi,if_false,Xb,Xe]at he
       obtain⟨_,rfl,_⟩:=he
       exact Zog ts G
      ·cases he
    |_=>rw[hins]at hl;simp[Zbg]at hl
   ·cases h
  ·cases h
theorem ZFy{f own:Nat}{view:Bool}{args:List AVal}{v:AVal}{c:Cls}(h:Zq O bf G sq f own view args=some (v,G',c))(ha:c.any=true){t:Nat}{cs:List AVal}(hn:c.upd.lookup t=none)(hlt:t<sq)(ht:G'[t]?=some (.var cs)):G[t]?=some (.var cs):=by
 unfold Zq at h
 split at h
 ·cases h
 rename_i xs ts us md hsh
 generalize hids:Zt (Zv G ts) 1000 (Zl xs) []=ids at h
 unfold Zbk at h
 split at h
 case isFalse=>cases h
 generalize ZV view ids.length (ZbV md (O f (Zj (Zn (Zv G ts) 0 ids) xs) (Zo (Zv G ts) 0 ids (Zn (Zv G ts) 0 ids) ids 0)))=q at h
 cases q with
 |none=>simp only[Zaz]at h;cases h
 |some q =>
  obtain⟨r,hp⟩:=q
  simp only[Zaz]at h
  split at h
  ·grind
  ·split at h
   ·grind
   split at h
   ·rename_i hcc
    simp only[Xb,Xe]at h
    obtain⟨_,rfl,rfl⟩:=h
    have hm:t∉ids:=fun hm=>ZnT hn hm ht
    rw[ZkP (fun i hi e=>by
     rw[XF]at e
     unfold ZaA at e
     grind)]at ht
    rcases Zog ts G t with e |⟨g1,k1,xs1,e1,e2⟩
    ·grind
    grind
   ·cases h
theorem ZA5{o:AOp}{v:AVal}{c:Cls}{t:Nat}{cs:List AVal}(hc:ZaG o.ins=true)(h:ZW O bf o sq tm G=some (v,tm1,G1,c))(ha:c.any=true)(hn:c.upd.lookup t=none)(hlt:t<sq)(ht:G1[t]?=some (.var cs)):G[t]?=some (.var cs):=by
 rcases Znr hc h with⟨hw,rfl,rfl,rfl⟩ |⟨hw,hf,f,own,view,args,ho,gen,hg⟩
 ·cases ha
 ·exact ZFy hg ha hn hlt ht
theorem ZxQ{oj oi:AOp}{sj si:Nat}{vj vi:AVal}{cj ci:Cls}(hj:ZW O bf oj sj tm G=some (vj,tm1,G1,cj))(hi:ZW O bf oi si tm1 G1=some (vi,tm2,G2,ci))(hap:oj.apartT oi=true)
  (hp:Zdc oj oi cj ci sj=true) (hs:nsite oj.ins≠0->nsite oi.ins≠0->sj≠si) (hs2:sj+nsite oj.ins<=si):∃ tm1' G1',ZW O bf oi si tm G=some (vi,tm1',G1',ci)/\ZW O bf oj sj tm1' G1'=some (vj,tm2,G2,cj):=by
 have hd:(∀ d,oj.dst=some d->d∉oi.reads)/\(∀ d,oj.dst=some d->oi.dst≠some d)/\(∀ d,oi.dst=some d->d∉oj.reads):=by
  unfold AOp.apartT at hap
  simp only[Xk]at hap
  refine⟨fun d hd hr=>?_,fun d hd he=>?_,fun d hd hr=>?_⟩
  ·grind
  ·grind
  ·grind
 obtain⟨d1,d2,d3⟩:=hd
 have rdI:∀ v n,n∈oi.reads->tget (tput tm oj.dst v) n=tget tm n:=fun v n hn=>ZxD (by grind)
 have rdJ:∀ v n,n∈oj.reads->tget tm n=tget (tput tm oi.dst v) n:=fun v n hn=>(ZxD (by grind)).symm
 unfold Zdc at hp
 simp only[WH,Xk]at hp
 have noWr_of:∀ {o:AOp} {c:Cls},ZcP o c=true->ZeJ c=true/\c.rd=[]/\nsite o.ins=0:=by
  intro o c h
  simp only[ZcP,Xk,beq_iff_eq,WR]at h
  exact⟨by simp[ZeJ,h.1.2,h.2],h.1.1.2,h.1.1.1⟩
 rcases hp with((((((hp |hp) |⟨⟨hp1,hp2⟩,hp3⟩) |⟨hp1,hp2,hp3⟩) |⟨⟨⟨hp1,hp2⟩,hp3⟩,hp4⟩) |⟨⟨hp1,hp2⟩,hp4⟩) |⟨hp1,hp2⟩) |⟨⟨⟨hp1,hp2⟩,hp3⟩,hp4⟩
 ·obtain⟨w1,w2,w3⟩:=noWr_of hp
  obtain⟨ob,rfl,rfl,e3,_,_,e6⟩:=Zlk hj w1
  have hob:ob=none:=by
   cases ob with
   |none=>rfl
   |some b=>grind
  subst hob
  simp only[Zbn]at hi e6 ⊢
  obtain⟨rfl,f2⟩:=ZhP hi
  have g1:=f2 tm (rdI vj)
  refine⟨_,_,g1,?_⟩
  rw[e6 _ G2 (rdJ vi) (by rw[w2];intro t ht;simp at ht) (fun h=>absurd w3 h),Zgk vi vj (fun d hd he=>d2 d he hd)]
 ·obtain⟨w1,w2,w3⟩:=noWr_of hp
  obtain⟨ob,rfl,rfl,e3,_,_,e6⟩:=Zlk hi w1
  have hob:ob=none:=by
   cases ob with
   |none=>rfl
   |some b=>grind
  subst hob
  simp only[Zbn]at e6 ⊢
  obtain⟨rfl,f2⟩:=ZhP hj
  have g1:=e6 tm G (rdI vj) (by rw[w2];intro t ht;simp at ht) (fun h=>absurd w3 h)
  refine⟨_,_,g1,?_⟩
  rw[f2 _ (rdJ vi),Zgk vi vj (fun d hd he=>d2 d he hd)]
 ·obtain⟨ob,rfl,rfl,a3,a4,a5,a6⟩:=Zlk hj hp1
  obtain⟨oc,rfl,rfl,b3,b4,b5,b6⟩:=Zlk hi hp2
  have hsne:ob.isSome=true->nsite oi.ins≠0->sj≠si:=fun h1 h2=>hs (a3 h1).1 h2
  have hrdi:∀ t∈ci.rd,ob.isSome=true->sj≠t:=by
   intro t ht ho e
   subst e
   rcases hp3 with hp3 |hp3
   ·exact(a3 ho).1 (by simpa using hp3)
   ·simp[ht]at hp3
  have g1:=b6 tm G (rdI vj) (fun t ht=>(ZkH (hrdi t ht)).symm) (fun h2 hf=>by
   rw[Zgf]at hf ⊢
   rwa [ZkH (fun ho=>hsne ho h2)]at hf)
  refine⟨_,_,g1,?_⟩
  have hsi:oc.isSome=true->G[si]?=some .free:=by
   intro ho
   have:=(b3 ho).2
   rw[Zgf,ZkH (fun ho'=>hsne ho' (b3 ho).1)]at this
   exact this
  rw[a6 _ (Zbn G si oc) (rdJ vi) (fun t ht=>ZkH (fun ho e=>by
   subst e
   obtain⟨x,hx,hne⟩:=a5 si ht
   rw[hsi ho]at hx;injection hx with hx;exact hne hx.symm)) (fun h1 hf=>by
   rw[Zgf]at hf ⊢
   rwa [ZkH (fun ho=>(hs h1 (b3 ho).1).symm)]),Zgk vi vj (fun d hd he=>d2 d he hd),ZJg (fun h1 h2=>(hs (a3 h2).1 (b3 h1).1).symm)]
 ·obtain⟨oc,rfl,rfl,b3,b4,b5,b6⟩:=Zlk hi hp2
  have hrd:ci.rd=[]:=by simpa using hp3
  obtain⟨rfl,f2⟩:=ZhP hj
  cases oc with
  |none =>
   simp only[Zbn]at b6 ⊢
   have g1:=b6 tm G (rdI vj) (by rw[hrd];intro t ht;simp at ht) (fun h1 h2=>by
    rw[Zgf]at h2 ⊢
    exact ZO2 hp1 hj h2)
   refine⟨_,_,g1,?_⟩
   rw[f2 _ (rdJ vi),Zgk vi vj (fun d hd he=>d2 d he hd)]
  |some b =>
   have hfr:=(b3 rfl).2
   rw[Zgf]at hfr
   obtain⟨k1,k2⟩:=ZDD hp1 hj hfr (fun i hi=>by omega)
   have g1:=b6 tm G (rdI vj) (by rw[hrd];intro t ht;simp at ht) (fun h1 h2=>by
    rw[Zgf]at h2 ⊢;exact k1)
   refine⟨_,_,g1,?_⟩
   have:=k2 b (tput tm oi.dst vi) (rdJ vi)
   simp only[Zbn]
   rw[this,Zgk vi vj (fun d hd he=>d2 d he hd)]
 ·obtain⟨t,k,o,q1,rfl,rfl,q4,q5⟩:=ZtT hp1 hj hp4
  obtain⟨rfl,f2⟩:=ZhP hi
  have g1:=f2 tm (rdI vj)
  refine⟨_,_,g1,?_⟩
  obtain⟨cs,q6,q7⟩:=q5
  obtain⟨r1,r2⟩:=ZBz hp2 hi hp3 q6
  have hv:∃ cs,G2[t]?=some (.var cs)/\partA k cs o=some vj:=by
   unfold ZaV at hp4
   rw[q1]at hp4
   simp only at hp4
   split at hp4
   ·grind
   ·rename_i cs2 hl
    split at hp4
    ·rename_i u hu
     rw[ZNV hp4]at hu
     exact⟨cs2,r2 cs2 hl,hu⟩
    grind
  rw[q4 _ G2 (rdJ vi) hv,Zgk vi vj (fun d hd he=>d2 d he hd)]
 ·obtain⟨t,k,o,q1,rfl,rfl,q4,q5⟩:=ZtT hp1 hj hp4
  obtain⟨rfl,f2⟩:=ZhP hi
  have g1:=f2 tm (rdI vj)
  refine⟨_,_,g1,?_⟩
  obtain⟨cs,q6,q7⟩:=q5
  have hk:G2[t]?=some (.var cs):=by
   rcases hp2 with hp2 |⟨hp2,hp3⟩
   ·exact ZIz hp2 hi q6
   ·refine ZIx hp2 ?_ hi q6
    unfold Zbq at hp3
    grind
  rw[q4 _ G2 (rdJ vi) ⟨cs,hk,q7⟩,Zgk vi vj (fun d hd he=>d2 d he hd)]
 ·obtain⟨rfl,rfl,q⟩:=ZOD hp1 hj
  obtain⟨rfl,f2⟩:=ZhP hi
  have g1:=f2 tm (rdI vj)
  refine⟨_,_,g1,?_⟩
  rw[q _ G2 (rdJ vi) (ZHC hp2 hi),Zgk vi vj (fun d hd he=>d2 d he hd)]
 ·have hgot:∃ t0 k0 o0 v0,ci.got=[(t0,k0,o0,v0)]/\t0<sj/\cj.upd.lookup t0=none:=by
   unfold Zbo at hp4
   split at hp4
   ·rename_i t0 k0 o0 v0 hg
    simp only[Xk,decide_eq_true_eq,Option.isNone_iff_eq_none]at hp4
    grind
   ·cases hp4
  obtain⟨t0,k0,o0,v0,hg,hlt,hnone⟩:=hgot
  have hg0:ZaV ci {}=true:=by
   unfold ZaV
   rw[hg]
   rfl
  obtain⟨rfl,f2⟩:=ZhP hj
  obtain⟨t,k,o,q1,rfl,rfl,q4,cs,q6,q7⟩:=ZtT hp2 hi hg0
  rw[hg]at q1
  injection q1 with q1 _
  injection q1 with q1 _
  subst q1
  have hk:=ZA5 hp1 hj hp3 hnone hlt q6
  have g1:=q4 tm G (rdI vj) ⟨cs,hk,q7⟩
  refine⟨_,_,g1,?_⟩
  rw[f2 _ (rdJ vi),Zgk vi vj (fun d hd he=>d2 d he hd)]
inductive Zdx (O:ZS) (bf:Nat->Bool) (ops:List AOp) (L:Nat) (cs:List Cls):List Nat->Tms->Za->Tms->Za->Prop
 |nil {tm:Tms} {G:Za}:Zdx O bf ops L cs [] tm G tm G
 |cons {i:Nat} {l:List Nat} {v:AVal} {tm tm1 tm2:Tms} {G G1 G2:Za}:ZW O bf (ops.getD i default) (L+sitesOf (ops.take i)) tm G=some (v,tm1,G1,cs.getD i {})->(∀ x,v≠.pan x)->Zdx O bf ops L cs l tm1 G1 tm2 G2->Zdx O bf ops L cs (i::l) tm G tm2 G2
theorem Zr8(ops:List AOp){k:Nat}(h:k<ops.length):sitesOf (ops.take (k+1))=sitesOf (ops.take k)+nsite (ops[k]).ins:=by
 rw[List.take_succ_eq_append_getElem h]
 simp only[sitesOf,Wl,List.sum_append,Xu,XC,List.sum_cons,List.sum_nil,X6]
theorem Zvf{ops:List AOp}{L:Nat}:∀ (m k:Nat) {cs cs':List Cls} {tm:Tms} {G:Za} {tm':Tms} {G':Za},k+m=ops.length->Zac O bf (ops.drop k) (L+sitesOf (ops.take k)) tm G=some (tm',G',cs',none)->(∀ j,cs'.getD j {}=cs.getD (k+j) {})->Zdx O bf ops L cs (Xay k m) tm G tm' G'
 |0,k,cs,cs',tm,G,tm',G',hk,h,hcs=>by
  rw[Wg (by omega)]at h
  simp only[Zac,Xb,Xe]at h
  obtain⟨rfl,rfl,rfl,_⟩:=h
  exact Zdx.nil
 |m+1,k,cs,cs',tm,G,tm',G',hk,h,hcs=>by
  have hlt:k<ops.length:=by omega
  rw[WM hlt]at h
  simp only[Zac]at h
  split at h
  ·cases h
  ·grind
  rename_i v tm1 G1 c hnp h1
  split at h
  ·cases h
  rename_i tm2 G2 cs2 p h2
  simp only[Xb,Xe]at h
  obtain⟨rfl,rfl,rfl,rfl⟩:=h
  rw[Xa4]
  have hc0:=hcs 0
  simp only[Xm,X6]at hc0
  refine Zdx.cons (v:=v) (tm1:=tm1) (G1:=G1) ?_ (fun x e=>?_) (Zvf m (k+1) (by omega) (cs':=cs2) ?_ (fun j=>?_))
  ·grind
  ·grind
  ·rw[Zr8 ops hlt,<-XaQ];exact h2
  ·have:=hcs (j+1)
   simp only[Xs]at this
   rw[this]
   congr 1;omega
theorem ZqC{ops:List AOp}{L:Nat}{cs:List Cls}{i:Nat}{l2:List Nat}:∀ {l1:List Nat} {tm:Tms} {G:Za} {tm':Tms} {G':Za},(∀ j∈l1,(ops.getD j default).apartT (ops.getD i default)=true/\Zdc (ops.getD j default) (ops.getD i default) (cs.getD j {}) (cs.getD i {}) (L+sitesOf (ops.take j))=true/\(nsite (ops.getD j default).ins≠0->nsite (ops.getD i default).ins≠0->L+sitesOf (ops.take j)≠L+sitesOf (ops.take i))/\L+sitesOf (ops.take j)+nsite (ops.getD j default).ins<=L+sitesOf (ops.take i)) ->
  Zdx O bf ops L cs (l1++i::l2) tm G tm' G'->∃ v tm1 G1,ZW O bf (ops.getD i default) (L+sitesOf (ops.take i)) tm G=some (v,tm1,G1,cs.getD i {})/\(∀ x,v≠.pan x)/\Zdx O bf ops L cs (l1++l2) tm1 G1 tm' G'
 | [],tm,G,tm',G',_,h=>by
  cases h with
  |cons h1 hn h2=>grind
 |j::l1,tm,G,tm',G',hall,h=>by
  cases h with
  |cons h1 hn h2 =>
   obtain⟨v3,tm3,G3,h3,hn3,h4⟩:=ZqC (l1:=l1) (fun k hk=>hall k (by simp[hk])) h2
   obtain⟨p1,p2,p3,p4⟩:=hall j (by simp)
   obtain⟨tm4,G4,h5,h6⟩:=ZxQ h1 h3 p1 p2 p3 p4
   exact⟨v3,tm4,G4,h5,hn3,Zdx.cons h6 hn h4⟩
theorem Zx2{ops:List AOp}{L:Nat}{x:AVal}:∀ (m k:Nat) {cs cs':List Cls} {tm:Tms} {G:Za} {tm':Tms} {G':Za},k+m=ops.length->Zac O bf (ops.drop k) (L+sitesOf (ops.take k)) tm G=some (tm',G',cs',some x)->(∀ j,cs'.getD j {}=cs.getD (k+j) {}) ->
  ∃ n tmJ GJ tmX,n<m/\cs'.length=n+1/\Zdx O bf ops L cs (Xay k n) tm G tmJ GJ/\ZW O bf (ops.getD (k+n) default) (L+sitesOf (ops.take (k+n))) tmJ GJ=some (.pan x,tmX,G',cs.getD (k+n) {})
 |0,k,cs,cs',tm,G,tm',G',hk,h,hcs=>by
  rw[Wg (by omega)]at h
  simp[Zac]at h
 |m+1,k,cs,cs',tm,G,tm',G',hk,h,hcs=>by
  have hlt:k<ops.length:=by omega
  rw[WM hlt]at h
  simp only[Zac]at h
  have hc0:=hcs 0
  have hg:ops.getD k default=ops[k]:=by simp[Xh,hlt]
  split at h
  ·cases h
  ·rename_i y tm1 G1 c h1
   simp only[Xb,Xe]at h
   obtain⟨rfl,rfl,rfl,rfl⟩:=h
   simp only[Xm,X6]at hc0
   refine⟨0,tm,G,tm1,by omega,rfl,Zdx.nil,?_⟩
   grind
  rename_i v tm1 G1 c hnp h1
  split at h
  ·cases h
  rename_i tm2 G2 cs2 p h2
  simp only[Xb,Xe]at h
  obtain⟨rfl,rfl,rfl,rfl⟩:=h
  simp only[Xm,X6]at hc0
  have hnext:Zac O bf (ops.drop (k+1)) (L+sitesOf (ops.take (k+1))) tm1 G1=some (tm2,G2,cs2,some x):=by
   rw[Zr8 ops hlt,<-XaQ]
   exact h2
  obtain⟨n,tmJ,GJ,tmX,g1,g2,g3,g4⟩:=Zx2 m (k+1) (cs:=cs) (by omega) hnext (fun j=>by
   have:=hcs (j+1)
   simp only[Xs]at this
   rw[this];congr 1;omega)
  refine⟨n+1,tmJ,GJ,tmX,by omega,by simp[g2],?_,?_⟩
  ·rw[Xa4]
   refine Zdx.cons (v:=v) (tm1:=tm1) (G1:=G1) ?_ (fun x e=>hnp x e) g3
   grind
  grind
theorem ZH9{o:AOp}{v:AVal}{c:Cls}{tm tm1:Tms}{G G1:Za}{sq:Nat}(hq:o.ins.touches=false\/ZaP o.ins=true)(h:ZW O bf o sq tm G=some (v,tm1,G1,c)):G1=G:=by
 unfold ZW at h
 split at h
 ·cases h
 ·grind
 ·split at h
  ·split at h
   ·rename_i he
    simp only[Xb,Xe]at h
    rw[<-h.2.2.1]
    rcases hq with hq |hq
    ·exact ZKv hq he
    ·cases hi:o.ins with
     |ld k a =>
      rw[hi]at he
      simp only[execI]at he
      unfold ldA at he
      grind
     |_=>rw[hi]at hq;simp[ZaP]at hq
   ·cases h
  ·cases h
theorem ZzC{ops:List AOp}{L:Nat}{cs:List Cls}{i:Nat}{x:AVal}{tmX:Tms}{GX:Za}:∀ {l1:List Nat} {tm:Tms} {G:Za} {tm':Tms} {G':Za},(∀ j∈l1,((ops.getD j default).ins.touches=false\/ZaP (ops.getD j default).ins=true)/\(ops.getD j default).apartT (ops.getD i default)=true/\Zdc (ops.getD j default) (ops.getD i default) (cs.getD j {}) (cs.getD i {}) (L+sitesOf (ops.take j))=true/\(nsite (ops.getD j default).ins≠0->nsite (ops.getD i default).ins≠0->L+sitesOf (ops.take j)≠L+sitesOf (ops.take i))/\L+sitesOf (ops.take j)+nsite (ops.getD j default).ins<=L+sitesOf (ops.take i)) ->
  Zdx O bf ops L cs l1 tm G tm' G'->ZW O bf (ops.getD i default) (L+sitesOf (ops.take i)) tm' G'=some (.pan x,tmX,GX,cs.getD i {})->∃ tm1,ZW O bf (ops.getD i default) (L+sitesOf (ops.take i)) tm G=some (.pan x,tm1,GX,cs.getD i {})
 | [],tm,G,tm',G',_,h,hp=>by
  cases h
  grind
 |j::l1,tm,G,tm',G',hall,h,hp=>by
  cases h with
  |cons h1 hn h2 =>
   obtain⟨tm3,h3⟩:=ZzC (l1:=l1) (fun k hk=>hall k (by simp[hk])) h2 hp
   obtain⟨hq,p1,p2,p3,p4⟩:=hall j (by simp)
   obtain⟨tm4,G4,h5,h6⟩:=ZxQ h1 h3 p1 p2 p3 p4
   have:=ZH9 hq h6
   subst this
   exact⟨tm4,h5⟩
end
end
section
open Go.RowKit
section
variable {P:Program}{O:ZS}{bf:Nat->Bool}{an:Ann}{base:Nat->Prop}{w0:World}{I0:Imm}
structure Door where
 D:List Deferred
 K:List Nat
 X:Nat->Value
def Door.ok(dr:Door)(a:Act):Prop:=a.defers=dr.D/\∀ j∈dr.K,a.tmps.getD j undef=dr.X j
def Zch:Door:=⟨[],[],fun _=>undef⟩
theorem Zgj{a:Act}:Zch.ok a↔a.defers=[]:=by simp[Door.ok,Zch]
def StR(dr:Door)(nt:Nat)(base:Nat->Prop)(w0:World)(I0 I:Imm)(V:Bmap)(tm:Tms)(G:Za)(a:Act)(w:World):Prop :=
 ∃ I' V',I.le I'/\V.le V'/\TR I' V' tm a.tmps/\(dr.ok a/\nt<=a.tmps.size)/\Rel base w0 I0 I' V' G w
variable {dr:Door}
theorem StR.trans{nt:Nat}{I I1:Imm}{V V1:Bmap}{tm:Tms}{G:Za}{a:Act}{w:World}(hI:I.le I1)(hV:V.le V1)(h:StR dr nt base w0 I0 I1 V1 tm G a w):StR dr nt base w0 I0 I V tm G a w:=by
 obtain⟨I',V',h1,h2,h3⟩:=h
 exact⟨I',V',hI.trans h1,hV.trans h2,h3⟩
theorem Post.trans{I I1:Imm}{V V1:Bmap}{x:AVal}{G:Za}{u:Value}{w:World}(hI:I.le I1)(hV:V.le V1)(h:Post base w0 I0 I1 V1 x G u w):Post base w0 I0 I V x G u w:=by
 obtain⟨I',V',h1,h2,h3⟩:=h
 exact⟨I',V',hI.trans h1,hV.trans h2,h3⟩
theorem ZsD{I:Imm}{V:Bmap}{tm:Tms}{a:Act}{v:AVal}{u:Value}(T:TR I V tm a.tmps)(hv:VR I V v u){d:Option Nat}(hd:∀ n,d=some n->n<a.tmps.size):TR I V (tput tm d v) (a.put d u).tmps:=by
 cases d with
 |none=>exact T
 |some d=>exact T.put hv (hd d rfl)
theorem ZGE(a:Act)(d:Option Nat)(u:Value):(a.put d u).defers=a.defers:=by cases d<;>rfl
theorem ZmD{a:Act}{d:Option Nat}{u:Value}(h:dr.ok a)(hd:∀ n,d=some n->n∉dr.K):dr.ok (a.put d u):=by
 refine⟨(ZGE a d u).trans h.1,fun j hj=>?_⟩
 rw[<-h.2 j hj]
 cases d with
 |none=>rfl
 |some n =>
  have hne:n≠j:=by rintro rfl;exact hd n rfl hj
  simp only[Act.put,Wq]
  grind
theorem ZfF(a:Act)(d:Option Nat)(u:Value):(a.put d u).tmps.size=a.tmps.size:=by cases d<;>simp[Act.put]
theorem Zu5{I:Imm}{V:Bmap}{tm:Tms}{a:Act}(T:TR I V tm a.tmps){ops:Array Oper}{o:Oper}{g:Option (Nat×Bool)}(hg:ZlW ops o.guard=some g){b:Bool}(h:ZbM g tm=some b):Region.wanted o (yielded ops a.tmps)=b:=by
 unfold ZlW at hg
 unfold Region.wanted
 split at hg
 ·rename_i e
  injection hg with hg;subst hg
  simp only[ZbM,Xb]at h
  grind
 ·rename_i j want e
  split at hg
  ·rename_i o' ho'
   split at hg
   ·rename_i d hd
    injection hg with hg;subst hg
    rw[e]
    show(yielded ops a.tmps j==some want)=b
    have hy:yielded ops a.tmps j=match a.tmps[d]? with |some (.bool b)=>some b |_=>none:=by
     simp only[yielded,ho',Option.bind_some,hd]
     rfl
    rw[hy]
    have hx:=T d
    rw[Wq]at hx
    simp only[ZbM]at h
    split at h
    ·rename_i b' hb'
     rw[hb']at hx
     simp only[VR]at hx
     have : a.tmps[d]?=some (.bool b'):=by
      cases hq:a.tmps[d]? with
      |none=>rw[hq]at hx;simp[undef]at hx
      |some q=>grind
     rw[this]
     simp only[Xb]at h
     subst h
     cases b'<;>cases want<;>rfl
    ·rename_i hb'
     rw[hb']at hx
     simp only[VR,VRs]at hx
     grind
    ·cases h
   ·cases hg
  ·cases hg
theorem Zr5{ops:Array Oper}{o:Oper}{ao:AOp}(hc:Zh5 P an ops o=some ao):∃ g i,ZlW ops o.guard=some g/\(∃ own,Zad P an own o.op=some i)/\(∀ n,o.dst=some n->n<an.nt/\n∉an.keep)/\ao=⟨o.dst,i,g,(o.after.toList.filter (Region.binds .any)).map (·.on)⟩:=by
 unfold Zh5 at hc
 split at hc
 ·rename_i g i hg hi
  split at hc
  ·rename_i hd
   injection hc with hc
   refine⟨g,i,hg,⟨_,hi⟩,fun n hn=>?_,hc.symm⟩
   rw[hn]at hd
   simp only[Zyv,Xk,decide_eq_true_eq,Xap,List.contains_eq_mem,decide_eq_false_iff_not]at hd
   exact hd
  ·cases hc
 ·cases hc
theorem Zj2(hO:ZaM P O)(hkp:∀ n∈dr.K,n∈an.keep){ops:Array Oper}{o:Oper}{ao:AOp}(hc:Zh5 P an ops o=some ao){I:Imm}{V:Bmap}{tm tm':Tms}{G G':Za}{a:Act}{w:World}(T:TR I V tm a.tmps)(hd:dr.ok a/\an.nt<=a.tmps.size)(R:Rel base w0 I0 I V G w)(hb:KLt base w0)
  {sq:Nat} {v:AVal} {c:Cls} (h:ZW O bf ao sq tm G=some (v,tm',G',c)) {K:Act->World->Prop} {Q:Exit->Act->World->Prop} (hK:(∀ x,v≠.pan x)->∀ a' w',StR dr an.nt base w0 I0 I V tm' G' a' w'->K a' w')
  (hQ:∀ x,v=.pan x->∀ u w',Post base w0 I0 I V x G' u w'->Q (.panic [{ v:=u,recovered:=false }]) a w') :
  if Region.wanted o (yielded ops a.tmps)then o.wp P a w K Q\/(o.asks P a w/\LetsOut Q)else K (a.put o.dst undef) w:=by
 obtain⟨g,i,hg,⟨own,hi⟩,hdst,rfl⟩:=Zr5 hc
 have hdst':∀ n,o.dst=some n->n<a.tmps.size:=fun n hn=>Nat.lt_of_lt_of_le (hdst n hn).1 hd.2
 have hdk:∀ n,o.dst=some n->n∉dr.K:=fun n hn hm=>(hdst n hn).2 (hkp n hm)
 unfold ZW at h
 split at h
 ·cases h
 ·rename_i hw
  simp only at hw
  rw[Zu5 T hg hw]
  simp only[Xb,Xe]at h
  obtain⟨rfl,rfl,rfl,rfl⟩:=h
  simp only[Xi,if_false]
  exact hK (by simp) _ _ ⟨I,V,Imm.le.refl I,Bmap.le.refl V,ZsD T (Zob I V) hdst',⟨ZmD hd.1 hdk,by rw[ZfF];exact hd.2⟩,R⟩
 ·rename_i hw
  simp only at hw
  rw[Zu5 T hg hw]
  simp only[if_true]
  split at h
  ·rename_i hf
   split at h
   ·rename_i v' G1 c' he
    simp only[Xb,Xe]at h
    obtain⟨rfl,rfl,rfl,rfl⟩:=h
    have hs:nsite i≠0->G[sq]?=some .free:=by
     intro hn
     simp only[WH,beq_iff_eq]at hf
     exact Zgf.1 (hf.resolve_left hn)
    rcases ZMV hO hi T R hb hs he with hok |⟨x,rfl,hpan⟩
    ·refine Xq (hok.wp (fun u w' hp=>?_))
     obtain⟨I',V',h1,h2,h3,h4⟩:=hp
     refine hK ?_ _ _ ⟨I',V',h1,h2,ZsD (T.mono h1 h2) h4 hdst',⟨ZmD hd.1 hdk,by rw[ZfF];exact hd.2⟩,h3⟩
     rintro x rfl
     simp only[VR]at h4
    ·exact Xq (hpan.wp (fun u w' hp=>hQ x rfl u w' hp))
   ·cases h
  ·cases h
theorem Ztx(hO:ZaM P O)(hkp:∀ n∈dr.K,n∈an.keep)(hb:KLt base w0){ops:Array Oper}{Q:Exit->Act->World->Prop}:∀ {l:List Oper} {asl:List AOp} {sq:Nat} {I:Imm} {V:Bmap} {tm tm':Tms} {G G':Za} {cs:List Cls} {p:Option AVal} {a:Act} {w:World},Zex P an ops l=some asl->TR I V tm a.tmps->(dr.ok a/\an.nt<=a.tmps.size)->Rel base w0 I0 I V G w ->
  Zac O bf asl sq tm G=some (tm',G',cs,p)->(p=none->∀ a' w',StR dr an.nt base w0 I0 I V tm' G' a' w'->Q .normal a' w') ->
  (∀ x,p=some x->∀ a' u w',dr.ok a'->Post base w0 I0 I V x G' u w'->Q (.panic [{ v:=u,recovered:=false }]) a' w')->wpList P ops Q l a w
 | [],asl,sq,I,V,tm,tm',G,G',cs,p,a,w,hc,T,hd,R,h,hQ,_=>by
  simp only[Zex,Xb]at hc;subst hc
  simp only[Zac,Xb,Xe]at h
  obtain⟨rfl,rfl,rfl,rfl⟩:=h
  exact wpList_nil (hQ rfl _ _ ⟨I,V,Imm.le.refl I,Bmap.le.refl V,T,hd,R⟩)
 |o::l,asl,sq,I,V,tm,tm',G,G',cs,p,a,w,hc,T,hd,R,h,hQ,hP=>by
  simp only[Zex]at hc
  split at hc
  ·rename_i ao hao
   split at hc
   ·rename_i as' has'
    injection hc with hc;subst hc
    simp only[Zac]at h
    split at h
    ·cases h
    ·rename_i x tm1 G1 c1 h1
     simp only[Xb,Xe]at h
     obtain⟨rfl,rfl,rfl,rfl⟩:=h
     have:=Zj2 (dr:=dr) (K:=wpList P ops Q l) (Q:=Q) hO hkp hao T hd R hb h1 (fun hn=>absurd rfl (hn x)) (fun x' e u w' hp=>by
      grind)
     unfold wpList
     exact this
    ·rename_i v tm1 G1 c1 hnp h1
     split at h
     ·cases h
     rename_i tm2 G2 cs2 p2 h2
     simp only[Xb,Xe]at h
     obtain⟨rfl,rfl,rfl,rfl⟩:=h
     have:=Zj2 (dr:=dr) (K:=wpList P ops Q l) (Q:=Q) hO hkp hao T hd R hb h1 (fun _ a' w' hs=>by
      obtain⟨I',V',g1,g2,g3,g4,g5⟩:=hs
      exact Ztx hO hkp hb has' g3 g4 g5 h2 (fun hp a'' w'' hs'=>hQ hp a'' w'' (hs'.trans g1 g2)) (fun x hx a'' u w'' hd' hp=>hP x hx a'' u w'' hd' (hp.trans g1 g2))) (fun x e=>absurd e (fun e=>hnp x e))
     unfold wpList
     exact this
   ·cases hc
  ·cases hc
theorem ZlA{ops:Array Oper}:∀ {l:List Oper} {asl:List AOp},Zex P an ops l=some asl->asl.length=l.length/\∀ (i:Nat) (o:Oper),l[i]?=some o->∃ ao,asl[i]?=some ao/\Zh5 P an ops o=some ao
 | [],asl,h=>by simp only[Zex,Xb]at h;grind
 |o::l,asl,h=>by
  simp only[Zex]at h
  split at h
  ·rename_i ao hao
   split at h
   ·rename_i as' has'
    injection h with h;subst h
    obtain⟨h1,h2⟩:=ZlA has'
    grind
   ·cases h
  ·cases h
theorem ZoH:∀ (ls acc:List (List Nat)),(∀ j p,p∈(acc.getD j [])->True)->(ZcF ls acc).take acc.length=acc/\(ZcF ls acc).length=acc.length+ls.length /\
  ∀ j,j<ls.length->∀ p,p∈(ZcF ls acc).getD (acc.length+j) []->p∈ls.getD j []\/∃ i∈ls.getD j [],i<acc.length+j/\p∈(ZcF ls acc).getD i []
 | [],acc,_=>by simp[ZcF]
 |l::ls,acc,_=>by
  obtain⟨h1,h2,h3⟩:=ZoH ls (acc++[l++l.flatMap fun i=>acc.getD i []]) (fun _ _ _=>trivial)
  simp only[ZcF]
  have hlen:(acc++[l++l.flatMap fun i=>acc.getD i []]).length=acc.length+1:=by simp
  rw[hlen]at h1 h2 h3
  have hpre:∀ i,i<acc.length+1->(ZcF ls (acc++[l++l.flatMap fun i=>acc.getD i []])).getD i []=(acc++[l++l.flatMap fun i=>acc.getD i []]).getD i []:=by
   intro i hi
   have:=congrArg (fun q:List (List Nat)=>q.getD i []) h1
   simp only[Xh,List.getElem?_take,hi,if_true]at this ⊢
   exact this
  refine⟨?_,by grind,?_⟩
  ·have:=congrArg (List.take acc.length) h1
   rw[List.take_take,Nat.min_eq_left (by omega)]at this
   rw[this];simp
  ·intro j hj p hp
   cases j with
   |zero =>
    rw[X6,hpre _ (by omega)]at hp
    simp only[Xh,Wv (XH _),XaB,XK,Xau,XE,Wr]at hp
    grind
   |succ j =>
    grind
theorem ZzZ(f:Nat->Nat)(p:Nat):∀ (l:List Nat) (m:Nat),(l.foldl (fun m i=>m |||2^i |||f i) m).testBit p=true->m.testBit p=true\/p∈l\/∃ i∈l,(f i).testBit p=true
 | [],m,h=>Xq h
 |i::l,m,h=>by
  rcases ZzZ f p l _ h with h |h |⟨j,h1,h2⟩
  ·grind
  ·grind
  grind
theorem ZoK:∀ (ls:List (List Nat)) (accM:List Nat) (accL:List (List Nat)),accM.length=accL.length->(∀ j p,(accM.getD j 0).testBit p=true->p∈accL.getD j [])->∀ j p,((ZiD ls accM).getD j 0).testBit p=true->p∈(ZcF ls accL).getD j []
 | [],accM,accL,_,h=>h
 |l::ls,accM,accL,hl,h=>by
  simp only[ZiD,ZcF]
  refine ZoK ls _ _ (by simp[hl]) ?_
  intro j p hp
  by_cases hj:j<accM.length
  ·simp only[Xh,Wx hj]at hp
   simp only[Xh,Wx (show j<accL.length by omega)]
   have:=h j p (by simpa[Xh]using hp)
   simpa[Xh]using this
  ·by_cases hj':j=accM.length
   ·subst hj'
    simp only[Xh,Wv (XH _),XaB,XK,Xau]at hp
    rw[hl]
    simp only[Xh,Wv (XH _),XaB,XK,Xau,XE,Wr]
    rcases ZzZ _ p l 0 hp with h0 |h0 |⟨i,h1,h2⟩
    ·simp at h0
    ·grind
    ·refine Xt ⟨i,h1,?_⟩
     have:=h i p (by simpa[Xh]using h2)
     simpa[Xh]using this
   grind
theorem ZuM{asl:List AOp}{ps:List (Nat×Nat)}(h:Zga asl=some ps) :
  (∀ i j,i<j->j<asl.length->i∉(ZcF (asl.map (·.after)) []).getD j []->(asl.getD i default).apartT (asl.getD j default)=true/\((asl.getD i default).ins.touches=false\/(asl.getD j default).ins.touches=false\/(i,j)∈ps))/\(∀ j,j<asl.length->∀ i∈(asl.getD j default).after,i<j):=by
 have hsub:=ZoK (asl.map (·.after)) [] [] rfl (by simp)
 unfold Zga at h
 simp only at h
 split at h
 ·rename_i hc
  simp only[Xk,Xy,Wr,X7,Xac,XaY,forall_exists_index,and_imp,Xap,decide_eq_true_eq]at hc
  obtain⟨h1,h2⟩:=hc
  injection h with h
  have hbit:∀ i j,i∉(ZcF (asl.map (·.after)) []).getD j []->((ZiD (asl.map (·.after)) []).getD j 0).testBit i=false:=by
   intro i j hn
   cases hb:((ZiD (asl.map (·.after)) []).getD j 0).testBit i with
   |false=>rfl
   |true=>exact absurd (hsub j i hb) hn
  refine⟨fun i j hij hj hn=>⟨?_,?_⟩,fun j hj i hi=>h2 j hj i hi⟩
  ·grind
  ·cases ht1:(asl.getD i default).ins.touches with
   |false=>grind
   |true =>
    cases ht2:(asl.getD j default).ins.touches with
    |false=>grind
    |true =>
     refine Xt (Xt ?_)
     rw[<-h]
     rw[XE]
     refine Xq ?_
     simp only[Xac,Wr,X7,XaY,Xk]
     grind
 ·cases h
theorem ZGU{asl:List AOp}{ps:List (Nat×Nat)}(h:Zga asl=some ps){j:Nat}(hm:(j,j)∈ps):∀ k,j<k->k<asl.length->j∈(ZcF (asl.map (·.after)) []).getD k []:=by
 have hsub:=ZoK (asl.map (·.after)) [] [] rfl (by simp)
 unfold Zga at h
 simp only at h
 split at h
 ·injection h with h
  rw[<-h,XE]at hm
  rcases hm with hm |hm
  ·grind
  grind
 ·cases h
theorem ZFA{asl:List AOp}{ps:List (Nat×Nat)}(h:Zga asl=some ps){j:Nat}(hm:(j,j)∈ps):(asl.getD j default).ins.touches=true:=by
 unfold Zga at h
 simp only at h
 split at h
 ·injection h with h
  rw[<-h,XE]at hm
  rcases hm with hm |hm
  ·grind
  ·simp only[X7,Xac,XaY,Xe,and_self,Xk]at hm
   obtain⟨a,⟨_,hc,_⟩,rfl⟩:=hm
   cases hi:(asl.getD a default).ins<;>rw[hi]at hc<;>first |rfl |(simp[ZaG]at hc)
 ·cases h
end
end
section
open Go.RowKit
section
variable {P:Program}{O:ZS}{bf:Nat->Bool}{an:Ann}{base:Nat->Prop}{w0:World}{I0:Imm}{dr:Door}
theorem ZJU{o:AOp}{tm tm1:Tms}{G G1:Za}{sq:Nat}{v:AVal}{c:Cls}(ht:o.ins.touches=false)(h:ZW O bf o sq tm G=some (v,tm1,G1,c)):c={}:=by
 unfold ZW at h
 split at h
 ·cases h
 ·grind
 ·split at h
  ·split at h
   ·rename_i he
    simp only[Xb,Xe]at h
    rw[<-h.2.2.2]
    exact(ZSb ht he).1
   ·cases h
  ·cases h
theorem Zkq{i:Ins}(h:i.touches=false):nsite i=0:=by cases i<;>simp[Ins.touches]at h<;>rfl
theorem ZjJ{asl:List AOp}{L:Nat}{cs:List Cls}:∀ {l:List Nat} {tm tm':Tms} {G G':Za},Zdx O bf asl L cs l tm G tm' G'->∀ j∈l,(asl.getD j default).ins.touches=false->cs.getD j {}={}
 | [],_,_,_,_,_,j,hj,_=>by simp at hj
 |i::l,_,_,_,_,h,j,hj,ht=>by
  cases h with
  |cons h1 _ h2 =>
   rcases X0.1 hj with rfl |hj
   ·exact ZJU ht h1
   ·exact ZjJ h2 j hj ht
theorem ZjE(asl:List AOp):∀ {j i:Nat},j<i->i<=asl.length->sitesOf (asl.take j)+nsite (asl.getD j default).ins<=sitesOf (asl.take i):=by
 intro j i hji hi
 induction i with
 |zero=>omega
 |succ i ih =>
  rw[Zr8 asl (by omega)]
  by_cases e:j=i
  ·subst e
   simp[Xh,show j<asl.length by omega]
  ·have:=ih (by omega) (by omega);omega
theorem ZTm(hO:ZaM P O)(hkp:∀ n∈dr.K,n∈an.keep)(hb:KLt base w0){ops:Array Oper}{asl:List AOp}(hcomp:Zex P an ops ops.toList=some asl){ps:List (Nat×Nat)}(hps:Zga asl=some ps){L:Nat}{cs:List Cls}(hchk:Zeb asl L ps cs=true)
  {tmF:Tms} {GF:Za} {Q:Exit->Act->World->Prop} {I:Imm} {V:Bmap} (hQ:∀ a' w',StR dr an.nt base w0 I0 I V tmF GF a' w'->Q .normal a' w') :
  ∀ (fuel:Nat) (rem:List Nat) (listed:Array Bool) (a:Act) (w:World) (tm:Tms) (G:Za),Zdx O bf asl L cs rem tm G tmF GF->rem.Pairwise (· < ·)->(∀ j∈rem,j<ops.size)->(∀ j,j<ops.size->(listed.getD j true=true↔j∉rem))->listed.size=ops.size ->
   (∀ k,k<ops.size->k∉rem->∀ p∈(ZcF (asl.map (·.after)) []).getD k [],p∉rem)->rem.length=fuel->StR dr an.nt base w0 I0 I V tm G a w->wpAny P .any ops Q fuel listed a w:=by
 obtain⟨hlen,hget⟩:=ZlA hcomp
 obtain⟨hp1,hp2⟩:=ZuM hps
 obtain⟨_,_,hanc⟩:=ZoH (asl.map (·.after)) [] (fun _ _ _=>trivial)
 simp only[XU]at hlen
 have hafter:∀ j o,ops[j]?=some o->∃ ao,asl.getD j default=ao/\Zh5 P an ops o=some ao/\ao.after=(o.after.toList.filter (Region.binds .any)).map (·.on)/\ao.dst=o.dst:=by
  intro j o ho
  obtain⟨ao,h1,h2⟩:=hget j o (by grind)
  refine⟨ao,by grind,h2,?_⟩
  obtain⟨g,i,_,_,_,rfl⟩:=Zr5 h2
  exact⟨rfl,rfl⟩
 intro fuel
 induction fuel with
 |zero =>
  intro rem listed a w tm G hr hs hlt hl hsz hcl hfl hst
  have : rem=[]:=List.eq_nil_of_length_eq_zero hfl
  subst this
  cases hr
  refine⟨?_,hQ a w hst⟩
  apply List.eq_nil_iff_forall_not_mem.2
  intro j hj
  rw[mem_ready]at hj
  obtain⟨h1,o,ho,_⟩:=hj
  have hjl:j<ops.size:=(XZ.1 ho).1
  have:=(hl j hjl).2 (by simp)
  rw[h1]at this;cases this
 |succ fuel ih =>
  intro rem listed a w tm G hr hs hlt hl hsz hcl hfl hst
  have isRem:∀ j,j<ops.size->listed.getD j true=false->j∈rem:=by
   intro j hj h
   by_cases hm:j∈rem
   ·exact hm
   ·have:=(hl j hj).2 hm;rw[h]at this;cases this
  have getD_tf:∀ j,j<ops.size->listed.getD j false=listed.getD j true:=by
   intro j hj
   simp[WX,hsz,hj]
  refine⟨fun hnil=>?_,fun i hi=>?_⟩
  ·exfalso
   cases rem with
   |nil=>simp at hfl
   |cons r rs =>
    have hrl:r<ops.size:=hlt r (by simp)
    have hro:ops[r]?=some ops[r]:=by simp[hrl]
    obtain⟨ao,e1,e2,e3,_⟩:=hafter r _ hro
    have : r∈Region.ready .any ops listed:=by
     rw[mem_ready]
     refine⟨?_,ops[r],hro,fun e he hbnd=>?_⟩
     ·grind
     ·have hon:e.on∈ao.after:=by rw[e3];exact X7.2 ⟨e,Xac.2 ⟨by simpa using he,hbnd⟩,rfl⟩
      have hlt':e.on<r:=hp2 r (by omega) e.on (by grind)
      rw[getD_tf _ (by omega)]
      refine(hl e.on (by omega)).2 (fun hm=>?_)
      rcases X0.1 hm with h |hm
      ·omega
      ·have:=(Xam.1 hs).1 e.on hm;omega
    grind
  ·rw[mem_ready]at hi
   obtain⟨hi0,o,ho,hpre⟩:=hi
   have hil:i<ops.size:=(XZ.1 ho).1
   have him:=isRem i hil hi0
   obtain⟨l1,l2,rfl⟩:=List.append_of_mem him
   obtain⟨ao,e1,e2,e3,e4⟩:=hafter i o ho
   have hdone:∀ p∈(asl.getD i default).after,p<ops.size->p∉l1++i::l2:=by
    intro p hp hpl
    rw[e1,e3]at hp
    obtain⟨e,he,rfl⟩:=X7.1 hp
    obtain⟨he1,he2⟩:=Xac.1 he
    have:=hpre e (by grind) he2
    rw[getD_tf _ hpl]at this
    exact(hl e.on hpl).1 this
   have hai:(asl.map (·.after)).getD i []=(asl.getD i default).after:=by
    simp[Xh,show i<asl.length by omega]
   have hanci:∀ p∈(ZcF (asl.map (·.after)) []).getD i [],p∉l1++i::l2:=by
    intro p hp
    have hap:∀ q,q∈(asl.map (·.after)).getD i []->q<i:=fun q hq=>hp2 i (by omega) q (by grind)
    rcases hanc i (by simp;omega) p (by simpa using hp)with h |⟨q,h1,h2,h3⟩
    ·grind
    ·grind
   have hl1:∀ j∈l1,j<i:=by
    intro j hj
    have:=W8.1 hs
    exact this.2.2 j hj i (by simp)
   obtain⟨v1,tm1,G1,h1,hnp1,h2⟩:=ZqC (l1:=l1) (i:=i) (fun j hj=>by
    have hji:=hl1 j hj
    have hjn:j∉(ZcF (asl.map (·.after)) []).getD i []:=fun hm=>hanci j hm (by simp[hj])
    obtain⟨p1,p2⟩:=hp1 j i hji (by omega) hjn
    refine⟨p1,?_,fun hn _=>?_,?_⟩
    ·rcases p2 with p2 |p2 |p2
     ·have:=ZjJ hr j (by simp[hj]) p2
      have hem:ZcP (asl.getD j default) (cs.getD j {})=true:=by rw[this];simp only[ZcP,Zkq p2];rfl
      simp only[Zdc,hem,WV]
     ·have:=ZjJ hr i (by simp) p2
      have hem:ZcP (asl.getD i default) (cs.getD i {})=true:=by rw[this];simp only[ZcP,Zkq p2];rfl
      simp only[Zdc,hem,WV,W7]
     ·have:=Xy.1 hchk (j,i) p2
      simp only[WH,beq_iff_eq]at this
      rcases this with h |h
      ·omega
      ·exact h
    ·have:=ZjE asl hji (by omega)
     omega
    ·have:=ZjE asl hji (by omega)
     omega) hr
   unfold wpOp
   rw[ho]
   rw[e1]at h1
   obtain⟨I',V',g1,g2,g3,g4,g5⟩:=hst
   refine Zj2 hO hkp e2 g3 g4 g5 hb h1 (fun _ a' w' hs'=>ih (l1++l2) _ a' w' tm1 G1 h2 ?_ ?_ ?_ (by grind) ?_ ?_ (hs'.trans g1 g2)) (fun x e=>absurd e (hnp1 x))
   ·grind
   ·intro j hj
    refine hlt j ?_
    grind
   ·intro j hj
    have hs1:=W8.1 hs
    by_cases hij:i=j
    ·subst hij
     have hn:i∉l1++l2:=by
      intro hm
      rcases XE.1 hm with h |h
      ·grind
      ·have:=(Xam.1 hs1.2.1).1 i h;omega
     simp[WX,hsz,hil,hn]
    ·rw[getD_set_ne true hij,hl j hj]
     simp only[XE,X0,not_or]
     constructor
     ·rintro⟨a1,_,a3⟩;exact⟨a1,a3⟩
     ·rintro⟨a1,a3⟩;exact⟨a1,fun e=>hij e.symm,a3⟩
   ·intro k hk hkn p hp hm
    have hsub:p∈l1++i::l2:=by
     simp only[XE,X0]at hm ⊢
     rcases hm with h |h
     ·exact Xq h
     ·exact Xt (Xt h)
    grind
   ·simp at hfl ⊢;omega
theorem ZTT(hO:ZaM P O)(hkp:∀ n∈dr.K,n∈an.keep)(hb:KLt base w0){ops:Array Oper}{asl:List AOp}(hcomp:Zex P an ops ops.toList=some asl){ps:List (Nat×Nat)}(hps:Zga asl=some ps){L:Nat}{cs:List Cls}{jp:Nat}(hjl:jp<ops.size)(hmark:(jp,jp)∈ps)(hmarkT:(asl.getD jp default).ins.touches=true)(hfree:∀ j i,(j,i)∈ps->j<i->i<=jp->Zdc (asl.getD j default) (asl.getD i default) (cs.getD j {}) (cs.getD i {}) (L+sitesOf (asl.take j))=true)(hquiet:∀ j,(j,jp)∈ps->j<jp->ZaP (asl.getD j default).ins=true)
  {x:AVal} {GF:Za} {Q:Exit->Act->World->Prop} {I:Imm} {V:Bmap} (hQ:∀ a' u w',dr.ok a'->Post base w0 I0 I V x GF u w'->Q (.panic [{ v:=u,recovered:=false }]) a' w') :
  ∀ (fuel:Nat) (pre post:List Nat) (listed:Array Bool) (a:Act) (w:World) (tm tmJ tmX:Tms) (G GJ:Za),Zdx O bf asl L cs pre tm G tmJ GJ->ZW O bf (asl.getD jp default) (L+sitesOf (asl.take jp)) tmJ GJ=some (.pan x,tmX,GF,cs.getD jp {})->(pre++jp::post).Pairwise (· < ·)->(∀ j∈pre++jp::post,j<ops.size)->(∀ j,j<ops.size->(listed.getD j true=true↔j∉pre++jp::post))->listed.size=ops.size ->
   (∀ k,k<ops.size->k∉pre++jp::post->∀ p∈(ZcF (asl.map (·.after)) []).getD k [],p∉pre++jp::post)->(pre++jp::post).length=fuel->StR dr an.nt base w0 I0 I V tm G a w->wpAny P .any ops Q fuel listed a w:=by
 obtain⟨hlen,hget⟩:=ZlA hcomp
 obtain⟨hp1,hp2⟩:=ZuM hps
 have hmk:=ZGU hps hmark
 obtain⟨_,_,hanc⟩:=ZoH (asl.map (·.after)) [] (fun _ _ _=>trivial)
 simp only[XU]at hlen
 have hafter:∀ j o,ops[j]?=some o->∃ ao,asl.getD j default=ao/\Zh5 P an ops o=some ao/\ao.after=(o.after.toList.filter (Region.binds .any)).map (·.on)/\ao.dst=o.dst:=by
  intro j o ho
  obtain⟨ao,h1,h2⟩:=hget j o (by grind)
  refine⟨ao,by grind,h2,?_⟩
  obtain⟨g,i,_,_,_,rfl⟩:=Zr5 h2
  exact⟨rfl,rfl⟩
 intro fuel
 induction fuel with
 |zero =>
  grind
 |succ fuel ih =>
  intro pre post listed a w tm tmJ tmX G GJ hr hj hs hlt hl hsz hcl hfl hst
  have getD_tf:∀ j,j<ops.size->listed.getD j false=listed.getD j true:=by
   intro j hj
   simp[WX,hsz,hj]
  have isRem:∀ j,j<ops.size->listed.getD j true=false->j∈pre++jp::post:=by
   intro j hj h
   by_cases hm:j∈pre++jp::post
   ·exact hm
   ·have:=(hl j hj).2 hm;rw[h]at this;cases this
  refine⟨fun hnil=>?_,fun i hi=>?_⟩
  ·exfalso
   obtain⟨r,rs,hrr⟩:∃ r rs,pre++jp::post=r::rs:=by cases pre<;>simp
   rw[hrr]at hs hlt hl
   have hrl:r<ops.size:=hlt r (by simp)
   have hro:ops[r]?=some ops[r]:=by simp[hrl]
   obtain⟨ao,e1,e2,e3,_⟩:=hafter r _ hro
   have : r∈Region.ready .any ops listed:=by
    rw[mem_ready]
    refine⟨?_,ops[r],hro,fun e he hbnd=>?_⟩
    ·grind
    ·have hon:e.on∈ao.after:=by rw[e3];exact X7.2 ⟨e,Xac.2 ⟨by simpa using he,hbnd⟩,rfl⟩
     have hlt':e.on<r:=hp2 r (by omega) e.on (by grind)
     rw[getD_tf _ (by omega)]
     refine(hl e.on (by omega)).2 (fun hm=>?_)
     rcases X0.1 hm with h |hm
     ·omega
     ·have:=(Xam.1 hs).1 e.on hm;omega
   grind
  ·rw[mem_ready]at hi
   obtain⟨hi0,o,ho,hpre⟩:=hi
   have hil:i<ops.size:=(XZ.1 ho).1
   have him:=isRem i hil hi0
   obtain⟨ao,e1,e2,e3,e4⟩:=hafter i o ho
   have hdone:∀ p∈(asl.getD i default).after,p<ops.size->p∉pre++jp::post:=by
    intro p hp hpl
    rw[e1,e3]at hp
    obtain⟨e,he,rfl⟩:=X7.1 hp
    obtain⟨he1,he2⟩:=Xac.1 he
    have:=hpre e (by grind) he2
    rw[getD_tf _ hpl]at this
    exact(hl e.on hpl).1 this
   have hai:(asl.map (·.after)).getD i []=(asl.getD i default).after:=by
    simp[Xh,show i<asl.length by omega]
   have hanci:∀ p∈(ZcF (asl.map (·.after)) []).getD i [],p∉pre++jp::post:=by
    intro p hp
    have hap:∀ q,q∈(asl.map (·.after)).getD i []->q<i:=fun q hq=>hp2 i (by omega) q (by grind)
    rcases hanc i (by simp;omega) p (by simpa using hp)with h |⟨q,h1,h2,h3⟩
    ·grind
    ·grind
   have hss:=W8.1 hs
   rw[XE,X0]at him
   rcases him with him |hij |him
   ·obtain⟨l1,l2,rfl⟩:=List.append_of_mem him
    have hl1:∀ j∈l1,j<i:=by
     intro j hj
     exact(W8.1 hss.1).2.2 j hj i (by simp)
    have hijp:i<jp:=hss.2.2 i (by simp) jp (by simp)
    obtain⟨v1,tm1,G1,h1,hnp1,h2⟩:=ZqC (l1:=l1) (i:=i) (fun j hj'=>by
     have hji:=hl1 j hj'
     have hjn:j∉(ZcF (asl.map (·.after)) []).getD i []:=fun hm=>hanci j hm (by simp[hj'])
     obtain⟨p1,p2⟩:=hp1 j i hji (by omega) hjn
     refine⟨p1,?_,fun hn _=>?_,?_⟩
     ·rcases p2 with p2 |p2 |p2
      ·have:=ZjJ hr j (by simp[hj']) p2
       have hem:ZcP (asl.getD j default) (cs.getD j {})=true:=by rw[this];simp only[ZcP,Zkq p2];rfl
       simp only[Zdc,hem,WV]
      ·have:=ZjJ hr i (by simp) p2
       have hem:ZcP (asl.getD i default) (cs.getD i {})=true:=by rw[this];simp only[ZcP,Zkq p2];rfl
       simp only[Zdc,hem,WV,W7]
      grind
     ·have:=ZjE asl hji (by omega)
      omega
     ·have:=ZjE asl hji (by omega)
      omega) hr
    have eA:(l1++i::l2)++jp::post=l1++i::(l2++jp::post):=by simp
    have eB:(l1++l2)++jp::post=l1++(l2++jp::post):=by simp
    rw[eA]at hs hlt hl hcl hanci hfl
    unfold wpOp
    rw[ho]
    rw[e1]at h1
    obtain⟨I',V',g1,g2,g3,g4,g5⟩:=hst
    refine Zj2 hO hkp e2 g3 g4 g5 hb h1 (fun _ a' w' hs'=>ih (l1++l2) post _ a' w' tm1 tmJ tmX G1 GJ h2 hj ?_ ?_ ?_ (by grind) ?_ ?_ (hs'.trans g1 g2)) (fun x e=>absurd e (hnp1 x))
    ·grind
    ·intro j hj
     rw[eB]at hj
     refine hlt j ?_
     grind
    ·intro j hj
     rw[eB]
     generalize l2++jp::post=L2 at *
     have hs1:=W8.1 hs
     by_cases hij:i=j
     ·subst hij
      have hn:i∉l1++L2:=by
       intro hm
       rcases XE.1 hm with h |h
       ·grind
       ·have:=(Xam.1 hs1.2.1).1 i h;omega
      simp[WX,hsz,hil,hn]
     ·rw[getD_set_ne true hij,hl j hj]
      simp only[XE,X0,not_or]
      constructor
      ·rintro⟨a1,_,a3⟩;exact⟨a1,a3⟩
      ·rintro⟨a1,a3⟩;exact⟨a1,fun e=>hij e.symm,a3⟩
    ·intro k hk hkn p hp hm
     rw[eB]at hkn hm
     generalize l2++jp::post=L2 at *
     have hsub:p∈l1++i::L2:=by
      simp only[XE,X0]at hm ⊢
      rcases hm with h |h
      ·exact Xq h
      ·exact Xt (Xt h)
     grind
    ·rw[eB];simp at hfl ⊢;omega
   ·subst hij
    have hl1:∀ j∈pre,j<i:=fun j hj=>hss.2.2 j hj i (by simp)
    obtain⟨tm1,h1⟩:=ZzC (l1:=pre) (i:=i) (fun j hj'=>by
     have hji:=hl1 j hj'
     have hjn:j∉(ZcF (asl.map (·.after)) []).getD i []:=fun hm=>hanci j hm (by simp[hj'])
     obtain⟨p1,p2⟩:=hp1 j i hji (by omega) hjn
     have hts:(asl.getD i default).ins.touches=false->False:=fun h=>by
      grind
     refine⟨?_,p1,?_,fun hn _=>?_,?_⟩
     ·grind
     ·rcases p2 with p2 |p2 |p2
      ·have:=ZjJ hr j hj' p2
       have hem:ZcP (asl.getD j default) (cs.getD j {})=true:=by rw[this];simp only[ZcP,Zkq p2];rfl
       simp only[Zdc,hem,WV]
      ·grind
      grind
     ·have:=ZjE asl hji (by omega)
      omega
     ·have:=ZjE asl hji (by omega)
      omega) hr hj
    unfold wpOp
    rw[ho]
    rw[e1]at h1
    obtain⟨I',V',g1,g2,g3,g4,g5⟩:=hst
    refine Zj2 hO hkp e2 g3 g4 g5 hb h1 (fun hn=>absurd rfl (hn x)) (fun x' e u w' hp=>?_)
    injection e with e
    subst e
    exact hQ a u w' g4.1 (hp.trans g1 g2)
   ·exfalso
    have hlt2:jp<i:=(Xam.1 hss.2.1).1 i him
    exact hanci jp (hmk i hlt2 (by omega)) (by simp)
theorem Rel.reserve{I:Imm}{V:Bmap}{G:Za}{w:World}(R:Rel base w0 I0 I V G w)(n:Nat):Rel base w0 I0 I V (G++XI n .free) w:=by
 have look:∀ t x,(G++XI n ZP.free)[t]?=some x->G[t]?=some x\/(G.length<=t/\x=.free):=by
  intro t x h
  by_cases ht:t<G.length
  ·rw[Wx ht]at h;exact Xq h
  ·rw[Wv (by omega)]at h
   refine Xt ⟨by omega,?_⟩
   have:=XL h
   exact List.eq_of_mem_replicate this
 refine⟨R.below,R.old,R.imm,?_,?_,?_,?_,?_,?_,R.glob⟩
 ·intro t x h
  rcases look t x h with h |⟨_,rfl⟩
  ·exact R.blk t x h
  ·trivial
 ·intro t x b h hb
  rcases look t x h with h |⟨_,rfl⟩
  ·exact R.own t x b h hb
  ·cases hb
 ·intro t x t' x' b h h' hb hb'
  rcases look t x h with h |⟨_,rfl⟩
  ·rcases look t' x' h' with h' |⟨_,rfl⟩
   ·exact R.apart t x t' x' b h h' hb hb'
   ·cases hb'
  ·cases hb
 ·intro t g h
  exact R.fresh t g (by grind)
 ·intro t g h
  rcases look t _ h with h |⟨h,_⟩
  ·exact R.free t g h
  ·exact R.fresh t g h
 ·intro t x g h hg
  rcases look t _ h with h |⟨h,_⟩
  ·exact R.gen t x g h hg
  ·exact R.fresh t g h
theorem StR.keep{I:Imm}{V:Bmap}{tm:Tms}{G:Za}{a:Act}{w:World}(h:StR dr an.nt base w0 I0 I V tm G a w)(live:List Nat):StR dr an.nt base w0 I0 I V (keepL live tm) G a w:=by
 obtain⟨I',V',h1,h2,h3,h4⟩:=h
 exact⟨I',V',h1,h2,h3.keep live,h4⟩
def ZOy(dr:Door)(an:Ann)(base:Nat->Prop)(w0:World)(I0 I:Imm)(V:Bmap)(e:Za6)(tm:Tms)(G:Za)(Q:Exit->Act->World->Prop):Prop:=match e with
 | .normal=>∀ a w,StR dr an.nt base w0 I0 I V tm G a w->Q .normal a w
 | .exit id=>∀ a w,StR dr an.nt base w0 I0 I V tm G a w->Q (.exit id) a w
 | .ret=>∀ a w,StR dr an.nt base w0 I0 I V tm G a w->Q .ret a w
 | .panic x=>∀ a u w,dr.ok a->Post base w0 I0 I V x G u w->Q (.panic [{ v:=u,recovered:=false }]) a w
theorem ZnJ(hO:ZaM P O)(hkp:∀ n∈dr.K,n∈an.keep)(hm:P.follows .mixedOrders=true)(hb:KLt base w0){id:Nat}{ops:Array Oper}{draw:Bool}{asl:List AOp}{chk:Option (List (Nat×Nat))}{live:List Nat}(hc:Za7 P an (.region id ops draw)=.region asl chk live){I:Imm}{V:Bmap}{tm tm':Tms}{G G':Za}{a:Act}{w:World}{e:Za6}
  (hst:StR dr an.nt base w0 I0 I V tm G a w) (h:Zcq O bf asl chk live tm G=some (e,tm',G')) {Q:Exit->Act->World->Prop} (hQ:ZOy dr an base w0 I0 I V e tm' G' Q):(Code.region id ops draw).wp P Q a w:=by
 obtain⟨I1,V1,g1,g2,g3,g4,g5⟩:=hst
 simp only[Za7]at hc
 split at hc
 ·rename_i l hl
  unfold Zcq at h
  split at hc
  ·rename_i hd
   subst hd
   split at hc
   ·rename_i ps hps
    simp only[Zf.region.injEq]at hc
    obtain⟨rfl,rfl,rfl⟩:=hc
    cases hrun:Zac O bf l G.length tm (G++XI (sitesOf l) .free)with
    |none=>rw[hrun]at h;simp only[ZdH]at h;cases h
    |some q =>
     obtain⟨tm1,G1,cs,p⟩:=q
     rw[hrun]at h
     cases p with
     |some x =>
      simp only[ZdH]at h
      split at h
      ·rename_i hpan
       simp only[Xb,Xe]at h
       obtain⟨rfl,rfl,rfl⟩:=h
       have hlen:=(ZlA hl).1
       simp only[XU]at hlen
       obtain⟨n,tmJ,GJ,tmX,q1,q2,q3,q4⟩:=Zx2 (O:=O) (bf:=bf) (ops:=l) (L:=G.length) l.length 0 (cs:=cs) (cs':=cs) (by omega) (by simpa[sitesOf]using hrun) (fun j=>by simp)
       rw[XF]at q4
       unfold Zef at hpan
       rw[q2]at hpan
       simp only[Xk,List.any_eq_true,Xy,WH,beq_iff_eq,decide_eq_true_eq,Nat.add_sub_cancel]at hpan
       obtain⟨⟨pm,hpm,hm1,hm2⟩,hall⟩:=hpan
       have hmk:(n,n)∈ps:=by
        obtain⟨a1,a2⟩:=pm
        simp only at hm1 hm2
        subst hm1 hm2
        exact hpm
       have hT:(l.getD n default).ins.touches=true:=ZFA hps hmk
       refine wp_region_any hm (ZTT hO hkp hb hl hps (jp:=n) (by omega) hmk hT (fun j i hji h1 h2=>?_) (fun j hj h1=>?_) (I:=I) (V:=V) (x:=x) (fun a' u w' hd' hp=>hQ a' u w' hd' hp) ops.size (Xay 0 n) (Xay (n+1) (l.length-n-1)) _ a _ tm tmJ tmX _ GJ q3 q4 ?_ ?_ ?_ (by simp) ?_ (by simp;omega) ⟨I1,V1,g1,g2,g3,g4,(g5.reserve _).same rfl rfl rfl rfl⟩)
       ·grind
       ·grind
       ·have e:Xay 0 n++n::Xay (n+1) (l.length-n-1)=Xay 0 l.length:=by
         rw[<-Xa4]
         have:=List.range'_append_1 (s:=0) (m:=n) (n:=l.length-n-1+1)
         rw[XF]at this
         rw[this]
         congr 1
         omega
        rw[e];exact List.pairwise_lt_range'
       ·grind
       ·intro j hj
        simp[WX,hj]
        omega
       grind
      ·cases h
     |none =>
      simp only[ZdH]at h
      split at h
      ·rename_i hchk
       simp only[Xb,Xe]at h
       obtain⟨rfl,rfl,rfl⟩:=h
       have hlen:=(ZlA hl).1
       simp only[XU]at hlen
       have hr:=Zvf (O:=O) (bf:=bf) (ops:=l) (L:=G.length) l.length 0 (cs:=cs) (cs':=cs) (by omega) (by simpa[sitesOf]using hrun) (fun j=>by simp)
       refine wp_region_any hm (ZTm hO hkp hb hl hps hchk (I:=I) (V:=V) (fun a' w' hs=>hQ a' w' (hs.keep _)) ops.size (Xay 0 l.length) _ a _ tm _ hr ?_ ?_ ?_ (by simp) ?_ (by simp[hlen]) ⟨I1,V1,g1,g2,g3,g4,(g5.reserve _).same rfl rfl rfl rfl⟩)
       ·exact List.pairwise_lt_range'
       ·grind
       ·intro j hj
        simp[WX,hj,hlen]
       grind
      ·cases h
   ·cases hc
  ·rename_i hd
   simp only[Zf.region.injEq]at hc
   obtain⟨rfl,rfl,rfl⟩:=hc
   have hdf:draw=false:=by cases draw<;>simp_all
   subst hdf
   cases hrun:Zac O bf l G.length tm (G++XI (sitesOf l) .free)with
   |none=>rw[hrun]at h;simp only[ZdH]at h;cases h
   |some q =>
    obtain⟨tm1,G1,cs,p⟩:=q
    rw[hrun]at h
    cases p with
    |none =>
     simp only[ZdH,Xb,Xe]at h
     obtain⟨rfl,rfl,rfl⟩:=h
     exact wp_region_list (Ztx hO hkp hb hl g3 g4 (g5.reserve _) hrun (fun _ a' w' hs=>hQ a' w' ((hs.trans g1 g2).keep _)) (fun x hx=>by cases hx))
    |some x =>
     simp only[ZdH,Xb,Xe]at h
     obtain⟨rfl,rfl,rfl⟩:=h
     exact wp_region_list (Ztx hO hkp hb hl g3 g4 (g5.reserve _) hrun (fun hx=>by cases hx) (fun x' hx a' u w' hd' hp=>by
      injection hx with hx;subst hx
      exact hQ a' u w' hd' (hp.trans g1 g2)))
 ·cases hc
end
end
section
open Go.RowKit
section
variable {P:Program}{O:ZS}{bf:Nat->Bool}{an:Ann}{base:Nat->Prop}{w0:World}{I0:Imm}{dr:Door}
def StF(dr:Door)(m nt:Nat)(base:Nat->Prop)(w0:World)(I0 I:Imm)(V:Bmap)(tm:Tms)(G:Za)(a:Act)(w:World):Prop :=
 ∃ I' V',I.le I'/\KeptE m V V'/\TR I' V' tm a.tmps/\(dr.ok a/\nt<=a.tmps.size)/\Rel base w0 I0 I' V' G w
def ZTo(dr:Door)(m:Nat)(an:Ann)(base:Nat->Prop)(w0:World)(I0 I:Imm)(V:Bmap)(e:Za6)(tm:Tms)(G:Za)(Q:Exit->Act->World->Prop):Prop:=match e with
 | .normal=>∀ a w,StF dr m an.nt base w0 I0 I V tm G a w->Q .normal a w
 | .exit id=>∀ a w,StF dr m an.nt base w0 I0 I V tm G a w->Q (.exit id) a w
 | .ret=>∀ a w,StF dr m an.nt base w0 I0 I V tm G a w->Q .ret a w
 | .panic x=>∀ a u w,dr.ok a->Zb6 m base w0 I0 I V (.pan x) G u w->Q (.panic [{ v:=u,recovered:=false }]) a w
theorem StF.cond{m:Nat}{I:Imm}{V:Bmap}{tm:Tms}{G:Za}{a:Act}{w:World}(h:StF dr m an.nt base w0 I0 I V tm G a w){c:Operand}{y:Opd}(hc:Zat c=some y){b:Bool}(hv:y.ev tm=.bool b):a.eval c=.bool b:=by
 obtain⟨I',V',_,_,T,_,_⟩:=h
 have:=Zay T hc
 rw[hv]at this
 simpa only[VR]using this
theorem ZkT(hO:ZaM P O)(hkp:∀ n∈dr.K,n∈an.keep)(hm:P.follows .mixedOrders=true)(hb:KLt base w0)(m n:Nat):∀ {c:Code} {ac:Zf},Za7 P an c=ac->∀ {I:Imm} {V:Bmap} {tm tm':Tms} {G G':Za} {a:Act} {w:World} {e:Za6},StF dr m an.nt base w0 I0 I V tm G a w->Zam O bf m n ac tm G=some (e,tm',G') ->
  ∀ {Q:Exit->Act->World->Prop},ZTo dr m an base w0 I0 I V e tm' G' Q->c.wp P Q a w:=by
 intro c
 induction c with
 |skip =>
  intro ac hc I V tm tm' G G' a w e hst h Q hQ
  simp only[Za7]at hc;subst hc
  simp only[Zam,Xb,Xe]at h
  obtain⟨rfl,rfl,rfl⟩:=h
  exact wp_skip (hQ a w hst)
 |region id ops draw =>
  intro ac hc I V tm tm' G G' a w e hst h Q hQ
  obtain⟨asl,chk,live,rfl⟩:∃ asl chk live,ac=.region asl chk live:=by
   simp only[Za7]at hc
   split at hc
   ·split at hc
    ·split at hc
     ·grind
     ·subst hc;simp only[Zam]at h;cases h
    grind
   ·subst hc;simp only[Zam]at h;cases h
  simp only[Zam]at h
  obtain⟨I1,V1,g1,g2,g3,g4,g5⟩:=hst
  have up:∀ {tm:Tms} {G:Za} {a':Act} {w':World},StR dr an.nt base w0 I0 I1 V1 tm G a' w'->StF dr m an.nt base w0 I0 I V tm G a' w':=by
   rintro tm G a' w' ⟨I2,V2,k1,k2,k3⟩
   exact⟨I2,V2,g1.trans k1,g2.trans (KeptE.of_le k2),k3⟩
  refine ZnJ hO hkp hm hb hc (⟨I1,V1,Imm.le.refl I1,Bmap.le.refl V1,g3,g4,g5⟩:StR dr an.nt base w0 I0 I1 V1 tm G a w) h ?_
  cases e with
  |normal=>exact fun a' w' hs=>hQ a' w' (up hs)
  |exit id=>exact fun a' w' hs=>hQ a' w' (up hs)
  |ret=>exact fun a' w' hs=>hQ a' w' (up hs)
  |panic x =>
   rintro a' u w' hd ⟨I2,V2,k1,k2,k3,k4⟩
   exact hQ a' u w' hd ⟨I2,V2,g1.trans k1,g2.trans (KeptE.of_le k2),k3,k4⟩
 |seq x y ihx ihy =>
  intro ac hc I V tm tm' G G' a w e hst h Q hQ
  simp only[Za7]at hc
  subst hc
  simp only[Zam]at h
  refine wp_seq ?_
  split at h
  ·rename_i tm1 G1 h1
   exact ihx rfl hst h1 (fun a' w' hs=>ihy rfl hs h hQ)
  ·rename_i hne
   refine ihx rfl hst h ?_
   cases e with
   |normal=>grind
   |exit id=>exact hQ
   |ret=>exact hQ
   |panic x=>exact hQ
 |cond c x y ihx ihy =>
  intro ac hc I V tm tm' G G' a w e hst h Q hQ
  simp only[Za7]at hc
  split at hc
  ·rename_i c' hcc
   subst hc
   simp only[Zam]at h
   split at h
   ·rename_i hv
    exact wp_cond_true (hst.cond hcc hv) (ihx rfl hst h hQ)
   ·rename_i hv
    exact wp_cond_false (hst.cond hcc hv) (ihy rfl hst h hQ)
   ·cases h
  ·subst hc;simp only[Zam]at h;cases h
 |block id x ih =>
  intro ac hc I V tm tm' G G' a w e hst h Q hQ
  simp only[Za7]at hc
  subst hc
  have hx:Za7 P an x=Za7 P an x:=rfl
  simp only[Zam]at h
  refine wp_block ?_
  split at h
  ·rename_i i tm1 G1 h1
   refine ih hx hst h1 ?_
   intro a' w' hs
   simp only[Exit.inBlock]
   split at h
   ·rename_i hid
    simp only[Xb,Xe]at h
    obtain⟨rfl,rfl,rfl⟩:=h
    rw[if_pos hid]
    exact hQ a' w' hs
   ·rename_i hid
    simp only[Xb,Xe]at h
    obtain⟨rfl,rfl,rfl⟩:=h
    rw[if_neg hid]
    exact hQ a' w' hs
  ·rename_i hne
   refine ih hx hst h ?_
   cases e with
   |normal=>exact hQ
   |exit id=>grind
   |ret=>exact hQ
   |panic x=>exact hQ
 |loop x ih =>
  intro ac hc I V tm tm' G G' a w e hst h Q hQ
  simp only[Za7]at hc
  subst hc
  have hx:Za7 P an x=Za7 P an x:=rfl
  simp only[Zam]at h
  refine wp_loop_rounds n ?_
  have key:∀ k {tm:Tms} {G:Za} {a:Act} {w:World},StF dr m an.nt base w0 I0 I V tm G a w->Zeu m (an.ll (Zge x)) (Zam O bf m n (Za7 P an x)) k tm G=some (e,tm',G')->Code.rounds P x Q k a w:=by
   intro k
   induction k with
   |zero=>intro tm G a w _ h;simp only[Zeu]at h;cases h
   |succ k ihk =>
    intro tm G a w hst h
    rw[rounds_succ]
    simp only[Zeu]at h
    obtain⟨I1,V1,k1,k2,k3,k4,k5⟩:=hst
    obtain⟨V2,q1,q2,q3⟩:=ZKH k5 (k3.keep (an.ll (Zge x))) m
    have hst0:StF dr m an.nt base w0 I0 I V (gcT m (keepL (an.ll (Zge x)) tm) G).1 (gcT m (keepL (an.ll (Zge x)) tm) G).2 a w:=⟨I1,V2,k1,k2.trans q1,q3,k4,q2⟩
    split at h
    ·rename_i tm1 G1 h1
     exact ih hx hst0 h1 (fun a' w' hs=>ihk hs h)
    ·rename_i hne
     refine ih hx hst0 h ?_
     cases e with
     |normal=>grind
     |exit id=>exact hQ
     |ret=>exact hQ
     |panic x=>exact hQ
  grind
 |exit id =>
  intro ac hc I V tm tm' G G' a w e hst h Q hQ
  simp only[Za7]at hc;subst hc
  simp only[Zam,Xb,Xe]at h
  obtain⟨rfl,rfl,rfl⟩:=h
  exact wp_exit (hQ a w hst)
 |ret =>
  intro ac hc I V tm tm' G G' a w e hst h Q hQ
  simp only[Za7]at hc;subst hc
  simp only[Zam,Xb,Xe]at h
  obtain⟨rfl,rfl,rfl⟩:=h
  exact wp_ret (hQ a w hst)
 |rangeFunc f ps x y=>intro ac hc I V tm tm' G G' a w e hst h;simp only[Za7]at hc;subst hc;simp only[Zam]at h;cases h
 |scope x ih =>
  intro ac hc I V tm tm' G G' a w e hst h Q hQ
  simp only[Za7]at hc
  refine wp_scope_straight (ih hc hst h ?_)
  cases e with
  |normal=>exact hQ
  |exit id=>exact hQ
  |ret=>exact hQ
  |panic x=>exact hQ
 |label l =>
  intro ac hc I V tm tm' G G' a w e hst h Q hQ
  simp only[Za7]at hc;subst hc
  simp only[Zam,Xb,Xe]at h
  obtain⟨rfl,rfl,rfl⟩:=h
  exact wp_label (hQ a w hst)
 |goto l=>intro ac hc I V tm tm' G G' a w e hst h;simp only[Za7]at hc;subst hc;simp only[Zam]at h;cases h
 |refuse why=>intro ac hc I V tm tm' G G' a w e hst h;simp only[Za7]at hc;subst hc;simp only[Zam]at h;cases h
theorem ZK7{I:Imm}{V:Bmap}{G G':Za}{k:Option Nat}{a x:AVal}{c:Cls}{v:Value}(ha:VR I V a v)(h:ldA G k a=some (x,G',c)):∃ ad,v=.pointer (some ad):=by
 unfold ldA at h
 split at h
 ·simp only[VR]at ha;grind
 ·simp only[VR]at ha;grind
 ·simp only[VR]at ha;grind
 ·cases h
def Zkz(tmps:Array Value):ResultVar->Sem Value
 | .tmp t=>pure (tmps.getD t undef)
 | .cell a t=>do loadVar t (<-asAddr (tmps.getD a undef))
theorem ZtO{I:Imm}{V:Bmap}{tm:Tms}{G:Za}{w:World}{tmps:Array Value}(T:TR I V tm tmps)(R:Rel base w0 I0 I V G w):∀ {rs:List ResultVar} {asl:List Zdw} {xs:List AVal},ZfY P rs=some asl->resAll tm G asl=some xs ->
  ∃ vs:List Value,(rs.mapM (Zkz tmps)).run P w=.ok vs w/\VRs I V xs vs
 | [],asl,xs,hc,h=>by
  simp only[ZfY,Xb]at hc;subst hc
  simp only[resAll,Xb]at h;subst h
  exact⟨[],by simp,by simp only[VRs]⟩
 |r::rs,asl,xs,hc,h=>by
  have getD_eq:∀ t,VR I V (tget tm t) (tmps.getD t undef):=T
  cases r with
  |tmp t =>
   simp only[ZfY,Xo]at hc
   obtain⟨as',has,rfl⟩:=hc
   simp only[resAll,resOne]at h
   split at h
   ·rename_i ys hys
    injection h with h;subst h
    obtain⟨vs,h1,h2⟩:=ZtO T R has hys
    exact⟨tmps.getD t undef::vs,by simp only[XaW,Zkz,Sem.run_bind,Sem.run_pure,Result.andThen_ok,h1],by simp only[VRs];grind⟩
   ·cases h
  |cell a t =>
   simp only[ZfY]at hc
   split at hc
   ·rename_i k as' hk has
    injection hc with hc;subst hc
    simp only[resAll,resOne]at h
    split at h
    ·rename_i v hv
     split at h
     ·rename_i ys hys
      injection h with h;subst h
      obtain⟨vs,h1,h2⟩:=ZtO T R has hys
      split at hv
      ·rename_i v' G1 c1 hld
       injection hv with hv;subst hv
       obtain⟨u,hu1,hu2,_⟩:=Zv1 hk R (getD_eq a) hld
       obtain⟨ad,had⟩:=ZK7 (getD_eq a) hld
       have hlv:(loadVar t ad).run P w=.ok u w:=by
        rw[had]at hu1
        simpa[Instr.loadAt,Instr.sureAddr]using hu1
       refine⟨u::vs,?_,by simp only[VRs];grind⟩
       simp only[XaW,Zkz,had,asAddr,Sem.run_bind,Sem.run_pure,Result.andThen_ok,hlv,h1]
      ·cases hv
     ·cases h
    ·cases h
   ·cases hc
theorem ZvQ{I:Imm}{V:Bmap}{tm:Tms}{G:Za}{w:World}{tmps:Array Value}(T:TR I V tm tmps)(R:Rel base w0 I0 I V G w){fn:Func}{asl:List Zdw}{x:AVal}(hc:ZfY P fn.results.toList=some asl)(h:resA tm G asl=some x):∃ v,(results fn tmps).run P w=.ok v w/\VR I V x v:=by
 unfold resA at h
 have run:∀ {xs:List AVal},resAll tm G asl=some xs->∃ vs:List Value,(results fn tmps).run P w=.ok (if h:vs.toArray.size=1 then vs.toArray[0]else .tuple vs.toArray) w/\VRs I V xs vs:=by
  intro xs hx
  obtain⟨vs,h1,h2⟩:=ZtO T R hc hx
  refine⟨vs,?_,h2⟩
  have hm:(fn.results.mapM (Zkz tmps)).run P w=.ok vs.toArray w:=by
   rw[Array.mapM_eq_mapM_toList,Sem.run_map,h1];rfl
  have he:results fn tmps=(do let vs <-fn.results.mapM (Zkz tmps);pure (if h:vs.size=1 then vs[0]else .tuple vs)):=by
   unfold results
   congr 1
  rw[he,Sem.run_bind,hm]
  rfl
 split at h
 ·rename_i v hv
  injection h with h;subst h
  obtain⟨vs,h1,h2⟩:=run hv
  simp only[VRs]at h2
  grind
 ·rename_i vs' hv hne
  injection h with h;subst h
  obtain⟨vs,h1,h2⟩:=run hne
  have hl:=ZaO h2
  refine⟨.tuple vs.toArray,?_,by simp only[VR];grind⟩
  rw[h1,dif_neg]
  intro hs
  simp only[List.size_toArray]at hs
  match vs',hl with
  | [v],_=>exact hv v rfl
  | [],hl=>simp at hl;omega
  |_::_::_,hl=>simp at hl;omega
 ·cases h
theorem Zxy:∀ (args:List AVal) (i:Nat) (acc:Tms) (n:Nat),tget (enterA i args acc) n=if i<=n/\n<i+args.length then args.getD (n-i) .top else tget acc n
 | [],i,acc,n=>by simp only[enterA,Xw];grind
 |x::xs,i,acc,n=>by
  simp only[enterA,List.length_cons]
  rw[Zxy xs (i+1) _ n]
  by_cases h:i+1<=n/\n<i+1+xs.length
  ·grind
  ·rw[if_neg h]
   simp only[tget]
   grind
theorem Zp4{I:Imm}{V:Bmap}{args:List AVal}{vs:Array Value}(h:VRs I V args vs.toList)(n:Nat):TR I V (enterA 0 args []) (vs++WY n undef):=by
 intro j
 rw[Zxy]
 have hl:=ZaO h
 simp only[XU]at hl
 split
 ·rename_i hj
  have hjl:j<args.length:=by omega
  obtain⟨v,h1,h2⟩:=Zcm h (List.getElem?_eq_getElem hjl)
  have e1:args.getD (j-0) .top=args[j]:=by simp[Xh,hjl]
  have e2:(vs++WY n undef).getD j undef=v:=by
   rw[Wq,Array.getElem?_append_left (by omega)]
   have : vs[j]?=some v:=by simpa using h1
   rw[this];rfl
  grind
 ·simp only[tget,VR]
def ZmJ(P:Program)(prim:ZcR):Prop:=∀ f g,prim f=some g->∀ args G r G',g args G=some (r,G') ->
 (∃ fn,P.funcs[f]?=some fn/\fn.body.isSome=true/\(fn.name == "runtime.NumGoroutine")=false) /\
 ∀ base w0 I0 I V w (vs:Array Value),KLt base w0->Rel base w0 I0 I V G w->VRs I V args vs.toList ->
  Calls P f vs w (fun e w'=>∃ u,Ends r e u/\Zb6 G.length base w0 I0 I V r G' u w')
theorem ZpM(hm:P.follows .mixedOrders=true){prim:ZcR}(hP:ZmJ P prim)(ann:Nat->Ann)(bf:Nat->Bool):∀ n,ZaM P (Zau (ZkQ P ann) prim bf n)
 |0=>by intro f args G r G' h;simp only[Zau]at h;cases h
 |n+1=>by
  have ih:=ZpM hm hP ann bf n
  intro f args G r G' h
  simp only[Zau]at h
  split at h
  ·rename_i g hg
   exact hP f g hg args G r G' h
  split at h
  ·cases h
  rename_i fn hfn
  unfold ZkQ at hfn
  split at hfn
  ·rename_i F hF
   split at hfn
   ·rename_i body hbody
    split at hfn
    ·cases hfn
    ·rename_i hname
     split at hfn
     ·rename_i rs hrs
      injection hfn with hfn;subst hfn
      refine⟨⟨F,hF,by grind,by grind⟩,?_⟩
      intro base w0 I0 I V w vs hb R hargs
      refine calls_of_wp hF hbody ?_
      have T:=Zp4 hargs (F.ntmps-vs.size)
      have hst:StF Zch G.length F.ntmps base w0 I0 I V (enterA 0 args []) G { tmps:=vs++WY (F.ntmps-vs.size) undef,defers:=[] } w:=⟨I,V,Imm.le.refl I,KeptE.refl _ V,T,⟨Zgj.2 rfl,by simp;omega⟩,R⟩
      cases hx:Zam (Zau (ZkQ P ann) prim bf n) bf G.length n (Za7 P { ann f with nt:=F.ntmps } body) (enterA 0 args []) G with
      |none=>rw[hx]at h;simp only[Zax]at h;cases h
      |some q =>
       obtain⟨e,tm',G1⟩:=q
       rw[hx]at h
       have fin:(match resA tm' G1 rs with |some r=>ZR G.length G1 r |none=>none)=some (r,G')->∀ a' w',StF Zch G.length F.ntmps base w0 I0 I V tm' G1 a' w'->a'.defers=[]/\∃ v,(results F a'.tmps).run P w'=.ok v w'/\∃ u,Ends r (.returned v) u/\Zb6 G.length base w0 I0 I V r G' u w':=by
        intro hr a' w' ⟨I1,V1,g1,g2,g3,g4,g5⟩
        split at hr
        ·rename_i x hx1
         obtain⟨v,h1,h2⟩:=ZvQ g3 g5 hrs hx1
         have hnp:∀ y,x≠.pan y:=by rintro y rfl;simp only[VR]at h2
         obtain⟨q1,q2⟩:=Zmj (⟨I1,V1,g1,g2,g5,by rw[Zgs hnp];exact h2⟩:Zb6 G.length base w0 I0 I V x G1 v w') hr
         refine⟨Zgj.1 g4.1,v,h1,v,q2 _ ?_,q1⟩
         cases x<;>first |rfl |grind
        ·cases hr
       refine ZkT (dr:=Zch) (an:={ ann f with nt:=F.ntmps }) ih (fun n hn=>by simp[Zch]at hn) hm hb G.length n rfl hst hx ?_
       cases e with
       |normal=>simp only[Zax]at h;exact fun a' w' hs=>fin h a' w' hs
       |ret=>simp only[Zax]at h;exact fun a' w' hs=>fin h a' w' hs
       |exit id=>simp only[Zax]at h;cases h
       |panic x =>
        simp only[Zax]at h
        intro a' u w' hd hp
        obtain⟨q1,q2⟩:=Zmj hp h
        exact⟨Zgj.1 hd,u,q2 _ rfl,q1⟩
     grind
   grind
  grind
end
end
section
open Go.RowKit
def OLe(O O':ZS):Prop:=∀ f a G r,O f a G=some r->O' f a G=some r
section
variable {O O':ZS}{bf:Nat->Bool}
theorem ZTS{view:Bool}{m:Nat}{x y:Option (AVal×Za)}(h:∀ r,x=some r->y=some r){r:AVal×Za}(hr:ZV view m x=some r):ZV view m y=some r:=by
 cases x with
 |none=>cases view<;>simp[ZV,ZbR]at hr
 |some q=>grind
theorem ZCK{G Gf:Za}{ids ts:List Nat}{sq own:Nat}{x y:Option (AVal×Za)}(h:∀ r,x=some r->y=some r){r:AVal×Za×Cls}(hr:Zaz G Gf ids ts sq own x=some r):Zaz G Gf ids ts sq own y=some r:=by
 cases x with
 |none=>simp only[Zaz]at hr;cases hr
 |some q=>grind
theorem Zz3{md:Nat}:ZbV md none=none:=by unfold ZbV Zgd Zi4;split<;>rfl
theorem ZL5{md:Nat}{x y:Option (AVal×Za)}(h:∀ r,x=some r->y=some r){r:AVal×Za}(hr:ZbV md x=some r):ZbV md y=some r:=by
 cases x with
 |none=>rw[Zz3]at hr;cases hr
 |some q=>grind
theorem Zpz(hO:OLe O O'){G:Za}{sq f own:Nat}{view:Bool}{args:List AVal}{r:AVal×Za×Cls}(h:Zq O bf G sq f own view args=some r):Zq O' bf G sq f own view args=some r:=by
 unfold Zq Zbk at h⊢
 split at h
 ·cases h
 ·rename_i vs ts us md hv
  split at h
  ·rename_i hc
   simp only[hc,if_true]
   exact ZCK (fun q hq=>ZTS (fun q hq=>ZL5 (fun q hq=>hO _ _ _ _ hq) hq) hq) h
  ·cases h
theorem ZEj(hO:OLe O O'){tm:Tms}{G:Za}{sq:Nat}{ins:Ins}{r:AVal×Za×Cls}(h:execI O bf tm G sq ins=some r):execI O' bf tm G sq ins=some r:=by
 cases ins
 case call f own view args =>
  simp only[execI]at h⊢
  exact Zpz hO h
 case callv x args =>
  simp only[execI]at h⊢
  split at h
  ·exact Zpz hO h
  ·cases h
 all_goals exact h
theorem ZqR(hO:OLe O O'){o:AOp}{tm:Tms}{G:Za}{sq:Nat}{r:AVal×Tms×Za×Cls}(h:ZW O bf o sq tm G=some r):ZW O' bf o sq tm G=some r:=by
 unfold ZW at h⊢
 split at h
 ·cases h
 ·exact h
 ·split at h
  ·rename_i hf
   rw[if_pos hf]
   split at h
   ·rename_i he;rw[ZEj hO he];exact h
   ·cases h
  ·cases h
theorem ZsM(hO:OLe O O'):∀ {ops:List AOp} {s:Nat} {tm:Tms} {G:Za} {r:Tms×Za×List Cls×Option AVal},Zac O bf ops s tm G=some r->Zac O' bf ops s tm G=some r
 | [],_,_,_,_,h=>h
 |o::ops,s,tm,G,r,h=>by
  simp only[Zac]at h⊢
  split at h
  ·cases h
  ·rename_i h1
   rw[ZqR hO h1]
   exact h
  ·rename_i v tm1 G1 c hnp h1
   rw[ZqR hO h1]
   simp only
   split at h
   ·cases h
   rename_i h2
   rw[ZsM hO h2]
   exact h
theorem Zx5(hO:OLe O O'){ops:List AOp}{chk:Option (List (Nat×Nat))}{live:List Nat}{tm:Tms}{G:Za}{r:Za6×Tms×Za}(h:Zcq O bf ops chk live tm G=some r):Zcq O' bf ops chk live tm G=some r:=by
 unfold Zcq at h⊢
 cases hx:Zac O bf ops G.length tm (G++XI (sitesOf ops) .free)with
 |none=>rw[hx]at h;simp only[ZdH]at h;cases h
 |some q=>rw[ZsM hO hx];rw[hx]at h;exact h
theorem ZmW{m0:Nat}{live:List Nat}{f f':Tms->Za->Option (Za6×Tms×Za)}(hf:∀ tm G r,f tm G=some r->f' tm G=some r):∀ {n n':Nat} {tm:Tms} {G:Za} {r:Za6×Tms×Za},n<=n'->Zeu m0 live f n tm G=some r->Zeu m0 live f' n' tm G=some r
 |0,_,_,_,_,_,h=>by simp only[Zeu]at h;cases h
 |n+1,0,_,_,_,hn,_=>by omega
 |n+1,n'+1,tm,G,r,hn,h=>by
  simp only[Zeu]at h⊢
  split at h
  ·rename_i h1
   rw[hf _ _ _ h1]
   exact ZmW hf (by omega) h
  grind
theorem Zec(hO:OLe O O'){m0:Nat}:∀ {c:Zf} {n n':Nat} {tm:Tms} {G:Za} {r:Za6×Tms×Za},n<=n'->Zam O bf m0 n c tm G=some r->Zam O' bf m0 n' c tm G=some r:=by
 intro c
 induction c with
 |skip=>intro n n' tm G r _ h;exact h
 |exit id=>intro n n' tm G r _ h;exact h
 |ret=>intro n n' tm G r _ h;exact h
 |stuck=>intro n n' tm G r _ h;exact h
 |region ops chk live =>
  intro n n' tm G r _ h
  simp only[Zam]at h⊢
  exact Zx5 hO h
 |seq a b iha ihb =>
  intro n n' tm G r hn h
  simp only[Zam]at h⊢
  grind
 |cond c a b iha ihb =>
  intro n n' tm G r hn h
  simp only[Zam]at h⊢
  grind
 |block id c ih =>
  intro n n' tm G r hn h
  simp only[Zam]at h⊢
  grind
 |loop live c ih =>
  intro n n' tm G r hn h
  simp only[Zam]at h⊢
  exact ZmW (fun tm G r h=>ih hn h) hn h
theorem ZkB{m0:Nat}{fn:ZM}{x y:Option (Za6×Tms×Za)}(h:∀ r,x=some r->y=some r){r:AVal×Za}(hr:Zax m0 fn x=some r):Zax m0 fn y=some r:=by
 cases x with
 |none=>simp only[Zax]at hr;cases hr
 |some q=>grind
theorem ZxX(fs:Nat->Option ZM)(prim:ZcR):∀ n,OLe (Zau fs prim bf n) (Zau fs prim bf (n+1))
 |0=>by intro f a G r h;simp only[Zau]at h;cases h
 |n+1=>by
  intro f a G r h
  rw[Zau]at h⊢
  split at h
  ·grind
  ·rename_i hg
   split at h
   ·cases h
   ·rename_i fn hfn
    exact ZkB (fun q hq=>Zec (ZxX fs prim n) (by omega) hq) h
theorem ZjL (fs : Nat -> Option ZM) (prim : ZcR) {n m : Nat} (h : n <= m) : OLe (Zau fs prim bf n) (Zau fs prim bf m) := by
  induction m with
  | zero => obtain rfl : n = 0 := by omega
            exact fun _ _ _ _ h => h
  | succ m ih =>
    by_cases e : n = m + 1
    . subst e; exact fun _ _ _ _ h => h
    . exact fun f a G r hr => ZxX fs prim m f a G r (ih (by omega) f a G r hr)
end
section
variable (fs:Nat->Option ZM)(prim:ZcR)(bf:Nat->Bool)
open Classical in
noncomputable def EV:ZS:=fun f args G=>if h:∃ r,∃ n,Zau fs prim bf n f args G=some r then some h.choose else none
open Classical in
noncomputable def evC(m:Nat)(c:Zf)(tm:Tms)(G:Za):Option (Za6×Tms×Za):=if h:∃ r,∃ n,Zam (Zau fs prim bf n) bf m n c tm G=some r then some h.choose else none
variable {fs prim bf}{m0:Nat}
theorem ZdD{f:Nat}{args:List AVal}{G:Za}{r:AVal×Za}:EV fs prim bf f args G=some r↔∃ n,Zau fs prim bf n f args G=some r:=by
 unfold EV
 constructor
 ·intro h
  split at h
  ·grind
  ·cases h
 ·rintro⟨n,hn⟩
  have hx:∃ r,∃ n,Zau fs prim bf n f args G=some r:=⟨r,n,hn⟩
  rw[dif_pos hx]
  obtain⟨m,hm⟩:=hx.choose_spec
  have h1:=ZjL (bf:=bf) fs prim (WZ n m) _ _ _ _ hn
  have h2:=ZjL (bf:=bf) fs prim (WS n m) _ _ _ _ hm
  rw[h1]at h2
  injection h2 with h2
  rw[<-h2]
theorem Zbs{c:Zf}{tm:Tms}{G:Za}{r:Za6×Tms×Za}:evC fs prim bf m0 c tm G=some r↔∃ n,Zam (Zau fs prim bf n) bf m0 n c tm G=some r:=by
 unfold evC
 constructor
 ·intro h
  split at h
  ·grind
  ·cases h
 ·rintro⟨n,hn⟩
  have hx:∃ r,∃ n,Zam (Zau fs prim bf n) bf m0 n c tm G=some r:=⟨r,n,hn⟩
  rw[dif_pos hx]
  obtain⟨m,hm⟩:=hx.choose_spec
  have h1:=Zec (ZjL (bf:=bf) fs prim (WZ n m)) (WZ n m) hn
  have h2:=Zec (ZjL (bf:=bf) fs prim (WS n m)) (WS n m) hm
  rw[h1]at h2
  injection h2 with h2
  rw[<-h2]
theorem Zgq{D:Type}{x y:Option D}(h:∀ r,x=some r↔y=some r):x=y:=by
 cases x with
 |none =>
  cases y with
  |none=>rfl
  |some q=>exact absurd ((h q).2 rfl) (by simp)
 |some q=>grind
theorem ZL1(n:Nat):OLe (Zau fs prim bf n) (EV fs prim bf):=fun _ _ _ _ h=>ZdD.2 ⟨n,h⟩
theorem up{n m:Nat}(h:n<=m):OLe (Zau fs prim bf n) (Zau fs prim bf m):=ZjL fs prim h
theorem ZHy{f:Nat}{g:List AVal->Za->Option (AVal×Za)}(hp:prim f=some g)(args:List AVal)(G:Za):EV fs prim bf f args G=g args G:=by
 apply Zgq
 intro r
 rw[ZdD]
 constructor
 ·rintro⟨n,h⟩
  cases n with
  |zero=>simp only[Zau]at h;cases h
  |succ n=>rw[Zau,hp]at h;exact h
 ·intro h
  exact⟨1,by rw[Zau,hp];exact h⟩
theorem ZyL{f:Nat}{fn:ZM}(hp:prim f=none)(hf:fs f=some fn)(args:List AVal)(G:Za):EV fs prim bf f args G=Zax G.length fn (evC fs prim bf G.length fn.body (enterA 0 args []) G):=by
 apply Zgq
 intro r
 rw[ZdD]
 constructor
 ·rintro⟨n,h⟩
  cases n with
  |zero=>simp only[Zau]at h;cases h
  |succ n =>
   rw[Zau,hp,hf]at h
   exact ZkB (fun q hq=>Zbs.2 ⟨n,hq⟩) h
 ·intro h
  cases hx:evC fs prim bf G.length fn.body (enterA 0 args []) G with
  |none=>rw[hx]at h;simp only[Zax]at h;cases h
  |some q =>
   obtain⟨n,hn⟩:=Zbs.1 hx
   refine⟨n+1,?_⟩
   rw[Zau,hp,hf]
   rw[hx]at h
   exact ZkB (x:=some q) (fun q' hq'=>by injection hq' with hq';subst hq';exact hn) h
theorem Zw1{G:Za}{sq f own:Nat}{view:Bool}{args:List AVal}{r:AVal×Za×Cls}(h:Zq (EV fs prim bf) bf G sq f own view args=some r):∃ n,Zq (Zau fs prim bf n) bf G sq f own view args=some r:=by
 unfold Zq Zbk at h⊢
 split at h
 ·cases h
 ·rename_i vs ts us md hv
  split at h
  ·rename_i hc
   simp only[hc,if_true]
   cases hx:EV fs prim bf f (Zj (Zn (Zv G ts) 0 (Zt (Zv G ts) 1000 (Zl vs) [])) vs) (Zo (Zv G ts) 0 (Zt (Zv G ts) 1000 (Zl vs) []) (Zn (Zv G ts) 0 (Zt (Zv G ts) 1000 (Zl vs) [])) (Zt (Zv G ts) 1000 (Zl vs) []) 0)with
   |none =>
    rw[hx,Zz3]at h
    cases view<;>simp[ZV,ZbR,Zaz]at h
   |some q =>
    obtain⟨n,hn⟩:=ZdD.1 hx
    grind
  ·cases h
theorem ZEe{tm:Tms}{G:Za}{sq:Nat}{ins:Ins}{r:AVal×Za×Cls}(h:execI (EV fs prim bf) bf tm G sq ins=some r):∃ n,execI (Zau fs prim bf n) bf tm G sq ins=some r:=by
 cases ins
 case call f own view args =>
  simp only[execI]at h⊢
  exact Zw1 h
 case callv x args =>
  simp only[execI]at h⊢
  split at h
  ·exact Zw1 h
  ·cases h
 all_goals exact⟨0,h⟩
theorem ZAn{o:AOp}{tm:Tms}{G:Za}{sq:Nat}{r:AVal×Tms×Za×Cls}(h:ZW (EV fs prim bf) bf o sq tm G=some r):∃ n,ZW (Zau fs prim bf n) bf o sq tm G=some r:=by
 unfold ZW at h⊢
 split at h
 ·cases h
 ·exact⟨0,h⟩
 ·split at h
  ·rename_i hf
   simp only[hf,if_true]
   split at h
   ·rename_i he
    obtain⟨n,hn⟩:=ZEe he
    grind
   ·cases h
  ·cases h
theorem ZwF:∀ {ops:List AOp} {s:Nat} {tm:Tms} {G:Za} {r:Tms×Za×List Cls×Option AVal},Zac (EV fs prim bf) bf ops s tm G=some r->∃ n,Zac (Zau fs prim bf n) bf ops s tm G=some r
 | [],_,_,_,_,h=>⟨0,h⟩
 |o::ops,s,tm,G,r,h=>by
  simp only[Zac]at h⊢
  split at h
  ·cases h
  ·rename_i h1
   obtain⟨n,hn⟩:=ZAn h1
   grind
  rename_i v tm1 G1 c hnp h1
  split at h
  ·cases h
  rename_i h2
  obtain⟨n,hn⟩:=ZAn h1
  obtain⟨m,hm⟩:=ZwF h2
  refine⟨max n m,?_⟩
  rw[ZqR (up (WZ n m)) hn]
  simp only
  rw[ZsM (up (WS n m)) hm]
  exact h
theorem ZRU{ops:List AOp}{chk:Option (List (Nat×Nat))}{live:List Nat}{tm:Tms}{G:Za}{r:Za6×Tms×Za}(h:Zcq (EV fs prim bf) bf ops chk live tm G=some r):∃ n,Zcq (Zau fs prim bf n) bf ops chk live tm G=some r:=by
 unfold Zcq at h⊢
 cases hx:Zac (EV fs prim bf) bf ops G.length tm (G++XI (sitesOf ops) .free)with
 |none=>rw[hx]at h;simp only[ZdH]at h;cases h
 |some q =>
  obtain⟨n,hn⟩:=ZwF hx
  grind
theorem ZSR(tm:Tms)(G:Za):evC fs prim bf m0 .skip tm G=some (.normal,tm,G):=Zbs.2 ⟨0,rfl⟩
theorem ZQu(id:Nat)(tm:Tms)(G:Za):evC fs prim bf m0 (.exit id) tm G=some (.exit id,tm,G):=Zbs.2 ⟨0,rfl⟩
theorem ZQm(tm:Tms)(G:Za):evC fs prim bf m0 .ret tm G=some (.ret,tm,G):=Zbs.2 ⟨0,rfl⟩
theorem ZCt{ops:List AOp}{chk:Option (List (Nat×Nat))}{live:List Nat}{tm:Tms}{G:Za}:evC fs prim bf m0 (.region ops chk live) tm G=Zcq (EV fs prim bf) bf ops chk live tm G:=by
 apply Zgq
 intro r
 rw[Zbs]
 constructor
 ·rintro⟨n,hn⟩
  simp only[Zam]at hn
  exact Zx5 (ZL1 n) hn
 ·intro h
  obtain⟨n,hn⟩:=ZRU h
  exact⟨n,by simp only[Zam];exact hn⟩
theorem Zb3{a b:Zf}{tm tm':Tms}{G G':Za}(h:evC fs prim bf m0 a tm G=some (.normal,tm',G')):evC fs prim bf m0 (.seq a b) tm G=evC fs prim bf m0 b tm' G':=by
 obtain⟨n,hn⟩:=Zbs.1 h
 apply Zgq
 intro r
 rw[Zbs,Zbs]
 constructor
 ·rintro⟨m,hm⟩
  have h1:=Zec (up (WZ n m)) (WZ n m) hn
  have h2:=Zec (up (WS n m)) (WS n m) hm
  simp only[Zam,h1]at h2
  grind
 ·rintro⟨m,hm⟩
  have h1:=Zec (up (WZ n m)) (WZ n m) hn
  have h2:=Zec (up (WS n m)) (WS n m) hm
  exact⟨max n m,by simp only[Zam,h1];exact h2⟩
theorem Zfr{a b:Zf}{tm tm':Tms}{G G':Za}{e:Za6}(he:e≠.normal)(h:evC fs prim bf m0 a tm G=some (e,tm',G')):evC fs prim bf m0 (.seq a b) tm G=some (e,tm',G'):=by
 obtain⟨n,hn⟩:=Zbs.1 h
 refine Zbs.2 ⟨n,?_⟩
 simp only[Zam,hn]
 grind
def Zbm(id:Nat):Za6×Tms×Za->Za6×Tms×Za
 |(.exit i,tm,G)=>if i=id then(.normal,tm,G)else(.exit i,tm,G)
 |r=>r
theorem ZR6{id:Nat}{c:Zf}{tm:Tms}{G:Za}:evC fs prim bf m0 (.block id c) tm G=(evC fs prim bf m0 c tm G).map (Zbm id):=by
 have step:∀ n,Zam (Zau fs prim bf n) bf m0 n (.block id c) tm G=(Zam (Zau fs prim bf n) bf m0 n c tm G).map (Zbm id):=by
  intro n
  simp only[Zam]
  cases Zam (Zau fs prim bf n) bf m0 n c tm G with
  |none=>rfl
  |some q =>
   obtain⟨e,tm1,G1⟩:=q
   cases e with
   |normal=>rfl
   |ret=>rfl
   |panic x=>rfl
   |exit i=>simp only[X9,Zbm];grind
 apply Zgq;intro r
 rw[Zbs]
 simp only[step,Xo]
 constructor
 ·rintro⟨n,q,h1,h2⟩;exact⟨q,Zbs.2 ⟨n,h1⟩,h2⟩
 ·rintro⟨q,h1,h2⟩;obtain⟨n,hn⟩:=Zbs.1 h1;grind
theorem ZHc{c:Zf}{tm:Tms}{G:Za}(h:evC fs prim bf m0 c tm G=none)(n:Nat):Zam (Zau fs prim bf n) bf m0 n c tm G=none:=by
 cases hx:Zam (Zau fs prim bf n) bf m0 n c tm G with
 |none=>rfl
 |some r=>rw[Zbs.2 ⟨n,hx⟩]at h;cases h
variable (fs prim bf m0)in
noncomputable def Zb0(b:Zf):Option (Za6×Tms×Za)->Option (Za6×Tms×Za)
 |some (.normal,tm,G)=>evC fs prim bf m0 b tm G
 |r=>r
theorem Zwm{a b:Zf}{tm:Tms}{G:Za}:evC fs prim bf m0 (.seq a b) tm G=Zb0 fs prim bf m0 b (evC fs prim bf m0 a tm G):=by
 cases h:evC fs prim bf m0 a tm G with
 |none =>
  simp only[Zb0]
  apply Zgq;intro r
  rw[Zbs]
  constructor
  ·rintro⟨n,hn⟩
   simp only[Zam,ZHc h n]at hn
   cases hn
  grind
 |some q =>
  obtain⟨e,tm',G'⟩:=q
  cases e with
  |normal=>exact Zb3 h
  |exit id=>exact Zfr (by simp) h
  |ret=>exact Zfr (by simp) h
  |panic x=>exact Zfr (by simp) h
variable (fs prim bf m0)in
noncomputable def Zkc(a b:Zf)(tm:Tms)(G:Za):AVal->Option (Za6×Tms×Za)
 | .bool true=>evC fs prim bf m0 a tm G
 | .bool false=>evC fs prim bf m0 b tm G
 |_=>none
theorem ZJx{c:Opd}{a b:Zf}{tm:Tms}{G:Za}:evC fs prim bf m0 (.cond c a b) tm G=Zkc fs prim bf m0 a b tm G (c.ev tm):=by
 apply Zgq;intro r
 rw[Zbs]
 simp only[Zam]
 constructor
 ·rintro⟨n,hn⟩
  split at hn
  ·rename_i e;rw[e];simp only[Zkc];exact Zbs.2 ⟨n,hn⟩
  ·rename_i e;rw[e];simp only[Zkc];exact Zbs.2 ⟨n,hn⟩
  ·cases hn
 ·intro h
  unfold Zkc at h
  split at h
  ·rename_i e;obtain⟨n,hn⟩:=Zbs.1 h;exact⟨n,by grind⟩
  ·rename_i e;obtain⟨n,hn⟩:=Zbs.1 h;exact⟨n,by grind⟩
  ·cases h
variable (fs prim bf m0)in
noncomputable def evL(live:List Nat)(c:Zf)(tm:Tms)(G:Za):Option (Za6×Tms×Za) :=
 match evC fs prim bf m0 c tm G with
 |some (.normal,tm',G')=>evC fs prim bf m0 (.loop live c) tm' G'
 |r=>r
theorem ZvY{live:List Nat}{c:Zf}{tm:Tms}{G:Za}:evC fs prim bf m0 (.loop live c) tm G=evL fs prim bf m0 live c (gcT m0 (keepL live tm) G).1 (gcT m0 (keepL live tm) G).2:=by
 apply Zgq;intro r
 rw[Zbs]
 constructor
 ·rintro⟨n,hn⟩
  simp only[Zam]at hn
  cases n with
  |zero=>simp only[Zeu]at hn;cases hn
  |succ k =>
   simp only[Zeu]at hn
   unfold evL
   cases hx:Zam (Zau fs prim bf (k+1)) bf m0 (k+1) c (gcT m0 (keepL live tm) G).1 (gcT m0 (keepL live tm) G).2 with
   |none=>grind
   |some q =>
    rw[Zbs.2 ⟨_,hx⟩]
    rw[hx]at hn
    obtain⟨e,tm',G'⟩:=q
    cases e with
    |normal =>
     simp only at hn ⊢
     exact Zbs.2 ⟨k+1,by simp only[Zam];exact ZmW (fun _ _ _ h=>h) (by omega) hn⟩
    |exit id=>exact hn
    |ret=>exact hn
    |panic x=>exact hn
 ·intro h
  unfold evL at h
  cases hx:evC fs prim bf m0 c (gcT m0 (keepL live tm) G).1 (gcT m0 (keepL live tm) G).2 with
  |none=>grind
  |some q =>
   rw[hx]at h
   obtain⟨n,hn⟩:=Zbs.1 hx
   obtain⟨e,tm',G'⟩:=q
   have out:e≠.normal->some (e,tm',G')=some r->∃ n,Zam (Zau fs prim bf n) bf m0 n (.loop live c) tm G=some r:=by
    intro he h
    refine⟨n+1,?_⟩
    have h1:=Zec (up (show n<=n+1 by omega)) (show n<=n+1 by omega) hn
    simp only[Zam,Zeu,h1]
    cases e with
    |normal=>grind
    |exit id=>exact h
    |ret=>exact h
    |panic x=>exact h
   cases e with
   |normal =>
    simp only at h
    obtain⟨m,hm⟩:=Zbs.1 h
    have h1:=Zec (up (show n<=max n m+1 by omega)) (show n<=max n m+1 by omega) hn
    have h2:=Zec (up (show m<=max n m+1 by omega)) (XH m) hm
    simp only[Zam]at h2
    refine⟨max n m+1,?_⟩
    simp only[Zam,Zeu,h1]
    exact ZmW (fun tm G r h=>Zec (fun _ _ _ _ h=>h) (by omega) h) (by omega) h2
   |exit id=>grind
   |ret=>grind
   |panic x=>grind
theorem ZNh{P:Program}(hm:P.follows .mixedOrders=true){prim:ZcR}(hP:ZmJ P prim)(ann:Nat->Ann)(bf:Nat->Bool):ZaM P (EV (ZkQ P ann) prim bf):=by
 intro f args G r G' h
 obtain⟨n,hn⟩:=ZdD.1 h
 exact ZpM hm hP ann bf n f args G r G' hn
end
end
section
open Go.RowKit
def ZyE:Tms×Za×List Cls×Option AVal->Tms×Za×Option AVal:=fun q=>(q.1,q.2.1,q.2.2.2)
def ZaY:AVal->Bool
 | .pan _=>true
 |_=>false
section
variable (O:ZS)(bf:Nat->Bool)
def exI(i:Ins)(s:Nat)(tm:Tms)(G:Za):Option (AVal×Za×Cls) :=
 if nsite i==0 ||freeAt G s then execI O bf tm G s i else none
def ZbD(ops:List AOp)(s:Nat)(tm:Tms)(G:Za):Option (Tms×Za×Option AVal):=(Zac O bf ops s tm G).map ZyE
def kN(d:Option Nat)(os:List AOp)(s:Nat)(tm:Tms):Option (AVal×Za×Cls)->Option (Tms×Za×Option AVal)
 |none=>none
 |some (v,G,_)=>if ZaY v then some (tput tm d v,G,some (ZaX v))else ZbD O bf os s (tput tm d v) G
def Zne(live:List Nat):Option (Tms×Za×Option AVal)->Option (Za6×Tms×Za)
 |none=>none
 |some (_,G,some x)=>some (.panic x,[],G)
 |some (tm,G,none)=>some (.normal,keepL live tm,G)
variable {O bf}
theorem Zy1(s:Nat)(tm:Tms)(G:Za):ZbD O bf [] s tm G=some (tm,G,none):=rfl
theorem Zj5{o:AOp}{os:List AOp}{s:Nat}{tm:Tms}{G:Za}(h:ZW O bf o s tm G=none):Zac O bf (o::os) s tm G=none:=by simp only[Zac,h]
theorem ZnO{o:AOp}{os:List AOp}{s:Nat}{tm tm1:Tms}{G G1:Za}{x:AVal}{c:Cls}(h:ZW O bf o s tm G=some (.pan x,tm1,G1,c)):Zac O bf (o::os) s tm G=some (tm1,G1,[c],some x):=by simp only[Zac,h]
theorem Zy7{o:AOp}{os:List AOp}{s:Nat}{tm tm1:Tms}{G G1:Za}{v:AVal}{c:Cls}(h:ZW O bf o s tm G=some (v,tm1,G1,c))(hn:ZaY v=false):Zac O bf (o::os) s tm G=(Zac O bf os (s+nsite o.ins) tm1 G1).map fun q=>(q.1,q.2.1,c::q.2.2.1,q.2.2.2):=by
 simp only[Zac,h]
 cases v<;>first
  |(simp[ZaY]at hn;done)
  |(simp only;cases Zac O bf os (s+nsite o.ins) tm1 G1<;>rfl)
theorem Zmw{o:AOp}{os:List AOp}{s:Nat}{tm:Tms}{G:Za}(h:ZW O bf o s tm G=none):ZbD O bf (o::os) s tm G=none:=by simp only[ZbD,Zj5 h,Option.map_none]
theorem ZpQ{o:AOp}{os:List AOp}{s:Nat}{tm tm1:Tms}{G G1:Za}{x:AVal}{c:Cls}(h:ZW O bf o s tm G=some (.pan x,tm1,G1,c)):ZbD O bf (o::os) s tm G=some (tm1,G1,some x):=by simp only[ZbD,ZnO h,X9,ZyE]
theorem Zoo{o:AOp}{os:List AOp}{s:Nat}{tm tm1:Tms}{G G1:Za}{v:AVal}{c:Cls}(h:ZW O bf o s tm G=some (v,tm1,G1,c))(hn:ZaY v=false):ZbD O bf (o::os) s tm G=ZbD O bf os (s+nsite o.ins) tm1 G1:=by
 simp only[ZbD,Zy7 h hn,Option.map_map]
 rfl
theorem Zmy{v:AVal}(h:ZaY v=true):∃ x,v=.pan x:=by
 cases v<;>first |exact⟨_,rfl⟩ |(simp[ZaY]at h;done)
theorem Zmc{d:Option Nat}{i:Ins}{af:List Nat}{s:Nat}{tm:Tms}{G:Za}:ZW O bf ⟨d,i,none,af⟩ s tm G=(exI O bf i s tm G).map fun q=>(q.1,tput tm d q.1,q.2.1,q.2.2):=by
 unfold ZW exI
 simp only[ZbM]
 grind
theorem Zpn(d:Option Nat)(i:Ins)(af:List Nat)(os:List AOp)(s:Nat)(tm:Tms)(G:Za):ZbD O bf (⟨d,i,none,af⟩::os) s tm G=kN O bf d os (s+nsite i) tm (exI O bf i s tm G):=by
 cases h:exI O bf i s tm G with
 |none=>exact Zmw (by rw[Zmc,h];rfl)
 |some q =>
  obtain⟨v,G1,c⟩:=q
  have hs:ZW O bf ⟨d,i,none,af⟩ s tm G=some (v,tput tm d v,G1,c):=by rw[Zmc,h];rfl
  cases hp:ZaY v with
  |true =>
   obtain⟨x,rfl⟩:=Zmy hp
   exact ZpQ hs
  |false =>
   rw[Zoo hs hp]
   simp only[kN,hp,Xi,if_false]
theorem ZHr(ops:List AOp)(live:List Nat)(tm:Tms)(G:Za):Zcq O bf ops none live tm G=Zne live (ZbD O bf ops G.length tm (G++XI (sitesOf ops) .free)):=by
 unfold Zcq ZbD
 cases Zac O bf ops G.length tm (G++XI (sitesOf ops) .free)with
 |none=>rfl
 |some q =>
  obtain⟨tm',G',cs,p⟩:=q
  cases p<;>rfl
theorem Zpl(d:Option Nat)(os:List AOp)(s:Nat)(tm:Tms)(v:AVal)(G:Za)(c:Cls)(h:ZaY v=false):kN O bf d os s tm (some (v,G,c))=ZbD O bf os s (tput tm d v) G:=by
 simp only[kN,h,Xi,if_false]
theorem ZRb(d:Option Nat)(os:List AOp)(s:Nat)(tm:Tms)(x:AVal)(G:Za)(c:Cls):kN O bf d os s tm (some (.pan x,G,c))=some (tput tm d (.pan x),G,some x):=rfl
theorem ZRi(d:Option Nat)(os:List AOp)(s:Nat)(tm:Tms):kN O bf d os s tm none=none:=rfl
structure GOp where
 guard:Option (Nat×Bool)
 ops:List AOp
def Z6:List AOp->Tms->Tms
 | [],tm=>tm
 |o::os,tm=>Z6 os (tput tm o.dst (.tup []))
def unG(o:AOp):AOp:={ o with guard:=none }
variable (O bf)in
def ZfM(j:Nat)(w:Bool)(g:List AOp)(s:Nat)(tm:Tms)(G:Za):Option (Tms×Za×Option AVal):=match ZbM (some (j,w)) tm with
 |none=>none
 |some false=>some (Z6 g tm,G,none)
 |some true=>ZbD O bf (g.map unG) s tm G
variable (O bf)in
def gK(os:List AOp)(s:Nat):Option (Tms×Za×Option AVal)->Option (Tms×Za×Option AVal)
 |none=>none
 |some (tm,G,some x)=>some (tm,G,some x)
 |some (tm,G,none)=>ZbD O bf os s tm G
def Zy(j:Nat)(w:Bool):List AOp->List AOp×List AOp
 | []=>([],[])
 |o::os=>match o.guard with
  |some (j',w')=>if j'=j/\w'=w/\o.dst≠some j then((o::(Zy j w os).1),(Zy j w os).2)else([],o::os)
  |none=>([],o::os)
theorem ZsP(j:Nat)(w:Bool):∀ os,(Zy j w os).1++(Zy j w os).2=os
 | []=>rfl
 |o::os=>by
  simp only[Zy]
  split
  ·split
   ·simp[ZsP j w os]
   ·rfl
  ·rfl
theorem Zue(j:Nat)(w:Bool):∀ os,∀ o∈(Zy j w os).1,o.guard=some (j,w)/\o.dst≠some j
 | []=>by simp[Zy]
 |o::os=>by
  intro o' ho
  simp only[Zy]at ho
  split at ho
  ·rename_i j' w' hg
   split at ho
   ·rename_i hc
    rcases X0.1 ho with rfl |ho
    ·grind
    ·exact Zue j w os o' ho
   grind
  grind
theorem ZFz{d:Option Nat}{v:AVal}{n:Nat}{tm:Tms}(h:d≠some n):tget (tput tm d v) n=tget tm n:=by
 cases d with
 |none=>rfl
 |some d =>
  have : d≠n:=by rintro rfl;exact h rfl
  simp only[tput,ZnP,this,if_false]
theorem Zhb{d:Option Nat}{v:AVal}{j:Nat}{w:Bool}{tm:Tms}(h:d≠some j):ZbM (some (j,w)) (tput tm d v)=ZbM (some (j,w)) tm:=by
 simp only[ZbM,ZFz h]
theorem Zwt:∀ (a b:List AOp) (s:Nat) (tm:Tms) (G:Za),ZbD O bf (a++b) s tm G=gK O bf b (s+sitesOf a) (ZbD O bf a s tm G)
 | [],b,s,tm,G=>by simp[Zy1,gK,sitesOf]
 |o::a,b,s,tm,G=>by
  have ih:=Zwt a b
  simp only[XJ]
  have hs:s+nsite o.ins+sitesOf a=s+sitesOf (o::a):=by simp[sitesOf,XaQ]
  cases hst:ZW O bf o s tm G with
  |none=>rw[Zmw hst,Zmw hst];rfl
  |some q =>
   obtain⟨v,tm1,G1,c⟩:=q
   cases hp:ZaY v with
   |true =>
    obtain⟨x,rfl⟩:=Zmy hp
    rw[ZpQ hst,ZpQ hst];rfl
   |false=>rw[Zoo hst hp,Zoo hst hp,ih,hs]
theorem Zxk(j:Nat)(w:Bool):∀ (g:List AOp),(∀ o∈g,o.guard=some (j,w)/\o.dst≠some j)->∀ (s:Nat) (tm:Tms) (G:Za),g≠[]->ZbD O bf g s tm G=ZfM O bf j w g s tm G
 | [],_,_,_,_,h=>absurd rfl h
 |o::g,hall,s,tm,G,_=>by
  obtain⟨hg,hd⟩:=hall o (by simp)
  have ih:∀ (tm:Tms) (G:Za) (s:Nat),ZbM (some (j,w)) tm≠none->ZbD O bf g s tm G=ZfM O bf j w g s tm G:=by
   intro tm G s hw
   by_cases he:g=[]
   ·subst he
    unfold ZfM
    cases hx:ZbM (some (j,w)) tm with
    |none=>grind
    |some b=>cases b<;>rfl
   ·exact Zxk j w g (fun o ho=>hall o (by simp[ho])) s tm G he
  cases hx:ZbM (some (j,w)) tm with
  |none =>
   rw[Zmw (by simp only[ZW,hg,hx])]
   simp only[ZfM,hx]
  |some b =>
   cases b with
   |false =>
    have h1:ZbD O bf (o::g) s tm G=ZbD O bf g (s+nsite o.ins) (tput tm o.dst (.tup [])) G :=
     Zoo (v:=.tup []) (c:={}) (by simp only[ZW,hg,hx]) rfl
    rw[h1,ih _ _ _ (by rw[Zhb hd,hx];simp)]
    unfold ZfM
    rw[Zhb hd,hx]
    rfl
   |true =>
    have key:∀ r:Option (AVal×Za×Cls),(∀ v G' c,r=some (v,G',c)->ZaY v=false->ZbD O bf g (s+nsite o.ins) (tput tm o.dst v) G'=ZbD O bf (g.map unG) (s+nsite o.ins) (tput tm o.dst v) G')->kN O bf o.dst g (s+nsite o.ins) tm r=kN O bf o.dst (g.map unG) (s+nsite o.ins) tm r:=by
     intro r hr
     cases r with
     |none=>rfl
     |some q =>
      obtain⟨v,G',c⟩:=q
      cases hp:ZaY v with
      |true=>simp only[kN,hp,if_true]
      |false=>rw[Zpl _ _ _ _ _ _ _ hp,Zpl _ _ _ _ _ _ _ hp];exact hr v G' c rfl hp
    have h1:ZbD O bf (o::g) s tm G=kN O bf o.dst g (s+nsite o.ins) tm (exI O bf o.ins s tm G):=by
     have h0:ZbD O bf (o::g) s tm G=ZbD O bf (⟨o.dst,o.ins,none,o.after⟩::g) s tm G:=by
      have hst:ZW O bf o s tm G=ZW O bf ⟨o.dst,o.ins,none,o.after⟩ s tm G:=by
       unfold ZW
       simp only[hg,hx]
       rfl
      unfold ZbD
      simp only[Zac,hst]
     rw[h0,Zpn]
    rw[h1]
    unfold ZfM
    rw[hx]
    simp only[Xu]
    rw[show unG o=⟨o.dst,o.ins,none,o.after⟩from rfl,Zpn]
    refine key _ fun v G' c _ _=>?_
    rw[ih _ _ _ (by rw[Zhb hd,hx];simp)]
    unfold ZfM
    rw[Zhb hd,hx]
theorem ZO8(d:Option Nat)(i:Ins)(j:Nat)(w:Bool)(af:List Nat)(os:List AOp)(s:Nat)(tm:Tms)(G:Za)(hd:decide (d=some j)=false) :
  ZbD O bf (⟨d,i,some (j,w),af⟩::os) s tm G=gK O bf (Zy j w os).2 (s+sitesOf (⟨d,i,some (j,w),af⟩::(Zy j w os).1)) (ZfM O bf j w (⟨d,i,some (j,w),af⟩::(Zy j w os).1) s tm G):=by
 have h:=ZsP j w os
 have hall:∀ o∈(⟨d,i,some (j,w),af⟩::(Zy j w os).1:List AOp),o.guard=some (j,w)/\o.dst≠some j:=by
  intro o ho
  rcases X0.1 ho with rfl |ho
  ·grind
  ·exact Zue j w os o ho
 rw[<-Zxk j w _ hall s tm G (by simp),<-Zwt,XJ,h]
variable (O bf)in
def gW(w:Bool)(g:List AOp)(s:Nat)(tm:Tms)(G:Za):AVal->Option (Tms×Za×Option AVal)
 | .bool b=>if b=w then ZbD O bf (g.map unG) s tm G else some (Z6 g tm,G,none)
 | .tup []=>some (Z6 g tm,G,none)
 |_=>none
theorem ZKG(j:Nat)(w:Bool)(g:List AOp)(s:Nat)(tm:Tms)(G:Za):ZfM O bf j w g s tm G=gW O bf w g s tm G (tget tm j):=by
 unfold ZfM ZbM
 simp only
 generalize tget tm j=v
 cases v
 case bool b=>cases b<;>cases w<;>rfl
 case tup vs=>cases vs<;>rfl
 all_goals rfl
theorem ZBS(w:Bool)(g:List AOp)(s:Nat)(tm:Tms)(G:Za)(b:Bool):gW O bf w g s tm G (.bool b)=if b=w then ZbD O bf (g.map unG) s tm G else some (Z6 g tm,G,none):=rfl
theorem ZNy(w:Bool)(g:List AOp)(s:Nat)(tm:Tms)(G:Za):gW O bf w g s tm G (.tup [])=some (Z6 g tm,G,none):=rfl
theorem ZCD(os:List AOp)(s:Nat)(tm:Tms)(G:Za):gK O bf os s (some (tm,G,none))=ZbD O bf os s tm G:=rfl
end
section
variable (c:Prop)[Decidable c]
theorem Zdk{D:Type}(a b:D)(x y:List D):(if c then a::x else b::y)=(if c then a else b)::(if c then x else y):=by split<;>rfl
theorem ZRG(k:IntKind)(a b:Int):(if c then AVal.int k a else AVal.int k b)=AVal.int k (if c then a else b):=by split<;>rfl
theorem ZFI(a b:Bool):(if c then AVal.bool a else AVal.bool b)=AVal.bool (if c then a else b):=by split<;>rfl
theorem ZSw(a b:List UInt8):(if c then AVal.str a else AVal.str b)=AVal.str (if c then a else b):=by split<;>rfl
theorem ZTH(p q:Bool)(a b:List AVal):(if c then AVal.lst p a else AVal.lst q b)=AVal.lst (if c then p else q) (if c then a else b):=by split<;>rfl
theorem ZHM(a b:List AVal):(if c then AVal.agg a else AVal.agg b)=AVal.agg (if c then a else b):=by split<;>rfl
theorem ZNK(a b:List AVal):(if c then ZP.var a else ZP.var b)=ZP.var (if c then a else b):=by split<;>rfl
theorem ZE2(g k:Nat)(a b:List AVal):(if c then ZP.row g k a else ZP.row g k b)=ZP.row g k (if c then a else b):=by split<;>rfl
theorem ZTD(t:Nat)(a b:Nat):(if c then AVal.ref t a else AVal.ref t b)=AVal.ref t (if c then a else b):=by split<;>rfl
theorem ZzT{D:Type}(x y z:D):(if c then(if c then x else y)else z)=if c then x else z:=by split<;>rfl
theorem ZLQ(G:Za)(a b:AVal)(p:Bool):Zhh G a b (.bool p)=some (if p=true then a else b,G,{}):=by cases p<;>rfl
theorem ZQt(a b:AVal):ZaY (if c then a else b)=if c then ZaY a else ZaY b:=by split<;>rfl
end
section
variable {fs:Nat->Option ZM}{prim:ZcR}{bf:Nat->Bool}{m0:Nat}
theorem ZCn(p:Bool)(a b:Zf)(tm:Tms)(G:Za):Zkc fs prim bf m0 a b tm G (.bool p)=if p=true then evC fs prim bf m0 a tm G else evC fs prim bf m0 b tm G:=by
 cases p<;>rfl
theorem ZAd(b:Zf)(tm:Tms)(G:Za):Zb0 fs prim bf m0 b (some (.normal,tm,G))=evC fs prim bf m0 b tm G:=rfl
theorem ZvP(b:Zf)(i:Nat)(tm:Tms)(G:Za):Zb0 fs prim bf m0 b (some (.exit i,tm,G))=some (.exit i,tm,G):=rfl
theorem ZwI(b:Zf)(tm:Tms)(G:Za):Zb0 fs prim bf m0 b (some (.ret,tm,G))=some (.ret,tm,G):=rfl
theorem ZuV(b:Zf)(x:AVal)(tm:Tms)(G:Za):Zb0 fs prim bf m0 b (some (.panic x,tm,G))=some (.panic x,tm,G):=rfl
theorem ZH3(c:Prop)[Decidable c](b:Zf)(x y:Option (Za6×Tms×Za)):Zb0 fs prim bf m0 b (if c then x else y)=if c then Zb0 fs prim bf m0 b x else Zb0 fs prim bf m0 b y:=by split<;>rfl
theorem ZBu(id:Nat)(tm:Tms)(G:Za):Wf (Zbm id) (some (.normal,tm,G))=some (.normal,tm,G):=rfl
theorem ZKr(id i:Nat)(tm:Tms)(G:Za):Wf (Zbm id) (some (.exit i,tm,G))=if i=id then some (.normal,tm,G)else some (.exit i,tm,G):=by
 simp only[X9,Zbm];split<;>rfl
theorem ZTO(id:Nat)(tm:Tms)(G:Za):Wf (Zbm id) (some (.ret,tm,G))=some (.ret,tm,G):=rfl
theorem ZLk(id:Nat)(x:AVal)(tm:Tms)(G:Za):Wf (Zbm id) (some (.panic x,tm,G))=some (.panic x,tm,G):=rfl
theorem ZKB(id:Nat)(c:Prop)[Decidable c](x y:Option (Za6×Tms×Za)):Wf (Zbm id) (if c then x else y)=if c then Wf (Zbm id) x else Wf (Zbm id) y:=by split<;>rfl
theorem ZGc(m:Nat)(fn:ZM)(c:Prop)[Decidable c](x y:Option (Za6×Tms×Za)):Zax m fn (if c then x else y)=if c then Zax m fn x else Zax m fn y:=by split<;>rfl
end
section
variable {fs:Nat->Option ZM}{prim:ZcR}{bf:Nat->Bool}{m0:Nat}
theorem Zh8{live:List Nat}{c:Zf}{tm tm':Tms}{G G':Za}(h:evC fs prim bf m0 c tm G=some (.normal,tm',G')):evL fs prim bf m0 live c tm G=evL fs prim bf m0 live c (gcT m0 (keepL live tm') G').1 (gcT m0 (keepL live tm') G').2:=by
 unfold evL
 rw[h]
 simp only
 rw[ZvY]
 rfl
theorem ZR4{live:List Nat}{c:Zf}{tm tm':Tms}{G G':Za}{i:Nat}(h:evC fs prim bf m0 c tm G=some (.exit i,tm',G')):evL fs prim bf m0 live c tm G=some (.exit i,tm',G'):=by
 unfold evL;rw[h]
theorem ZUX{live:List Nat}{c:Zf}{tm tm':Tms}{G G':Za}(h:evC fs prim bf m0 c tm G=some (.ret,tm',G')):evL fs prim bf m0 live c tm G=some (.ret,tm',G'):=by
 unfold evL;rw[h]
variable (fs prim bf m0)in
noncomputable def evM(live:List Nat)(c:Zf):Option (Za6×Tms×Za)->Option (Za6×Tms×Za)
 |some (.normal,tm,G)=>evL fs prim bf m0 live c (gcT m0 (keepL live tm) G).1 (gcT m0 (keepL live tm) G).2
 |r=>r
theorem Z9(live:List Nat)(c:Zf)(tm:Tms)(G:Za):evL fs prim bf m0 live c tm G=evM fs prim bf m0 live c (evC fs prim bf m0 c tm G):=by
 cases h:evC fs prim bf m0 c tm G with
 |none=>unfold evL;rw[h];rfl
 |some q =>
  obtain⟨e,tm',G'⟩:=q
  cases e with
  |normal=>exact Zh8 h
  |exit i=>exact ZR4 h
  |ret=>exact ZUX h
  |panic x=>unfold evL;rw[h];rfl
theorem ZRf(live:List Nat)(c:Zf)(tm:Tms)(G:Za):evM fs prim bf m0 live c (some (.normal,tm,G))=evL fs prim bf m0 live c (gcT m0 (keepL live tm) G).1 (gcT m0 (keepL live tm) G).2:=rfl
theorem ZOs(live:List Nat)(c:Zf)(i:Nat)(tm:Tms)(G:Za):evM fs prim bf m0 live c (some (.exit i,tm,G))=some (.exit i,tm,G):=rfl
theorem ZSu(live:List Nat)(c:Zf)(tm:Tms)(G:Za):evM fs prim bf m0 live c (some (.ret,tm,G))=some (.ret,tm,G):=rfl
theorem ZDn(live:List Nat)(c:Zf)(x:AVal)(tm:Tms)(G:Za):evM fs prim bf m0 live c (some (.panic x,tm,G))=some (.panic x,tm,G):=rfl
theorem ZOR(live:List Nat)(b:Zf)(c:Prop)[Decidable c](x y:Option (Za6×Tms×Za)):evM fs prim bf m0 live b (if c then x else y)=if c then evM fs prim bf m0 live b x else evM fs prim bf m0 live b y:=by split<;>rfl
end
def ZaW:AVal->Bool
 | .int _ _=>true
 | .bool _=>true
 | .str _=>true
 | .nilp=>true
 | .nilm=>true
 | .nili=>true
 | .lst _ _=>true
 | .fn _ []=>true
 |_=>false
def Zai:AVal->Bool
 | .agg cs=>cs.all ZaW
 |x=>ZaW x
def Zbv:AVal->AVal
 | .lst _ xs=>.lst false xs
 |x=>x
def Z1:AVal->AVal
 | .agg cs=>.agg (cs.map Zbv)
 |x=>Zbv x
theorem ZxH{G:Za}{x:AVal}(h:ZaW x=true):Zcu G x=some (Zbv x,[]):=by
 cases x<;>first |(simp[ZaW]at h;done) |rfl
theorem Zvy{G:Za}:∀ {xs:List AVal},xs.all ZaW=true->ZcJ G xs=some (xs.map Zbv,[])
 | [],_=>rfl
 |x::xs,h=>by
  simp only[XW,Xk]at h
  simp only[ZcJ,ZxH h.1,Zvy h.2,Xu,Xr]
theorem Zjh{x:AVal}(h:∀ cs,x≠.agg cs):Zai x=ZaW x/\Z1 x=Zbv x:=by
 cases x<;>first |exact⟨rfl,rfl⟩ |grind
theorem ZCC{G:Za}{x:AVal}(h:∀ cs,x≠.agg cs):showA G x=Zcu G x:=by
 cases x<;>first |rfl |grind
theorem ZrL(x:AVal):(∃ cs,x=.agg cs)\/∀ cs,x≠.agg cs:=by
 cases x<;>grind
theorem ZFV{G:Za}{x:AVal}(h:Zai x=true):showA G x=some (Z1 x,[]):=by
 rcases ZrL x with⟨cs,rfl⟩ |hn
 ·simp only[Zai]at h
  simp only[showA,Zvy h,Z1]
 ·rw[(Zjh hn).1]at h
  rw[ZCC hn,(Zjh hn).2]
  exact ZxH h
theorem Zeg{G:Za}:∀ {xs:List AVal},xs.all Zai=true->showAs G xs=some (xs.map Z1,[])
 | [],_=>rfl
 |x::xs,h=>by
  simp only[XW,Xk]at h
  simp only[showAs,ZFV h.1,Zeg h.2,Xu,Xr]
theorem Zyl{x:AVal}(h:ZaW x=true):ZH (Zbv x)=[]:=by
 cases x
 case fn f cs=>cases cs<;>simp[ZaW]at h;rfl
 all_goals first |(simp[ZaW]at h;done) |rfl
theorem ZvW:∀ {xs:List AVal},xs.all ZaW=true->Zl (xs.map Zbv)=[]
 | [],_=>rfl
 |x::xs,h=>by
  simp only[XW,Xk]at h
  simp only[Xu,Zl,Zyl h.1,ZvW h.2,Xr]
theorem ZAm{x:AVal}(h:Zai x=true):ZH (Z1 x)=[]:=by
 rcases ZrL x with⟨cs,rfl⟩ |hn
 ·simp only[Zai]at h
  simp only[Z1,ZH];exact ZvW h
 ·rw[(Zjh hn).1]at h
  rw[(Zjh hn).2];exact Zyl h
theorem Zd8:∀ {xs:List AVal},xs.all Zai=true->Zl (xs.map Z1)=[]
 | [],_=>rfl
 |x::xs,h=>by
  simp only[XW,Xk]at h
  simp only[Xu,Zl,ZAm h.1,Zd8 h.2,Xr]
theorem Zz7{C:Rho}{x:AVal}(h:ZaW x=true):Zp C (Zbv x)=Zbv x:=by
 cases x
 case fn f cs=>cases cs<;>simp[ZaW]at h;rfl
 all_goals first |(simp[ZaW]at h;done) |rfl
theorem Zv9{C:Rho}:∀ {xs:List AVal},xs.all ZaW=true->Zj C (xs.map Zbv)=xs.map Zbv
 | [],_=>rfl
 |x::xs,h=>by
  simp only[XW,Xk]at h
  simp only[Xu,Zj,Zz7 h.1,Zv9 h.2]
theorem ZxA{C:Rho}{x:AVal}(h:Zai x=true):Zp C (Z1 x)=Z1 x:=by
 rcases ZrL x with⟨cs,rfl⟩ |hn
 ·simp only[Zai]at h
  simp only[Z1,Zp];rw[Zv9 h]
 ·rw[(Zjh hn).1]at h
  rw[(Zjh hn).2];exact Zz7 h
theorem ZdV{C:Rho}:∀ {xs:List AVal},xs.all Zai=true->Zj C (xs.map Z1)=xs.map Z1
 | [],_=>rfl
 |x::xs,h=>by
  simp only[XW,Xk]at h
  simp only[Xu,Zj,ZxA h.1,ZdV h.2]
theorem ZH0{x:AVal}(h:Zai x=true):Zcx (Z1 x)=false:=by
 have one:∀ {c:AVal},ZaW c=true->Zg6 (Zbv c)=false:=fun{c} hc=>by cases c<;>first |rfl |(simp[ZaW]at hc)
 cases x with
 |agg cs =>
  simp only[Zai]at h
  simp only[Z1,Zcx]
  grind
 |_=>first |rfl |(simp[Zai,ZaW]at h)
theorem ZcG{xs:List AVal}(h:xs.all Zai=true):(xs.map Z1).any Zcx=false:=by
 rw[Xar]
 intro c hc
 obtain⟨c0,h0,rfl⟩:=X7.1 hc
 rw[ZH0 (Xy.1 h c0 h0)]
 exact Xan
theorem ZF5{x:AVal}(h:Zai x=true):Zcx x=false:=by
 cases x with
 |agg cs =>
  simp only[Zai]at h
  simp only[Zcx]
  rw[Xar]
  intro c hc
  have:=Xy.1 h c hc
  cases c<;>first |exact Xan |(simp[ZaW]at this)
 |_=>first |rfl |(simp[Zai,ZaW]at h)
theorem Zew{xs:List AVal}(h:xs.all Zai=true):xs.any Zcx=false:=by
 rw[Xar]
 intro c hc
 rw[ZF5 (Xy.1 h c hc)]
 exact Xan
theorem Zfx{bf:Nat->Bool}{f:Nat}{G:Za}{args vs:List AVal}{ts:List Nat}(hb:bf f=false)(h:showAs G args=some (vs,ts))(hl:vs.any Zcx=false):Zbb bf f G args=some (vs,ts,ts,0):=by
 simp only[Zbb,hb,Xi,if_false,h,hl]
theorem ZwA{bf:Nat->Bool}{f:Nat}{G:Za}{args:List AVal}(hb:bf f=true)(h2:bf (f+2000000)=false)(h3:bf (f+3000000)=false):Zbb bf f G args=some (args,[],[],0):=by
 simp only[Zbb,hb,h2,h3,Wi,Xi,if_false,if_true]
theorem Zdo(x:Option (AVal×Za)):ZbV 0 x=x:=rfl
theorem Zg4{O:ZS}{bf:Nat->Bool}{G:Za}{sq f own:Nat}{view:Bool}{args:List AVal}(hb:bf f=false)(h:args.all Zai=true) :
  Zq O bf G sq f own view args=Zaz G G [] [] sq own (ZV view 0 (O f (args.map Z1) [])):=by
 unfold Zq
 rw[Zfx hb (Zeg h) (ZcG h)]
 simp only
 have h1:Zv G []=G:=rfl
 rw[h1,Zd8 h]
 have h2:Zt G 1000 [] []=[]:=rfl
 rw[h2]
 unfold Zbk
 simp only[XX,if_true,ZdV h,Zo,Xw,Zdo]
theorem ZfJ(G:Za)(sq own:Nat)(r:AVal)(h:Zp (Zak [] [] sq) r=r):Zaz G G [] [] sq own (some (r,[]))=some (r,G,{}):=by
 simp only[Zaz,X8,XT,if_true,Zda,Xa0,Wi,Xi,if_false]
 grind
end
section
section
variable (C:Rho)(G:Za)
theorem ZOv  : ZaY (.top)=false:=rfl
theorem ZFS  : ZaY (.any)=false:=rfl
theorem ZEE(k:IntKind)(n:Int):ZaY (.int k n)=false:=rfl
theorem ZPr(b:Bool):ZaY (.bool b)=false:=rfl
theorem ZNt(l:List UInt8):ZaY (.str l)=false:=rfl
theorem ZJq  : ZaY (.nilp)=false:=rfl
theorem ZD3(t:Nat)(o:Nat):ZaY (.ref t o)=false:=rfl
theorem ZCS(t:Nat)(g:Nat)(i:Nat)(o:Nat):ZaY (.eref t g i o)=false:=rfl
theorem ZGP(cs:List AVal)(o:Nat):ZaY (.iptr cs o)=false:=rfl
theorem ZUD(x:Bool)(xs:List AVal):ZaY (.lst x xs)=false:=rfl
theorem ZPD(t:Nat)(g:Nat)(lo:Nat)(n:Nat):ZaY (.sl t g lo n)=false:=rfl
theorem ZH4(cs:List AVal):ZaY (.agg cs)=false:=rfl
theorem ZO9(vs:List AVal):ZaY (.tup vs)=false:=rfl
theorem ZT1(f:Nat)(caps:List AVal):ZaY (.fn f caps)=false:=rfl
theorem ZUH  : ZaY (.nilm)=false:=rfl
theorem ZPe(t:Nat):ZaY (.map t)=false:=rfl
theorem ZJP  : ZaY (.nili)=false:=rfl
theorem ZLI(t:Nat)(x:AVal):ZaY (.iface t x)=false:=rfl
theorem ZLt(x:AVal):ZaY (.pan x)=true:=rfl
theorem ZJ7(l:List UInt8):ZaY (.lnt l)=false:=rfl
theorem ZJX  : ZY (.top)=false:=rfl
theorem ZEm  : ZY (.any)=true:=rfl
theorem ZKe(k:IntKind)(n:Int):ZY (.int k n)=true:=rfl
theorem ZAP(b:Bool):ZY (.bool b)=true:=rfl
theorem ZVh(l:List UInt8):ZY (.str l)=true:=rfl
theorem ZQ1  : ZY (.nilp)=true:=rfl
theorem ZUU(t:Nat)(o:Nat):ZY (.ref t o)=true:=rfl
theorem ZPj(t:Nat)(g:Nat)(i:Nat)(o:Nat):ZY (.eref t g i o)=true:=rfl
theorem ZEF(cs:List AVal)(o:Nat):ZY (.iptr cs o)=true:=rfl
theorem ZJj(x:Bool)(xs:List AVal):ZY (.lst x xs)=true:=rfl
theorem ZNc(t:Nat)(g:Nat)(lo:Nat)(n:Nat):ZY (.sl t g lo n)=true:=rfl
theorem ZFv(cs:List AVal):ZY (.agg cs)=false:=rfl
theorem ZBa(vs:List AVal):ZY (.tup vs)=false:=rfl
theorem ZO5(f:Nat)(caps:List AVal):ZY (.fn f caps)=true:=rfl
theorem ZJ5  : ZY (.nilm)=true:=rfl
theorem ZHv(t:Nat):ZY (.map t)=true:=rfl
theorem ZE3  : ZY (.nili)=true:=rfl
theorem ZIk(t:Nat)(x:AVal):ZY (.iface t x)=true:=rfl
theorem ZOV(x:AVal):ZY (.pan x)=false:=rfl
theorem ZQ7(l:List UInt8):ZY (.lnt l)=true:=rfl
theorem ZQb  : Zby (.top)=false:=rfl
theorem ZMQ  : Zby (.any)=true:=rfl
theorem ZNm(k:IntKind)(n:Int):Zby (.int k n)=true:=rfl
theorem ZPn(b:Bool):Zby (.bool b)=true:=rfl
theorem ZII(l:List UInt8):Zby (.str l)=true:=rfl
theorem ZOi  : Zby (.nilp)=true:=rfl
theorem ZTK(t:Nat)(o:Nat):Zby (.ref t o)=true:=rfl
theorem ZT2(t:Nat)(g:Nat)(i:Nat)(o:Nat):Zby (.eref t g i o)=true:=rfl
theorem ZEk(cs:List AVal)(o:Nat):Zby (.iptr cs o)=true:=rfl
theorem ZTd(x:Bool)(xs:List AVal):Zby (.lst x xs)=true:=rfl
theorem ZFa(t:Nat)(g:Nat)(lo:Nat)(n:Nat):Zby (.sl t g lo n)=true:=rfl
theorem ZM8(cs:List AVal):Zby (.agg cs)=true:=rfl
theorem ZCV(vs:List AVal):Zby (.tup vs)=true:=rfl
theorem ZQ0(f:Nat)(caps:List AVal):Zby (.fn f caps)=true:=rfl
theorem ZMw  : Zby (.nilm)=true:=rfl
theorem ZRg(t:Nat):Zby (.map t)=true:=rfl
theorem ZQG  : Zby (.nili)=true:=rfl
theorem ZDM(t:Nat)(x:AVal):Zby (.iface t x)=true:=rfl
theorem ZOk(x:AVal):Zby (.pan x)=true:=rfl
theorem ZB8(l:List UInt8):Zby (.lnt l)=true:=rfl
theorem ZM7  : ZaJ (.top)=false:=rfl
theorem ZFe  : ZaJ (.any)=false:=rfl
theorem ZOE(k:IntKind)(n:Int):ZaJ (.int k n)=true:=rfl
theorem ZQX(b:Bool):ZaJ (.bool b)=true:=rfl
theorem ZFZ(l:List UInt8):ZaJ (.str l)=true:=rfl
theorem ZPI  : ZaJ (.nilp)=true:=rfl
theorem ZJv(t:Nat)(o:Nat):ZaJ (.ref t o)=false:=rfl
theorem ZDl(t:Nat)(g:Nat)(i:Nat)(o:Nat):ZaJ (.eref t g i o)=false:=rfl
theorem ZIE(cs:List AVal)(o:Nat):ZaJ (.iptr cs o)=false:=rfl
theorem ZPd(x:Bool)(xs:List AVal):ZaJ (.lst x xs)=false:=rfl
theorem ZU7(t:Nat)(g:Nat)(lo:Nat)(n:Nat):ZaJ (.sl t g lo n)=false:=rfl
theorem ZMu(cs:List AVal):ZaJ (.agg cs)=false:=rfl
theorem ZEM(vs:List AVal):ZaJ (.tup vs)=false:=rfl
theorem ZEO(f:Nat)(caps:List AVal):ZaJ (.fn f caps)=false:=rfl
theorem ZHK  : ZaJ (.nilm)=true:=rfl
theorem ZNL(t:Nat):ZaJ (.map t)=false:=rfl
theorem ZJo  : ZaJ (.nili)=true:=rfl
theorem ZOH(t:Nat)(x:AVal):ZaJ (.iface t x)=false:=rfl
theorem ZDL(x:AVal):ZaJ (.pan x)=false:=rfl
theorem ZKD(l:List UInt8):ZaJ (.lnt l)=false:=rfl
theorem ZKE  : Za2 (.top)=false:=rfl
theorem ZGA  : Za2 (.any)=false:=rfl
theorem ZKl(k:IntKind)(n:Int):Za2 (.int k n)=true:=rfl
theorem ZHI(b:Bool):Za2 (.bool b)=true:=rfl
theorem ZCE(l:List UInt8):Za2 (.str l)=true:=rfl
theorem ZKw  : Za2 (.nilp)=true:=rfl
theorem ZFP(t:Nat)(o:Nat):Za2 (.ref t o)=false:=rfl
theorem ZIg(t:Nat)(g:Nat)(i:Nat)(o:Nat):Za2 (.eref t g i o)=false:=rfl
theorem ZBs(cs:List AVal)(o:Nat):Za2 (.iptr cs o)=false:=rfl
theorem ZLc(x:Bool)(xs:List AVal):Za2 (.lst x xs)=false:=rfl
theorem ZNR(t:Nat)(g:Nat)(lo:Nat)(n:Nat):Za2 (.sl t g lo n)=false:=rfl
theorem ZPT(cs:List AVal):Za2 (.agg cs)=cs.all ZaJ:=rfl
theorem ZLh(vs:List AVal):Za2 (.tup vs)=false:=rfl
theorem ZC9(f:Nat)(caps:List AVal):Za2 (.fn f caps)=false:=rfl
theorem ZBK  : Za2 (.nilm)=true:=rfl
theorem ZI1(t:Nat):Za2 (.map t)=false:=rfl
theorem ZA2  : Za2 (.nili)=true:=rfl
theorem ZJt(t:Nat)(x:AVal):Za2 (.iface t x)=false:=rfl
theorem ZG1(x:AVal):Za2 (.pan x)=false:=rfl
theorem ZKL(l:List UInt8):Za2 (.lnt l)=false:=rfl
theorem ZVb  : ZbC (.top)=false:=rfl
theorem ZLz  : ZbC (.any)=false:=rfl
theorem ZIv(k:IntKind)(n:Int):ZbC (.int k n)=true:=rfl
theorem ZML(b:Bool):ZbC (.bool b)=true:=rfl
theorem ZDK(l:List UInt8):ZbC (.str l)=true:=rfl
theorem ZLN  : ZbC (.nilp)=true:=rfl
theorem ZMO(t:Nat)(o:Nat):ZbC (.ref t o)=false:=rfl
theorem ZPP(t:Nat)(g:Nat)(i:Nat)(o:Nat):ZbC (.eref t g i o)=false:=rfl
theorem ZH5(cs:List AVal)(o:Nat):ZbC (.iptr cs o)=false:=rfl
theorem ZTq(x:Bool)(xs:List AVal):ZbC (.lst x xs)=false:=rfl
theorem ZDV(t:Nat)(g:Nat)(lo:Nat)(n:Nat):ZbC (.sl t g lo n)=false:=rfl
theorem ZE4(cs:List AVal):ZbC (.agg cs)=cs.all ZaJ:=rfl
theorem ZUy(vs:List AVal):ZbC (.tup vs)=vs.all Za2:=rfl
theorem ZCe(f:Nat)(caps:List AVal):ZbC (.fn f caps)=false:=rfl
theorem ZLx  : ZbC (.nilm)=true:=rfl
theorem ZVd(t:Nat):ZbC (.map t)=false:=rfl
theorem ZIF  : ZbC (.nili)=true:=rfl
theorem ZTP(t:Nat)(x:AVal):ZbC (.iface t x)=false:=rfl
theorem ZD8(l:List UInt8):ZbC (.lnt l)=false:=rfl
theorem ZLi  : ZaW (.top)=false:=rfl
theorem ZIG  : ZaW (.any)=false:=rfl
theorem Zww(k:IntKind)(n:Int):ZaW (.int k n)=true:=rfl
theorem ZEt(b:Bool):ZaW (.bool b)=true:=rfl
theorem ZwP(l:List UInt8):ZaW (.str l)=true:=rfl
theorem ZMl  : ZaW (.nilp)=true:=rfl
theorem ZLR(t:Nat)(o:Nat):ZaW (.ref t o)=false:=rfl
theorem ZBb(t:Nat)(g:Nat)(i:Nat)(o:Nat):ZaW (.eref t g i o)=false:=rfl
theorem ZEI(cs:List AVal)(o:Nat):ZaW (.iptr cs o)=false:=rfl
theorem Zvx(x:Bool)(xs:List AVal):ZaW (.lst x xs)=true:=rfl
theorem ZNe(t:Nat)(g:Nat)(lo:Nat)(n:Nat):ZaW (.sl t g lo n)=false:=rfl
theorem ZJs(cs:List AVal):ZaW (.agg cs)=false:=rfl
theorem ZFO(vs:List AVal):ZaW (.tup vs)=false:=rfl
theorem ZFH  : ZaW (.nilm)=true:=rfl
theorem ZRu(t:Nat):ZaW (.map t)=false:=rfl
theorem ZPo  : ZaW (.nili)=true:=rfl
theorem ZMR(t:Nat)(x:AVal):ZaW (.iface t x)=false:=rfl
theorem ZI8(x:AVal):ZaW (.pan x)=false:=rfl
theorem ZTy(l:List UInt8):ZaW (.lnt l)=false:=rfl
theorem ZFb  : Zai (.top)=false:=rfl
theorem ZI5  : Zai (.any)=false:=rfl
theorem ZLd(k:IntKind)(n:Int):Zai (.int k n)=true:=rfl
theorem ZP0(b:Bool):Zai (.bool b)=true:=rfl
theorem ZGM(l:List UInt8):Zai (.str l)=true:=rfl
theorem ZN8  : Zai (.nilp)=true:=rfl
theorem ZOQ(t:Nat)(o:Nat):Zai (.ref t o)=false:=rfl
theorem ZCT(t:Nat)(g:Nat)(i:Nat)(o:Nat):Zai (.eref t g i o)=false:=rfl
theorem ZNq(cs:List AVal)(o:Nat):Zai (.iptr cs o)=false:=rfl
theorem ZVc(x:Bool)(xs:List AVal):Zai (.lst x xs)=true:=rfl
theorem ZJr(t:Nat)(g:Nat)(lo:Nat)(n:Nat):Zai (.sl t g lo n)=false:=rfl
theorem ZAG(cs:List AVal):Zai (.agg cs)=cs.all ZaW:=rfl
theorem ZNb(vs:List AVal):Zai (.tup vs)=false:=rfl
theorem ZM4  : Zai (.nilm)=true:=rfl
theorem ZUf(t:Nat):Zai (.map t)=false:=rfl
theorem ZOY  : Zai (.nili)=true:=rfl
theorem ZJF(t:Nat)(x:AVal):Zai (.iface t x)=false:=rfl
theorem ZGf(x:AVal):Zai (.pan x)=false:=rfl
theorem ZFQ(l:List UInt8):Zai (.lnt l)=false:=rfl
theorem ZI7  : Zbv (.top)=(.top):=rfl
theorem ZPN  : Zbv (.any)=(.any):=rfl
theorem Zvj(k:IntKind)(n:Int):Zbv (.int k n)=(.int k n):=rfl
theorem ZDI(b:Bool):Zbv (.bool b)=(.bool b):=rfl
theorem Zwx(l:List UInt8):Zbv (.str l)=(.str l):=rfl
theorem ZC3  : Zbv (.nilp)=(.nilp):=rfl
theorem ZCg(t:Nat)(o:Nat):Zbv (.ref t o)=(.ref t o):=rfl
theorem ZOA(t:Nat)(g:Nat)(i:Nat)(o:Nat):Zbv (.eref t g i o)=(.eref t g i o):=rfl
theorem ZSd(cs:List AVal)(o:Nat):Zbv (.iptr cs o)=(.iptr cs o):=rfl
theorem Zxq(x:Bool)(xs:List AVal):Zbv (.lst x xs)=.lst false xs:=rfl
theorem ZE8(t:Nat)(g:Nat)(lo:Nat)(n:Nat):Zbv (.sl t g lo n)=(.sl t g lo n):=rfl
theorem ZCF(cs:List AVal):Zbv (.agg cs)=(.agg cs):=rfl
theorem ZSc(vs:List AVal):Zbv (.tup vs)=(.tup vs):=rfl
theorem ZDw(f:Nat)(caps:List AVal):Zbv (.fn f caps)=(.fn f caps):=rfl
theorem ZOK  : Zbv (.nilm)=(.nilm):=rfl
theorem ZUS(t:Nat):Zbv (.map t)=(.map t):=rfl
theorem ZFo  : Zbv (.nili)=(.nili):=rfl
theorem ZHT(t:Nat)(x:AVal):Zbv (.iface t x)=(.iface t x):=rfl
theorem ZKj(x:AVal):Zbv (.pan x)=(.pan x):=rfl
theorem ZHF(l:List UInt8):Zbv (.lnt l)=(.lnt l):=rfl
theorem ZLS  : Z1 (.top)=(.top):=rfl
theorem ZEs  : Z1 (.any)=(.any):=rfl
theorem ZSi(k:IntKind)(n:Int):Z1 (.int k n)=(.int k n):=rfl
theorem ZMD(b:Bool):Z1 (.bool b)=(.bool b):=rfl
theorem ZKF(l:List UInt8):Z1 (.str l)=(.str l):=rfl
theorem ZAV  : Z1 (.nilp)=(.nilp):=rfl
theorem ZEJ(t:Nat)(o:Nat):Z1 (.ref t o)=(.ref t o):=rfl
theorem ZFY(t:Nat)(g:Nat)(i:Nat)(o:Nat):Z1 (.eref t g i o)=(.eref t g i o):=rfl
theorem ZEx(cs:List AVal)(o:Nat):Z1 (.iptr cs o)=(.iptr cs o):=rfl
theorem ZP6(x:Bool)(xs:List AVal):Z1 (.lst x xs)=.lst false xs:=rfl
theorem ZIQ(t:Nat)(g:Nat)(lo:Nat)(n:Nat):Z1 (.sl t g lo n)=(.sl t g lo n):=rfl
theorem Zvc(cs:List AVal):Z1 (.agg cs)=.agg (cs.map Zbv):=rfl
theorem ZLg(vs:List AVal):Z1 (.tup vs)=(.tup vs):=rfl
theorem ZRc(f:Nat)(caps:List AVal):Z1 (.fn f caps)=(.fn f caps):=rfl
theorem ZNU  : Z1 (.nilm)=(.nilm):=rfl
theorem ZUd(t:Nat):Z1 (.map t)=(.map t):=rfl
theorem ZSa  : Z1 (.nili)=(.nili):=rfl
theorem ZFX(t:Nat)(x:AVal):Z1 (.iface t x)=(.iface t x):=rfl
theorem ZLr(x:AVal):Z1 (.pan x)=(.pan x):=rfl
theorem ZSj(l:List UInt8):Z1 (.lnt l)=(.lnt l):=rfl
theorem ZTN  : AVal.cells (.top)=[(.top)]:=rfl
theorem ZQi  : AVal.cells (.any)=[(.any)]:=rfl
theorem ZNI(k:IntKind)(n:Int):AVal.cells (.int k n)=[(.int k n)]:=rfl
theorem ZGZ(b:Bool):AVal.cells (.bool b)=[(.bool b)]:=rfl
theorem ZBH(l:List UInt8):AVal.cells (.str l)=[(.str l)]:=rfl
theorem ZQk  : AVal.cells (.nilp)=[(.nilp)]:=rfl
theorem ZQf(t:Nat)(o:Nat):AVal.cells (.ref t o)=[(.ref t o)]:=rfl
theorem ZRY(t:Nat)(g:Nat)(i:Nat)(o:Nat):AVal.cells (.eref t g i o)=[(.eref t g i o)]:=rfl
theorem ZCq(cs:List AVal)(o:Nat):AVal.cells (.iptr cs o)=[(.iptr cs o)]:=rfl
theorem ZNB(x:Bool)(xs:List AVal):AVal.cells (.lst x xs)=[(.lst x xs)]:=rfl
theorem ZA4(t:Nat)(g:Nat)(lo:Nat)(n:Nat):AVal.cells (.sl t g lo n)=[(.sl t g lo n)]:=rfl
theorem ZDQ(cs:List AVal):AVal.cells (.agg cs)=cs:=rfl
theorem ZLA(vs:List AVal):AVal.cells (.tup vs)=[(.tup vs)]:=rfl
theorem ZDs(f:Nat)(caps:List AVal):AVal.cells (.fn f caps)=[(.fn f caps)]:=rfl
theorem ZDk  : AVal.cells (.nilm)=[(.nilm)]:=rfl
theorem ZQS(t:Nat):AVal.cells (.map t)=[(.map t)]:=rfl
theorem ZRB  : AVal.cells (.nili)=[(.nili)]:=rfl
theorem ZLv(t:Nat)(x:AVal):AVal.cells (.iface t x)=[(.iface t x)]:=rfl
theorem ZOx(x:AVal):AVal.cells (.pan x)=[(.pan x)]:=rfl
theorem ZTz(l:List UInt8):AVal.cells (.lnt l)=[(.lnt l)]:=rfl
theorem ZTE  : ZaX (.top)=(.top):=rfl
theorem ZT9  : ZaX (.any)=(.any):=rfl
theorem ZRq(k:IntKind)(n:Int):ZaX (.int k n)=(.int k n):=rfl
theorem ZUr(b:Bool):ZaX (.bool b)=(.bool b):=rfl
theorem ZEh(l:List UInt8):ZaX (.str l)=(.str l):=rfl
theorem ZRF  : ZaX (.nilp)=(.nilp):=rfl
theorem ZJh(t:Nat)(o:Nat):ZaX (.ref t o)=(.ref t o):=rfl
theorem ZQe(t:Nat)(g:Nat)(i:Nat)(o:Nat):ZaX (.eref t g i o)=(.eref t g i o):=rfl
theorem ZS4(cs:List AVal)(o:Nat):ZaX (.iptr cs o)=(.iptr cs o):=rfl
theorem ZME(x:Bool)(xs:List AVal):ZaX (.lst x xs)=(.lst x xs):=rfl
theorem ZHu(t:Nat)(g:Nat)(lo:Nat)(n:Nat):ZaX (.sl t g lo n)=(.sl t g lo n):=rfl
theorem ZVp(cs:List AVal):ZaX (.agg cs)=(.agg cs):=rfl
theorem ZOC(vs:List AVal):ZaX (.tup vs)=(.tup vs):=rfl
theorem ZNd(f:Nat)(caps:List AVal):ZaX (.fn f caps)=(.fn f caps):=rfl
theorem ZQH  : ZaX (.nilm)=(.nilm):=rfl
theorem ZOJ(t:Nat):ZaX (.map t)=(.map t):=rfl
theorem ZUe  : ZaX (.nili)=(.nili):=rfl
theorem ZKK(t:Nat)(x:AVal):ZaX (.iface t x)=(.iface t x):=rfl
theorem ZTr(x:AVal):ZaX (.pan x)=x:=rfl
theorem ZC8(l:List UInt8):ZaX (.lnt l)=(.lnt l):=rfl
theorem ZDp  : Zbr (.top)=4:=rfl
theorem ZTA  : Zbr (.any)=4:=rfl
theorem ZFW(k:IntKind)(n:Int):Zbr (.int k n)=0:=rfl
theorem ZMH(b:Bool):Zbr (.bool b)=1:=rfl
theorem ZKX(l:List UInt8):Zbr (.str l)=2:=rfl
theorem ZUq  : Zbr (.nilp)=4:=rfl
theorem ZL0(t:Nat)(o:Nat):Zbr (.ref t o)=4:=rfl
theorem ZCy(t:Nat)(g:Nat)(i:Nat)(o:Nat):Zbr (.eref t g i o)=4:=rfl
theorem ZHH(cs:List AVal)(o:Nat):Zbr (.iptr cs o)=4:=rfl
theorem ZBT(x:Bool)(xs:List AVal):Zbr (.lst x xs)=4:=rfl
theorem ZIr(t:Nat)(g:Nat)(lo:Nat)(n:Nat):Zbr (.sl t g lo n)=4:=rfl
theorem ZQj(cs:List AVal):Zbr (.agg cs)=4:=rfl
theorem ZPh(vs:List AVal):Zbr (.tup vs)=4:=rfl
theorem ZFT(f:Nat)(caps:List AVal):Zbr (.fn f caps)=4:=rfl
theorem ZHR  : Zbr (.nilm)=4:=rfl
theorem ZHa(t:Nat):Zbr (.map t)=4:=rfl
theorem ZQW  : Zbr (.nili)=4:=rfl
theorem ZUv(t:Nat)(x:AVal):Zbr (.iface t x)=4:=rfl
theorem ZFB(x:AVal):Zbr (.pan x)=4:=rfl
theorem ZUb(l:List UInt8):Zbr (.lnt l)=4:=rfl
theorem ZFM  : ZH (.top)=[]:=rfl
theorem ZUh  : ZH (.any)=[]:=rfl
theorem ZSy(k:IntKind)(n:Int):ZH (.int k n)=[]:=rfl
theorem ZG5(b:Bool):ZH (.bool b)=[]:=rfl
theorem ZJ2(l:List UInt8):ZH (.str l)=[]:=rfl
theorem ZDi  : ZH (.nilp)=[]:=rfl
theorem ZG3(t:Nat)(o:Nat):ZH (.ref t o)=[t]:=rfl
theorem ZJd(t:Nat)(g:Nat)(i:Nat)(o:Nat):ZH (.eref t g i o)=[t]:=rfl
theorem ZCH(cs:List AVal)(o:Nat):ZH (.iptr cs o)=[]:=rfl
theorem ZSs(x:Bool)(xs:List AVal):ZH (.lst x xs)=[]:=rfl
theorem ZB4(t:Nat)(g:Nat)(lo:Nat)(n:Nat):ZH (.sl t g lo n)=[t]:=rfl
theorem ZHl(cs:List AVal):ZH (.agg cs)=Zl cs:=rfl
theorem ZSn(vs:List AVal):ZH (.tup vs)=Zl vs:=rfl
theorem ZNz(f:Nat)(caps:List AVal):ZH (.fn f caps)=Zl caps:=rfl
theorem ZJI  : ZH (.nilm)=[]:=rfl
theorem ZUz(t:Nat):ZH (.map t)=[t]:=rfl
theorem ZDo  : ZH (.nili)=[]:=rfl
theorem ZMA(t:Nat)(x:AVal):ZH (.iface t x)=ZH x:=rfl
theorem ZIR(x:AVal):ZH (.pan x)=ZH x:=rfl
theorem ZCZ(l:List UInt8):ZH (.lnt l)=[]:=rfl
theorem ZS0  : Zp C (.top)=(.top):=rfl
theorem ZBZ  : Zp C (.any)=(.any):=rfl
theorem ZA3(k:IntKind)(n:Int):Zp C (.int k n)=(.int k n):=rfl
theorem ZVl(b:Bool):Zp C (.bool b)=(.bool b):=rfl
theorem ZEp(l:List UInt8):Zp C (.str l)=(.str l):=rfl
theorem ZR5  : Zp C (.nilp)=(.nilp):=rfl
theorem ZC1(cs:List AVal)(o:Nat):Zp C (.iptr cs o)=(.iptr cs o):=rfl
theorem ZGw(x:Bool)(xs:List AVal):Zp C (.lst x xs)=(.lst x xs):=rfl
theorem ZDJ(cs:List AVal):Zp C (.agg cs)=.agg (Zj C cs):=rfl
theorem ZSX(vs:List AVal):Zp C (.tup vs)=.tup (Zj C vs):=rfl
theorem ZQ6(f:Nat)(caps:List AVal):Zp C (.fn f caps)=.fn f (Zj C caps):=rfl
theorem ZPG  : Zp C (.nilm)=(.nilm):=rfl
theorem ZJu  : Zp C (.nili)=(.nili):=rfl
theorem ZJ4(t:Nat)(x:AVal):Zp C (.iface t x)=.iface t (Zp C x):=rfl
theorem ZLL(x:AVal):Zp C (.pan x)=.pan (Zp C x):=rfl
theorem ZPC(l:List UInt8):Zp C (.lnt l)=(.lnt l):=rfl
theorem ZEf(f:Nat):ZaW (.fn f [])=true:=rfl
theorem ZFL(f:Nat):Zai (.fn f [])=true:=rfl
theorem ZHx(t:Nat)(x:AVal):ZbC (.pan (.iface t x))=ZaJ x:=rfl
theorem ZM6(live:List Nat)(tm:Tms):Zne live (some (tm,G,none))=some (.normal,keepL live tm,G):=rfl
theorem ZOF(live:List Nat)(tm:Tms)(x:AVal):Zne live (some (tm,G,some x))=some (.panic x,[],G):=rfl
theorem ZHL(live:List Nat):Zne live none=none:=rfl
theorem ZKo(t o:Nat):Zp C (.ref t o)=(match C t 0 with |some (t',0)=>.ref t' o |_=>.any):=rfl
theorem ZIy(t:Nat):Zp C (.map t)=(match C t 0 with |some (t',0)=>.map t' |_=>.any):=rfl
theorem ZR3(t g lo n:Nat):Zp C (.sl t g lo n)=(match C t g with |some (t',g')=>.sl t' g' lo n |none=>.any):=rfl
theorem ZS5(t g i o:Nat):Zp C (.eref t g i o)=(match C t g with |some (t',g')=>.eref t' g' i o |none=>.any):=rfl
theorem ZON:Zl []=[]:=rfl
theorem ZEB(x:AVal)(xs:List AVal):Zl (x::xs)=ZH x++Zl xs:=rfl
theorem ZVi:Zj C []=[]:=rfl
theorem ZTF(x:AVal)(xs:List AVal):Zj C (x::xs)=Zp C x::Zj C xs:=rfl
end
end
section
mutual
def ZQ:AVal->Bool
 | .ref _ _=>false
 | .eref _ _ _ _=>false
 | .sl _ _ _ _=>false
 | .map _=>false
 | .agg cs=>Ze cs
 | .tup vs=>Ze vs
 | .fn _ vs=>Ze vs
 | .iface _ x=>ZQ x
 | .pan x=>ZQ x
 | .top=>true
 | .any=>true
 | .int _ _=>true
 | .bool _=>true
 | .str _=>true
 | .nilp=>true
 | .nilm=>true
 | .nili=>true
 | .lnt _=>true
 | .iptr _ _=>true
 | .lst _ _=>true
def Ze:List AVal->Bool
 | []=>true
 |x::xs=>ZQ x&&Ze xs
end
mutual
theorem Zba(C:Rho):∀ (x:AVal),ZQ x=true->Zp C x=x/\ZH x=[]
 | .ref _ _,h=>by simp[ZQ]at h
 | .eref _ _ _ _,h=>by simp[ZQ]at h
 | .sl _ _ _ _,h=>by simp[ZQ]at h
 | .map _,h=>by simp[ZQ]at h
 | .agg cs,h=>by have:=Z5 C cs (by simpa only[ZQ]using h);exact⟨by simp only[Zp,this.1],by simp only[ZH,this.2]⟩
 | .tup cs,h=>by have:=Z5 C cs (by simpa only[ZQ]using h);exact⟨by simp only[Zp,this.1],by simp only[ZH,this.2]⟩
 | .fn f cs,h=>by have:=Z5 C cs (by simpa only[ZQ]using h);exact⟨by simp only[Zp,this.1],by simp only[ZH,this.2]⟩
 | .iface t x,h=>by have:=Zba C x (by simpa only[ZQ]using h);exact⟨by simp only[Zp,this.1],by simp only[ZH,this.2]⟩
 | .pan x,h=>by have:=Zba C x (by simpa only[ZQ]using h);exact⟨by simp only[Zp,this.1],by simp only[ZH,this.2]⟩
 | .top,_=>⟨rfl,rfl⟩
 | .any,_=>⟨rfl,rfl⟩
 | .int _ _,_=>⟨rfl,rfl⟩
 | .bool _,_=>⟨rfl,rfl⟩
 | .str _,_=>⟨rfl,rfl⟩
 | .nilp,_=>⟨rfl,rfl⟩
 | .nilm,_=>⟨rfl,rfl⟩
 | .nili,_=>⟨rfl,rfl⟩
 | .lnt _,_=>⟨rfl,rfl⟩
 | .iptr _ _,_=>⟨rfl,rfl⟩
 | .lst _ _,_=>⟨rfl,rfl⟩
theorem Z5(C:Rho):∀ (xs:List AVal),Ze xs=true->Zj C xs=xs/\Zl xs=[]
 | [],_=>⟨rfl,rfl⟩
 |x::xs,h=>by
  simp only[Ze,Xk]at h
  have h1:=Zba C x h.1
  have h2:=Z5 C xs h.2
  exact⟨by simp only[Zj,h1.1,h2.1],by simp only[Zl,h1.2,h2.2,Xr]⟩
end
theorem ZvM{G:Za}{r:AVal}(h:ZQ r=true):ZR 0 G r=some (r,[]):=by
 have h1:=Zba (Zn G 0 []) r h
 have hids:Zw 0 [r] G=[]:=by
  unfold Zw
  simp only[Zl,h1.2,Xr,List.range_zero,List.flatMap_nil]
  rfl
 unfold ZR gcA
 simp only[hids,Zj,Zo,h1.1]
def ZmX:AVal->AVal
 | .tup vs=>.tup (vs.map Z1)
 |x=>Z1 x
def Zyr:AVal->Bool
 | .tup vs=>vs.all Zai
 |x=>Zai x
def Zco:AVal->Bool
 | .fn _ _=>false
 |_=>true
def Zfh:AVal->Bool
 | .agg cs=>cs.all Zco
 |x=>Zco x
def ZQI:AVal->Bool
 | .tup vs=>vs.all Zfh
 |x=>Zfh x
theorem ZK3{k g n:Nat}{xs:List AVal}{G:Za}{t:Nat}(hs:G[t]?=some (.row g k xs))(hn:n<=xs.length):ZbR 0 (some (.sl t g 0 n,G))=some (.lst false (xs.take n),[]):=by
 have hv:viewR G (.sl t g 0 n)=some (.lst false (xs.take n),[t]):=by
  simp only[viewR,Z3,ZN,ZZ,hs,XF,hn,and_self,if_true,List.drop_zero]
 have e:ZbR 0 (some (.sl t g 0 n,G))=(match viewR G (.sl t g 0 n)with
  |some (r',ts)=>match gcA 0 [r'] (Zv G ts)with
   |([r''],G')=>some (r'',G')
   |_=>none
  |none=>none):=rfl
 rw[e,hv]
 exact ZvM rfl
theorem ZVe{m:Nat}{fn:ZM}{tm:Tms}{G:Za}:Zax m fn (some (.ret,tm,G))=match resA tm G fn.res with
  |some r=>ZR m G r
  |none=>none:=rfl
theorem ZBf{m:Nat}{fn:ZM}{tm:Tms}{G:Za}:Zax m fn (some (.normal,tm,G))=match resA tm G fn.res with
  |some r=>ZR m G r
  |none=>none:=rfl
theorem ZAS{m:Nat}{fn:ZM}{tm:Tms}{G:Za}{x:AVal}:Zax m fn (some (.panic x,tm,G))=ZR m G (.pan x):=rfl
theorem ZHn  : ZQ (.top)=true:=rfl
theorem ZGi  : ZQ (.any)=true:=rfl
theorem ZHA(k:IntKind)(n:Int):ZQ (.int k n)=true:=rfl
theorem ZTp(b:Bool):ZQ (.bool b)=true:=rfl
theorem ZPq(l:List UInt8):ZQ (.str l)=true:=rfl
theorem ZOL  : ZQ (.nilp)=true:=rfl
theorem ZGW(t:Nat)(o:Nat):ZQ (.ref t o)=false:=rfl
theorem ZSB(t:Nat)(g:Nat)(i:Nat)(o:Nat):ZQ (.eref t g i o)=false:=rfl
theorem ZHs(cs:List AVal)(o:Nat):ZQ (.iptr cs o)=true:=rfl
theorem ZBn(x:Bool)(xs:List AVal):ZQ (.lst x xs)=true:=rfl
theorem ZT5(t:Nat)(g:Nat)(lo:Nat)(n:Nat):ZQ (.sl t g lo n)=false:=rfl
theorem ZIf(cs:List AVal):ZQ (.agg cs)=Ze cs:=rfl
theorem ZKV(vs:List AVal):ZQ (.tup vs)=Ze vs:=rfl
theorem ZNj(f:Nat)(caps:List AVal):ZQ (.fn f caps)=Ze caps:=rfl
theorem ZCa  : ZQ (.nilm)=true:=rfl
theorem ZA6(t:Nat):ZQ (.map t)=false:=rfl
theorem ZQz  : ZQ (.nili)=true:=rfl
theorem ZAM(t:Nat)(x:AVal):ZQ (.iface t x)=ZQ x:=rfl
theorem ZSD(x:AVal):ZQ (.pan x)=ZQ x:=rfl
theorem ZC6(l:List UInt8):ZQ (.lnt l)=true:=rfl
theorem ZJL  : Zco (.top)=true:=rfl
theorem ZT7  : Zco (.any)=true:=rfl
theorem ZOj(k:IntKind)(n:Int):Zco (.int k n)=true:=rfl
theorem ZDB(b:Bool):Zco (.bool b)=true:=rfl
theorem ZFj(l:List UInt8):Zco (.str l)=true:=rfl
theorem ZMa  : Zco (.nilp)=true:=rfl
theorem ZPK(t:Nat)(o:Nat):Zco (.ref t o)=true:=rfl
theorem ZTj(t:Nat)(g:Nat)(i:Nat)(o:Nat):Zco (.eref t g i o)=true:=rfl
theorem ZF4(cs:List AVal)(o:Nat):Zco (.iptr cs o)=true:=rfl
theorem ZRC(x:Bool)(xs:List AVal):Zco (.lst x xs)=true:=rfl
theorem ZCj(t:Nat)(g:Nat)(lo:Nat)(n:Nat):Zco (.sl t g lo n)=true:=rfl
theorem ZTR(cs:List AVal):Zco (.agg cs)=true:=rfl
theorem ZEC(vs:List AVal):Zco (.tup vs)=true:=rfl
theorem ZGR(f:Nat)(caps:List AVal):Zco (.fn f caps)=false:=rfl
theorem ZFU  : Zco (.nilm)=true:=rfl
theorem ZTI(t:Nat):Zco (.map t)=true:=rfl
theorem ZIq  : Zco (.nili)=true:=rfl
theorem ZUB(t:Nat)(x:AVal):Zco (.iface t x)=true:=rfl
theorem ZU0(x:AVal):Zco (.pan x)=true:=rfl
theorem ZAN(l:List UInt8):Zco (.lnt l)=true:=rfl
theorem ZPp  : Zfh (.top)=true:=rfl
theorem ZQO  : Zfh (.any)=true:=rfl
theorem ZK4(k:IntKind)(n:Int):Zfh (.int k n)=true:=rfl
theorem ZLT(b:Bool):Zfh (.bool b)=true:=rfl
theorem ZJY(l:List UInt8):Zfh (.str l)=true:=rfl
theorem ZF7  : Zfh (.nilp)=true:=rfl
theorem ZKd(t:Nat)(o:Nat):Zfh (.ref t o)=true:=rfl
theorem ZOw(t:Nat)(g:Nat)(i:Nat)(o:Nat):Zfh (.eref t g i o)=true:=rfl
theorem ZJG(l:List UInt8):Zfh (.lnt l)=true:=rfl
theorem ZOh(l:List UInt8):ZQI (.lnt l)=true:=rfl
theorem ZMC(l:List UInt8):Zyr (.lnt l)=false:=rfl
theorem ZBw  : ZmX (.nili)=(.nili):=rfl
theorem ZUG(t:Nat)(x:AVal):ZmX (.iface t x)=(.iface t x):=rfl
theorem ZQ4(x:AVal):ZmX (.pan x)=(.pan x):=rfl
theorem ZMF(l:List UInt8):ZmX (.lnt l)=(.lnt l):=rfl
theorem ZLD:Ze []=true:=rfl
theorem ZDx(x:AVal)(xs:List AVal):Ze (x::xs)=(ZQ x&&Ze xs):=rfl
theorem ZK9(f:Nat):Zyr (.fn f [])=true:=rfl
theorem ZQp(p q:Bool):(if p=true then q else false)=(p&&q):=by cases p<;>rfl
theorem ZN9(p q:Bool):(if p=true then true else q)=(p ||q):=by cases p<;>rfl
theorem ZMm(p q:Bool):(if p=true then false else q)=(!p&&q):=by cases p<;>rfl
theorem ZTw(p q:Bool):(if p=true then q else true)=(!p ||q):=by cases p<;>rfl
theorem ZQv(p q:Bool):(if p=false then q else false)=(!p&&q):=by cases p<;>rfl
theorem ZTe(p q:Bool):(if p=false then true else q)=(!p ||q):=by cases p<;>rfl
theorem ZTk(p q:Bool):(if p=false then false else q)=(p&&q):=by cases p<;>rfl
theorem ZO3(p q:Bool):(if p=false then q else true)=(p ||q):=by cases p<;>rfl
section
def ZfO(o:AOp):AOp:=⟨o.dst,o.ins,o.guard,[]⟩
def ZdF:Zf->Zf
 | .region ops chk live=>.region (ops.map ZfO) chk live
 | .seq a b=>.seq (ZdF a) (ZdF b)
 | .cond c a b=>.cond c (ZdF a) (ZdF b)
 | .block id c=>.block id (ZdF c)
 | .loop live c=>.loop live (ZdF c)
 | .skip=>.skip
 | .exit id=>.exit id
 | .ret=>.ret
 | .stuck=>.stuck
def Zm4(f:ZM):ZM:=⟨f.res,ZdF f.body⟩
section
variable {O:ZS}{bf:Nat->Bool}
theorem ZHb(o:AOp)(s:Nat)(tm:Tms)(G:Za):ZW O bf (ZfO o) s tm G=ZW O bf o s tm G:=rfl
theorem ZyG:∀ (ops:List AOp) (s:Nat) (tm:Tms) (G:Za),Zac O bf (ops.map ZfO) s tm G=Zac O bf ops s tm G
 | [],_,_,_=>rfl
 |o::os,s,tm,G=>by
  simp only[Xu,Zac,ZHb]
  split
  ·rfl
  ·rfl
  ·rename_i tm' G' c _ _
   rw[show(ZfO o).ins=o.ins from rfl,ZyG os]
theorem ZqD(ops:List AOp):sitesOf (ops.map ZfO)=sitesOf ops:=by
 simp[sitesOf,ZfO,Function.comp_def]
theorem Znz(ops:List AOp)(i:Nat):((ops.map ZfO).getD i default).ins=(ops.getD i default).ins:=by
 simp only[Xh,Xab]
 cases ops[i]? <;> rfl
theorem ZE1(ops:List AOp)(b:Nat)(l:List (Nat×Nat))(cs:List Cls):Zeb (ops.map ZfO) b l cs=Zeb ops b l cs:=by
 unfold Zeb
 congr 1
 funext p
 unfold Zdc ZcP
 rw[Znz,Znz,<-Xa1,ZqD]
theorem ZOZ(ops:List AOp)(b:Nat)(l:List (Nat×Nat))(cs:List Cls):Zef (ops.map ZfO) b l cs=Zef ops b l cs:=by
 unfold Zef
 congr 2
 funext p
 unfold Zdc ZcP
 rw[Znz,Znz,<-Xa1,ZqD]
theorem ZDZ(ops:List AOp)(chk:Option (List (Nat×Nat)))(live:List Nat)(tm:Tms)(G:Za):Zcq O bf (ops.map ZfO) chk live tm G=Zcq O bf ops chk live tm G:=by
 unfold Zcq
 rw[ZyG,ZqD]
 cases Zac O bf ops G.length tm (G++XI (sitesOf ops) .free)with
 |none=>rfl
 |some q =>
  obtain⟨tm',G',cs,p⟩:=q
  cases p with
  |some x =>
   cases chk with
   |none=>rfl
   |some l=>simp only[ZdH,ZOZ]
  |none =>
   cases chk with
   |none=>rfl
   |some l=>simp only[ZdH,ZE1]
theorem Zft(m n:Nat):∀ (c:Zf),Zam O bf m n (ZdF c)=Zam O bf m n c
 | .region ops chk live=>by funext tm G;simp only[ZdF,Zam,ZDZ]
 | .seq a b=>by funext tm G;simp only[ZdF,Zam,Zft m n a,Zft m n b]
 | .cond c a b=>by funext tm G;simp only[ZdF,Zam,Zft m n a,Zft m n b]
 | .block id c=>by funext tm G;simp only[ZdF,Zam,Zft m n c]
 | .loop live c=>by funext tm G;simp only[ZdF,Zam,Zft m n c]
 | .skip=>rfl
 | .exit id=>rfl
 | .ret=>rfl
 | .stuck=>rfl
end
theorem Zte(fs:Nat->Option ZM)(prim:ZcR)(bf:Nat->Bool):∀ n,Zau (fun f=>(fs f).map Zm4) prim bf n=Zau fs prim bf n
 |0=>rfl
 |n+1=>by
  funext f args G
  simp only[Zau,Zte fs prim bf n]
  cases prim f with
  |some g=>rfl
  |none =>
   cases fs f with
   |none=>rfl
   |some fn =>
    simp only[X9,Zm4,Zft]
    rfl
theorem ZGB(fs:Nat->Option ZM)(prim:ZcR)(bf:Nat->Bool):EV (fun f=>(fs f).map Zm4) prim bf=EV fs prim bf:=by
 funext f args G
 apply Zgq
 intro r
 rw[ZdD,ZdD]
 simp only[Zte]
end
end
section
open Go.RowKit
def Zle:List AVal->Za->Option (AVal×Za):=fun _ _=>none
theorem ZAr{D:Prop}{args:List AVal}{G:Za}{r:AVal×Za}(h:Zle args G=some r):D:=by cases h
def ZkY(k bytes:Nat)(args:List AVal)(G:Za):Option (AVal×Za):=match args with
 | [.str _]=>none
 | [a]=>match ZZ G a with
  |some (xs,_)=>if xs.length*bytes<=140737488355328/\kOk k xs=true then some (.sl G.length 0 0 xs.length,G++[.row 0 k xs])else none
  |none=>none
 |_=>none
def ZfA:Ann:={ nt:=8,lr:=fun _=>[7,6,5,4,3,2,0] }
structure ZAC(P:Program)(t:TypeId)(k bytes:Nat)(z:AVal)(f:FuncId):Prop where
 ex:∃ (F:Func) (e:TypeId) (i0 i1 i2 i3:Nat) (r0 r2 r3:Array Oper) (m b:Oper),
  P.funcs[f]?=some F/\F.results=#[.tmp 2]/\F.ntmps=8/\(F.name == "runtime.NumGoroutine")=false/\P.underlying t=some (.slice e) /\
  F.body=some (.seq (.region i0 r0 false) (.seq (.seq (.region i1 #[m,b] false) (.cond (.tmp 4) (.seq (.region i2 r2 false) .ret) .skip)) (.seq (.region i3 r3 false) .ret))) /\
  m.op=.move (.tmp 0)/\m.dst=some 3/\m.guard=none/\b.op=.binOp .eql t (.tmp 3) (.const (.slice none 0 0)) t/\b.dst=some 4/\b.guard=none /\
  Zex P ZfA r0 r0.toList=some [⟨some 2,.mov (.c (.lst true [])),none,[]⟩] /\
  Zex P ZfA r2 r2.toList=some [⟨some 2,.mov (.c (.lst true [])),none,[]⟩] /\
  (∃ a1 a2 a3 a4,Zex P ZfA r3 r3.toList=some [⟨some 5,.bslice false k 0 z [],none,a1⟩,⟨some 6,.mov (.t 0),none,a2⟩,⟨some 7,.app k bytes z (.t 5) (.t 6),none,a3⟩,⟨some 2,.mov (.t 7),none,a4⟩])/\z.cells.length=k/\0<k
section
variable {P:Program}{base:Nat->Prop}{w0 w w':World}{I0 I:Imm}{V:Bmap}{G:Za}
theorem noO:ZaM P (fun _ _ _=>none):=by intro f args G r G' h;cases h
theorem Zf2{ops:Array Oper}{Q:Exit->Act->World->Prop}{o:Oper}{l:List Oper}{a:Act}{w:World}(hg:o.guard=none)(h:o.wp P a w (wpList P ops Q l) Q):wpList P ops Q (o::l) a w:=by
 unfold wpList
 have : Region.wanted o (yielded ops a.tmps)=true:=by unfold Region.wanted;rw[hg]
 grind
theorem ZRR {t : TypeId} {k bytes : Nat} {z : AVal} {f : FuncId} (hm : P.follows .mixedOrders = true) (C : ZAC P t k bytes z f) {args : List AVal} {G G' : Za} {r : AVal} (h : ZkY k bytes args G = some (r, G')) :
    (∃ fn, P.funcs[f]? = some fn /\ fn.body.isSome = true /\ (fn.name == "runtime.NumGoroutine") = false) /\
    ∀ base w0 I0 I V w (vs : Array Value), KLt base w0 -> Rel base w0 I0 I V G w -> VRs I V args vs.toList ->
      Calls P f vs w (fun e w' => ∃ u, Ends r e u /\ Zb6 G.length base w0 I0 I V r G' u w') := by
  obtain ⟨F, e, i0, i1, i2, i3, r0, r2, r3, m, b, hF, hres, hnt, hname, hu, hbody, hm1, hm2, hm3, hb1, hb2, hb3, hc0, hc2, ⟨a1, a2, a3, a4, hc3⟩, hzk, hk0⟩ := C.ex
  refine ⟨⟨F, hF, by grind, hname⟩, ?_⟩
  intro base w0 I0 I V w vs hb R hargs
  unfold ZkY at h
  split at h
  case h_1 => cases h
  case h_3 => cases h
  rename_i a hns
  split at h
  case h_2 => cases h
  rename_i xs ts hel0
  split at h
  case isFalse => cases h
  rename_i hc
  obtain ⟨hbytes, hkOk⟩ := hc
  simp only [Xb, Xe] at h
  obtain ⟨rfl, rfl⟩ := h
  have hnt8 : ∀ (n : Nat), n < 8 -> n < ZfA.nt := fun n h => h
  refine calls_of_wp hF hbody ?_
  have hsz : vs.size = 1 := by have := ZaO hargs; simpa using this.symm
  have T := Zp4 hargs (F.ntmps - vs.size)
  have hst : StR Zch 8 base w0 I0 I V (enterA 0 [a] []) G { tmps := vs ++ WY (F.ntmps - vs.size) undef, defers := [] } w := ⟨I, V, Imm.le.refl I, Bmap.le.refl V, T, ⟨Zgj.2 rfl, by simp; omega⟩, R⟩
  have fin : ∀ {tm : Tms} {G1 : Za} {y : AVal} {a' : Act} {w1 : World}, StR Zch 8 base w0 I0 I V tm G1 a' w1 -> tget tm 2 = y -> (∀ I' V' u, I.le I' -> V.le V' -> Rel base w0 I0 I' V' G1 w1 -> VR I' V' y u -> Zb6 G.length base w0 I0 I V (.sl G.length 0 0 xs.length) (G ++ [.row 0 k xs]) u w1) ->
      a'.defers = [] /\ ∃ v, (results F a'.tmps).run P w1 = .ok v w1 /\ ∃ u, Ends (.sl G.length 0 0 xs.length) (.returned v) u /\ Zb6 G.length base w0 I0 I V (.sl G.length 0 0 xs.length) (G ++ [.row 0 k xs]) u w1 := by
    rintro tm G1 y a' w1 ⟨I', V', h1, h2, h3, h4, h5⟩ hy hpost
    refine ⟨Zgj.1 h4.1, a'.tmps.getD 2 undef, by simp [results, hres], _, rfl, ?_⟩
    have := h3 2
    rw [hy] at this
    exact hpost I' V' _ h1 h2 h5 this
  have R0 : Za7 P ZfA (.region i0 r0 false) = .region [⟨some 2, .mov (.c (.lst true [])), none, []⟩] none [7, 6, 5, 4, 3, 2, 0] := by simp only [Za7]; rw [hc0]; rfl
  have R2 : Za7 P ZfA (.region i2 r2 false) = .region [⟨some 2, .mov (.c (.lst true [])), none, []⟩] none [7, 6, 5, 4, 3, 2, 0] := by simp only [Za7]; rw [hc2]; rfl
  have R3 : Za7 P ZfA (.region i3 r3 false) = .region [⟨some 5, .bslice false k 0 z [], none, a1⟩, ⟨some 6, .mov (.t 0), none, a2⟩, ⟨some 7, .app k bytes z (.t 5) (.t 6), none, a3⟩, ⟨some 2, .mov (.t 7), none, a4⟩] none [7, 6, 5, 4, 3, 2, 0] := by simp only [Za7]; rw [hc3]; rfl
  refine wp_seq ?_
  refine ZnJ (an := ZfA) (dr := Zch) (bf := fun _ => false) noO (fun n hn => by simp [Zch] at hn) hm hb R0 hst (e := .normal) (tm' := keepL [7, 6, 5, 4, 3, 2, 0] [(2, .lst true []), (0, a)]) (G' := G) ?_ ?_
  . simp [Zcq, ZdH, sitesOf, nsite, Zac, ZW, ZbM, execI, Opd.ev, tput, tins, enterA]
  intro a1' w1 hst1
  simp only [Exit.then]
  refine wp_seq (wp_seq ?_)
  refine wp_region_list ?_
  refine Zf2 hm3 ?_
  obtain ⟨I1, V1, g1, g2, g3, g4, g5⟩ := hst1
  have hs8 : 8 <= a1'.tmps.size := g4.2
  have hT0 : VR I1 V1 a (a1'.tmps.getD 0 undef) := by have := g3 0; simpa [keepL, tget] using this
  obtain ⟨A, cap, hv0, q1, q2, q5, q4⟩ := ZlZ g5 (fun l e => hns l e) hel0 hT0
  show m.wp P a1' w1 _ _
  unfold Oper.wp
  have e1 : (execOp a1'.eval m).run P w1 = .ok (.value (.slice A xs.length cap)) w1 := by
    unfold execOp; rw [hm1]; simp [Act.eval, hv0]
  rw [e1, Oper.upon_value, hm2]
  refine Zf2 hb3 ?_
  unfold Oper.wp
  have hs3 : (a1'.put (some 3) (.slice A xs.length cap)).tmps.getD 3 undef = .slice A xs.length cap := by
    have : 3 < a1'.tmps.size := by omega
    simp [Act.put, WX, this]
  have e2 : (execOp (a1'.put (some 3) (.slice A xs.length cap)).eval b).run P w1 = .ok (.value (.bool A.isNone)) w1 := by
    have hq : (Op.equal t (.slice A xs.length cap) (.slice none 0 0)).run P w1 = .ok A.isNone w1 := run_equal_slice_nil w1 t e A xs.length cap hu
    unfold execOp; rw [hb1]
    simp only [Act.eval]
    rw [hs3]
    simp [eqGuard, binOp, hq]
  rw [e2, Oper.upon_value, hb2]
  refine wpList_nil ?_
  have hst2 : StR Zch 8 base w0 I0 I V [(4, .bool A.isNone), (2, .lst true []), (0, a)] G ((a1'.put (some 3) (.slice A xs.length cap)).put (some 4) (.bool A.isNone)) w1 := by
    refine ⟨I1, V1, g1, g2, fun n => ?_, ⟨ZmD (ZmD g4.1 (fun n _ hm => by simp [Zch] at hm)) (fun n _ hm => by simp [Zch] at hm), by rw [ZfF, ZfF]; exact g4.2⟩, g5⟩
    have hs : 4 < (a1'.put (some 3) (.slice A xs.length cap)).tmps.size := by rw [ZfF]; omega
    have ne : ∀ {a : Act} {d j : Nat} {u : Value}, d ≠ j -> (a.put (some d) u).tmps.getD j undef = a.tmps.getD j undef := by
      intro a d j u hne
      simp only [Act.put, Wq]; grind
    simp only [tget]
    split
    . rename_i e; subst e
      rw [show ((a1'.put (some 3) (.slice A xs.length cap)).put (some 4) (.bool A.isNone)).tmps.getD 4 undef = .bool A.isNone by
        simp only [Act.put] at hs ⊢
        simp [WX] at hs ⊢
        omega]
      simp only [VR]
    . split
      . rename_i e; subst e
        rw [ne (by omega), ne (by omega)]
        have := g3 2; simpa [keepL, tget] using this
      . split
        . grind
        . simp only [VR]
  simp only [Exit.then]
  cases hA : A.isNone with
  | true =>
    have hx0 : xs = [] := by
      rcases q4 with h | ⟨b, off, k', us, e, _⟩
      . exact h
      . rw [e] at hA; cases hA
    subst hx0
    have hev : ((a1'.put (some 3) (.slice A 0 cap)).put (some 4) (.bool A.isNone)).eval (.tmp 4) = .bool true := by
      obtain ⟨_, _, _, _, T, _, _⟩ := hst2
      have := T 4
      simp only [tget, if_true, VR] at this
      rw [hA] at this
      simpa [Act.eval, hA] using this
    refine wp_cond_true (by grind) ?_
    refine wp_seq ?_
    rw [hA] at hst2
    refine ZnJ (an := ZfA) (dr := Zch) (bf := fun _ => false) noO (fun n hn => by simp [Zch] at hn) hm hb R2 hst2 (e := .normal) (tm' := keepL [7, 6, 5, 4, 3, 2, 0] [(4, .bool true), (2, .lst true []), (0, a)]) (G' := G) ?_ ?_
    . simp [Zcq, ZdH, sitesOf, nsite, Zac, ZW, ZbM, execI, Opd.ev, tput, tins]
    intro a3' w3 hst3
    simp only [Exit.then]
    refine wp_ret ?_
    refine fin hst3 (y := .lst true []) (by simp [keepL, tget]) ?_
    intro I' V' u h1 h2 h3 h4
    simp only [VR] at h4
    obtain ⟨A', cap', rfl, _, _, hx, _⟩ := h4
    have hcap : cap' = 0 := by simpa using hx
    subst hcap
    have R4 := h3.reserve 1
    have hfree : (G ++ XI 1 ZP.free)[G.length]? = some .free := by simp
    obtain ⟨R5, hle⟩ := R4.newNone hfree k hk0
    refine ⟨I', _, h1, KeptE.of_le (h2.trans hle), ?_, ?_⟩
    . grind
    . simp only [ZaX]
      rw [Zcl]
      exact ⟨_, Bmap.put_same V' G.length 0 _, by simp, by simp, Xt ⟨rfl, rfl, A', rfl⟩⟩
  | false =>
    have hev : ((a1'.put (some 3) (.slice A xs.length cap)).put (some 4) (.bool A.isNone)).eval (.tmp 4) = .bool false := by
      obtain ⟨_, _, _, _, T, _, _⟩ := hst2
      have := T 4
      simp only [tget, if_true, VR] at this
      rw [hA] at this
      simpa [Act.eval, hA] using this
    refine wp_cond_false (by grind) ?_
    refine wp_skip ?_
    rw [hA] at hst2
    simp only [Exit.then]
    refine wp_seq ?_
    have hel : ZZ (G ++ [ZP.free]) a = some (xs, ts) := Zgo hel0 (fun t ht => by
      obtain ⟨g, k, ys, h | h⟩ := ZjW hel0 t ht <;> grind)
    refine ZnJ (an := ZfA) (dr := Zch) (bf := fun _ => false) noO (fun n hn => by simp [Zch] at hn) hm hb R3 hst2 (e := .normal) (tm' := keepL [7, 6, 5, 4, 3, 2, 0] [(7, .sl G.length 0 0 xs.length), (6, a), (5, .lst true []), (4, .bool false), (2, .sl G.length 0 0 xs.length), (0, a)]) (G' := G ++ [.row 0 k xs]) ?_ ?_
    . have hfa : freeAt (G ++ [ZP.free]) G.length = true := by simp [freeAt]
      have hnp : (∃ x ys, a = .lst x ys) \/ (∃ t g lo n, a = .sl t g lo n) \/ ∃ l, a = .lnt l := by
        cases a with
        | lst x ys => grind
        | sl t g lo n => grind
        | lnt l => grind
        | str l => grind
        | _ => simp [ZZ] at hel0
      rcases hnp with ⟨x, ys, rfl⟩ | ⟨t', g', lo, n, rfl⟩ | ⟨l, rfl⟩
      . simp [Zcq, ZdH, sitesOf, nsite, Zac, ZW, ZbM, execI, Opd.ev, tput, tins, tget, viewAs, Zv, hzk, Zan, hel, hkOk, hbytes, hfa]
      . simp [Zcq, ZdH, sitesOf, nsite, Zac, ZW, ZbM, execI, Opd.ev, tput, tins, tget, viewAs, Zv, hzk, Zan, hel, hkOk, hbytes, hfa]
      . simp [Zcq, ZdH, sitesOf, nsite, Zac, ZW, ZbM, execI, Opd.ev, tput, tins, tget, viewAs, Zv, hzk, Zan, hel, hkOk, hbytes, hfa]
    intro a3' w3 hst3
    simp only [Exit.then]
    refine wp_ret ?_
    refine fin hst3 (y := .sl G.length 0 0 xs.length) (by simp [keepL, tget]) ?_
    intro I' V' u h1 h2 h3 h4
    exact ⟨I', V', h1, KeptE.of_le h2, h3, h4⟩
end
end
section
open Go.RowKit
def ZsF(args:List AVal)(G:Za):Option (AVal×Za):=match args with
 | [.str l]=>some (.bool (Lib.validD l),G)
 |_=>none
section
variable {P:Program}{base:Nat->Prop}{w0 w w':World}{I0 I:Imm}{V:Bmap}{G:Za}
theorem ZCr{f:Nat}(hf:∃ fn,P.funcs[f]?=some fn/\fn.body.isSome=true/\(fn.name == "runtime.NumGoroutine")=false){args:List AVal}{r:AVal}{u:Value}(hn:∀ x,r≠.pan x)(hr:∀ I V,VR I V r u)
  (h:∀ base w0 I0 I V w (vs:Array Value),Rel base w0 I0 I V G w->VRs I V args vs.toList->Calls P f vs w (fun e w'=>e=.returned u/\Below w.heap.size w w')) :
  (∃ fn,P.funcs[f]?=some fn/\fn.body.isSome=true/\(fn.name == "runtime.NumGoroutine")=false) /\
  ∀ base w0 I0 I V w (vs:Array Value),KLt base w0->Rel base w0 I0 I V G w->VRs I V args vs.toList ->
   Calls P f vs w (fun e w'=>∃ u,Ends r e u/\Zb6 G.length base w0 I0 I V r G u w'):=by
 refine⟨hf,fun base w0 I0 I V w vs hb R hv=>(h base w0 I0 I V w vs R hv).mono ?_⟩
 rintro e w' ⟨rfl,hB⟩
 have hbw:=R.base_le hb
 refine⟨u,?_,I,V,Imm.le.refl I,KeptE.refl _ V,R.stay (Imm.le.refl I) ⟨hB.os,hB.tape,hB.output,hB.size,fun k hk=>hB.block k (hbw k hk)⟩ (fun _ _ _=>rfl) ?_ ?_,by rw[Zgs hn];exact hr I V⟩
 ·cases r<;>first |rfl |grind
 ·intro b o x hx
  have h1:=R.imm b o x hx
  have hlt:=Zez h1
  rw[<-h1]
  simp only[World.cell?,hB.block b hlt]
 ·intro t x b hx hb'
  exact⟨hB.block b ((R.blk t x hx).owns_lt hb'),(R.own t x b hx hb').2⟩
theorem ZGI(R:Rel base w0 I0 I V G w):Lib.Utf8Tabs 1 2 w:=by
 refine⟨fun c hc=>R.imm _ _ _ (R.glob.1 _ _ _ (by simp[Gl,hc])),fun i hi=>⟨R.imm _ _ _ (R.glob.1 _ _ _ ?_),R.imm _ _ _ (R.glob.1 _ _ _ ?_)⟩⟩
 ·have h1:2*i<32:=by omega
  have h2:2*i%2=0:=by omega
  have h3:2*i/2=i:=by omega
  simp[Gl,h1,h3]
 ·have h1:2*i+1<32:=by omega
  have h2:(2*i+1)%2=1:=by omega
  have h3:(2*i+1)/2=i:=by omega
  simp[Gl,h1,h2,h3]
theorem ZG8{f:Nat}(hf:∃ fn,P.funcs[f]?=some fn/\fn.body.isSome=true/\(fn.name == "runtime.NumGoroutine")=false)
  (hc:∀ (s:ByteArray) (w:World),s.size<=9223372036854775807->Lib.Utf8Tabs 1 2 w->Calls P f #[.string s] w fun e w'=>e=.returned (.bool (Lib.validD s.data.toList))/\Below w.heap.size w w') {args:List AVal} {G G':Za} {r:AVal} (h:ZsF args G=some (r,G')) :
  (∃ fn,P.funcs[f]?=some fn/\fn.body.isSome=true/\(fn.name == "runtime.NumGoroutine")=false) /\
  ∀ base w0 I0 I V w (vs:Array Value),KLt base w0->Rel base w0 I0 I V G w->VRs I V args vs.toList ->
   Calls P f vs w (fun e w'=>∃ u,Ends r e u/\Zb6 G.length base w0 I0 I V r G' u w'):=by
 unfold ZsF at h
 split at h
 case h_2=>cases h
 rename_i l
 simp only[Xb,Xe]at h
 obtain⟨rfl,rfl⟩:=h
 refine ZCr hf (u:=.bool (Lib.validD l)) (by simp) (fun _ _=>by simp only[VR]) ?_
 intro base w0 I0 I V w vs R hv
 obtain⟨vs⟩:=vs
 simp only[VRs,VR]at hv
 obtain⟨v1,r1,e1,⟨rfl,hl⟩,rfl⟩:=hv
 subst e1
 refine(hc ⟨l.toArray⟩ w (by simpa[Ws]using hl) (ZGI R)).mono ?_
 grind
end
end
section
open Go.RowKit
def Zgb:List AVal->Option (List UInt8)
 | []=>some []
 | .int .u8 n::r=>if 0<=n/\n<256 then(Zgb r).map (UInt8.ofNat n.toNat::·)else none
 |_=>none
def Zid(G:Za):List AVal->Option (List (Option Nat×List UInt8))
 | []=>some []
 | .lst true []::r=>(Zid G r).map ((none,[])::·)
 | .sl t 0 0 n::r=>match G[t]? with
  |some (.row 0 1 xs)=>match Zgb xs with
   |some l=>if n=l.length/\l.length<=1099511627776 then(Zid G r).map ((some t,l)::·)else none
   |none=>none
  |_=>none
 |_=>none
def relB(G:Za):List Nat->Za
 | []=>G
 |t::ts=>relB (G.set t (.frow 0 1 [])) ts
def Ztz(G:Za)(tb nb:Nat):Option (AVal×Za):=match G[tb]? with
 |some (.rrow 0 1 xs)=>match Zid G xs with
  |some rows=>if nb=xs.length/\nb<=400/\(rows.filterMap (·.1)).Nodup then some (.bool true,relB G (rows.filterMap (·.1)))else none
  |none=>none
 |_=>none
def Zlr(args:List AVal)(G:Za):Option (AVal×Za):=match args with
 | [.ref 0 0]=>match(G[0]? : Option ZP)with
  |some (ZP.var (AVal.sl tb 0 0 nb::_))=>Ztz G tb nb
  |_=>none
 |_=>none
theorem ZyA:∀ l:List UInt8,Zgb (l.map Zh)=some l
 | []=>rfl
 |b::l=>by
  have:=b.toNat_lt
  simp only[Xu,Zh,Zgb]
  rw[if_pos (by omega),ZyA l]
  simp
theorem ZzO:∀ {xs:List AVal} {l:List UInt8},Zgb xs=some l->xs=l.map Zh
 | [],l,h=>by simp only[Zgb,Xb]at h;grind
 |x::xs,l,h=>by
  unfold Zgb at h
  split at h
  ·grind
  ·rename_i n r e
   injection e with e1 e2
   subst e1 e2
   split at h
   ·rename_i hn
    simp only[Xo]at h
    obtain⟨l',h,rfl⟩:=h
    rw[ZzO h]
    simp only[Xu,Zh,UInt8.toNat_ofNat']
    grind
   ·cases h
  ·cases h
theorem Zsc{G:Za}:∀ {xs:List AVal} {rows:List (Option Nat×List UInt8)},Zid G xs=some rows->rows.length=xs.length/\∀ (i:Nat) (o:Option Nat) (l:List UInt8),rows[i]?=some (o,l)->l.length<=1099511627776/\((o=none/\l=[]/\xs[i]?=some (.lst true []))\/∃ t ys,o=some t/\xs[i]?=some (.sl t 0 0 l.length)/\G[t]?=some (.row 0 1 ys)/\Zgb ys=some l)
 | [],rows,h=>by simp only[Zid,Xb]at h;grind
 |x::xs,rows,h=>by
  unfold Zid at h
  split at h
  ·grind
  ·rename_i r e
   injection e with e1 e2
   subst e1 e2
   simp only[Xo]at h
   obtain⟨rows',h,rfl⟩:=h
   obtain⟨h1,h2⟩:=Zsc h
   grind
  ·rename_i t n r e
   injection e with e1 e2
   subst e1 e2
   split at h
   ·rename_i ys hs
    split at h
    ·rename_i l hl
     split at h
     ·rename_i hn
      obtain⟨rfl,hn⟩:=hn
      simp only[Xo]at h
      obtain⟨rows',h,rfl⟩:=h
      obtain⟨h1,h2⟩:=Zsc h
      grind
     ·cases h
    ·cases h
   ·cases h
  ·cases h
theorem Zx7:∀ {ts:List Nat} {G:Za} {t:Nat} {x:ZP},(relB G ts)[t]?=some x->(t∈ts/\x=.frow 0 1 [])\/(t∉ts/\G[t]?=some x)
 | [],G,t,x,h=>Xt ⟨by simp,h⟩
 |u::ts,G,t,x,h=>by
  rcases Zx7 (ts:=ts) h with⟨h1,h2⟩ |⟨h1,h2⟩
  ·grind
  grind
end
end Go.Proofs.YtjhabjdfhmbanaaGreatDoor
