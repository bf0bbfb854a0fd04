/- packed -/
import Derived.Test.YtjhabjdfhmbanaaGreatDoorMq0
import Derived.Laws.Small
import Derived.Orders
import Derived.LoopN
import Derived.Scope
import Derived.Laws.Cover3
import Derived.Lib.Index
import Derived.Shelf.Unicode.ValidAny
import Derived.Shelf.Strings.Count
set_option linter.unusedSimpArgs false
set_option linter.unusedVariables false
open Option.some renaming injEq→Xb
open Prod.mk renaming injEq→Xe
open List renaming getD_eq_getElem?_getD→Xh,getElem?_set_ne→Xl,getD_cons_zero→Xm,getElem?_eq_some_iff→Xn,append_nil→Xr,getD_cons_succ→Xs,map_cons→Xu,length_nil→Xw,all_eq_true→Xy,map_nil→XC,mem_append→XE,replicate→XI,cons_append→XJ,getElem?_cons_zero→XK,mem_of_getElem?→XL,getElem?_set→XO,all_cons→XW,all_nil→XX,mem_cons→X0,mem_map→X7,isEmpty_nil→X8,lookup_cons→Wa,getElem?_eq_none→Wb,drop_eq_nil_of_le→Wg,contains_nil→Wh,set_comm→Wj,map_append→Wl,mem_flatMap→Wr,getElem?_append_right→Wv,getElem?_append_left→Wx,drop_eq_getElem_cons→WM,isEmpty_iff→WR,pairwise_append→W8,getElem?_map→Xab,mem_filter→Xac,pairwise_cons→Xam,any_eq_false→Xar,map_congr_left→Xax,range'→Xay,mapM_cons→XaW,mem_range→XaY,map_take→Xa1,range'_succ→Xa4,map_set→Xbg
open Bool renaming false_eq_true→Xi,and_eq_true→Xk,and_self→XT,false_and→Wi,or_eq_true→WH,true_or→WV,or_true→W7,false_ne_true→Xan,not_eq_true'→Xap,not_true→Xa0
open Option renaming map_eq_some_iff→Xo,map_some→X9,map→Wf,getD_some→Xau
open Or renaming inl→Xq,inr→Xt
open Nat renaming zero_add→XF,le_refl→XH,add_zero→X6,lt_or_ge→Wz,le_max_right→WS,le_max_left→WZ,sub_self→XaB,add_assoc→XaQ
open Array renaming length_toList→XU,getElem?_eq_some_iff→XZ,getD_eq_getD_getElem?→Wq,getD→WX,replicate→WY,toList_append→XaT,ext'→Xbd
open ByteArray renaming size→Ws
namespace Go.Proofs.YtjhabjdfhmbanaaGreatDoor
set_option maxHeartbeats 16000000
set_option maxRecDepth 10000
section
open Go.RowKit
section
variable {P:Program}{base:Nat->Prop}{w0 w w':World}{I0 I I':Imm}{V V':Bmap}{G G':Za}
def Zd1:TypeDesc->Option Nat
 | .int _=>some 0
 | .bool=>some 1
 | .string=>some 2
 |_=>none
theorem ZmH{P:Program}{t:TypeId}{kc:Nat}{z:AVal}(h:Zjq P t=some (kc,z)):∃ kt et d,P.underlying t=some (.map kt et)/\P.underlying kt=some d/\Zd1 d=some kc/\Zd9 P et=some z:=by
 unfold Zjq at h
 split at h
 case h_2=>cases h
 rename_i kt et ht
 split at h
 case h_2=>cases h
 rename_i kc' z' hk hz
 simp only[Xb,Xe]at h
 obtain⟨rfl,rfl⟩:=h
 unfold ZhJ at hk
 split at hk
 ·rename_i e;injection hk with hk;subst hk;exact⟨kt,et,_,ht,e,rfl,hz⟩
 ·rename_i e;injection hk with hk;subst hk;exact⟨kt,et,_,ht,e,rfl,hz⟩
 ·rename_i e;injection hk with hk;subst hk;exact⟨kt,et,_,ht,e,rfl,hz⟩
 ·cases hk
theorem ZzR{l l':List UInt8}:((⟨l.toArray⟩:ByteArray)==⟨l'.toArray⟩)=(l==l'):=by
 rw[beq_toListBytes,Zns,Zns]
theorem Zyq{d:TypeDesc}{x y:AVal}{vx vy:Value}{b:Bool}(hd:Zd1 d=some (Zbu x))(h:ZgR x y=some b)(hx:VR I V x vx)(hy:VR I V y vy):Instr.sameNow d vx vy=some b:=by
 unfold ZgR at h
 split at h
 ·rename_i k n k' m
  split at h
  case isFalse=>cases h
  rename_i hk
  subst hk
  injection h with h
  subst h
  simp only[VR]at hx hy
  subst hx hy
  cases d<;>simp[Zd1,Zbu]at hd
  simp[Instr.sameNow]
 ·injection h with h
  subst h
  simp only[VR]at hx hy
  subst hx hy
  cases d<;>simp[Zd1,Zbu]at hd
  simp[Instr.sameNow]
 ·rename_i l l'
  injection h with h
  subst h
  simp only[VR]at hx hy
  rw[hx.1,hy.1]
  cases d<;>simp[Zd1,Zbu]at hd
  simp only[Instr.sameNow,ZzR]
 ·cases h
theorem ZNO{x y:AVal}{vx vy:Value}(h:ZgR x y=some true)(hx:VR I V x vx)(hy:VR I V y vy):Instr.sameBits 10000 vy vx=true/\vx=vy:=by
 unfold ZgR at h
 split at h
 ·rename_i k n k' m
  split at h
  case isFalse=>cases h
  rename_i hk
  subst hk
  simp only[Xb,beq_iff_eq]at h
  subst h
  simp only[VR]at hx hy
  subst hx hy
  exact⟨by simp[Instr.sameBits],rfl⟩
 ·simp only[Xb,beq_iff_eq]at h
  subst h
  simp only[VR]at hx hy
  subst hx hy
  exact⟨by simp[Instr.sameBits],rfl⟩
 ·simp only[Xb,beq_iff_eq]at h
  subst h
  simp only[VR]at hx hy
  rw[hx.1,hy.1]
  exact⟨by simp only[Instr.sameBits,ZzR,beq_self_eq_true],rfl⟩
 ·cases h
theorem ZhY{d:TypeDesc}{x:AVal}{vx:Value}(hd:Zd1 d=some (Zbu x))(hx:VR I V x vx):∀ (es:List (AVal×AVal)) (arr:List MapEntry) (i:Nat) (r:Option (Nat×AVal)),VRs I V (es.map (·.1)) (arr.map (·.key))->VRs I V (es.map (·.2)) (arr.map (·.val))->ZiA x es i=some r ->
  (r=none/\Instr.findNow d vx arr i=some none) \/
  ∃ j y e p,r=some (i+j,y)/\Instr.findNow d vx arr i=some (some (i+j,e.val))/\arr[j]?=some e/\es[j]?=some p/\p.2=y/\VR I V y e.val/\ZgR x p.1=some true/\VR I V p.1 e.key
 | [],arr,i,r,hk,_,h=>by
  unfold ZiA at h
  injection h with h
  subst h
  simp only[XC,VRs,List.map_eq_nil_iff]at hk
  subst hk
  exact Xq ⟨rfl,by simp[Instr.findNow]⟩
 |(k,y)::es,arr,i,r,hk,hv,h=>by
  unfold ZiA at h
  cases arr with
  |nil =>
   simp only[Xu,XC,VRs]at hk
   grind
  |cons e arr =>
  simp only[Xu,VRs]at hk hv
  obtain⟨_,_,ek,k1,k2⟩:=hk
  injection ek with ek1 ek2
  subst ek1 ek2
  obtain⟨_,_,ev,v1,v2⟩:=hv
  injection ev with ev1 ev2
  subst ev1 ev2
  split at h
  ·rename_i ha
   injection h with h
   subst h
   refine Xt ⟨0,y,e,(k,y),rfl,?_,rfl,rfl,rfl,v1,ha,k1⟩
   simp only[Instr.findNow,Zyq hd ha hx k1,X6]
  ·rename_i ha
   have hn:=Zyq hd ha hx k1
   rcases ZhY hd hx es arr (i+1) r k2 v2 h with⟨h1,h2⟩ |⟨j,y',e',p',h1,h2,h3,h4,h5⟩
   ·exact Xq ⟨h1,by simp only[Instr.findNow,hn];exact h2⟩
   ·refine Xt ⟨j+1,y',e',p',by grind,?_,by grind,by grind,h5⟩
    simp only[Instr.findNow,hn]
    grind
  ·cases h
theorem Zhv{kt:TypeId}{d:TypeDesc}{kc:Nat}(hk:P.underlying kt=some d)(hd:Zd1 d=some kc)(e:Bool)(v:Value):(Instr.checkKey e 10000 kt v).run P w=.ok () w:=by
 show(Instr.checkKey e (9999+1) kt v).run P w=_
 unfold Instr.checkKey
 rw[Sem.run_bind,run_underlying hk]
 cases d<;>simp[Zd1]at hd<;>rfl
theorem Zh7{kt:TypeId}{d:TypeDesc}(hk:P.underlying kt=some d){v:Value}{arr:List MapEntry}{r:Option (Nat×Value)}(h:Instr.findNow d v arr 0=some r):(Instr.findKey kt v arr).run P w=.ok r w:=by
 unfold Instr.findKey
 rw[Sem.run_bind,run_underlying hk]
 simp only[Result.andThen_ok,h,Sem.run_pure]
theorem ZMj{e:TypeId}{z:AVal}(hz:Zd9 P e=some z):∃ v,(zeroValue e).run P w=.ok v w/\VR I V z v:=by
 unfold Zd9 at hz
 split at hz
 case h_2=>cases hz
 rename_i i hi
 split at hz
 case h_2=>cases hz
 rename_i v hv
 exact⟨v,by simp[zeroValue,typeInfo,hi,hv],(Zgd hz).1⟩
theorem Znt{b:Nat}{arr:Array MapEntry}{clk:Nat}(h:w.heap[b]?=some (.map arr clk)):(getObj b).run P w=.ok (.map arr clk) w:=by simp[getObj,Sem.run,h]
theorem ZjO:VR I V (.tup []) undef:=by simp[VR,VRs,undef]
theorem Zuc{x:AVal}{v:Value}(b:Bool)(h:VR I V x v):VR I V (.tup [x,.bool b]) (.tuple #[v,.bool b]):=by
 simp only[VR]
 exact⟨_,rfl,by simp only[VRs];exact⟨_,_,rfl,h,_,_,rfl,rfl,rfl⟩⟩
theorem ZIA(R:Rel base w0 I0 I V G w){t kt et:TypeId}(ht:P.underlying t=some (.map kt et)){d:TypeDesc}(hdk:P.underlying kt=some d){kc:Nat}(hd:Zd1 d=some kc){z:AVal}(hz:Zd9 P et=some z){ok:Bool}{m k v:AVal}{vm vk:Value}{c:Cls}(hm:VR I V m vm)(hk:VR I V k vk)
  (h:Zf9 G kc z ok m k=some (v,G',c)):G'=G/\∃ u,(Instr.lookup t vm vk ok).run P w=.ok u w/\VR I V v u:=by
 obtain⟨vz,hvz,hzr⟩:=ZMj (P:=P) (w:=w) (I:=I) (V:=V) hz
 unfold Zf9 at h
 split at h
 case isFalse=>cases h
 rename_i hkc
 have hd':Zd1 d=some (Zbu k):=by rw[hd,hkc]
 split at h
 ·simp only[Xb,Xe]at h
  obtain⟨rfl,rfl,rfl⟩:=h
  simp only[VR]at hm
  subst hm
  have hf:=Zh7 (P:=P) (w:=w) hdk (v:=vk) (arr:=[]) (r:=none) (by simp[Instr.findNow])
  refine⟨rfl,if ok then .tuple #[vz,.bool false]else vz,?_,?_⟩
  ·simp[Instr.lookup,run_underlying ht,Zhv hdk hd,hf,hvz]
  ·cases ok
   ·exact hzr
   ·exact Zuc false hzr
 ·rename_i b
  simp only[VR]at hm
  obtain⟨bb,kk,cc,hb,rfl⟩:=hm
  split at h
  case h_2=>cases h
  rename_i es hs
  obtain⟨b',k',c',arr,clk,e1,e2,e3,e4,_⟩:=R.blk _ _ hs
  rw[hb]at e1
  simp only[Xb,BI.mk.injEq]at e1
  obtain⟨rfl,rfl,rfl⟩:=e1
  have hg:=Znt (P:=P) e2
  split at h
  ·rename_i j y hf
   simp only[Xb,Xe]at h
   obtain⟨rfl,rfl,rfl⟩:=h
   rcases ZhY hd' hk es arr.toList 0 _ e3 e4 hf with⟨h1,_⟩ |⟨j',y',e,p,h1,h2,_,_,_,h5,_⟩
   ·cases h1
   ·injection h1 with h1
    injection h1 with h1 h1'
    subst h1'
    have hr:=Zh7 (P:=P) (w:=w) hdk h2
    refine⟨rfl,if ok then .tuple #[e.val,.bool true]else e.val,?_,?_⟩
    ·simp[Instr.lookup,run_underlying ht,Zhv hdk hd,hg,hr]
    ·cases ok
     ·exact h5
     ·exact Zuc true h5
  ·rename_i hf
   simp only[Xb,Xe]at h
   obtain⟨rfl,rfl,rfl⟩:=h
   rcases ZhY hd' hk es arr.toList 0 _ e3 e4 hf with⟨_,h2⟩ |⟨j',y',e,p,h1,_⟩
   ·have hr:=Zh7 (P:=P) (w:=w) hdk h2
    refine⟨rfl,if ok then .tuple #[vz,.bool false]else vz,?_,?_⟩
    ·simp[Instr.lookup,run_underlying ht,Zhv hdk hd,hg,hr,hvz]
    ·cases ok
     ·exact hzr
     ·exact Zuc false hzr
   ·cases h1
  ·cases h
 ·cases h
theorem Zop(R:Rel base w0 I0 I V G w){t b k c:Nat}{es es':List (AVal×AVal)}(hs:G[t]?=some (.map es))(hb:V t 0=some ⟨some b,k,c⟩){arr':Array MapEntry}{clk':Nat}(hk:VRs I V (es'.map (·.1)) (arr'.toList.map (·.key)))(hv:VRs I V (es'.map (·.2)) (arr'.toList.map (·.val)))(hA:∀ p∈es',ZlF p.1=true)(hS:Zsm arr' clk')(hlt:b<w.heap.size) :
  Rel base w0 I0 I V (G.set t (.map es')) { w with heap:=w.heap.setIfInBounds b (.map arr' clk') } :=
 R.putObj hs (by simp[ZJ,hb]) (by simp[ZJ,hb]) _ ⟨b,k,c,arr',clk',hb,by grind,hk,hv,hA,hS⟩ rfl
theorem ZmE(arr:Array MapEntry)(i:Nat)(f:MapEntry->MapEntry):(arr.modify i f).toList=arr.toList.modify i f:=by simp
theorem Zrk{D V:Type}(g:D->V)(f:D->D)(v:V)(hf:∀ x,g (f x)=v):∀ (l:List D) (i:Nat),(l.modify i f).map g=(l.map g).set i v
 | [],i=>by simp
 |x::l,0=>by simp[hf]
 |x::l,i+1=>by simp[Zrk g f v hf l i]
theorem Zrv{D V:Type}(g:D->V)(f:D->D)(hf:∀ x,g (f x)=g x):∀ (l:List D) (i:Nat),(l.modify i f).map g=l.map g
 | [],i=>by simp
 |x::l,0=>by simp[hf]
 |x::l,i+1=>by simp[Zrv g f hf l i]
theorem ZmB{b:Nat}{arr:Array MapEntry}{clk:Nat}{o':Obj}(h:w.heap[b]?=some (.map arr clk)):(setObj b o').run P w=.ok () { w with heap:=w.heap.setIfInBounds b o' }:=by simp[setObj,Sem.run,h]
theorem ZpC:∀ {xs:List AVal} {vs:List Value} (i:Nat),VRs I V xs vs->VRs I V (xs.eraseIdx i) (vs.eraseIdx i)
 | [],vs,i,h=>by simp only[VRs]at h;subst h;simp[VRs]
 |x::xs,vs,0,h=>by
  simp only[VRs]at h
  grind
 |x::xs,vs,i+1,h=>by
  simp only[VRs]at h
  obtain⟨v,vs',rfl,h1,h⟩:=h
  simp only[List.eraseIdx_cons_succ,VRs]
  exact⟨v,_,rfl,h1,ZpC i h⟩
theorem ZjU{D V:Type}(g:D->V):∀ (l:List D) (i:Nat),(l.eraseIdx i).map g=(l.map g).eraseIdx i
 | [],i=>by simp
 |x::l,0=>by simp
 |x::l,i+1=>by simp[ZjU g l i]
theorem Zxx(R:Rel base w0 I0 I V G w){t kt et:TypeId}(ht:P.underlying t=some (.map kt et)){d:TypeDesc}(hdk:P.underlying kt=some d){kc:Nat}(hd:Zd1 d=some kc){m k x v:AVal}{vm vk vx:Value}{c:Cls}(hm:VR I V m vm)(hk:VR I V k vk)(hx:VR I V x vx)
  (h:ZnA G kc m k x=some (v,G',c)):v=.tup []/\∃ w',(Instr.mapUpdate t vm vk vx).run P w=.ok () w'/\Rel base w0 I0 I V G' w':=by
 unfold ZnA at h
 split at h
 case isFalse=>cases h
 rename_i hkc
 obtain⟨hkc,hkA,_⟩:=hkc
 have hd':Zd1 d=some (Zbu k):=by rw[hd,hkc]
 split at h
 case h_2=>cases h
 rename_i b
 simp only[VR]at hm
 obtain⟨bb,kk,cc,hb,rfl⟩:=hm
 split at h
 case h_2=>cases h
 rename_i es hs
 obtain⟨b',k',c',arr,clk,e1,e2,e3,e4,e5,e6,e7⟩:=R.blk _ _ hs
 have hb0:=hb
 rw[hb]at e1
 simp only[Xb,BI.mk.injEq]at e1
 obtain⟨rfl,rfl,rfl⟩:=e1
 have hg:=Znt (P:=P) e2
 have hlt:bb<w.heap.size:=(XZ.1 e2).1
 split at h
 ·rename_i j y hf
  simp only[Xb,Xe]at h
  obtain⟨rfl,rfl,rfl⟩:=h
  rcases ZhY hd' hk es arr.toList 0 _ e3 e4 hf with⟨h1,_⟩ |⟨j',y',e,p,h1,h2,h3,h4,_,h5,h6,h7⟩
  ·cases h1
  ·simp only[XF]at h1 h2
   injection h1 with h1
   injection h1 with h1 h1'
   subst h1 h1'
   have hr:=Zh7 (P:=P) (w:=w) hdk h2
   obtain⟨sb,_⟩:=ZNO h6 hk h7
   have h3':arr[j]?=some e:=by rw[<-Array.getElem?_toList];exact h3
   have hst:(Instr.keyThatStays (((arr[j]?).map (·.key)).getD vk) vk).run P w=.ok vk w:=by
    rw[h3']
    simp[Instr.keyThatStays,sb]
   refine⟨rfl,_,?_,Zop R hs hb0 (arr':=arr.modify j fun e=>{ e with key:=vk,val:=vx }) (clk':=clk) ?_ ?_ ?_ ?_ hlt⟩
   ·simp only[Instr.mapUpdate,run_underlying ht,Zhv hdk hd,hg,hr,hst,Sem.run_bind,Result.andThen_ok,ZmB e2]
   ·rw[ZmE,Zrk (fun x:MapEntry=>x.key) _ vk (fun _=>rfl),Xbg]
    exact Zz5 e3 hk j
   ·rw[ZmE,Zrk (fun x:MapEntry=>x.val) _ vx (fun _=>rfl),Xbg]
    exact Zz5 e4 hx j
   ·grind
   ·refine⟨fun e he=>?_,?_⟩
    ·rw[ZmE]at he
     have hm:e.born∈(arr.toList.modify j fun e=>{ e with key:=vk,val:=vx }).map (·.born):=X7.2 ⟨e,he,rfl⟩
     rw[Zrv (fun x:MapEntry=>x.born) (fun e:MapEntry=>{ e with key:=vk,val:=vx }) (fun _=>rfl)]at hm
     obtain⟨e',he',hb'⟩:=X7.1 hm
     rw[<-hb'];exact e6 e' he'
    ·rw[ZmE,Zrv (fun x:MapEntry=>x.born) (fun e:MapEntry=>{ e with key:=vk,val:=vx }) (fun _=>rfl)]
     exact e7
 ·rename_i hf
  simp only[Xb,Xe]at h
  obtain⟨rfl,rfl,rfl⟩:=h
  rcases ZhY hd' hk es arr.toList 0 _ e3 e4 hf with⟨_,h2⟩ |⟨j',y',e,p,h1,_⟩
  ·have hr:=Zh7 (P:=P) (w:=w) hdk h2
   refine⟨rfl,_,?_,Zop R hs hb0 (arr':=arr.push { key:=vk,val:=vx,born:=clk }) (clk':=clk+1) ?_ ?_ ?_ ?_ hlt⟩
   ·simp only[Instr.mapUpdate,run_underlying ht,Zhv hdk hd,hg,hr,Sem.run_bind,Result.andThen_ok,ZmB e2]
   ·rw[Array.toList_push,Wl,Wl]
    exact Zc2 e3 (by simp only[Xu,XC,VRs];grind)
   ·rw[Array.toList_push,Wl,Wl]
    exact Zc2 e4 (by simp only[Xu,XC,VRs];grind)
   ·grind
   ·refine⟨fun e he=>?_,?_⟩
    ·grind
    grind
  ·cases h1
 ·cases h
theorem ZCs(R:Rel base w0 I0 I V G w){t kt et:TypeId}(ht:P.underlying t=some (.map kt et)){d:TypeDesc}(hdk:P.underlying kt=some d){kc:Nat}(hd:Zd1 d=some kc){m k v:AVal}{vm vk:Value}{c:Cls}(ts:List TypeId)(ty:TypeId)(hm:VR I V m vm)(hk:VR I V k vk)
  (h:Zk2 G kc m k=some (v,G',c)):∃ w',(Builtin.delete_ (t::ts).toArray ty #[vm,vk]).run P w=.ok (.tuple #[]) w'/\v=.tup []/\Rel base w0 I0 I V G' w':=by
 unfold Zk2 at h
 split at h
 case isFalse=>cases h
 rename_i hkc
 have hd':Zd1 d=some (Zbu k):=by rw[hd,hkc]
 split at h
 ·simp only[Xb,Xe]at h
  obtain⟨rfl,rfl,rfl⟩:=h
  simp only[VR]at hm
  subst hm
  exact⟨w,by simp[Builtin.delete_,run_underlying ht,Zhv hdk hd],rfl,R⟩
 ·rename_i b
  simp only[VR]at hm
  obtain⟨bb,kk,cc,hb,rfl⟩:=hm
  split at h
  case h_2=>cases h
  rename_i es hs
  obtain⟨b',k',c',arr,clk,e1,e2,e3,e4,e5,e6,e7⟩:=R.blk _ _ hs
  have hb0:=hb
  rw[hb]at e1
  simp only[Xb,BI.mk.injEq]at e1
  obtain⟨rfl,rfl,rfl⟩:=e1
  have hg:=Znt (P:=P) e2
  have hlt:bb<w.heap.size:=(XZ.1 e2).1
  split at h
  ·rename_i j y hf
   simp only[Xb,Xe]at h
   obtain⟨rfl,rfl,rfl⟩:=h
   rcases ZhY hd' hk es arr.toList 0 _ e3 e4 hf with⟨h1,_⟩ |⟨j',y',e,p,h1,h2,h3,h4,_⟩
   ·cases h1
   ·simp only[XF]at h1 h2
    injection h1 with h1
    injection h1 with h1 h1'
    subst h1 h1'
    have hr:=Zh7 (P:=P) (w:=w) hdk h2
    have el:(arr.eraseIdxIfInBounds j).toList=arr.toList.eraseIdx j:=by simp
    refine⟨_,?_,rfl,Zop R hs hb0 (arr':=arr.eraseIdxIfInBounds j) (clk':=clk) ?_ ?_ ?_ ?_ hlt⟩
    ·simp[Builtin.delete_,run_underlying ht,Zhv hdk hd,hg,hr,ZmB e2]
    ·rw[el,ZjU,ZjU];exact ZpC j e3
    ·rw[el,ZjU,ZjU];exact ZpC j e4
    ·exact fun q hq=>e5 q (List.mem_of_mem_eraseIdx hq)
    ·refine⟨fun e he=>?_,?_⟩
     ·grind
     grind
  ·rename_i hf
   simp only[Xb,Xe]at h
   obtain⟨rfl,rfl,rfl⟩:=h
   rcases ZhY hd' hk es arr.toList 0 _ e3 e4 hf with⟨_,h2⟩ |⟨j',y',e,p,h1,_⟩
   ·have hr:=Zh7 (P:=P) (w:=w) hdk h2
    refine⟨_,?_,rfl,Zop R hs hb0 (arr':=arr) (clk':=clk) e3 e4 e5 ⟨e6,e7⟩ hlt⟩
    simp[Builtin.delete_,run_underlying ht,Zhv hdk hd,hg,hr,ZmB e2]
   ·cases h1
  ·cases h
 ·cases h
theorem ZKJ(R:Rel base w0 I0 I V G w){t kt et:TypeId}(ht:P.underlying t=some (.map kt et)){m v:AVal}{vm:Value}{c:Cls}(ty:TypeId)(hm:VR I V m vm)(h:Zir G m=some (v,G',c)):G'=G/\∃ u,(Builtin.len_ #[t] ty #[vm]).run P w=.ok u w/\VR I V v u:=by
 unfold Zir at h
 split at h
 ·simp only[Xb,Xe]at h
  obtain⟨rfl,rfl,rfl⟩:=h
  simp only[VR]at hm
  subst hm
  exact⟨rfl,goInt 0,by simp[Builtin.len_,run_underlying ht],by simp[VR,goInt]⟩
 ·rename_i b
  simp only[VR]at hm
  obtain⟨bb,kk,cc,hb,rfl⟩:=hm
  split at h
  case h_2=>cases h
  rename_i es hs
  simp only[Xb,Xe]at h
  obtain⟨rfl,rfl,rfl⟩:=h
  obtain⟨b',k',c',arr,clk,e1,e2,e3,_⟩:=R.blk _ _ hs
  rw[hb]at e1
  simp only[Xb,BI.mk.injEq]at e1
  obtain⟨rfl,rfl,rfl⟩:=e1
  have hg:=Znt (P:=P) e2
  have hl:es.length=arr.size:=by simpa using ZaP e3
  exact⟨rfl,goInt arr.size,by simp[Builtin.len_,run_underlying ht,hg],by simp[VR,goInt,hl]⟩
 ·cases h
theorem ZVi(R:Rel base w0 I0 I V G w)(hb:KLt base w0)(t:TypeId){sq:Nat}(hs:G[sq]?=some .free) :
  ∃ u w',(Instr.makeMap t none).run P w=.ok u w'/\Post base w0 I0 I V (.map sq) (G.set sq (.map [])) u w':=by
 obtain⟨R',hle⟩:=R.newObj hb hs (.map #[] 0) (.map []) 1 1 (by simp[ZJ,Bmap.put_same]) rfl (by simp)
  ⟨_,_,_,#[],0,Bmap.put_same V sq 0 _,by simp,by simp[VRs],by simp[VRs],by simp,by simp[Zsm]⟩
 refine⟨.map (some w.heap.size),_,run_makeMap t w,Post.mk (Imm.le.refl I) hle R' ?_⟩
 simp only[VR]
 exact⟨_,_,_,Bmap.put_same V sq 0 _,rfl⟩
end
end
section
open Go.RowKit
section
variable {P:Program}{base:Nat->Prop}{w0 w w':World}{I0 I I':Imm}{V V':Bmap}{G G':Za}{tm:Tms}
theorem Zhe{D:Type}{x:Option D}{f:D->AVal×Za×Cls}{y:AVal×Za×Cls}(h:x.map f=some y):∃ a,x=some a/\f a=y:=by simpa[Xo]using h
theorem ZPz{t:TypeId}(hu:P.underlying t=some .bool)(p q:Bool)(x y:Operand):(do eqGuard .eql t x y (.bool p) (.bool q);binOp .eql t (.bool p) (.bool q):Sem Value).run P w=.ok (.bool ((p==q) != false)) w:=by
 have h1:(eqGuard .eql t x y (.bool p) (.bool q)).run P w=.ok () w:=by simp[eqGuard]
 simp only[Sem.run_bind,h1,Result.andThen_ok,run_eql_bool w t p q hu]
 cases p<;>cases q<;>rfl
theorem ZTo{t:TypeId}(hu:P.underlying t=some .bool)(p q:Bool)(x y:Operand):(do eqGuard .neq t x y (.bool p) (.bool q);binOp .neq t (.bool p) (.bool q):Sem Value).run P w=.ok (.bool ((p==q) != true)) w:=by
 have h1:(eqGuard .neq t x y (.bool p) (.bool q)).run P w=.ok () w:=by simp[eqGuard]
 have h2:(binOp .neq t (.bool p) (.bool q)).run P w=.ok (.bool (!(p==q))) w:=by
  simp only[binOp,Sem.run_bind,run_equal_bool w t p q hu,Result.andThen_ok,Sem.run_pure]
 simp only[Sem.run_bind,h1,Result.andThen_ok,h2]
 cases p<;>cases q<;>rfl
theorem Zzp{t e:TypeId}(hu:P.underlying t=some (.pointer e))(p q:Option Addr)(hpq:p=none\/q=none):(Op.equal t (.pointer p) (.pointer q)).run P w=.ok (p.isNone&&q.isNone) w:=by
 show(Op.equalIn (9999+1) t (.pointer p) (.pointer q)).run P w=_
 unfold Op.equalIn
 rw[Sem.run_bind,run_underlying hu]
 simp only[Result.andThen_ok]
 rcases hpq with rfl |rfl
 ·cases q<;>simp
 ·cases p<;>simp
theorem Zuu{t e:TypeId}(hu:P.underlying t=some (.pointer e))(p q:Option Addr)(x y:Operand)(hpq:p=none\/q=none):(do eqGuard .eql t x y (.pointer p) (.pointer q);binOp .eql t (.pointer p) (.pointer q):Sem Value).run P w=.ok (.bool ((p.isNone&&q.isNone) != false)) w:=by
 have h1:(eqGuard .eql t x y (.pointer p) (.pointer q)).run P w=.ok () w:=by simp[eqGuard]
 simp only[Sem.run_bind,h1,Result.andThen_ok,binOp,Zzp hu p q hpq,Sem.run_pure]
 simp
theorem Zrj{t e:TypeId}(hu:P.underlying t=some (.pointer e))(p q:Option Addr)(x y:Operand)(hpq:p=none\/q=none):(do eqGuard .neq t x y (.pointer p) (.pointer q);binOp .neq t (.pointer p) (.pointer q):Sem Value).run P w=.ok (.bool ((p.isNone&&q.isNone) != true)) w:=by
 have h1:(eqGuard .neq t x y (.pointer p) (.pointer q)).run P w=.ok () w:=by simp[eqGuard]
 simp only[Sem.run_bind,h1,Result.andThen_ok,binOp,Zzp hu p q hpq,Sem.run_pure]
 simp
theorem ZAr{t:TypeId}{ms}(hu:P.underlying t=some (.interface ms))(neg:Bool){op:BinOp}(x:Operand)(vy:Value)(hop:op=(if neg then .neq else .eql)):(do eqGuard op t x (.const vy) .nilIface .nilIface;binOp op t .nilIface .nilIface:Sem Value).run P w=.ok (.bool (true != neg)) w:=by
 have h1:(eqGuard op t x (.const vy) .nilIface .nilIface).run P w=.ok () w:=by subst hop;cases neg<;>simp[eqGuard]
 have h2:(Op.equal t .nilIface .nilIface).run P w=.ok true w:=by
  show(Op.equalIn (9999+1) t .nilIface .nilIface).run P w=_
  unfold Op.equalIn
  rw[Sem.run_bind,run_underlying hu]
  simp only[Result.andThen_ok]
  rfl
 subst hop
 cases neg
 ·simp only[Xi,if_false]at h1 ⊢
  simp[h1,h2,binOp]
 ·simp only[if_true]at h1 ⊢
  simp[h1,h2,binOp]
theorem ZyD{t t1:TypeId}{u:Value}{ms}(hu:P.underlying t=some (.interface ms))(neg:Bool){op:BinOp}(x:Operand)(vy:Value)(hop:op=(if neg then .neq else .eql)):(do eqGuard op t x (.const vy) (.iface t1 u) .nilIface;binOp op t (.iface t1 u) .nilIface:Sem Value).run P w=.ok (.bool (false != neg)) w:=by
 have h1:(eqGuard op t x (.const vy) (.iface t1 u) .nilIface).run P w=.ok () w:=by subst hop;cases neg<;>simp[eqGuard]
 have h2:(Op.equal t (.iface t1 u) .nilIface).run P w=.ok false w:=by
  show(Op.equalIn (9999+1) t (.iface t1 u) .nilIface).run P w=_
  unfold Op.equalIn
  rw[Sem.run_bind,run_underlying hu]
  simp only[Result.andThen_ok]
  rfl
 subst hop
 cases neg
 ·simp only[Xi,if_false]at h1 ⊢
  simp[h1,h2,binOp]
 ·simp only[if_true]at h1 ⊢
  simp[h1,h2,binOp]
def OpR(P:Program)(s:Sem Next)(w:World)(base:Nat->Prop)(w0:World)(I0 I:Imm)(V:Bmap)(v:AVal)(G':Za):Prop :=
 OpOk P s w (Post base w0 I0 I V v G')\/∃ x,v=.pan x/\OpPan P s w (Post base w0 I0 I V x G')
theorem OpR.of_call{s:Sem Next}{f:FuncId}{args:Array Value}{v:AVal}(h:s.run P w=.ok (.enter f args) w)(hc:Calls P f args w (fun e w'=>∃ u,Ends v e u/\Post base w0 I0 I V (ZaY v) G' u w')):OpR P s w base w0 I0 I V v G':=by
 by_cases hp:∃ x,v=.pan x
 ·obtain⟨x,rfl⟩:=hp
  exact Xt ⟨x,rfl,Xt ⟨f,args,w,h,hc.mono fun e w' ⟨u,h1,h2⟩=>⟨u,h1,h2⟩⟩⟩
 ·have hn:∀ x,v≠.pan x:=fun x e=>hp ⟨x,e⟩
  refine Xq (Xt (Xt ⟨f,args,w,h,hc.mono fun e w' ⟨u,h1,h2⟩=>⟨u,?_,by rw[ZgD hn]at h2;exact h2⟩⟩))
  cases v<;>first |exact h1 |grind
theorem ZKS{O:ZS}(hO:ZaN P O){bf:Nat->Bool}{an:Ann}{a:Act}{o:Oper}{own:Nat}{ins:Ins}(x:Operand)(ho:o.op=.move x)(hc:Zad P an own (.move x)=some ins)(T:TR I V tm a.tmps)(R:Rel base w0 I0 I V G w)(hb:KLt base w0)
  {sq:Nat} (hsite:nsite ins≠0->G[sq]?=some .free) {v:AVal} {c:Cls} (h:execI O bf tm G sq ins=some (v,G',c)):OpOk P (execOp a.eval o) w (Post base w0 I0 I V v G'):=by
 rw[show execOp a.eval o=(pure (.value (a.eval x)):Sem Next)by unfold execOp;rw[ho]]
 simp only[Zad]at hc
 simp only[Xo]at hc
 obtain⟨y,hy,rfl⟩:=hc
 simp only[execI,Xb,Xe]at h
 obtain⟨rfl,rfl,rfl⟩:=h
 exact Xq ⟨_,w,rfl,Post.here R (Zay T hy)⟩
theorem ZPh{O:ZS}(hO:ZaN P O){bf:Nat->Bool}{an:Ann}{a:Act}{o:Oper}{own:Nat}{ins:Ins}(x:Operand)(ho:o.op=.assign x)(hc:Zad P an own (.assign x)=some ins)(T:TR I V tm a.tmps)(R:Rel base w0 I0 I V G w)(hb:KLt base w0)
  {sq:Nat} (hsite:nsite ins≠0->G[sq]?=some .free) {v:AVal} {c:Cls} (h:execI O bf tm G sq ins=some (v,G',c)):OpOk P (execOp a.eval o) w (Post base w0 I0 I V v G'):=by
 rw[show execOp a.eval o=(pure (.value (a.eval x)):Sem Next)by unfold execOp;rw[ho]]
 simp only[Zad]at hc
 simp only[Xo]at hc
 obtain⟨y,hy,rfl⟩:=hc
 simp only[execI,Xb,Xe]at h
 obtain⟨rfl,rfl,rfl⟩:=h
 exact Xq ⟨_,w,rfl,Post.here R (Zay T hy)⟩
theorem ZQO{O:ZS}(hO:ZaN P O){bf:Nat->Bool}{an:Ann}{a:Act}{o:Oper}{own:Nat}{ins:Ins}(x:Operand)(y:Operand)(z:Operand)(ho:o.op=.pick x y z)(hc:Zad P an own (.pick x y z)=some ins)(T:TR I V tm a.tmps)(R:Rel base w0 I0 I V G w)(hb:KLt base w0)
  {sq:Nat} (hsite:nsite ins≠0->G[sq]?=some .free) {v:AVal} {c:Cls} (h:execI O bf tm G sq ins=some (v,G',c)):OpOk P (execOp a.eval o) w (Post base w0 I0 I V v G'):=by
 rw[show execOp a.eval o=(do pure (.value (if <-asBool (a.eval x)then a.eval y else a.eval z)):Sem Next)by unfold execOp;rw[ho]]
 simp only[Zad]at hc
 split at hc
 ·rename_i c' a' b' hx hy hz
  injection hc with hc;subst hc
  have hx':=Zay T hx
  simp only[execI]at h
  unfold Zhq at h
  split at h
  ·rename_i e
   rw[e]at hx';simp only[VR]at hx'
   simp only[Xb,Xe]at h
   obtain⟨rfl,rfl,rfl⟩:=h
   exact Xq ⟨_,w,by simp[hx',asBool],Post.here R (Zay T hy)⟩
  ·rename_i e
   rw[e]at hx';simp only[VR]at hx'
   simp only[Xb,Xe]at h
   obtain⟨rfl,rfl,rfl⟩:=h
   exact Xq ⟨_,w,by simp[hx',asBool],Post.here R (Zay T hz)⟩
  ·cases h
 ·cases hc
theorem ZMV{O:ZS}(hO:ZaN P O){bf:Nat->Bool}{an:Ann}{a:Act}{o:Oper}{own:Nat}{ins:Ins}(e:TypeId)(ho:o.op=.alloc e)(hc:Zad P an own (.alloc e)=some ins)(T:TR I V tm a.tmps)(R:Rel base w0 I0 I V G w)(hb:KLt base w0)
  {sq:Nat} (hsite:nsite ins≠0->G[sq]?=some .free) {v:AVal} {c:Cls} (h:execI O bf tm G sq ins=some (v,G',c)):OpOk P (execOp a.eval o) w (Post base w0 I0 I V v G'):=by
 rw[show execOp a.eval o=(do pure (.value (<-Instr.alloc e true (.tuple #[]))):Sem Next)by unfold execOp;rw[ho]]
 simp only[Zad]at hc
 simp only[Xo]at hc
 obtain⟨z,hz,rfl⟩:=hc
 simp only[execI,Xb,Xe]at h
 obtain⟨rfl,rfl,rfl⟩:=h
 exact OpOk.val (ZBf R hb hz (hsite (by simp[nsite])))
theorem ZG6{O:ZS}(hO:ZaN P O){bf:Nat->Bool}{an:Ann}{a:Act}{o:Oper}{own:Nat}{ins:Ins}(e:TypeId)(x:Operand)(ho:o.op=.box e x)(hc:Zad P an own (.box e x)=some ins)(T:TR I V tm a.tmps)(R:Rel base w0 I0 I V G w)(hb:KLt base w0)
  {sq:Nat} (hsite:nsite ins≠0->G[sq]?=some .free) {v:AVal} {c:Cls} (h:execI O bf tm G sq ins=some (v,G',c)):OpOk P (execOp a.eval o) w (Post base w0 I0 I V v G'):=by
 rw[show execOp a.eval o=(do pure (.value (<-Instr.box e (a.eval x))):Sem Next)by unfold execOp;rw[ho]]
 simp only[Zad]at hc
 simp only[Xo]at hc
 obtain⟨y,hy,rfl⟩:=hc
 simp only[execI]at h
 split at h
 ·cases h
 ·cases h
 ·cases h
 ·rename_i _ hnt _
  simp only[Xb,Xe]at h
  obtain⟨rfl,rfl,rfl⟩:=h
  exact OpOk.val (ZFP R hb hnt (Zay T hy) (hsite (by simp[nsite])))
theorem ZDl{O:ZS}(hO:ZaN P O){bf:Nat->Bool}{an:Ann}{a:Act}{o:Oper}{own:Nat}{ins:Ins}(t:TypeId)(parts:Array (Nat×Operand))(ho:o.op=.build t parts)(hc:Zad P an own (.build t parts)=some ins)(T:TR I V tm a.tmps)(R:Rel base w0 I0 I V G w)(hb:KLt base w0)
  {sq:Nat} (hsite:nsite ins≠0->G[sq]?=some .free) {v:AVal} {c:Cls} (h:execI O bf tm G sq ins=some (v,G',c)):OpOk P (execOp a.eval o) w (Post base w0 I0 I V v G'):=by
 rw[show execOp a.eval o=(do pure (.value (<-Instr.build t (parts.map fun(i,x)=>(i,a.eval x)))):Sem Next)by unfold execOp;rw[ho]]
 simp only[Zad]at hc
 have hc0:Zad P an own (.build t parts)=some ins:=by simp only[Zad];exact hc
 obtain⟨zs,ps,rfl⟩:∃ zs ps,ins=.build zs ps:=by
  split at hc
  ·split at hc
   ·simp only[Xo]at hc;grind
   ·cases hc
  ·split at hc
   ·simp only[Xo]at hc;grind
   ·cases hc
  ·cases hc
 simp only[execI]at h
 split at h
 ·rename_i cs hf
  simp only[Xb,Xe]at h
  obtain⟨rfl,rfl,rfl⟩:=h
  obtain⟨u,h1,h2⟩:=ZEM (w:=w) T hc0 hf
  exact OpOk.val ⟨u,w,h1,Post.here R h2⟩
 ·cases h
theorem ZRp{O:ZS}(hO:ZaN P O){bf:Nat->Bool}{an:Ann}{a:Act}{o:Oper}{own:Nat}{ins:Ins}(t:TypeId)(n:Nat)(parts:Array (Nat×Operand))(ho:o.op=.buildSlice t n parts)(hc:Zad P an own (.buildSlice t n parts)=some ins)(T:TR I V tm a.tmps)(R:Rel base w0 I0 I V G w)(hb:KLt base w0)
  {sq:Nat} (hsite:nsite ins≠0->G[sq]?=some .free) {v:AVal} {c:Cls} (h:execI O bf tm G sq ins=some (v,G',c)):OpOk P (execOp a.eval o) w (Post base w0 I0 I V v G'):=by
 rw[show execOp a.eval o=(do pure (.value (<-Instr.buildSlice t n (parts.map fun(i,x)=>(i,a.eval x)))):Sem Next)by unfold execOp;rw[ho]]
 simp only[Zad]at hc
 split at hc
 ·rename_i k bytes z he
  split at hc
  ·rename_i hn
   simp only[Xo]at hc
   obtain⟨ps,hps,rfl⟩:=hc
   split at h
   ·rename_i ho
    exact OpOk.val (ZIb T R hb he hn hps (hsite (by rw[if_pos ho];simp[nsite])) h)
   ·rename_i ho
    exact OpOk.val (ZSO T R hb he hn hps (fun ho'=>hsite (by rw[if_neg ho];simp[nsite,ho'])) h)
  ·cases hc
 ·cases hc
theorem ZSy{O:ZS}(hO:ZaN P O){bf:Nat->Bool}{an:Ann}{a:Act}{o:Oper}{own:Nat}{ins:Ins}(t:TypeId)(x:Operand)(ho:o.op=.load t x)(hc:Zad P an own (.load t x)=some ins)(T:TR I V tm a.tmps)(R:Rel base w0 I0 I V G w)(hb:KLt base w0)
  {sq:Nat} (hsite:nsite ins≠0->G[sq]?=some .free) {v:AVal} {c:Cls} (h:execI O bf tm G sq ins=some (v,G',c)):OpOk P (execOp a.eval o) w (Post base w0 I0 I V v G'):=by
 rw[show execOp a.eval o=(do pure (.value (<-Instr.loadAt t (a.eval x))):Sem Next)by unfold execOp;rw[ho]]
 simp only[Zad]at hc
 split at hc
 ·rename_i k y hk hy
  injection hc with hc;subst hc
  simp only[execI]at h
  obtain⟨u,h1,h2,rfl⟩:=ZwN hk R (Zay T hy) h
  exact OpOk.val ⟨u,w,h1,Post.here R h2⟩
 ·cases hc
theorem ZKG{O:ZS}(hO:ZaN P O){bf:Nat->Bool}{an:Ann}{a:Act}{o:Oper}{own:Nat}{ins:Ins}(t:TypeId)(x:Operand)(y:Operand)(ho:o.op=.store t x y)(hc:Zad P an own (.store t x y)=some ins)(T:TR I V tm a.tmps)(R:Rel base w0 I0 I V G w)(hb:KLt base w0)
  {sq:Nat} (hsite:nsite ins≠0->G[sq]?=some .free) {v:AVal} {c:Cls} (h:execI O bf tm G sq ins=some (v,G',c)):OpOk P (execOp a.eval o) w (Post base w0 I0 I V v G'):=by
 rw[show execOp a.eval o=(do Instr.storeAt t (a.eval x) (a.eval y);pure .skip:Sem Next)by unfold execOp;rw[ho]]
 simp only[Zad]at hc
 split at hc
 ·rename_i k x' y' hk hx hy
  injection hc with hc;subst hc
  simp only[execI]at h
  exact OpOk.unit (ZUL hk R (Zay T hx) (Zay T hy) h)
 ·cases hc
theorem ZFD{O:ZS}(hO:ZaN P O){bf:Nat->Bool}{an:Ann}{a:Act}{o:Oper}{own:Nat}{ins:Ins}(x:Operand)(ho:o.op=.nilCheck x)(hc:Zad P an own (.nilCheck x)=some ins)(T:TR I V tm a.tmps)(R:Rel base w0 I0 I V G w)(hb:KLt base w0)
  {sq:Nat} (hsite:nsite ins≠0->G[sq]?=some .free) {v:AVal} {c:Cls} (h:execI O bf tm G sq ins=some (v,G',c)):OpOk P (execOp a.eval o) w (Post base w0 I0 I V v G'):=by
 simp only[Zad]at hc
 simp only[Xo]at hc
 obtain⟨y,hy,rfl⟩:=hc
 have hx:=Zay T hy
 have key:∀ ad,a.eval x=.pointer (some ad)->execOp a.eval o=pure (.value (a.eval x)):=by
  intro ad e
  unfold execOp
  rw[ho]
  simp only[e]
 simp only[execI]at h
 split at h
 ·rename_i t' o' e
  simp only[Xb,Xe]at h
  obtain⟨rfl,rfl,rfl⟩:=h
  rw[e]at hx
  have hx':=hx
  simp only[VR]at hx'
  obtain⟨b,k,c',_,hp⟩:=hx'
  rw[key _ hp]
  exact Xq ⟨a.eval x,w,rfl,Post.here R hx⟩
 ·rename_i t' g' i' o' e
  simp only[Xb,Xe]at h
  obtain⟨rfl,rfl,rfl⟩:=h
  rw[e]at hx
  have hx':=hx
  simp only[VR]at hx'
  obtain⟨b,k,c',_,hp⟩:=hx'
  rw[key _ hp]
  exact Xq ⟨a.eval x,w,rfl,Post.here R hx⟩
 ·rename_i cs o' e
  simp only[Xb,Xe]at h
  obtain⟨rfl,rfl,rfl⟩:=h
  rw[e]at hx
  have hx':=hx
  simp only[VR]at hx'
  obtain⟨b,off,hp,_⟩:=hx'
  rw[key _ hp]
  exact Xq ⟨a.eval x,w,rfl,Post.here R hx⟩
 ·cases h
theorem ZNq {O : ZS} (hO : ZaN P O) {bf : Nat -> Bool} {an : Ann} {a : Act} {o : Oper} {own : Nat} {ins : Ins} (op : BinOp) (t : TypeId) (x : Operand) (y : Operand) (yt : TypeId) (ho : o.op = .binOp op t x y yt) (hc : Zad P an own (.binOp op t x y yt) = some ins) (T : TR I V tm a.tmps) (R : Rel base w0 I0 I V G w) (hb : KLt base w0)
    {sq : Nat} (hsite : nsite ins ≠ 0 -> G[sq]? = some .free) {v : AVal} {c : Cls} (h : execI O bf tm G sq ins = some (v, G', c)) : OpOk P (execOp a.eval o) w (Post base w0 I0 I V v G') := by
  rw [show execOp a.eval o = (do pure (.value (<- (do eqGuard op t x y (a.eval x) (a.eval y); binOp op t (a.eval x) (a.eval y)))) : Sem Next) by unfold execOp; rw [ho]]
  simp only [Zad] at hc
  split at hc
  . rename_i x' y' hx hy
    have hx' := Zay T hx
    have hy' := Zay T hy
    unfold ZyF at hc
    split at hc
    . injection hc with hc; subst hc
      simp only [execI] at h
      obtain ⟨r, hr, he⟩ := Zhe h
      simp only [Xe] at he
      obtain ⟨rfl, rfl, rfl⟩ := he
      obtain ⟨u, h1, h2⟩ := Zxa (P := P) (w := w) (t := t) x y hx' hy' hr
      exact OpOk.val ⟨u, w, h1, Post.here R h2⟩
    . injection hc with hc; subst hc
      simp only [execI] at h
      obtain ⟨r, hr, he⟩ := Zhe h
      simp only [Xe] at he
      obtain ⟨rfl, rfl, rfl⟩ := he
      obtain ⟨u, h1, h2⟩ := Zxa (P := P) (w := w) (t := t) x y hx' hy' hr
      exact OpOk.val ⟨u, w, h1, Post.here R h2⟩
    . rename_i hu
      split at hc
      all_goals first
        | (cases hc; done)
        | (injection hc with hc; subst hc
           simp only [execI] at h
           split at h
           . rename_i p q e1 e2
             rw [e1] at hx'; rw [e2] at hy'
             simp only [VR] at hx' hy'
             simp only [Xb, Xe] at h
             obtain ⟨rfl, rfl, rfl⟩ := h
             refine OpOk.val ⟨_, w, ?_, Post.here R (by simp only [VR]; rfl)⟩
             rw [hx', hy']
             first | exact ZPz hu p q x y | exact ZTo hu p q x y
           . cases h)
    . rename_i elem hu
      split at hc
      all_goals first
        | (cases hc; done)
        | (injection hc with hc; subst hc
           simp only [execI] at h
           split at h
           . rename_i e1 e2
             rw [e1] at hx'; rw [e2] at hy'
             simp only [VR] at hx' hy'
             simp only [Xb, Xe] at h
             obtain ⟨rfl, rfl, rfl⟩ := h
             refine OpOk.val ⟨_, w, ?_, Post.here R (by simp only [VR]; rfl)⟩
             rw [hx', hy']
             first | exact Zuu hu _ _ x y (by simp) | exact Zrj hu _ _ x y (by simp)
           . rename_i t1 o1 e1 e2
             rw [e1] at hx'; rw [e2] at hy'
             simp only [VR] at hx' hy'
             obtain ⟨b, k, c', _, hy'⟩ := hy'
             simp only [Xb, Xe] at h
             obtain ⟨rfl, rfl, rfl⟩ := h
             refine OpOk.val ⟨_, w, ?_, Post.here R (by simp only [VR]; rfl)⟩
             rw [hx', hy']
             first | exact Zuu hu _ _ x y (by simp) | exact Zrj hu _ _ x y (by simp)
           . rename_i t1 o1 e1 e2
             rw [e1] at hx'; rw [e2] at hy'
             simp only [VR] at hx' hy'
             obtain ⟨b, k, c', _, hx'⟩ := hx'
             simp only [Xb, Xe] at h
             obtain ⟨rfl, rfl, rfl⟩ := h
             refine OpOk.val ⟨_, w, ?_, Post.here R (by simp only [VR]; rfl)⟩
             rw [hx', hy']
             first | exact Zuu hu _ _ x y (by simp) | exact Zrj hu _ _ x y (by simp)
           . cases h)
    . rename_i fs hu
      split at hc
      case isFalse => cases hc
      rename_i hfl
      have fin : ∀ (neg : Bool), op = (if neg then .neq else .eql) -> execI O bf tm G sq (.eqv neg (fs.toList.map fun f => (ZhJ P f.type).getD 3) x' y') = some (v, G', c) -> OpOk P (do pure (.value (<- (do eqGuard op t x y (a.eval x) (a.eval y); binOp op t (a.eval x) (a.eval y))))) w (Post base w0 I0 I V v G') := by
        intro neg hop h
        simp only [execI] at h
        split at h
        . rename_i xs ys e1 e2
          rw [e1] at hx'; rw [e2] at hy'
          simp only [VR] at hx' hy'
          obtain ⟨us, hx1, hx2⟩ := hx'
          obtain ⟨vs, hy1, hy2⟩ := hy'
          split at h
          case isFalse => cases h
          rename_i hk
          split at h
          . rename_i b hb'
            simp only [Xb, Xe] at h
            obtain ⟨rfl, rfl, rfl⟩ := h
            refine OpOk.val ⟨_, w, ?_, Post.here R (by simp only [VR]; rfl)⟩
            rw [hx1, hy1]
            exact ZRC hu hfl hx2 hy2 (Zxw hk) hb' neg hop x y
          . cases h
        . cases h
      grind
    . rename_i ms hu
      have fin : ∀ (neg : Bool), y' = .c .nili -> op = (if neg then .neq else .eql) -> execI O bf tm G sq (.ieq neg x' y') = some (v, G', c) -> OpOk P (do pure (.value (<- (do eqGuard op t x y (a.eval x) (a.eval y); binOp op t (a.eval x) (a.eval y))))) w (Post base w0 I0 I V v G') := by
        intro neg hy0 hop h
        subst hy0
        obtain ⟨vy, rfl⟩ : ∃ vy, y = .const vy := by
          cases y with
          | const vy => grind
          | tmp t => simp [Zau] at hy
          | func f => simp only [Zau] at hy; split at hy <;> simp at hy
          | global g => simp [Zau] at hy
        simp only [Opd.ev, VR] at hy'
        have hms : P.underlying t = some (.interface ms) := hu
        simp only [execI] at h
        rw [show (Opd.c AVal.nili).ev tm = .nili from rfl] at h
        split at h
        . rename_i e1 e2
          rw [e1] at hx'
          simp only [VR] at hx'
          simp only [Xb, Xe] at h
          obtain ⟨rfl, rfl, rfl⟩ := h
          refine OpOk.val ⟨_, w, ?_, Post.here R (by simp only [VR]; rfl)⟩
          rw [hx', hy']
          exact ZAr hms neg x vy hop
        . grind
        . rename_i t1 x1 e1 e2
          rw [e1] at hx'
          simp only [VR] at hx'
          obtain ⟨u, hx', _⟩ := hx'
          simp only [Xb, Xe] at h
          obtain ⟨rfl, rfl, rfl⟩ := h
          refine OpOk.val ⟨_, w, ?_, Post.here R (by simp only [VR]; rfl)⟩
          rw [hx', hy']
          exact ZyD hms neg x vy hop
        . cases h
      grind
    . cases hc
  . cases hc
theorem ZFv{O:ZS}(hO:ZaN P O){bf:Nat->Bool}{an:Ann}{a:Act}{o:Oper}{own:Nat}{ins:Ins}(op:UnOp)(t:TypeId)(x:Operand)(ho:o.op=.unOp op t x)(hc:Zad P an own (.unOp op t x)=some ins)(T:TR I V tm a.tmps)(R:Rel base w0 I0 I V G w)(hb:KLt base w0)
  {sq:Nat} (hsite:nsite ins≠0->G[sq]?=some .free) {v:AVal} {c:Cls} (h:execI O bf tm G sq ins=some (v,G',c)):OpOk P (execOp a.eval o) w (Post base w0 I0 I V v G'):=by
 rw[show execOp a.eval o=(do pure (.value (<-Op.unary op (a.eval x))):Sem Next)by unfold execOp;rw[ho]]
 simp only[Zad]at hc
 simp only[Xo]at hc
 obtain⟨y,hy,rfl⟩:=hc
 simp only[execI]at h
 obtain⟨r,hr,he⟩:=Zhe h
 simp only[Xe]at he
 obtain⟨rfl,rfl,rfl⟩:=he
 obtain⟨u,h1,h2⟩:=ZSo (P:=P) (w:=w) (Zay T hy) hr
 exact OpOk.val ⟨u,w,h1,Post.here R h2⟩
theorem ZRf{O:ZS}(hO:ZaN P O){bf:Nat->Bool}{an:Ann}{a:Act}{o:Oper}{own:Nat}{ins:Ins}(src:TypeId)(dst:TypeId)(x:Operand)(ho:o.op=.convert src dst x)(hc:Zad P an own (.convert src dst x)=some ins)(T:TR I V tm a.tmps)(R:Rel base w0 I0 I V G w)(hb:KLt base w0)
  {sq:Nat} (hsite:nsite ins≠0->G[sq]?=some .free) {v:AVal} {c:Cls} (h:execI O bf tm G sq ins=some (v,G',c)):OpOk P (execOp a.eval o) w (Post base w0 I0 I V v G'):=by
 rw[show execOp a.eval o=(do pure (.value (<-convert src dst (a.eval x))):Sem Next)by unfold execOp;rw[ho]]
 simp only[Zad]at hc
 split at hc
 ·rename_i y hy
  have hx:=Zay T hy
  unfold Zva at hc
  split at hc
  ·rename_i k1 k2 hs hd
   injection hc with hc;subst hc
   simp only[execI]at h
   split at h
   ·rename_i k n e
    rw[e]at hx;simp only[VR]at hx
    simp only[Xb,Xe]at h
    obtain⟨rfl,rfl,rfl⟩:=h
    refine OpOk.val ⟨.int k2 (k2.wrap n),w,?_,Post.here R (by simp only[VR])⟩
    rw[hx]
    simp[convert,run_underlying hs,run_underlying hd,Conv.intToInt]
   ·cases h
  ·rename_i hs hd
   injection hc with hc;subst hc
   simp only[execI]at h
   split at h
   ·rename_i k n e
    rw[e]at hx;simp only[VR]at hx
    simp only[Xb,Xe]at h
    obtain⟨rfl,rfl,rfl⟩:=h
    refine OpOk.val ⟨.string (Utf8.encode n),w,?_,Post.here R ?_⟩
    ·rw[hx]
     simp[convert,run_underlying hs,run_underlying hd,Conv.intToString]
    ·simp only[VR]
     refine⟨by simp,?_⟩
     unfold Utf8.encode
     grind
   ·cases h
  ·rename_i hs hd
   injection hc with hc;subst hc
   simp only[execI]at h
   split at h
   ·rename_i l e
    rw[e]at hx
    have hx':=hx
    simp only[VR]at hx'
    simp only[Xb,Xe]at h
    obtain⟨rfl,rfl,rfl⟩:=h
    refine OpOk.val ⟨_,w,?_,Post.here R hx⟩
    rw[hx'.1]
    simp[convert,run_underlying hs,run_underlying hd]
   ·cases h
  ·rename_i e hs hd
   split at hc
   ·rename_i he
    injection hc with hc;subst hc
    simp only[execI]at h
    split at h
    ·rename_i l e'
     rw[e']at hx
     simp only[VR]at hx
     simp only[Xb,Xe]at h
     obtain⟨rfl,rfl,rfl⟩:=h
     rw[hx.1]
     exact OpOk.val (ZTv hs hd he R hb hx.2)
    ·cases h
   ·cases hc
  ·rename_i e1 e hs hd
   split at hc
   ·rename_i hsd
    subst hsd
    split at hc
    ·rename_i he
     injection hc with hc;subst hc
     simp only[execI]at h
     split at h
     ·rename_i t' g n ev
      rw[ev]at hx
      split at h
      ·rename_i g' k xs hrow
       split at h
       ·rename_i hcond
        obtain⟨rfl,hn,h0⟩:=hcond
        simp only[Xb,Xe]at h
        obtain⟨rfl,rfl,rfl⟩:=h
        obtain⟨w1,h1,h2⟩:=ZU3 hd he R hrow hn h0 hx
        exact OpOk.val ⟨_,w1,h1,h2⟩
       ·cases h
      ·cases h
     ·cases h
    ·cases hc
   ·cases hc
  ·rename_i e hs hd
   split at hc
   ·rename_i he
    injection hc with hc;subst hc
    simp only[execI]at h
    split at h
    ·rename_i xs ts hel
     split at h
     ·rename_i l hl
      simp only[Xb,Xe]at h
      obtain⟨rfl,rfl,rfl⟩:=h
      by_cases hst:∃ l',y.ev tm=.str l'
      ·obtain⟨l',e'⟩:=hst
       rw[e']at hel hx
       simp only[ZZ,Xb,Xe]at hel
       obtain⟨rfl,rfl⟩:=hel
       simp only[VR]at hx
       have hll:l=l':=by
        obtain⟨ns,e1,e2⟩:=Zq1 hl
        subst e2
        have : l'.map Zh=ns.map (AVal.int .u8):=e1
        apply List.ext_getElem?
        intro j
        have hj:=congrArg (fun q:List AVal=>q[j]?) this
        simp only[Xab]at hj ⊢
        cases h1:l'[j]? <;> cases h2:ns[j]? <;> simp_all[Zh]
        rename_i b n
        rw[<-hj];simp
       subst hll
       refine OpOk.val ⟨.string ⟨l.toArray⟩,w,?_,Post.here R (by simp only[VR];grind)⟩
       rw[hx.1]
       simp[convert,run_underlying hs,run_underlying hd]
      ·have hrd:=Znw R (fun l' e'=>hst ⟨l',e'⟩) hel hx
       obtain⟨h1,h2⟩:=ZIS (P:=P) hs he hd hrd hl
       exact OpOk.val ⟨_,w,h1,Post.here R (by simp only[VR];grind)⟩
     ·cases h
    ·cases h
   ·cases hc
  ·cases hc
 ·cases hc
theorem ZEj{O:ZS}(hO:ZaN P O){bf:Nat->Bool}{an:Ann}{a:Act}{o:Oper}{own:Nat}{ins:Ins}(t:TypeId)(x:Operand)(lo:Option Operand)(hi:Option Operand)(mx:Option Operand)(ho:o.op=.slice t x lo hi mx)(hc:Zad P an own (.slice t x lo hi mx)=some ins)(T:TR I V tm a.tmps)(R:Rel base w0 I0 I V G w)(hb:KLt base w0)
  {sq:Nat} (hsite:nsite ins≠0->G[sq]?=some .free) {v:AVal} {c:Cls} (h:execI O bf tm G sq ins=some (v,G',c)):OpOk P (execOp a.eval o) w (Post base w0 I0 I V v G'):=by
 rw[show execOp a.eval o=(do pure (.value (<-Instr.sliceAt t (a.eval x) (lo.map a.eval) (hi.map a.eval) (mx.map a.eval))):Sem Next)by unfold execOp;rw[ho]]
 simp only[Zad]at hc
 split at hc
 ·rename_i x' lo' hi' mx' hx hlo hhi hmx
  split at hc
  ·rename_i hu
   split at hc
   ·injection hc with hc;subst hc
    have hmx0:mx=none:=by cases mx<;>simp_all[Zh2]
    subst hmx0
    have hx':=Zay T hx
    simp only[execI]at h
    split at h
    ·rename_i s e
     rw[e]at hx';simp only[VR]at hx'
     split at h
     ·cases h
     rename_i hh h1
     split at h
     ·cases h
     rename_i ll h2
     simp only[Xb,Xe]at h
     obtain⟨rfl,rfl,rfl⟩:=h
     refine OpOk.val ⟨_,w,?_,Post.here R (by simp only[VR];exact⟨rfl,by simp;omega⟩)⟩
     rw[hx'.1]
     exact ZUx hu hx'.2 (ZjS T hlo) (ZjS T hhi) h1 h2
    ·cases h
   ·cases hc
  ·rename_i e hu
   split at hc
   ·rename_i k hk
    split at hc
    ·split at hc
     ·cases hc
     ·rename_i hnn
      injection hc with hc;subst hc
      simp only[execI]at h
      obtain⟨u,h1,h2⟩:=ZUG hu hk R (Zay T hx) (ZjS T hlo) (ZjS T hhi) (ZjS T hmx) (by
       intro e'
       cases hi' with
       |some _=>simp at e'
       |none=>cases mx' with
        |none=>rfl
        |some q=>grind) h
      exact OpOk.val ⟨u,w,h1,h2⟩
    ·cases hc
   ·cases hc
  ·cases hc
 ·cases hc
theorem ZQe{O:ZS}(hO:ZaN P O){bf:Nat->Bool}{an:Ann}{a:Act}{o:Oper}{own:Nat}{ins:Ins}(s:TypeId)(x:Operand)(i:Nat)(ho:o.op=.fieldAddr s x i)(hc:Zad P an own (.fieldAddr s x i)=some ins)(T:TR I V tm a.tmps)(R:Rel base w0 I0 I V G w)(hb:KLt base w0)
  {sq:Nat} (hsite:nsite ins≠0->G[sq]?=some .free) {v:AVal} {c:Cls} (h:execI O bf tm G sq ins=some (v,G',c)):OpOk P (execOp a.eval o) w (Post base w0 I0 I V v G'):=by
 rw[show execOp a.eval o=(do pure (.value (<-Instr.fieldAt s (a.eval x) i)):Sem Next)by unfold execOp;rw[ho]]
 simp only[Zad]at hc
 split at hc
 ·rename_i fields x' hs hx
  split at hc
  ·rename_i f hf
   split at hc
   ·rename_i k hk
    split at hc
    ·cases hc
    ·rename_i hk0
     injection hc with hc;subst hc
     simp only[execI]at h
     obtain⟨r,hr,he⟩:=Zhe h
     simp only[Xe]at he
     obtain⟨rfl,rfl,rfl⟩:=he
     obtain⟨u,h1,h2⟩:=ZGA (w:=w) hs hf hk hk0 (Zay T hx) hr
     exact OpOk.val ⟨u,w,h1,Post.here R h2⟩
   ·cases hc
  ·cases hc
 ·cases hc
theorem ZCH{O:ZS}(hO:ZaN P O){bf:Nat->Bool}{an:Ann}{a:Act}{o:Oper}{own:Nat}{ins:Ins}(s:TypeId)(x:Operand)(i:Nat)(ho:o.op=.field s x i)(hc:Zad P an own (.field s x i)=some ins)(T:TR I V tm a.tmps)(R:Rel base w0 I0 I V G w)(hb:KLt base w0)
  {sq:Nat} (hsite:nsite ins≠0->G[sq]?=some .free) {v:AVal} {c:Cls} (h:execI O bf tm G sq ins=some (v,G',c)):OpOk P (execOp a.eval o) w (Post base w0 I0 I V v G'):=by
 rw[show execOp a.eval o=(do pure (.value (<-Instr.field s (a.eval x) i)):Sem Next)by unfold execOp;rw[ho]]
 simp only[Zad]at hc
 split at hc
 ·rename_i fields x' hs hx
  split at hc
  ·rename_i f hf
   simp only[Xo]at hc
   obtain⟨k,hk,rfl⟩:=hc
   have hx':=Zay T hx
   simp only[execI]at h
   split at h
   ·rename_i cs e
    rw[e]at hx';simp only[VR]at hx'
    obtain⟨us,hus,hv⟩:=hx'
    obtain⟨r,hr,he⟩:=Zhe h
    simp only[Xe]at he
    obtain⟨rfl,rfl,rfl⟩:=he
    obtain⟨u,h1,h2⟩:=Zvt (P:=P) (w:=w) hk hv hr
    refine OpOk.val ⟨u,w,?_,Post.here R h2⟩
    rw[hus]
    simp[Instr.field,run_underlying hs,hf,asAgg,h1]
   ·cases h
  ·cases hc
 ·cases hc
theorem ZUC{O:ZS}(hO:ZaN P O){bf:Nat->Bool}{an:Ann}{a:Act}{o:Oper}{own:Nat}{ins:Ins}(t:TypeId)(x:Operand)(i:Operand)(ho:o.op=.indexAddr t x i)(hc:Zad P an own (.indexAddr t x i)=some ins)(T:TR I V tm a.tmps)(R:Rel base w0 I0 I V G w)(hb:KLt base w0)
  {sq:Nat} (hsite:nsite ins≠0->G[sq]?=some .free) {v:AVal} {c:Cls} (h:execI O bf tm G sq ins=some (v,G',c)):OpOk P (execOp a.eval o) w (Post base w0 I0 I V v G'):=by
 rw[show execOp a.eval o=(do pure (.value (<-Instr.indexAt t (a.eval x) (a.eval i))):Sem Next)by unfold execOp;rw[ho]]
 simp only[Zad]at hc
 split at hc
 ·rename_i e x' i' hu hx hi
  simp only[Xo]at hc
  obtain⟨k,hk,rfl⟩:=hc
  simp only[execI]at h
  obtain⟨u,h1,h2,rfl⟩:=ZO6 hu hk R (Zay T hx) (Zay T hi) h
  exact OpOk.val ⟨u,w,h1,Post.here R h2⟩
 ·rename_i n e x' i' hu hx hi
  simp only[Xo]at hc
  obtain⟨k,hk,rfl⟩:=hc
  have hi':=Zay T hi
  simp only[execI]at h
  split at h
  ·rename_i kk ii e'
   rw[e']at hi';simp only[VR]at hi'
   split at h
   ·rename_i hb'
    obtain⟨r,hr,he⟩:=Zhe h
    simp only[Xe]at he
    obtain⟨rfl,rfl,rfl⟩:=he
    obtain⟨u,h1,h2⟩:=ZOU (P:=P) (w:=w) (kk:=kk) hu hk (Zay T hx) hb'.1 hb'.2 hr
    exact OpOk.val ⟨u,w,by grind,Post.here R h2⟩
   ·cases h
  ·cases h
 ·cases hc
theorem ZPO{O:ZS}(hO:ZaN P O){bf:Nat->Bool}{an:Ann}{a:Act}{o:Oper}{own:Nat}{ins:Ins}(t:TypeId)(x:Operand)(i:Operand)(ho:o.op=.index t x i)(hc:Zad P an own (.index t x i)=some ins)(T:TR I V tm a.tmps)(R:Rel base w0 I0 I V G w)(hb:KLt base w0)
  {sq:Nat} (hsite:nsite ins≠0->G[sq]?=some .free) {v:AVal} {c:Cls} (h:execI O bf tm G sq ins=some (v,G',c)):OpOk P (execOp a.eval o) w (Post base w0 I0 I V v G'):=by
 rw[show execOp a.eval o=(do pure (.value (<-Instr.index t (a.eval x) (a.eval i))):Sem Next)by unfold execOp;rw[ho]]
 simp only[Zad]at hc
 split at hc
 ·rename_i x' i' hu hx hi
  injection hc with hc;subst hc
  have hx':=Zay T hx
  have hi':=Zay T hi
  simp only[execI]at h
  split at h
  ·rename_i s kk ii e1 e2
   rw[e1]at hx';rw[e2]at hi'
   simp only[VR]at hx' hi'
   split at h
   ·rename_i h0
    simp only[Xo]at h
    obtain⟨b,hbb,he⟩:=h
    simp only[Xe]at he
    obtain⟨rfl,rfl,rfl⟩:=he
    refine OpOk.val ⟨.int .u8 b.toNat,w,?_,Post.here R (by simp only[Zh,VR])⟩
    rw[hx'.1,hi']
    have hg:(⟨s.toArray⟩:ByteArray)[ii.toNat]?=some b:=by
     have hlt:=(Xn.1 hbb).1
     have : ii.toNat<Ws ⟨s.toArray⟩:=by simpa[Ws]using hlt
     rw[getElem?_pos (⟨s.toArray⟩:ByteArray) ii.toNat this]
     have:=(Xn.1 hbb).2
     rw[<-this]
     rfl
    simp[Instr.index,asIntOf,run_underlying hu,h0,hg]
   ·cases h
  ·cases h
 ·rename_i n e x' i' hu hx hi
  split at hc
  ·rename_i s k hk hk2
   injection hc with hc;subst hc
   have hx':=Zay T hx
   have hi':=Zay T hi
   simp only[execI]at h
   split at h
   ·rename_i cs kk ii e1 e2
    rw[e1]at hx';rw[e2]at hi'
    simp only[VR]at hx' hi'
    obtain⟨us,hus,hv⟩:=hx'
    split at h
    ·rename_i hb'
     obtain⟨r,hr,he⟩:=Zhe h
     simp only[Xe]at he
     obtain⟨rfl,rfl,rfl⟩:=he
     obtain⟨u,h1,h2⟩:=Zvt (P:=P) (w:=w) hk hv hr
     obtain⟨ie,hie,hke⟩:∃ ie,P.info? e=some ie/\ie.size=k:=by
      unfold Zb7 at hk2
      cases hi:P.info? e with
      |none=>grind
      |some i=>grind
     refine OpOk.val ⟨u,w,?_,Post.here R h2⟩
     rw[hus,hi']
     simp[Instr.index,asIntOf,run_underlying hu,hb'.1,hb'.2,sizeOf,typeInfo,hie,hke,h1]
    ·cases h
   ·cases h
  ·cases hc
 ·cases hc
theorem ZJl{O:ZS}(hO:ZaN P O){bf:Nat->Bool}{an:Ann}{a:Act}{o:Oper}{own:Nat}{ins:Ins}(x:Operand)(i:Nat)(ho:o.op=.extract x i)(hc:Zad P an own (.extract x i)=some ins)(T:TR I V tm a.tmps)(R:Rel base w0 I0 I V G w)(hb:KLt base w0)
  {sq:Nat} (hsite:nsite ins≠0->G[sq]?=some .free) {v:AVal} {c:Cls} (h:execI O bf tm G sq ins=some (v,G',c)):OpOk P (execOp a.eval o) w (Post base w0 I0 I V v G'):=by
 rw[show execOp a.eval o=(do pure (.value (<-Instr.extract (a.eval x) i)):Sem Next)by unfold execOp;rw[ho]]
 simp only[Zad]at hc
 simp only[Xo]at hc
 obtain⟨y,hy,rfl⟩:=hc
 have hx:=Zay T hy
 simp only[execI]at h
 split at h
 ·rename_i vs e
  rw[e]at hx;simp only[VR]at hx
  obtain⟨us,hus,hv⟩:=hx
  obtain⟨r,hr,he⟩:=Zhe h
  simp only[Xe]at he
  obtain⟨rfl,rfl,rfl⟩:=he
  obtain⟨u,h1,h2⟩:=Zcm hv hr
  have h1':us[i]?=some u:=by simpa using h1
  exact OpOk.val ⟨u,w,by rw[hus];simp[Instr.extract,h1'],Post.here R h2⟩
 ·cases h
theorem ZLO{O:ZS}(hO:ZaN P O){bf:Nat->Bool}{an:Ann}{a:Act}{o:Oper}{own:Nat}{ins:Ins}(t:TypeId)(l:Operand)(c':Operand)(ho:o.op=.makeSlice t l c')(hc:Zad P an own (.makeSlice t l c')=some ins)(T:TR I V tm a.tmps)(R:Rel base w0 I0 I V G w)(hb:KLt base w0)
  {sq:Nat} (hsite:nsite ins≠0->G[sq]?=some .free) {v:AVal} {c:Cls} (h:execI O bf tm G sq ins=some (v,G',c)):OpOk P (execOp a.eval o) w (Post base w0 I0 I V v G'):=by
 rw[show execOp a.eval o=(do pure (.value (<-Instr.makeSlice t (a.eval l) (a.eval c'))):Sem Next)by unfold execOp;rw[ho]]
 simp only[Zad]at hc
 split at hc
 ·rename_i k bytes z l' c'' he hl hc'
  injection hc with hc;subst hc
  have hl':=Zay T hl
  have hc'':=Zay T hc'
  simp only[execI]at h
  split at h
  ·rename_i li ci e1 e2
   rw[e1]at hl';rw[e2]at hc''
   simp only[VR]at hl' hc''
   split at h
   ·rename_i hcond
    simp only[Xb,Xe]at h
    obtain⟨rfl,rfl,rfl⟩:=h
    rw[hl',hc'']
    exact OpOk.val (ZAW R hb he hcond.1 hcond.2.1 hcond.2.2.1 hcond.2.2.2.1 (hsite (by simp[nsite])))
   ·cases h
  ·cases h
 ·cases hc
theorem ZRb{O:ZS}(hO:ZaN P O){bf:Nat->Bool}{an:Ann}{a:Act}{o:Oper}{own:Nat}{ins:Ins}(fn:Fn)(first:Array Operand)(captured:Array Operand)(ho:o.op=.makeFunc fn first captured)(hc:Zad P an own (.makeFunc fn first captured)=some ins)(T:TR I V tm a.tmps)(R:Rel base w0 I0 I V G w)(hb:KLt base w0)
  {sq:Nat} (hsite:nsite ins≠0->G[sq]?=some .free) {v:AVal} {c:Cls} (h:execI O bf tm G sq ins=some (v,G',c)):OpOk P (execOp a.eval o) w (Post base w0 I0 I V v G'):=by
 rw[show execOp a.eval o=(do pure (.value (<-Instr.makeFunc fn (first.map a.eval) (captured.map a.eval))):Sem Next)by unfold execOp;rw[ho]]
 simp only[Zad]at hc
 cases fn<;>simp only at hc<;>try grind
 rename_i f
 split at hc
 case isFalse=>cases hc
 rename_i hlt
 split at hc
 ·rename_i hf
  simp only[Xo]at hc
  obtain⟨caps,hcaps,rfl⟩:=hc
  simp only[execI,Xb,Xe]at h
  obtain⟨rfl,rfl,rfl⟩:=h
  have hfe:first=#[]:=by simpa using hf
  subst hfe
  refine OpOk.val ⟨.func (.func f) #[] (captured.map a.eval),w,by simp[Instr.makeFunc],Post.here R ?_⟩
  simp only[VR,if_pos hlt]
  exact⟨_,_,rfl,rfl,by simpa using Zl9 T hcaps⟩
 ·split at hc
  case isFalse=>cases hc
  rename_i hf
  simp only[Xo]at hc
  obtain⟨caps,hcaps,rfl⟩:=hc
  simp only[execI,Xb,Xe]at h
  obtain⟨rfl,rfl,rfl⟩:=h
  have hfe:captured=#[]:=by simpa using hf
  subst hfe
  refine OpOk.val ⟨.func (.func f) (first.map a.eval) #[],w,by simp[Instr.makeFunc],Post.here R ?_⟩
  have hn:¬(f+1000000<1000000):=Nat.not_lt.2 (Nat.le_add_left _ _)
  simp only[VR,if_neg hn,Nat.add_sub_cancel]
  exact⟨_,_,rfl,rfl,by simpa using Zl9 T hcaps⟩
theorem ZSp{O:ZS}(hO:ZaN P O){bf:Nat->Bool}{an:Ann}{a:Act}{o:Oper}{own:Nat}{ins:Ins}(t:TypeId)(x:Operand)(ho:o.op=.makeInterface t x)(hc:Zad P an own (.makeInterface t x)=some ins)(T:TR I V tm a.tmps)(R:Rel base w0 I0 I V G w)(hb:KLt base w0)
  {sq:Nat} (hsite:nsite ins≠0->G[sq]?=some .free) {v:AVal} {c:Cls} (h:execI O bf tm G sq ins=some (v,G',c)):OpOk P (execOp a.eval o) w (Post base w0 I0 I V v G'):=by
 rw[show execOp a.eval o=(do pure (.value (<-Instr.makeInterface t (a.eval x))):Sem Next)by unfold execOp;rw[ho]]
 simp only[Zad]at hc
 split at hc
 ·cases hc
 ·rename_i d hd hnd
  simp only[Xo]at hc
  obtain⟨y,hy,rfl⟩:=hc
  have hy':=Zay T hy
  have hrun:∀ u,(Instr.makeInterface t u).run P w=.ok (.iface t u) w:=by
   intro u
   unfold Instr.makeInterface
   rw[Sem.run_bind,run_underlying hnd]
   simp only[Result.andThen_ok]
   cases d<;>first |rfl |exact absurd rfl (hd _)
  simp only[execI]at h
  split at h
  ·cases h
  ·cases h
  ·cases h
  ·simp only[Xb,Xe]at h
   obtain⟨rfl,rfl,rfl⟩:=h
   exact OpOk.val ⟨_,w,hrun _,Post.here R (by simp only[VR];grind)⟩
 ·cases hc
theorem ZC6{O:ZS}(hO:ZaN P O){bf:Nat->Bool}{an:Ann}{a:Act}{o:Oper}{own:Nat}{ins:Ins}(x:Operand)(ho:o.op=.panic x)(hc:Zad P an own (.panic x)=some ins)(T:TR I V tm a.tmps)(R:Rel base w0 I0 I V G w)(hb:KLt base w0)
  {sq:Nat} (hsite:nsite ins≠0->G[sq]?=some .free) {v:AVal} {c:Cls} (h:execI O bf tm G sq ins=some (v,G',c)):OpR P (execOp a.eval o) w base w0 I0 I V v G':=by
 rw[show execOp a.eval o=(do pure (.value (<-Instr.panic (a.eval x))):Sem Next)by unfold execOp;rw[ho]]
 simp only[Zad]at hc
 simp only[Xo]at hc
 obtain⟨y,hy,rfl⟩:=hc
 have hy':=Zay T hy
 simp only[execI]at h
 split at h
 ·rename_i t1 x1 e
  rw[e]at hy'
  simp only[Xb,Xe]at h
  obtain⟨rfl,rfl,rfl⟩:=h
  refine Xt ⟨_,rfl,Xq ⟨a.eval x,w,?_,Post.here R hy'⟩⟩
  simp only[VR]at hy'
  obtain⟨u,hu,_⟩:=hy'
  simp[hu,Instr.panic,goPanic]
 ·cases h
theorem ZLB{O:ZS}(hO:ZaN P O){bf:Nat->Bool}{an:Ann}{a:Act}{o:Oper}{own:Nat}{ins:Ins}(t:TypeId)(x:Operand)(ho:o.op=.range t x)(hc:Zad P an own (.range t x)=some ins)(T:TR I V tm a.tmps)(R:Rel base w0 I0 I V G w)(hb:KLt base w0)
  {sq:Nat} (hsite:nsite ins≠0->G[sq]?=some .free) {v:AVal} {c:Cls} (h:execI O bf tm G sq ins=some (v,G',c)):OpOk P (execOp a.eval o) w (Post base w0 I0 I V v G'):=by
 rw[show execOp a.eval o=(do pure (.value (<-Instr.range t (a.eval x))):Sem Next)by unfold execOp;rw[ho]]
 simp only[Zad]at hc
 split at hc
 case h_2=>cases hc
 rename_i ht
 simp only[Xo]at hc
 obtain⟨y,hy,rfl⟩:=hc
 have hy':=Zay T hy
 simp only[execI]at h
 split at h
 case h_2=>cases h
 rename_i l e
 simp only[Xb,Xe]at h
 obtain⟨rfl,rfl,rfl⟩:=h
 rw[e]at hy'
 simp only[VR]at hy'
 rw[hy'.1]
 exact OpOk.val (ZOY R hb ht (hsite (by simp[nsite])))
theorem ZMW{O:ZS}(hO:ZaN P O){bf:Nat->Bool}{an:Ann}{a:Act}{o:Oper}{own:Nat}{ins:Ins}(x:Operand)(str:Bool)(ho:o.op=.next x str)(hc:Zad P an own (.next x str)=some ins)(T:TR I V tm a.tmps)(R:Rel base w0 I0 I V G w)(hb:KLt base w0)
  {sq:Nat} (hsite:nsite ins≠0->G[sq]?=some .free) {v:AVal} {c:Cls} (h:execI O bf tm G sq ins=some (v,G',c)):OpOk P (execOp a.eval o) w (Post base w0 I0 I V v G'):=by
 rw[show execOp a.eval o=(do pure (.value (<-Instr.next (a.eval x) str o.type)):Sem Next)by unfold execOp;rw[ho]]
 simp only[Zad]at hc
 cases str
 case false=>cases hc
 simp only[Xo]at hc
 obtain⟨y,hy,rfl⟩:=hc
 have hy':=Zay T hy
 simp only[execI]at h
 split at h
 case h_2=>cases h
 rename_i t e
 rw[e]at hy'
 split at h
 case h_2=>cases h
 rename_i l p hs
 obtain⟨u,w',h1,h2⟩:=ZUA (P:=P) R hs hy' o.type
 split at h
 ·rename_i hp
  rw[if_pos hp]at h2
  simp only[Xb,Xe]at h
  obtain⟨rfl,rfl,rfl⟩:=h
  exact OpOk.val ⟨u,w',h1,h2⟩
 ·rename_i hp
  rw[if_neg hp]at h2
  simp only[Xb,Xe]at h
  obtain⟨rfl,rfl,rfl⟩:=h
  exact OpOk.val ⟨u,w',h1,h2⟩
theorem ZCx{O:ZS}(hO:ZaN P O){bf:Nat->Bool}{an:Ann}{a:Act}{o:Oper}{own:Nat}{ins:Ins}(t:TypeId)(r:Option Operand)(ho:o.op=.makeMap t r)(hc:Zad P an own (.makeMap t r)=some ins)(T:TR I V tm a.tmps)(R:Rel base w0 I0 I V G w)(hb:KLt base w0)
  {sq:Nat} (hsite:nsite ins≠0->G[sq]?=some .free) {v:AVal} {c:Cls} (h:execI O bf tm G sq ins=some (v,G',c)):OpOk P (execOp a.eval o) w (Post base w0 I0 I V v G'):=by
 rw[show execOp a.eval o=(do pure (.value (<-Instr.makeMap t (r.map a.eval))):Sem Next)by unfold execOp;rw[ho]]
 simp only[Zad]at hc
 cases r with
 |some r=>cases hc
 |none =>
  injection hc with hc;subst hc
  simp only[execI,Xb,Xe]at h
  obtain⟨rfl,rfl,rfl⟩:=h
  exact OpOk.val (ZVi R hb t (hsite (by simp[nsite])))
theorem ZI2{O:ZS}(hO:ZaN P O){bf:Nat->Bool}{an:Ann}{a:Act}{o:Oper}{own:Nat}{ins:Ins}(t:TypeId)(x:Operand)(z:Operand)(ok:Bool)(ho:o.op=.lookup t x z ok)(hc:Zad P an own (.lookup t x z ok)=some ins)(T:TR I V tm a.tmps)(R:Rel base w0 I0 I V G w)(hb:KLt base w0)
  {sq:Nat} (hsite:nsite ins≠0->G[sq]?=some .free) {v:AVal} {c:Cls} (h:execI O bf tm G sq ins=some (v,G',c)):OpOk P (execOp a.eval o) w (Post base w0 I0 I V v G'):=by
 rw[show execOp a.eval o=(do pure (.value (<-Instr.lookup t (a.eval x) (a.eval z) ok)):Sem Next)by unfold execOp;rw[ho]]
 simp only[Zad]at hc
 split at hc
 case h_2=>cases hc
 rename_i kc zv m k hmp hm hk
 injection hc with hc;subst hc
 simp only[execI]at h
 obtain⟨kt,et,d,ht,hdk,hd,hz⟩:=ZmH hmp
 obtain⟨rfl,u,h1,h2⟩:=ZIA R ht hdk hd hz (Zay T hm) (Zay T hk) h
 exact OpOk.val ⟨u,w,h1,Post.here R h2⟩
theorem ZH6{O:ZS}(hO:ZaN P O){bf:Nat->Bool}{an:Ann}{a:Act}{o:Oper}{own:Nat}{ins:Ins}(t:TypeId)(x:Operand)(z:Operand)(y:Operand)(ho:o.op=.mapUpdate t x z y)(hc:Zad P an own (.mapUpdate t x z y)=some ins)(T:TR I V tm a.tmps)(R:Rel base w0 I0 I V G w)(hb:KLt base w0)
  {sq:Nat} (hsite:nsite ins≠0->G[sq]?=some .free) {v:AVal} {c:Cls} (h:execI O bf tm G sq ins=some (v,G',c)):OpOk P (execOp a.eval o) w (Post base w0 I0 I V v G'):=by
 rw[show execOp a.eval o=(do Instr.mapUpdate t (a.eval x) (a.eval z) (a.eval y);pure .skip:Sem Next)by unfold execOp;rw[ho]]
 simp only[Zad]at hc
 split at hc
 case h_2=>cases hc
 rename_i kc zv m k vv hmp hm hk hv
 injection hc with hc;subst hc
 simp only[execI]at h
 obtain⟨kt,et,d,ht,hdk,hd,hz⟩:=ZmH hmp
 obtain⟨rfl,w',h1,h2⟩:=Zxx R ht hdk hd (Zay T hm) (Zay T hk) (Zay T hv) h
 exact OpOk.unit ⟨w',h1,Post.here h2 ZjO⟩
theorem ZED{O:ZS}(hO:ZaN P O){bf:Nat->Bool}{an:Ann}{a:Act}{o:Oper}{own:Nat}{ins:Ins}(t:TypeId)(x:Operand)(z:Operand)(y:Operand)(ho:o.op=.insert t x z y)(hc:Zad P an own (.insert t x z y)=some ins)(T:TR I V tm a.tmps)(R:Rel base w0 I0 I V G w)(hb:KLt base w0)
  {sq:Nat} (hsite:nsite ins≠0->G[sq]?=some .free) {v:AVal} {c:Cls} (h:execI O bf tm G sq ins=some (v,G',c)):OpOk P (execOp a.eval o) w (Post base w0 I0 I V v G'):=by
 rw[show execOp a.eval o=(do Instr.mapUpdate t (a.eval x) (a.eval z) (a.eval y);pure .skip:Sem Next)by unfold execOp;rw[ho]]
 simp only[Zad]at hc
 split at hc
 case h_2=>cases hc
 rename_i kc zv m k vv hmp hm hk hv
 injection hc with hc;subst hc
 simp only[execI]at h
 obtain⟨kt,et,d,ht,hdk,hd,hz⟩:=ZmH hmp
 obtain⟨rfl,w',h1,h2⟩:=Zxx R ht hdk hd (Zay T hm) (Zay T hk) (Zay T hv) h
 exact OpOk.unit ⟨w',h1,Post.here h2 ZjO⟩
theorem ZPH{O:ZS}(hO:ZaN P O){bf:Nat->Bool}{an:Ann}{a:Act}{o:Oper}{own:Nat}{ins:Ins}(cl:Call)(ho:o.op=.call cl)(hc:Zad P an own (.call cl)=some ins)(T:TR I V tm a.tmps)(R:Rel base w0 I0 I V G w)(hb:KLt base w0)
  {sq:Nat} (hsite:nsite ins≠0->G[sq]?=some .free) {v:AVal} {c:Cls} (h:execI O bf tm G sq ins=some (v,G',c)):OpR P (execOp a.eval o) w base w0 I0 I V v G':=by
 rw[show execOp a.eval o=(do let d <-resolve a.eval cl o.type;invoke d.target d.args:Sem Next)by unfold execOp;rw[ho]]
 simp only[Zad]at hc
 unfold ZAa at hc
 split at hc
 ·cases hc
 rename_i args hargs
 have hav:=Zl9 T hargs
 obtain⟨callee,cargs,ctypes⟩:=cl
 simp only at hc hargs hav
 have hmap:(cargs.toList.map a.eval)=(cargs.map a.eval).toList:=by simp
 split at hc
 ·rename_i f
  injection hc with hc;subst hc
  simp only[execI]at h
  obtain⟨⟨fn,f1,f2,f3⟩,g2⟩:=ZrP hO R hb (vs:=cargs.map a.eval) (by grind) (fun ho=>hsite (by simp[nsite,ho])) h
  exact OpR.of_call (by simp[resolve,Act.eval,Deferred.ofValue,invoke,Zom f1 f2 f3]) g2
 ·rename_i t
  injection hc with hc;subst hc
  simp only[execI]at h
  split at h
  ·rename_i f caps hf
   have hfv:=Zay (x:=.tmp t) T rfl
   rw[hf]at hfv
   simp only[VR]at hfv
   obtain⟨fs,us,hus,h0,hcaps⟩:=hfv
   by_cases hlt:f<1000000
   ·simp only[if_pos hlt]at h hus h0
    subst h0
    obtain⟨⟨fn,f1,f2,f3⟩,g2⟩:=ZrP hO R hb (vs:=cargs.map a.eval++us) (by rw[XaT,<-hmap];exact Zc2 hav (by grind)) (fun ho=>absurd ho (by decide)) h
    exact OpR.of_call (by simp[resolve,hus,Deferred.ofValue,invoke,Zom f1 f2 f3]) g2
   ·simp only[if_neg hlt]at h hus h0
    subst h0
    obtain⟨⟨fn,f1,f2,f3⟩,g2⟩:=ZrP hO R hb (vs:=fs++cargs.map a.eval) (by rw[XaT,<-hmap];exact Zc2 (by grind) hav) (fun ho=>absurd ho (by decide)) h
    exact OpR.of_call (by simp[resolve,hus,Deferred.ofValue,invoke,Zom f1 f2 f3]) g2
  ·cases h
 ·refine Xq ?_
  split at hc
  ·rename_i t u x y hty
   split at hc
   ·rename_i k bytes z he
    obtain⟨e,i,vz,hu,hi,hik,hib,hvz,hz,hk,hby,hzl⟩:=Zky he
    obtain⟨hz1,hz2⟩:=Zgd (I:=I) (V:=V) hz
    have hzs:vz.cells.size=i.size:=by rw[ZhW (Zgv hz) hz1,hzl,hik]
    have hargs2:∃ ox oy,cargs=#[ox,oy]/\Zau ox=some x/\Zau oy=some y:=by
     obtain⟨l⟩:=cargs
     match l,hargs with
     | [],hargs=>simp[Zdc]at hargs
     | [ox],hargs =>
      simp only[Zdc]at hargs
      grind
     | [ox,oy],hargs =>
      simp only[Zdc]at hargs
      grind
     |ox::oy::oz::r,hargs=>have:=ZaP hav;simp at this
    obtain⟨ox,oy,rfl,hx,hy⟩:=hargs2
    have htys:ctypes=#[t,u]:=by
     obtain⟨l⟩:=ctypes
     simpa using hty
    subst htys
    have fin:Zlo P t u e i vz->Zan G sq k bytes (x.ev tm) (y.ev tm)=some (v,G',c)->OpOk P (do let d <-resolve a.eval { callee:=.builtin .append,args:=#[ox,oy],argTypes:=#[t,u] } o.type;invoke d.target d.args) w (Post base w0 I0 I V v G'):=by
     intro TT h
     rw[<-hik,<-hib]at h
     have hns:nsite ins≠0:=by
      split at hc
      ·injection hc with hc;subst hc;simp[nsite]
      ·split at hc
       ·injection hc with hc;subst hc;simp[nsite]
       ·cases hc
      ·cases hc
     obtain⟨vr,w1,h1,h2⟩:=ZCO (ty:=o.type) TT R hb (Zay T hx) (Zay T hy) (hsite hns) h
     exact Xq ⟨vr,w1,by simp[resolve,invoke,builtin,h1],h2⟩
    split at hc
    ·rename_i e' hu2
     injection hc with hc;subst hc
     simp only[execI]at h
     exact fin ⟨hu,Xq ⟨e',hu2⟩,hi,hvz,hzs,by omega,by omega⟩ h
    ·rename_i hu2
     split at hc
     ·injection hc with hc;subst hc
      simp only[execI]at h
      exact fin ⟨hu,Xt hu2,hi,hvz,hzs,by omega,by omega⟩ h
     ·cases hc
    ·cases hc
   ·cases hc
  ·cases hc
 ·refine Xq ?_
  split at hc
  ·rename_i t x hty
   have hargs2:∃ ox,cargs=#[ox]/\Zau ox=some x:=by
    obtain⟨l⟩:=cargs
    match l,hargs with
    | [],hargs=>simp[Zdc]at hargs
    | [ox],hargs =>
     simp only[Zdc]at hargs
     grind
    |ox::oy::r,hargs =>
     have:=ZaP hav
     simp at this
   obtain⟨ox,rfl,hx⟩:=hargs2
   have htys:ctypes=#[t]:=by
    obtain⟨l⟩:=ctypes
    simpa using hty
   subst htys
   have hx':=Zay T hx
   split at hc
   ·rename_i e hu
    injection hc with hc;subst hc
    simp only[execI]at h
    split at h
    ·rename_i b xs hh
     rw[hh]at hx';simp only[VR]at hx'
     obtain⟨A,cap,hv,_⟩:=hx'
     simp only[Xb,Xe]at h
     obtain⟨rfl,rfl,rfl⟩:=h
     refine Xq ⟨.int .i64 xs.length,w,?_,Post.here R (by simp only[VR])⟩
     simp[resolve,invoke,builtin,hv,Builtin.len_,run_underlying hu,goInt]
    ·rename_i t' g lo n hh
     rw[hh]at hx';simp only[VR]at hx'
     obtain⟨bi,_,hle,_,hv⟩:=hx'
     simp only[Xb,Xe]at h
     obtain⟨rfl,rfl,rfl⟩:=h
     refine Xq ⟨.int .i64 n,w,?_,Post.here R (by simp only[VR])⟩
     rcases hv with⟨b,_,hv⟩ |⟨_,hc0,A,hv⟩ |⟨_,_,hn0,A,hv⟩
     ·simp[resolve,invoke,builtin,hv,Builtin.len_,run_underlying hu,goInt]
     ·have : n=0:=by omega
      subst this
      simp[resolve,invoke,builtin,hv,Builtin.len_,run_underlying hu,goInt]
     ·subst hn0
      simp[resolve,invoke,builtin,hv,Builtin.len_,run_underlying hu,goInt]
    ·rename_i l hh
     rw[hh]at hx';simp only[VR]at hx'
     obtain⟨A,cap,hv,_⟩:=hx'
     simp only[Xb,Xe]at h
     obtain⟨rfl,rfl,rfl⟩:=h
     refine Xq ⟨.int .i64 l.length,w,?_,Post.here R (by simp only[VR])⟩
     simp[resolve,invoke,builtin,hv,Builtin.len_,run_underlying hu,goInt]
    ·cases h
   ·rename_i hu
    injection hc with hc;subst hc
    simp only[execI]at h
    split at h
    ·rename_i l hh
     rw[hh]at hx';simp only[VR]at hx'
     simp only[Xb,Xe]at h
     obtain⟨rfl,rfl,rfl⟩:=h
     refine Xq ⟨.int .i64 l.length,w,?_,Post.here R (by simp only[VR])⟩
     have hsz:Ws ⟨l.toArray⟩=l.length:=by simp[Ws]
     simp[resolve,invoke,builtin,hx'.1,Builtin.len_,run_underlying hu,goInt,hsz]
    ·cases h
   ·rename_i kt et hu
    injection hc with hc;subst hc
    simp only[execI]at h
    obtain⟨rfl,u,h1,h2⟩:=ZKJ R hu o.type hx' h
    exact Xq ⟨u,w,by simp[resolve,invoke,builtin,h1],Post.here R h2⟩
   ·cases hc
  ·cases hc
 ·refine Xq ?_
  split at hc
  ·rename_i t ts x y hty
   split at hc
   case h_2=>cases hc
   rename_i kc zv hmp
   injection hc with hc;subst hc
   obtain⟨kt,et,d,ht,hdk,hd,hz⟩:=ZmH hmp
   have hargs2:∃ ox oy,cargs=#[ox,oy]/\Zau ox=some x/\Zau oy=some y:=by
    obtain⟨l⟩:=cargs
    match l,hargs with
    | [],hargs=>simp[Zdc]at hargs
    | [ox],hargs =>
     simp only[Zdc]at hargs
     grind
    | [ox,oy],hargs =>
     simp only[Zdc]at hargs
     grind
    |ox::oy::oz::r,hargs=>have:=ZaP hav;simp at this
   obtain⟨ox,oy,rfl,hx,hy⟩:=hargs2
   have htys:ctypes=(t::ts).toArray:=by
    obtain⟨l⟩:=ctypes
    simpa using hty
   subst htys
   simp only[execI]at h
   obtain⟨w',h1,rfl,h2⟩:=ZCs R ht hdk hd ts o.type (Zay T hx) (Zay T hy) h
   exact Xq ⟨.tuple #[],w',by simp[resolve,invoke,builtin,h1],Post.here h2 ZjO⟩
  ·cases hc
 ·refine Xq ?_
  split at hc
  ·rename_i t x hty
   have hargs2:∃ ox,cargs=#[ox]/\Zau ox=some x:=by
    obtain⟨l⟩:=cargs
    match l,hargs with
    | [],hargs=>simp[Zdc]at hargs
    | [ox],hargs =>
     simp only[Zdc]at hargs
     grind
    |ox::oy::r,hargs =>
     have:=ZaP hav
     simp at this
   obtain⟨ox,rfl,hx⟩:=hargs2
   have htys:ctypes=#[t]:=by
    obtain⟨l⟩:=ctypes
    simpa using hty
   subst htys
   split at hc
   ·rename_i k bytes z he
    injection hc with hc;subst hc
    simp only[execI]at h
    obtain⟨vr,w1,h1,h2⟩:=ZFi (ty:=o.type) R he (Zay T hx) h
    exact Xq ⟨vr,w1,by simp[resolve,invoke,builtin,h1],h2⟩
   ·cases hc
  ·cases hc
 ·refine Xq ?_
  split at hc
  ·rename_i hl2
   injection hc with hc;subst hc
   simp only[execI]at h
   split at h
   ·rename_i k p k' q hh
    rw[hh]at hav
    simp only[VRs,VR]at hav
    obtain⟨v1,vs1,e1,rfl,v2,vs2,rfl,rfl,rfl⟩:=hav
    simp only[Xb,Xe]at h
    obtain⟨rfl,rfl,rfl⟩:=h
    have hca:cargs.map a.eval=#[.int k p,.int k' q]:=by
     apply Xbd
     simpa using e1
    refine Xq ⟨_,w,?_,Post.here R (by simp only[VR];rfl)⟩
    simp[resolve,invoke,builtin,hca,Builtin.max_,Builtin.max2]
   ·cases h
  ·cases hc
 ·refine Xq ?_
  split at hc
  ·rename_i hl2
   injection hc with hc;subst hc
   simp only[execI]at h
   split at h
   ·rename_i k p k' q hh
    rw[hh]at hav
    simp only[VRs,VR]at hav
    obtain⟨v1,vs1,e1,rfl,v2,vs2,rfl,rfl,rfl⟩:=hav
    simp only[Xb,Xe]at h
    obtain⟨rfl,rfl,rfl⟩:=h
    have hca:cargs.map a.eval=#[.int k p,.int k' q]:=by
     apply Xbd
     simpa using e1
    refine Xq ⟨_,w,?_,Post.here R (by simp only[VR];rfl)⟩
    simp[resolve,invoke,builtin,hca,Builtin.min_,Builtin.min2]
   ·cases h
  ·cases hc
 ·cases hc
theorem ZEZ{O:ZS}(hO:ZaN P O){bf:Nat->Bool}{an:Ann}{a:Act}{o:Oper}{own:Nat}{ins:Ins}(hc:Zad P an own o.op=some ins)(T:TR I V tm a.tmps)(R:Rel base w0 I0 I V G w)(hb:KLt base w0)
  {sq:Nat} (hsite:nsite ins≠0->G[sq]?=some .free) {v:AVal} {c:Cls} (h:execI O bf tm G sq ins=some (v,G',c)):OpR P (execOp a.eval o) w base w0 I0 I V v G':=by
 cases ho:o.op<;>rw[ho]at hc<;>first
  |exact Xq (ZKS hO _ ho hc T R hb hsite h)
  |exact Xq (ZPh hO _ ho hc T R hb hsite h)
  |exact Xq (ZQO hO _ _ _ ho hc T R hb hsite h)
  |exact Xq (ZMV hO _ ho hc T R hb hsite h)
  |exact Xq (ZG6 hO _ _ ho hc T R hb hsite h)
  |exact Xq (ZDl hO _ _ ho hc T R hb hsite h)
  |exact Xq (ZRp hO _ _ _ ho hc T R hb hsite h)
  |exact Xq (ZSy hO _ _ ho hc T R hb hsite h)
  |exact Xq (ZKG hO _ _ _ ho hc T R hb hsite h)
  |exact Xq (ZFD hO _ ho hc T R hb hsite h)
  |exact Xq (ZNq hO _ _ _ _ _ ho hc T R hb hsite h)
  |exact Xq (ZFv hO _ _ _ ho hc T R hb hsite h)
  |exact Xq (ZRf hO _ _ _ ho hc T R hb hsite h)
  |exact Xq (ZEj hO _ _ _ _ _ ho hc T R hb hsite h)
  |exact Xq (ZQe hO _ _ _ ho hc T R hb hsite h)
  |exact Xq (ZCH hO _ _ _ ho hc T R hb hsite h)
  |exact Xq (ZUC hO _ _ _ ho hc T R hb hsite h)
  |exact Xq (ZPO hO _ _ _ ho hc T R hb hsite h)
  |exact Xq (ZJl hO _ _ ho hc T R hb hsite h)
  |exact Xq (ZLO hO _ _ _ ho hc T R hb hsite h)
  |exact Xq (ZRb hO _ _ _ ho hc T R hb hsite h)
  |exact Xq (ZSp hO _ _ ho hc T R hb hsite h)
  |exact ZC6 hO _ ho hc T R hb hsite h
  |exact Xq (ZLB hO _ _ ho hc T R hb hsite h)
  |exact Xq (ZMW hO _ _ ho hc T R hb hsite h)
  |exact Xq (ZCx hO _ _ ho hc T R hb hsite h)
  |exact Xq (ZI2 hO _ _ _ _ ho hc T R hb hsite h)
  |exact Xq (ZH6 hO _ _ _ _ ho hc T R hb hsite h)
  |exact Xq (ZED hO _ _ _ _ ho hc T R hb hsite h)
  |exact ZPH hO _ ho hc T R hb hsite h
  |(simp only[Zad]at hc;grind)
end
end
section
open Go.RowKit
section
variable {O:ZS}{bf:Nat->Bool}{tm tm':Tms}{G G' G2:Za}{sq:Nat}
theorem Opd.ev_congr{x:Opd}(h:∀ n∈x.reads,tget tm n=tget tm' n):x.ev tm=x.ev tm':=by
 cases x with
 |t n=>exact h n (by simp[Opd.reads])
 |c v=>rfl
theorem Zog{xs:List Opd}(h:∀ n∈xs.flatMap Opd.reads,tget tm n=tget tm' n):(xs.map fun x=>x.ev tm)=xs.map fun x=>x.ev tm':=by
 apply Xax
 intro x hx
 exact Opd.ev_congr fun n hn=>h n (Wr.2 ⟨x,hx,hn⟩)
theorem Zli{x:Option Opd}(h:∀ n∈ZiF x,tget tm n=tget tm' n):(x.map fun x=>x.ev tm)=x.map fun x=>x.ev tm':=by
 cases x with
 |none=>rfl
 |some x=>simp only[X9];rw[Opd.ev_congr (x:=x) h]
theorem Zib{ins:Ins}(h:∀ n∈ins.reads,tget tm n=tget tm' n):execI O bf tm G sq ins=execI O bf tm' G sq ins:=by
 cases ins with
 |alloc zs=>rfl
 |build zs ps =>
  have : (ps.map fun p=>(p.1,p.2.1,p.2.2.ev tm))=ps.map fun p=>(p.1,p.2.1,p.2.2.ev tm'):=by
   apply Xax
   intro p hp
   rw[Opd.ev_congr (x:=p.2.2) fun n hn=>h n (by simp only[Ins.reads];exact Wr.2 ⟨p,hp,hn⟩)]
  simp only[execI,this]
 |bslice own k n z ps =>
  have : (ps.map fun p=>p.2.ev tm)=ps.map fun p=>p.2.ev tm':=by
   apply Xax
   intro p hp
   rw[Opd.ev_congr (x:=p.2) fun n hn=>h n (by simp only[Ins.reads];exact Wr.2 ⟨p,hp,hn⟩)]
  simp only[execI,this]
 |rslice k n z ps =>
  have h0:∀ p∈ps,p.2.ev tm=p.2.ev tm':=fun p hp=>Opd.ev_congr (x:=p.2) fun n hn=>h n (by simp only[Ins.reads];grind)
  have h1:(ps.map fun p=>(p.1,p.2.ev tm))=ps.map fun p=>(p.1,p.2.ev tm'):=Xax fun p hp=>by grind
  have h2:(ps.all fun p=>(p.2.ev tm).cells.length==k&&(p.2.ev tm).cells.all ZY)=ps.all fun p=>(p.2.ev tm').cells.length==k&&(p.2.ev tm').cells.all ZY:=by
   rw[Bool.eq_iff_iff,Xy,Xy]
   exact⟨fun h p hp=>by rw[<-h0 p hp];exact h p hp,fun h p hp=>by rw[h0 p hp];exact h p hp⟩
  simp only[execI,h1,h2]
 |rng x=>simp only[execI,Opd.ev_congr (x:=x) h]
 |nxt x=>simp only[execI,Opd.ev_congr (x:=x) h]
 |mkmap=>rfl
 |mlen x=>simp only[execI,Opd.ev_congr (x:=x) h]
 |look kc z ok x y=>simp only[Ins.reads,XE]at h;simp only[execI,Opd.ev_congr (x:=x) fun n hn=>h n (Xq hn),Opd.ev_congr (x:=y) fun n hn=>h n (Xt hn)]
 |mdel kc x y=>simp only[Ins.reads,XE]at h;simp only[execI,Opd.ev_congr (x:=x) fun n hn=>h n (Xq hn),Opd.ev_congr (x:=y) fun n hn=>h n (Xt hn)]
 |mset kc x y z =>
  simp only[Ins.reads,XE]at h
  simp only[execI,Opd.ev_congr (x:=x) fun n hn=>h n (Xq (Xq hn)),Opd.ev_congr (x:=y) fun n hn=>h n (Xq (Xt hn)),Opd.ev_congr (x:=z) fun n hn=>h n (Xt hn)]
 |mov x=>simp only[execI,Opd.ev_congr (x:=x) h]
 |box x=>simp only[execI,Opd.ev_congr (x:=x) h]
 |un op x=>simp only[execI,Opd.ev_congr (x:=x) h]
 |i2i k x=>simp only[execI,Opd.ev_congr (x:=x) h]
 |i2s x=>simp only[execI,Opd.ev_congr (x:=x) h]
 |clr k z x=>simp only[execI,Opd.ev_congr (x:=x) h]
 |same x=>simp only[execI,Opd.ev_congr (x:=x) h]
 |s2b x=>simp only[execI,Opd.ev_congr (x:=x) h]
 |b2s x=>simp only[execI,Opd.ev_congr (x:=x) h]
 |s2s x=>simp only[execI,Opd.ev_congr (x:=x) h]
 |faddr o x=>simp only[execI,Opd.ev_congr (x:=x) h]
 |field k o x=>simp only[execI,Opd.ev_congr (x:=x) h]
 |ext x i=>simp only[execI,Opd.ev_congr (x:=x) h]
 |len x=>simp only[execI,Opd.ev_congr (x:=x) h]
 |slen x=>simp only[execI,Opd.ev_congr (x:=x) h]
 |nilchk x=>simp only[execI,Opd.ev_congr (x:=x) h]
 |mki t x=>simp only[execI,Opd.ev_congr (x:=x) h]
 |panic x=>simp only[execI,Opd.ev_congr (x:=x) h]
 |ld k x=>simp only[execI,Opd.ev_congr (x:=x) h]
 |pick c a b =>
  simp only[Ins.reads,XE]at h
  simp only[execI,Opd.ev_congr (x:=c) fun n hn=>h n (Xq (Xq hn)),Opd.ev_congr (x:=a) fun n hn=>h n (Xq (Xt hn)),Opd.ev_congr (x:=b) fun n hn=>h n (Xt hn)]
 |st k x y=>simp only[Ins.reads,XE]at h;simp only[execI,Opd.ev_congr (x:=x) fun n hn=>h n (Xq hn),Opd.ev_congr (x:=y) fun n hn=>h n (Xt hn)]
 |bin k x y=>simp only[Ins.reads,XE]at h;simp only[execI,Opd.ev_congr (x:=x) fun n hn=>h n (Xq hn),Opd.ev_congr (x:=y) fun n hn=>h n (Xt hn)]
 |iaddr k x y=>simp only[Ins.reads,XE]at h;simp only[execI,Opd.ev_congr (x:=x) fun n hn=>h n (Xq hn),Opd.ev_congr (x:=y) fun n hn=>h n (Xt hn)]
 |aaddr k n x y=>simp only[Ins.reads,XE]at h;simp only[execI,Opd.ev_congr (x:=x) fun n hn=>h n (Xq hn),Opd.ev_congr (x:=y) fun n hn=>h n (Xt hn)]
 |sindex x y=>simp only[Ins.reads,XE]at h;simp only[execI,Opd.ev_congr (x:=x) fun n hn=>h n (Xq hn),Opd.ev_congr (x:=y) fun n hn=>h n (Xt hn)]
 |aindex s k n x y=>simp only[Ins.reads,XE]at h;simp only[execI,Opd.ev_congr (x:=x) fun n hn=>h n (Xq hn),Opd.ev_congr (x:=y) fun n hn=>h n (Xt hn)]
 |app k b z x y=>simp only[Ins.reads,XE]at h;simp only[execI,Opd.ev_congr (x:=x) fun n hn=>h n (Xq hn),Opd.ev_congr (x:=y) fun n hn=>h n (Xt hn)]
 |mkslice k b z x y=>simp only[Ins.reads,XE]at h;simp only[execI,Opd.ev_congr (x:=x) fun n hn=>h n (Xq hn),Opd.ev_congr (x:=y) fun n hn=>h n (Xt hn)]
 |beq k x y=>simp only[Ins.reads,XE]at h;simp only[execI,Opd.ev_congr (x:=x) fun n hn=>h n (Xq hn),Opd.ev_congr (x:=y) fun n hn=>h n (Xt hn)]
 |peq k x y=>simp only[Ins.reads,XE]at h;simp only[execI,Opd.ev_congr (x:=x) fun n hn=>h n (Xq hn),Opd.ev_congr (x:=y) fun n hn=>h n (Xt hn)]
 |eqv k ks x y=>simp only[Ins.reads,XE]at h;simp only[execI,Opd.ev_congr (x:=x) fun n hn=>h n (Xq hn),Opd.ev_congr (x:=y) fun n hn=>h n (Xt hn)]
 |ieq k x y=>simp only[Ins.reads,XE]at h;simp only[execI,Opd.ev_congr (x:=x) fun n hn=>h n (Xq hn),Opd.ev_congr (x:=y) fun n hn=>h n (Xt hn)]
 |slice k x lo hi mx =>
  simp only[Ins.reads,XE]at h
  simp only[execI,Opd.ev_congr (x:=x) fun n hn=>h n (Xq (Xq (Xq hn))),Zli (x:=lo) fun n hn=>h n (Xq (Xq (Xt hn))),Zli (x:=hi) fun n hn=>h n (Xq (Xt hn)),Zli (x:=mx) fun n hn=>h n (Xt hn)]
 |sslice x lo hi =>
  simp only[Ins.reads,XE]at h
  simp only[execI,Opd.ev_congr (x:=x) fun n hn=>h n (Xq (Xq hn)),Zli (x:=lo) fun n hn=>h n (Xq (Xt hn)),Zli (x:=hi) fun n hn=>h n (Xt hn)]
 |mm m xs=>simp only[Ins.reads]at h;simp only[execI,Zog h]
 |call f own vw xs=>simp only[Ins.reads]at h;simp only[execI,Zog h]
 |mkfn f xs=>simp only[Ins.reads]at h;simp only[execI,Zog h]
 |callv x xs =>
  simp only[Ins.reads,XE]at h
  simp only[execI,Opd.ev_congr (x:=x) fun n hn=>h n (Xq hn),Zog (xs:=xs) fun n hn=>h n (Xt hn)]
def Agree(G G2:Za)(ts:List Nat):Prop:=∀ t∈ts,G2[t]?=G[t]?
theorem Agree.left{ts us:List Nat}(h:Agree G G2 (ts++us)):Agree G G2 ts:=fun t ht=>h t (by simp[ht])
theorem Agree.right{ts us:List Nat}(h:Agree G G2 (ts++us)):Agree G G2 us:=fun t ht=>h t (by simp[ht])
theorem ZgQ{a:AVal}{xs:List AVal}{ts:List Nat}(h:ZZ G a=some (xs,ts))(hA:Agree G G2 ts):ZZ G2 a=some (xs,ts):=by
 unfold ZZ at h⊢
 split at h
 ·exact h
 ·exact h
 ·exact h
 ·rename_i t g lo n
  have ht:t∈ts:=by
   split at h
   ·split at h
    ·simp only[Xb,Xe]at h;rw[<-h.2];simp
    ·cases h
   ·split at h
    ·simp only[Xb,Xe]at h;rw[<-h.2];simp
    ·cases h
   ·cases h
  rw[hA t ht]
  exact h
 ·cases h
theorem Zza{a y:AVal}{ts:List Nat}(h:ZN G a=some (y,ts))(hA:Agree G G2 ts):ZN G2 a=some (y,ts):=by
 unfold ZN at h⊢
 split at h
 case h_2 =>
  split at h
  ·rename_i he
   simp only[Xb,Xe]at h
   obtain⟨rfl,rfl⟩:=h
   rw[ZgQ he hA]
  ·cases h
 all_goals exact h
theorem ZwW:∀ {cs ys:List AVal} {ts:List Nat},Zag G cs=some (ys,ts)->Agree G G2 ts->Zag G2 cs=some (ys,ts)
 | [],ys,ts,h,_=>h
 |c::cs,ys,ts,h,hA=>by
  simp only[Zag]at h⊢
  split at h
  ·rename_i h1
   split at h
   ·rename_i h2
    simp only[Xb,Xe]at h
    obtain⟨rfl,rfl⟩:=h
    rw[Zza h1 hA.left]
    simp only
    rw[ZwW h2 hA.right]
   ·cases h
  ·cases h
theorem ZSC{a y:AVal}{ts:List Nat}(h:Z3 G a=some (y,ts))(hA:Agree G G2 ts):Z3 G2 a=some (y,ts):=by
 unfold Z3 at h⊢
 split at h
 ·split at h
  ·rename_i h1
   simp only[Xb,Xe]at h
   obtain⟨rfl,rfl⟩:=h
   rw[ZwW h1 hA]
  ·cases h
 ·exact Zza h hA
theorem Zo8:∀ {cs ys:List AVal} {ts:List Nat},viewAs G cs=some (ys,ts)->Agree G G2 ts->viewAs G2 cs=some (ys,ts)
 | [],ys,ts,h,_=>h
 |c::cs,ys,ts,h,hA=>by
  simp only[viewAs]at h⊢
  split at h
  ·rename_i h1
   split at h
   ·rename_i h2
    simp only[Xb,Xe]at h
    obtain⟨rfl,rfl⟩:=h
    rw[ZSC h1 hA.left]
    simp only
    rw[Zo8 h2 hA.right]
   ·cases h
  ·cases h
theorem ZqC{a y:AVal}{ts:List Nat}(h:Zct G a=some (y,ts))(hA:Agree G G2 ts):Zct G2 a=some (y,ts):=by
 unfold Zct at h⊢
 split at h
 case h_2 =>
  split at h
  ·rename_i he
   simp only[Xb,Xe]at h
   obtain⟨rfl,rfl⟩:=h
   rw[ZgQ he hA]
  ·cases h
 all_goals exact h
theorem ZvQ:∀ {cs ys:List AVal} {ts:List Nat},ZcB G cs=some (ys,ts)->Agree G G2 ts->ZcB G2 cs=some (ys,ts)
 | [],ys,ts,h,_=>h
 |c::cs,ys,ts,h,hA=>by
  simp only[ZcB]at h⊢
  split at h
  ·rename_i h1
   split at h
   ·rename_i h2
    simp only[Xb,Xe]at h
    obtain⟨rfl,rfl⟩:=h
    rw[ZqC h1 hA.left]
    simp only
    rw[ZvQ h2 hA.right]
   ·cases h
  ·cases h
theorem ZFS{a y:AVal}{ts:List Nat}(h:showA G a=some (y,ts))(hA:Agree G G2 ts):showA G2 a=some (y,ts):=by
 unfold showA at h⊢
 split at h
 ·split at h
  ·rename_i h1
   simp only[Xb,Xe]at h
   obtain⟨rfl,rfl⟩:=h
   rw[ZvQ h1 hA]
  ·cases h
 ·exact ZqC h hA
theorem ZnX:∀ {cs ys:List AVal} {ts:List Nat},showAs G cs=some (ys,ts)->Agree G G2 ts->showAs G2 cs=some (ys,ts)
 | [],ys,ts,h,_=>h
 |c::cs,ys,ts,h,hA=>by
  simp only[showAs]at h⊢
  split at h
  ·rename_i h1
   split at h
   ·rename_i h2
    simp only[Xb,Xe]at h
    obtain⟨rfl,rfl⟩:=h
    rw[ZFS h1 hA.left]
    simp only
    rw[ZnX h2 hA.right]
   ·cases h
  ·cases h
theorem ZGw{a:AVal}{l:List UInt8}{ls:List Nat}(h:Ze7 G a=some (l,ls))(hA:Agree G G2 ls):Ze7 G2 a=some (l,ls):=by
 unfold Ze7 at h⊢
 split at h
 ·split at h
  ·rename_i he
   split at h
   ·rename_i hb
    simp only[Xb,Xe]at h
    obtain⟨rfl,rfl⟩:=h
    rw[ZgQ he hA]
    simp only[hb]
   ·cases h
  ·cases h
 ·cases h
theorem ZLR{a y:AVal}{ts:List Nat}(h:Ze7 G a=none)(hs:Zct G a=some (y,ts))(hA:Agree G G2 ts):Ze7 G2 a=none:=by
 cases a with
 |sl t g lo n =>
  simp only[Ze7]at h⊢
  simp only[Zct]at hs
  split at hs
  ·rename_i he
   simp only[Xb,Xe]at hs
   obtain⟨_,rfl⟩:=hs
   rw[ZgQ he hA]
   rw[he]at h
   exact h
  ·cases hs
 |_=>rfl
theorem ZzB{a y:AVal}{ts ls:List Nat}(h:ZfP G a=some (y,ts,ls))(hA:Agree G G2 ts)(hB:Agree G G2 ls):ZfP G2 a=some (y,ts,ls):=by
 unfold ZfP at h⊢
 split at h
 ·rename_i hb
  simp only[Xb,Xe]at h
  obtain⟨rfl,rfl,rfl⟩:=h
  rw[ZGw hb hB]
 ·rename_i hb
  split at h
  ·rename_i hs
   simp only[Xb,Xe]at h
   obtain⟨rfl,rfl,rfl⟩:=h
   rw[ZLR hb hs hA]
   simp only[ZqC hs hA]
  ·cases h
theorem ZzD:∀ {cs ys:List AVal} {ts ls:List Nat},ZeR G cs=some (ys,ts,ls)->Agree G G2 ts->Agree G G2 ls->ZeR G2 cs=some (ys,ts,ls)
 | [],ys,ts,ls,h,_,_=>h
 |c::cs,ys,ts,ls,h,hA,hB=>by
  simp only[ZeR]at h⊢
  split at h
  ·rename_i h1
   split at h
   ·rename_i h2
    simp only[Xb,Xe]at h
    obtain⟨rfl,rfl,rfl⟩:=h
    rw[ZzB h1 hA.left hB.left]
    simp only
    rw[ZzD h2 hA.right hB.right]
   ·cases h
  ·cases h
theorem ZLk{a y:AVal}{ts ls:List Nat}(h:Zgp G a=some (y,ts,ls))(hA:Agree G G2 ts)(hB:Agree G G2 ls):Zgp G2 a=some (y,ts,ls):=by
 unfold Zgp at h⊢
 split at h
 ·split at h
  ·rename_i h1
   simp only[Xb,Xe]at h
   obtain⟨rfl,rfl,rfl⟩:=h
   rw[ZzD h1 hA hB]
  ·cases h
 ·exact ZzB h hA hB
theorem Zvn:∀ {cs ys:List AVal} {ts ls:List Nat},ZdN G cs=some (ys,ts,ls)->Agree G G2 ts->Agree G G2 ls->ZdN G2 cs=some (ys,ts,ls)
 | [],ys,ts,ls,h,_,_=>h
 |c::cs,ys,ts,ls,h,hA,hB=>by
  simp only[ZdN]at h⊢
  split at h
  ·rename_i h1
   split at h
   ·rename_i h2
    simp only[Xb,Xe]at h
    obtain⟨rfl,rfl,rfl⟩:=h
    rw[ZLk h1 hA.left hB.left]
    simp only
    rw[Zvn h2 hA.right hB.right]
   ·cases h
  ·cases h
def Zbs(G:Za)(s:Nat):Option ZO->Za
 |none=>G
 |some b=>G.set s b
def Zg2(G:Za)(ts:List Nat):Prop:=∀ t∈ts,∃ x,G[t]?=some x/\x≠.free
theorem Rowy.nonfree{ts:List Nat}(h:Rowy G ts):Zg2 G ts:=by
 intro t ht
 obtain⟨g,k,xs,h |h⟩:=h t ht
 ·grind
 grind
theorem Zft:Zg2 G []:=fun t ht=>by simp at ht
theorem Zwx{bf:Nat->Bool}{f md:Nat}{args xs:List AVal}{ts us:List Nat}(h:Zbb bf f G args=some (xs,ts,us,md)) :
  (∀ t∈ts,t∈us)/\Zg2 G us/\∀ G2,Agree G G2 us->Zbb bf f G2 args=some (xs,ts,us,md):=by
 unfold Zbb at h
 split at h
 ·rename_i hb
  split at h
  ·rename_i hb2
   split at h
   ·rename_i hl
    split at h
    case isFalse=>cases h
    rename_i hr
    simp only[Xb,Xe]at h
    obtain⟨rfl,rfl,rfl,rfl⟩:=h
    refine⟨fun t ht=>by simp[ht],((Zkm hl).1.append (Zkm hl).2).nonfree,fun G2 hA=>?_⟩
    simp only[Zbb,hb,hb2,if_true,Zvn hl hA.left hA.right,hr]
   ·cases h
  rename_i hb2
  split at h
  ·rename_i hb3
   split at h
   ·rename_i hs
    simp only[Xb,Xe]at h
    obtain⟨rfl,rfl,rfl,rfl⟩:=h
    refine⟨fun t ht=>ht,(ZkX hs).nonfree,fun G2 hA=>?_⟩
    simp only[Zbb,hb,hb2,hb3,if_true,if_false,Xi,ZnX hs hA]
   ·cases h
  ·rename_i hb3
   simp only[Xb,Xe]at h
   obtain⟨rfl,rfl,rfl,rfl⟩:=h
   refine⟨fun t ht=>ht,Zft,fun G2 _=>?_⟩
   simp only[Zbb,hb,hb2,hb3,if_true,if_false,Xi]
 ·rename_i hb
  split at h
  ·rename_i hs
   split at h
   ·rename_i hl
    split at h
    case isFalse=>cases h
    rename_i hr
    simp only[Xb,Xe]at h
    obtain⟨rfl,rfl,rfl,rfl⟩:=h
    refine⟨fun t ht=>ht,(ZkX hs).nonfree,fun G2 hA=>?_⟩
    simp only[Zbb,hb,if_false,Xi,ZnX hs hA,hl,hr,if_true]
   ·rename_i hl
    simp only[Xb,Xe]at h
    obtain⟨rfl,rfl,rfl,rfl⟩:=h
    refine⟨fun t ht=>ht,(ZkX hs).nonfree,fun G2 hA=>?_⟩
    simp only[Zbb,hb,if_false,Xi,ZnX hs hA,hl]
  ·cases h
theorem ZqN{t:Nat}{x:ZO}(h:G[t]?=some x)(hx:x≠.free):Zg2 G [t]:=fun t' ht=>by
 grind
def Framed(f:Za->Option (AVal×Za×Cls))(G:Za)(sq ns:Nat)(v:AVal)(G':Za)(c:Cls):Prop :=
 ∃ ob,G'=Zbs G sq ob/\(ob.isSome=true->ns≠0)/\ob≠some .free/\Zg2 G c.rd/\∀ G2,Agree G G2 c.rd->f G2=some (v,Zbs G2 sq ob,c)
theorem Framed.pure{f:Za->Option (AVal×Za×Cls)}{v:AVal}{c:Cls}{ns:Nat}(hr:c.rd=[])(hf:∀ G2,f G2=some (v,G2,c)):Framed f G sq ns v G c :=
 ⟨none,rfl,by simp,by simp,by rw[hr];exact Zft,fun G2 _=>hf G2⟩
theorem ZAY{kc:Nat}{z:AVal}{ok:Bool}{m k v:AVal}{c:Cls}{ns:Nat}(h:Zf9 G kc z ok m k=some (v,G',c)):Framed (fun G=>Zf9 G kc z ok m k) G sq ns v G' c:=by
 unfold Zf9 at h
 split at h
 case isFalse=>cases h
 rename_i hk
 split at h
 ·simp only[Xb,Xe]at h
  obtain⟨rfl,rfl,rfl⟩:=h
  exact Framed.pure rfl fun G2=>by simp only[Zf9];grind
 ·rename_i t
  split at h
  case h_2=>cases h
  rename_i es hs
  have hnf:Zg2 G [t]:=fun u hu=>by grind
  split at h
  ·rename_i j y hf
   simp only[Xb,Xe]at h
   obtain⟨rfl,rfl,rfl⟩:=h
   refine⟨none,rfl,by simp,by simp,hnf,fun G2 hA=>?_⟩
   have e2:G2[t]?=some (.map es):=by rw[hA t (by simp)];exact hs
   simp only[Zf9,e2,hf,Zbs]
   grind
  ·rename_i hf
   simp only[Xb,Xe]at h
   obtain⟨rfl,rfl,rfl⟩:=h
   refine⟨none,rfl,by simp,by simp,hnf,fun G2 hA=>?_⟩
   have e2:G2[t]?=some (.map es):=by rw[hA t (by simp)];exact hs
   simp only[Zf9,e2,hf,Zbs]
   grind
  ·cases h
 ·cases h
theorem ZS2{m v:AVal}{c:Cls}{ns:Nat}(h:Zir G m=some (v,G',c)):Framed (fun G=>Zir G m) G sq ns v G' c:=by
 unfold Zir at h
 split at h
 ·simp only[Xb,Xe]at h
  obtain⟨rfl,rfl,rfl⟩:=h
  exact Framed.pure rfl fun G2=>rfl
 ·rename_i t
  split at h
  case h_2=>cases h
  rename_i es hs
  simp only[Xb,Xe]at h
  obtain⟨rfl,rfl,rfl⟩:=h
  refine⟨none,rfl,by simp,by simp,fun u hu=>by grind,fun G2 hA=>?_⟩
  have e2:G2[t]?=some (.map es):=by rw[hA t (by simp)];exact hs
  simp only[Zir,e2,Zbs]
 ·cases h
theorem ZCw{k:Option Nat}{a v:AVal}{c:Cls}{ns:Nat}(h:ldA G k a=some (v,G',c)):Framed (fun G=>ldA G k a) G sq ns v G' c:=by
 have h0:=h
 unfold ldA at h
 have fin:∀ t,G'=G->c.rd=[t]->(∃ x,G[t]?=some x/\x≠.free)->(∀ G2:Za,G2[t]?=G[t]?->ldA G2 k a=(ldA G k a).map fun p=>(p.1,G2,p.2.2))->Framed (fun G=>ldA G k a) G sq ns v G' c:=by
  intro t e1 e2 ⟨x,hx,hne⟩ hf
  subst e1
  refine⟨none,rfl,by simp,by simp,by rw[e2];exact ZqN hx hne,fun G2 hA=>?_⟩
  rw[e2]at hA
  simp only
  rw[hf G2 (hA t (by simp)),h0]
  rfl
 split at h
 ·rename_i t o
  split at h
  ·rename_i cs hs
   split at h
   ·rename_i v' hp
    simp only[Xb,Xe]at h
    obtain⟨rfl,rfl,rfl⟩:=h
    exact fin t rfl rfl ⟨_,hs,by simp⟩ (fun G2 h2=>by simp only[ldA,h2,hs,hp,X9])
   ·cases h
  ·cases h
 ·rename_i t g i o
  split at h
  ·rename_i g' kk xs hs
   split at h
   ·rename_i e
    split at h
    ·rename_i x hx
     split at h
     ·rename_i v' hp
      simp only[Xb,Xe]at h
      obtain⟨rfl,rfl,rfl⟩:=h
      exact fin t rfl rfl ⟨_,hs,by simp⟩ (fun G2 h2=>by simp only[ldA,h2,hs,e,if_true,hx,hp,X9])
     ·cases h
    ·cases h
   ·cases h
  ·rename_i g' kk xs hs
   split at h
   ·rename_i e
    split at h
    ·rename_i x hx
     split at h
     ·rename_i v' hp
      simp only[Xb,Xe]at h
      obtain⟨rfl,rfl,rfl⟩:=h
      exact fin t rfl rfl ⟨_,hs,by simp⟩ (fun G2 h2=>by simp only[ldA,h2,hs,e,if_true,hx,hp,X9])
     ·cases h
    ·cases h
   ·cases h
  ·rename_i g' kk xs hs
   split at h
   ·rename_i e
    split at h
    ·rename_i x hx
     split at h
     ·rename_i v' hp
      simp only[Xb,Xe]at h
      obtain⟨rfl,rfl,rfl⟩:=h
      exact fin t rfl rfl ⟨_,hs,by simp⟩ (fun G2 h2=>by simp only[ldA,h2,hs,e,if_true,hx,hp,X9])
     ·cases h
    ·cases h
   ·cases h
  ·cases h
 ·rename_i cs o
  split at h
  ·rename_i v' hp
   simp only[Xb,Xe]at h
   obtain⟨rfl,rfl,rfl⟩:=h
   exact Framed.pure rfl (fun G2=>by simp only[ldA,hp])
  ·cases h
 ·cases h
theorem ZVh{k:Nat}{x i v:AVal}{c:Cls}{ns:Nat}(h:Zc6 G k x i=some (v,G',c)):Framed (fun G=>Zc6 G k x i) G sq ns v G' c:=by
 have h0:=h
 unfold Zc6 at h
 split at h
 case h_2=>cases h
 rename_i kk ii
 split at h
 case isFalse=>cases h
 rename_i hi
 split at h
 ·rename_i b xs
  split at h
  ·rename_i y hy
   split at h
   ·rename_i hk
    simp only[Xb,Xe]at h
    obtain⟨rfl,rfl,rfl⟩:=h
    exact Framed.pure rfl (fun G2=>by simp only[Zc6,hi,if_true,hy,hk])
   ·cases h
  ·cases h
 ·rename_i t g p n
  split at h
  case isFalse=>cases h
  rename_i hn
  have fin:G'=G->c.rd=[t]->(∃ x,G[t]?=some x/\x≠.free)->Framed (fun G=>Zc6 G k (.sl t g p n) (.int kk ii)) G sq ns v G' c:=by
   intro e1 e2 ⟨x,hx,hne⟩
   subst e1
   refine⟨none,rfl,by simp,by simp,by rw[e2];exact ZqN hx hne,fun G2 hA=>?_⟩
   rw[e2]at hA
   have h2:=hA t (by simp)
   simp only[Zc6,hi,if_true,hn]at h0 ⊢
   rw[h2]
   split at h0
   ·split at h0
    ·rename_i hc
     simp only[Xb,Xe]at h0
     obtain⟨rfl,_,rfl⟩:=h0
     rename_i hs
     simp only[hc,and_self,if_true]
     rfl
    ·cases h0
   ·split at h0
    ·rename_i hc
     simp only[Xb,Xe]at h0
     obtain⟨rfl,_,rfl⟩:=h0
     rename_i hs
     simp only[hc,and_self,if_true]
     rfl
    ·cases h0
   ·split at h0
    ·rename_i hc
     simp only[Xb,Xe]at h0
     obtain⟨rfl,_,rfl⟩:=h0
     rename_i hs
     simp only[hc,and_self,if_true]
     rfl
    ·cases h0
   ·cases h0
  grind
 ·cases h
end
end
section
open Go.RowKit
section
variable {O:ZS}{bf:Nat->Bool}{tm tm':Tms}{G G' G2:Za}{sq:Nat}
theorem Framed.one{f:Za->Option (AVal×Za×Cls)}{v:AVal}{c:Cls}{ns t:Nat}(hr:c.rd=[t])(hn:∃ x,G[t]?=some x/\x≠.free)(hf:∀ G2:Za,G2[t]?=G[t]?->f G2=some (v,G2,c)):Framed f G sq ns v G c:=by
 obtain⟨x,hx,hne⟩:=hn
 exact⟨none,rfl,by simp,by simp,by rw[hr];exact ZqN hx hne,fun G2 hA=>hf G2 (hA t (by grind))⟩
theorem ZHr{k:Nat}{x v:AVal}{lo hi mx:Option AVal}{c:Cls}{ns:Nat}(h:ZbO G k x lo hi mx=some (v,G',c))(hw:c.wr=[]):Framed (fun G=>ZbO G k x lo hi mx) G sq ns v G' c:=by
 unfold ZbO at h
 split at h
 ·rename_i b xs
  split at h
  ·cases h
  rename_i m hm
  split at h
  ·cases h
  rename_i h' hh
  split at h
  ·cases h
  rename_i l hl
  split at h
  case isFalse=>cases h
  rename_i hk0
  split at h
  ·rename_i hmx
   simp only[Xb,Xe]at h
   obtain⟨rfl,rfl,rfl⟩:=h
   exact Framed.pure rfl (fun G2=>by simp only[ZbO,hm,hh,hl,hk0,if_true,hmx])
  ·rename_i hmx
   simp only[Xb,Xe]at h
   obtain⟨rfl,rfl,rfl⟩:=h
   exact Framed.pure rfl (fun G2=>by simp only[ZbO,hm,hh,hl,hk0,if_true,hmx,if_false,Xi])
 ·rename_i xs
  split at h
  case isFalse=>cases h
  rename_i hk1
  split at h
  ·cases h
  rename_i h' hh
  split at h
  ·cases h
  rename_i l hl
  simp only[Xb,Xe]at h
  obtain⟨rfl,rfl,rfl⟩:=h
  exact Framed.pure rfl (fun G2=>by simp only[ZbO];grind)
 ·rename_i t g p n
  split at h
  ·cases h
  rename_i els hels
  have hnf:∃ x,G[t]?=some x/\x≠.free:=by
   simp only[ZZ]at hels
   split at hels
   ·grind
   ·grind
   ·cases hels
  have hel2:∀ G2:Za,G2[t]?=G[t]?->ZZ G2 (.sl t g p n)=some els:=by
   intro G2 h2
   rw[<-hels]
   simp only[ZZ,h2]
  split at h
  ·rename_i m0
   split at h
   ·rename_i q1 hq1
    split at h
    ·rename_i q2 hq2
     split at h
     ·rename_i q3 hq3
      simp only[Xb,Xe]at h
      obtain⟨rfl,rfl,rfl⟩:=h
      exact Framed.one rfl hnf (fun G2 h2=>by simp only[ZbO,hel2 G2 h2,hq1,hq2,hq3])
     ·cases h
    ·cases h
   ·rename_i hq0
    split at h
    ·rename_i q1 hq1
     split at h
     ·rename_i q2 hq2
      split at h
      ·rename_i q3 hq3
       simp only[Xb,Xe]at h
       obtain⟨rfl,rfl,rfl⟩:=h
       exact Framed.one rfl hnf (fun G2 h2=>by simp only[ZbO,hel2 G2 h2,hq0,hq1,hq2,hq3])
      ·cases h
     ·cases h
    ·cases h
  ·split at h
   ·rename_i g' k' xs hs
    split at h
    case isFalse=>cases h
    rename_i hkk
    split at h
    ·cases h
    rename_i h' hh
    split at h
    ·cases h
    rename_i l hl
    simp only[Xb,Xe]at h
    obtain⟨rfl,rfl,rfl⟩:=h
    exact Framed.one rfl hnf (fun G2 h2=>by simp only[ZbO,hel2 G2 h2,h2,hs,hkk,if_true,hh,hl])
   ·rename_i g' k' xs hs
    split at h
    case isFalse=>cases h
    rename_i hkk
    split at h
    ·cases h
    rename_i h' hh
    split at h
    ·cases h
    rename_i l hl
    simp only[Xb,Xe]at h
    obtain⟨rfl,rfl,rfl⟩:=h
    exact Framed.one rfl hnf (fun G2 h2=>by simp only[ZbO,hel2 G2 h2,h2,hs,hkk,if_true,hh,hl])
   ·cases h
 ·cases h
theorem ZKD{k bytes:Nat}{x y v:AVal}{c:Cls}(h:Zd3 G sq k bytes x y=some (v,G',c)):c.any=true:=by
 unfold Zd3 at h
 grind
theorem ZJZ{k bytes:Nat}{x y v:AVal}{c:Cls}(h:Zan G sq k bytes x y=some (v,G',c))(hw:c.wr=[])(ha:c.any=false):Framed (fun G=>Zan G sq k bytes x y) G sq 1 v G' c:=by
 unfold Zan at h
 split at h
 ·rw[ZKD h]at ha;cases ha
 rename_i ys us he
 split at h
 case isFalse=>cases h
 rename_i hk
 have hnf:=(ZjV he).nonfree
 split at h
 ·split at h
  ·rename_i hb
   simp only[Xb,Xe]at h
   obtain⟨rfl,rfl,rfl⟩:=h
   refine⟨some (.row 0 k ys),rfl,by simp,by simp,hnf,fun G2 hA=>?_⟩
   simp only[Zan,ZgQ he hA,hk,if_true,hb,Zbs]
  ·cases h
 ·rename_i x0 xs0
  split at h
  ·rename_i hb
   split at h
   ·simp only[Xb,Xe]at h
    obtain⟨rfl,rfl,rfl⟩:=h
    refine⟨none,rfl,by simp,by simp,hnf,fun G2 hA=>?_⟩
    simp only[Zan,ZgQ he hA,hk,if_true,Zbs]
    grind
   ·rename_i y0 ys0
    simp only[Xb,Xe]at h
    obtain⟨rfl,rfl,rfl⟩:=h
    refine⟨some (.row 0 k ((x0::xs0)++(y0::ys0))),rfl,by simp,by simp,hnf,fun G2 hA=>?_⟩
    simp only[Zan,ZgQ he hA,hk,if_true,Zbs]
    grind
  ·cases h
 ·grind
 ·cases h
theorem Zv2{G:Za}{vs:List AVal}(h:Zt G 1000 (Zl vs) []=[]):Zl vs=[]:=by
 cases e:Zl vs with
 |nil=>rfl
 |cons t r =>
  rw[e]at h
  simp only[Zt,Wh,Xi,if_false,List.nil_append]at h
  obtain⟨_,r',hr⟩:=Zlk (G:=G) 999 (ZB (G.getD t .free)++r) [t] (by simp)
  grind
theorem Zv3{f own:Nat}{view:Bool}{args:List AVal}{v:AVal}{c:Cls}{ns:Nat}(hns:own=1->ns≠0)(h:Zq O bf G sq f own view args=some (v,G',c))(hw:c.wr=[])(ha:c.any=false):Framed (fun G=>Zq O bf G sq f own view args) G sq ns v G' c:=by
 unfold Zq at h
 split at h
 ·cases h
 rename_i xs ts us md hs
 obtain⟨hsub,hnf,hag⟩:=Zwx hs
 generalize hids:Zt (Zu G ts) 1000 (Zl xs) []=ids at h
 unfold Zbl at h
 split at h
 case isFalse=>cases h
 generalize hq:ZV view ids.length (ZbU md (O f (Zj (Zm (Zu G ts) 0 ids) xs) (Zo (Zu G ts) 0 ids (Zm (Zu G ts) 0 ids) ids 0)))=q at h
 cases q with
 |none=>simp only[Zaz]at h;cases h
 |some q =>
  obtain⟨r,hp⟩:=q
  simp only[Zaz]at h
  split at h
  ·rename_i hc
   simp only[Xk,WR]at hc
   obtain⟨rfl,rfl⟩:=hc
   have hrl:=Zv2 hids
   have hrho:∀ G:Za,Zm G 0 []=fun _ _=>none:=fun G=>by funext t g;simp[Zm,ZI]
   have hall:∀ G2,Agree G G2 us->Zq O bf G2 sq f own view args=Zaz G2 (Zu G2 ts) [] us sq own (some (r,[])):=by
    intro G2 hA
    unfold Zq
    rw[hag G2 hA]
    simp only
    rw[hrl]
    have h0:Zt (Zu G2 ts) 1000 [] []=[]:=rfl
    rw[h0]
    unfold Zbl
    simp only[XX,if_true]
    rw[hrho]
    rw[hrho]at hq
    simp only[Zo]at hq ⊢
    rw[hq]
   split at h
   ·rename_i hf
    simp only[Xb,Xe]at h
    obtain⟨rfl,rfl,rfl⟩:=h
    refine⟨none,rfl,by simp,by simp,hnf,fun G2 hA=>?_⟩
    simp only
    rw[hall G2 hA]
    simp only[Zaz,X8,XT,if_true,hf,Zbs]
   split at h
   ·rename_i hf hap
    simp only[Xb,Xe]at h
    obtain⟨rfl,rfl,rfl⟩:=h
    refine⟨none,rfl,by simp,by simp,hnf,fun G2 hA=>?_⟩
    have hap2:Zde G2 us r=true:=by
     unfold Zde at hap ⊢
     simp only[Xk]at hap ⊢
     refine⟨hap.1,Xy.2 fun t ht=>?_⟩
     have:=Xy.1 hap.2 t ht
     unfold Zem at this ⊢
     rw[hA t ht];exact this
    simp only
    rw[hall G2 hA]
    simp only[Zaz,X8,XT,if_true,hf,hap2,Zbs,if_false,Xi]
   ·rename_i hf hap
    simp only[Xb,Xe]at h
    obtain⟨rfl,rfl,rfl⟩:=h
    simp only at hw
    subst hw
    obtain rfl:ts=[]:=List.eq_nil_iff_forall_not_mem.2 fun t ht=>by grind
    refine⟨none,rfl,by simp,by simp,hnf,fun G2 hA=>?_⟩
    simp only
    rw[hall G2 hA]
    simp only[Zaz,X8,XT,if_true,hf,Zbs,Zu,if_false,Xi,Zde,X8,Xa0,Wi]
  ·rename_i hne
   split at h
   ·rename_i lo n k xs' hcl
    have hcl0:=hcl
    split at hcl
    case isFalse=>cases hcl
    rename_i hid
    simp only[WR]at hid
    subst hid
    unfold Zgy at hcl
    split at hcl
    case h_2=>cases hcl
    split at hcl
    case isFalse=>cases hcl
    rename_i hcc
    simp only[Xk,decide_eq_true_eq]at hcc
    simp only[Xb,Xe]at hcl h
    obtain⟨rfl,rfl,rfl,rfl⟩:=hcl
    obtain⟨rfl,rfl,rfl⟩:=h
    have hrl:=Zv2 hids
    have hrho:∀ G:Za,Zm G 0 []=fun _ _=>none:=fun G=>by funext t g;simp[Zm,ZI]
    refine⟨some (.row 0 _ _),rfl,fun _=>hns hcc.1,by simp,hnf,fun G2 hA=>?_⟩
    simp only
    unfold Zq
    rw[hag G2 hA]
    simp only
    rw[hrl]
    have h0:Zt (Zu G2 ts) 1000 [] []=[]:=rfl
    rw[h0]
    unfold Zbl
    simp only[XX,if_true]
    rw[hrho]
    rw[hrho]at hq
    simp only[Zo]at hq ⊢
    rw[hq]
    simp only[Zaz]
    rw[if_neg hne,hcl0]
    rfl
   grind
theorem ZdT{x:Option AVal}{v:AVal}{c:Cls}(h:x.map (fun r=>(r,G,({}:Cls)))=some (v,G',c)):G'=G/\c={}/\x=some v:=by
 simp only[Xo,Xe]at h
 grind
theorem ZOx{ins:Ins}{v:AVal}{c:Cls}(h:execI O bf tm G sq ins=some (v,G',c))(hw:c.wr=[])(ha:c.any=false):Framed (fun G=>execI O bf tm G sq ins) G sq (nsite ins) v G' c:=by
 cases ins with
 |alloc zs =>
  simp only[execI,Xb,Xe]at h
  obtain⟨rfl,rfl,rfl⟩:=h
  exact⟨some (.var zs),rfl,by simp[nsite],by simp,Zft,fun G2 _=>rfl⟩
 |box x =>
  simp only[execI]at h
  split at h
  ·cases h
  ·cases h
  ·cases h
  ·rename_i hne1 hne2 hne3
   simp only[Xb,Xe]at h
   obtain⟨rfl,rfl,rfl⟩:=h
   refine⟨some (.var (x.ev tm).cells),rfl,by simp[nsite],by simp,Zft,fun G2 _=>?_⟩
   simp only[execI,Zbs]
 |mkslice k b z x y =>
  simp only[execI]at h
  split at h
  ·rename_i l c' e1 e2
   split at h
   ·rename_i hc
    simp only[Xb,Xe]at h
    obtain⟨rfl,rfl,rfl⟩:=h
    refine⟨some (.row 0 k (XI c'.toNat z)),rfl,by simp[nsite],by simp,Zft,fun G2 _=>?_⟩
    simp only[execI,e1,e2,Zbs]
    grind
   ·cases h
  ·cases h
 |bslice own k n z ps =>
  simp only[execI]at h
  split at h
  ·cases h
  rename_i ys ts hv
  split at h
  case isFalse=>cases h
  rename_i hc
  split at h
  ·rename_i ho
   simp only[Xb,Xe]at h
   obtain⟨rfl,rfl,rfl⟩:=h
   simp only at hw
   subst hw
   refine⟨some (.row 0 k (((ps.map (·.1)).zip ys).foldl (fun l p=>l.set p.1 p.2) (XI n z))),rfl,by simp[nsite,ho],by simp,Zft,fun G2 hA=>?_⟩
   simp only[execI,Zo8 hv hA,Zbs,Zu]
   grind
  ·rename_i ho
   simp only[Xb,Xe]at h
   obtain⟨rfl,rfl,rfl⟩:=h
   simp only at hw
   subst hw
   refine⟨none,rfl,by simp,by simp,Zft,fun G2 hA=>?_⟩
   simp only[execI,Zo8 hv hA,Zbs,Zu]
   grind
 |rslice k n z ps =>
  simp only[execI]at h
  split at h
  case isFalse=>cases h
  rename_i hc
  simp only[Xb,Xe]at h
  obtain⟨rfl,rfl,rfl⟩:=h
  refine⟨some (.rrow 0 k ((ps.map fun p=>(p.1,p.2.ev tm)).foldl (fun l p=>l.set p.1 p.2) (XI n z))),rfl,by simp[nsite],by simp,Zft,fun G2 hA=>?_⟩
  simp only[execI,Zbs]
  grind
 |rng x =>
  simp only[execI]at h
  split at h
  ·rename_i l e
   simp only[Xb,Xe]at h
   obtain⟨rfl,rfl,rfl⟩:=h
   exact⟨some (.siter l 0),rfl,by simp[nsite],by simp,Zft,fun G2 _=>by simp only[execI,e,Zbs]⟩
  ·cases h
 |mkmap =>
  simp only[execI,Xb,Xe]at h
  obtain⟨rfl,rfl,rfl⟩:=h
  exact⟨some (.map []),rfl,by simp[nsite],by simp,Zft,fun G2 _=>rfl⟩
 |look kc z ok m k=>simp only[execI]at h⊢;exact ZAY h
 |mlen m=>simp only[execI]at h⊢;exact ZS2 h
 |mset kc m k v =>
  simp only[execI]at h
  unfold ZnA at h
  grind
 |mdel kc m k =>
  simp only[execI]at h⊢
  unfold Zk2 at h
  split at h
  case isFalse=>cases h
  rename_i hk
  split at h
  ·rename_i e
   simp only[Xb,Xe]at h;obtain⟨rfl,rfl,rfl⟩:=h
   refine Framed.pure rfl fun G2=>?_
   simp only[Zk2,e]
   grind
  ·grind
  ·cases h
 |clr k z x =>
  simp only[execI]at h
  unfold Znk at h
  grind
 |nxt x =>
  simp only[execI]at h
  grind
 |ld k a=>simp only[execI]at h⊢;exact ZCw h
 |st k a x =>
  simp only[execI]at h
  unfold stA at h
  split at h
  ·split at h
   ·grind
   ·grind
   ·cases h
  ·cases h
 |slice k x lo hi mx=>simp only[execI]at h⊢;exact ZHr h hw
 |iaddr k x i=>simp only[execI]at h⊢;exact ZVh h
 |app k b z x y=>simp only[execI]at h⊢;exact ZJZ h hw ha
 |b2s x =>
  simp only[execI]at h
  split at h
  ·rename_i xs ts he
   split at h
   ·rename_i l hl
    simp only[Xb,Xe]at h
    obtain⟨rfl,rfl,rfl⟩:=h
    refine⟨none,rfl,by simp,by simp,(ZjV he).nonfree,fun G2 hA=>?_⟩
    simp only[execI,ZgQ he hA,hl,Zbs]
   ·cases h
  ·cases h
 |s2s x =>
  simp only[execI]at h
  grind
 |call f own vw xs=>simp only[execI]at h⊢;exact Zv3 (fun ho=>by simp[nsite,ho]) h hw ha
 |callv x xs =>
  simp only[execI]at h
  split at h
  ·rename_i f caps e
   have:=Zv3 (ns:=nsite (.callv x xs)) (fun ho=>absurd ho (by decide)) h hw ha
   have he:(fun G=>execI O bf tm G sq (.callv x xs))=fun G=>Zq O bf G sq (if f<1000000 then f else f-1000000) 4 false (if f<1000000 then xs.map (·.ev tm)++caps else caps++xs.map (·.ev tm)):=by funext G;simp only[execI,e]
   grind
  ·cases h
 |mki t x =>
  simp only[execI]at h
  split at h
  ·cases h
  ·cases h
  ·cases h
  ·simp only[Xb,Xe]at h;obtain⟨rfl,rfl,rfl⟩:=h;exact Framed.pure rfl (fun G2=>by simp only[execI])
 |panic x =>
  simp only[execI]at h
  split at h
  ·rename_i e;simp only[Xb,Xe]at h;obtain⟨rfl,rfl,rfl⟩:=h;exact Framed.pure rfl (fun G2=>by simp only[execI,e])
  ·cases h
 |eqv neg ks x y =>
  simp only[execI]at h
  split at h
  ·rename_i e1 e2
   split at h
   ·rename_i e4
    split at h
    ·rename_i e3;simp only[Xb,Xe]at h;obtain⟨rfl,rfl,rfl⟩:=h;exact Framed.pure rfl (fun G2=>by simp only[execI,e1,e2,e3,e4,if_true])
    ·cases h
   ·cases h
  ·cases h
 |ieq neg x y =>
  simp only[execI]at h
  split at h
  ·rename_i e1 e2;simp only[Xb,Xe]at h;obtain⟨rfl,rfl,rfl⟩:=h;exact Framed.pure rfl (fun G2=>by simp only[execI,e1,e2])
  ·rename_i e1 e2;simp only[Xb,Xe]at h;obtain⟨rfl,rfl,rfl⟩:=h;exact Framed.pure rfl (fun G2=>by simp only[execI,e1,e2])
  ·rename_i e1 e2;simp only[Xb,Xe]at h;obtain⟨rfl,rfl,rfl⟩:=h;exact Framed.pure rfl (fun G2=>by simp only[execI,e1,e2])
  ·cases h
 |mov x=>simp only[execI,Xb,Xe]at h;obtain⟨rfl,rfl,rfl⟩:=h;exact Framed.pure rfl (fun G2=>rfl)
 |mkfn f xs=>simp only[execI,Xb,Xe]at h;obtain⟨rfl,rfl,rfl⟩:=h;exact Framed.pure rfl (fun G2=>rfl)
 |bin op x y =>
  simp only[execI]at h
  obtain⟨rfl,rfl,hx⟩:=ZdT h
  exact Framed.pure rfl (fun G2=>by simp only[execI,hx,X9])
 |un op x =>
  simp only[execI]at h
  obtain⟨rfl,rfl,hx⟩:=ZdT h
  exact Framed.pure rfl (fun G2=>by simp only[execI,hx,X9])
 |faddr off x =>
  simp only[execI]at h
  obtain⟨rfl,rfl,hx⟩:=ZdT h
  exact Framed.pure rfl (fun G2=>by simp only[execI,hx,X9])
 |pick a b d =>
  simp only[execI]at h
  unfold Zhq at h
  split at h
  ·rename_i e;simp only[Xb,Xe]at h;obtain⟨rfl,rfl,rfl⟩:=h;exact Framed.pure rfl (fun G2=>by simp only[execI,Zhq,e])
  ·rename_i e;simp only[Xb,Xe]at h;obtain⟨rfl,rfl,rfl⟩:=h;exact Framed.pure rfl (fun G2=>by simp only[execI,Zhq,e])
  ·cases h
 |build zs ps =>
  simp only[execI]at h
  split at h
  ·rename_i cs hf
   simp only[Xb,Xe]at h;obtain⟨rfl,rfl,rfl⟩:=h
   exact Framed.pure rfl (fun G2=>by simp only[execI,hf])
  ·cases h
 |i2i k x =>
  simp only[execI]at h
  split at h
  ·rename_i e;simp only[Xb,Xe]at h;obtain⟨rfl,rfl,rfl⟩:=h;exact Framed.pure rfl (fun G2=>by simp only[execI,e])
  ·cases h
 |i2s x =>
  simp only[execI]at h
  split at h
  ·rename_i e;simp only[Xb,Xe]at h;obtain⟨rfl,rfl,rfl⟩:=h;exact Framed.pure rfl (fun G2=>by simp only[execI,e])
  ·cases h
 |same x =>
  simp only[execI]at h
  split at h
  ·rename_i e;simp only[Xb,Xe]at h;obtain⟨rfl,rfl,rfl⟩:=h;exact Framed.pure rfl (fun G2=>by simp only[execI,e])
  ·cases h
 |s2b x =>
  simp only[execI]at h
  split at h
  ·rename_i e;simp only[Xb,Xe]at h;obtain⟨rfl,rfl,rfl⟩:=h;exact Framed.pure rfl (fun G2=>by simp only[execI,e])
  ·cases h
 |sslice x lo hi =>
  simp only[execI]at h
  split at h
  ·rename_i s e
   split at h
   ·cases h
   rename_i h1 hh
   split at h
   ·cases h
   rename_i l hl
   simp only[Xb,Xe]at h;obtain⟨rfl,rfl,rfl⟩:=h
   exact Framed.pure rfl (fun G2=>by simp only[execI,e,hh,hl])
  ·cases h
 |field k off x =>
  simp only[execI]at h
  split at h
  ·rename_i cs e
   obtain⟨rfl,rfl,hx⟩:=ZdT h
   exact Framed.pure rfl (fun G2=>by simp only[execI,e,hx,X9])
  ·cases h
 |aaddr k n x i =>
  simp only[execI]at h
  split at h
  ·rename_i e
   split at h
   ·rename_i hc
    obtain⟨rfl,rfl,hx⟩:=ZdT h
    exact Framed.pure rfl (fun G2=>by simp only[execI,e];grind)
   ·cases h
  ·cases h
 |sindex x i =>
  simp only[execI]at h
  split at h
  ·rename_i e1 e2
   split at h
   ·rename_i hc
    simp only[Xo,Xe]at h
    obtain⟨b,hb,rfl,rfl,rfl⟩:=h
    exact Framed.pure rfl (fun G2=>by simp only[execI,e1,e2];grind)
   ·cases h
  ·cases h
 |aindex s k n x i =>
  simp only[execI]at h
  split at h
  ·rename_i e1 e2
   split at h
   ·rename_i hc
    obtain⟨rfl,rfl,hx⟩:=ZdT h
    exact Framed.pure rfl (fun G2=>by simp only[execI,e1,e2];grind)
   ·cases h
  ·cases h
 |ext x i =>
  simp only[execI]at h
  split at h
  ·rename_i e
   obtain⟨rfl,rfl,hx⟩:=ZdT h
   exact Framed.pure rfl (fun G2=>by simp only[execI,e,hx,X9])
  ·cases h
 |len x =>
  simp only[execI]at h
  split at h
  ·rename_i e;simp only[Xb,Xe]at h;obtain⟨rfl,rfl,rfl⟩:=h;exact Framed.pure rfl (fun G2=>by simp only[execI,e])
  ·rename_i e;simp only[Xb,Xe]at h;obtain⟨rfl,rfl,rfl⟩:=h;exact Framed.pure rfl (fun G2=>by simp only[execI,e])
  ·rename_i e;simp only[Xb,Xe]at h;obtain⟨rfl,rfl,rfl⟩:=h;exact Framed.pure rfl (fun G2=>by simp only[execI,e])
  ·cases h
 |slen x =>
  simp only[execI]at h
  split at h
  ·rename_i e;simp only[Xb,Xe]at h;obtain⟨rfl,rfl,rfl⟩:=h;exact Framed.pure rfl (fun G2=>by simp only[execI,e])
  ·cases h
 |mm m xs =>
  simp only[execI]at h
  split at h
  ·rename_i e;simp only[Xb,Xe]at h;obtain⟨rfl,rfl,rfl⟩:=h;exact Framed.pure rfl (fun G2=>by simp only[execI,e])
  ·cases h
 |nilchk x =>
  simp only[execI]at h
  split at h
  ·rename_i e;simp only[Xb,Xe]at h;obtain⟨rfl,rfl,rfl⟩:=h;exact Framed.pure rfl (fun G2=>by simp only[execI,e])
  ·rename_i e;simp only[Xb,Xe]at h;obtain⟨rfl,rfl,rfl⟩:=h;exact Framed.pure rfl (fun G2=>by simp only[execI,e])
  ·rename_i e;simp only[Xb,Xe]at h;obtain⟨rfl,rfl,rfl⟩:=h;exact Framed.pure rfl (fun G2=>by simp only[execI,e])
  ·cases h
 |beq neg x y =>
  simp only[execI]at h
  split at h
  ·rename_i e1 e2;simp only[Xb,Xe]at h;obtain⟨rfl,rfl,rfl⟩:=h;exact Framed.pure rfl (fun G2=>by simp only[execI,e1,e2])
  ·cases h
 |peq neg x y =>
  simp only[execI]at h
  split at h
  ·rename_i e1 e2;simp only[Xb,Xe]at h;obtain⟨rfl,rfl,rfl⟩:=h;exact Framed.pure rfl (fun G2=>by simp only[execI,e1,e2])
  ·rename_i e1 e2;simp only[Xb,Xe]at h;obtain⟨rfl,rfl,rfl⟩:=h;exact Framed.pure rfl (fun G2=>by simp only[execI,e1,e2])
  ·rename_i e1 e2;simp only[Xb,Xe]at h;obtain⟨rfl,rfl,rfl⟩:=h;exact Framed.pure rfl (fun G2=>by simp only[execI,e1,e2])
  ·cases h
theorem ZRN{ins:Ins}{v:AVal}{c:Cls}(ht:ins.touches=false)(h:execI O bf tm G sq ins=some (v,G',c)):c={}/\nsite ins=0:=by
 cases ins<;>simp[Ins.touches]at ht<;>refine⟨?_,rfl⟩<;>simp only[execI]at h
 case mov x=>grind
 case mkfn f xs=>grind
 case bin op x y=>exact(ZdT h).2.1
 case un op x=>exact(ZdT h).2.1
 case faddr off x=>exact(ZdT h).2.1
 case pick c x y =>
  unfold Zhq at h
  grind
 all_goals
  repeat' (split at h)
  all_goals first
   |(cases h;done)
   |(simp only[Xb,Xe]at h;exact h.2.2.symm)
   |exact(ZdT h).2.1
   |(simp only[Xo,Xe]at h;obtain⟨_,_,_,_,h⟩:=h;exact h.symm)
theorem ZJ8{ins:Ins}{v:AVal}{c:Cls}(ht:ins.touches=false)(h:execI O bf tm G sq ins=some (v,G',c)):G'=G:=by
 cases ins<;>simp[Ins.touches]at ht<;>simp only[execI]at h
 case mov x=>grind
 case mkfn f xs=>grind
 case bin op x y=>exact(ZdT h).1
 case un op x=>exact(ZdT h).1
 case faddr off x=>exact(ZdT h).1
 case pick c x y =>
  unfold Zhq at h
  grind
 all_goals
  repeat' (split at h)
  all_goals first
   |(cases h;done)
   |(simp only[Xb,Xe]at h;exact h.2.1.symm)
   |exact(ZdT h).1
   |(simp only[Xo,Xe]at h;obtain⟨_,_,_,h,_⟩:=h;exact h.symm)
end
end
section
open Go.RowKit
section
variable {O:ZS}{bf:Nat->Bool}{tm:Tms}{G G':Za}{sq s:Nat}{b:ZO}
theorem Zh0:∀ (ts:List Nat) (G:Za),(Zu G ts)[s]?=some .free↔G[s]?=some .free
 | [],G=>Iff.rfl
 |t::ts,G=>by
  simp only[Zu]
  split
  ·rename_i g k xs hs
   rw[Zh0 ts,XO]
   split
   ·rename_i e;subst e
    split
    ·simp[hs]
    ·simp[hs]
   ·exact Iff.rfl
  ·exact Zh0 ts G
theorem Zr1{cs:List AVal}{t:Nat}:∀ (ts:List Nat) (G:Za),G[t]?=some (.var cs)->(Zu G ts)[t]?=some (.var cs)
 | [],G,h=>h
 |u::ts,G,h=>by
  simp only[Zu]
  split
  ·rename_i g k xs hs
   refine Zr1 ts _ ?_
   grind
  ·exact Zr1 ts G h
theorem ZtJ:∀ (ts:List Nat) (G:Za),s∉ts->Zu (G.set s b) ts=(Zu G ts).set s b
 | [],G,_=>rfl
 |t::ts,G,h=>by
  simp only[X0,not_or]at h
  have e:(G.set s b)[t]?=G[t]?:=by rw[XO,if_neg h.1]
  simp only[Zu,e]
  split
  ·rw[Wj _ _ h.1,ZtJ ts _ h.2]
  ·exact ZtJ ts G h.2
theorem ZtP{t:Nat}(h:s≠t):(G.set s b).getD t .free=G.getD t .free:=by
 grind
theorem ZoK:∀ (n:Nat) (todo acc:List Nat),∀ x∈acc,x∈Zt G n todo acc
 |0,_,acc,x,h=>h
 |n+1,[],acc,x,h=>h
 |n+1,t::todo,acc,x,h=>by
  simp only[Zt]
  split
  ·exact ZoK n todo acc x h
  ·exact ZoK n _ _ x (by simp[h])
theorem Zrq:∀ (n:Nat) (todo acc:List Nat),s∉Zt G n todo acc->Zt (G.set s b) n todo acc=Zt G n todo acc
 |0,_,acc,_=>rfl
 |n+1,[],acc,_=>rfl
 |n+1,t::todo,acc,h=>by
  simp only[Zt]at h⊢
  split
  ·rename_i hc;rw[if_pos hc]at h;exact Zrq n todo acc h
  ·rename_i hc
   rw[if_neg hc]at h
   have hne:s≠t:=by
    rintro rfl
    exact h (ZoK n _ _ s (by simp))
   rw[ZtP hne]
   exact Zrq n _ _ h
theorem ZCn{m:Nat}{ids:List Nat}(h:s∉ids):Zm (G.set s b) m ids=Zm G m ids:=by
 funext t g
 unfold Zm
 split
 ·rename_i j hj
  obtain⟨k,_,hk⟩:=Zuz hj
  grind
 ·rfl
theorem ZzZ{m:Nat}{ids:List Nat}{C:Rho}:∀ (ts:List Nat) (j:Nat),s∉ts->Zo (G.set s b) m ids C ts j=Zo G m ids C ts j
 | [],_,_=>rfl
 |t::ts,j,h=>by
  simp only[X0,not_or]at h
  simp only[Zo,ZtP h.1,ZzZ ts (j+1) h.2]
theorem ZvN{ids:List Nat}(h:s∉ids):∀ (hp:Za) (j:Nat),Za0 (G.set s b) ids hp j=Za0 G ids hp j
 | [],_=>rfl
 |x::xs,j=>by
  simp only[Za0,ZvN h xs (j+1)]
  grind
theorem ZyC:∀ (n sq:Nat),(∀ i,i<n->sq+i≠s)->Zah (G.set s b) sq n=Zah G sq n
 |0,_,_=>rfl
 |n+1,sq,h=>by
  have h0:=h 0 (by omega)
  simp only[Zah,freeAt]
  rw[XO,if_neg (by intro e;exact h0 (by simpa using e.symm)),ZyC n (sq+1) (fun i hi=>by have:=h (i+1) (by omega);rwa [show sq+1+i=sq+(i+1)by omega])]
theorem ZAc{ids:List Nat}(h:s∉ids):Zak (G.set s b) ids sq=Zak G ids sq:=by
 funext j g
 unfold Zak
 grind
theorem Zxb{G0:Za}{ids:List Nat}(h:s∉ids):∀ (hp:Za) (j:Nat) (G:Za),(∀ i,i<hp.length->ZaB ids sq (j+i)≠s)->ZaR (G0.set s b) ids sq hp j (G.set s b)=(ZaR G0 ids sq hp j G).set s b
 | [],_,_,_=>rfl
 |x::xs,j,G,hn=>by
  have h0:=hn 0 (by simp)
  simp only[X6]at h0
  have eg:ZbZ (G0.set s b) ids j x=ZbZ G0 ids j x:=by
   unfold ZbZ
   split
   ·grind
   ·rfl
  simp only[ZaR,ZAc h,eg]
  rw[Wj _ _ (Ne.symm h0)]
  exact Zxb h xs (j+1) _ (fun i hi=>by have:=hn (i+1) (by simp;omega);rwa [show j+1+i=j+(i+1)by omega])
theorem ZwC:∀ (ids:List Nat),s∉ids->Zba (G.set s b) ids=Zba G ids
 | [],_=>rfl
 |t::ts,h=>by
  simp only[X0,not_or]at h
  simp only[Zba,XO,if_neg h.1,ZwC ts h.2]
theorem ZKt{C:Rho}{g:Nat}{x:ZO}(h:okB x=true):Zz C g x≠.free:=by
 cases x<;>simp[okB]at h<;>simp[Zz]
theorem Zo9{G0:Za}{ids:List Nat}:∀ (hp:Za) (j:Nat) (G:Za),Za0 G0 ids hp j=true->(ZaR G0 ids sq hp j G)[s]?=some .free->G[s]?=some .free
 | [],_,_,_,h=>h
 |x::xs,j,G,hk,h=>by
  simp only[Za0,Xk]at hk
  simp only[ZaR]at h
  have:=Zo9 xs (j+1) _ hk.2 h
  rw[XO]at this
  split at this
  ·split at this
   ·injection this with this;exact absurd this (ZKt hk.1.1)
   grind
  grind
theorem ZFA{ts:List Nat}(h:Zg2 G ts)(hs:G[s]?=some .free):s∉ts:=by
 intro hm
 obtain⟨x,hx,hne⟩:=h s hm
 grind
theorem ZvU{f own:Nat}{view:Bool}{args:List AVal}{v:AVal}{c:Cls}(h:Zq O bf G sq f own view args=some (v,G',c))(hs':G'[s]?=some .free)(hne:∀ i,i<own->sq+i≠s) :
  G[s]?=some .free/\Zq O bf (G.set s b) sq f own view args=some (v,G'.set s b,c):=by
 unfold Zq at h
 split at h
 ·cases h
 rename_i xs ts us md hsh
 obtain⟨hsub,hnf,hag⟩:=Zwx hsh
 generalize hids:Zt (Zu G ts) 1000 (Zl xs) []=ids at h
 unfold Zbl at h
 split at h
 case isFalse=>cases h
 rename_i hall
 generalize hq:ZV view ids.length (ZbU md (O f (Zj (Zm (Zu G ts) 0 ids) xs) (Zo (Zu G ts) 0 ids (Zm (Zu G ts) 0 ids) ids 0)))=q at h
 have key:G[s]?=some .free->s∉us/\s∉ids/\Zq O bf (G.set s b) sq f own view args=Zaz (G.set s b) ((Zu G ts).set s b) ids us sq own q:=by
  intro hs
  have n1:=ZFA hnf hs
  have hsf:(Zu G ts)[s]?=some .free:=(Zh0 ts G).2 hs
  have n2:s∉ids:=by
   intro hm
   have:=Xy.1 hall s hm
   rw[Xh,hsf]at this
   simp[okB]at this
  refine⟨n1,n2,?_⟩
  unfold Zq
  rw[hag _ (fun t ht=>by grind)]
  simp only
  rw[ZtJ ts G (fun hm=>n1 (hsub s hm)),Zrq _ _ _ (by grind),hids]
  unfold Zbl
  have hall2:(ids.all fun t=>okB (((Zu G ts).set s b).getD t .free))=true:=by
   rw[Xy]at hall ⊢
   intro t ht
   rw[ZtP (by rintro rfl;exact n2 ht)]
   exact hall t ht
  rw[if_pos hall2,ZCn n2,ZzZ ids 0 n2,hq]
 cases q with
 |none=>simp only[Zaz]at h;cases h
 |some q =>
  obtain⟨r,hp⟩:=q
  simp only[Zaz]at h
  split at h
  ·rename_i hc
   split at h
   ·rename_i hf
    simp only[Xb,Xe]at h
    obtain⟨rfl,rfl,rfl⟩:=h
    obtain⟨n1,n2,k⟩:=key hs'
    refine⟨hs',?_⟩
    rw[k]
    simp only[Zaz,hc,if_true,hf]
   split at h
   ·rename_i hf hap
    simp only[Xb,Xe]at h
    obtain⟨rfl,rfl,rfl⟩:=h
    obtain⟨n1,n2,k⟩:=key hs'
    refine⟨hs',?_⟩
    have hap2:Zde (G.set s b) us r=true:=by
     unfold Zde at hap ⊢
     simp only[Xk]at hap ⊢
     refine⟨hap.1,Xy.2 fun t ht=>?_⟩
     have:=Xy.1 hap.2 t ht
     unfold Zem at this ⊢
     rw[XO,if_neg (by grind)];exact this
    rw[k]
    simp only[Zaz,hc,if_true,hf,hap2,if_false,Xi]
   ·rename_i hf hap
    simp only[Xb,Xe]at h
    obtain⟨rfl,rfl,rfl⟩:=h
    have hs:=(Zh0 ts G).1 hs'
    obtain⟨n1,n2,k⟩:=key hs
    refine⟨hs,?_⟩
    have hap2:¬Zde (G.set s b) us r=true:=by
     intro h2
     refine hap ?_
     unfold Zde at h2 ⊢
     simp only[Xk]at h2 ⊢
     refine⟨h2.1,Xy.2 fun t ht=>?_⟩
     have:=Xy.1 h2.2 t ht
     unfold Zem at this ⊢
     rw[XO,if_neg (by grind)]at this;exact this
    rw[k]
    simp only[Zaz,hc,if_true,hf,if_neg hap2,if_false,Xi]
  ·rename_i hc
   split at h
   ·rename_i lo n k xs' hcl
    simp only[Xb,Xe]at h
    obtain⟨rfl,rfl,rfl⟩:=h
    have hown:own=1:=by
     split at hcl
     case isFalse=>cases hcl
     unfold Zgy at hcl
     split at hcl
     case h_2=>cases hcl
     split at hcl
     case isFalse=>cases hcl
     rename_i hcc
     simp only[Xk,decide_eq_true_eq]at hcc
     exact hcc.1
    have hns:sq≠s:=by have:=hne 0 (by omega);simpa using this
    have hs:G[s]?=some .free:=by rwa [XO,if_neg hns]at hs'
    obtain⟨n1,n2,kk⟩:=key hs
    refine⟨hs,?_⟩
    rw[kk]
    simp only[Zaz]
    rw[if_neg hc,hcl]
    simp only
    rw[Wj _ _ (Ne.symm hns)]
   split at h
   ·rename_i hcl hcc
    simp only[Xb,Xe]at h
    obtain⟨rfl,rfl,rfl⟩:=h
    simp only[Xk,decide_eq_true_eq]at hcc
    obtain⟨⟨⟨c1,c2⟩,c3⟩,c4⟩:=hcc
    have hs:=(Zh0 ts G).1 (Zo9 hp 0 _ c3 hs')
    obtain⟨n1,n2,kk⟩:=key hs
    refine⟨hs,?_⟩
    rw[kk]
    have htg:∀ i,i<hp.length->ZaB ids sq (0+i)≠s:=by
     intro i hi e
     rw[XF]at e
     unfold ZaB at e
     rw[Xh]at e
     rcases Wz i ids.length with hl |hl
     ·grind
     ·rw[Wb hl]at e
      exact hne (i-ids.length) (by omega) e
    simp only[Zaz]
    rw[if_neg hc,hcl]
    simp only[c1,c2,decide_true,ZvN n2,c3,ZyC own sq hne,c4,XT,if_true,ZAc n2,Zxb n2 hp 0 _ htg,ZwC ids n2]
   ·cases h
theorem ZNB{f own:Nat}{view:Bool}{args:List AVal}{v:AVal}{c:Cls}(h:Zq O bf G sq f own view args=some (v,G',c))(hs:G'[s]?=some .free):G[s]?=some .free:=by
 unfold Zq at h
 split at h
 ·cases h
 rename_i xs ts us md hsh
 unfold Zbl at h
 split at h
 case isFalse=>cases h
 generalize Zt (Zu G ts) 1000 (Zl xs) []=ids at h
 generalize ZV view ids.length (ZbU md (O f (Zj (Zm (Zu G ts) 0 ids) xs) (Zo (Zu G ts) 0 ids (Zm (Zu G ts) 0 ids) ids 0)))=q at h
 cases q with
 |none=>simp only[Zaz]at h;cases h
 |some q =>
  obtain⟨r,hp⟩:=q
  simp only[Zaz]at h
  split at h
  ·split at h
   ·grind
   split at h
   ·grind
   ·simp only[Xb,Xe]at h
    rw[<-h.2.1]at hs
    exact(Zh0 ts G).1 hs
  ·split at h
   ·grind
   split at h
   ·rename_i hcc
    simp only[Xb,Xe]at h
    rw[<-h.2.1]at hs
    simp only[Xk,decide_eq_true_eq]at hcc
    exact(Zh0 ts G).1 (Zo9 hp 0 _ hcc.1.2 hs)
   ·cases h
theorem ZtL{t:Nat}{cs:List AVal}:∀ {ids:List Nat},(Zba G ids).lookup t=some cs->G[t]?=some (.var cs)
 | [],h=>by simp[Zba]at h
 |u::us,h=>by
  simp only[Zba]at h
  split at h
  ·rename_i cs' hu
   rw[Wa]at h
   split at h
   ·grind
   ·exact ZtL h
  ·exact ZtL h
theorem ZlH{t:Nat}{cs:List AVal}:∀ {ids:List Nat},(Zba G ids).lookup t=none->t∈ids->G[t]?≠some (.var cs)
 |u::us,h,hm=>by
  intro hv
  simp only[Zba]at h
  rcases X0.1 hm with e |hm
  ·grind
  ·split at h
   ·rw[Wa]at h
    split at h
    ·cases h
    ·exact ZlH h hm hv
   ·exact ZlH h hm hv
theorem Zu8{G0:Za}{ids:List Nat}{t:Nat}:∀ (hp:Za) (j:Nat) (G:Za),(∀ i x,hp[i]?=some x->ZaB ids sq (j+i)=t->∃ cs,x=.var cs)->(∃ cs,G[t]?=some (.var cs))->∃ cs,(ZaR G0 ids sq hp j G)[t]?=some (.var cs)
 | [],_,_,_,h=>h
 |x::xs,j,G,hv,⟨cs,h⟩=>by
  simp only[ZaR]
  refine Zu8 xs (j+1) _ (fun i y hy e=>hv (i+1) y (by grind) (by rwa [show j+(i+1)=j+1+i by omega])) ?_
  rw[XO]
  split
  ·rename_i e
   obtain⟨cs',rfl⟩:=hv 0 x rfl (by grind)
   split
   ·exact⟨_,rfl⟩
   grind
  grind
theorem ZEB{f own:Nat}{view:Bool}{args:List AVal}{v:AVal}{c:Cls}(h:Zq O bf G sq f own view args=some (v,G',c))(ha:c.any=true){t:Nat}{cs:List AVal}(ht:G[t]?=some (.var cs)) :
  (c.upd.lookup t=none->G'[t]?=some (.var cs))/\(∀ cs2,c.upd.lookup t=some cs2->G'[t]?=some (.var cs2)):=by
 unfold Zq at h
 split at h
 ·cases h
 rename_i xs ts us md hsh
 generalize hids:Zt (Zu G ts) 1000 (Zl xs) []=ids at h
 unfold Zbl at h
 split at h
 case isFalse=>cases h
 generalize ZV view ids.length (ZbU md (O f (Zj (Zm (Zu G ts) 0 ids) xs) (Zo (Zu G ts) 0 ids (Zm (Zu G ts) 0 ids) ids 0)))=q at h
 cases q with
 |none=>simp only[Zaz]at h;cases h
 |some q =>
  obtain⟨r,hp⟩:=q
  simp only[Zaz]at h
  split at h
  ·grind
  ·split at h
   ·grind
   split at h
   ·rename_i hcc
    simp only[Xb,Xe]at h
    obtain⟨_,rfl,rfl⟩:=h
    simp only[Xk,decide_eq_true_eq]at hcc
    obtain⟨⟨⟨c1,c2⟩,c3⟩,c4⟩:=hcc
    have hf:=Zr1 ts G ht
    refine⟨fun hn=>?_,fun cs2 hc2=>ZtL hc2⟩
    have tgt:∀ i,i<hp.length->ZaB ids sq (0+i)=t->i<ids.length/\ids[i]?=some t:=by
     intro i hi e
     rw[XF]at e
     unfold ZaB at e
     rw[Xh]at e
     rcases Wz i ids.length with hl |hl
     ·grind
     ·rw[Wb hl]at e
      simp only[Option.getD_none]at e
      have:=Zev c4 (i:=i-ids.length) (by omega)
      rw[e,hf]at this;cases this
    by_cases hm:t∈ids
    ·exfalso
     obtain⟨cs3,h3⟩:=Zu8 (G0:=Zu G ts) (sq:=sq) (ids:=ids) (t:=t) hp 0 (Zu G ts) (fun i x hx e=>by
      obtain⟨hl,hi⟩:=tgt i (Xn.1 hx).1 e
      have:=(ZjC c3 hx).2
      rw[XF,hi]at this
      simp only at this
      have hk:=this.1
      rw[Xh,hf]at hk
      simp only[Xau]at hk
      cases x<;>simp[Zcx]at hk
      grind) ⟨_,hf⟩
     exact ZlH hn hm h3
    ·rw[Zk0 (fun i hi e=>hm (by
      obtain⟨hl,hi⟩:=tgt i hi e
      exact XL hi))]
     exact hf
   ·cases h
end
end
section
open Go.RowKit
section
variable {P:Program}{O:ZS}{bf:Nat->Bool}{tm tm1 tm2:Tms}{G G' G1 G2:Za}{sq:Nat}
theorem Zzf{d:Option Nat}{v:AVal}{n:Nat}(h:d≠some n):tget (tput tm d v) n=tget tm n:=by
 cases d with
 |none=>rfl
 |some d =>
  have : d≠n:=by rintro rfl;exact h rfl
  simp only[tput,ZnE,this,if_false]
theorem ZxJ{a b:Nat}(u v:AVal)(h:a≠b):∀ tm:Tms,tins b v (tins a u tm)=tins a u (tins b v tm)
 | []=>by
  simp only[tins]
  grind
 |(e,w)::r=>by
  have ih:=ZxJ u v h r
  rcases Nat.lt_trichotomy e a with ha |ha |ha<;>rcases Nat.lt_trichotomy e b with hb |hb |hb
  ·rcases Nat.lt_or_gt_of_ne h with hab |hab
   ·have n1:¬b<a:=by omega
    have n2:¬b=a:=by omega
    simp[tins,ha,hb,hab,n1,n2]
   ·have n1:¬a<b:=by omega
    have n2:¬a=b:=h
    simp[tins,ha,hb,hab,n1,n2]
  ·subst hb
   have n1:¬a<e:=by omega
   have n2:¬a=e:=h
   simp[tins,ha,n1,n2]
  ·have n1:¬a<b:=by omega
   have n2:¬a=b:=h
   have n3:¬e<b:=by omega
   have n4:¬e=b:=by omega
   simp[tins,ha,n1,n2,n3,n4]
  ·subst ha
   have n1:¬b<e:=by omega
   have n2:¬b=e:=fun q=>h q.symm
   simp[tins,hb,n1,n2]
  ·grind
  ·subst ha
   have n3:¬e<b:=by omega
   have n4:¬e=b:=by omega
   simp[tins,n3,n4]
  ·have n1:¬b<a:=by omega
   have n2:¬b=a:=by omega
   have n3:¬e<a:=by omega
   have n4:¬e=a:=by omega
   simp[tins,hb,n1,n2,n3,n4]
  ·subst hb
   have n3:¬e<a:=by omega
   have n4:¬e=a:=by omega
   simp[tins,n3,n4]
  ·have n1:¬e<a:=by omega
   have n2:¬e=a:=by omega
   have n3:¬e<b:=by omega
   have n4:¬e=b:=by omega
   simp[tins,n1,n2,n3,n4,ih]
theorem Zgt{a b:Option Nat}(u v:AVal)(h:∀ d,a=some d->b≠some d):tput (tput tm a u) b v=tput (tput tm b v) a u:=by
 cases a with
 |none=>cases b<;>rfl
 |some a =>
  cases b with
  |none=>rfl
  |some b =>
   simp only[tput]
   exact ZxJ u v (by grind) tm
theorem Ze9{g:Option (Nat×Bool)}(h:∀ j b,g=some (j,b)->tget tm j=tget tm1 j):ZbL g tm=ZbL g tm1:=by
 cases g with
 |none=>rfl
 |some g=>simp only[ZbL];grind
theorem ZeU{o:AOp}{j:Nat}{b:Bool}(h:o.guard=some (j,b)):j∈o.reads:=by simp[AOp.reads,h]
theorem ZhU{o:AOp}{n:Nat}(h:n∈o.ins.reads):n∈o.reads:=by simp[AOp.reads,h]
theorem ZhS{o:AOp}{v:AVal}{c:Cls}(h:ZW O bf o sq tm G=some (v,tm1,G1,c)):tm1=tput tm o.dst v/\∀ tm',(∀ n∈o.reads,tget tm n=tget tm' n)->ZW O bf o sq tm' G=some (v,tput tm' o.dst v,G1,c):=by
 unfold ZW at h
 split at h
 ·cases h
 ·rename_i hw
  simp only[Xb,Xe]at h
  obtain⟨rfl,rfl,rfl,rfl⟩:=h
  refine⟨rfl,fun tm' hr=>?_⟩
  simp only[ZW,Ze9 (g:=o.guard) (tm:=tm') (tm1:=tm) (fun j b hg=>(hr j (ZeU hg)).symm),hw]
 ·rename_i hw
  split at h
  ·rename_i hf
   split at h
   ·rename_i v' G'' c' he
    simp only[Xb,Xe]at h
    obtain⟨rfl,rfl,rfl,rfl⟩:=h
    refine⟨rfl,fun tm' hr=>?_⟩
    simp only[ZW,Ze9 (g:=o.guard) (tm:=tm') (tm1:=tm) (fun j b hg=>(hr j (ZeU hg)).symm),hw]
    rw[if_pos hf,<-Zib (tm:=tm) (tm':=tm') (fun n hn=>hr n (ZhU hn)),he]
   ·cases h
  ·cases h
theorem Zkq{o:AOp}{v:AVal}{c:Cls}(h:ZW O bf o sq tm G=some (v,tm1,G1,c))(hn:ZeG c=true) :
  ∃ ob,tm1=tput tm o.dst v/\G1=Zbs G sq ob/\(ob.isSome=true->nsite o.ins≠0/\freeAt G sq=true)/\ob≠some .free/\Zg2 G c.rd /\
   ∀ tm' G2,(∀ n∈o.reads,tget tm n=tget tm' n)->Agree G G2 c.rd->(nsite o.ins≠0->freeAt G sq=true->freeAt G2 sq=true)->ZW O bf o sq tm' G2=some (v,tput tm' o.dst v,Zbs G2 sq ob,c):=by
 simp only[ZeG,Xk,WR,Xap]at hn
 unfold ZW at h
 split at h
 ·cases h
 ·rename_i hw
  simp only[Xb,Xe]at h
  obtain⟨rfl,rfl,rfl,rfl⟩:=h
  refine⟨none,rfl,rfl,by simp,by simp,Zft,fun tm' G2 hr _ _=>?_⟩
  simp only[ZW,Ze9 (g:=o.guard) (tm:=tm') (tm1:=tm) (fun j b hg=>(hr j (ZeU hg)).symm),hw,Zbs]
 ·rename_i hw
  split at h
  ·rename_i hf
   split at h
   ·rename_i v' G'' c' he
    simp only[Xb,Xe]at h
    obtain⟨rfl,rfl,rfl,rfl⟩:=h
    obtain⟨ob,e1,e2,e3,e4,e5⟩:=ZOx he hn.1 hn.2
    refine⟨ob,rfl,e1,fun ho=>⟨e2 ho,?_⟩,e3,e4,fun tm' G2 hr hA hfr=>?_⟩
    ·grind
    ·have hf2:(nsite o.ins==0 ||freeAt G2 sq)=true:=by
      by_cases h0:nsite o.ins=0
      ·simp[h0]
      ·simp only[WH,beq_iff_eq,h0,false_or]at hf ⊢
       exact hfr h0 hf
     simp only[ZW,Ze9 (g:=o.guard) (tm:=tm') (tm1:=tm) (fun j b hg=>(hr j (ZeU hg)).symm),hw]
     have e5':execI O bf tm G2 sq o.ins=some (v',Zbs G2 sq ob,c'):=e5 G2 hA
     rw[if_pos hf2,<-Zib (tm:=tm) (tm':=tm') (fun n hn=>hr n (ZhU hn)),e5']
   ·cases h
  ·cases h
theorem Zgo{s:Nat}:freeAt G s=true↔G[s]?=some .free:=by
 unfold freeAt
 grind
theorem Zks{s t:Nat}{ob:Option ZO}(h:ob.isSome=true->s≠t):(Zbs G s ob)[t]?=G[t]?:=by
 cases ob with
 |none=>rfl
 |some b=>simp only[Zbs];grind
theorem ZJw{s t:Nat}{ob oc:Option ZO}(h:ob.isSome=true->oc.isSome=true->s≠t):Zbs (Zbs G s ob) t oc=Zbs (Zbs G t oc) s ob:=by
 cases ob with
 |none=>cases oc<;>rfl
 |some b =>
  cases oc with
  |none=>rfl
  |some c=>simp only[Zbs];exact Wj b c (h rfl rfl)
theorem ZBX{x y:AVal}(h:Zeb x y=true):x=y:=by
 unfold Zeb at h
 grind
theorem ZnD{o:AOp}{v:AVal}{c:Cls}(hc:ZaH o.ins=true)(h:ZW O bf o sq tm G=some (v,tm1,G1,c)) :
  (ZbL o.guard tm=some false/\v=.tup []/\G1=G/\c={}) \/
  (ZbL o.guard tm=some true/\(nsite o.ins==0 ||freeAt G sq)=true/\∃ f own view args,own<=nsite o.ins/\(∀ tm' G2 v2 G3 c2,(∀ n∈o.reads,tget tm n=tget tm' n)->(nsite o.ins==0 ||freeAt G2 sq)=true->Zq O bf G2 sq f own view args=some (v2,G3,c2)->ZW O bf o sq tm' G2=some (v2,tput tm' o.dst v2,G3,c2))/\Zq O bf G sq f own view args=some (v,G1,c)):=by
 unfold ZW at h
 split at h
 ·cases h
 ·grind
 ·rename_i hw
  split at h
  ·rename_i hf
   split at h
   ·rename_i v' G'' c' he
    simp only[Xb,Xe]at h
    obtain⟨rfl,rfl,rfl,rfl⟩:=h
    refine Xt ⟨hw,hf,?_⟩
    have gen:∀ tm' G2,(∀ n∈o.reads,tget tm n=tget tm' n)->(nsite o.ins==0 ||freeAt G2 sq)=true->∀ v2 G3 c2,execI O bf tm G2 sq o.ins=some (v2,G3,c2)->ZW O bf o sq tm' G2=some (v2,tput tm' o.dst v2,G3,c2):=by
     intro tm' G2 hr hf2 v2 G3 c2 he2
     simp only[ZW,Ze9 (g:=o.guard) (tm:=tm') (tm1:=tm) (fun j b hg=>(hr j (ZeU hg)).symm),hw]
     rw[if_pos hf2,<-Zib (tm:=tm) (tm':=tm') (fun n hn=>hr n (ZhU hn)),he2]
    cases hins:o.ins with
    |call f own view args =>
     rw[hins]at he gen
     simp only[execI]at he gen
     refine⟨f,own,view,args.map (·.ev tm),XH _,fun tm' G2 v2 G3 c2 hr hf2 h2=>?_,he⟩
     grind
    |callv x args =>
     rw[hins]at he gen
     simp only[execI]at he
     split at he
     ·rename_i f caps hx
      refine⟨(if f<1000000 then f else f-1000000),4,false,(if f<1000000 then args.map (·.ev tm)++caps else caps++args.map (·.ev tm)),by simp[nsite],fun tm' G2 v2 G3 c2 hr hf2 h2=>?_,he⟩
      refine gen tm' G2 hr hf2 v2 G3 c2 ?_
      simp only[execI,hx]
      exact h2
     ·cases he
    |_=>rw[hins]at hc;simp[ZaH]at hc
   ·cases h
  ·cases h
theorem ZML{o:AOp}{v:AVal}{c:Cls}{s:Nat}(hc:ZaH o.ins=true)(h:ZW O bf o sq tm G=some (v,tm1,G1,c))(hs:G1[s]?=some .free)(hne:∀ i,i<nsite o.ins->sq+i≠s) :
  G[s]?=some .free/\∀ b tm',(∀ n∈o.reads,tget tm n=tget tm' n)->ZW O bf o sq tm' (G.set s b)=some (v,tput tm' o.dst v,G1.set s b,c):=by
 have h0:=h
 rcases ZnD hc h with⟨hw,rfl,rfl,rfl⟩ |⟨hw,hf,f,own,view,args,ho,gen,hg⟩
 ·refine⟨hs,fun b tm' hr=>?_⟩
  simp only[ZW,Ze9 (g:=o.guard) (tm:=tm') (tm1:=tm) (fun j b hg=>(hr j (ZeU hg)).symm),hw]
 ·obtain⟨k1,k2⟩:=ZvU (b:=.free) hg hs (fun i hi=>hne i (by omega))
  refine⟨k1,fun b tm' hr=>gen tm' _ _ _ _ hr ?_ (ZvU (b:=b) hg hs (fun i hi=>hne i (by omega))).2⟩
  by_cases h0:nsite o.ins=0
  ·simp[h0]
  ·simp only[WH,beq_iff_eq,h0,false_or,Zgo]at hf ⊢
   have:=hne 0 (by omega)
   rw[XO,if_neg (by intro e;exact this (by simpa using e.symm))]
   exact hf
theorem ZQ6{o:AOp}{v:AVal}{c:Cls}{s:Nat}(hc:ZaH o.ins=true)(h:ZW O bf o sq tm G=some (v,tm1,G1,c))(hs:G1[s]?=some .free):G[s]?=some .free:=by
 rcases ZnD hc h with⟨hw,rfl,rfl,rfl⟩ |⟨hw,hf,f,own,view,args,ho,gen,hg⟩
 ·exact hs
 ·exact ZNB hg hs
theorem ZHp{o:AOp}{v:AVal}{c:Cls}{t:Nat}{cs:List AVal}(hc:ZaH o.ins=true)(h:ZW O bf o sq tm G=some (v,tm1,G1,c))(ha:c.any=true)(ht:G[t]?=some (.var cs)) :
  (c.upd.lookup t=none->G1[t]?=some (.var cs))/\(∀ cs2,c.upd.lookup t=some cs2->G1[t]?=some (.var cs2)):=by
 rcases ZnD hc h with⟨hw,rfl,rfl,rfl⟩ |⟨hw,hf,f,own,view,args,ho,gen,hg⟩
 ·cases ha
 ·exact ZEB hg ha ht
theorem ZEw {G G1 : Za} {sq k bytes : Nat} {x y v : AVal} {c : Cls} {t : Nat} {cs : List AVal} (h : Zan G sq k bytes x y = some (v, G1, c)) (hs : sq ≠ t) (ht : G[t]? = some (.var cs)) : G1[t]? = some (.var cs) := by
  have key : ∀ (u : Nat) (b : ZO), (u = sq \/ ∃ b0, G[u]? = some b0 /\ ∀ cs, b0 ≠ .var cs) -> (G.set u b)[t]? = some (.var cs) := by
    intro u b hu
    rw [XO, if_neg, ht]
    rintro rfl
    rcases hu with rfl | ⟨b0, h1, h2⟩
    . exact hs rfl
    . rw [ht] at h1; injection h1 with h1; exact h2 _ h1.symm
  unfold Zan at h
  repeat' split at h
  all_goals first
    | (cases h; done)
    | (unfold Zd3 at h
       repeat' split at h
       all_goals first
         | (cases h; done)
         | (simp only [Xb, Xe] at h
            obtain ⟨-, rfl, -⟩ := h
            first
              | exact key _ _ (Xq rfl)
              | exact key _ _ (Xt ⟨_, by assumption, by simp⟩)))
    | (simp only [Xb, Xe] at h
       obtain ⟨-, rfl, -⟩ := h
       first
         | exact ht
         | exact key _ _ (Xq rfl)
         | exact key _ _ (Xt ⟨_, by assumption, by simp⟩))
theorem ZFh{o:AOp}{v:AVal}{c:Cls}{t:Nat}{cs:List AVal}(hc:ZaT o.ins=true)(h:ZW O bf o sq tm G=some (v,tm1,G1,c))(ht:G[t]?=some (.var cs)):G1[t]?=some (.var cs):=by
 unfold ZW at h
 split at h
 ·cases h
 ·grind
 ·split at h
  ·rename_i hf
   split at h
   ·rename_i v' G'' c' he
    simp only[Xb,Xe]at h
    obtain⟨rfl,rfl,rfl,rfl⟩:=h
    cases hins:o.ins with
    |app k bytes z x y =>
     rw[hins]at he hf
     simp only[execI]at he
     refine ZEw he ?_ ht
     rintro rfl
     simp[nsite,freeAt,ht]at hf
    |_=>rw[hins]at hc;simp[ZaT]at hc
   ·cases h
  ·cases h
theorem ZwX {G G1 : Za} {sq k bytes : Nat} {x y v : AVal} {c : Cls} {s : Nat} (h : Zan G sq k bytes x y = some (v, G1, c)) (hs : G1[s]? = some .free) : G[s]? = some .free := by
  have key : ∀ (u : Nat) (b0 : ZO), b0 ≠ .free -> (G.set u b0)[s]? = some .free -> G[s]? = some .free := by
    intro u b0 hb hh
    rw [XO] at hh
    split at hh
    . split at hh
      . injection hh with hh; exact absurd hh hb
      . cases hh
    . exact hh
  unfold Zan at h
  repeat' split at h
  all_goals first
    | (cases h; done)
    | (unfold Zd3 at h
       repeat' split at h
       all_goals first
         | (cases h; done)
         | (simp only [Xb, Xe] at h
            obtain ⟨-, rfl, -⟩ := h
            exact key _ _ (by simp) hs))
    | (simp only [Xb, Xe] at h
       obtain ⟨-, rfl, -⟩ := h
       first
         | exact hs
         | exact key _ _ (by simp) hs)
theorem ZL2{G G1:Za}{sq k bytes:Nat}{x y v:AVal}{c:Cls}{s:Nat}(ha:c.any=false)(h:Zan G sq k bytes x y=some (v,G1,c))(hs:G[s]?=some .free)(hne:sq≠s)(b:ZO):Zan (G.set s b) sq k bytes x y=some (v,G1.set s b,c):=by
 have get:∀ (t:Nat) (b0:ZO),G[t]?=some b0->b0≠.free->(G.set s b)[t]?=some b0/\s≠t:=by
  intro t b0 h1 h2
  have hst:s≠t:=by
   rintro rfl
   rw[hs]at h1;injection h1 with h1;exact h2 h1.symm
  exact⟨by rw[Xl hst];exact h1,hst⟩
 have hel:∀ ys us,ZZ G y=some (ys,us)->ZZ (G.set s b) y=some (ys,us):=by
  intro ys us he
  unfold ZZ at he ⊢
  split at he
  ·exact he
  ·exact he
  ·exact he
  ·grind
  ·cases he
 unfold Zan at h
 cases he:ZZ G y with
 |none =>
  rw[he]at h
  simp only at h
  unfold Zd3 at h
  grind
 |some z =>
  obtain⟨ys,us⟩:=z
  rw[he]at h
  simp only at h
  unfold Zan
  rw[hel _ _ he]
  simp only
  split at h
  case isFalse=>cases h
  rename_i hk
  rw[if_pos hk]
  split at h
  ·split at h
   case isFalse=>cases h
   rename_i h1
   simp only[Xb,Xe]at h
   obtain⟨rfl,rfl,rfl⟩:=h
   simp only[h1,if_true]
   rw[Wj _ _ hne]
  ·split at h
   case isFalse=>cases h
   rename_i h1
   simp only[h1,and_self,if_true]
   split at h
   ·grind
   ·simp only[Xb,Xe]at h
    obtain⟨rfl,rfl,rfl⟩:=h
    rw[Wj _ _ hne]
  ·split at h
   ·rename_i hr
    obtain⟨g1,g2⟩:=get _ _ hr (by simp)
    rw[g1]
    simp only
    split at h
    case isFalse=>cases h
    rename_i h1
    rw[if_pos h1]
    split at h
    ·rename_i h2
     rw[if_pos h2]
     simp only[Xb,Xe]at h
     obtain⟨rfl,rfl,rfl⟩:=h
     rw[Wj _ _ g2]
    ·rename_i h2
     rw[if_neg h2]
     split at h
     case isFalse=>cases h
     rename_i h3
     rw[if_pos h3]
     simp only[Xb,Xe]at h
     obtain⟨rfl,rfl,rfl⟩:=h
     rw[Wj _ _ g2]
   ·cases h
  ·cases h
theorem Zxk{o:AOp}{v:AVal}{c:Cls}(hc:ZaT o.ins=true)(h:ZW O bf o sq tm G=some (v,tm1,G1,c)) :
  (ZbL o.guard tm=some false/\v=.tup []/\G1=G/\c={})\/(freeAt G sq=true/\∃ k bytes x y,Zan G sq k bytes x y=some (v,G1,c)/\∀ tm' G2 v2 G3 c2,(∀ n∈o.reads,tget tm n=tget tm' n)->freeAt G2 sq=true->Zan G2 sq k bytes x y=some (v2,G3,c2)->ZW O bf o sq tm' G2=some (v2,tput tm' o.dst v2,G3,c2)):=by
 unfold ZW at h
 split at h
 ·cases h
 ·grind
 ·rename_i hw
  split at h
  ·rename_i hf
   split at h
   ·rename_i v' G'' c' he
    simp only[Xb,Xe]at h
    obtain⟨rfl,rfl,rfl,rfl⟩:=h
    cases hins:o.ins with
    |app k bytes z x y =>
     have he0:=he
     rw[hins]at he hf
     simp only[execI]at he
     refine Xt ⟨by simpa[nsite]using hf,k,bytes,_,_,he,fun tm' G2 v2 G3 c2 hr hf2 h2=>?_⟩
     simp only[ZW,Ze9 (g:=o.guard) (tm:=tm') (tm1:=tm) (fun j b hg=>(hr j (ZeU hg)).symm),hw]
     rw[if_pos (by grind),<-Zib (tm:=tm) (tm':=tm') (fun n hn=>hr n (ZhU hn)),hins]
     simp only[execI,h2]
    |_=>rw[hins]at hc;simp[ZaT]at hc
   ·cases h
  ·cases h
theorem Zrs{t:Nat}{cs:List AVal}:∀ (ts:List Nat) (G:Za),G[t]?=some (.var cs)->(Zu G ts)[t]?=some (.var cs)
 | [],G,h=>h
 |u::ts,G,h=>by
  unfold Zu
  split
  ·rename_i g k xs hu
   refine Zrs ts _ ?_
   rw[XO,if_neg,h]
   grind
  ·exact Zrs ts G h
theorem ZCa {G G1 : Za} {k : Nat} {a x v : AVal} {c : Cls} {t : Nat} {cs : List AVal} (h : stA G k a x = some (v, G1, c)) (hw : c.wr.contains t = false) (ht : G[t]? = some (.var cs)) : G1[t]? = some (.var cs) := by
  unfold stA at h
  repeat' split at h
  all_goals first
    | (cases h; done)
    | (simp only [Xb, Xe] at h
       obtain ⟨-, rfl, rfl⟩ := h
       simp only [List.contains_cons, Wh, Bool.or_false, Bool.or_eq_false_iff, beq_eq_false_iff_ne, ne_eq] at hw
       first
         | (rw [XO, if_neg (fun e => hw e.symm)]; exact ht)
         | (rw [XO, if_neg (fun e => hw.1 e.symm)]; exact Zrs _ _ ht))
theorem ZC3{o:AOp}{v:AVal}{c:Cls}{t:Nat}{cs:List AVal}(hc:Zbj o.ins=true)(hw:c.wr.contains t=false)(h:ZW O bf o sq tm G=some (v,tm1,G1,c))(ht:G[t]?=some (.var cs)):G1[t]?=some (.var cs):=by
 unfold ZW at h
 split at h
 ·cases h
 ·grind
 ·split at h
  ·rename_i hf
   split at h
   ·rename_i v' G'' c' he
    simp only[Xb,Xe]at h
    obtain⟨rfl,rfl,rfl,rfl⟩:=h
    cases hins:o.ins with
    |st k x y =>
     rw[hins]at he hf
     simp only[execI]at he
     exact ZCa he hw ht
    |_=>rw[hins]at hc;simp[Zbj]at hc
   ·cases h
  ·cases h
theorem ZoM {o : AOp} {v : AVal} {c ci : Cls} (hl : ZaO o.ins = true) (h : ZW O bf o sq tm G = some (v, tm1, G1, c)) (hg : ZaS c ci = true) :
    ∃ t k off, c.got = [(t, k, off, v)] /\ G1 = G /\ tm1 = tput tm o.dst v /\ (∀ tm' G2, (∀ n ∈ o.reads, tget tm n = tget tm' n) -> (∃ cs, G2[t]? = some (.var cs) /\ partA k cs off = some v) -> ZW O bf o sq tm' G2 = some (v, tput tm' o.dst v, G2, c)) /\ ∃ cs, G[t]? = some (.var cs) /\ partA k cs off = some v := by
  unfold ZW at h
  split at h
  . cases h
  . simp only [Xb, Xe] at h
    obtain ⟨rfl, rfl, rfl, rfl⟩ := h
    simp [ZaS] at hg
  . rename_i hw
    split at h
    . rename_i hf
      split at h
      . rename_i v' G'' c' he
        simp only [Xb, Xe] at h
        obtain ⟨rfl, rfl, rfl, rfl⟩ := h
        cases hins : o.ins with
        | ld k a =>
          rw [hins] at he hf
          simp only [execI] at he
          have he0 := he
          unfold ldA at he
          split at he
          . rename_i t off ha
            split at he
            . rename_i cs hcs
              split at he
              . rename_i v2 hp
                simp only [Xb, Xe] at he
                obtain ⟨rfl, rfl, rfl⟩ := he
                refine ⟨t, k, off, rfl, rfl, rfl, fun tm' G2 hr ⟨cs2, h1, h2⟩ => ?_, cs, hcs, hp⟩
                simp only [ZW, Ze9 (g := o.guard) (tm := tm') (tm1 := tm) (fun j b hg => (hr j (ZeU hg)).symm), hw]
                rw [if_pos (by rw [hins]; rfl), <- Zib (tm := tm) (tm' := tm') (fun n hn => hr n (ZhU hn)), hins]
                simp only [execI, ha, ldA, h1, h2]
              . cases he
            . cases he
          . repeat' split at he
            all_goals first
              | (cases he; done)
              | (simp only [Xb, Xe] at he
                 obtain ⟨rfl, rfl, rfl⟩ := he
                 simp [ZaS] at hg)
          . repeat' split at he
            all_goals first
              | (cases he; done)
              | (simp only [Xb, Xe] at he
                 obtain ⟨rfl, rfl, rfl⟩ := he
                 simp [ZaS] at hg)
          . cases he
        | _ => rw [hins] at hl; simp [ZaO] at hl
      . cases h
    . cases h
theorem ZJk{o:AOp}{v:AVal}{c:Cls}{s:Nat}(hc:ZaH o.ins=true\/(ZaT o.ins=true/\(!c.any)=true))(h:ZW O bf o sq tm G=some (v,tm1,G1,c))(hs:G1[s]?=some .free):G[s]?=some .free:=by
 rcases hc with hc |⟨hc,_⟩
 ·exact ZQ6 hc h hs
 ·rcases Zxk hc h with⟨_,_,rfl,_⟩ |⟨_,_,_,_,_,ha,_⟩
  ·exact hs
  ·exact ZwX ha hs
theorem ZS1{o:AOp}{v:AVal}{c:Cls}{s:Nat}(hc:ZaH o.ins=true\/(ZaT o.ins=true/\(!c.any)=true))(h:ZW O bf o sq tm G=some (v,tm1,G1,c))(hs:G1[s]?=some .free)(hne:∀ i,i<nsite o.ins->sq+i≠s) :
  G[s]?=some .free/\∀ b tm',(∀ n∈o.reads,tget tm n=tget tm' n)->ZW O bf o sq tm' (G.set s b)=some (v,tput tm' o.dst v,G1.set s b,c):=by
 rcases hc with hc |⟨hc,hany⟩
 ·exact ZML hc h hs hne
 ·have hn:sq≠s:=by
   have : nsite o.ins=1:=by
    cases hins:o.ins with
    |app k bytes z x y=>rfl
    |_=>rw[hins]at hc;simp[ZaT]at hc
   simpa using hne 0 (by omega)
  rcases Zxk hc h with⟨hw,rfl,rfl,rfl⟩ |⟨hf,k,bytes,x,y,ha,gen⟩
  ·refine⟨hs,fun b tm' hr=>?_⟩
   simp only[ZW,Ze9 (g:=o.guard) (tm:=tm') (tm1:=tm) (fun j b hg=>(hr j (ZeU hg)).symm),hw]
  ·have h0:=ZwX ha hs
   refine⟨h0,fun b tm' hr=>gen tm' _ _ _ _ hr ?_ (ZL2 (by grind) ha h0 hn b)⟩
   rw[Zgo]at hf ⊢
   rw[Xl (fun e=>hn e.symm)]
   exact hf
def Frz(G G2:Za):Prop:=∀ t:Nat,G2[t]?=G[t]?\/∃ (g k:Nat) (xs:List AVal),G[t]?=some (ZO.row g k xs)/\G2[t]?=some (ZO.frow g k xs)
theorem Frz.refl(G:Za):Frz G G:=fun _=>Xq rfl
theorem Zm1:∀ (ts:List Nat) (G:Za),Frz G (Zu G ts)
 | [],G=>Frz.refl G
 |t::ts,G=>by
  unfold Zu
  split
  ·rename_i g k xs ht
   intro u
   have ih:=Zm1 ts (G.set t (.frow g k xs)) u
   have htl:t<G.length:=(Xn.1 ht).1
   by_cases e:u=t
   ·subst e
    have e1:(G.set u (.frow g k xs))[u]?=some (.frow g k xs):=by simp[htl]
    rw[e1]at ih
    rcases ih with ih |⟨_,_,_,ih,_⟩
    ·exact Xt ⟨g,k,xs,ht,ih⟩
    ·cases ih
   ·rw[Xl (fun h=>e h.symm)]at ih
    exact ih
  ·exact Zm1 ts G
theorem Zvx{G G2 G':Za}{k:Option Nat}{a v:AVal}{c:Cls}(hf:Frz G G2)(h:ldA G k a=some (v,G',c)):G'=G/\ldA G2 k a=some (v,G2,c):=by
 unfold ldA at h⊢
 split at h
 ·rename_i t o
  rcases hf t with e |⟨_,_,_,e1,_⟩
  ·simp only[e]
   repeat' split at h
   all_goals grind
  grind
 ·rename_i t g i o
  rcases hf t with e |⟨g1,k1,xs1,e1,e2⟩
  ·simp only[e]
   repeat' split at h
   all_goals grind
  grind
 ·repeat' split at h
  all_goals grind
 ·cases h
theorem Zvh{G G2 G':Za}{k:Nat}{a i v:AVal}{c:Cls}(hf:Frz G G2)(h:Zc6 G k a i=some (v,G',c)):G'=G/\Zc6 G2 k a i=some (v,G2,c):=by
 unfold Zc6 at h⊢
 split at h
 ·split at h
  ·rename_i h0
   rw[if_pos h0]
   split at h
   ·repeat' split at h
    all_goals grind
   ·rename_i t g p n
    rcases hf t with e |⟨g1,k1,xs1,e1,e2⟩
    ·simp only[e]
     repeat' split at h
     all_goals grind
    grind
   ·cases h
  ·cases h
 ·cases h
theorem ZKL{o:AOp}{v:AVal}{c:Cls}(hl:Zbi o.ins=true)(h:ZW O bf o sq tm G=some (v,tm1,G1,c)) :
  G1=G/\tm1=tput tm o.dst v/\∀ tm' G2,(∀ n∈o.reads,tget tm n=tget tm' n)->Frz G G2->ZW O bf o sq tm' G2=some (v,tput tm' o.dst v,G2,c):=by
 unfold ZW at h
 split at h
 ·cases h
 ·rename_i hw
  simp only[Xb,Xe]at h
  obtain⟨rfl,rfl,rfl,rfl⟩:=h
  refine⟨rfl,rfl,fun tm' G2 hr _=>?_⟩
  simp only[ZW,Ze9 (g:=o.guard) (tm:=tm') (tm1:=tm) (fun j b hg=>(hr j (ZeU hg)).symm),hw]
 ·rename_i hw
  split at h
  ·rename_i hf
   split at h
   ·rename_i v' G'' c' he
    simp only[Xb,Xe]at h
    obtain⟨rfl,rfl,rfl,rfl⟩:=h
    cases hins:o.ins with
    |ld k a =>
     rw[hins]at he
     simp only[execI]at he
     have e1:=(Zvx (Frz.refl G) he).1
     subst e1
     refine⟨rfl,rfl,fun tm' G2 hr hz=>?_⟩
     simp only[ZW,Ze9 (g:=o.guard) (tm:=tm') (tm1:=tm) (fun j b hg=>(hr j (ZeU hg)).symm),hw]
     rw[if_pos (by rw[hins];rfl),<-Zib (tm:=tm) (tm':=tm') (fun n hn=>hr n (ZhU hn)),hins]
     simp only[execI,(Zvx hz he).2]
    |iaddr k x i =>
     rw[hins]at he
     simp only[execI]at he
     have e1:=(Zvh (Frz.refl G) he).1
     subst e1
     refine⟨rfl,rfl,fun tm' G2 hr hz=>?_⟩
     simp only[ZW,Ze9 (g:=o.guard) (tm:=tm') (tm1:=tm) (fun j b hg=>(hr j (ZeU hg)).symm),hw]
     rw[if_pos (by rw[hins];rfl),<-Zib (tm:=tm) (tm':=tm') (fun n hn=>hr n (ZhU hn)),hins]
     simp only[execI,(Zvh hz he).2]
    |_=>rw[hins]at hl;simp[Zbi]at hl
   ·cases h
  ·cases h
theorem ZIR{o:AOp}{v:AVal}{c:Cls}(hl:Zbg o.ins=true)(h:ZW O bf o sq tm G=some (v,tm1,G1,c)):Frz G G1:=by
 unfold ZW at h
 split at h
 ·cases h
 ·simp only[Xb,Xe]at h
  obtain⟨rfl,rfl,rfl,rfl⟩:=h
  exact Frz.refl _
 ·split at h
  ·split at h
   ·rename_i v' G'' c' he
    simp only[Xb,Xe]at h
    obtain⟨rfl,rfl,rfl,rfl⟩:=h
    cases hins:o.ins with
    |bslice own k n z parts =>
     rw[hins]at hl he
     simp only[Zbg,Xap]at hl
     subst hl
     simp only[execI]at he
     split at he
     ·cases he
     ·rename_i ys ts hv
      split at he
      ·simp only[Xi,if_false,Xb,Xe]at he
       obtain⟨_,rfl,_⟩:=he
       exact Zm1 ts G
      ·cases he
    |_=>rw[hins]at hl;simp[Zbg]at hl
   ·cases h
  ·cases h
theorem ZUR{f own:Nat}{view:Bool}{args:List AVal}{v:AVal}{c:Cls}(h:Zq O bf G sq f own view args=some (v,G',c))(ha:c.any=true){t:Nat}{cs:List AVal}(hn:c.upd.lookup t=none)(hlt:t<sq)(ht:G'[t]?=some (.var cs)):G[t]?=some (.var cs):=by
 unfold Zq at h
 split at h
 ·cases h
 rename_i xs ts us md hsh
 generalize hids:Zt (Zu G ts) 1000 (Zl xs) []=ids at h
 unfold Zbl at h
 split at h
 case isFalse=>cases h
 generalize ZV view ids.length (ZbU md (O f (Zj (Zm (Zu G ts) 0 ids) xs) (Zo (Zu G ts) 0 ids (Zm (Zu G ts) 0 ids) ids 0)))=q at h
 cases q with
 |none=>simp only[Zaz]at h;cases h
 |some q =>
  obtain⟨r,hp⟩:=q
  simp only[Zaz]at h
  split at h
  ·grind
  ·split at h
   ·grind
   split at h
   ·rename_i hcc
    simp only[Xb,Xe]at h
    obtain⟨_,rfl,rfl⟩:=h
    have hm:t∉ids:=fun hm=>ZlH hn hm ht
    rw[Zk0 (fun i hi e=>by
     rw[XF]at e
     unfold ZaB at e
     grind)]at ht
    rcases Zm1 ts G t with e |⟨g1,k1,xs1,e1,e2⟩
    ·grind
    grind
   ·cases h
theorem ZNG{o:AOp}{v:AVal}{c:Cls}{t:Nat}{cs:List AVal}(hc:ZaH o.ins=true)(h:ZW O bf o sq tm G=some (v,tm1,G1,c))(ha:c.any=true)(hn:c.upd.lookup t=none)(hlt:t<sq)(ht:G1[t]?=some (.var cs)):G[t]?=some (.var cs):=by
 rcases ZnD hc h with⟨hw,rfl,rfl,rfl⟩ |⟨hw,hf,f,own,view,args,ho,gen,hg⟩
 ·cases ha
 ·exact ZUR hg ha hn hlt ht
theorem Zvf{oj oi:AOp}{sj si:Nat}{vj vi:AVal}{cj ci:Cls}(hj:ZW O bf oj sj tm G=some (vj,tm1,G1,cj))(hi:ZW O bf oi si tm1 G1=some (vi,tm2,G2,ci))(hap:oj.apartT oi=true)
  (hp:Zda oj oi cj ci sj=true) (hs:nsite oj.ins≠0->nsite oi.ins≠0->sj≠si) (hs2:sj+nsite oj.ins<=si):∃ tm1' G1',ZW O bf oi si tm G=some (vi,tm1',G1',ci)/\ZW O bf oj sj tm1' G1'=some (vj,tm2,G2,cj):=by
 have hd:(∀ d,oj.dst=some d->d∉oi.reads)/\(∀ d,oj.dst=some d->oi.dst≠some d)/\(∀ d,oi.dst=some d->d∉oj.reads):=by
  unfold AOp.apartT at hap
  simp only[Xk]at hap
  refine⟨fun d hd hr=>?_,fun d hd he=>?_,fun d hd hr=>?_⟩
  ·grind
  ·grind
  ·grind
 obtain⟨d1,d2,d3⟩:=hd
 have rdI:∀ v n,n∈oi.reads->tget (tput tm oj.dst v) n=tget tm n:=fun v n hn=>Zzf (by grind)
 have rdJ:∀ v n,n∈oj.reads->tget tm n=tget (tput tm oi.dst v) n:=fun v n hn=>(Zzf (by grind)).symm
 unfold Zda at hp
 simp only[WH,Xk]at hp
 have noWr_of:∀ {o:AOp} {c:Cls},ZcS o c=true->ZeG c=true/\c.rd=[]/\nsite o.ins=0:=by
  intro o c h
  simp only[ZcS,Xk,beq_iff_eq,WR]at h
  exact⟨by simp[ZeG,h.1.2,h.2],h.1.1.2,h.1.1.1⟩
 rcases hp with((((((hp |hp) |⟨⟨hp1,hp2⟩,hp3⟩) |⟨hp1,hp2,hp3⟩) |⟨⟨⟨hp1,hp2⟩,hp3⟩,hp4⟩) |⟨⟨hp1,hp2⟩,hp4⟩) |⟨hp1,hp2⟩) |⟨⟨⟨hp1,hp2⟩,hp3⟩,hp4⟩
 ·obtain⟨w1,w2,w3⟩:=noWr_of hp
  obtain⟨ob,rfl,rfl,e3,_,_,e6⟩:=Zkq hj w1
  have hob:ob=none:=by
   cases ob with
   |none=>rfl
   |some b=>grind
  subst hob
  simp only[Zbs]at hi e6 ⊢
  obtain⟨rfl,f2⟩:=ZhS hi
  have g1:=f2 tm (rdI vj)
  refine⟨_,_,g1,?_⟩
  rw[e6 _ G2 (rdJ vi) (by rw[w2];intro t ht;simp at ht) (fun h=>absurd w3 h),Zgt vi vj (fun d hd he=>d2 d he hd)]
 ·obtain⟨w1,w2,w3⟩:=noWr_of hp
  obtain⟨ob,rfl,rfl,e3,_,_,e6⟩:=Zkq hi w1
  have hob:ob=none:=by
   cases ob with
   |none=>rfl
   |some b=>grind
  subst hob
  simp only[Zbs]at e6 ⊢
  obtain⟨rfl,f2⟩:=ZhS hj
  have g1:=e6 tm G (rdI vj) (by rw[w2];intro t ht;simp at ht) (fun h=>absurd w3 h)
  refine⟨_,_,g1,?_⟩
  rw[f2 _ (rdJ vi),Zgt vi vj (fun d hd he=>d2 d he hd)]
 ·obtain⟨ob,rfl,rfl,a3,a4,a5,a6⟩:=Zkq hj hp1
  obtain⟨oc,rfl,rfl,b3,b4,b5,b6⟩:=Zkq hi hp2
  have hsne:ob.isSome=true->nsite oi.ins≠0->sj≠si:=fun h1 h2=>hs (a3 h1).1 h2
  have hrdi:∀ t∈ci.rd,ob.isSome=true->sj≠t:=by
   intro t ht ho e
   subst e
   rcases hp3 with hp3 |hp3
   ·exact(a3 ho).1 (by simpa using hp3)
   ·simp[ht]at hp3
  have g1:=b6 tm G (rdI vj) (fun t ht=>(Zks (hrdi t ht)).symm) (fun h2 hf=>by
   rw[Zgo]at hf ⊢
   rwa [Zks (fun ho=>hsne ho h2)]at hf)
  refine⟨_,_,g1,?_⟩
  have hsi:oc.isSome=true->G[si]?=some .free:=by
   intro ho
   have:=(b3 ho).2
   rw[Zgo,Zks (fun ho'=>hsne ho' (b3 ho).1)]at this
   exact this
  rw[a6 _ (Zbs G si oc) (rdJ vi) (fun t ht=>Zks (fun ho e=>by
   subst e
   obtain⟨x,hx,hne⟩:=a5 si ht
   rw[hsi ho]at hx;injection hx with hx;exact hne hx.symm)) (fun h1 hf=>by
   rw[Zgo]at hf ⊢
   rwa [Zks (fun ho=>(hs h1 (b3 ho).1).symm)]),Zgt vi vj (fun d hd he=>d2 d he hd),ZJw (fun h1 h2=>(hs (a3 h2).1 (b3 h1).1).symm)]
 ·obtain⟨oc,rfl,rfl,b3,b4,b5,b6⟩:=Zkq hi hp2
  have hrd:ci.rd=[]:=by simpa using hp3
  obtain⟨rfl,f2⟩:=ZhS hj
  cases oc with
  |none =>
   simp only[Zbs]at b6 ⊢
   have g1:=b6 tm G (rdI vj) (by rw[hrd];intro t ht;simp at ht) (fun h1 h2=>by
    rw[Zgo]at h2 ⊢
    exact ZJk hp1 hj h2)
   refine⟨_,_,g1,?_⟩
   rw[f2 _ (rdJ vi),Zgt vi vj (fun d hd he=>d2 d he hd)]
  |some b =>
   have hfr:=(b3 rfl).2
   rw[Zgo]at hfr
   obtain⟨k1,k2⟩:=ZS1 hp1 hj hfr (fun i hi=>by omega)
   have g1:=b6 tm G (rdI vj) (by rw[hrd];intro t ht;simp at ht) (fun h1 h2=>by
    rw[Zgo]at h2 ⊢;exact k1)
   refine⟨_,_,g1,?_⟩
   have:=k2 b (tput tm oi.dst vi) (rdJ vi)
   simp only[Zbs]
   rw[this,Zgt vi vj (fun d hd he=>d2 d he hd)]
 ·obtain⟨t,k,o,q1,rfl,rfl,q4,q5⟩:=ZoM hp1 hj hp4
  obtain⟨rfl,f2⟩:=ZhS hi
  have g1:=f2 tm (rdI vj)
  refine⟨_,_,g1,?_⟩
  obtain⟨cs,q6,q7⟩:=q5
  obtain⟨r1,r2⟩:=ZHp hp2 hi hp3 q6
  have hv:∃ cs,G2[t]?=some (.var cs)/\partA k cs o=some vj:=by
   unfold ZaS at hp4
   rw[q1]at hp4
   simp only at hp4
   split at hp4
   ·grind
   ·rename_i cs2 hl
    split at hp4
    ·rename_i u hu
     rw[ZBX hp4]at hu
     exact⟨cs2,r2 cs2 hl,hu⟩
    grind
  rw[q4 _ G2 (rdJ vi) hv,Zgt vi vj (fun d hd he=>d2 d he hd)]
 ·obtain⟨t,k,o,q1,rfl,rfl,q4,q5⟩:=ZoM hp1 hj hp4
  obtain⟨rfl,f2⟩:=ZhS hi
  have g1:=f2 tm (rdI vj)
  refine⟨_,_,g1,?_⟩
  obtain⟨cs,q6,q7⟩:=q5
  have hk:G2[t]?=some (.var cs):=by
   rcases hp2 with hp2 |⟨hp2,hp3⟩
   ·exact ZFh hp2 hi q6
   ·refine ZC3 hp2 ?_ hi q6
    unfold Zbn at hp3
    grind
  rw[q4 _ G2 (rdJ vi) ⟨cs,hk,q7⟩,Zgt vi vj (fun d hd he=>d2 d he hd)]
 ·obtain⟨rfl,rfl,q⟩:=ZKL hp1 hj
  obtain⟨rfl,f2⟩:=ZhS hi
  have g1:=f2 tm (rdI vj)
  refine⟨_,_,g1,?_⟩
  rw[q _ G2 (rdJ vi) (ZIR hp2 hi),Zgt vi vj (fun d hd he=>d2 d he hd)]
 ·have hgot:∃ t0 k0 o0 v0,ci.got=[(t0,k0,o0,v0)]/\t0<sj/\cj.upd.lookup t0=none:=by
   unfold Zbo at hp4
   split at hp4
   ·rename_i t0 k0 o0 v0 hg
    simp only[Xk,decide_eq_true_eq,Option.isNone_iff_eq_none]at hp4
    grind
   ·cases hp4
  obtain⟨t0,k0,o0,v0,hg,hlt,hnone⟩:=hgot
  have hg0:ZaS ci {}=true:=by
   unfold ZaS
   rw[hg]
   rfl
  obtain⟨rfl,f2⟩:=ZhS hj
  obtain⟨t,k,o,q1,rfl,rfl,q4,cs,q6,q7⟩:=ZoM hp2 hi hg0
  rw[hg]at q1
  injection q1 with q1 _
  injection q1 with q1 _
  subst q1
  have hk:=ZNG hp1 hj hp3 hnone hlt q6
  have g1:=q4 tm G (rdI vj) ⟨cs,hk,q7⟩
  refine⟨_,_,g1,?_⟩
  rw[f2 _ (rdJ vi),Zgt vi vj (fun d hd he=>d2 d he hd)]
inductive ZdF (O:ZS) (bf:Nat->Bool) (ops:List AOp) (L:Nat) (cs:List Cls):List Nat->Tms->Za->Tms->Za->Prop
 |nil {tm:Tms} {G:Za}:ZdF O bf ops L cs [] tm G tm G
 |cons {i:Nat} {l:List Nat} {v:AVal} {tm tm1 tm2:Tms} {G G1 G2:Za}:ZW O bf (ops.getD i default) (L+sitesOf (ops.take i)) tm G=some (v,tm1,G1,cs.getD i {})->(∀ x,v≠.pan x)->ZdF O bf ops L cs l tm1 G1 tm2 G2->ZdF O bf ops L cs (i::l) tm G tm2 G2
theorem Zrb(ops:List AOp){k:Nat}(h:k<ops.length):sitesOf (ops.take (k+1))=sitesOf (ops.take k)+nsite (ops[k]).ins:=by
 rw[List.take_succ_eq_append_getElem h]
 simp only[sitesOf,Wl,List.sum_append,Xu,XC,List.sum_cons,List.sum_nil,X6]
theorem ZvY{ops:List AOp}{L:Nat}:∀ (m k:Nat) {cs cs':List Cls} {tm:Tms} {G:Za} {tm':Tms} {G':Za},k+m=ops.length->Zac O bf (ops.drop k) (L+sitesOf (ops.take k)) tm G=some (tm',G',cs',none)->(∀ j,cs'.getD j {}=cs.getD (k+j) {})->ZdF O bf ops L cs (Xay k m) tm G tm' G'
 |0,k,cs,cs',tm,G,tm',G',hk,h,hcs=>by
  rw[Wg (by omega)]at h
  simp only[Zac,Xb,Xe]at h
  obtain⟨rfl,rfl,rfl,_⟩:=h
  exact ZdF.nil
 |m+1,k,cs,cs',tm,G,tm',G',hk,h,hcs=>by
  have hlt:k<ops.length:=by omega
  rw[WM hlt]at h
  simp only[Zac]at h
  split at h
  ·cases h
  ·grind
  rename_i v tm1 G1 c hnp h1
  split at h
  ·cases h
  rename_i tm2 G2 cs2 p h2
  simp only[Xb,Xe]at h
  obtain⟨rfl,rfl,rfl,rfl⟩:=h
  rw[Xa4]
  have hc0:=hcs 0
  simp only[Xm,X6]at hc0
  refine ZdF.cons (v:=v) (tm1:=tm1) (G1:=G1) ?_ (fun x e=>?_) (ZvY m (k+1) (by omega) (cs':=cs2) ?_ (fun j=>?_))
  ·grind
  ·grind
  ·rw[Zrb ops hlt,<-XaQ];exact h2
  ·have:=hcs (j+1)
   simp only[Xs]at this
   rw[this]
   congr 1;omega
theorem Zqb{ops:List AOp}{L:Nat}{cs:List Cls}{i:Nat}{l2:List Nat}:∀ {l1:List Nat} {tm:Tms} {G:Za} {tm':Tms} {G':Za},(∀ j∈l1,(ops.getD j default).apartT (ops.getD i default)=true/\Zda (ops.getD j default) (ops.getD i default) (cs.getD j {}) (cs.getD i {}) (L+sitesOf (ops.take j))=true/\(nsite (ops.getD j default).ins≠0->nsite (ops.getD i default).ins≠0->L+sitesOf (ops.take j)≠L+sitesOf (ops.take i))/\L+sitesOf (ops.take j)+nsite (ops.getD j default).ins<=L+sitesOf (ops.take i)) ->
  ZdF O bf ops L cs (l1++i::l2) tm G tm' G'->∃ v tm1 G1,ZW O bf (ops.getD i default) (L+sitesOf (ops.take i)) tm G=some (v,tm1,G1,cs.getD i {})/\(∀ x,v≠.pan x)/\ZdF O bf ops L cs (l1++l2) tm1 G1 tm' G'
 | [],tm,G,tm',G',_,h=>by
  cases h with
  |cons h1 hn h2=>grind
 |j::l1,tm,G,tm',G',hall,h=>by
  cases h with
  |cons h1 hn h2 =>
   obtain⟨v3,tm3,G3,h3,hn3,h4⟩:=Zqb (l1:=l1) (fun k hk=>hall k (by simp[hk])) h2
   obtain⟨p1,p2,p3,p4⟩:=hall j (by simp)
   obtain⟨tm4,G4,h5,h6⟩:=Zvf h1 h3 p1 p2 p3 p4
   exact⟨v3,tm4,G4,h5,hn3,ZdF.cons h6 hn h4⟩
theorem ZyG{ops:List AOp}{L:Nat}{x:AVal}:∀ (m k:Nat) {cs cs':List Cls} {tm:Tms} {G:Za} {tm':Tms} {G':Za},k+m=ops.length->Zac O bf (ops.drop k) (L+sitesOf (ops.take k)) tm G=some (tm',G',cs',some x)->(∀ j,cs'.getD j {}=cs.getD (k+j) {}) ->
  ∃ n tmJ GJ tmX,n<m/\cs'.length=n+1/\ZdF O bf ops L cs (Xay k n) tm G tmJ GJ/\ZW O bf (ops.getD (k+n) default) (L+sitesOf (ops.take (k+n))) tmJ GJ=some (.pan x,tmX,G',cs.getD (k+n) {})
 |0,k,cs,cs',tm,G,tm',G',hk,h,hcs=>by
  rw[Wg (by omega)]at h
  simp[Zac]at h
 |m+1,k,cs,cs',tm,G,tm',G',hk,h,hcs=>by
  have hlt:k<ops.length:=by omega
  rw[WM hlt]at h
  simp only[Zac]at h
  have hc0:=hcs 0
  have hg:ops.getD k default=ops[k]:=by simp[Xh,hlt]
  split at h
  ·cases h
  ·rename_i y tm1 G1 c h1
   simp only[Xb,Xe]at h
   obtain⟨rfl,rfl,rfl,rfl⟩:=h
   simp only[Xm,X6]at hc0
   refine⟨0,tm,G,tm1,by omega,rfl,ZdF.nil,?_⟩
   grind
  rename_i v tm1 G1 c hnp h1
  split at h
  ·cases h
  rename_i tm2 G2 cs2 p h2
  simp only[Xb,Xe]at h
  obtain⟨rfl,rfl,rfl,rfl⟩:=h
  simp only[Xm,X6]at hc0
  have hnext:Zac O bf (ops.drop (k+1)) (L+sitesOf (ops.take (k+1))) tm1 G1=some (tm2,G2,cs2,some x):=by
   rw[Zrb ops hlt,<-XaQ]
   exact h2
  obtain⟨n,tmJ,GJ,tmX,g1,g2,g3,g4⟩:=ZyG m (k+1) (cs:=cs) (by omega) hnext (fun j=>by
   have:=hcs (j+1)
   simp only[Xs]at this
   rw[this];congr 1;omega)
  refine⟨n+1,tmJ,GJ,tmX,by omega,by simp[g2],?_,?_⟩
  ·rw[Xa4]
   refine ZdF.cons (v:=v) (tm1:=tm1) (G1:=G1) ?_ (fun x e=>hnp x e) g3
   grind
  grind
theorem ZBj{o:AOp}{v:AVal}{c:Cls}{tm tm1:Tms}{G G1:Za}{sq:Nat}(hq:o.ins.touches=false\/ZaO o.ins=true)(h:ZW O bf o sq tm G=some (v,tm1,G1,c)):G1=G:=by
 unfold ZW at h
 split at h
 ·cases h
 ·grind
 ·split at h
  ·split at h
   ·rename_i he
    simp only[Xb,Xe]at h
    rw[<-h.2.2.1]
    rcases hq with hq |hq
    ·exact ZJ8 hq he
    ·cases hi:o.ins with
     |ld k a =>
      rw[hi]at he
      simp only[execI]at he
      unfold ldA at he
      grind
     |_=>rw[hi]at hq;simp[ZaO]at hq
   ·cases h
  ·cases h
theorem ZyW{ops:List AOp}{L:Nat}{cs:List Cls}{i:Nat}{x:AVal}{tmX:Tms}{GX:Za}:∀ {l1:List Nat} {tm:Tms} {G:Za} {tm':Tms} {G':Za},(∀ j∈l1,((ops.getD j default).ins.touches=false\/ZaO (ops.getD j default).ins=true)/\(ops.getD j default).apartT (ops.getD i default)=true/\Zda (ops.getD j default) (ops.getD i default) (cs.getD j {}) (cs.getD i {}) (L+sitesOf (ops.take j))=true/\(nsite (ops.getD j default).ins≠0->nsite (ops.getD i default).ins≠0->L+sitesOf (ops.take j)≠L+sitesOf (ops.take i))/\L+sitesOf (ops.take j)+nsite (ops.getD j default).ins<=L+sitesOf (ops.take i)) ->
  ZdF O bf ops L cs l1 tm G tm' G'->ZW O bf (ops.getD i default) (L+sitesOf (ops.take i)) tm' G'=some (.pan x,tmX,GX,cs.getD i {})->∃ tm1,ZW O bf (ops.getD i default) (L+sitesOf (ops.take i)) tm G=some (.pan x,tm1,GX,cs.getD i {})
 | [],tm,G,tm',G',_,h,hp=>by
  cases h
  grind
 |j::l1,tm,G,tm',G',hall,h,hp=>by
  cases h with
  |cons h1 hn h2 =>
   obtain⟨tm3,h3⟩:=ZyW (l1:=l1) (fun k hk=>hall k (by simp[hk])) h2 hp
   obtain⟨hq,p1,p2,p3,p4⟩:=hall j (by simp)
   obtain⟨tm4,G4,h5,h6⟩:=Zvf h1 h3 p1 p2 p3 p4
   have:=ZBj hq h6
   subst this
   exact⟨tm4,h5⟩
end
end
section
open Go.RowKit
section
variable {P:Program}{O:ZS}{bf:Nat->Bool}{an:Ann}{base:Nat->Prop}{w0:World}{I0:Imm}
structure Door where
 D:List Deferred
 K:List Nat
 X:Nat->Value
def Door.ok(dr:Door)(a:Act):Prop:=a.defers=dr.D/\∀ j∈dr.K,a.tmps.getD j undef=dr.X j
def Zci:Door:=⟨[],[],fun _=>undef⟩
theorem Zgf{a:Act}:Zci.ok a↔a.defers=[]:=by simp[Door.ok,Zci]
def StR(dr:Door)(nt:Nat)(base:Nat->Prop)(w0:World)(I0 I:Imm)(V:Bmap)(tm:Tms)(G:Za)(a:Act)(w:World):Prop :=
 ∃ I' V',I.le I'/\V.le V'/\TR I' V' tm a.tmps/\(dr.ok a/\nt<=a.tmps.size)/\Rel base w0 I0 I' V' G w
variable {dr:Door}
theorem StR.trans{nt:Nat}{I I1:Imm}{V V1:Bmap}{tm:Tms}{G:Za}{a:Act}{w:World}(hI:I.le I1)(hV:V.le V1)(h:StR dr nt base w0 I0 I1 V1 tm G a w):StR dr nt base w0 I0 I V tm G a w:=by
 obtain⟨I',V',h1,h2,h3⟩:=h
 exact⟨I',V',hI.trans h1,hV.trans h2,h3⟩
theorem Post.trans{I I1:Imm}{V V1:Bmap}{x:AVal}{G:Za}{u:Value}{w:World}(hI:I.le I1)(hV:V.le V1)(h:Post base w0 I0 I1 V1 x G u w):Post base w0 I0 I V x G u w:=by
 obtain⟨I',V',h1,h2,h3⟩:=h
 exact⟨I',V',hI.trans h1,hV.trans h2,h3⟩
theorem ZrR{I:Imm}{V:Bmap}{tm:Tms}{a:Act}{v:AVal}{u:Value}(T:TR I V tm a.tmps)(hv:VR I V v u){d:Option Nat}(hd:∀ n,d=some n->n<a.tmps.size):TR I V (tput tm d v) (a.put d u).tmps:=by
 cases d with
 |none=>exact T
 |some d=>exact T.put hv (hd d rfl)
theorem ZAZ(a:Act)(d:Option Nat)(u:Value):(a.put d u).defers=a.defers:=by cases d<;>rfl
theorem Zn8{a:Act}{d:Option Nat}{u:Value}(h:dr.ok a)(hd:∀ n,d=some n->n∉dr.K):dr.ok (a.put d u):=by
 refine⟨(ZAZ a d u).trans h.1,fun j hj=>?_⟩
 rw[<-h.2 j hj]
 cases d with
 |none=>rfl
 |some n =>
  have hne:n≠j:=by rintro rfl;exact hd n rfl hj
  simp only[Act.put,Wq]
  grind
theorem ZfD(a:Act)(d:Option Nat)(u:Value):(a.put d u).tmps.size=a.tmps.size:=by cases d<;>simp[Act.put]
theorem Zzt{I:Imm}{V:Bmap}{tm:Tms}{a:Act}(T:TR I V tm a.tmps){ops:Array Oper}{o:Oper}{g:Option (Nat×Bool)}(hg:Zmz ops o.guard=some g){b:Bool}(h:ZbL g tm=some b):Region.wanted o (yielded ops a.tmps)=b:=by
 unfold Zmz at hg
 unfold Region.wanted
 split at hg
 ·rename_i e
  injection hg with hg;subst hg
  simp only[ZbL,Xb]at h
  grind
 ·rename_i j want e
  split at hg
  ·rename_i o' ho'
   split at hg
   ·rename_i d hd
    injection hg with hg;subst hg
    rw[e]
    show(yielded ops a.tmps j==some want)=b
    have hy:yielded ops a.tmps j=match a.tmps[d]? with |some (.bool b)=>some b |_=>none:=by
     simp only[yielded,ho',Option.bind_some,hd]
     rfl
    rw[hy]
    have hx:=T d
    rw[Wq]at hx
    simp only[ZbL]at h
    split at h
    ·rename_i b' hb'
     rw[hb']at hx
     simp only[VR]at hx
     have : a.tmps[d]?=some (.bool b'):=by
      cases hq:a.tmps[d]? with
      |none=>rw[hq]at hx;simp[undef]at hx
      |some q=>grind
     rw[this]
     simp only[Xb]at h
     subst h
     cases b'<;>cases want<;>rfl
    ·rename_i hb'
     rw[hb']at hx
     simp only[VR,VRs]at hx
     grind
    ·cases h
   ·cases hg
  ·cases hg
theorem Ztv{ops:Array Oper}{o:Oper}{ao:AOp}(hc:Zic P an ops o=some ao):∃ g i,Zmz ops o.guard=some g/\(∃ own,Zad P an own o.op=some i)/\(∀ n,o.dst=some n->n<an.nt/\n∉an.keep)/\ao=⟨o.dst,i,g,(o.after.toList.filter (Region.binds .any)).map (·.on)⟩:=by
 unfold Zic at hc
 split at hc
 ·rename_i g i hg hi
  split at hc
  ·rename_i hd
   injection hc with hc
   refine⟨g,i,hg,⟨_,hi⟩,fun n hn=>?_,hc.symm⟩
   rw[hn]at hd
   simp only[Zzh,Xk,decide_eq_true_eq,Xap,List.contains_eq_mem,decide_eq_false_iff_not]at hd
   exact hd
  ·cases hc
 ·cases hc
theorem Zls(hO:ZaN P O)(hkp:∀ n∈dr.K,n∈an.keep){ops:Array Oper}{o:Oper}{ao:AOp}(hc:Zic P an ops o=some ao){I:Imm}{V:Bmap}{tm tm':Tms}{G G':Za}{a:Act}{w:World}(T:TR I V tm a.tmps)(hd:dr.ok a/\an.nt<=a.tmps.size)(R:Rel base w0 I0 I V G w)(hb:KLt base w0)
  {sq:Nat} {v:AVal} {c:Cls} (h:ZW O bf ao sq tm G=some (v,tm',G',c)) {K:Act->World->Prop} {Q:Exit->Act->World->Prop} (hK:(∀ x,v≠.pan x)->∀ a' w',StR dr an.nt base w0 I0 I V tm' G' a' w'->K a' w')
  (hQ:∀ x,v=.pan x->∀ u w',Post base w0 I0 I V x G' u w'->Q (.panic [{ v:=u,recovered:=false }]) a w') :
  if Region.wanted o (yielded ops a.tmps)then o.wp P a w K Q\/(o.asks P a w/\LetsOut Q)else K (a.put o.dst undef) w:=by
 obtain⟨g,i,hg,⟨own,hi⟩,hdst,rfl⟩:=Ztv hc
 have hdst':∀ n,o.dst=some n->n<a.tmps.size:=fun n hn=>Nat.lt_of_lt_of_le (hdst n hn).1 hd.2
 have hdk:∀ n,o.dst=some n->n∉dr.K:=fun n hn hm=>(hdst n hn).2 (hkp n hm)
 unfold ZW at h
 split at h
 ·cases h
 ·rename_i hw
  simp only at hw
  rw[Zzt T hg hw]
  simp only[Xb,Xe]at h
  obtain⟨rfl,rfl,rfl,rfl⟩:=h
  simp only[Xi,if_false]
  exact hK (by simp) _ _ ⟨I,V,Imm.le.refl I,Bmap.le.refl V,ZrR T (Zoh I V) hdst',⟨Zn8 hd.1 hdk,by rw[ZfD];exact hd.2⟩,R⟩
 ·rename_i hw
  simp only at hw
  rw[Zzt T hg hw]
  simp only[if_true]
  split at h
  ·rename_i hf
   split at h
   ·rename_i v' G1 c' he
    simp only[Xb,Xe]at h
    obtain⟨rfl,rfl,rfl,rfl⟩:=h
    have hs:nsite i≠0->G[sq]?=some .free:=by
     intro hn
     simp only[WH,beq_iff_eq]at hf
     exact Zgo.1 (hf.resolve_left hn)
    rcases ZEZ hO hi T R hb hs he with hok |⟨x,rfl,hpan⟩
    ·refine Xq (hok.wp (fun u w' hp=>?_))
     obtain⟨I',V',h1,h2,h3,h4⟩:=hp
     refine hK ?_ _ _ ⟨I',V',h1,h2,ZrR (T.mono h1 h2) h4 hdst',⟨Zn8 hd.1 hdk,by rw[ZfD];exact hd.2⟩,h3⟩
     rintro x rfl
     simp only[VR]at h4
    ·exact Xq (hpan.wp (fun u w' hp=>hQ x rfl u w' hp))
   ·cases h
  ·cases h
theorem Zsl(hO:ZaN P O)(hkp:∀ n∈dr.K,n∈an.keep)(hb:KLt base w0){ops:Array Oper}{Q:Exit->Act->World->Prop}:∀ {l:List Oper} {asl:List AOp} {sq:Nat} {I:Imm} {V:Bmap} {tm tm':Tms} {G G':Za} {cs:List Cls} {p:Option AVal} {a:Act} {w:World},Zee P an ops l=some asl->TR I V tm a.tmps->(dr.ok a/\an.nt<=a.tmps.size)->Rel base w0 I0 I V G w ->
  Zac O bf asl sq tm G=some (tm',G',cs,p)->(p=none->∀ a' w',StR dr an.nt base w0 I0 I V tm' G' a' w'->Q .normal a' w') ->
  (∀ x,p=some x->∀ a' u w',dr.ok a'->Post base w0 I0 I V x G' u w'->Q (.panic [{ v:=u,recovered:=false }]) a' w')->wpList P ops Q l a w
 | [],asl,sq,I,V,tm,tm',G,G',cs,p,a,w,hc,T,hd,R,h,hQ,_=>by
  simp only[Zee,Xb]at hc;subst hc
  simp only[Zac,Xb,Xe]at h
  obtain⟨rfl,rfl,rfl,rfl⟩:=h
  exact wpList_nil (hQ rfl _ _ ⟨I,V,Imm.le.refl I,Bmap.le.refl V,T,hd,R⟩)
 |o::l,asl,sq,I,V,tm,tm',G,G',cs,p,a,w,hc,T,hd,R,h,hQ,hP=>by
  simp only[Zee]at hc
  split at hc
  ·rename_i ao hao
   split at hc
   ·rename_i as' has'
    injection hc with hc;subst hc
    simp only[Zac]at h
    split at h
    ·cases h
    ·rename_i x tm1 G1 c1 h1
     simp only[Xb,Xe]at h
     obtain⟨rfl,rfl,rfl,rfl⟩:=h
     have:=Zls (dr:=dr) (K:=wpList P ops Q l) (Q:=Q) hO hkp hao T hd R hb h1 (fun hn=>absurd rfl (hn x)) (fun x' e u w' hp=>by
      grind)
     unfold wpList
     exact this
    ·rename_i v tm1 G1 c1 hnp h1
     split at h
     ·cases h
     rename_i tm2 G2 cs2 p2 h2
     simp only[Xb,Xe]at h
     obtain⟨rfl,rfl,rfl,rfl⟩:=h
     have:=Zls (dr:=dr) (K:=wpList P ops Q l) (Q:=Q) hO hkp hao T hd R hb h1 (fun _ a' w' hs=>by
      obtain⟨I',V',g1,g2,g3,g4,g5⟩:=hs
      exact Zsl hO hkp hb has' g3 g4 g5 h2 (fun hp a'' w'' hs'=>hQ hp a'' w'' (hs'.trans g1 g2)) (fun x hx a'' u w'' hd' hp=>hP x hx a'' u w'' hd' (hp.trans g1 g2))) (fun x e=>absurd e (fun e=>hnp x e))
     unfold wpList
     exact this
   ·cases hc
  ·cases hc
theorem Zkc{ops:Array Oper}:∀ {l:List Oper} {asl:List AOp},Zee P an ops l=some asl->asl.length=l.length/\∀ (i:Nat) (o:Oper),l[i]?=some o->∃ ao,asl[i]?=some ao/\Zic P an ops o=some ao
 | [],asl,h=>by simp only[Zee,Xb]at h;grind
 |o::l,asl,h=>by
  simp only[Zee]at h
  split at h
  ·rename_i ao hao
   split at h
   ·rename_i as' has'
    injection h with h;subst h
    obtain⟨h1,h2⟩:=Zkc has'
    grind
   ·cases h
  ·cases h
theorem Zqc:∀ (ls acc:List (List Nat)),(∀ j p,p∈(acc.getD j [])->True)->(ZcG ls acc).take acc.length=acc/\(ZcG ls acc).length=acc.length+ls.length /\
  ∀ j,j<ls.length->∀ p,p∈(ZcG ls acc).getD (acc.length+j) []->p∈ls.getD j []\/∃ i∈ls.getD j [],i<acc.length+j/\p∈(ZcG ls acc).getD i []
 | [],acc,_=>by simp[ZcG]
 |l::ls,acc,_=>by
  obtain⟨h1,h2,h3⟩:=Zqc ls (acc++[l++l.flatMap fun i=>acc.getD i []]) (fun _ _ _=>trivial)
  simp only[ZcG]
  have hlen:(acc++[l++l.flatMap fun i=>acc.getD i []]).length=acc.length+1:=by simp
  rw[hlen]at h1 h2 h3
  have hpre:∀ i,i<acc.length+1->(ZcG ls (acc++[l++l.flatMap fun i=>acc.getD i []])).getD i []=(acc++[l++l.flatMap fun i=>acc.getD i []]).getD i []:=by
   intro i hi
   have:=congrArg (fun q:List (List Nat)=>q.getD i []) h1
   simp only[Xh,List.getElem?_take,hi,if_true]at this ⊢
   exact this
  refine⟨?_,by grind,?_⟩
  ·have:=congrArg (List.take acc.length) h1
   rw[List.take_take,Nat.min_eq_left (by omega)]at this
   rw[this];simp
  ·intro j hj p hp
   cases j with
   |zero =>
    rw[X6,hpre _ (by omega)]at hp
    simp only[Xh,Wv (XH _),XaB,XK,Xau,XE,Wr]at hp
    grind
   |succ j =>
    grind
theorem ZAL(f:Nat->Nat)(p:Nat):∀ (l:List Nat) (m:Nat),(l.foldl (fun m i=>m |||2^i |||f i) m).testBit p=true->m.testBit p=true\/p∈l\/∃ i∈l,(f i).testBit p=true
 | [],m,h=>Xq h
 |i::l,m,h=>by
  rcases ZAL f p l _ h with h |h |⟨j,h1,h2⟩
  ·grind
  ·grind
  grind
theorem Zud:∀ (ls:List (List Nat)) (accM:List Nat) (accL:List (List Nat)),accM.length=accL.length->(∀ j p,(accM.getD j 0).testBit p=true->p∈accL.getD j [])->∀ j p,((Zjn ls accM).getD j 0).testBit p=true->p∈(ZcG ls accL).getD j []
 | [],accM,accL,_,h=>h
 |l::ls,accM,accL,hl,h=>by
  simp only[Zjn,ZcG]
  refine Zud ls _ _ (by simp[hl]) ?_
  intro j p hp
  by_cases hj:j<accM.length
  ·simp only[Xh,Wx hj]at hp
   simp only[Xh,Wx (show j<accL.length by omega)]
   have:=h j p (by simpa[Xh]using hp)
   simpa[Xh]using this
  ·by_cases hj':j=accM.length
   ·subst hj'
    simp only[Xh,Wv (XH _),XaB,XK,Xau]at hp
    rw[hl]
    simp only[Xh,Wv (XH _),XaB,XK,Xau,XE,Wr]
    rcases ZAL _ p l 0 hp with h0 |h0 |⟨i,h1,h2⟩
    ·simp at h0
    ·grind
    ·refine Xt ⟨i,h1,?_⟩
     have:=h i p (by simpa[Xh]using h2)
     simpa[Xh]using this
   grind
theorem Zxt{asl:List AOp}{ps:List (Nat×Nat)}(h:Zgc asl=some ps) :
  (∀ i j,i<j->j<asl.length->i∉(ZcG (asl.map (·.after)) []).getD j []->(asl.getD i default).apartT (asl.getD j default)=true/\((asl.getD i default).ins.touches=false\/(asl.getD j default).ins.touches=false\/(i,j)∈ps))/\(∀ j,j<asl.length->∀ i∈(asl.getD j default).after,i<j):=by
 have hsub:=Zud (asl.map (·.after)) [] [] rfl (by simp)
 unfold Zgc at h
 simp only at h
 split at h
 ·rename_i hc
  simp only[Xk,Xy,Wr,X7,Xac,XaY,forall_exists_index,and_imp,Xap,decide_eq_true_eq]at hc
  obtain⟨h1,h2⟩:=hc
  injection h with h
  have hbit:∀ i j,i∉(ZcG (asl.map (·.after)) []).getD j []->((Zjn (asl.map (·.after)) []).getD j 0).testBit i=false:=by
   intro i j hn
   cases hb:((Zjn (asl.map (·.after)) []).getD j 0).testBit i with
   |false=>rfl
   |true=>exact absurd (hsub j i hb) hn
  refine⟨fun i j hij hj hn=>⟨?_,?_⟩,fun j hj i hi=>h2 j hj i hi⟩
  ·grind
  ·cases ht1:(asl.getD i default).ins.touches with
   |false=>grind
   |true =>
    cases ht2:(asl.getD j default).ins.touches with
    |false=>grind
    |true =>
     refine Xt (Xt ?_)
     rw[<-h]
     rw[XE]
     refine Xq ?_
     simp only[Xac,Wr,X7,XaY,Xk]
     grind
 ·cases h
theorem ZPW{asl:List AOp}{ps:List (Nat×Nat)}(h:Zgc asl=some ps){j:Nat}(hm:(j,j)∈ps):∀ k,j<k->k<asl.length->j∈(ZcG (asl.map (·.after)) []).getD k []:=by
 have hsub:=Zud (asl.map (·.after)) [] [] rfl (by simp)
 unfold Zgc at h
 simp only at h
 split at h
 ·injection h with h
  rw[<-h,XE]at hm
  rcases hm with hm |hm
  ·grind
  grind
 ·cases h
theorem ZNy{asl:List AOp}{ps:List (Nat×Nat)}(h:Zgc asl=some ps){j:Nat}(hm:(j,j)∈ps):(asl.getD j default).ins.touches=true:=by
 unfold Zgc at h
 simp only at h
 split at h
 ·injection h with h
  rw[<-h,XE]at hm
  rcases hm with hm |hm
  ·grind
  ·simp only[X7,Xac,XaY,Xe,and_self,Xk]at hm
   obtain⟨a,⟨_,hc,_⟩,rfl⟩:=hm
   cases hi:(asl.getD a default).ins<;>rw[hi]at hc<;>first |rfl |(simp[ZaH]at hc)
 ·cases h
end
end
section
open Go.RowKit
section
variable {P:Program}{O:ZS}{bf:Nat->Bool}{an:Ann}{base:Nat->Prop}{w0:World}{I0:Imm}{dr:Door}
theorem ZHT{o:AOp}{tm tm1:Tms}{G G1:Za}{sq:Nat}{v:AVal}{c:Cls}(ht:o.ins.touches=false)(h:ZW O bf o sq tm G=some (v,tm1,G1,c)):c={}:=by
 unfold ZW at h
 split at h
 ·cases h
 ·grind
 ·split at h
  ·split at h
   ·rename_i he
    simp only[Xb,Xe]at h
    rw[<-h.2.2.2]
    exact(ZRN ht he).1
   ·cases h
  ·cases h
theorem ZkB{i:Ins}(h:i.touches=false):nsite i=0:=by cases i<;>simp[Ins.touches]at h<;>rfl
theorem Zi2{asl:List AOp}{L:Nat}{cs:List Cls}:∀ {l:List Nat} {tm tm':Tms} {G G':Za},ZdF O bf asl L cs l tm G tm' G'->∀ j∈l,(asl.getD j default).ins.touches=false->cs.getD j {}={}
 | [],_,_,_,_,_,j,hj,_=>by simp at hj
 |i::l,_,_,_,_,h,j,hj,ht=>by
  cases h with
  |cons h1 _ h2 =>
   rcases X0.1 hj with rfl |hj
   ·exact ZHT ht h1
   ·exact Zi2 h2 j hj ht
theorem ZjF(asl:List AOp):∀ {j i:Nat},j<i->i<=asl.length->sitesOf (asl.take j)+nsite (asl.getD j default).ins<=sitesOf (asl.take i):=by
 intro j i hji hi
 induction i with
 |zero=>omega
 |succ i ih =>
  rw[Zrb asl (by omega)]
  by_cases e:j=i
  ·subst e
   simp[Xh,show j<asl.length by omega]
  ·have:=ih (by omega) (by omega);omega
theorem ZHx(hO:ZaN P O)(hkp:∀ n∈dr.K,n∈an.keep)(hb:KLt base w0){ops:Array Oper}{asl:List AOp}(hcomp:Zee P an ops ops.toList=some asl){ps:List (Nat×Nat)}(hps:Zgc asl=some ps){L:Nat}{cs:List Cls}(hchk:Zek asl L ps cs=true)
  {tmF:Tms} {GF:Za} {Q:Exit->Act->World->Prop} {I:Imm} {V:Bmap} (hQ:∀ a' w',StR dr an.nt base w0 I0 I V tmF GF a' w'->Q .normal a' w') :
  ∀ (fuel:Nat) (rem:List Nat) (listed:Array Bool) (a:Act) (w:World) (tm:Tms) (G:Za),ZdF O bf asl L cs rem tm G tmF GF->rem.Pairwise (· < ·)->(∀ j∈rem,j<ops.size)->(∀ j,j<ops.size->(listed.getD j true=true↔j∉rem))->listed.size=ops.size ->
   (∀ k,k<ops.size->k∉rem->∀ p∈(ZcG (asl.map (·.after)) []).getD k [],p∉rem)->rem.length=fuel->StR dr an.nt base w0 I0 I V tm G a w->wpAny P .any ops Q fuel listed a w:=by
 obtain⟨hlen,hget⟩:=Zkc hcomp
 obtain⟨hp1,hp2⟩:=Zxt hps
 obtain⟨_,_,hanc⟩:=Zqc (asl.map (·.after)) [] (fun _ _ _=>trivial)
 simp only[XU]at hlen
 have hafter:∀ j o,ops[j]?=some o->∃ ao,asl.getD j default=ao/\Zic P an ops o=some ao/\ao.after=(o.after.toList.filter (Region.binds .any)).map (·.on)/\ao.dst=o.dst:=by
  intro j o ho
  obtain⟨ao,h1,h2⟩:=hget j o (by grind)
  refine⟨ao,by grind,h2,?_⟩
  obtain⟨g,i,_,_,_,rfl⟩:=Ztv h2
  exact⟨rfl,rfl⟩
 intro fuel
 induction fuel with
 |zero =>
  intro rem listed a w tm G hr hs hlt hl hsz hcl hfl hst
  have : rem=[]:=List.eq_nil_of_length_eq_zero hfl
  subst this
  cases hr
  refine⟨?_,hQ a w hst⟩
  apply List.eq_nil_iff_forall_not_mem.2
  intro j hj
  rw[mem_ready]at hj
  obtain⟨h1,o,ho,_⟩:=hj
  have hjl:j<ops.size:=(XZ.1 ho).1
  have:=(hl j hjl).2 (by simp)
  rw[h1]at this;cases this
 |succ fuel ih =>
  intro rem listed a w tm G hr hs hlt hl hsz hcl hfl hst
  have isRem:∀ j,j<ops.size->listed.getD j true=false->j∈rem:=by
   intro j hj h
   by_cases hm:j∈rem
   ·exact hm
   ·have:=(hl j hj).2 hm;rw[h]at this;cases this
  have getD_tf:∀ j,j<ops.size->listed.getD j false=listed.getD j true:=by
   intro j hj
   simp[WX,hsz,hj]
  refine⟨fun hnil=>?_,fun i hi=>?_⟩
  ·exfalso
   cases rem with
   |nil=>simp at hfl
   |cons r rs =>
    have hrl:r<ops.size:=hlt r (by simp)
    have hro:ops[r]?=some ops[r]:=by simp[hrl]
    obtain⟨ao,e1,e2,e3,_⟩:=hafter r _ hro
    have : r∈Region.ready .any ops listed:=by
     rw[mem_ready]
     refine⟨?_,ops[r],hro,fun e he hbnd=>?_⟩
     ·grind
     ·have hon:e.on∈ao.after:=by rw[e3];exact X7.2 ⟨e,Xac.2 ⟨by simpa using he,hbnd⟩,rfl⟩
      have hlt':e.on<r:=hp2 r (by omega) e.on (by grind)
      rw[getD_tf _ (by omega)]
      refine(hl e.on (by omega)).2 (fun hm=>?_)
      rcases X0.1 hm with h |hm
      ·omega
      ·have:=(Xam.1 hs).1 e.on hm;omega
    grind
  ·rw[mem_ready]at hi
   obtain⟨hi0,o,ho,hpre⟩:=hi
   have hil:i<ops.size:=(XZ.1 ho).1
   have him:=isRem i hil hi0
   obtain⟨l1,l2,rfl⟩:=List.append_of_mem him
   obtain⟨ao,e1,e2,e3,e4⟩:=hafter i o ho
   have hdone:∀ p∈(asl.getD i default).after,p<ops.size->p∉l1++i::l2:=by
    intro p hp hpl
    rw[e1,e3]at hp
    obtain⟨e,he,rfl⟩:=X7.1 hp
    obtain⟨he1,he2⟩:=Xac.1 he
    have:=hpre e (by grind) he2
    rw[getD_tf _ hpl]at this
    exact(hl e.on hpl).1 this
   have hai:(asl.map (·.after)).getD i []=(asl.getD i default).after:=by
    simp[Xh,show i<asl.length by omega]
   have hanci:∀ p∈(ZcG (asl.map (·.after)) []).getD i [],p∉l1++i::l2:=by
    intro p hp
    have hap:∀ q,q∈(asl.map (·.after)).getD i []->q<i:=fun q hq=>hp2 i (by omega) q (by grind)
    rcases hanc i (by simp;omega) p (by simpa using hp)with h |⟨q,h1,h2,h3⟩
    ·grind
    ·grind
   have hl1:∀ j∈l1,j<i:=by
    intro j hj
    have:=W8.1 hs
    exact this.2.2 j hj i (by simp)
   obtain⟨v1,tm1,G1,h1,hnp1,h2⟩:=Zqb (l1:=l1) (i:=i) (fun j hj=>by
    have hji:=hl1 j hj
    have hjn:j∉(ZcG (asl.map (·.after)) []).getD i []:=fun hm=>hanci j hm (by simp[hj])
    obtain⟨p1,p2⟩:=hp1 j i hji (by omega) hjn
    refine⟨p1,?_,fun hn _=>?_,?_⟩
    ·rcases p2 with p2 |p2 |p2
     ·have:=Zi2 hr j (by simp[hj]) p2
      have hem:ZcS (asl.getD j default) (cs.getD j {})=true:=by rw[this];simp only[ZcS,ZkB p2];rfl
      simp only[Zda,hem,WV]
     ·have:=Zi2 hr i (by simp) p2
      have hem:ZcS (asl.getD i default) (cs.getD i {})=true:=by rw[this];simp only[ZcS,ZkB p2];rfl
      simp only[Zda,hem,WV,W7]
     ·have:=Xy.1 hchk (j,i) p2
      simp only[WH,beq_iff_eq]at this
      rcases this with h |h
      ·omega
      ·exact h
    ·have:=ZjF asl hji (by omega)
     omega
    ·have:=ZjF asl hji (by omega)
     omega) hr
   unfold wpOp
   rw[ho]
   rw[e1]at h1
   obtain⟨I',V',g1,g2,g3,g4,g5⟩:=hst
   refine Zls hO hkp e2 g3 g4 g5 hb h1 (fun _ a' w' hs'=>ih (l1++l2) _ a' w' tm1 G1 h2 ?_ ?_ ?_ (by grind) ?_ ?_ (hs'.trans g1 g2)) (fun x e=>absurd e (hnp1 x))
   ·grind
   ·intro j hj
    refine hlt j ?_
    grind
   ·intro j hj
    have hs1:=W8.1 hs
    by_cases hij:i=j
    ·subst hij
     have hn:i∉l1++l2:=by
      intro hm
      rcases XE.1 hm with h |h
      ·grind
      ·have:=(Xam.1 hs1.2.1).1 i h;omega
     simp[WX,hsz,hil,hn]
    ·rw[getD_set_ne true hij,hl j hj]
     simp only[XE,X0,not_or]
     constructor
     ·rintro⟨a1,_,a3⟩;exact⟨a1,a3⟩
     ·rintro⟨a1,a3⟩;exact⟨a1,fun e=>hij e.symm,a3⟩
   ·intro k hk hkn p hp hm
    have hsub:p∈l1++i::l2:=by
     simp only[XE,X0]at hm ⊢
     rcases hm with h |h
     ·exact Xq h
     ·exact Xt (Xt h)
    grind
   ·simp at hfl ⊢;omega
theorem ZTj(hO:ZaN P O)(hkp:∀ n∈dr.K,n∈an.keep)(hb:KLt base w0){ops:Array Oper}{asl:List AOp}(hcomp:Zee P an ops ops.toList=some asl){ps:List (Nat×Nat)}(hps:Zgc asl=some ps){L:Nat}{cs:List Cls}{jp:Nat}(hjl:jp<ops.size)(hmark:(jp,jp)∈ps)(hmarkT:(asl.getD jp default).ins.touches=true)(hfree:∀ j i,(j,i)∈ps->j<i->i<=jp->Zda (asl.getD j default) (asl.getD i default) (cs.getD j {}) (cs.getD i {}) (L+sitesOf (asl.take j))=true)(hquiet:∀ j,(j,jp)∈ps->j<jp->ZaO (asl.getD j default).ins=true)
  {x:AVal} {GF:Za} {Q:Exit->Act->World->Prop} {I:Imm} {V:Bmap} (hQ:∀ a' u w',dr.ok a'->Post base w0 I0 I V x GF u w'->Q (.panic [{ v:=u,recovered:=false }]) a' w') :
  ∀ (fuel:Nat) (pre post:List Nat) (listed:Array Bool) (a:Act) (w:World) (tm tmJ tmX:Tms) (G GJ:Za),ZdF O bf asl L cs pre tm G tmJ GJ->ZW O bf (asl.getD jp default) (L+sitesOf (asl.take jp)) tmJ GJ=some (.pan x,tmX,GF,cs.getD jp {})->(pre++jp::post).Pairwise (· < ·)->(∀ j∈pre++jp::post,j<ops.size)->(∀ j,j<ops.size->(listed.getD j true=true↔j∉pre++jp::post))->listed.size=ops.size ->
   (∀ k,k<ops.size->k∉pre++jp::post->∀ p∈(ZcG (asl.map (·.after)) []).getD k [],p∉pre++jp::post)->(pre++jp::post).length=fuel->StR dr an.nt base w0 I0 I V tm G a w->wpAny P .any ops Q fuel listed a w:=by
 obtain⟨hlen,hget⟩:=Zkc hcomp
 obtain⟨hp1,hp2⟩:=Zxt hps
 have hmk:=ZPW hps hmark
 obtain⟨_,_,hanc⟩:=Zqc (asl.map (·.after)) [] (fun _ _ _=>trivial)
 simp only[XU]at hlen
 have hafter:∀ j o,ops[j]?=some o->∃ ao,asl.getD j default=ao/\Zic P an ops o=some ao/\ao.after=(o.after.toList.filter (Region.binds .any)).map (·.on)/\ao.dst=o.dst:=by
  intro j o ho
  obtain⟨ao,h1,h2⟩:=hget j o (by grind)
  refine⟨ao,by grind,h2,?_⟩
  obtain⟨g,i,_,_,_,rfl⟩:=Ztv h2
  exact⟨rfl,rfl⟩
 intro fuel
 induction fuel with
 |zero =>
  grind
 |succ fuel ih =>
  intro pre post listed a w tm tmJ tmX G GJ hr hj hs hlt hl hsz hcl hfl hst
  have getD_tf:∀ j,j<ops.size->listed.getD j false=listed.getD j true:=by
   intro j hj
   simp[WX,hsz,hj]
  have isRem:∀ j,j<ops.size->listed.getD j true=false->j∈pre++jp::post:=by
   intro j hj h
   by_cases hm:j∈pre++jp::post
   ·exact hm
   ·have:=(hl j hj).2 hm;rw[h]at this;cases this
  refine⟨fun hnil=>?_,fun i hi=>?_⟩
  ·exfalso
   obtain⟨r,rs,hrr⟩:∃ r rs,pre++jp::post=r::rs:=by cases pre<;>simp
   rw[hrr]at hs hlt hl
   have hrl:r<ops.size:=hlt r (by simp)
   have hro:ops[r]?=some ops[r]:=by simp[hrl]
   obtain⟨ao,e1,e2,e3,_⟩:=hafter r _ hro
   have : r∈Region.ready .any ops listed:=by
    rw[mem_ready]
    refine⟨?_,ops[r],hro,fun e he hbnd=>?_⟩
    ·grind
    ·have hon:e.on∈ao.after:=by rw[e3];exact X7.2 ⟨e,Xac.2 ⟨by simpa using he,hbnd⟩,rfl⟩
     have hlt':e.on<r:=hp2 r (by omega) e.on (by grind)
     rw[getD_tf _ (by omega)]
     refine(hl e.on (by omega)).2 (fun hm=>?_)
     rcases X0.1 hm with h |hm
     ·omega
     ·have:=(Xam.1 hs).1 e.on hm;omega
   grind
  ·rw[mem_ready]at hi
   obtain⟨hi0,o,ho,hpre⟩:=hi
   have hil:i<ops.size:=(XZ.1 ho).1
   have him:=isRem i hil hi0
   obtain⟨ao,e1,e2,e3,e4⟩:=hafter i o ho
   have hdone:∀ p∈(asl.getD i default).after,p<ops.size->p∉pre++jp::post:=by
    intro p hp hpl
    rw[e1,e3]at hp
    obtain⟨e,he,rfl⟩:=X7.1 hp
    obtain⟨he1,he2⟩:=Xac.1 he
    have:=hpre e (by grind) he2
    rw[getD_tf _ hpl]at this
    exact(hl e.on hpl).1 this
   have hai:(asl.map (·.after)).getD i []=(asl.getD i default).after:=by
    simp[Xh,show i<asl.length by omega]
   have hanci:∀ p∈(ZcG (asl.map (·.after)) []).getD i [],p∉pre++jp::post:=by
    intro p hp
    have hap:∀ q,q∈(asl.map (·.after)).getD i []->q<i:=fun q hq=>hp2 i (by omega) q (by grind)
    rcases hanc i (by simp;omega) p (by simpa using hp)with h |⟨q,h1,h2,h3⟩
    ·grind
    ·grind
   have hss:=W8.1 hs
   rw[XE,X0]at him
   rcases him with him |hij |him
   ·obtain⟨l1,l2,rfl⟩:=List.append_of_mem him
    have hl1:∀ j∈l1,j<i:=by
     intro j hj
     exact(W8.1 hss.1).2.2 j hj i (by simp)
    have hijp:i<jp:=hss.2.2 i (by simp) jp (by simp)
    obtain⟨v1,tm1,G1,h1,hnp1,h2⟩:=Zqb (l1:=l1) (i:=i) (fun j hj'=>by
     have hji:=hl1 j hj'
     have hjn:j∉(ZcG (asl.map (·.after)) []).getD i []:=fun hm=>hanci j hm (by simp[hj'])
     obtain⟨p1,p2⟩:=hp1 j i hji (by omega) hjn
     refine⟨p1,?_,fun hn _=>?_,?_⟩
     ·rcases p2 with p2 |p2 |p2
      ·have:=Zi2 hr j (by simp[hj']) p2
       have hem:ZcS (asl.getD j default) (cs.getD j {})=true:=by rw[this];simp only[ZcS,ZkB p2];rfl
       simp only[Zda,hem,WV]
      ·have:=Zi2 hr i (by simp) p2
       have hem:ZcS (asl.getD i default) (cs.getD i {})=true:=by rw[this];simp only[ZcS,ZkB p2];rfl
       simp only[Zda,hem,WV,W7]
      grind
     ·have:=ZjF asl hji (by omega)
      omega
     ·have:=ZjF asl hji (by omega)
      omega) hr
    have eA:(l1++i::l2)++jp::post=l1++i::(l2++jp::post):=by simp
    have eB:(l1++l2)++jp::post=l1++(l2++jp::post):=by simp
    rw[eA]at hs hlt hl hcl hanci hfl
    unfold wpOp
    rw[ho]
    rw[e1]at h1
    obtain⟨I',V',g1,g2,g3,g4,g5⟩:=hst
    refine Zls hO hkp e2 g3 g4 g5 hb h1 (fun _ a' w' hs'=>ih (l1++l2) post _ a' w' tm1 tmJ tmX G1 GJ h2 hj ?_ ?_ ?_ (by grind) ?_ ?_ (hs'.trans g1 g2)) (fun x e=>absurd e (hnp1 x))
    ·grind
    ·intro j hj
     rw[eB]at hj
     refine hlt j ?_
     grind
    ·intro j hj
     rw[eB]
     generalize l2++jp::post=L2 at *
     have hs1:=W8.1 hs
     by_cases hij:i=j
     ·subst hij
      have hn:i∉l1++L2:=by
       intro hm
       rcases XE.1 hm with h |h
       ·grind
       ·have:=(Xam.1 hs1.2.1).1 i h;omega
      simp[WX,hsz,hil,hn]
     ·rw[getD_set_ne true hij,hl j hj]
      simp only[XE,X0,not_or]
      constructor
      ·rintro⟨a1,_,a3⟩;exact⟨a1,a3⟩
      ·rintro⟨a1,a3⟩;exact⟨a1,fun e=>hij e.symm,a3⟩
    ·intro k hk hkn p hp hm
     rw[eB]at hkn hm
     generalize l2++jp::post=L2 at *
     have hsub:p∈l1++i::L2:=by
      simp only[XE,X0]at hm ⊢
      rcases hm with h |h
      ·exact Xq h
      ·exact Xt (Xt h)
     grind
    ·rw[eB];simp at hfl ⊢;omega
   ·subst hij
    have hl1:∀ j∈pre,j<i:=fun j hj=>hss.2.2 j hj i (by simp)
    obtain⟨tm1,h1⟩:=ZyW (l1:=pre) (i:=i) (fun j hj'=>by
     have hji:=hl1 j hj'
     have hjn:j∉(ZcG (asl.map (·.after)) []).getD i []:=fun hm=>hanci j hm (by simp[hj'])
     obtain⟨p1,p2⟩:=hp1 j i hji (by omega) hjn
     have hts:(asl.getD i default).ins.touches=false->False:=fun h=>by
      grind
     refine⟨?_,p1,?_,fun hn _=>?_,?_⟩
     ·grind
     ·rcases p2 with p2 |p2 |p2
      ·have:=Zi2 hr j hj' p2
       have hem:ZcS (asl.getD j default) (cs.getD j {})=true:=by rw[this];simp only[ZcS,ZkB p2];rfl
       simp only[Zda,hem,WV]
      ·grind
      grind
     ·have:=ZjF asl hji (by omega)
      omega
     ·have:=ZjF asl hji (by omega)
      omega) hr hj
    unfold wpOp
    rw[ho]
    rw[e1]at h1
    obtain⟨I',V',g1,g2,g3,g4,g5⟩:=hst
    refine Zls hO hkp e2 g3 g4 g5 hb h1 (fun hn=>absurd rfl (hn x)) (fun x' e u w' hp=>?_)
    injection e with e
    subst e
    exact hQ a u w' g4.1 (hp.trans g1 g2)
   ·exfalso
    have hlt2:jp<i:=(Xam.1 hss.2.1).1 i him
    exact hanci jp (hmk i hlt2 (by omega)) (by simp)
theorem Rel.reserve{I:Imm}{V:Bmap}{G:Za}{w:World}(R:Rel base w0 I0 I V G w)(n:Nat):Rel base w0 I0 I V (G++XI n .free) w:=by
 have look:∀ t x,(G++XI n ZO.free)[t]?=some x->G[t]?=some x\/(G.length<=t/\x=.free):=by
  intro t x h
  by_cases ht:t<G.length
  ·rw[Wx ht]at h;exact Xq h
  ·rw[Wv (by omega)]at h
   refine Xt ⟨by omega,?_⟩
   have:=XL h
   exact List.eq_of_mem_replicate this
 refine⟨R.below,R.old,R.imm,?_,?_,?_,?_,?_,?_,R.glob⟩
 ·intro t x h
  rcases look t x h with h |⟨_,rfl⟩
  ·exact R.blk t x h
  ·trivial
 ·intro t x b h hb
  rcases look t x h with h |⟨_,rfl⟩
  ·exact R.own t x b h hb
  ·cases hb
 ·intro t x t' x' b h h' hb hb'
  rcases look t x h with h |⟨_,rfl⟩
  ·rcases look t' x' h' with h' |⟨_,rfl⟩
   ·exact R.apart t x t' x' b h h' hb hb'
   ·cases hb'
  ·cases hb
 ·intro t g h
  exact R.fresh t g (by grind)
 ·intro t g h
  rcases look t _ h with h |⟨h,_⟩
  ·exact R.free t g h
  ·exact R.fresh t g h
 ·intro t x g h hg
  rcases look t _ h with h |⟨h,_⟩
  ·exact R.gen t x g h hg
  ·exact R.fresh t g h
theorem StR.keep{I:Imm}{V:Bmap}{tm:Tms}{G:Za}{a:Act}{w:World}(h:StR dr an.nt base w0 I0 I V tm G a w)(live:List Nat):StR dr an.nt base w0 I0 I V (keepL live tm) G a w:=by
 obtain⟨I',V',h1,h2,h3,h4⟩:=h
 exact⟨I',V',h1,h2,h3.keep live,h4⟩
def ZGO(dr:Door)(an:Ann)(base:Nat->Prop)(w0:World)(I0 I:Imm)(V:Bmap)(e:Za7)(tm:Tms)(G:Za)(Q:Exit->Act->World->Prop):Prop:=match e with
 | .normal=>∀ a w,StR dr an.nt base w0 I0 I V tm G a w->Q .normal a w
 | .exit id=>∀ a w,StR dr an.nt base w0 I0 I V tm G a w->Q (.exit id) a w
 | .ret=>∀ a w,StR dr an.nt base w0 I0 I V tm G a w->Q .ret a w
 | .panic x=>∀ a u w,dr.ok a->Post base w0 I0 I V x G u w->Q (.panic [{ v:=u,recovered:=false }]) a w
theorem Zm6(hO:ZaN P O)(hkp:∀ n∈dr.K,n∈an.keep)(hm:P.follows .mixedOrders=true)(hb:KLt base w0){id:Nat}{ops:Array Oper}{draw:Bool}{asl:List AOp}{chk:Option (List (Nat×Nat))}{live:List Nat}(hc:Za2 P an (.region id ops draw)=.region asl chk live){I:Imm}{V:Bmap}{tm tm':Tms}{G G':Za}{a:Act}{w:World}{e:Za7}
  (hst:StR dr an.nt base w0 I0 I V tm G a w) (h:Zcn O bf asl chk live tm G=some (e,tm',G')) {Q:Exit->Act->World->Prop} (hQ:ZGO dr an base w0 I0 I V e tm' G' Q):(Code.region id ops draw).wp P Q a w:=by
 obtain⟨I1,V1,g1,g2,g3,g4,g5⟩:=hst
 simp only[Za2]at hc
 split at hc
 ·rename_i l hl
  unfold Zcn at h
  split at hc
  ·rename_i hd
   subst hd
   split at hc
   ·rename_i ps hps
    simp only[Zf.region.injEq]at hc
    obtain⟨rfl,rfl,rfl⟩:=hc
    cases hrun:Zac O bf l G.length tm (G++XI (sitesOf l) .free)with
    |none=>rw[hrun]at h;simp only[ZdH]at h;cases h
    |some q =>
     obtain⟨tm1,G1,cs,p⟩:=q
     rw[hrun]at h
     cases p with
     |some x =>
      simp only[ZdH]at h
      split at h
      ·rename_i hpan
       simp only[Xb,Xe]at h
       obtain⟨rfl,rfl,rfl⟩:=h
       have hlen:=(Zkc hl).1
       simp only[XU]at hlen
       obtain⟨n,tmJ,GJ,tmX,q1,q2,q3,q4⟩:=ZyG (O:=O) (bf:=bf) (ops:=l) (L:=G.length) l.length 0 (cs:=cs) (cs':=cs) (by omega) (by simpa[sitesOf]using hrun) (fun j=>by simp)
       rw[XF]at q4
       unfold Zex at hpan
       rw[q2]at hpan
       simp only[Xk,List.any_eq_true,Xy,WH,beq_iff_eq,decide_eq_true_eq,Nat.add_sub_cancel]at hpan
       obtain⟨⟨pm,hpm,hm1,hm2⟩,hall⟩:=hpan
       have hmk:(n,n)∈ps:=by
        obtain⟨a1,a2⟩:=pm
        simp only at hm1 hm2
        subst hm1 hm2
        exact hpm
       have hT:(l.getD n default).ins.touches=true:=ZNy hps hmk
       refine wp_region_any hm (ZTj hO hkp hb hl hps (jp:=n) (by omega) hmk hT (fun j i hji h1 h2=>?_) (fun j hj h1=>?_) (I:=I) (V:=V) (x:=x) (fun a' u w' hd' hp=>hQ a' u w' hd' hp) ops.size (Xay 0 n) (Xay (n+1) (l.length-n-1)) _ a _ tm tmJ tmX _ GJ q3 q4 ?_ ?_ ?_ (by simp) ?_ (by simp;omega) ⟨I1,V1,g1,g2,g3,g4,(g5.reserve _).same rfl rfl rfl rfl⟩)
       ·grind
       ·grind
       ·have e:Xay 0 n++n::Xay (n+1) (l.length-n-1)=Xay 0 l.length:=by
         rw[<-Xa4]
         have:=List.range'_append_1 (s:=0) (m:=n) (n:=l.length-n-1+1)
         rw[XF]at this
         rw[this]
         congr 1
         omega
        rw[e];exact List.pairwise_lt_range'
       ·grind
       ·intro j hj
        simp[WX,hj]
        omega
       grind
      ·cases h
     |none =>
      simp only[ZdH]at h
      split at h
      ·rename_i hchk
       simp only[Xb,Xe]at h
       obtain⟨rfl,rfl,rfl⟩:=h
       have hlen:=(Zkc hl).1
       simp only[XU]at hlen
       have hr:=ZvY (O:=O) (bf:=bf) (ops:=l) (L:=G.length) l.length 0 (cs:=cs) (cs':=cs) (by omega) (by simpa[sitesOf]using hrun) (fun j=>by simp)
       refine wp_region_any hm (ZHx hO hkp hb hl hps hchk (I:=I) (V:=V) (fun a' w' hs=>hQ a' w' (hs.keep _)) ops.size (Xay 0 l.length) _ a _ tm _ hr ?_ ?_ ?_ (by simp) ?_ (by simp[hlen]) ⟨I1,V1,g1,g2,g3,g4,(g5.reserve _).same rfl rfl rfl rfl⟩)
       ·exact List.pairwise_lt_range'
       ·grind
       ·intro j hj
        simp[WX,hj,hlen]
       grind
      ·cases h
   ·cases hc
  ·rename_i hd
   simp only[Zf.region.injEq]at hc
   obtain⟨rfl,rfl,rfl⟩:=hc
   have hdf:draw=false:=by cases draw<;>simp_all
   subst hdf
   cases hrun:Zac O bf l G.length tm (G++XI (sitesOf l) .free)with
   |none=>rw[hrun]at h;simp only[ZdH]at h;cases h
   |some q =>
    obtain⟨tm1,G1,cs,p⟩:=q
    rw[hrun]at h
    cases p with
    |none =>
     simp only[ZdH,Xb,Xe]at h
     obtain⟨rfl,rfl,rfl⟩:=h
     exact wp_region_list (Zsl hO hkp hb hl g3 g4 (g5.reserve _) hrun (fun _ a' w' hs=>hQ a' w' ((hs.trans g1 g2).keep _)) (fun x hx=>by cases hx))
    |some x =>
     simp only[ZdH,Xb,Xe]at h
     obtain⟨rfl,rfl,rfl⟩:=h
     exact wp_region_list (Zsl hO hkp hb hl g3 g4 (g5.reserve _) hrun (fun hx=>by cases hx) (fun x' hx a' u w' hd' hp=>by
      injection hx with hx;subst hx
      exact hQ a' u w' hd' (hp.trans g1 g2)))
 ·cases hc
end
end
section
open Go.RowKit
section
variable {P:Program}{O:ZS}{bf:Nat->Bool}{an:Ann}{base:Nat->Prop}{w0:World}{I0:Imm}{dr:Door}
def StF(dr:Door)(m nt:Nat)(base:Nat->Prop)(w0:World)(I0 I:Imm)(V:Bmap)(tm:Tms)(G:Za)(a:Act)(w:World):Prop :=
 ∃ I' V',I.le I'/\KeptE m V V'/\TR I' V' tm a.tmps/\(dr.ok a/\nt<=a.tmps.size)/\Rel base w0 I0 I' V' G w
def ZMZ(dr:Door)(m:Nat)(an:Ann)(base:Nat->Prop)(w0:World)(I0 I:Imm)(V:Bmap)(e:Za7)(tm:Tms)(G:Za)(Q:Exit->Act->World->Prop):Prop:=match e with
 | .normal=>∀ a w,StF dr m an.nt base w0 I0 I V tm G a w->Q .normal a w
 | .exit id=>∀ a w,StF dr m an.nt base w0 I0 I V tm G a w->Q (.exit id) a w
 | .ret=>∀ a w,StF dr m an.nt base w0 I0 I V tm G a w->Q .ret a w
 | .panic x=>∀ a u w,dr.ok a->Zca m base w0 I0 I V (.pan x) G u w->Q (.panic [{ v:=u,recovered:=false }]) a w
theorem StF.cond{m:Nat}{I:Imm}{V:Bmap}{tm:Tms}{G:Za}{a:Act}{w:World}(h:StF dr m an.nt base w0 I0 I V tm G a w){c:Operand}{y:Opd}(hc:Zau c=some y){b:Bool}(hv:y.ev tm=.bool b):a.eval c=.bool b:=by
 obtain⟨I',V',_,_,T,_,_⟩:=h
 have:=Zay T hc
 rw[hv]at this
 simpa only[VR]using this
theorem Zj4(hO:ZaN P O)(hkp:∀ n∈dr.K,n∈an.keep)(hm:P.follows .mixedOrders=true)(hb:KLt base w0)(m n:Nat):∀ {c:Code} {ac:Zf},Za2 P an c=ac->∀ {I:Imm} {V:Bmap} {tm tm':Tms} {G G':Za} {a:Act} {w:World} {e:Za7},StF dr m an.nt base w0 I0 I V tm G a w->Zam O bf m n ac tm G=some (e,tm',G') ->
  ∀ {Q:Exit->Act->World->Prop},ZMZ dr m an base w0 I0 I V e tm' G' Q->c.wp P Q a w:=by
 intro c
 induction c with
 |skip =>
  intro ac hc I V tm tm' G G' a w e hst h Q hQ
  simp only[Za2]at hc;subst hc
  simp only[Zam,Xb,Xe]at h
  obtain⟨rfl,rfl,rfl⟩:=h
  exact wp_skip (hQ a w hst)
 |region id ops draw =>
  intro ac hc I V tm tm' G G' a w e hst h Q hQ
  obtain⟨asl,chk,live,rfl⟩:∃ asl chk live,ac=.region asl chk live:=by
   simp only[Za2]at hc
   split at hc
   ·split at hc
    ·split at hc
     ·grind
     ·subst hc;simp only[Zam]at h;cases h
    grind
   ·subst hc;simp only[Zam]at h;cases h
  simp only[Zam]at h
  obtain⟨I1,V1,g1,g2,g3,g4,g5⟩:=hst
  have up:∀ {tm:Tms} {G:Za} {a':Act} {w':World},StR dr an.nt base w0 I0 I1 V1 tm G a' w'->StF dr m an.nt base w0 I0 I V tm G a' w':=by
   rintro tm G a' w' ⟨I2,V2,k1,k2,k3⟩
   exact⟨I2,V2,g1.trans k1,g2.trans (KeptE.of_le k2),k3⟩
  refine Zm6 hO hkp hm hb hc (⟨I1,V1,Imm.le.refl I1,Bmap.le.refl V1,g3,g4,g5⟩:StR dr an.nt base w0 I0 I1 V1 tm G a w) h ?_
  cases e with
  |normal=>exact fun a' w' hs=>hQ a' w' (up hs)
  |exit id=>exact fun a' w' hs=>hQ a' w' (up hs)
  |ret=>exact fun a' w' hs=>hQ a' w' (up hs)
  |panic x =>
   rintro a' u w' hd ⟨I2,V2,k1,k2,k3,k4⟩
   exact hQ a' u w' hd ⟨I2,V2,g1.trans k1,g2.trans (KeptE.of_le k2),k3,k4⟩
 |seq x y ihx ihy =>
  intro ac hc I V tm tm' G G' a w e hst h Q hQ
  simp only[Za2]at hc
  subst hc
  simp only[Zam]at h
  refine wp_seq ?_
  split at h
  ·rename_i tm1 G1 h1
   exact ihx rfl hst h1 (fun a' w' hs=>ihy rfl hs h hQ)
  ·rename_i hne
   refine ihx rfl hst h ?_
   cases e with
   |normal=>grind
   |exit id=>exact hQ
   |ret=>exact hQ
   |panic x=>exact hQ
 |cond c x y ihx ihy =>
  intro ac hc I V tm tm' G G' a w e hst h Q hQ
  simp only[Za2]at hc
  split at hc
  ·rename_i c' hcc
   subst hc
   simp only[Zam]at h
   split at h
   ·rename_i hv
    exact wp_cond_true (hst.cond hcc hv) (ihx rfl hst h hQ)
   ·rename_i hv
    exact wp_cond_false (hst.cond hcc hv) (ihy rfl hst h hQ)
   ·cases h
  ·subst hc;simp only[Zam]at h;cases h
 |block id x ih =>
  intro ac hc I V tm tm' G G' a w e hst h Q hQ
  simp only[Za2]at hc
  subst hc
  have hx:Za2 P an x=Za2 P an x:=rfl
  simp only[Zam]at h
  refine wp_block ?_
  split at h
  ·rename_i i tm1 G1 h1
   refine ih hx hst h1 ?_
   intro a' w' hs
   simp only[Exit.inBlock]
   split at h
   ·rename_i hid
    simp only[Xb,Xe]at h
    obtain⟨rfl,rfl,rfl⟩:=h
    rw[if_pos hid]
    exact hQ a' w' hs
   ·rename_i hid
    simp only[Xb,Xe]at h
    obtain⟨rfl,rfl,rfl⟩:=h
    rw[if_neg hid]
    exact hQ a' w' hs
  ·rename_i hne
   refine ih hx hst h ?_
   cases e with
   |normal=>exact hQ
   |exit id=>grind
   |ret=>exact hQ
   |panic x=>exact hQ
 |loop x ih =>
  intro ac hc I V tm tm' G G' a w e hst h Q hQ
  simp only[Za2]at hc
  subst hc
  have hx:Za2 P an x=Za2 P an x:=rfl
  simp only[Zam]at h
  refine wp_loop_rounds n ?_
  have key:∀ k {tm:Tms} {G:Za} {a:Act} {w:World},StF dr m an.nt base w0 I0 I V tm G a w->Zen m (an.ll (ZgP x)) (Zam O bf m n (Za2 P an x)) k tm G=some (e,tm',G')->Code.rounds P x Q k a w:=by
   intro k
   induction k with
   |zero=>intro tm G a w _ h;simp only[Zen]at h;cases h
   |succ k ihk =>
    intro tm G a w hst h
    rw[rounds_succ]
    simp only[Zen]at h
    obtain⟨I1,V1,k1,k2,k3,k4,k5⟩:=hst
    obtain⟨V2,q1,q2,q3⟩:=ZJH k5 (k3.keep (an.ll (ZgP x))) m
    have hst0:StF dr m an.nt base w0 I0 I V (gcT m (keepL (an.ll (ZgP x)) tm) G).1 (gcT m (keepL (an.ll (ZgP x)) tm) G).2 a w:=⟨I1,V2,k1,k2.trans q1,q3,k4,q2⟩
    split at h
    ·rename_i tm1 G1 h1
     exact ih hx hst0 h1 (fun a' w' hs=>ihk hs h)
    ·rename_i hne
     refine ih hx hst0 h ?_
     cases e with
     |normal=>grind
     |exit id=>exact hQ
     |ret=>exact hQ
     |panic x=>exact hQ
  grind
 |exit id =>
  intro ac hc I V tm tm' G G' a w e hst h Q hQ
  simp only[Za2]at hc;subst hc
  simp only[Zam,Xb,Xe]at h
  obtain⟨rfl,rfl,rfl⟩:=h
  exact wp_exit (hQ a w hst)
 |ret =>
  intro ac hc I V tm tm' G G' a w e hst h Q hQ
  simp only[Za2]at hc;subst hc
  simp only[Zam,Xb,Xe]at h
  obtain⟨rfl,rfl,rfl⟩:=h
  exact wp_ret (hQ a w hst)
 |rangeFunc f ps x y=>intro ac hc I V tm tm' G G' a w e hst h;simp only[Za2]at hc;subst hc;simp only[Zam]at h;cases h
 |scope x ih =>
  intro ac hc I V tm tm' G G' a w e hst h Q hQ
  simp only[Za2]at hc
  refine wp_scope_straight (ih hc hst h ?_)
  cases e with
  |normal=>exact hQ
  |exit id=>exact hQ
  |ret=>exact hQ
  |panic x=>exact hQ
 |label l =>
  intro ac hc I V tm tm' G G' a w e hst h Q hQ
  simp only[Za2]at hc;subst hc
  simp only[Zam,Xb,Xe]at h
  obtain⟨rfl,rfl,rfl⟩:=h
  exact wp_label (hQ a w hst)
 |goto l=>intro ac hc I V tm tm' G G' a w e hst h;simp only[Za2]at hc;subst hc;simp only[Zam]at h;cases h
 |refuse why=>intro ac hc I V tm tm' G G' a w e hst h;simp only[Za2]at hc;subst hc;simp only[Zam]at h;cases h
theorem ZN4{I:Imm}{V:Bmap}{G G':Za}{k:Option Nat}{a x:AVal}{c:Cls}{v:Value}(ha:VR I V a v)(h:ldA G k a=some (x,G',c)):∃ ad,v=.pointer (some ad):=by
 unfold ldA at h
 split at h
 ·simp only[VR]at ha;grind
 ·simp only[VR]at ha;grind
 ·simp only[VR]at ha;grind
 ·cases h
def ZkO(tmps:Array Value):ResultVar->Sem Value
 | .tmp t=>pure (tmps.getD t undef)
 | .cell a t=>do loadVar t (<-asAddr (tmps.getD a undef))
theorem Zqi{I:Imm}{V:Bmap}{tm:Tms}{G:Za}{w:World}{tmps:Array Value}(T:TR I V tm tmps)(R:Rel base w0 I0 I V G w):∀ {rs:List ResultVar} {asl:List Zdt} {xs:List AVal},ZfG P rs=some asl->resAll tm G asl=some xs ->
  ∃ vs:List Value,(rs.mapM (ZkO tmps)).run P w=.ok vs w/\VRs I V xs vs
 | [],asl,xs,hc,h=>by
  simp only[ZfG,Xb]at hc;subst hc
  simp only[resAll,Xb]at h;subst h
  exact⟨[],by simp,by simp only[VRs]⟩
 |r::rs,asl,xs,hc,h=>by
  have getD_eq:∀ t,VR I V (tget tm t) (tmps.getD t undef):=T
  cases r with
  |tmp t =>
   simp only[ZfG,Xo]at hc
   obtain⟨as',has,rfl⟩:=hc
   simp only[resAll,resOne]at h
   split at h
   ·rename_i ys hys
    injection h with h;subst h
    obtain⟨vs,h1,h2⟩:=Zqi T R has hys
    exact⟨tmps.getD t undef::vs,by simp only[XaW,ZkO,Sem.run_bind,Sem.run_pure,Result.andThen_ok,h1],by simp only[VRs];grind⟩
   ·cases h
  |cell a t =>
   simp only[ZfG]at hc
   split at hc
   ·rename_i k as' hk has
    injection hc with hc;subst hc
    simp only[resAll,resOne]at h
    split at h
    ·rename_i v hv
     split at h
     ·rename_i ys hys
      injection h with h;subst h
      obtain⟨vs,h1,h2⟩:=Zqi T R has hys
      split at hv
      ·rename_i v' G1 c1 hld
       injection hv with hv;subst hv
       obtain⟨u,hu1,hu2,_⟩:=ZwN hk R (getD_eq a) hld
       obtain⟨ad,had⟩:=ZN4 (getD_eq a) hld
       have hlv:(loadVar t ad).run P w=.ok u w:=by
        rw[had]at hu1
        simpa[Instr.loadAt,Instr.sureAddr]using hu1
       refine⟨u::vs,?_,by simp only[VRs];grind⟩
       simp only[XaW,ZkO,had,asAddr,Sem.run_bind,Sem.run_pure,Result.andThen_ok,hlv,h1]
      ·cases hv
     ·cases h
    ·cases h
   ·cases hc
theorem Zwf{I:Imm}{V:Bmap}{tm:Tms}{G:Za}{w:World}{tmps:Array Value}(T:TR I V tm tmps)(R:Rel base w0 I0 I V G w){fn:Func}{asl:List Zdt}{x:AVal}(hc:ZfG P fn.results.toList=some asl)(h:resA tm G asl=some x):∃ v,(results fn tmps).run P w=.ok v w/\VR I V x v:=by
 unfold resA at h
 have run:∀ {xs:List AVal},resAll tm G asl=some xs->∃ vs:List Value,(results fn tmps).run P w=.ok (if h:vs.toArray.size=1 then vs.toArray[0]else .tuple vs.toArray) w/\VRs I V xs vs:=by
  intro xs hx
  obtain⟨vs,h1,h2⟩:=Zqi T R hc hx
  refine⟨vs,?_,h2⟩
  have hm:(fn.results.mapM (ZkO tmps)).run P w=.ok vs.toArray w:=by
   rw[Array.mapM_eq_mapM_toList,Sem.run_map,h1];rfl
  have he:results fn tmps=(do let vs <-fn.results.mapM (ZkO tmps);pure (if h:vs.size=1 then vs[0]else .tuple vs)):=by
   unfold results
   congr 1
  rw[he,Sem.run_bind,hm]
  rfl
 split at h
 ·rename_i v hv
  injection h with h;subst h
  obtain⟨vs,h1,h2⟩:=run hv
  simp only[VRs]at h2
  grind
 ·rename_i vs' hv hne
  injection h with h;subst h
  obtain⟨vs,h1,h2⟩:=run hne
  have hl:=ZaP h2
  refine⟨.tuple vs.toArray,?_,by simp only[VR];grind⟩
  rw[h1,dif_neg]
  intro hs
  simp only[List.size_toArray]at hs
  match vs',hl with
  | [v],_=>exact hv v rfl
  | [],hl=>simp at hl;omega
  |_::_::_,hl=>simp at hl;omega
 ·cases h
theorem ZAF:∀ (args:List AVal) (i:Nat) (acc:Tms) (n:Nat),tget (enterA i args acc) n=if i<=n/\n<i+args.length then args.getD (n-i) .top else tget acc n
 | [],i,acc,n=>by simp only[enterA,Xw];grind
 |x::xs,i,acc,n=>by
  simp only[enterA,List.length_cons]
  rw[ZAF xs (i+1) _ n]
  by_cases h:i+1<=n/\n<i+1+xs.length
  ·grind
  ·rw[if_neg h]
   simp only[tget]
   grind
theorem Zq9{I:Imm}{V:Bmap}{args:List AVal}{vs:Array Value}(h:VRs I V args vs.toList)(n:Nat):TR I V (enterA 0 args []) (vs++WY n undef):=by
 intro j
 rw[ZAF]
 have hl:=ZaP h
 simp only[XU]at hl
 split
 ·rename_i hj
  have hjl:j<args.length:=by omega
  obtain⟨v,h1,h2⟩:=Zcm h (List.getElem?_eq_getElem hjl)
  have e1:args.getD (j-0) .top=args[j]:=by simp[Xh,hjl]
  have e2:(vs++WY n undef).getD j undef=v:=by
   rw[Wq,Array.getElem?_append_left (by omega)]
   have : vs[j]?=some v:=by simpa using h1
   rw[this];rfl
  grind
 ·simp only[tget,VR]
def ZlU(P:Program)(prim:ZcT):Prop:=∀ f g,prim f=some g->∀ args G r G',g args G=some (r,G') ->
 (∃ fn,P.funcs[f]?=some fn/\fn.body.isSome=true/\(fn.name == "runtime.NumGoroutine")=false) /\
 ∀ base w0 I0 I V w (vs:Array Value),KLt base w0->Rel base w0 I0 I V G w->VRs I V args vs.toList ->
  Calls P f vs w (fun e w'=>∃ u,Ends r e u/\Zca G.length base w0 I0 I V r G' u w')
theorem ZpG(hm:P.follows .mixedOrders=true){prim:ZcT}(hP:ZlU P prim)(ann:Nat->Ann)(bf:Nat->Bool):∀ n,ZaN P (Zat (ZkT P ann) prim bf n)
 |0=>by intro f args G r G' h;simp only[Zat]at h;cases h
 |n+1=>by
  have ih:=ZpG hm hP ann bf n
  intro f args G r G' h
  simp only[Zat]at h
  split at h
  ·rename_i g hg
   exact hP f g hg args G r G' h
  split at h
  ·cases h
  rename_i fn hfn
  unfold ZkT at hfn
  split at hfn
  ·rename_i F hF
   split at hfn
   ·rename_i body hbody
    split at hfn
    ·cases hfn
    ·rename_i hname
     split at hfn
     ·rename_i rs hrs
      injection hfn with hfn;subst hfn
      refine⟨⟨F,hF,by grind,by grind⟩,?_⟩
      intro base w0 I0 I V w vs hb R hargs
      refine calls_of_wp hF hbody ?_
      have T:=Zq9 hargs (F.ntmps-vs.size)
      have hst:StF Zci G.length F.ntmps base w0 I0 I V (enterA 0 args []) G { tmps:=vs++WY (F.ntmps-vs.size) undef,defers:=[] } w:=⟨I,V,Imm.le.refl I,KeptE.refl _ V,T,⟨Zgf.2 rfl,by simp;omega⟩,R⟩
      cases hx:Zam (Zat (ZkT P ann) prim bf n) bf G.length n (Za2 P { ann f with nt:=F.ntmps } body) (enterA 0 args []) G with
      |none=>rw[hx]at h;simp only[Zaw]at h;cases h
      |some q =>
       obtain⟨e,tm',G1⟩:=q
       rw[hx]at h
       have fin:(match resA tm' G1 rs with |some r=>ZR G.length G1 r |none=>none)=some (r,G')->∀ a' w',StF Zci G.length F.ntmps base w0 I0 I V tm' G1 a' w'->a'.defers=[]/\∃ v,(results F a'.tmps).run P w'=.ok v w'/\∃ u,Ends r (.returned v) u/\Zca G.length base w0 I0 I V r G' u w':=by
        intro hr a' w' ⟨I1,V1,g1,g2,g3,g4,g5⟩
        split at hr
        ·rename_i x hx1
         obtain⟨v,h1,h2⟩:=Zwf g3 g5 hrs hx1
         have hnp:∀ y,x≠.pan y:=by rintro y rfl;simp only[VR]at h2
         obtain⟨q1,q2⟩:=ZlC (⟨I1,V1,g1,g2,g5,by rw[ZgD hnp];exact h2⟩:Zca G.length base w0 I0 I V x G1 v w') hr
         refine⟨Zgf.1 g4.1,v,h1,v,q2 _ ?_,q1⟩
         cases x<;>first |rfl |grind
        ·cases hr
       refine Zj4 (dr:=Zci) (an:={ ann f with nt:=F.ntmps }) ih (fun n hn=>by simp[Zci]at hn) hm hb G.length n rfl hst hx ?_
       cases e with
       |normal=>simp only[Zaw]at h;exact fun a' w' hs=>fin h a' w' hs
       |ret=>simp only[Zaw]at h;exact fun a' w' hs=>fin h a' w' hs
       |exit id=>simp only[Zaw]at h;cases h
       |panic x =>
        simp only[Zaw]at h
        intro a' u w' hd hp
        obtain⟨q1,q2⟩:=ZlC hp h
        exact⟨Zgf.1 hd,u,q2 _ rfl,q1⟩
     grind
   grind
  grind
end
end
section
open Go.RowKit
def OLe(O O':ZS):Prop:=∀ f a G r,O f a G=some r->O' f a G=some r
section
variable {O O':ZS}{bf:Nat->Bool}
theorem ZQ7{view:Bool}{m:Nat}{x y:Option (AVal×Za)}(h:∀ r,x=some r->y=some r){r:AVal×Za}(hr:ZV view m x=some r):ZV view m y=some r:=by
 cases x with
 |none=>cases view<;>simp[ZV,ZbP]at hr
 |some q=>grind
theorem ZVp{G Gf:Za}{ids ts:List Nat}{sq own:Nat}{x y:Option (AVal×Za)}(h:∀ r,x=some r->y=some r){r:AVal×Za×Cls}(hr:Zaz G Gf ids ts sq own x=some r):Zaz G Gf ids ts sq own y=some r:=by
 cases x with
 |none=>simp only[Zaz]at hr;cases hr
 |some q=>grind
theorem Zwu{md:Nat}:ZbU md none=none:=by unfold ZbU ZgL ZjP;split<;>rfl
theorem ZDC{md:Nat}{x y:Option (AVal×Za)}(h:∀ r,x=some r->y=some r){r:AVal×Za}(hr:ZbU md x=some r):ZbU md y=some r:=by
 cases x with
 |none=>rw[Zwu]at hr;cases hr
 |some q=>grind
theorem ZtI(hO:OLe O O'){G:Za}{sq f own:Nat}{view:Bool}{args:List AVal}{r:AVal×Za×Cls}(h:Zq O bf G sq f own view args=some r):Zq O' bf G sq f own view args=some r:=by
 unfold Zq Zbl at h⊢
 split at h
 ·cases h
 ·rename_i vs ts us md hv
  split at h
  ·rename_i hc
   simp only[hc,if_true]
   exact ZVp (fun q hq=>ZQ7 (fun q hq=>ZDC (fun q hq=>hO _ _ _ _ hq) hq) hq) h
  ·cases h
theorem ZAX(hO:OLe O O'){tm:Tms}{G:Za}{sq:Nat}{ins:Ins}{r:AVal×Za×Cls}(h:execI O bf tm G sq ins=some r):execI O' bf tm G sq ins=some r:=by
 cases ins
 case call f own view args =>
  simp only[execI]at h⊢
  exact ZtI hO h
 case callv x args =>
  simp only[execI]at h⊢
  split at h
  ·exact ZtI hO h
  ·cases h
 all_goals exact h
theorem Zp4(hO:OLe O O'){o:AOp}{tm:Tms}{G:Za}{sq:Nat}{r:AVal×Tms×Za×Cls}(h:ZW O bf o sq tm G=some r):ZW O' bf o sq tm G=some r:=by
 unfold ZW at h⊢
 split at h
 ·cases h
 ·exact h
 ·split at h
  ·rename_i hf
   rw[if_pos hf]
   split at h
   ·rename_i he;rw[ZAX hO he];exact h
   ·cases h
  ·cases h
theorem Zs4(hO:OLe O O'):∀ {ops:List AOp} {s:Nat} {tm:Tms} {G:Za} {r:Tms×Za×List Cls×Option AVal},Zac O bf ops s tm G=some r->Zac O' bf ops s tm G=some r
 | [],_,_,_,_,h=>h
 |o::ops,s,tm,G,r,h=>by
  simp only[Zac]at h⊢
  split at h
  ·cases h
  ·rename_i h1
   rw[Zp4 hO h1]
   exact h
  ·rename_i v tm1 G1 c hnp h1
   rw[Zp4 hO h1]
   simp only
   split at h
   ·cases h
   rename_i h2
   rw[Zs4 hO h2]
   exact h
theorem ZAC(hO:OLe O O'){ops:List AOp}{chk:Option (List (Nat×Nat))}{live:List Nat}{tm:Tms}{G:Za}{r:Za7×Tms×Za}(h:Zcn O bf ops chk live tm G=some r):Zcn O' bf ops chk live tm G=some r:=by
 unfold Zcn at h⊢
 cases hx:Zac O bf ops G.length tm (G++XI (sitesOf ops) .free)with
 |none=>rw[hx]at h;simp only[ZdH]at h;cases h
 |some q=>rw[Zs4 hO hx];rw[hx]at h;exact h
theorem Zl3{m0:Nat}{live:List Nat}{f f':Tms->Za->Option (Za7×Tms×Za)}(hf:∀ tm G r,f tm G=some r->f' tm G=some r):∀ {n n':Nat} {tm:Tms} {G:Za} {r:Za7×Tms×Za},n<=n'->Zen m0 live f n tm G=some r->Zen m0 live f' n' tm G=some r
 |0,_,_,_,_,_,h=>by simp only[Zen]at h;cases h
 |n+1,0,_,_,_,hn,_=>by omega
 |n+1,n'+1,tm,G,r,hn,h=>by
  simp only[Zen]at h⊢
  split at h
  ·rename_i h1
   rw[hf _ _ _ h1]
   exact Zl3 hf (by omega) h
  grind
theorem Zeg(hO:OLe O O'){m0:Nat}:∀ {c:Zf} {n n':Nat} {tm:Tms} {G:Za} {r:Za7×Tms×Za},n<=n'->Zam O bf m0 n c tm G=some r->Zam O' bf m0 n' c tm G=some r:=by
 intro c
 induction c with
 |skip=>intro n n' tm G r _ h;exact h
 |exit id=>intro n n' tm G r _ h;exact h
 |ret=>intro n n' tm G r _ h;exact h
 |stuck=>intro n n' tm G r _ h;exact h
 |region ops chk live =>
  intro n n' tm G r _ h
  simp only[Zam]at h⊢
  exact ZAC hO h
 |seq a b iha ihb =>
  intro n n' tm G r hn h
  simp only[Zam]at h⊢
  grind
 |cond c a b iha ihb =>
  intro n n' tm G r hn h
  simp only[Zam]at h⊢
  grind
 |block id c ih =>
  intro n n' tm G r hn h
  simp only[Zam]at h⊢
  grind
 |loop live c ih =>
  intro n n' tm G r hn h
  simp only[Zam]at h⊢
  exact Zl3 (fun tm G r h=>ih hn h) hn h
theorem Zll{m0:Nat}{fn:ZM}{x y:Option (Za7×Tms×Za)}(h:∀ r,x=some r->y=some r){r:AVal×Za}(hr:Zaw m0 fn x=some r):Zaw m0 fn y=some r:=by
 cases x with
 |none=>simp only[Zaw]at hr;cases hr
 |some q=>grind
theorem Zyb(fs:Nat->Option ZM)(prim:ZcT):∀ n,OLe (Zat fs prim bf n) (Zat fs prim bf (n+1))
 |0=>by intro f a G r h;simp only[Zat]at h;cases h
 |n+1=>by
  intro f a G r h
  rw[Zat]at h⊢
  split at h
  ·grind
  ·rename_i hg
   split at h
   ·cases h
   ·rename_i fn hfn
    exact Zll (fun q hq=>Zeg (Zyb fs prim n) (by omega) hq) h
theorem ZjN (fs : Nat -> Option ZM) (prim : ZcT) {n m : Nat} (h : n <= m) : OLe (Zat fs prim bf n) (Zat fs prim bf m) := by
  induction m with
  | zero => obtain rfl : n = 0 := by omega
            exact fun _ _ _ _ h => h
  | succ m ih =>
    by_cases e : n = m + 1
    . subst e; exact fun _ _ _ _ h => h
    . exact fun f a G r hr => Zyb fs prim m f a G r (ih (by omega) f a G r hr)
end
section
variable (fs:Nat->Option ZM)(prim:ZcT)(bf:Nat->Bool)
open Classical in
noncomputable def EV:ZS:=fun f args G=>if h:∃ r,∃ n,Zat fs prim bf n f args G=some r then some h.choose else none
open Classical in
noncomputable def evC(m:Nat)(c:Zf)(tm:Tms)(G:Za):Option (Za7×Tms×Za):=if h:∃ r,∃ n,Zam (Zat fs prim bf n) bf m n c tm G=some r then some h.choose else none
variable {fs prim bf}{m0:Nat}
theorem Zdv{f:Nat}{args:List AVal}{G:Za}{r:AVal×Za}:EV fs prim bf f args G=some r↔∃ n,Zat fs prim bf n f args G=some r:=by
 unfold EV
 constructor
 ·intro h
  split at h
  ·grind
  ·cases h
 ·rintro⟨n,hn⟩
  have hx:∃ r,∃ n,Zat fs prim bf n f args G=some r:=⟨r,n,hn⟩
  rw[dif_pos hx]
  obtain⟨m,hm⟩:=hx.choose_spec
  have h1:=ZjN (bf:=bf) fs prim (WZ n m) _ _ _ _ hn
  have h2:=ZjN (bf:=bf) fs prim (WS n m) _ _ _ _ hm
  rw[h1]at h2
  injection h2 with h2
  rw[<-h2]
theorem Zbm{c:Zf}{tm:Tms}{G:Za}{r:Za7×Tms×Za}:evC fs prim bf m0 c tm G=some r↔∃ n,Zam (Zat fs prim bf n) bf m0 n c tm G=some r:=by
 unfold evC
 constructor
 ·intro h
  split at h
  ·grind
  ·cases h
 ·rintro⟨n,hn⟩
  have hx:∃ r,∃ n,Zam (Zat fs prim bf n) bf m0 n c tm G=some r:=⟨r,n,hn⟩
  rw[dif_pos hx]
  obtain⟨m,hm⟩:=hx.choose_spec
  have h1:=Zeg (ZjN (bf:=bf) fs prim (WZ n m)) (WZ n m) hn
  have h2:=Zeg (ZjN (bf:=bf) fs prim (WS n m)) (WS n m) hm
  rw[h1]at h2
  injection h2 with h2
  rw[<-h2]
theorem Zgs{D:Type}{x y:Option D}(h:∀ r,x=some r↔y=some r):x=y:=by
 cases x with
 |none =>
  cases y with
  |none=>rfl
  |some q=>exact absurd ((h q).2 rfl) (by simp)
 |some q=>grind
theorem ZGc(n:Nat):OLe (Zat fs prim bf n) (EV fs prim bf):=fun _ _ _ _ h=>Zdv.2 ⟨n,h⟩
theorem up{n m:Nat}(h:n<=m):OLe (Zat fs prim bf n) (Zat fs prim bf m):=ZjN fs prim h
theorem ZQP{f:Nat}{g:List AVal->Za->Option (AVal×Za)}(hp:prim f=some g)(args:List AVal)(G:Za):EV fs prim bf f args G=g args G:=by
 apply Zgs
 intro r
 rw[Zdv]
 constructor
 ·rintro⟨n,h⟩
  cases n with
  |zero=>simp only[Zat]at h;cases h
  |succ n=>rw[Zat,hp]at h;exact h
 ·intro h
  exact⟨1,by rw[Zat,hp];exact h⟩
theorem ZAz{f:Nat}{fn:ZM}(hp:prim f=none)(hf:fs f=some fn)(args:List AVal)(G:Za):EV fs prim bf f args G=Zaw G.length fn (evC fs prim bf G.length fn.body (enterA 0 args []) G):=by
 apply Zgs
 intro r
 rw[Zdv]
 constructor
 ·rintro⟨n,h⟩
  cases n with
  |zero=>simp only[Zat]at h;cases h
  |succ n =>
   rw[Zat,hp,hf]at h
   exact Zll (fun q hq=>Zbm.2 ⟨n,hq⟩) h
 ·intro h
  cases hx:evC fs prim bf G.length fn.body (enterA 0 args []) G with
  |none=>rw[hx]at h;simp only[Zaw]at h;cases h
  |some q =>
   obtain⟨n,hn⟩:=Zbm.1 hx
   refine⟨n+1,?_⟩
   rw[Zat,hp,hf]
   rw[hx]at h
   exact Zll (x:=some q) (fun q' hq'=>by injection hq' with hq';subst hq';exact hn) h
theorem ZyM{G:Za}{sq f own:Nat}{view:Bool}{args:List AVal}{r:AVal×Za×Cls}(h:Zq (EV fs prim bf) bf G sq f own view args=some r):∃ n,Zq (Zat fs prim bf n) bf G sq f own view args=some r:=by
 unfold Zq Zbl at h⊢
 split at h
 ·cases h
 ·rename_i vs ts us md hv
  split at h
  ·rename_i hc
   simp only[hc,if_true]
   cases hx:EV fs prim bf f (Zj (Zm (Zu G ts) 0 (Zt (Zu G ts) 1000 (Zl vs) [])) vs) (Zo (Zu G ts) 0 (Zt (Zu G ts) 1000 (Zl vs) []) (Zm (Zu G ts) 0 (Zt (Zu G ts) 1000 (Zl vs) [])) (Zt (Zu G ts) 1000 (Zl vs) []) 0)with
   |none =>
    rw[hx,Zwu]at h
    cases view<;>simp[ZV,ZbP,Zaz]at h
   |some q =>
    obtain⟨n,hn⟩:=Zdv.1 hx
    grind
  ·cases h
theorem ZSW{tm:Tms}{G:Za}{sq:Nat}{ins:Ins}{r:AVal×Za×Cls}(h:execI (EV fs prim bf) bf tm G sq ins=some r):∃ n,execI (Zat fs prim bf n) bf tm G sq ins=some r:=by
 cases ins
 case call f own view args =>
  simp only[execI]at h⊢
  exact ZyM h
 case callv x args =>
  simp only[execI]at h⊢
  split at h
  ·exact ZyM h
  ·cases h
 all_goals exact⟨0,h⟩
theorem ZuQ{o:AOp}{tm:Tms}{G:Za}{sq:Nat}{r:AVal×Tms×Za×Cls}(h:ZW (EV fs prim bf) bf o sq tm G=some r):∃ n,ZW (Zat fs prim bf n) bf o sq tm G=some r:=by
 unfold ZW at h⊢
 split at h
 ·cases h
 ·exact⟨0,h⟩
 ·split at h
  ·rename_i hf
   simp only[hf,if_true]
   split at h
   ·rename_i he
    obtain⟨n,hn⟩:=ZSW he
    grind
   ·cases h
  ·cases h
theorem Zvd:∀ {ops:List AOp} {s:Nat} {tm:Tms} {G:Za} {r:Tms×Za×List Cls×Option AVal},Zac (EV fs prim bf) bf ops s tm G=some r->∃ n,Zac (Zat fs prim bf n) bf ops s tm G=some r
 | [],_,_,_,_,h=>⟨0,h⟩
 |o::ops,s,tm,G,r,h=>by
  simp only[Zac]at h⊢
  split at h
  ·cases h
  ·rename_i h1
   obtain⟨n,hn⟩:=ZuQ h1
   grind
  rename_i v tm1 G1 c hnp h1
  split at h
  ·cases h
  rename_i h2
  obtain⟨n,hn⟩:=ZuQ h1
  obtain⟨m,hm⟩:=Zvd h2
  refine⟨max n m,?_⟩
  rw[Zp4 (up (WZ n m)) hn]
  simp only
  rw[Zs4 (up (WS n m)) hm]
  exact h
theorem ZET{ops:List AOp}{chk:Option (List (Nat×Nat))}{live:List Nat}{tm:Tms}{G:Za}{r:Za7×Tms×Za}(h:Zcn (EV fs prim bf) bf ops chk live tm G=some r):∃ n,Zcn (Zat fs prim bf n) bf ops chk live tm G=some r:=by
 unfold Zcn at h⊢
 cases hx:Zac (EV fs prim bf) bf ops G.length tm (G++XI (sitesOf ops) .free)with
 |none=>rw[hx]at h;simp only[ZdH]at h;cases h
 |some q =>
  obtain⟨n,hn⟩:=Zvd hx
  grind
theorem ZHW(tm:Tms)(G:Za):evC fs prim bf m0 .skip tm G=some (.normal,tm,G):=Zbm.2 ⟨0,rfl⟩
theorem ZFe(id:Nat)(tm:Tms)(G:Za):evC fs prim bf m0 (.exit id) tm G=some (.exit id,tm,G):=Zbm.2 ⟨0,rfl⟩
theorem ZEA(tm:Tms)(G:Za):evC fs prim bf m0 .ret tm G=some (.ret,tm,G):=Zbm.2 ⟨0,rfl⟩
theorem ZRK{ops:List AOp}{chk:Option (List (Nat×Nat))}{live:List Nat}{tm:Tms}{G:Za}:evC fs prim bf m0 (.region ops chk live) tm G=Zcn (EV fs prim bf) bf ops chk live tm G:=by
 apply Zgs
 intro r
 rw[Zbm]
 constructor
 ·rintro⟨n,hn⟩
  simp only[Zam]at hn
  exact ZAC (ZGc n) hn
 ·intro h
  obtain⟨n,hn⟩:=ZET h
  exact⟨n,by simp only[Zam];exact hn⟩
theorem Zb2{a b:Zf}{tm tm':Tms}{G G':Za}(h:evC fs prim bf m0 a tm G=some (.normal,tm',G')):evC fs prim bf m0 (.seq a b) tm G=evC fs prim bf m0 b tm' G':=by
 obtain⟨n,hn⟩:=Zbm.1 h
 apply Zgs
 intro r
 rw[Zbm,Zbm]
 constructor
 ·rintro⟨m,hm⟩
  have h1:=Zeg (up (WZ n m)) (WZ n m) hn
  have h2:=Zeg (up (WS n m)) (WS n m) hm
  simp only[Zam,h1]at h2
  grind
 ·rintro⟨m,hm⟩
  have h1:=Zeg (up (WZ n m)) (WZ n m) hn
  have h2:=Zeg (up (WS n m)) (WS n m) hm
  exact⟨max n m,by simp only[Zam,h1];exact h2⟩
theorem Zfi{a b:Zf}{tm tm':Tms}{G G':Za}{e:Za7}(he:e≠.normal)(h:evC fs prim bf m0 a tm G=some (e,tm',G')):evC fs prim bf m0 (.seq a b) tm G=some (e,tm',G'):=by
 obtain⟨n,hn⟩:=Zbm.1 h
 refine Zbm.2 ⟨n,?_⟩
 simp only[Zam,hn]
 grind
def Zbp(id:Nat):Za7×Tms×Za->Za7×Tms×Za
 |(.exit i,tm,G)=>if i=id then(.normal,tm,G)else(.exit i,tm,G)
 |r=>r
theorem ZEy{id:Nat}{c:Zf}{tm:Tms}{G:Za}:evC fs prim bf m0 (.block id c) tm G=(evC fs prim bf m0 c tm G).map (Zbp id):=by
 have step:∀ n,Zam (Zat fs prim bf n) bf m0 n (.block id c) tm G=(Zam (Zat fs prim bf n) bf m0 n c tm G).map (Zbp id):=by
  intro n
  simp only[Zam]
  cases Zam (Zat fs prim bf n) bf m0 n c tm G with
  |none=>rfl
  |some q =>
   obtain⟨e,tm1,G1⟩:=q
   cases e with
   |normal=>rfl
   |ret=>rfl
   |panic x=>rfl
   |exit i=>simp only[X9,Zbp];grind
 apply Zgs;intro r
 rw[Zbm]
 simp only[step,Xo]
 constructor
 ·rintro⟨n,q,h1,h2⟩;exact⟨q,Zbm.2 ⟨n,h1⟩,h2⟩
 ·rintro⟨q,h1,h2⟩;obtain⟨n,hn⟩:=Zbm.1 h1;grind
theorem ZGf{c:Zf}{tm:Tms}{G:Za}(h:evC fs prim bf m0 c tm G=none)(n:Nat):Zam (Zat fs prim bf n) bf m0 n c tm G=none:=by
 cases hx:Zam (Zat fs prim bf n) bf m0 n c tm G with
 |none=>rfl
 |some r=>rw[Zbm.2 ⟨n,hx⟩]at h;cases h
variable (fs prim bf m0)in
noncomputable def Zb0(b:Zf):Option (Za7×Tms×Za)->Option (Za7×Tms×Za)
 |some (.normal,tm,G)=>evC fs prim bf m0 b tm G
 |r=>r
theorem Zvp{a b:Zf}{tm:Tms}{G:Za}:evC fs prim bf m0 (.seq a b) tm G=Zb0 fs prim bf m0 b (evC fs prim bf m0 a tm G):=by
 cases h:evC fs prim bf m0 a tm G with
 |none =>
  simp only[Zb0]
  apply Zgs;intro r
  rw[Zbm]
  constructor
  ·rintro⟨n,hn⟩
   simp only[Zam,ZGf h n]at hn
   cases hn
  grind
 |some q =>
  obtain⟨e,tm',G'⟩:=q
  cases e with
  |normal=>exact Zb2 h
  |exit id=>exact Zfi (by simp) h
  |ret=>exact Zfi (by simp) h
  |panic x=>exact Zfi (by simp) h
variable (fs prim bf m0)in
noncomputable def ZkK(a b:Zf)(tm:Tms)(G:Za):AVal->Option (Za7×Tms×Za)
 | .bool true=>evC fs prim bf m0 a tm G
 | .bool false=>evC fs prim bf m0 b tm G
 |_=>none
theorem ZMo{c:Opd}{a b:Zf}{tm:Tms}{G:Za}:evC fs prim bf m0 (.cond c a b) tm G=ZkK fs prim bf m0 a b tm G (c.ev tm):=by
 apply Zgs;intro r
 rw[Zbm]
 simp only[Zam]
 constructor
 ·rintro⟨n,hn⟩
  split at hn
  ·rename_i e;rw[e];simp only[ZkK];exact Zbm.2 ⟨n,hn⟩
  ·rename_i e;rw[e];simp only[ZkK];exact Zbm.2 ⟨n,hn⟩
  ·cases hn
 ·intro h
  unfold ZkK at h
  split at h
  ·rename_i e;obtain⟨n,hn⟩:=Zbm.1 h;exact⟨n,by grind⟩
  ·rename_i e;obtain⟨n,hn⟩:=Zbm.1 h;exact⟨n,by grind⟩
  ·cases h
variable (fs prim bf m0)in
noncomputable def evL(live:List Nat)(c:Zf)(tm:Tms)(G:Za):Option (Za7×Tms×Za) :=
 match evC fs prim bf m0 c tm G with
 |some (.normal,tm',G')=>evC fs prim bf m0 (.loop live c) tm' G'
 |r=>r
theorem ZwK{live:List Nat}{c:Zf}{tm:Tms}{G:Za}:evC fs prim bf m0 (.loop live c) tm G=evL fs prim bf m0 live c (gcT m0 (keepL live tm) G).1 (gcT m0 (keepL live tm) G).2:=by
 apply Zgs;intro r
 rw[Zbm]
 constructor
 ·rintro⟨n,hn⟩
  simp only[Zam]at hn
  cases n with
  |zero=>simp only[Zen]at hn;cases hn
  |succ k =>
   simp only[Zen]at hn
   unfold evL
   cases hx:Zam (Zat fs prim bf (k+1)) bf m0 (k+1) c (gcT m0 (keepL live tm) G).1 (gcT m0 (keepL live tm) G).2 with
   |none=>grind
   |some q =>
    rw[Zbm.2 ⟨_,hx⟩]
    rw[hx]at hn
    obtain⟨e,tm',G'⟩:=q
    cases e with
    |normal =>
     simp only at hn ⊢
     exact Zbm.2 ⟨k+1,by simp only[Zam];exact Zl3 (fun _ _ _ h=>h) (by omega) hn⟩
    |exit id=>exact hn
    |ret=>exact hn
    |panic x=>exact hn
 ·intro h
  unfold evL at h
  cases hx:evC fs prim bf m0 c (gcT m0 (keepL live tm) G).1 (gcT m0 (keepL live tm) G).2 with
  |none=>grind
  |some q =>
   rw[hx]at h
   obtain⟨n,hn⟩:=Zbm.1 hx
   obtain⟨e,tm',G'⟩:=q
   have out:e≠.normal->some (e,tm',G')=some r->∃ n,Zam (Zat fs prim bf n) bf m0 n (.loop live c) tm G=some r:=by
    intro he h
    refine⟨n+1,?_⟩
    have h1:=Zeg (up (show n<=n+1 by omega)) (show n<=n+1 by omega) hn
    simp only[Zam,Zen,h1]
    cases e with
    |normal=>grind
    |exit id=>exact h
    |ret=>exact h
    |panic x=>exact h
   cases e with
   |normal =>
    simp only at h
    obtain⟨m,hm⟩:=Zbm.1 h
    have h1:=Zeg (up (show n<=max n m+1 by omega)) (show n<=max n m+1 by omega) hn
    have h2:=Zeg (up (show m<=max n m+1 by omega)) (XH m) hm
    simp only[Zam]at h2
    refine⟨max n m+1,?_⟩
    simp only[Zam,Zen,h1]
    exact Zl3 (fun tm G r h=>Zeg (fun _ _ _ _ h=>h) (by omega) h) (by omega) h2
   |exit id=>grind
   |ret=>grind
   |panic x=>grind
theorem ZBg{P:Program}(hm:P.follows .mixedOrders=true){prim:ZcT}(hP:ZlU P prim)(ann:Nat->Ann)(bf:Nat->Bool):ZaN P (EV (ZkT P ann) prim bf):=by
 intro f args G r G' h
 obtain⟨n,hn⟩:=Zdv.1 h
 exact ZpG hm hP ann bf n f args G r G' hn
end
end
section
open Go.RowKit
def Zzl:Tms×Za×List Cls×Option AVal->Tms×Za×Option AVal:=fun q=>(q.1,q.2.1,q.2.2.2)
def ZaX:AVal->Bool
 | .pan _=>true
 |_=>false
section
variable (O:ZS)(bf:Nat->Bool)
def exI(i:Ins)(s:Nat)(tm:Tms)(G:Za):Option (AVal×Za×Cls) :=
 if nsite i==0 ||freeAt G s then execI O bf tm G s i else none
def ZbE(ops:List AOp)(s:Nat)(tm:Tms)(G:Za):Option (Tms×Za×Option AVal):=(Zac O bf ops s tm G).map Zzl
def kN(d:Option Nat)(os:List AOp)(s:Nat)(tm:Tms):Option (AVal×Za×Cls)->Option (Tms×Za×Option AVal)
 |none=>none
 |some (v,G,_)=>if ZaX v then some (tput tm d v,G,some (ZaY v))else ZbE O bf os s (tput tm d v) G
def ZnO(live:List Nat):Option (Tms×Za×Option AVal)->Option (Za7×Tms×Za)
 |none=>none
 |some (_,G,some x)=>some (.panic x,[],G)
 |some (tm,G,none)=>some (.normal,keepL live tm,G)
variable {O bf}
theorem ZzT(s:Nat)(tm:Tms)(G:Za):ZbE O bf [] s tm G=some (tm,G,none):=rfl
theorem Zln{o:AOp}{os:List AOp}{s:Nat}{tm:Tms}{G:Za}(h:ZW O bf o s tm G=none):Zac O bf (o::os) s tm G=none:=by simp only[Zac,h]
theorem Zn2{o:AOp}{os:List AOp}{s:Nat}{tm tm1:Tms}{G G1:Za}{x:AVal}{c:Cls}(h:ZW O bf o s tm G=some (.pan x,tm1,G1,c)):Zac O bf (o::os) s tm G=some (tm1,G1,[c],some x):=by simp only[Zac,h]
theorem Zzc{o:AOp}{os:List AOp}{s:Nat}{tm tm1:Tms}{G G1:Za}{v:AVal}{c:Cls}(h:ZW O bf o s tm G=some (v,tm1,G1,c))(hn:ZaX v=false):Zac O bf (o::os) s tm G=(Zac O bf os (s+nsite o.ins) tm1 G1).map fun q=>(q.1,q.2.1,c::q.2.2.1,q.2.2.2):=by
 simp only[Zac,h]
 cases v<;>first
  |(simp[ZaX]at hn;done)
  |(simp only;cases Zac O bf os (s+nsite o.ins) tm1 G1<;>rfl)
theorem Zox{o:AOp}{os:List AOp}{s:Nat}{tm:Tms}{G:Za}(h:ZW O bf o s tm G=none):ZbE O bf (o::os) s tm G=none:=by simp only[ZbE,Zln h,Option.map_none]
theorem Zug{o:AOp}{os:List AOp}{s:Nat}{tm tm1:Tms}{G G1:Za}{x:AVal}{c:Cls}(h:ZW O bf o s tm G=some (.pan x,tm1,G1,c)):ZbE O bf (o::os) s tm G=some (tm1,G1,some x):=by simp only[ZbE,Zn2 h,X9,Zzl]
theorem Znz{o:AOp}{os:List AOp}{s:Nat}{tm tm1:Tms}{G G1:Za}{v:AVal}{c:Cls}(h:ZW O bf o s tm G=some (v,tm1,G1,c))(hn:ZaX v=false):ZbE O bf (o::os) s tm G=ZbE O bf os (s+nsite o.ins) tm1 G1:=by
 simp only[ZbE,Zzc h hn,Option.map_map]
 rfl
theorem ZlJ{v:AVal}(h:ZaX v=true):∃ x,v=.pan x:=by
 cases v<;>first |exact⟨_,rfl⟩ |(simp[ZaX]at h;done)
theorem ZnR{d:Option Nat}{i:Ins}{af:List Nat}{s:Nat}{tm:Tms}{G:Za}:ZW O bf ⟨d,i,none,af⟩ s tm G=(exI O bf i s tm G).map fun q=>(q.1,tput tm d q.1,q.2.1,q.2.2):=by
 unfold ZW exI
 simp only[ZbL]
 grind
theorem Ztq(d:Option Nat)(i:Ins)(af:List Nat)(os:List AOp)(s:Nat)(tm:Tms)(G:Za):ZbE O bf (⟨d,i,none,af⟩::os) s tm G=kN O bf d os (s+nsite i) tm (exI O bf i s tm G):=by
 cases h:exI O bf i s tm G with
 |none=>exact Zox (by rw[ZnR,h];rfl)
 |some q =>
  obtain⟨v,G1,c⟩:=q
  have hs:ZW O bf ⟨d,i,none,af⟩ s tm G=some (v,tput tm d v,G1,c):=by rw[ZnR,h];rfl
  cases hp:ZaX v with
  |true =>
   obtain⟨x,rfl⟩:=ZlJ hp
   exact Zug hs
  |false =>
   rw[Znz hs hp]
   simp only[kN,hp,Xi,if_false]
theorem ZIz(ops:List AOp)(live:List Nat)(tm:Tms)(G:Za):Zcn O bf ops none live tm G=ZnO live (ZbE O bf ops G.length tm (G++XI (sitesOf ops) .free)):=by
 unfold Zcn ZbE
 cases Zac O bf ops G.length tm (G++XI (sitesOf ops) .free)with
 |none=>rfl
 |some q =>
  obtain⟨tm',G',cs,p⟩:=q
  cases p<;>rfl
theorem ZrY(d:Option Nat)(os:List AOp)(s:Nat)(tm:Tms)(v:AVal)(G:Za)(c:Cls)(h:ZaX v=false):kN O bf d os s tm (some (v,G,c))=ZbE O bf os s (tput tm d v) G:=by
 simp only[kN,h,Xi,if_false]
theorem ZIv(d:Option Nat)(os:List AOp)(s:Nat)(tm:Tms)(x:AVal)(G:Za)(c:Cls):kN O bf d os s tm (some (.pan x,G,c))=some (tput tm d (.pan x),G,some x):=rfl
theorem ZJo(d:Option Nat)(os:List AOp)(s:Nat)(tm:Tms):kN O bf d os s tm none=none:=rfl
structure GOp where
 guard:Option (Nat×Bool)
 ops:List AOp
def Z6:List AOp->Tms->Tms
 | [],tm=>tm
 |o::os,tm=>Z6 os (tput tm o.dst (.tup []))
def unG(o:AOp):AOp:={ o with guard:=none }
variable (O bf)in
def ZfU(j:Nat)(w:Bool)(g:List AOp)(s:Nat)(tm:Tms)(G:Za):Option (Tms×Za×Option AVal):=match ZbL (some (j,w)) tm with
 |none=>none
 |some false=>some (Z6 g tm,G,none)
 |some true=>ZbE O bf (g.map unG) s tm G
variable (O bf)in
def gK(os:List AOp)(s:Nat):Option (Tms×Za×Option AVal)->Option (Tms×Za×Option AVal)
 |none=>none
 |some (tm,G,some x)=>some (tm,G,some x)
 |some (tm,G,none)=>ZbE O bf os s tm G
def Zy(j:Nat)(w:Bool):List AOp->List AOp×List AOp
 | []=>([],[])
 |o::os=>match o.guard with
  |some (j',w')=>if j'=j/\w'=w/\o.dst≠some j then((o::(Zy j w os).1),(Zy j w os).2)else([],o::os)
  |none=>([],o::os)
theorem ZsQ(j:Nat)(w:Bool):∀ os,(Zy j w os).1++(Zy j w os).2=os
 | []=>rfl
 |o::os=>by
  simp only[Zy]
  split
  ·split
   ·simp[ZsQ j w os]
   ·rfl
  ·rfl
theorem ZsU(j:Nat)(w:Bool):∀ os,∀ o∈(Zy j w os).1,o.guard=some (j,w)/\o.dst≠some j
 | []=>by simp[Zy]
 |o::os=>by
  intro o' ho
  simp only[Zy]at ho
  split at ho
  ·rename_i j' w' hg
   split at ho
   ·rename_i hc
    rcases X0.1 ho with rfl |ho
    ·grind
    ·exact ZsU j w os o' ho
   grind
  grind
theorem ZIE{d:Option Nat}{v:AVal}{n:Nat}{tm:Tms}(h:d≠some n):tget (tput tm d v) n=tget tm n:=by
 cases d with
 |none=>rfl
 |some d =>
  have : d≠n:=by rintro rfl;exact h rfl
  simp only[tput,ZnE,this,if_false]
theorem Zhw{d:Option Nat}{v:AVal}{j:Nat}{w:Bool}{tm:Tms}(h:d≠some j):ZbL (some (j,w)) (tput tm d v)=ZbL (some (j,w)) tm:=by
 simp only[ZbL,ZIE h]
theorem Zyu:∀ (a b:List AOp) (s:Nat) (tm:Tms) (G:Za),ZbE O bf (a++b) s tm G=gK O bf b (s+sitesOf a) (ZbE O bf a s tm G)
 | [],b,s,tm,G=>by simp[ZzT,gK,sitesOf]
 |o::a,b,s,tm,G=>by
  have ih:=Zyu a b
  simp only[XJ]
  have hs:s+nsite o.ins+sitesOf a=s+sitesOf (o::a):=by simp[sitesOf,XaQ]
  cases hst:ZW O bf o s tm G with
  |none=>rw[Zox hst,Zox hst];rfl
  |some q =>
   obtain⟨v,tm1,G1,c⟩:=q
   cases hp:ZaX v with
   |true =>
    obtain⟨x,rfl⟩:=ZlJ hp
    rw[Zug hst,Zug hst];rfl
   |false=>rw[Znz hst hp,Znz hst hp,ih,hs]
theorem Zx8(j:Nat)(w:Bool):∀ (g:List AOp),(∀ o∈g,o.guard=some (j,w)/\o.dst≠some j)->∀ (s:Nat) (tm:Tms) (G:Za),g≠[]->ZbE O bf g s tm G=ZfU O bf j w g s tm G
 | [],_,_,_,_,h=>absurd rfl h
 |o::g,hall,s,tm,G,_=>by
  obtain⟨hg,hd⟩:=hall o (by simp)
  have ih:∀ (tm:Tms) (G:Za) (s:Nat),ZbL (some (j,w)) tm≠none->ZbE O bf g s tm G=ZfU O bf j w g s tm G:=by
   intro tm G s hw
   by_cases he:g=[]
   ·subst he
    unfold ZfU
    cases hx:ZbL (some (j,w)) tm with
    |none=>grind
    |some b=>cases b<;>rfl
   ·exact Zx8 j w g (fun o ho=>hall o (by simp[ho])) s tm G he
  cases hx:ZbL (some (j,w)) tm with
  |none =>
   rw[Zox (by simp only[ZW,hg,hx])]
   simp only[ZfU,hx]
  |some b =>
   cases b with
   |false =>
    have h1:ZbE O bf (o::g) s tm G=ZbE O bf g (s+nsite o.ins) (tput tm o.dst (.tup [])) G :=
     Znz (v:=.tup []) (c:={}) (by simp only[ZW,hg,hx]) rfl
    rw[h1,ih _ _ _ (by rw[Zhw hd,hx];simp)]
    unfold ZfU
    rw[Zhw hd,hx]
    rfl
   |true =>
    have key:∀ r:Option (AVal×Za×Cls),(∀ v G' c,r=some (v,G',c)->ZaX v=false->ZbE O bf g (s+nsite o.ins) (tput tm o.dst v) G'=ZbE O bf (g.map unG) (s+nsite o.ins) (tput tm o.dst v) G')->kN O bf o.dst g (s+nsite o.ins) tm r=kN O bf o.dst (g.map unG) (s+nsite o.ins) tm r:=by
     intro r hr
     cases r with
     |none=>rfl
     |some q =>
      obtain⟨v,G',c⟩:=q
      cases hp:ZaX v with
      |true=>simp only[kN,hp,if_true]
      |false=>rw[ZrY _ _ _ _ _ _ _ hp,ZrY _ _ _ _ _ _ _ hp];exact hr v G' c rfl hp
    have h1:ZbE O bf (o::g) s tm G=kN O bf o.dst g (s+nsite o.ins) tm (exI O bf o.ins s tm G):=by
     have h0:ZbE O bf (o::g) s tm G=ZbE O bf (⟨o.dst,o.ins,none,o.after⟩::g) s tm G:=by
      have hst:ZW O bf o s tm G=ZW O bf ⟨o.dst,o.ins,none,o.after⟩ s tm G:=by
       unfold ZW
       simp only[hg,hx]
       rfl
      unfold ZbE
      simp only[Zac,hst]
     rw[h0,Ztq]
    rw[h1]
    unfold ZfU
    rw[hx]
    simp only[Xu]
    rw[show unG o=⟨o.dst,o.ins,none,o.after⟩from rfl,Ztq]
    refine key _ fun v G' c _ _=>?_
    rw[ih _ _ _ (by rw[Zhw hd,hx];simp)]
    unfold ZfU
    rw[Zhw hd,hx]
theorem ZMM(d:Option Nat)(i:Ins)(j:Nat)(w:Bool)(af:List Nat)(os:List AOp)(s:Nat)(tm:Tms)(G:Za)(hd:decide (d=some j)=false) :
  ZbE O bf (⟨d,i,some (j,w),af⟩::os) s tm G=gK O bf (Zy j w os).2 (s+sitesOf (⟨d,i,some (j,w),af⟩::(Zy j w os).1)) (ZfU O bf j w (⟨d,i,some (j,w),af⟩::(Zy j w os).1) s tm G):=by
 have h:=ZsQ j w os
 have hall:∀ o∈(⟨d,i,some (j,w),af⟩::(Zy j w os).1:List AOp),o.guard=some (j,w)/\o.dst≠some j:=by
  intro o ho
  rcases X0.1 ho with rfl |ho
  ·grind
  ·exact ZsU j w os o ho
 rw[<-Zx8 j w _ hall s tm G (by simp),<-Zyu,XJ,h]
variable (O bf)in
def gW(w:Bool)(g:List AOp)(s:Nat)(tm:Tms)(G:Za):AVal->Option (Tms×Za×Option AVal)
 | .bool b=>if b=w then ZbE O bf (g.map unG) s tm G else some (Z6 g tm,G,none)
 | .tup []=>some (Z6 g tm,G,none)
 |_=>none
theorem ZRv(j:Nat)(w:Bool)(g:List AOp)(s:Nat)(tm:Tms)(G:Za):ZfU O bf j w g s tm G=gW O bf w g s tm G (tget tm j):=by
 unfold ZfU ZbL
 simp only
 generalize tget tm j=v
 cases v
 case bool b=>cases b<;>cases w<;>rfl
 case tup vs=>cases vs<;>rfl
 all_goals rfl
theorem ZTD(w:Bool)(g:List AOp)(s:Nat)(tm:Tms)(G:Za)(b:Bool):gW O bf w g s tm G (.bool b)=if b=w then ZbE O bf (g.map unG) s tm G else some (Z6 g tm,G,none):=rfl
theorem ZQ4(w:Bool)(g:List AOp)(s:Nat)(tm:Tms)(G:Za):gW O bf w g s tm G (.tup [])=some (Z6 g tm,G,none):=rfl
theorem ZKh(os:List AOp)(s:Nat)(tm:Tms)(G:Za):gK O bf os s (some (tm,G,none))=ZbE O bf os s tm G:=rfl
end
section
variable (c:Prop)[Decidable c]
theorem Zc9{D:Type}(a b:D)(x y:List D):(if c then a::x else b::y)=(if c then a else b)::(if c then x else y):=by split<;>rfl
theorem ZOW(k:IntKind)(a b:Int):(if c then AVal.int k a else AVal.int k b)=AVal.int k (if c then a else b):=by split<;>rfl
theorem ZJ5(a b:Bool):(if c then AVal.bool a else AVal.bool b)=AVal.bool (if c then a else b):=by split<;>rfl
theorem ZGR(a b:List UInt8):(if c then AVal.str a else AVal.str b)=AVal.str (if c then a else b):=by split<;>rfl
theorem ZLL(p q:Bool)(a b:List AVal):(if c then AVal.lst p a else AVal.lst q b)=AVal.lst (if c then p else q) (if c then a else b):=by split<;>rfl
theorem ZCP(a b:List AVal):(if c then AVal.agg a else AVal.agg b)=AVal.agg (if c then a else b):=by split<;>rfl
theorem ZUp(a b:List AVal):(if c then ZO.var a else ZO.var b)=ZO.var (if c then a else b):=by split<;>rfl
theorem ZL3(g k:Nat)(a b:List AVal):(if c then ZO.row g k a else ZO.row g k b)=ZO.row g k (if c then a else b):=by split<;>rfl
theorem ZNY(t:Nat)(a b:Nat):(if c then AVal.ref t a else AVal.ref t b)=AVal.ref t (if c then a else b):=by split<;>rfl
theorem Zve{D:Type}(x y z:D):(if c then(if c then x else y)else z)=if c then x else z:=by split<;>rfl
theorem ZQx(G:Za)(a b:AVal)(p:Bool):Zhq G a b (.bool p)=some (if p=true then a else b,G,{}):=by cases p<;>rfl
theorem ZFf(a b:AVal):ZaX (if c then a else b)=if c then ZaX a else ZaX b:=by split<;>rfl
end
section
variable {fs:Nat->Option ZM}{prim:ZcT}{bf:Nat->Bool}{m0:Nat}
theorem ZEq(p:Bool)(a b:Zf)(tm:Tms)(G:Za):ZkK fs prim bf m0 a b tm G (.bool p)=if p=true then evC fs prim bf m0 a tm G else evC fs prim bf m0 b tm G:=by
 cases p<;>rfl
theorem ZyN(b:Zf)(tm:Tms)(G:Za):Zb0 fs prim bf m0 b (some (.normal,tm,G))=evC fs prim bf m0 b tm G:=rfl
theorem ZwO(b:Zf)(i:Nat)(tm:Tms)(G:Za):Zb0 fs prim bf m0 b (some (.exit i,tm,G))=some (.exit i,tm,G):=rfl
theorem Zxj(b:Zf)(tm:Tms)(G:Za):Zb0 fs prim bf m0 b (some (.ret,tm,G))=some (.ret,tm,G):=rfl
theorem ZAx(b:Zf)(x:AVal)(tm:Tms)(G:Za):Zb0 fs prim bf m0 b (some (.panic x,tm,G))=some (.panic x,tm,G):=rfl
theorem ZR7(c:Prop)[Decidable c](b:Zf)(x y:Option (Za7×Tms×Za)):Zb0 fs prim bf m0 b (if c then x else y)=if c then Zb0 fs prim bf m0 b x else Zb0 fs prim bf m0 b y:=by split<;>rfl
theorem ZQF(id:Nat)(tm:Tms)(G:Za):Wf (Zbp id) (some (.normal,tm,G))=some (.normal,tm,G):=rfl
theorem ZJi(id i:Nat)(tm:Tms)(G:Za):Wf (Zbp id) (some (.exit i,tm,G))=if i=id then some (.normal,tm,G)else some (.exit i,tm,G):=by
 simp only[X9,Zbp];split<;>rfl
theorem ZST(id:Nat)(tm:Tms)(G:Za):Wf (Zbp id) (some (.ret,tm,G))=some (.ret,tm,G):=rfl
theorem ZHD(id:Nat)(x:AVal)(tm:Tms)(G:Za):Wf (Zbp id) (some (.panic x,tm,G))=some (.panic x,tm,G):=rfl
theorem ZCu(id:Nat)(c:Prop)[Decidable c](x y:Option (Za7×Tms×Za)):Wf (Zbp id) (if c then x else y)=if c then Wf (Zbp id) x else Wf (Zbp id) y:=by split<;>rfl
theorem ZNV(m:Nat)(fn:ZM)(c:Prop)[Decidable c](x y:Option (Za7×Tms×Za)):Zaw m fn (if c then x else y)=if c then Zaw m fn x else Zaw m fn y:=by split<;>rfl
end
section
variable {fs:Nat->Option ZM}{prim:ZcT}{bf:Nat->Bool}{m0:Nat}
theorem Ziv{live:List Nat}{c:Zf}{tm tm':Tms}{G G':Za}(h:evC fs prim bf m0 c tm G=some (.normal,tm',G')):evL fs prim bf m0 live c tm G=evL fs prim bf m0 live c (gcT m0 (keepL live tm') G').1 (gcT m0 (keepL live tm') G').2:=by
 unfold evL
 rw[h]
 simp only
 rw[ZwK]
 rfl
theorem ZHe{live:List Nat}{c:Zf}{tm tm':Tms}{G G':Za}{i:Nat}(h:evC fs prim bf m0 c tm G=some (.exit i,tm',G')):evL fs prim bf m0 live c tm G=some (.exit i,tm',G'):=by
 unfold evL;rw[h]
theorem ZQI{live:List Nat}{c:Zf}{tm tm':Tms}{G G':Za}(h:evC fs prim bf m0 c tm G=some (.ret,tm',G')):evL fs prim bf m0 live c tm G=some (.ret,tm',G'):=by
 unfold evL;rw[h]
variable (fs prim bf m0)in
noncomputable def evM(live:List Nat)(c:Zf):Option (Za7×Tms×Za)->Option (Za7×Tms×Za)
 |some (.normal,tm,G)=>evL fs prim bf m0 live c (gcT m0 (keepL live tm) G).1 (gcT m0 (keepL live tm) G).2
 |r=>r
theorem Z9(live:List Nat)(c:Zf)(tm:Tms)(G:Za):evL fs prim bf m0 live c tm G=evM fs prim bf m0 live c (evC fs prim bf m0 c tm G):=by
 cases h:evC fs prim bf m0 c tm G with
 |none=>unfold evL;rw[h];rfl
 |some q =>
  obtain⟨e,tm',G'⟩:=q
  cases e with
  |normal=>exact Ziv h
  |exit i=>exact ZHe h
  |ret=>exact ZQI h
  |panic x=>unfold evL;rw[h];rfl
theorem ZDT(live:List Nat)(c:Zf)(tm:Tms)(G:Za):evM fs prim bf m0 live c (some (.normal,tm,G))=evL fs prim bf m0 live c (gcT m0 (keepL live tm) G).1 (gcT m0 (keepL live tm) G).2:=rfl
theorem ZT6(live:List Nat)(c:Zf)(i:Nat)(tm:Tms)(G:Za):evM fs prim bf m0 live c (some (.exit i,tm,G))=some (.exit i,tm,G):=rfl
theorem ZPj(live:List Nat)(c:Zf)(tm:Tms)(G:Za):evM fs prim bf m0 live c (some (.ret,tm,G))=some (.ret,tm,G):=rfl
theorem ZD0(live:List Nat)(c:Zf)(x:AVal)(tm:Tms)(G:Za):evM fs prim bf m0 live c (some (.panic x,tm,G))=some (.panic x,tm,G):=rfl
theorem ZBt(live:List Nat)(b:Zf)(c:Prop)[Decidable c](x y:Option (Za7×Tms×Za)):evM fs prim bf m0 live b (if c then x else y)=if c then evM fs prim bf m0 live b x else evM fs prim bf m0 live b y:=by split<;>rfl
end
def ZaU:AVal->Bool
 | .int _ _=>true
 | .bool _=>true
 | .str _=>true
 | .nilp=>true
 | .nilm=>true
 | .nili=>true
 | .lst _ _=>true
 | .fn _ []=>true
 |_=>false
def Zai:AVal->Bool
 | .agg cs=>cs.all ZaU
 |x=>ZaU x
def Zbv:AVal->AVal
 | .lst _ xs=>.lst false xs
 |x=>x
def Z1:AVal->AVal
 | .agg cs=>.agg (cs.map Zbv)
 |x=>Zbv x
theorem ZzS{G:Za}{x:AVal}(h:ZaU x=true):Zct G x=some (Zbv x,[]):=by
 cases x<;>first |(simp[ZaU]at h;done) |rfl
theorem ZuV{G:Za}:∀ {xs:List AVal},xs.all ZaU=true->ZcB G xs=some (xs.map Zbv,[])
 | [],_=>rfl
 |x::xs,h=>by
  simp only[XW,Xk]at h
  simp only[ZcB,ZzS h.1,ZuV h.2,Xu,Xr]
theorem ZiW{x:AVal}(h:∀ cs,x≠.agg cs):Zai x=ZaU x/\Z1 x=Zbv x:=by
 cases x<;>first |exact⟨rfl,rfl⟩ |grind
theorem ZSY{G:Za}{x:AVal}(h:∀ cs,x≠.agg cs):showA G x=Zct G x:=by
 cases x<;>first |rfl |grind
theorem ZuB(x:AVal):(∃ cs,x=.agg cs)\/∀ cs,x≠.agg cs:=by
 cases x<;>grind
theorem ZTy{G:Za}{x:AVal}(h:Zai x=true):showA G x=some (Z1 x,[]):=by
 rcases ZuB x with⟨cs,rfl⟩ |hn
 ·simp only[Zai]at h
  simp only[showA,ZuV h,Z1]
 ·rw[(ZiW hn).1]at h
  rw[ZSY hn,(ZiW hn).2]
  exact ZzS h
theorem Zea{G:Za}:∀ {xs:List AVal},xs.all Zai=true->showAs G xs=some (xs.map Z1,[])
 | [],_=>rfl
 |x::xs,h=>by
  simp only[XW,Xk]at h
  simp only[showAs,ZTy h.1,Zea h.2,Xu,Xr]
theorem ZAj{x:AVal}(h:ZaU x=true):ZG (Zbv x)=[]:=by
 cases x
 case fn f cs=>cases cs<;>simp[ZaU]at h;rfl
 all_goals first |(simp[ZaU]at h;done) |rfl
theorem ZxR:∀ {xs:List AVal},xs.all ZaU=true->Zl (xs.map Zbv)=[]
 | [],_=>rfl
 |x::xs,h=>by
  simp only[XW,Xk]at h
  simp only[Xu,Zl,ZAj h.1,ZxR h.2,Xr]
theorem ZzQ{x:AVal}(h:Zai x=true):ZG (Z1 x)=[]:=by
 rcases ZuB x with⟨cs,rfl⟩ |hn
 ·simp only[Zai]at h
  simp only[Z1,ZG];exact ZxR h
 ·rw[(ZiW hn).1]at h
  rw[(ZiW hn).2];exact ZAj h
theorem Zd4:∀ {xs:List AVal},xs.all Zai=true->Zl (xs.map Z1)=[]
 | [],_=>rfl
 |x::xs,h=>by
  simp only[XW,Xk]at h
  simp only[Xu,Zl,ZzQ h.1,Zd4 h.2,Xr]
theorem ZzP{C:Rho}{x:AVal}(h:ZaU x=true):Zp C (Zbv x)=Zbv x:=by
 cases x
 case fn f cs=>cases cs<;>simp[ZaU]at h;rfl
 all_goals first |(simp[ZaU]at h;done) |rfl
theorem ZzW{C:Rho}:∀ {xs:List AVal},xs.all ZaU=true->Zj C (xs.map Zbv)=xs.map Zbv
 | [],_=>rfl
 |x::xs,h=>by
  simp only[XW,Xk]at h
  simp only[Xu,Zj,ZzP h.1,ZzW h.2]
theorem ZAv{C:Rho}{x:AVal}(h:Zai x=true):Zp C (Z1 x)=Z1 x:=by
 rcases ZuB x with⟨cs,rfl⟩ |hn
 ·simp only[Zai]at h
  simp only[Z1,Zp];rw[ZzW h]
 ·rw[(ZiW hn).1]at h
  rw[(ZiW hn).2];exact ZzP h
theorem Zd8{C:Rho}:∀ {xs:List AVal},xs.all Zai=true->Zj C (xs.map Z1)=xs.map Z1
 | [],_=>rfl
 |x::xs,h=>by
  simp only[XW,Xk]at h
  simp only[Xu,Zj,ZAv h.1,Zd8 h.2]
theorem ZN6{x:AVal}(h:Zai x=true):Zcz (Z1 x)=false:=by
 have one:∀ {c:AVal},ZaU c=true->Zhl (Zbv c)=false:=fun{c} hc=>by cases c<;>first |rfl |(simp[ZaU]at hc)
 cases x with
 |agg cs =>
  simp only[Zai]at h
  simp only[Z1,Zcz]
  grind
 |_=>first |rfl |(simp[Zai,ZaU]at h)
theorem ZcJ{xs:List AVal}(h:xs.all Zai=true):(xs.map Z1).any Zcz=false:=by
 rw[Xar]
 intro c hc
 obtain⟨c0,h0,rfl⟩:=X7.1 hc
 rw[ZN6 (Xy.1 h c0 h0)]
 exact Xan
theorem ZMS{x:AVal}(h:Zai x=true):Zcz x=false:=by
 cases x with
 |agg cs =>
  simp only[Zai]at h
  simp only[Zcz]
  rw[Xar]
  intro c hc
  have:=Xy.1 h c hc
  cases c<;>first |exact Xan |(simp[ZaU]at this)
 |_=>first |rfl |(simp[Zai,ZaU]at h)
theorem Zef{xs:List AVal}(h:xs.all Zai=true):xs.any Zcz=false:=by
 rw[Xar]
 intro c hc
 rw[ZMS (Xy.1 h c hc)]
 exact Xan
theorem Zf0{bf:Nat->Bool}{f:Nat}{G:Za}{args vs:List AVal}{ts:List Nat}(hb:bf f=false)(h:showAs G args=some (vs,ts))(hl:vs.any Zcz=false):Zbb bf f G args=some (vs,ts,ts,0):=by
 simp only[Zbb,hb,Xi,if_false,h,hl]
theorem ZxT{bf:Nat->Bool}{f:Nat}{G:Za}{args:List AVal}(hb:bf f=true)(h2:bf (f+2000000)=false)(h3:bf (f+3000000)=false):Zbb bf f G args=some (args,[],[],0):=by
 simp only[Zbb,hb,h2,h3,Wi,Xi,if_false,if_true]
theorem Zdb(x:Option (AVal×Za)):ZbU 0 x=x:=rfl
theorem ZhH{O:ZS}{bf:Nat->Bool}{G:Za}{sq f own:Nat}{view:Bool}{args:List AVal}(hb:bf f=false)(h:args.all Zai=true) :
  Zq O bf G sq f own view args=Zaz G G [] [] sq own (ZV view 0 (O f (args.map Z1) [])):=by
 unfold Zq
 rw[Zf0 hb (Zea h) (ZcJ h)]
 simp only
 have h1:Zu G []=G:=rfl
 rw[h1,Zd4 h]
 have h2:Zt G 1000 [] []=[]:=rfl
 rw[h2]
 unfold Zbl
 simp only[XX,if_true,Zd8 h,Zo,Xw,Zdb]
theorem Zfz(G:Za)(sq own:Nat)(r:AVal)(h:Zp (Zak [] [] sq) r=r):Zaz G G [] [] sq own (some (r,[]))=some (r,G,{}):=by
 simp only[Zaz,X8,XT,if_true,Zde,Xa0,Wi,Xi,if_false]
 grind
end
section
section
variable (C:Rho)(G:Za)
theorem ZCd  : ZaX (.top)=false:=rfl
theorem ZQE  : ZaX (.any)=false:=rfl
theorem ZS7(k:IntKind)(n:Int):ZaX (.int k n)=false:=rfl
theorem ZSu(b:Bool):ZaX (.bool b)=false:=rfl
theorem ZLx(l:List UInt8):ZaX (.str l)=false:=rfl
theorem ZRD  : ZaX (.nilp)=false:=rfl
theorem ZU4(t:Nat)(o:Nat):ZaX (.ref t o)=false:=rfl
theorem ZRX(t:Nat)(g:Nat)(i:Nat)(o:Nat):ZaX (.eref t g i o)=false:=rfl
theorem ZSZ(cs:List AVal)(o:Nat):ZaX (.iptr cs o)=false:=rfl
theorem ZMI(x:Bool)(xs:List AVal):ZaX (.lst x xs)=false:=rfl
theorem ZJD(t:Nat)(g:Nat)(lo:Nat)(n:Nat):ZaX (.sl t g lo n)=false:=rfl
theorem ZMg(cs:List AVal):ZaX (.agg cs)=false:=rfl
theorem ZKu(vs:List AVal):ZaX (.tup vs)=false:=rfl
theorem ZCQ(f:Nat)(caps:List AVal):ZaX (.fn f caps)=false:=rfl
theorem ZQv  : ZaX (.nilm)=false:=rfl
theorem ZUS(t:Nat):ZaX (.map t)=false:=rfl
theorem ZJB  : ZaX (.nili)=false:=rfl
theorem ZR3(t:Nat)(x:AVal):ZaX (.iface t x)=false:=rfl
theorem ZDm(x:AVal):ZaX (.pan x)=true:=rfl
theorem ZId(l:List UInt8):ZaX (.lnt l)=false:=rfl
theorem ZRq  : ZY (.top)=false:=rfl
theorem ZUH  : ZY (.any)=true:=rfl
theorem ZLz(k:IntKind)(n:Int):ZY (.int k n)=true:=rfl
theorem ZPm(b:Bool):ZY (.bool b)=true:=rfl
theorem ZIO(l:List UInt8):ZY (.str l)=true:=rfl
theorem ZJV  : ZY (.nilp)=true:=rfl
theorem ZJx(t:Nat)(o:Nat):ZY (.ref t o)=true:=rfl
theorem ZKK(t:Nat)(g:Nat)(i:Nat)(o:Nat):ZY (.eref t g i o)=true:=rfl
theorem ZJp(cs:List AVal)(o:Nat):ZY (.iptr cs o)=true:=rfl
theorem ZIj(x:Bool)(xs:List AVal):ZY (.lst x xs)=true:=rfl
theorem ZPS(t:Nat)(g:Nat)(lo:Nat)(n:Nat):ZY (.sl t g lo n)=true:=rfl
theorem ZPk(cs:List AVal):ZY (.agg cs)=false:=rfl
theorem ZFc(vs:List AVal):ZY (.tup vs)=false:=rfl
theorem ZCV(f:Nat)(caps:List AVal):ZY (.fn f caps)=true:=rfl
theorem ZE7  : ZY (.nilm)=true:=rfl
theorem ZA0(t:Nat):ZY (.map t)=true:=rfl
theorem ZO3  : ZY (.nili)=true:=rfl
theorem ZBJ(t:Nat)(x:AVal):ZY (.iface t x)=true:=rfl
theorem ZDw(x:AVal):ZY (.pan x)=false:=rfl
theorem ZNh(l:List UInt8):ZY (.lnt l)=true:=rfl
theorem ZLl  : Zbz (.top)=false:=rfl
theorem ZFT  : Zbz (.any)=true:=rfl
theorem ZSJ(k:IntKind)(n:Int):Zbz (.int k n)=true:=rfl
theorem ZQk(b:Bool):Zbz (.bool b)=true:=rfl
theorem ZD1(l:List UInt8):Zbz (.str l)=true:=rfl
theorem ZQc  : Zbz (.nilp)=true:=rfl
theorem ZOd(t:Nat)(o:Nat):Zbz (.ref t o)=true:=rfl
theorem ZKR(t:Nat)(g:Nat)(i:Nat)(o:Nat):Zbz (.eref t g i o)=true:=rfl
theorem ZMm(cs:List AVal)(o:Nat):Zbz (.iptr cs o)=true:=rfl
theorem ZNC(x:Bool)(xs:List AVal):Zbz (.lst x xs)=true:=rfl
theorem ZI0(t:Nat)(g:Nat)(lo:Nat)(n:Nat):Zbz (.sl t g lo n)=true:=rfl
theorem ZR8(cs:List AVal):Zbz (.agg cs)=true:=rfl
theorem ZM7(vs:List AVal):Zbz (.tup vs)=true:=rfl
theorem ZFs(f:Nat)(caps:List AVal):Zbz (.fn f caps)=true:=rfl
theorem ZH4  : Zbz (.nilm)=true:=rfl
theorem ZMx(t:Nat):Zbz (.map t)=true:=rfl
theorem ZQR  : Zbz (.nili)=true:=rfl
theorem ZQQ(t:Nat)(x:AVal):Zbz (.iface t x)=true:=rfl
theorem ZKW(x:AVal):Zbz (.pan x)=true:=rfl
theorem ZCY(l:List UInt8):Zbz (.lnt l)=true:=rfl
theorem ZMr  : ZaK (.top)=false:=rfl
theorem ZSn  : ZaK (.any)=false:=rfl
theorem ZDK(k:IntKind)(n:Int):ZaK (.int k n)=true:=rfl
theorem ZKN(b:Bool):ZaK (.bool b)=true:=rfl
theorem ZTn(l:List UInt8):ZaK (.str l)=true:=rfl
theorem ZE6  : ZaK (.nilp)=true:=rfl
theorem ZB9(t:Nat)(o:Nat):ZaK (.ref t o)=false:=rfl
theorem ZUX(t:Nat)(g:Nat)(i:Nat)(o:Nat):ZaK (.eref t g i o)=false:=rfl
theorem ZD8(cs:List AVal)(o:Nat):ZaK (.iptr cs o)=false:=rfl
theorem ZPy(x:Bool)(xs:List AVal):ZaK (.lst x xs)=false:=rfl
theorem ZTW(t:Nat)(g:Nat)(lo:Nat)(n:Nat):ZaK (.sl t g lo n)=false:=rfl
theorem ZQl(cs:List AVal):ZaK (.agg cs)=false:=rfl
theorem ZQL(vs:List AVal):ZaK (.tup vs)=false:=rfl
theorem ZEI(f:Nat)(caps:List AVal):ZaK (.fn f caps)=false:=rfl
theorem ZOP  : ZaK (.nilm)=true:=rfl
theorem ZK3(t:Nat):ZaK (.map t)=false:=rfl
theorem ZM6  : ZaK (.nili)=true:=rfl
theorem ZIQ(t:Nat)(x:AVal):ZaK (.iface t x)=false:=rfl
theorem ZGv(x:AVal):ZaK (.pan x)=false:=rfl
theorem ZQA(l:List UInt8):ZaK (.lnt l)=false:=rfl
theorem ZKp  : Za5 (.top)=false:=rfl
theorem ZI7  : Za5 (.any)=false:=rfl
theorem ZAM(k:IntKind)(n:Int):Za5 (.int k n)=true:=rfl
theorem ZF7(b:Bool):Za5 (.bool b)=true:=rfl
theorem ZDs(l:List UInt8):Za5 (.str l)=true:=rfl
theorem ZHX  : Za5 (.nilp)=true:=rfl
theorem ZHP(t:Nat)(o:Nat):Za5 (.ref t o)=false:=rfl
theorem ZUk(t:Nat)(g:Nat)(i:Nat)(o:Nat):Za5 (.eref t g i o)=false:=rfl
theorem ZSc(cs:List AVal)(o:Nat):Za5 (.iptr cs o)=false:=rfl
theorem ZUh(x:Bool)(xs:List AVal):Za5 (.lst x xs)=false:=rfl
theorem ZIL(t:Nat)(g:Nat)(lo:Nat)(n:Nat):Za5 (.sl t g lo n)=false:=rfl
theorem ZIF(cs:List AVal):Za5 (.agg cs)=cs.all ZaK:=rfl
theorem ZFo(vs:List AVal):Za5 (.tup vs)=false:=rfl
theorem ZJy(f:Nat)(caps:List AVal):Za5 (.fn f caps)=false:=rfl
theorem ZG4  : Za5 (.nilm)=true:=rfl
theorem ZIW(t:Nat):Za5 (.map t)=false:=rfl
theorem ZL7  : Za5 (.nili)=true:=rfl
theorem ZQG(t:Nat)(x:AVal):Za5 (.iface t x)=false:=rfl
theorem ZOk(x:AVal):Za5 (.pan x)=false:=rfl
theorem ZPQ(l:List UInt8):Za5 (.lnt l)=false:=rfl
theorem ZCB  : ZbB (.top)=false:=rfl
theorem ZOr  : ZbB (.any)=false:=rfl
theorem ZM3(k:IntKind)(n:Int):ZbB (.int k n)=true:=rfl
theorem ZBC(b:Bool):ZbB (.bool b)=true:=rfl
theorem ZIP(l:List UInt8):ZbB (.str l)=true:=rfl
theorem ZEO  : ZbB (.nilp)=true:=rfl
theorem ZCc(t:Nat)(o:Nat):ZbB (.ref t o)=false:=rfl
theorem ZJe(t:Nat)(g:Nat)(i:Nat)(o:Nat):ZbB (.eref t g i o)=false:=rfl
theorem ZEv(cs:List AVal)(o:Nat):ZbB (.iptr cs o)=false:=rfl
theorem ZUZ(x:Bool)(xs:List AVal):ZbB (.lst x xs)=false:=rfl
theorem ZBH(t:Nat)(g:Nat)(lo:Nat)(n:Nat):ZbB (.sl t g lo n)=false:=rfl
theorem ZJA(cs:List AVal):ZbB (.agg cs)=cs.all ZaK:=rfl
theorem ZNR(vs:List AVal):ZbB (.tup vs)=vs.all Za5:=rfl
theorem ZHb(f:Nat)(caps:List AVal):ZbB (.fn f caps)=false:=rfl
theorem ZGh  : ZbB (.nilm)=true:=rfl
theorem ZH5(t:Nat):ZbB (.map t)=false:=rfl
theorem ZGe  : ZbB (.nili)=true:=rfl
theorem ZSg(t:Nat)(x:AVal):ZbB (.iface t x)=false:=rfl
theorem ZQT(l:List UInt8):ZbB (.lnt l)=false:=rfl
theorem ZSK  : ZaU (.top)=false:=rfl
theorem ZUQ  : ZaU (.any)=false:=rfl
theorem Zvk(k:IntKind)(n:Int):ZaU (.int k n)=true:=rfl
theorem ZKn(b:Bool):ZaU (.bool b)=true:=rfl
theorem ZzF(l:List UInt8):ZaU (.str l)=true:=rfl
theorem ZUN  : ZaU (.nilp)=true:=rfl
theorem ZU7(t:Nat)(o:Nat):ZaU (.ref t o)=false:=rfl
theorem ZEr(t:Nat)(g:Nat)(i:Nat)(o:Nat):ZaU (.eref t g i o)=false:=rfl
theorem ZC7(cs:List AVal)(o:Nat):ZaU (.iptr cs o)=false:=rfl
theorem Zxs(x:Bool)(xs:List AVal):ZaU (.lst x xs)=true:=rfl
theorem ZLu(t:Nat)(g:Nat)(lo:Nat)(n:Nat):ZaU (.sl t g lo n)=false:=rfl
theorem ZJY(cs:List AVal):ZaU (.agg cs)=false:=rfl
theorem ZBd(vs:List AVal):ZaU (.tup vs)=false:=rfl
theorem ZFj  : ZaU (.nilm)=true:=rfl
theorem ZQw(t:Nat):ZaU (.map t)=false:=rfl
theorem ZRY  : ZaU (.nili)=true:=rfl
theorem ZSj(t:Nat)(x:AVal):ZaU (.iface t x)=false:=rfl
theorem ZMT(x:AVal):ZaU (.pan x)=false:=rfl
theorem ZQ5(l:List UInt8):ZaU (.lnt l)=false:=rfl
theorem ZTP  : Zai (.top)=false:=rfl
theorem ZOM  : Zai (.any)=false:=rfl
theorem ZT8(k:IntKind)(n:Int):Zai (.int k n)=true:=rfl
theorem ZAT(b:Bool):Zai (.bool b)=true:=rfl
theorem ZLM(l:List UInt8):Zai (.str l)=true:=rfl
theorem ZTm  : Zai (.nilp)=true:=rfl
theorem ZDy(t:Nat)(o:Nat):Zai (.ref t o)=false:=rfl
theorem ZHy(t:Nat)(g:Nat)(i:Nat)(o:Nat):Zai (.eref t g i o)=false:=rfl
theorem ZC2(cs:List AVal)(o:Nat):Zai (.iptr cs o)=false:=rfl
theorem ZRT(x:Bool)(xs:List AVal):Zai (.lst x xs)=true:=rfl
theorem ZSA(t:Nat)(g:Nat)(lo:Nat)(n:Nat):Zai (.sl t g lo n)=false:=rfl
theorem ZwJ(cs:List AVal):Zai (.agg cs)=cs.all ZaU:=rfl
theorem ZQn(vs:List AVal):Zai (.tup vs)=false:=rfl
theorem ZLD  : Zai (.nilm)=true:=rfl
theorem ZTh(t:Nat):Zai (.map t)=false:=rfl
theorem ZIg  : Zai (.nili)=true:=rfl
theorem ZLd(t:Nat)(x:AVal):Zai (.iface t x)=false:=rfl
theorem ZI3(x:AVal):Zai (.pan x)=false:=rfl
theorem ZPE(l:List UInt8):Zai (.lnt l)=false:=rfl
theorem ZIM  : Zbv (.top)=(.top):=rfl
theorem ZSe  : Zbv (.any)=(.any):=rfl
theorem Zwt(k:IntKind)(n:Int):Zbv (.int k n)=(.int k n):=rfl
theorem ZJP(b:Bool):Zbv (.bool b)=(.bool b):=rfl
theorem ZvF(l:List UInt8):Zbv (.str l)=(.str l):=rfl
theorem ZMH  : Zbv (.nilp)=(.nilp):=rfl
theorem ZMN(t:Nat)(o:Nat):Zbv (.ref t o)=(.ref t o):=rfl
theorem ZC9(t:Nat)(g:Nat)(i:Nat)(o:Nat):Zbv (.eref t g i o)=(.eref t g i o):=rfl
theorem ZS6(cs:List AVal)(o:Nat):Zbv (.iptr cs o)=(.iptr cs o):=rfl
theorem Zzm(x:Bool)(xs:List AVal):Zbv (.lst x xs)=.lst false xs:=rfl
theorem ZTJ(t:Nat)(g:Nat)(lo:Nat)(n:Nat):Zbv (.sl t g lo n)=(.sl t g lo n):=rfl
theorem ZEp(cs:List AVal):Zbv (.agg cs)=(.agg cs):=rfl
theorem ZM4(vs:List AVal):Zbv (.tup vs)=(.tup vs):=rfl
theorem ZJG(f:Nat)(caps:List AVal):Zbv (.fn f caps)=(.fn f caps):=rfl
theorem ZFx  : Zbv (.nilm)=(.nilm):=rfl
theorem ZJf(t:Nat):Zbv (.map t)=(.map t):=rfl
theorem ZEJ  : Zbv (.nili)=(.nili):=rfl
theorem ZMe(t:Nat)(x:AVal):Zbv (.iface t x)=(.iface t x):=rfl
theorem ZA3(x:AVal):Zbv (.pan x)=(.pan x):=rfl
theorem ZHK(l:List UInt8):Zbv (.lnt l)=(.lnt l):=rfl
theorem ZGM  : Z1 (.top)=(.top):=rfl
theorem ZSk  : Z1 (.any)=(.any):=rfl
theorem ZJj(k:IntKind)(n:Int):Z1 (.int k n)=(.int k n):=rfl
theorem ZMC(b:Bool):Z1 (.bool b)=(.bool b):=rfl
theorem ZT9(l:List UInt8):Z1 (.str l)=(.str l):=rfl
theorem ZNU  : Z1 (.nilp)=(.nilp):=rfl
theorem ZDM(t:Nat)(o:Nat):Z1 (.ref t o)=(.ref t o):=rfl
theorem ZVe(t:Nat)(g:Nat)(i:Nat)(o:Nat):Z1 (.eref t g i o)=(.eref t g i o):=rfl
theorem ZMQ(cs:List AVal)(o:Nat):Z1 (.iptr cs o)=(.iptr cs o):=rfl
theorem ZIt(x:Bool)(xs:List AVal):Z1 (.lst x xs)=.lst false xs:=rfl
theorem ZKb(t:Nat)(g:Nat)(lo:Nat)(n:Nat):Z1 (.sl t g lo n)=(.sl t g lo n):=rfl
theorem Zv9(cs:List AVal):Z1 (.agg cs)=.agg (cs.map Zbv):=rfl
theorem ZDX(vs:List AVal):Z1 (.tup vs)=(.tup vs):=rfl
theorem ZM9(f:Nat)(caps:List AVal):Z1 (.fn f caps)=(.fn f caps):=rfl
theorem ZE5  : Z1 (.nilm)=(.nilm):=rfl
theorem ZSI(t:Nat):Z1 (.map t)=(.map t):=rfl
theorem ZPC  : Z1 (.nili)=(.nili):=rfl
theorem ZIq(t:Nat)(x:AVal):Z1 (.iface t x)=(.iface t x):=rfl
theorem ZVa(x:AVal):Z1 (.pan x)=(.pan x):=rfl
theorem ZPX(l:List UInt8):Z1 (.lnt l)=(.lnt l):=rfl
theorem ZUJ  : AVal.cells (.top)=[(.top)]:=rfl
theorem ZL0  : AVal.cells (.any)=[(.any)]:=rfl
theorem ZFp(k:IntKind)(n:Int):AVal.cells (.int k n)=[(.int k n)]:=rfl
theorem ZOs(b:Bool):AVal.cells (.bool b)=[(.bool b)]:=rfl
theorem ZQX(l:List UInt8):AVal.cells (.str l)=[(.str l)]:=rfl
theorem ZNb  : AVal.cells (.nilp)=[(.nilp)]:=rfl
theorem ZNs(t:Nat)(o:Nat):AVal.cells (.ref t o)=[(.ref t o)]:=rfl
theorem ZO9(t:Nat)(g:Nat)(i:Nat)(o:Nat):AVal.cells (.eref t g i o)=[(.eref t g i o)]:=rfl
theorem ZKl(cs:List AVal)(o:Nat):AVal.cells (.iptr cs o)=[(.iptr cs o)]:=rfl
theorem ZLC(x:Bool)(xs:List AVal):AVal.cells (.lst x xs)=[(.lst x xs)]:=rfl
theorem ZU1(t:Nat)(g:Nat)(lo:Nat)(n:Nat):AVal.cells (.sl t g lo n)=[(.sl t g lo n)]:=rfl
theorem ZQu(cs:List AVal):AVal.cells (.agg cs)=cs:=rfl
theorem ZDz(vs:List AVal):AVal.cells (.tup vs)=[(.tup vs)]:=rfl
theorem ZTs(f:Nat)(caps:List AVal):AVal.cells (.fn f caps)=[(.fn f caps)]:=rfl
theorem ZN2  : AVal.cells (.nilm)=[(.nilm)]:=rfl
theorem ZBE(t:Nat):AVal.cells (.map t)=[(.map t)]:=rfl
theorem ZJQ  : AVal.cells (.nili)=[(.nili)]:=rfl
theorem ZHY(t:Nat)(x:AVal):AVal.cells (.iface t x)=[(.iface t x)]:=rfl
theorem ZFC(x:AVal):AVal.cells (.pan x)=[(.pan x)]:=rfl
theorem ZEl(l:List UInt8):AVal.cells (.lnt l)=[(.lnt l)]:=rfl
theorem ZSN  : ZaY (.top)=(.top):=rfl
theorem ZCy  : ZaY (.any)=(.any):=rfl
theorem ZPJ(k:IntKind)(n:Int):ZaY (.int k n)=(.int k n):=rfl
theorem ZJ1(b:Bool):ZaY (.bool b)=(.bool b):=rfl
theorem ZK4(l:List UInt8):ZaY (.str l)=(.str l):=rfl
theorem ZL1  : ZaY (.nilp)=(.nilp):=rfl
theorem ZIf(t:Nat)(o:Nat):ZaY (.ref t o)=(.ref t o):=rfl
theorem ZDe(t:Nat)(g:Nat)(i:Nat)(o:Nat):ZaY (.eref t g i o)=(.eref t g i o):=rfl
theorem ZFa(cs:List AVal)(o:Nat):ZaY (.iptr cs o)=(.iptr cs o):=rfl
theorem ZJK(x:Bool)(xs:List AVal):ZaY (.lst x xs)=(.lst x xs):=rfl
theorem ZSi(t:Nat)(g:Nat)(lo:Nat)(n:Nat):ZaY (.sl t g lo n)=(.sl t g lo n):=rfl
theorem ZDr(cs:List AVal):ZaY (.agg cs)=(.agg cs):=rfl
theorem ZF2(vs:List AVal):ZaY (.tup vs)=(.tup vs):=rfl
theorem ZEX(f:Nat)(caps:List AVal):ZaY (.fn f caps)=(.fn f caps):=rfl
theorem ZQJ  : ZaY (.nilm)=(.nilm):=rfl
theorem ZUD(t:Nat):ZaY (.map t)=(.map t):=rfl
theorem ZDk  : ZaY (.nili)=(.nili):=rfl
theorem ZA6(t:Nat)(x:AVal):ZaY (.iface t x)=(.iface t x):=rfl
theorem ZTk(x:AVal):ZaY (.pan x)=x:=rfl
theorem ZLy(l:List UInt8):ZaY (.lnt l)=(.lnt l):=rfl
theorem ZE3  : Zbu (.top)=4:=rfl
theorem ZRO  : Zbu (.any)=4:=rfl
theorem ZFV(k:IntKind)(n:Int):Zbu (.int k n)=0:=rfl
theorem ZOj(b:Bool):Zbu (.bool b)=1:=rfl
theorem ZIH(l:List UInt8):Zbu (.str l)=2:=rfl
theorem ZH0  : Zbu (.nilp)=4:=rfl
theorem ZDN(t:Nat)(o:Nat):Zbu (.ref t o)=4:=rfl
theorem ZGq(t:Nat)(g:Nat)(i:Nat)(o:Nat):Zbu (.eref t g i o)=4:=rfl
theorem ZD5(cs:List AVal)(o:Nat):Zbu (.iptr cs o)=4:=rfl
theorem ZUb(x:Bool)(xs:List AVal):Zbu (.lst x xs)=4:=rfl
theorem ZRQ(t:Nat)(g:Nat)(lo:Nat)(n:Nat):Zbu (.sl t g lo n)=4:=rfl
theorem ZSz(cs:List AVal):Zbu (.agg cs)=4:=rfl
theorem ZD3(vs:List AVal):Zbu (.tup vs)=4:=rfl
theorem ZHq(f:Nat)(caps:List AVal):Zbu (.fn f caps)=4:=rfl
theorem ZVj  : Zbu (.nilm)=4:=rfl
theorem ZJ9(t:Nat):Zbu (.map t)=4:=rfl
theorem ZBb  : Zbu (.nili)=4:=rfl
theorem ZF3(t:Nat)(x:AVal):Zbu (.iface t x)=4:=rfl
theorem ZSa(x:AVal):Zbu (.pan x)=4:=rfl
theorem ZR5(l:List UInt8):Zbu (.lnt l)=4:=rfl
theorem ZCi  : ZG (.top)=[]:=rfl
theorem ZTB  : ZG (.any)=[]:=rfl
theorem ZBq(k:IntKind)(n:Int):ZG (.int k n)=[]:=rfl
theorem ZMa(b:Bool):ZG (.bool b)=[]:=rfl
theorem ZFt(l:List UInt8):ZG (.str l)=[]:=rfl
theorem ZHI  : ZG (.nilp)=[]:=rfl
theorem ZGg(t:Nat)(o:Nat):ZG (.ref t o)=[t]:=rfl
theorem ZI8(t:Nat)(g:Nat)(i:Nat)(o:Nat):ZG (.eref t g i o)=[t]:=rfl
theorem ZK9(cs:List AVal)(o:Nat):ZG (.iptr cs o)=[]:=rfl
theorem ZHt(x:Bool)(xs:List AVal):ZG (.lst x xs)=[]:=rfl
theorem ZVf(t:Nat)(g:Nat)(lo:Nat)(n:Nat):ZG (.sl t g lo n)=[t]:=rfl
theorem ZNS(cs:List AVal):ZG (.agg cs)=Zl cs:=rfl
theorem ZOI(vs:List AVal):ZG (.tup vs)=Zl vs:=rfl
theorem ZPv(f:Nat)(caps:List AVal):ZG (.fn f caps)=Zl caps:=rfl
theorem ZNf  : ZG (.nilm)=[]:=rfl
theorem ZNu(t:Nat):ZG (.map t)=[t]:=rfl
theorem ZRL  : ZG (.nili)=[]:=rfl
theorem ZS9(t:Nat)(x:AVal):ZG (.iface t x)=ZG x:=rfl
theorem ZGD(x:AVal):ZG (.pan x)=ZG x:=rfl
theorem ZDZ(l:List UInt8):ZG (.lnt l)=[]:=rfl
theorem ZUB  : Zp C (.top)=(.top):=rfl
theorem ZGQ  : Zp C (.any)=(.any):=rfl
theorem ZIr(k:IntKind)(n:Int):Zp C (.int k n)=(.int k n):=rfl
theorem ZTS(b:Bool):Zp C (.bool b)=(.bool b):=rfl
theorem ZRF(l:List UInt8):Zp C (.str l)=(.str l):=rfl
theorem ZCK  : Zp C (.nilp)=(.nilp):=rfl
theorem ZUy(cs:List AVal)(o:Nat):Zp C (.iptr cs o)=(.iptr cs o):=rfl
theorem ZKy(x:Bool)(xs:List AVal):Zp C (.lst x xs)=(.lst x xs):=rfl
theorem ZJS(cs:List AVal):Zp C (.agg cs)=.agg (Zj C cs):=rfl
theorem ZTR(vs:List AVal):Zp C (.tup vs)=.tup (Zj C vs):=rfl
theorem ZJb(f:Nat)(caps:List AVal):Zp C (.fn f caps)=.fn f (Zj C caps):=rfl
theorem ZRd  : Zp C (.nilm)=(.nilm):=rfl
theorem ZDv  : Zp C (.nili)=(.nili):=rfl
theorem ZJ4(t:Nat)(x:AVal):Zp C (.iface t x)=.iface t (Zp C x):=rfl
theorem ZEs(x:AVal):Zp C (.pan x)=.pan (Zp C x):=rfl
theorem ZDt(l:List UInt8):Zp C (.lnt l)=(.lnt l):=rfl
theorem ZBw(f:Nat):ZaU (.fn f [])=true:=rfl
theorem ZBP(f:Nat):Zai (.fn f [])=true:=rfl
theorem ZP6(t:Nat)(x:AVal):ZbB (.pan (.iface t x))=ZaK x:=rfl
theorem ZA7(live:List Nat)(tm:Tms):ZnO live (some (tm,G,none))=some (.normal,keepL live tm,G):=rfl
theorem ZC5(live:List Nat)(tm:Tms)(x:AVal):ZnO live (some (tm,G,some x))=some (.panic x,[],G):=rfl
theorem ZF1(live:List Nat):ZnO live none=none:=rfl
theorem ZH8(t o:Nat):Zp C (.ref t o)=(match C t 0 with |some (t',0)=>.ref t' o |_=>.any):=rfl
theorem ZTV(t:Nat):Zp C (.map t)=(match C t 0 with |some (t',0)=>.map t' |_=>.any):=rfl
theorem ZGC(t g lo n:Nat):Zp C (.sl t g lo n)=(match C t g with |some (t',g')=>.sl t' g' lo n |none=>.any):=rfl
theorem ZJF(t g i o:Nat):Zp C (.eref t g i o)=(match C t g with |some (t',g')=>.eref t' g' i o |none=>.any):=rfl
theorem ZJO:Zl []=[]:=rfl
theorem ZE9(x:AVal)(xs:List AVal):Zl (x::xs)=ZG x++Zl xs:=rfl
theorem ZNi:Zj C []=[]:=rfl
theorem ZSU(x:AVal)(xs:List AVal):Zj C (x::xs)=Zp C x::Zj C xs:=rfl
end
end
section
mutual
def ZQ:AVal->Bool
 | .ref _ _=>false
 | .eref _ _ _ _=>false
 | .sl _ _ _ _=>false
 | .map _=>false
 | .agg cs=>Ze cs
 | .tup vs=>Ze vs
 | .fn _ vs=>Ze vs
 | .iface _ x=>ZQ x
 | .pan x=>ZQ x
 | .top=>true
 | .any=>true
 | .int _ _=>true
 | .bool _=>true
 | .str _=>true
 | .nilp=>true
 | .nilm=>true
 | .nili=>true
 | .lnt _=>true
 | .iptr _ _=>true
 | .lst _ _=>true
def Ze:List AVal->Bool
 | []=>true
 |x::xs=>ZQ x&&Ze xs
end
mutual
theorem Za9(C:Rho):∀ (x:AVal),ZQ x=true->Zp C x=x/\ZG x=[]
 | .ref _ _,h=>by simp[ZQ]at h
 | .eref _ _ _ _,h=>by simp[ZQ]at h
 | .sl _ _ _ _,h=>by simp[ZQ]at h
 | .map _,h=>by simp[ZQ]at h
 | .agg cs,h=>by have:=Z5 C cs (by simpa only[ZQ]using h);exact⟨by simp only[Zp,this.1],by simp only[ZG,this.2]⟩
 | .tup cs,h=>by have:=Z5 C cs (by simpa only[ZQ]using h);exact⟨by simp only[Zp,this.1],by simp only[ZG,this.2]⟩
 | .fn f cs,h=>by have:=Z5 C cs (by simpa only[ZQ]using h);exact⟨by simp only[Zp,this.1],by simp only[ZG,this.2]⟩
 | .iface t x,h=>by have:=Za9 C x (by simpa only[ZQ]using h);exact⟨by simp only[Zp,this.1],by simp only[ZG,this.2]⟩
 | .pan x,h=>by have:=Za9 C x (by simpa only[ZQ]using h);exact⟨by simp only[Zp,this.1],by simp only[ZG,this.2]⟩
 | .top,_=>⟨rfl,rfl⟩
 | .any,_=>⟨rfl,rfl⟩
 | .int _ _,_=>⟨rfl,rfl⟩
 | .bool _,_=>⟨rfl,rfl⟩
 | .str _,_=>⟨rfl,rfl⟩
 | .nilp,_=>⟨rfl,rfl⟩
 | .nilm,_=>⟨rfl,rfl⟩
 | .nili,_=>⟨rfl,rfl⟩
 | .lnt _,_=>⟨rfl,rfl⟩
 | .iptr _ _,_=>⟨rfl,rfl⟩
 | .lst _ _,_=>⟨rfl,rfl⟩
theorem Z5(C:Rho):∀ (xs:List AVal),Ze xs=true->Zj C xs=xs/\Zl xs=[]
 | [],_=>⟨rfl,rfl⟩
 |x::xs,h=>by
  simp only[Ze,Xk]at h
  have h1:=Za9 C x h.1
  have h2:=Z5 C xs h.2
  exact⟨by simp only[Zj,h1.1,h2.1],by simp only[Zl,h1.2,h2.2,Xr]⟩
end
theorem ZAG{G:Za}{r:AVal}(h:ZQ r=true):ZR 0 G r=some (r,[]):=by
 have h1:=Za9 (Zm G 0 []) r h
 have hids:Zw 0 [r] G=[]:=by
  unfold Zw
  simp only[Zl,h1.2,Xr,List.range_zero,List.flatMap_nil]
  rfl
 unfold ZR gcA
 simp only[hids,Zj,Zo,h1.1]
def ZlV:AVal->AVal
 | .tup vs=>.tup (vs.map Z1)
 |x=>Z1 x
def ZxE:AVal->Bool
 | .tup vs=>vs.all Zai
 |x=>Zai x
def Zcu:AVal->Bool
 | .fn _ _=>false
 |_=>true
def Zfr:AVal->Bool
 | .agg cs=>cs.all Zcu
 |x=>Zcu x
def ZKj:AVal->Bool
 | .tup vs=>vs.all Zfr
 |x=>Zfr x
theorem ZMp{k g n:Nat}{xs:List AVal}{G:Za}{t:Nat}(hs:G[t]?=some (.row g k xs))(hn:n<=xs.length):ZbP 0 (some (.sl t g 0 n,G))=some (.lst false (xs.take n),[]):=by
 have hv:viewR G (.sl t g 0 n)=some (.lst false (xs.take n),[t]):=by
  simp only[viewR,Z3,ZN,ZZ,hs,XF,hn,and_self,if_true,List.drop_zero]
 have e:ZbP 0 (some (.sl t g 0 n,G))=(match viewR G (.sl t g 0 n)with
  |some (r',ts)=>match gcA 0 [r'] (Zu G ts)with
   |([r''],G')=>some (r'',G')
   |_=>none
  |none=>none):=rfl
 rw[e,hv]
 exact ZAG rfl
theorem ZD7{m:Nat}{fn:ZM}{tm:Tms}{G:Za}:Zaw m fn (some (.ret,tm,G))=match resA tm G fn.res with
  |some r=>ZR m G r
  |none=>none:=rfl
theorem ZT0{m:Nat}{fn:ZM}{tm:Tms}{G:Za}:Zaw m fn (some (.normal,tm,G))=match resA tm G fn.res with
  |some r=>ZR m G r
  |none=>none:=rfl
theorem ZK1{m:Nat}{fn:ZM}{tm:Tms}{G:Za}{x:AVal}:Zaw m fn (some (.panic x,tm,G))=ZR m G (.pan x):=rfl
theorem ZEF  : ZQ (.top)=true:=rfl
theorem ZUT  : ZQ (.any)=true:=rfl
theorem ZFQ(k:IntKind)(n:Int):ZQ (.int k n)=true:=rfl
theorem ZO0(b:Bool):ZQ (.bool b)=true:=rfl
theorem ZIG(l:List UInt8):ZQ (.str l)=true:=rfl
theorem ZMq  : ZQ (.nilp)=true:=rfl
theorem ZRI(t:Nat)(o:Nat):ZQ (.ref t o)=false:=rfl
theorem ZNW(t:Nat)(g:Nat)(i:Nat)(o:Nat):ZQ (.eref t g i o)=false:=rfl
theorem ZFJ(cs:List AVal)(o:Nat):ZQ (.iptr cs o)=true:=rfl
theorem ZEU(x:Bool)(xs:List AVal):ZQ (.lst x xs)=true:=rfl
theorem ZIs(t:Nat)(g:Nat)(lo:Nat)(n:Nat):ZQ (.sl t g lo n)=false:=rfl
theorem ZG2(cs:List AVal):ZQ (.agg cs)=Ze cs:=rfl
theorem ZTe(vs:List AVal):ZQ (.tup vs)=Ze vs:=rfl
theorem ZLr(f:Nat)(caps:List AVal):ZQ (.fn f caps)=Ze caps:=rfl
theorem ZEx  : ZQ (.nilm)=true:=rfl
theorem ZAQ(t:Nat):ZQ (.map t)=false:=rfl
theorem ZIT  : ZQ (.nili)=true:=rfl
theorem ZOi(t:Nat)(x:AVal):ZQ (.iface t x)=ZQ x:=rfl
theorem ZN3(x:AVal):ZQ (.pan x)=ZQ x:=rfl
theorem ZPu(l:List UInt8):ZQ (.lnt l)=true:=rfl
theorem ZBc  : Zcu (.top)=true:=rfl
theorem ZJa  : Zcu (.any)=true:=rfl
theorem ZOC(k:IntKind)(n:Int):Zcu (.int k n)=true:=rfl
theorem ZRm(b:Bool):Zcu (.bool b)=true:=rfl
theorem ZHs(l:List UInt8):Zcu (.str l)=true:=rfl
theorem ZOH  : Zcu (.nilp)=true:=rfl
theorem ZJv(t:Nat)(o:Nat):Zcu (.ref t o)=true:=rfl
theorem ZO4(t:Nat)(g:Nat)(i:Nat)(o:Nat):Zcu (.eref t g i o)=true:=rfl
theorem ZAU(cs:List AVal)(o:Nat):Zcu (.iptr cs o)=true:=rfl
theorem ZCj(x:Bool)(xs:List AVal):Zcu (.lst x xs)=true:=rfl
theorem ZNk(t:Nat)(g:Nat)(lo:Nat)(n:Nat):Zcu (.sl t g lo n)=true:=rfl
theorem ZMb(cs:List AVal):Zcu (.agg cs)=true:=rfl
theorem ZSB(vs:List AVal):Zcu (.tup vs)=true:=rfl
theorem ZCA(f:Nat)(caps:List AVal):Zcu (.fn f caps)=false:=rfl
theorem ZH9  : Zcu (.nilm)=true:=rfl
theorem ZHh(t:Nat):Zcu (.map t)=true:=rfl
theorem ZQq  : Zcu (.nili)=true:=rfl
theorem ZNl(t:Nat)(x:AVal):Zcu (.iface t x)=true:=rfl
theorem ZCF(x:AVal):Zcu (.pan x)=true:=rfl
theorem ZQo(l:List UInt8):Zcu (.lnt l)=true:=rfl
theorem ZTa  : Zfr (.top)=true:=rfl
theorem ZBB  : Zfr (.any)=true:=rfl
theorem ZGK(k:IntKind)(n:Int):Zfr (.int k n)=true:=rfl
theorem ZQH(b:Bool):Zfr (.bool b)=true:=rfl
theorem ZLn(l:List UInt8):Zfr (.str l)=true:=rfl
theorem ZTN  : Zfr (.nilp)=true:=rfl
theorem ZMh(t:Nat)(o:Nat):Zfr (.ref t o)=true:=rfl
theorem ZQp(t:Nat)(g:Nat)(i:Nat)(o:Nat):Zfr (.eref t g i o)=true:=rfl
theorem ZMD(l:List UInt8):Zfr (.lnt l)=true:=rfl
theorem ZBL(l:List UInt8):ZKj (.lnt l)=true:=rfl
theorem ZHB(l:List UInt8):ZxE (.lnt l)=false:=rfl
theorem ZHQ  : ZlV (.nili)=(.nili):=rfl
theorem ZA9(t:Nat)(x:AVal):ZlV (.iface t x)=(.iface t x):=rfl
theorem ZB4(x:AVal):ZlV (.pan x)=(.pan x):=rfl
theorem ZJh(l:List UInt8):ZlV (.lnt l)=(.lnt l):=rfl
theorem ZA1:Ze []=true:=rfl
theorem ZFR(x:AVal)(xs:List AVal):Ze (x::xs)=(ZQ x&&Ze xs):=rfl
theorem ZCv(f:Nat):ZxE (.fn f [])=true:=rfl
theorem ZPp(p q:Bool):(if p=true then q else false)=(p&&q):=by cases p<;>rfl
theorem ZGV(p q:Bool):(if p=true then true else q)=(p ||q):=by cases p<;>rfl
theorem ZC4(p q:Bool):(if p=true then false else q)=(!p&&q):=by cases p<;>rfl
theorem ZGk(p q:Bool):(if p=true then q else true)=(!p ||q):=by cases p<;>rfl
theorem ZHS(p q:Bool):(if p=false then q else false)=(!p&&q):=by cases p<;>rfl
theorem ZP7(p q:Bool):(if p=false then true else q)=(!p ||q):=by cases p<;>rfl
theorem ZTT(p q:Bool):(if p=false then false else q)=(p&&q):=by cases p<;>rfl
theorem ZNX(p q:Bool):(if p=false then q else true)=(p ||q):=by cases p<;>rfl
section
def ZfB(o:AOp):AOp:=⟨o.dst,o.ins,o.guard,[]⟩
def Zdz:Zf->Zf
 | .region ops chk live=>.region (ops.map ZfB) chk live
 | .seq a b=>.seq (Zdz a) (Zdz b)
 | .cond c a b=>.cond c (Zdz a) (Zdz b)
 | .block id c=>.block id (Zdz c)
 | .loop live c=>.loop live (Zdz c)
 | .skip=>.skip
 | .exit id=>.exit id
 | .ret=>.ret
 | .stuck=>.stuck
def ZnZ(f:ZM):ZM:=⟨f.res,Zdz f.body⟩
section
variable {O:ZS}{bf:Nat->Bool}
theorem ZLs(o:AOp)(s:Nat)(tm:Tms)(G:Za):ZW O bf (ZfB o) s tm G=ZW O bf o s tm G:=rfl
theorem ZzH:∀ (ops:List AOp) (s:Nat) (tm:Tms) (G:Za),Zac O bf (ops.map ZfB) s tm G=Zac O bf ops s tm G
 | [],_,_,_=>rfl
 |o::os,s,tm,G=>by
  simp only[Xu,Zac,ZLs]
  split
  ·rfl
  ·rfl
  ·rename_i tm' G' c _ _
   rw[show(ZfB o).ins=o.ins from rfl,ZzH os]
theorem Zt8(ops:List AOp):sitesOf (ops.map ZfB)=sitesOf ops:=by
 simp[sitesOf,ZfB,Function.comp_def]
theorem ZnI(ops:List AOp)(i:Nat):((ops.map ZfB).getD i default).ins=(ops.getD i default).ins:=by
 simp only[Xh,Xab]
 cases ops[i]? <;> rfl
theorem ZEQ(ops:List AOp)(b:Nat)(l:List (Nat×Nat))(cs:List Cls):Zek (ops.map ZfB) b l cs=Zek ops b l cs:=by
 unfold Zek
 congr 1
 funext p
 unfold Zda ZcS
 rw[ZnI,ZnI,<-Xa1,Zt8]
theorem ZOZ(ops:List AOp)(b:Nat)(l:List (Nat×Nat))(cs:List Cls):Zex (ops.map ZfB) b l cs=Zex ops b l cs:=by
 unfold Zex
 congr 2
 funext p
 unfold Zda ZcS
 rw[ZnI,ZnI,<-Xa1,Zt8]
theorem ZFE(ops:List AOp)(chk:Option (List (Nat×Nat)))(live:List Nat)(tm:Tms)(G:Za):Zcn O bf (ops.map ZfB) chk live tm G=Zcn O bf ops chk live tm G:=by
 unfold Zcn
 rw[ZzH,Zt8]
 cases Zac O bf ops G.length tm (G++XI (sitesOf ops) .free)with
 |none=>rfl
 |some q =>
  obtain⟨tm',G',cs,p⟩:=q
  cases p with
  |some x =>
   cases chk with
   |none=>rfl
   |some l=>simp only[ZdH,ZOZ]
  |none =>
   cases chk with
   |none=>rfl
   |some l=>simp only[ZdH,ZEQ]
theorem Zfd(m n:Nat):∀ (c:Zf),Zam O bf m n (Zdz c)=Zam O bf m n c
 | .region ops chk live=>by funext tm G;simp only[Zdz,Zam,ZFE]
 | .seq a b=>by funext tm G;simp only[Zdz,Zam,Zfd m n a,Zfd m n b]
 | .cond c a b=>by funext tm G;simp only[Zdz,Zam,Zfd m n a,Zfd m n b]
 | .block id c=>by funext tm G;simp only[Zdz,Zam,Zfd m n c]
 | .loop live c=>by funext tm G;simp only[Zdz,Zam,Zfd m n c]
 | .skip=>rfl
 | .exit id=>rfl
 | .ret=>rfl
 | .stuck=>rfl
end
theorem ZrK(fs:Nat->Option ZM)(prim:ZcT)(bf:Nat->Bool):∀ n,Zat (fun f=>(fs f).map ZnZ) prim bf n=Zat fs prim bf n
 |0=>rfl
 |n+1=>by
  funext f args G
  simp only[Zat,ZrK fs prim bf n]
  cases prim f with
  |some g=>rfl
  |none =>
   cases fs f with
   |none=>rfl
   |some fn =>
    simp only[X9,ZnZ,Zfd]
    rfl
theorem ZU2(fs:Nat->Option ZM)(prim:ZcT)(bf:Nat->Bool):EV (fun f=>(fs f).map ZnZ) prim bf=EV fs prim bf:=by
 funext f args G
 apply Zgs
 intro r
 rw[Zdv,Zdv]
 simp only[ZrK]
end
end
section
open Go.RowKit
def Zlr:List AVal->Za->Option (AVal×Za):=fun _ _=>none
theorem ZAe{D:Prop}{args:List AVal}{G:Za}{r:AVal×Za}(h:Zlr args G=some r):D:=by cases h
def ZkM(k bytes:Nat)(args:List AVal)(G:Za):Option (AVal×Za):=match args with
 | [.str _]=>none
 | [a]=>match ZZ G a with
  |some (xs,_)=>if xs.length*bytes<=140737488355328/\kOk k xs=true then some (.sl G.length 0 0 xs.length,G++[.row 0 k xs])else none
  |none=>none
 |_=>none
def Zf1:Ann:={ nt:=8,lr:=fun _=>[7,6,5,4,3,2,0] }
structure ZuR(P:Program)(t:TypeId)(k bytes:Nat)(z:AVal)(f:FuncId):Prop where
 ex:∃ (F:Func) (e:TypeId) (i0 i1 i2 i3:Nat) (r0 r2 r3:Array Oper) (m b:Oper),
  P.funcs[f]?=some F/\F.results=#[.tmp 2]/\F.ntmps=8/\(F.name == "runtime.NumGoroutine")=false/\P.underlying t=some (.slice e) /\
  F.body=some (.seq (.region i0 r0 false) (.seq (.seq (.region i1 #[m,b] false) (.cond (.tmp 4) (.seq (.region i2 r2 false) .ret) .skip)) (.seq (.region i3 r3 false) .ret))) /\
  m.op=.move (.tmp 0)/\m.dst=some 3/\m.guard=none/\b.op=.binOp .eql t (.tmp 3) (.const (.slice none 0 0)) t/\b.dst=some 4/\b.guard=none /\
  Zee P Zf1 r0 r0.toList=some [⟨some 2,.mov (.c (.lst true [])),none,[]⟩] /\
  Zee P Zf1 r2 r2.toList=some [⟨some 2,.mov (.c (.lst true [])),none,[]⟩] /\
  (∃ a1 a2 a3 a4,Zee P Zf1 r3 r3.toList=some [⟨some 5,.bslice false k 0 z [],none,a1⟩,⟨some 6,.mov (.t 0),none,a2⟩,⟨some 7,.app k bytes z (.t 5) (.t 6),none,a3⟩,⟨some 2,.mov (.t 7),none,a4⟩])/\z.cells.length=k/\0<k
section
variable {P:Program}{base:Nat->Prop}{w0 w w':World}{I0 I:Imm}{V:Bmap}{G:Za}
theorem noO:ZaN P (fun _ _ _=>none):=by intro f args G r G' h;cases h
theorem ZfW{ops:Array Oper}{Q:Exit->Act->World->Prop}{o:Oper}{l:List Oper}{a:Act}{w:World}(hg:o.guard=none)(h:o.wp P a w (wpList P ops Q l) Q):wpList P ops Q (o::l) a w:=by
 unfold wpList
 have : Region.wanted o (yielded ops a.tmps)=true:=by unfold Region.wanted;rw[hg]
 grind
theorem ZFw {t : TypeId} {k bytes : Nat} {z : AVal} {f : FuncId} (hm : P.follows .mixedOrders = true) (C : ZuR P t k bytes z f) {args : List AVal} {G G' : Za} {r : AVal} (h : ZkM k bytes args G = some (r, G')) :
    (∃ fn, P.funcs[f]? = some fn /\ fn.body.isSome = true /\ (fn.name == "runtime.NumGoroutine") = false) /\
    ∀ base w0 I0 I V w (vs : Array Value), KLt base w0 -> Rel base w0 I0 I V G w -> VRs I V args vs.toList ->
      Calls P f vs w (fun e w' => ∃ u, Ends r e u /\ Zca G.length base w0 I0 I V r G' u w') := by
  obtain ⟨F, e, i0, i1, i2, i3, r0, r2, r3, m, b, hF, hres, hnt, hname, hu, hbody, hm1, hm2, hm3, hb1, hb2, hb3, hc0, hc2, ⟨a1, a2, a3, a4, hc3⟩, hzk, hk0⟩ := C.ex
  refine ⟨⟨F, hF, by grind, hname⟩, ?_⟩
  intro base w0 I0 I V w vs hb R hargs
  unfold ZkM at h
  split at h
  case h_1 => cases h
  case h_3 => cases h
  rename_i a hns
  split at h
  case h_2 => cases h
  rename_i xs ts hel0
  split at h
  case isFalse => cases h
  rename_i hc
  obtain ⟨hbytes, hkOk⟩ := hc
  simp only [Xb, Xe] at h
  obtain ⟨rfl, rfl⟩ := h
  have hnt8 : ∀ (n : Nat), n < 8 -> n < Zf1.nt := fun n h => h
  refine calls_of_wp hF hbody ?_
  have hsz : vs.size = 1 := by have := ZaP hargs; simpa using this.symm
  have T := Zq9 hargs (F.ntmps - vs.size)
  have hst : StR Zci 8 base w0 I0 I V (enterA 0 [a] []) G { tmps := vs ++ WY (F.ntmps - vs.size) undef, defers := [] } w := ⟨I, V, Imm.le.refl I, Bmap.le.refl V, T, ⟨Zgf.2 rfl, by simp; omega⟩, R⟩
  have fin : ∀ {tm : Tms} {G1 : Za} {y : AVal} {a' : Act} {w1 : World}, StR Zci 8 base w0 I0 I V tm G1 a' w1 -> tget tm 2 = y -> (∀ I' V' u, I.le I' -> V.le V' -> Rel base w0 I0 I' V' G1 w1 -> VR I' V' y u -> Zca G.length base w0 I0 I V (.sl G.length 0 0 xs.length) (G ++ [.row 0 k xs]) u w1) ->
      a'.defers = [] /\ ∃ v, (results F a'.tmps).run P w1 = .ok v w1 /\ ∃ u, Ends (.sl G.length 0 0 xs.length) (.returned v) u /\ Zca G.length base w0 I0 I V (.sl G.length 0 0 xs.length) (G ++ [.row 0 k xs]) u w1 := by
    rintro tm G1 y a' w1 ⟨I', V', h1, h2, h3, h4, h5⟩ hy hpost
    refine ⟨Zgf.1 h4.1, a'.tmps.getD 2 undef, by simp [results, hres], _, rfl, ?_⟩
    have := h3 2
    rw [hy] at this
    exact hpost I' V' _ h1 h2 h5 this
  have R0 : Za2 P Zf1 (.region i0 r0 false) = .region [⟨some 2, .mov (.c (.lst true [])), none, []⟩] none [7, 6, 5, 4, 3, 2, 0] := by simp only [Za2]; rw [hc0]; rfl
  have R2 : Za2 P Zf1 (.region i2 r2 false) = .region [⟨some 2, .mov (.c (.lst true [])), none, []⟩] none [7, 6, 5, 4, 3, 2, 0] := by simp only [Za2]; rw [hc2]; rfl
  have R3 : Za2 P Zf1 (.region i3 r3 false) = .region [⟨some 5, .bslice false k 0 z [], none, a1⟩, ⟨some 6, .mov (.t 0), none, a2⟩, ⟨some 7, .app k bytes z (.t 5) (.t 6), none, a3⟩, ⟨some 2, .mov (.t 7), none, a4⟩] none [7, 6, 5, 4, 3, 2, 0] := by simp only [Za2]; rw [hc3]; rfl
  refine wp_seq ?_
  refine Zm6 (an := Zf1) (dr := Zci) (bf := fun _ => false) noO (fun n hn => by simp [Zci] at hn) hm hb R0 hst (e := .normal) (tm' := keepL [7, 6, 5, 4, 3, 2, 0] [(2, .lst true []), (0, a)]) (G' := G) ?_ ?_
  . simp [Zcn, ZdH, sitesOf, nsite, Zac, ZW, ZbL, execI, Opd.ev, tput, tins, enterA]
  intro a1' w1 hst1
  simp only [Exit.then]
  refine wp_seq (wp_seq ?_)
  refine wp_region_list ?_
  refine ZfW hm3 ?_
  obtain ⟨I1, V1, g1, g2, g3, g4, g5⟩ := hst1
  have hs8 : 8 <= a1'.tmps.size := g4.2
  have hT0 : VR I1 V1 a (a1'.tmps.getD 0 undef) := by have := g3 0; simpa [keepL, tget] using this
  obtain ⟨A, cap, hv0, q1, q2, q5, q4⟩ := Znw g5 (fun l e => hns l e) hel0 hT0
  show m.wp P a1' w1 _ _
  unfold Oper.wp
  have e1 : (execOp a1'.eval m).run P w1 = .ok (.value (.slice A xs.length cap)) w1 := by
    unfold execOp; rw [hm1]; simp [Act.eval, hv0]
  rw [e1, Oper.upon_value, hm2]
  refine ZfW hb3 ?_
  unfold Oper.wp
  have hs3 : (a1'.put (some 3) (.slice A xs.length cap)).tmps.getD 3 undef = .slice A xs.length cap := by
    have : 3 < a1'.tmps.size := by omega
    simp [Act.put, WX, this]
  have e2 : (execOp (a1'.put (some 3) (.slice A xs.length cap)).eval b).run P w1 = .ok (.value (.bool A.isNone)) w1 := by
    have hq : (Op.equal t (.slice A xs.length cap) (.slice none 0 0)).run P w1 = .ok A.isNone w1 := run_equal_slice_nil w1 t e A xs.length cap hu
    unfold execOp; rw [hb1]
    simp only [Act.eval]
    rw [hs3]
    simp [eqGuard, binOp, hq]
  rw [e2, Oper.upon_value, hb2]
  refine wpList_nil ?_
  have hst2 : StR Zci 8 base w0 I0 I V [(4, .bool A.isNone), (2, .lst true []), (0, a)] G ((a1'.put (some 3) (.slice A xs.length cap)).put (some 4) (.bool A.isNone)) w1 := by
    refine ⟨I1, V1, g1, g2, fun n => ?_, ⟨Zn8 (Zn8 g4.1 (fun n _ hm => by simp [Zci] at hm)) (fun n _ hm => by simp [Zci] at hm), by rw [ZfD, ZfD]; exact g4.2⟩, g5⟩
    have hs : 4 < (a1'.put (some 3) (.slice A xs.length cap)).tmps.size := by rw [ZfD]; omega
    have ne : ∀ {a : Act} {d j : Nat} {u : Value}, d ≠ j -> (a.put (some d) u).tmps.getD j undef = a.tmps.getD j undef := by
      intro a d j u hne
      simp only [Act.put, Wq]; grind
    simp only [tget]
    split
    . rename_i e; subst e
      rw [show ((a1'.put (some 3) (.slice A xs.length cap)).put (some 4) (.bool A.isNone)).tmps.getD 4 undef = .bool A.isNone by
        simp only [Act.put] at hs ⊢
        simp [WX] at hs ⊢
        omega]
      simp only [VR]
    . split
      . rename_i e; subst e
        rw [ne (by omega), ne (by omega)]
        have := g3 2; simpa [keepL, tget] using this
      . split
        . grind
        . simp only [VR]
  simp only [Exit.then]
  cases hA : A.isNone with
  | true =>
    have hx0 : xs = [] := by
      rcases q4 with h | ⟨b, off, k', us, e, _⟩
      . exact h
      . rw [e] at hA; cases hA
    subst hx0
    have hev : ((a1'.put (some 3) (.slice A 0 cap)).put (some 4) (.bool A.isNone)).eval (.tmp 4) = .bool true := by
      obtain ⟨_, _, _, _, T, _, _⟩ := hst2
      have := T 4
      simp only [tget, if_true, VR] at this
      rw [hA] at this
      simpa [Act.eval, hA] using this
    refine wp_cond_true (by grind) ?_
    refine wp_seq ?_
    rw [hA] at hst2
    refine Zm6 (an := Zf1) (dr := Zci) (bf := fun _ => false) noO (fun n hn => by simp [Zci] at hn) hm hb R2 hst2 (e := .normal) (tm' := keepL [7, 6, 5, 4, 3, 2, 0] [(4, .bool true), (2, .lst true []), (0, a)]) (G' := G) ?_ ?_
    . simp [Zcn, ZdH, sitesOf, nsite, Zac, ZW, ZbL, execI, Opd.ev, tput, tins]
    intro a3' w3 hst3
    simp only [Exit.then]
    refine wp_ret ?_
    refine fin hst3 (y := .lst true []) (by simp [keepL, tget]) ?_
    intro I' V' u h1 h2 h3 h4
    simp only [VR] at h4
    obtain ⟨A', cap', rfl, _, _, hx, _⟩ := h4
    have hcap : cap' = 0 := by simpa using hx
    subst hcap
    have R4 := h3.reserve 1
    have hfree : (G ++ XI 1 ZO.free)[G.length]? = some .free := by simp
    obtain ⟨R5, hle⟩ := R4.newNone hfree k hk0
    refine ⟨I', _, h1, KeptE.of_le (h2.trans hle), ?_, ?_⟩
    . grind
    . simp only [ZaY]
      rw [Zco]
      exact ⟨_, Bmap.put_same V' G.length 0 _, by simp, by simp, Xt ⟨rfl, rfl, A', rfl⟩⟩
  | false =>
    have hev : ((a1'.put (some 3) (.slice A xs.length cap)).put (some 4) (.bool A.isNone)).eval (.tmp 4) = .bool false := by
      obtain ⟨_, _, _, _, T, _, _⟩ := hst2
      have := T 4
      simp only [tget, if_true, VR] at this
      rw [hA] at this
      simpa [Act.eval, hA] using this
    refine wp_cond_false (by grind) ?_
    refine wp_skip ?_
    rw [hA] at hst2
    simp only [Exit.then]
    refine wp_seq ?_
    have hel : ZZ (G ++ [ZO.free]) a = some (xs, ts) := ZgQ hel0 (fun t ht => by
      obtain ⟨g, k, ys, h | h⟩ := ZjV hel0 t ht <;> grind)
    refine Zm6 (an := Zf1) (dr := Zci) (bf := fun _ => false) noO (fun n hn => by simp [Zci] at hn) hm hb R3 hst2 (e := .normal) (tm' := keepL [7, 6, 5, 4, 3, 2, 0] [(7, .sl G.length 0 0 xs.length), (6, a), (5, .lst true []), (4, .bool false), (2, .sl G.length 0 0 xs.length), (0, a)]) (G' := G ++ [.row 0 k xs]) ?_ ?_
    . have hfa : freeAt (G ++ [ZO.free]) G.length = true := by simp [freeAt]
      have hnp : (∃ x ys, a = .lst x ys) \/ (∃ t g lo n, a = .sl t g lo n) \/ ∃ l, a = .lnt l := by
        cases a with
        | lst x ys => grind
        | sl t g lo n => grind
        | lnt l => grind
        | str l => grind
        | _ => simp [ZZ] at hel0
      rcases hnp with ⟨x, ys, rfl⟩ | ⟨t', g', lo, n, rfl⟩ | ⟨l, rfl⟩
      . simp [Zcn, ZdH, sitesOf, nsite, Zac, ZW, ZbL, execI, Opd.ev, tput, tins, tget, viewAs, Zu, hzk, Zan, hel, hkOk, hbytes, hfa]
      . simp [Zcn, ZdH, sitesOf, nsite, Zac, ZW, ZbL, execI, Opd.ev, tput, tins, tget, viewAs, Zu, hzk, Zan, hel, hkOk, hbytes, hfa]
      . simp [Zcn, ZdH, sitesOf, nsite, Zac, ZW, ZbL, execI, Opd.ev, tput, tins, tget, viewAs, Zu, hzk, Zan, hel, hkOk, hbytes, hfa]
    intro a3' w3 hst3
    simp only [Exit.then]
    refine wp_ret ?_
    refine fin hst3 (y := .sl G.length 0 0 xs.length) (by simp [keepL, tget]) ?_
    intro I' V' u h1 h2 h3 h4
    exact ⟨I', V', h1, KeptE.of_le h2, h3, h4⟩
end
end
section
open Go.RowKit
def Zt7(args:List AVal)(G:Za):Option (AVal×Za):=match args with
 | [.str l]=>some (.bool (Lib.validD l),G)
 |_=>none
section
variable {P:Program}{base:Nat->Prop}{w0 w w':World}{I0 I:Imm}{V:Bmap}{G:Za}
theorem ZPV{f:Nat}(hf:∃ fn,P.funcs[f]?=some fn/\fn.body.isSome=true/\(fn.name == "runtime.NumGoroutine")=false){args:List AVal}{r:AVal}{u:Value}(hn:∀ x,r≠.pan x)(hr:∀ I V,VR I V r u)
  (h:∀ base w0 I0 I V w (vs:Array Value),Rel base w0 I0 I V G w->VRs I V args vs.toList->Calls P f vs w (fun e w'=>e=.returned u/\Below w.heap.size w w')) :
  (∃ fn,P.funcs[f]?=some fn/\fn.body.isSome=true/\(fn.name == "runtime.NumGoroutine")=false) /\
  ∀ base w0 I0 I V w (vs:Array Value),KLt base w0->Rel base w0 I0 I V G w->VRs I V args vs.toList ->
   Calls P f vs w (fun e w'=>∃ u,Ends r e u/\Zca G.length base w0 I0 I V r G u w'):=by
 refine⟨hf,fun base w0 I0 I V w vs hb R hv=>(h base w0 I0 I V w vs R hv).mono ?_⟩
 rintro e w' ⟨rfl,hB⟩
 have hbw:=R.base_le hb
 refine⟨u,?_,I,V,Imm.le.refl I,KeptE.refl _ V,R.stay (Imm.le.refl I) ⟨hB.os,hB.tape,hB.output,hB.size,fun k hk=>hB.block k (hbw k hk)⟩ (fun _ _ _=>rfl) ?_ ?_,by rw[ZgD hn];exact hr I V⟩
 ·cases r<;>first |rfl |grind
 ·intro b o x hx
  have h1:=R.imm b o x hx
  have hlt:=ZeO h1
  rw[<-h1]
  simp only[World.cell?,hB.block b hlt]
 ·intro t x b hx hb'
  exact⟨hB.block b ((R.blk t x hx).owns_lt hb'),(R.own t x b hx hb').2⟩
theorem ZJR(R:Rel base w0 I0 I V G w):Lib.Utf8Tabs 1 2 w:=by
 refine⟨fun c hc=>R.imm _ _ _ (R.glob.1 _ _ _ (by simp[Gl,hc])),fun i hi=>⟨R.imm _ _ _ (R.glob.1 _ _ _ ?_),R.imm _ _ _ (R.glob.1 _ _ _ ?_)⟩⟩
 ·have h1:2*i<32:=by omega
  have h2:2*i%2=0:=by omega
  have h3:2*i/2=i:=by omega
  simp[Gl,h1,h3]
 ·have h1:2*i+1<32:=by omega
  have h2:(2*i+1)%2=1:=by omega
  have h3:(2*i+1)/2=i:=by omega
  simp[Gl,h1,h2,h3]
theorem ZUW{f:Nat}(hf:∃ fn,P.funcs[f]?=some fn/\fn.body.isSome=true/\(fn.name == "runtime.NumGoroutine")=false)
  (hc:∀ (s:ByteArray) (w:World),s.size<=9223372036854775807->Lib.Utf8Tabs 1 2 w->Calls P f #[.string s] w fun e w'=>e=.returned (.bool (Lib.validD s.data.toList))/\Below w.heap.size w w') {args:List AVal} {G G':Za} {r:AVal} (h:Zt7 args G=some (r,G')) :
  (∃ fn,P.funcs[f]?=some fn/\fn.body.isSome=true/\(fn.name == "runtime.NumGoroutine")=false) /\
  ∀ base w0 I0 I V w (vs:Array Value),KLt base w0->Rel base w0 I0 I V G w->VRs I V args vs.toList ->
   Calls P f vs w (fun e w'=>∃ u,Ends r e u/\Zca G.length base w0 I0 I V r G' u w'):=by
 unfold Zt7 at h
 split at h
 case h_2=>cases h
 rename_i l
 simp only[Xb,Xe]at h
 obtain⟨rfl,rfl⟩:=h
 refine ZPV hf (u:=.bool (Lib.validD l)) (by simp) (fun _ _=>by simp only[VR]) ?_
 intro base w0 I0 I V w vs R hv
 obtain⟨vs⟩:=vs
 simp only[VRs,VR]at hv
 obtain⟨v1,r1,e1,⟨rfl,hl⟩,rfl⟩:=hv
 subst e1
 refine(hc ⟨l.toArray⟩ w (by simpa[Ws]using hl) (ZJR R)).mono ?_
 grind
end
end
section
open Go.RowKit
def Zgj:List AVal->Option (List UInt8)
 | []=>some []
 | .int .u8 n::r=>if 0<=n/\n<256 then(Zgj r).map (UInt8.ofNat n.toNat::·)else none
 |_=>none
def Zh5(G:Za):List AVal->Option (List (Option Nat×List UInt8))
 | []=>some []
 | .lst true []::r=>(Zh5 G r).map ((none,[])::·)
 | .sl t 0 0 n::r=>match G[t]? with
  |some (.row 0 1 xs)=>match Zgj xs with
   |some l=>if n=l.length/\l.length<=1099511627776 then(Zh5 G r).map ((some t,l)::·)else none
   |none=>none
  |_=>none
 |_=>none
def relB(G:Za):List Nat->Za
 | []=>G
 |t::ts=>relB (G.set t (.frow 0 1 [])) ts
def Zss(G:Za)(tb nb:Nat):Option (AVal×Za):=match G[tb]? with
 |some (.rrow 0 1 xs)=>match Zh5 G xs with
  |some rows=>if nb=xs.length/\nb<=400/\(rows.filterMap (·.1)).Nodup then some (.bool true,relB G (rows.filterMap (·.1)))else none
  |none=>none
 |_=>none
def ZkS(args:List AVal)(G:Za):Option (AVal×Za):=match args with
 | [.ref 0 0]=>match(G[0]? : Option ZO)with
  |some (ZO.var (AVal.sl tb 0 0 nb::_))=>Zss G tb nb
  |_=>none
 |_=>none
theorem ZyU:∀ l:List UInt8,Zgj (l.map Zh)=some l
 | []=>rfl
 |b::l=>by
  have:=b.toNat_lt
  simp only[Xu,Zh,Zgj]
  rw[if_pos (by omega),ZyU l]
  simp
theorem ZAA:∀ {xs:List AVal} {l:List UInt8},Zgj xs=some l->xs=l.map Zh
 | [],l,h=>by simp only[Zgj,Xb]at h;grind
 |x::xs,l,h=>by
  unfold Zgj at h
  split at h
  ·grind
  ·rename_i n r e
   injection e with e1 e2
   subst e1 e2
   split at h
   ·rename_i hn
    simp only[Xo]at h
    obtain⟨l',h,rfl⟩:=h
    rw[ZAA h]
    simp only[Xu,Zh,UInt8.toNat_ofNat']
    grind
   ·cases h
  ·cases h
theorem ZqP{G:Za}:∀ {xs:List AVal} {rows:List (Option Nat×List UInt8)},Zh5 G xs=some rows->rows.length=xs.length/\∀ (i:Nat) (o:Option Nat) (l:List UInt8),rows[i]?=some (o,l)->l.length<=1099511627776/\((o=none/\l=[]/\xs[i]?=some (.lst true []))\/∃ t ys,o=some t/\xs[i]?=some (.sl t 0 0 l.length)/\G[t]?=some (.row 0 1 ys)/\Zgj ys=some l)
 | [],rows,h=>by simp only[Zh5,Xb]at h;grind
 |x::xs,rows,h=>by
  unfold Zh5 at h
  split at h
  ·grind
  ·rename_i r e
   injection e with e1 e2
   subst e1 e2
   simp only[Xo]at h
   obtain⟨rows',h,rfl⟩:=h
   obtain⟨h1,h2⟩:=ZqP h
   grind
  ·rename_i t n r e
   injection e with e1 e2
   subst e1 e2
   split at h
   ·rename_i ys hs
    split at h
    ·rename_i l hl
     split at h
     ·rename_i hn
      obtain⟨rfl,hn⟩:=hn
      simp only[Xo]at h
      obtain⟨rows',h,rfl⟩:=h
      obtain⟨h1,h2⟩:=ZqP h
      grind
     ·cases h
    ·cases h
   ·cases h
  ·cases h
theorem Zu7:∀ {ts:List Nat} {G:Za} {t:Nat} {x:ZO},(relB G ts)[t]?=some x->(t∈ts/\x=.frow 0 1 [])\/(t∉ts/\G[t]?=some x)
 | [],G,t,x,h=>Xt ⟨by simp,h⟩
 |u::ts,G,t,x,h=>by
  rcases Zu7 (ts:=ts) h with⟨h1,h2⟩ |⟨h1,h2⟩
  ·grind
  grind
end
end Go.Proofs.YtjhabjdfhmbanaaGreatDoor
