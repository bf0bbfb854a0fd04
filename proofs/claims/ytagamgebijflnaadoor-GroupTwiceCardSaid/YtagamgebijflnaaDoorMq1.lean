/- packed -/
import Derived.Test.YtagamgebijflnaaDoorMq0
import Derived.Laws.StructEq
import Derived.Laws.Small
set_option linter.unusedSimpArgs false
set_option linter.unusedVariables false
open Option.some renaming injEq→Xa
open Prod.mk renaming injEq→Xb
open Bool renaming and_eq_true→Xc,false_eq_true→Xg,and_self→WI
open List renaming getD_eq_getElem?_getD→Xd,getElem?_eq_some_iff→Xe,getElem?_set→Xj,mem_append→Xn,mem_of_getElem?→Xq,all_eq_true→Xv,getElem?_eq_getElem→Xz,length_append→XA,map_cons→XB,replicate→XC,mem_cons→XG,getElem?_cons_zero→XI,getElem?_take→XJ,mem_map→XL,getElem?_eq_none_iff→XP,flatMap_cons→XR,getElem?_eq_none→XT,eq_of_mem_replicate→XU,mem_singleton→XV,all_nil→XW,getElem?_cons_succ→XZ,mem_flatMap→X1,take_of_length_le→X2,map_nil→X6,map_append→Wd,lookup_cons→We,mem_or_eq_of_mem_set→Wg,range→Wn,ext_getElem?→Wq,map_map→Wx,length_map→Wz,length_take→WD,isEmpty_nil→WG,getElem_mem→WM,set_comm→WN,nodup_append→WV,isEmpty_iff→W0,map_congr_left→Xac,getElem?_inj→Xaj,drop_drop→XaK
open Option renaming map_eq_some_iff→Xh,map_some→XM,getD_some→WF,getD_none→Xar
open Or renaming inl→Xo,inr→Xw
open Array renaming getElem?_eq_some_iff→Xy,length_toList→XF,getElem?_setIfInBounds_self_of_lt→WA,range→WE,toList_push→Xak,getElem?_modify→Xam,ext'→XaI
open Nat renaming zero_add→XD,le_refl→XO,add_mul→X0,add_zero→X4,mul_le_mul_right→X8,add_assoc→Ws,lt_or_ge→Xae,mul_le_mul_left→Xav,add_comm→XaQ
open ByteArray renaming size→Wm
open List.cons renaming injEq→Xai
open Iff renaming rfl→XaN
namespace Go.Proofs.YtagamgebijflnaaDoor
set_option maxHeartbeats 16000000
set_option maxRecDepth 10000
section
open Go.RowKit
section
variable {P:Program} {base:Nat->Prop} {w0 w w':World} {I0 I I':Imm} {β β':Bmap} {σ σ':Za} {tm:Tms}
theorem ZiA {a:Act} (T:TR I β tm a.tmps):∀ {parts:List (Nat×Operand)} {ps:List (Nat×Opd)},ZdC parts=some ps ->
  (parts.map fun (i,x)=>(i,a.eval x))=(ps.map (·.1)).zip (parts.map fun p=>a.eval p.2)/\VRs I β (ps.map fun p=>p.2.ev tm) (parts.map fun p=>a.eval p.2)/\ps.length=parts.length
 | [],ps,h=>by simp only [ZdC,Xa] at h;subst h;exact ⟨rfl,by simp [VRs],rfl⟩
 | (i,x)::r,ps,h=>by
  simp only [ZdC] at h
  split at h
  ·rename_i y ps' hy hps
   injection h with h;subst h
   obtain ⟨h1,h2,h3⟩:=ZiA T hps
   refine ⟨by simp [h1],?_,by simp [h3]⟩
   simp only [XB,VRs]
   exact ⟨_,_,rfl,ZD T hy,h2⟩
  ·cases h
theorem ZeQ {t:TypeId} {k bytes:Nat} {z:AVal} (h:ZcB P t=some (k,bytes,z)):∃ e i v,P.underlying t=some (.slice e)/\P.info? e=some i/\i.size=k/\i.bytes=bytes/\i.zero=some v/\ZdT v=some z/\0 < k/\0 < bytes/\z.cells.length=k:=by
 unfold ZcB at h
 split at h
 ·rename_i e hu
  split at h
  ·rename_i i z' hi hz
   split at h
   ·rename_i hc
    simp only [Xa,Xb] at h
    obtain ⟨rfl,rfl,rfl⟩:=h
    unfold ZbG at hz
    rw [hi] at hz
    simp only at hz
    split at hz
    ·rename_i v hv
     exact ⟨e,i,v,hu,hi,rfl,rfl,hv,hz,hc.1,hc.2.1,hc.2.2⟩
    ·cases hz
   ·cases h
  ·cases h
 ·cases h
theorem ZnR {k:Nat} {xs:List AVal} {us:Array Value} (hk:∀ x ∈ xs,x.cells.length=k) (hv:VRs I β (xs.flatMap AVal.cells) us.toList) (hI:I.le (I.add w.heap.size us)):LR (I.add w.heap.size us) β k xs w.heap.size 0 :=
 ZeZ hk (VRs.mono hI (Bmap.le.refl β) _ _ hv) (fun j u hu=>by simp only [Imm.add,XD,if_true];simpa using hu)
theorem Zpy {a:Act} (T:TR I β tm a.tmps) (R:Rel base w0 I0 I β σ w) (hb:KLt base w0) {t:TypeId} {n:Nat} {parts:Array (Nat×Operand)} {k bytes:Nat} {z:AVal} {own:Bool} {ps:List (Nat×Opd)} (he:ZcB P t=some (k,bytes,z)) (hn:n*k<=16777216) (hps:ZdC parts.toList=some ps)
  {sq:Nat} (hs:own=true->σ[sq]?=some .free) {O:Zq} {pure':Nat->Bool} {r:AVal} {c:Cls} (h:execI O pure' tm σ sq (.bslice own k n z ps)=some (r,σ',c)) :
  ∃ u w',(Instr.buildSlice t n (parts.map fun (i,x)=>(i,a.eval x))).run P w=.ok u w'/\Post base w0 I0 I β r σ' u w':=by
 obtain ⟨e,i,v,hu,hi,hik,hib,hv,hz,hk,hby,hzl⟩:=ZeQ he
 obtain ⟨hz1,hz2⟩:=ZcY (I:=I) (β:=β) hz
 simp only [execI] at h
 split at h
 ·cases h
 rename_i ys ts hview
 split at h
 case isFalse=>cases h
 rename_i hc
 simp only [Xc,Xv,beq_iff_eq,decide_eq_true_eq] at hc
 obtain ⟨⟨hy,hidx⟩,_⟩:=hc
 obtain ⟨c1,c2,c3⟩:=ZiA (a:=a) T hps
 obtain ⟨I1,hI1,R1,hal,_,hfz,_,hoth,_⟩:=Zet ts R
 obtain ⟨v1,v2⟩:=ZhX R1 (hfz (Zf9 hview)) (by rw [hal.viewAs];exact hview) (c2.mono hI1 (Bmap.le.refl β) _ _)
 have hyl:(ps.map (·.1)).length=ys.length:=by rw [Zaa v1];simp [c3]
 obtain ⟨cells',g1,g2,g3,g4,g5⟩:=Zg2 (I:=I1) (β:=β) (k:=k) (is:=ps.map (·.1)) (ys:=ys) (vs:=parts.toList.map fun p=>a.eval p.2) (xs:=XC n z) (cells:=(WE (n*k)).map (v.cells[· % v.cells.size]!)) hyl (fun y hy=>ZsV (v2 y hy)) v1 hy
  (by intro j hj;simp only [XL] at hj;obtain ⟨p,hp,rfl⟩:=hj;simpa using hidx p hp) (by intro x hx;rw [XU hx];exact hzl) (Zgt (ZcT hz) (hz1.mono hI1 (Bmap.le.refl β) _ _) hzl hk n)
 have hrun:(Instr.buildSlice t n (parts.map fun (i,x)=>(i,a.eval x))).run P w=.ok (.slice (some ⟨w.heap.size,0,none⟩) n n) { w with heap:=w.heap.push (.cells cells' e) }:=by
  have hpl:(parts.map fun (i,x)=>(i,a.eval x)).toList=(ps.map (·.1)).zip (parts.toList.map fun p=>a.eval p.2):=by rw [<-c1];simp
  have hle:¬16777216 < n*i.size:=by rw [hik];omega
  have hle':¬2 ^ 24 < n*k:=by omega
  by_cases hn0:n*k=0
  ·have hr0:WE 0=#[]:=rfl
   have g1':Instr.fill (fun i=>some (i*k,k)) #[] ((ps.map (·.1)).zip (parts.toList.map fun p=>a.eval p.2))=some cells':=by
    rw [hn0,hr0] at g1;simpa using g1
   simp only [Instr.buildSlice,Sem.run_bind,run_underlying hu,Result.andThen_ok,sizeOf,typeInfo,run_program,hi,Sem.run_pure,Sem.run_ite,hik,hn0,hpl]
   simp [hr0,g1',newRow]
  ·simp only [Instr.buildSlice,Sem.run_bind,run_underlying hu,Result.andThen_ok,sizeOf,typeInfo,run_program,hi,Sem.run_pure,Sem.run_ite,hik,hn0,hpl,zeroValue,hv,if_false]
   simp [show ¬16777216 < n*k by omega,hn0,g1,newRow,hv]
 have htree:ZA (((ps.map (·.1)).zip ys).foldl (fun l p=>l.set p.1 p.2) (XC n z))=true:=by
  have aux:∀ (l:List (Nat×AVal)) (xs:List AVal),(∀ p ∈ l,Z8 p.2.cells=true)->ZA xs=true->ZA (l.foldl (fun l p=>l.set p.1 p.2) xs)=true:=by
   intro l
   induction l with
   | nil=>intro xs _ h;exact h
   | cons p l ih =>
    intro xs hp hx
    refine ih _ (fun q hq=>hp q (by simp [hq])) ?_
    rw [Zbs] at hx ⊢
    intro x hm
    rcases Wg hm with hm | rfl
    ·exact hx x hm
    ·exact hp p (by simp)
  refine aux _ _ (fun p hp=>v2 p.2 (List.of_mem_zip hp).2) ?_
  rw [Zbs];intro x hx;rw [XU hx];exact hz2
 have hcs:cells'.size=n*k:=by rw [g5];simp
 have hn63:n<=9223372036854775807:=by
  have : n*1<=n*k:=Xav n hk
  omega
 generalize ((ps.map (·.1)).zip ys).foldl (fun l p=>l.set p.1 p.2) (XC n z)=xs at *
 have hxl:xs.length=n:=by rw [g4];simp
 split at h
 ·rename_i ho
  simp only [Xa,Xb] at h
  obtain ⟨rfl,rfl,rfl⟩:=h
  have hs1:(Zj σ ts)[sq]?=some .free:=by
   refine hoth sq _ ?_ (hs ho)
   intro hm
   obtain ⟨g,k',xs',hx | hx⟩:=Zf9 hview sq hm <;> (rw [hs ho] at hx;cases hx)
  obtain ⟨R',hle⟩:=R1.newOwn hb hs1 cells' e (.row 0 k xs) k n (Xw ⟨xs,rfl,hk,hn63,by omega,htree,g3,hcs,by rw [X2 (by simp [hcs,hxl])];exact g2⟩)
  refine ⟨_,_,hrun,Post.mk hI1 hle R' ?_⟩
  rw [Zbe]
  exact ⟨_,Bmap.put_same β sq 0 _,XO _,hn63,Xo ⟨_,rfl,rfl⟩⟩
 ·simp only [Xa,Xb] at h
  obtain ⟨rfl,rfl,rfl⟩:=h
  obtain ⟨R',hI⟩:=R1.newImm hb cells' e (0,0)
  refine ⟨_,_,hrun,Post.mk (hI1.trans hI) (Bmap.le.refl β) R' ?_⟩
  simp only [VR]
  refine ⟨some ⟨w.heap.size,0,none⟩,n,by rw [hxl],by omega,hn63,fun _=>hxl.symm,?_,htree⟩
  by_cases hx0:xs=[]
  ·exact Xo hx0
  ·exact Xw ⟨w.heap.size,0,k,rfl,hk,ZnR g3 g2 hI⟩
theorem Zpx {a:Act} (T:TR I β tm a.tmps) (R:Rel base w0 I0 I β σ w) (hb:KLt base w0) {t:TypeId} {n:Nat} {parts:Array (Nat×Operand)} {k bytes:Nat} {z:AVal} {ps:List (Nat×Opd)} (he:ZcB P t=some (k,bytes,z)) (hn:n*k<=16777216) (hps:ZdC parts.toList=some ps)
  {sq:Nat} (hs:σ[sq]?=some .free) {O:Zq} {pure':Nat->Bool} {r:AVal} {c:Cls} (h:execI O pure' tm σ sq (.rslice k n z ps)=some (r,σ',c)) :
  ∃ u w',(Instr.buildSlice t n (parts.map fun (i,x)=>(i,a.eval x))).run P w=.ok u w'/\Post base w0 I0 I β r σ' u w':=by
 obtain ⟨e,i,v,hu,hi,hik,hib,hv,hz,hk,hby,hzl⟩:=ZeQ he
 obtain ⟨hz1,hz2⟩:=ZcY (I:=I) (β:=β) hz
 simp only [execI] at h
 split at h
 case isFalse=>cases h
 rename_i hc
 simp only [Xc,Xv,beq_iff_eq,decide_eq_true_eq] at hc
 obtain ⟨⟨⟨hy0,hidx⟩,_⟩,hzok⟩:=hc
 obtain ⟨c1,c2,c3⟩:=ZiA (a:=a) T hps
 have hzip:(ps.map (·.1)).zip (ps.map fun p=>p.2.ev tm)=ps.map fun p=>(p.1,p.2.ev tm):=by
  rw [List.zip_map']
 have hy:∀ y ∈ ps.map (fun p=>p.2.ev tm),y.cells.length=k:=by
  intro y hy
  obtain ⟨p,hp,rfl⟩:=XL.1 hy
  exact (hy0 p hp).1
 have hyok:∀ y ∈ ps.map (fun p=>p.2.ev tm),∀ c ∈ y.cells,Zu c=true:=by
  intro y hy
  obtain ⟨p,hp,rfl⟩:=XL.1 hy
  exact (hy0 p hp).2
 have hntop:∀ y ∈ ps.map (fun p=>p.2.ev tm),y≠.top:=by
  intro y hy e
  have:=hyok y hy
  rw [e] at this
  have:=this .top (by simp [AVal.cells])
  cases this
 obtain ⟨cells',g1,g2,g3,g4,g5⟩:=Zg2 (I:=I) (β:=β) (k:=k) (is:=ps.map (·.1)) (ys:=ps.map fun p=>p.2.ev tm) (vs:=parts.toList.map fun p=>a.eval p.2) (xs:=XC n z) (cells:=(WE (n*k)).map (v.cells[· % v.cells.size]!)) (by simp) hntop c2 hy
  (by intro j hj;simp only [XL] at hj;obtain ⟨p,hp,rfl⟩:=hj;simpa using hidx p hp) (by intro x hx;rw [XU hx];exact hzl) (Zgt (ZcT hz) hz1 hzl hk n)
 have hrun:(Instr.buildSlice t n (parts.map fun (i,x)=>(i,a.eval x))).run P w=.ok (.slice (some ⟨w.heap.size,0,none⟩) n n) { w with heap:=w.heap.push (.cells cells' e) }:=by
  have hpl:(parts.map fun (i,x)=>(i,a.eval x)).toList=(ps.map (·.1)).zip (parts.toList.map fun p=>a.eval p.2):=by rw [<-c1];simp
  have hle:¬16777216 < n*i.size:=by rw [hik];omega
  have hle':¬2 ^ 24 < n*k:=by omega
  by_cases hn0:n*k=0
  ·have hr0:WE 0=#[]:=rfl
   have g1':Instr.fill (fun i=>some (i*k,k)) #[] ((ps.map (·.1)).zip (parts.toList.map fun p=>a.eval p.2))=some cells':=by
    rw [hn0,hr0] at g1;simpa using g1
   simp only [Instr.buildSlice,Sem.run_bind,run_underlying hu,Result.andThen_ok,sizeOf,typeInfo,run_program,hi,Sem.run_pure,Sem.run_ite,hik,hn0,hpl]
   simp [hr0,g1',newRow]
  ·simp only [Instr.buildSlice,Sem.run_bind,run_underlying hu,Result.andThen_ok,sizeOf,typeInfo,run_program,hi,Sem.run_pure,Sem.run_ite,hik,hn0,hpl,zeroValue,hv,if_false]
   simp [show ¬16777216 < n*k by omega,hn0,g1,newRow,hv]
 rw [hzip] at g2 g3 g4
 have hall:∀ x ∈ (ps.map fun p=>(p.1,p.2.ev tm)).foldl (fun l p=>l.set p.1 p.2) (XC n z),∀ c ∈ x.cells,Zu c=true:=by
  have aux:∀ (l:List (Nat×AVal)) (xs:List AVal),(∀ p ∈ l,∀ c ∈ p.2.cells,Zu c=true)->(∀ x ∈ xs,∀ c ∈ x.cells,Zu c=true)->∀ x ∈ l.foldl (fun l p=>l.set p.1 p.2) xs,∀ c ∈ x.cells,Zu c=true:=by
   intro l
   induction l with
   | nil=>intro xs _ h;exact h
   | cons p l ih =>
    intro xs hp hx
    refine ih _ (fun q hq=>hp q (by simp [hq])) ?_
    intro x hm
    rcases Wg hm with hm | rfl
    ·exact hx x hm
    ·exact hp p (by simp)
  refine aux _ _ (fun p hp=>?_) (fun x hx=>by rw [XU hx];exact hzok)
  obtain ⟨q,hq,rfl⟩:=XL.1 hp
  exact (hy0 q hq).2
 have hcs:cells'.size=n*k:=by rw [g5];simp
 have hn63:n<=9223372036854775807:=by
  have : n*1<=n*k:=Xav n hk
  omega
 generalize (ps.map fun p=>(p.1,p.2.ev tm)).foldl (fun l p=>l.set p.1 p.2) (XC n z)=xs at *
 have hxl:xs.length=n:=by rw [g4];simp
 simp only [Xa,Xb] at h
 obtain ⟨rfl,rfl,rfl⟩:=h
 obtain ⟨R',hle⟩:=R.newObj hb hs (.cells cells' e) (.rrow 0 k xs) k n (by simp [Zc,Bmap.put_same]) rfl (by simp)
  ⟨_,Bmap.put_same β sq 0 _,rfl,hk,hn63,by simp only [hxl];exact XO _,fun x hx=>⟨g3 x hx,hall x hx⟩,w.heap.size,cells',e,rfl,by simp,hcs,by rw [X2 (by simp [hcs,hxl])];exact VRs.mono (Imm.le.refl I) (Bmap.put_le (R.free sq 0 hs)) _ _ g2⟩
 refine ⟨_,_,hrun,Post.mk (Imm.le.refl I) hle R' ?_⟩
 rw [Zbe]
 exact ⟨_,Bmap.put_same β sq 0 _,XO _,hn63,Xo ⟨_,rfl,rfl⟩⟩
theorem ZnN (R:Rel base w0 I0 I β σ w) {t ty:TypeId} {k bytes:Nat} {z:AVal} (he:ZcB P t=some (k,bytes,z)) {x r:AVal} {v:Value} (hx:VR I β x v) {c:Cls} (h:ZI σ k z x=some (r,σ',c)) :
  ∃ u w',(Builtin.clear_ #[t] ty #[v]).run P w=.ok u w'/\Post base w0 I0 I β r σ' u w':=by
 obtain ⟨e,i,vz,hu,hi,hik,hib,hvz,hz,hk,hby,hzl⟩:=ZeQ he
 obtain ⟨hz1,hz2⟩:=ZcY (I:=I) (β:=β) hz
 unfold ZI at h
 split at h
 case h_2=>cases h
 rename_i t' g lo n
 split at h
 case h_2=>cases h
 rename_i g' k' xs hs
 split at h
 case isFalse=>cases h
 rename_i hc
 obtain ⟨rfl,rfl,hle,_⟩:=hc
 simp only [Xa,Xb] at h
 obtain ⟨rfl,rfl,rfl⟩:=h
 have ZeE:VR I β (.tup []) (.tuple #[]):=by simp [VR,VRs]
 by_cases hn:n=0
 ·subst hn
  have hsame:σ.set t' (.row g' k' (xs.take lo++XC 0 z++xs.drop (lo+0)))=σ:=by
   have : xs.take lo++XC 0 z++xs.drop (lo+0)=xs:=by simp
   rw [this]
   apply Wq
   intro j
   rw [Xj]
   split
   ·rename_i e;subst e
    split
    ·exact hs.symm
    ·rename_i hlt;rw [XT (by omega)]
   ·rfl
  rw [hsame]
  refine ⟨.tuple #[],w,?_,Post.here R ZeE⟩
  simp only [VR] at hx
  obtain ⟨bi,_,_,_,hv⟩:=hx
  rcases hv with ⟨b,_,rfl⟩ | ⟨_,_,A,rfl⟩ | ⟨_,_,_,A,rfl⟩
  ·simp [Builtin.clear_,run_underlying hu]
  ·cases A <;> simp [Builtin.clear_,run_underlying hu]
  ·cases A <;> simp [Builtin.clear_,run_underlying hu]
 ·obtain ⟨bi,e1,e2,e3,e4,e5,e6,e7,e8⟩:=R.blk _ _ hs
  subst e2
  simp only [VR] at hx
  obtain ⟨bi',f1,f2,f3,f4⟩:=hx
  rw [e1] at f1
  injection f1 with f1
  subst f1
  have hown:∀ b,Zc w β t' (.row g' bi.k xs) b↔bi.b=some b:=by simp [Zc,e1]
  rcases e8 with ⟨_,hz0⟩ | ⟨b,us,ty0,hbb,e8,e9,e10⟩
  ·omega
  have hv0:v=.slice (some ⟨b,lo*bi.k,none⟩) n (bi.cap - lo):=by
   rcases f4 with ⟨b',eb,rfl⟩ | ⟨_,hz0,_⟩ | ⟨_,_,hn0,_⟩
   ·rw [hbb] at eb;injection eb with eb;subst eb;rfl
   ·omega
   ·exact absurd hn0 hn
  subst hv0
  have hrep:=Zgt (I:=I) (β:=β) (ZcT hz) hz1 hzl hk n
  have hvl:=ZdQ (ZcT hz) hz1
  have hzc:Builtin.zeroCells vz.cells n=(WE (n*bi.k)).map (vz.cells[· % vz.cells.size]!):=by
   unfold Builtin.zeroCells
   rw [hvl,hzl]
  have hlen:((WE (n*bi.k)).map (vz.cells[· % vz.cells.size]!)).toList.length=n*bi.k:=by simp
  have hone:∀ v ∈ ((WE (n*bi.k)).map (vz.cells[· % vz.cells.size]!)).toList,v.oneCell'=true:=ZeL (fun y hy=>by
   obtain ⟨q,hq,hy⟩:=X1.1 hy
   rw [XU hq] at hy
   exact Zig (Zb6.1 hz2 y hy)) hrep
  have hmul:(lo+n)*bi.k<=us.size:=by rw [e9];exact X8 _ f2
  have hmul2:(lo+n)*bi.k<=xs.length*bi.k:=X8 _ hle
  rw [X0] at hmul hmul2
  have hst:=run_storeCells_at (P:=P) b (lo*bi.k) ty0 _ 0 us w e8 (by rw [hlen];omega) hone
  simp only [X4] at hst
  refine ⟨.tuple #[],_,?_,Post.here (R.write hs (b:=b) (by rw [hown,hbb]) (us.toList.take (lo*bi.k)++((WE (n*bi.k)).map (vz.cells[· % vz.cells.size]!)).toList++us.toList.drop (lo*bi.k+((WE (n*bi.k)).map (vz.cells[· % vz.cells.size]!)).toList.length)).toArray (by simp [Zc,e1,hbb]) ?_ rfl) ZeE⟩
  ·obtain ⟨m,rfl⟩:∃ m,n=m+1:=⟨n - 1,by omega⟩
   simp only [Builtin.clear_,zeroValue,typeInfo,hi,hvz,hzc,run_underlying hu,Sem.run_bind,Sem.run_pure,Result.andThen_ok,List.getElem?_toArray,XI,run_program]
   rw [hst]
   rfl
  ·have hxl:(xs.take lo++XC n z++xs.drop (lo+n)).length=xs.length:=by simp;omega
   refine ⟨bi,e1,rfl,e3,e4,by rw [hxl];exact e5,?_,?_,Xw ⟨b,_,ty0,hbb,setRow_heap w b us _ ty0 (0,0) e8,?_,?_⟩⟩
   ·exact Zes (Zes (ZeK e6 lo) (by rw [Zbs];intro x hx;rw [XU hx];exact hz2)) (Zfi e6 _)
   ·intro q hq
    simp only [Xn] at hq
    rcases hq with (hq | hq) | hq
    ·exact e7 q (List.mem_of_mem_take hq)
    ·rw [XU hq];exact hzl
    ·exact e7 q (List.mem_of_mem_drop hq)
   ·simp only [List.size_toArray,XA,WD,List.length_drop,XF,hlen]
    rw [<-e9];omega
   ·rw [hxl,Zc5,Zc5,<-ZeX e7,<-Zez e7]
    have h1:=ZcO e10 (lo*bi.k)
    have h2:=Zc0 e10 ((lo+n)*bi.k)
    have:=Zbj (Zbj h1 hrep) h2
    refine cast ?_ this
    congr 1
    rw [List.take_take,Nat.min_eq_left (by omega),List.drop_take]
    rw [X0]
    apply Wq
    intro j
    simp only [List.getElem?_append,XJ,List.getElem?_drop,XA,WD,XF,hlen]
    repeat' split
    all_goals first | rfl | omega | (congr 1;omega) | (exfalso;omega) | skip
    all_goals (first | (symm;rw [XP];simp;omega) | (rw [XP];simp;omega))
theorem Zna (R:Rel base w0 I0 I β σ w) (hb:KLt base w0) {t:TypeId} (ht:P.underlying t=some .string) {l:List UInt8} {sq:Nat} (hs:σ[sq]?=some .free) :
  ∃ u w',(Instr.range t (.string ⟨l.toArray⟩)).run P w=.ok u w'/\Post base w0 I0 I β (.ref sq 0) (σ.set sq (.siter l 0)) u w':=by
 obtain ⟨R',hle⟩:=R.newObj hb hs (.stringIter ⟨l.toArray⟩ 0) (.siter l 0) 1 1 (by simp [Zc,Bmap.put_same]) rfl (by simp)
  ⟨_,_,_,Bmap.put_same β sq 0 _,by simp⟩
 refine ⟨.pointer (some ⟨w.heap.size,0,none⟩),_,?_,Post.mk (Imm.le.refl I) hle R' ?_⟩
 ·simp [Instr.range,run_underlying ht]
 ·simp only [VR]
  exact ⟨_,_,_,Bmap.put_same β sq 0 _,rfl⟩
theorem ZxV (R:Rel base w0 I0 I β σ w) {t:Nat} {l:List UInt8} {p:Nat} (hs:σ[t]?=some (.siter l p)) {v:Value} (hv:VR I β (.ref t 0) v) (ty:TypeId) :
  ∃ u w',(Instr.next v true ty).run P w=.ok u w'/\(if p < l.length then Post base w0 I0 I β (.tup [.bool true,.int .i64 p,.int .i32 (Zdz l p).1]) (σ.set t (.siter l (p+(Zdz l p).2))) u w' else Post base w0 I0 I β (.tup [.bool false]) σ u w'):=by
 simp only [VR] at hv
 obtain ⟨b,k,c,hb,rfl⟩:=hv
 obtain ⟨b',k',c',e1,e2⟩:=R.blk _ _ hs
 rw [hb] at e1
 simp only [Xa,BI.mk.injEq] at e1
 obtain ⟨rfl,rfl,rfl⟩:=e1
 have hg:(getObj b).run P w=.ok (.stringIter ⟨l.toArray⟩ p) w:=by simp [getObj,Sem.run,e2]
 have hsz:(ByteArray.mk l.toArray).size=l.length:=by simp [Wm]
 have hlt:b < w.heap.size:=(Xy.1 e2).1
 by_cases hp:p < l.length
 ·have hso:∀ o,(setObj b o).run P w=.ok () { w with heap:=w.heap.setIfInBounds b o }:=by intro o;simp [setObj,Sem.run,e2]
  refine ⟨.tuple #[.bool true,goInt p,.int .i32 (Zdz l p).1],{ w with heap:=w.heap.setIfInBounds b (.stringIter ⟨l.toArray⟩ (p+(Zdz l p).2)) },?_,?_⟩
  ·simp [Instr.next,hg,hsz,hp,hso,Zdz]
  ·rw [if_pos hp]
   refine Post.here (R.putObj hs (by simp [Zc,hb]) _ (by simp [Zc,hb]) ⟨b,k,c,hb,?_⟩ rfl) ?_
   ·rw [WA hlt]
   ·simp [VR,VRs,goInt]
 ·refine ⟨.tuple #[.bool false],w,?_,?_⟩
  ·simp [Instr.next,hg,hsz,hp]
  ·rw [if_neg hp]
   refine Post.here R ?_
   simp [VR,VRs]
theorem Zrn (R:Rel base w0 I0 I β σ w) (hb:KLt base w0) {t:TypeId} {k bytes:Nat} {z:AVal} (he:ZcB P t=some (k,bytes,z)) {l c:Int} (h0:0<=l) (h1:l<=c) (h2:c<=9223372036854775807) (h3:bytes*c<=140737488355328) {sq:Nat} (hs:σ[sq]?=some .free) :
  ∃ u w',(Instr.makeSlice t (.int .i64 l) (.int .i64 c)).run P w=.ok u w'/\Post base w0 I0 I β (.sl sq 0 0 l.toNat) (σ.set sq (.row 0 k (XC c.toNat z))) u w':=by
 obtain ⟨e,i,v,hu,hi,hik,hib,hv,hz,hk,hby,hzl⟩:=ZeQ he
 obtain ⟨hz1,hz2⟩:=ZcY (I:=I) (β:=β) hz
 have wl:IntKind.i64.wrap l=l:=by rw [IntKind.wrap_i64];omega
 have wc:IntKind.i64.wrap c=c:=by rw [IntKind.wrap_i64];omega
 have hc0:¬c < 0:=by omega
 have hbc:¬(281474976710656:Int) < bytes*c:=by omega
 have hl0:¬l < 0:=by omega
 have hlc:¬c < l:=by omega
 have hvl:=ZdQ (ZcT hz) hz1
 have hrep:=Zgt (ZcT hz) hz1 hzl hk c.toNat
 have husz:((WE (c.toNat*k)).map (v.cells[· % v.cells.size]!)).size=c.toNat*k:=by simp
 obtain ⟨R',hle⟩:=R.newOwn hb hs ((WE (c.toNat*k)).map (v.cells[· % v.cells.size]!)) e (.row 0 k (XC c.toNat z)) k c.toNat (Xw ⟨_,rfl,hk,by omega,by simp,by rw [Zbs];intro x hx;rw [XU hx];exact hz2,by intro x hx;rw [XU hx];exact hzl,husz,by rw [X2 (by simp)];exact hrep⟩)
 refine ⟨.slice (some ⟨w.heap.size,0,none⟩) l.toNat c.toNat,_,?_,Post.mk (Imm.le.refl I) hle R' ?_⟩
 ·by_cases hn0:c.toNat*k=0
  ·have hr0:WE 0=#[]:=rfl
   simp [Instr.makeSlice,run_underlying hu,asInt,asIntOf,typeInfo,hi,hib,wl,wc,sizeOf,hik,hn0,hc0,hbc,hl0,hlc,newRow,hr0]
  ·simp [Instr.makeSlice,run_underlying hu,asInt,asIntOf,typeInfo,hi,hib,wl,wc,sizeOf,hik,hn0,hc0,hbc,hl0,hlc,newRow,zeroValue,hv]
 ·rw [Zbe]
  exact ⟨_,Bmap.put_same β sq 0 _,by simp;omega,by simp;omega,Xo ⟨_,rfl,rfl⟩⟩
theorem ZoB {t e:TypeId} (hu:P.underlying t=some (.slice e)) (he:P.underlying e=some (.int .u8)) (R:Rel base w0 I0 I β σ w) {t' g k lo n:Nat} {xs:List AVal} (hs:σ[t']?=some (.row g k xs)) (hn:lo+n<=xs.length) (h0:0 < n) {v:Value} (hx:VR I β (.sl t' g lo n) v) :
  ∃ w',(convert t t v).run P w=.ok v w'/\Post base w0 I0 I β (.lst false ((xs.drop lo).take n)) (σ.set t' (.frow g k xs)) v w':=by
 have hsl:t' < σ.length:=(Xe.1 hs).1
 have hx0:=hx
 simp only [VR] at hx
 obtain ⟨bi,f1,f2,f3,f4⟩:=hx
 obtain ⟨bi',h1,h2,h3,h4,h5,h6,h7,h8⟩:=R.blk _ _ hs
 rw [f1] at h1;injection h1 with h1;subst h1
 rcases f4 with ⟨b,hbb,rfl⟩ | ⟨_,hc,_⟩ | ⟨_,_,hz,_⟩
 ·rcases h8 with ⟨h8,_⟩ | ⟨b',us,ty,eb,h8,h9,h10⟩
  ·rw [hbb] at h8;cases h8
  rw [hbb] at eb;injection eb with eb;subst eb
  have hown:Zc w β t' (.row g k xs) b:=by simp [Zc,f1,hbb]
  have ho:=R.own t' _ b hs hown
  let w':World:=w.freeze ⟨b,us.size,none⟩ 1
  have hhb:w'.heap[b]?=some (.cells us ty (us.size,us.size+1)):=by
   simp only [w',World.freeze,Nat.one_ne_zero,if_false,Xam,if_true,h8,XM]
   simp
  have hho:∀ b',b'≠b->w'.heap[b']?=w.heap[b']?:=by
   intro b' hne
   simp only [w',World.freeze,Nat.one_ne_zero,if_false,Xam]
   rw [if_neg (fun e=>hne e.symm)]
  have hsz:w'.heap.size=w.heap.size:=by simp [w',World.freeze]
  let I':Imm:=fun b' o=>if b'=b/\o < xs.length*k then us[o]? else I b' o
  have hle:I.le I':=by
   intro b' o u hu
   have : b'≠b:=by rintro rfl;rw [ho.2 o] at hu;cases hu
   simp only [I',this,false_and,if_false]
   exact hu
  have R':Rel base w0 I0 I' β (σ.set t' (.frow g k xs)) w':=by
   refine R.upd hle (Bmap.le.refl β) ⟨rfl,rfl,rfl,by rw [hsz];exact XO _,fun q hq=>hho q (by rintro rfl;exact ho.1 hq)⟩ ?_ ?_ t' _ rfl hsl (fun _ _ _=>rfl) ?_ ?_ (fun b e=>by cases e) (fun g' hg=>R.gen t' _ g' hs (by simpa [Zb] using hg)) (by simp)
   ·intro b' o hb'
    have : b'≠b:=by rintro rfl;exact ho.1 hb'
    simp only [I',this,false_and,if_false]
   ·intro b' o u hu
    simp only [I'] at hu
    split at hu
    ·rename_i hc
     rw [hc.1,Zdg hhb];exact hu
    ·have:=R.imm _ _ _ hu
     have hne:b'≠b:=by rintro rfl;rw [ho.2 o] at hu;cases hu
     rw [<-this]
     simp only [World.cell?,hho b' hne]
   ·intro t'' x b' hne hx hb'
    have hbb':b'≠b:=by rintro rfl;exact hne (R.apart t'' x t' _ b' hx hs hb' hown)
    refine ⟨hho b' hbb',fun o=>?_,by simp [Zc]⟩
    simp only [I',hbb',false_and,if_false]
    exact (R.own t'' x b' hx hb').2 o
   ·refine ⟨bi,f1,h2,h3,h4,h5,h6,Xw ⟨b,hbb,?_⟩⟩
    refine ZeZ h7 (VRs.mono hle (Bmap.le.refl β) _ _ h10) (fun j u hu=>?_)
    rw [XJ] at hu
    split at hu
    ·rename_i hj
     simp only [I',XD,true_and,hj,if_true]
     simpa using hu
    ·cases hu
  refine ⟨w',?_,Post.mk hle (Bmap.le.refl β) R' (Zha R' (by rw [Xj,if_pos rfl,if_pos hsl]) hn (hx0.mono hle (Bmap.le.refl β) _ _))⟩
  have hshape:w.shape? b=some (ty,us.size):=by simp [World.shape?,h8]
  simp [convert,run_underlying hu,run_underlying he,markStringish,hshape,w']
 ·omega
 ·omega
end
end
section
open Go.RowKit
section
variable {base:Nat->Prop} {w0 w w':World} {I0 I I':Imm} {β β':Bmap} {σ σ':Za} {ρ:Rho}
def ZdE (ρ:Rho) (β β':Bmap):Prop:=∀ t g t' g' bi,ρ t g=some (t',g')->β t g=some bi->β' t' g'=some bi
mutual
theorem Zeg (hρ:ZdE ρ β β'):∀ (x:AVal) (v:Value),VR I β x v->VR I β' (Ze ρ x) v
 | .top,_,h=>by simp only [Ze,VR]
 | .any,_,h=>by simpa only [Ze,VR] using h
 | .int _ _,_,h=>by simpa only [Ze,VR] using h
 | .bool _,_,h=>by simpa only [Ze,VR] using h
 | .str _,_,h=>by simpa only [Ze,VR] using h
 | .nilp,_,h=>by simpa only [Ze,VR] using h
 | .nilm,_,h=>by simpa only [Ze,VR] using h
 | .nili,_,h=>by simpa only [Ze,VR] using h
 | .pan _,_,h=>by simp only [VR] at h
 | .iface t x,_,h=>by
  simp only [Ze,VR] at h ⊢
  obtain ⟨u,h1,h2⟩:=h
  exact ⟨u,h1,Zeg hρ x u h2⟩
 | .ref t o,_,h=>by
  simp only [VR] at h
  obtain ⟨b,k,c,h1,h2⟩:=h
  simp only [Ze]
  split
  ·rename_i t' e
   simp only [VR]
   exact ⟨b,k,c,hρ _ _ _ _ _ e h1,h2⟩
  ·subst h2;simp only [VR];exact ⟨rfl,rfl⟩
 | .map t,_,h=>by
  simp only [VR] at h
  obtain ⟨b,k,c,h1,h2⟩:=h
  simp only [Ze]
  split
  ·rename_i t' e
   simp only [VR]
   exact ⟨b,k,c,hρ _ _ _ _ _ e h1,h2⟩
  ·subst h2;simp only [VR];exact ⟨rfl,rfl⟩
 | .eref t g i o,_,h=>by
  simp only [VR] at h
  obtain ⟨b,k,c,h1,h2⟩:=h
  simp only [Ze]
  split
  ·rename_i t' g' e
   simp only [VR]
   exact ⟨b,k,c,hρ _ _ _ _ _ e h1,h2⟩
  ·subst h2;simp only [VR];exact ⟨rfl,rfl⟩
 | .sl t g lo n,_,h=>by
  simp only [VR] at h
  obtain ⟨bi,h1,h2,h3,h4⟩:=h
  simp only [Ze]
  split
  ·rename_i t' g' e
   simp only [VR]
   exact ⟨bi,hρ _ _ _ _ _ e h1,h2,h3,h4⟩
  ·simp only [VR]
   rcases h4 with ⟨_,_,rfl⟩ | ⟨_,_,_,rfl⟩ | ⟨_,_,_,_,rfl⟩ <;> exact ⟨rfl,rfl⟩
 | .iptr cs o,_,h=>by
  simp only [Ze,VR] at h ⊢
  obtain ⟨b,off,h1,h2,h3⟩:=h
  exact ⟨b,off,h1,CR.of_tree h3 h2,h3⟩
 | .lst x xs,_,h=>by
  simp only [Ze,VR] at h ⊢
  obtain ⟨A,cap,h1,h2,h3,h4,h5,h6⟩:=h
  refine ⟨A,cap,h1,h2,h3,h4,?_,h6⟩
  rcases h5 with h5 | ⟨b,off,k,e,hk,h5⟩
  ·exact Xo h5
  ·exact Xw ⟨b,off,k,e,hk,(LR.tree k xs b off h6 h5).mono (Imm.le.refl I) (ZeJ β') _ _ _ _⟩
 | .agg cs,_,h=>by
  simp only [Ze,VR] at h ⊢
  obtain ⟨us,h1,h2⟩:=h
  exact ⟨us,h1,Zcg hρ cs us.toList h2⟩
 | .tup cs,_,h=>by
  simp only [Ze,VR] at h ⊢
  obtain ⟨us,h1,h2⟩:=h
  exact ⟨us,h1,Zcg hρ cs us.toList h2⟩
 | .fn f cs,_,h=>by
  simp only [Ze,VR] at h ⊢
  obtain ⟨fs,us,h1,h0,h2⟩:=h
  exact ⟨fs,us,h1,h0,Zcg hρ cs (fs.toList++us.toList) h2⟩
theorem Zcg (hρ:ZdE ρ β β'):∀ (xs:List AVal) (vs:List Value),VRs I β xs vs->VRs I β' (ZG ρ xs) vs
 | [],_,h=>by simpa only [ZG,VRs] using h
 | x::xs,_,h=>by
  simp only [ZG,VRs] at h ⊢
  obtain ⟨v,vs',h1,h2,h3⟩:=h
  exact ⟨v,vs',h1,Zeg hρ x v h2,Zcg hρ xs vs' h3⟩
end
theorem Zcp:∀ (xs:List AVal),ZG ρ xs=xs.map (Ze ρ)
 | []=>rfl
 | x::xs=>by simp only [ZG,XB,Zcp xs]
def ZbS:Zf->Bool
 | .var _ | .map _ | .siter _ _ | .opq | .book _ _ | .rmap _=>true
 | _=>false
theorem ZiE (x:AVal):(Ze ρ x).cells=x.cells.map (Ze ρ):=by
 cases x with
 | agg cs=>simp only [Ze,AVal.cells,Zcp]
 | ref t o =>
  show (Ze ρ (.ref t o)).cells=[Ze ρ (.ref t o)]
  simp only [Ze]
  generalize ρ t 0=q
  rcases q with _ | ⟨t',_ | g⟩ <;> rfl
 | eref t g i o =>
  show (Ze ρ (.eref t g i o)).cells=[Ze ρ (.eref t g i o)]
  simp only [Ze]
  generalize ρ t g=q
  rcases q with _ | ⟨t',g'⟩ <;> rfl
 | sl t g i o =>
  show (Ze ρ (.sl t g i o)).cells=[Ze ρ (.sl t g i o)]
  simp only [Ze]
  generalize ρ t g=q
  rcases q with _ | ⟨t',g'⟩ <;> rfl
 | map t =>
  show (Ze ρ (.map t)).cells=[Ze ρ (.map t)]
  simp only [Ze]
  generalize ρ t 0=q
  rcases q with _ | ⟨t',_ | g⟩ <;> rfl
 | _=>simp only [Ze,AVal.cells,XB,X6]
theorem Zn4 (x:AVal):x.cells.length=(Ze ρ x).cells.length/\(∀ c ∈ (Ze ρ x).cells,∃ c0 ∈ x.cells,c=Ze ρ c0):=by
 rw [ZiE]
 exact ⟨by simp,fun c hc=>by obtain ⟨c0,h0,rfl⟩:=XL.1 hc;exact ⟨c0,h0,rfl⟩⟩
theorem ZrJ {c:AVal} (h:Zu c=true):Zu (Ze ρ c)=true:=by
 cases c <;> first
  | (simp [Zu] at h;done)
  | (simp only [Ze];rfl)
  | (simp only [Ze];split <;> rfl)
theorem ZjZ:∀ (xs:List AVal),(ZG ρ xs).flatMap AVal.cells=ZG ρ (xs.flatMap AVal.cells)
 | []=>rfl
 | x::xs=>by
  rw [ZG,XR,XR,ZjZ xs,Zcp,Zcp,Wd]
  rw [ZiE]
theorem Zj4 (hρ:ZdE ρ β β') {t t':Nat} {x:Zf} {g':Nat} (hg:∀ bi,β t (Zb x)=some bi->β' t' g'=some bi) (hv:ZbS x=true->g'=0) (h:BR I β w t x):BR I β' w t' (Zo ρ g' x):=by
 cases x with
 | free=>trivial
 | map es =>
  obtain ⟨b,k,c,arr,clk,h1,h2,h3,h4,h5,h6⟩:=h
  have e:=hv rfl
  subst e
  refine ⟨b,k,c,arr,clk,hg _ h1,h2,?_,?_,?_,h6⟩
  ·rw [Wx]
   refine VRs.of_cells (β:=β) ?_ h3
   intro x hx
   obtain ⟨p,hp,rfl⟩:=XL.1 hx
   have:=h5 p hp
   show Z8 p.1.cells=true
   generalize p.1=q at this ⊢
   cases q <;> simp [Zcz] at this <;> rfl
  ·have:=Zcg hρ _ _ h4
   rw [Zcp,Wx] at this
   rw [Wx]
   exact this
  ·intro p hp
   obtain ⟨q,hq,rfl⟩:=XL.1 hp
   exact h5 q hq
 | rmap es =>
  obtain ⟨b,k,c,arr,clk,h1,h2,h3,h4,h5,h6⟩:=h
  have e:=hv rfl
  subst e
  refine ⟨b,k,c,arr,clk,hg _ h1,h2,?_,?_,?_,h6⟩
  ·rw [Wx]
   refine VRs.of_cells (β:=β) ?_ h3
   intro x hx
   obtain ⟨p,hp,rfl⟩:=XL.1 hx
   have:=h5 p hp
   show Z8 p.1.cells=true
   generalize p.1=q at this ⊢
   cases q <;> simp [Zcz] at this <;> rfl
  ·have:=Zcg hρ _ _ h4
   rw [Zcp,Wx] at this
   rw [Wx]
   exact this
  ·intro p hp
   obtain ⟨q,hq,rfl⟩:=XL.1 hp
   exact h5 q hq
 | opq =>
  obtain ⟨bi,h⟩:=h
  have e:=hv rfl
  subst e
  exact ⟨bi,hg _ h⟩
 | book n p =>
  obtain ⟨b,k,c,vs,h1,h3,h2⟩:=h
  have e:=hv rfl
  subst e
  have h3':=Zcg hρ _ _ h3
  rw [Zcp,Wx] at h3'
  exact ⟨b,k,c,vs,hg _ h1,by rw [Wx];exact h3',by rw [Wx];exact h2⟩
 | siter l p =>
  obtain ⟨b,k,c,h1,h2⟩:=h
  have e:=hv rfl
  subst e
  exact ⟨b,k,c,hg _ h1,h2⟩
 | rrow g k xs =>
  obtain ⟨bi,h1,h2,h3,h4,h5,h6,b,us,ty,e,h8,h9,h10⟩:=h
  refine ⟨bi,hg _ h1,h2,h3,h4,by rw [Zcp,Wz];exact h5,?_,b,us,ty,e,h8,h9,?_⟩
  ·intro x hx
   rw [Zcp] at hx
   obtain ⟨y,hy,rfl⟩:=XL.1 hx
   obtain ⟨q1,q2⟩:=Zn4 (ρ:=ρ) y
   refine ⟨by rw [<-q1];exact (h6 y hy).1,fun c hc=>?_⟩
   obtain ⟨c0,hc0,rfl⟩:=q2 c hc
   exact ZrJ ((h6 y hy).2 c0 hc0)
  ·rw [ZjZ,show (ZG ρ xs).length=xs.length by rw [Zcp,Wz]]
   exact Zcg hρ _ _ h10
 | var cs =>
  obtain ⟨b,k,c,us,ty,h1,h2,h3⟩:=h
  have e:=hv rfl
  subst e
  exact ⟨b,k,c,us,ty,hg _ h1,h2,Zcg hρ _ _ h3⟩
 | row g k xs =>
  obtain ⟨bi,h1,h2,h3,h4,h5,h6,h7,h8⟩:=h
  refine ⟨bi,hg _ h1,h2,h3,h4,h5,h6,h7,?_⟩
  rcases h8 with h8 | ⟨b,us,ty,e,h8,h9,h10⟩
  ·exact Xo h8
  ·refine Xw ⟨b,us,ty,e,h8,h9,VRs.of_cells (β:=β) ?_ h10⟩
   intro x hx
   have:=Zb6.1 (ZkF h6) x hx
   cases x <;> simp_all [Zad,AVal.cells,Z8]
 | frow g k xs =>
  obtain ⟨bi,h1,h2,h3,h4,h5,h6,h7⟩:=h
  refine ⟨bi,hg _ h1,h2,h3,h4,h5,h6,?_⟩
  rcases h7 with h7 | ⟨b,e,h7⟩
  ·exact Xo h7
  ·exact Xw ⟨b,e,(LR.tree _ _ _ _ h6 h7).mono (Imm.le.refl I) (ZeJ β') _ _ _ _⟩
theorem Zk8 {t t' g':Nat} {x:Zf} (hg:∀ bi,β t (Zb x)=some bi->β' t' g'=some bi) (hv:ZbS x=true->g'=0) (h:BR I β w t x):Zc w β' t' (Zo ρ g' x)=Zc w β t x:=by
 cases x with
 | free=>rfl
 | opq=>rfl
 | rmap=>rfl
 | book n p =>
  obtain ⟨b,k,c,vs,h1,_⟩:=h
  have e:=hv rfl
  subst e
  have h2:=hg _ h1
  have h1':β t 0=some ⟨some b,k,c⟩:=h1
  funext b';simp [Zc,Zo,h1',h2]
 | map es =>
  obtain ⟨b,k,c,_,_,h1,_⟩:=h
  have e:=hv rfl
  subst e
  have h2:=hg _ h1
  have h1':β t 0=some ⟨some b,k,c⟩:=h1
  funext b';simp [Zc,Zo,h1',h2]
 | siter l p =>
  obtain ⟨b,k,c,h1,_⟩:=h
  have e:=hv rfl
  subst e
  have h2:=hg _ h1
  have h1':β t 0=some ⟨some b,k,c⟩:=h1
  funext b';simp [Zc,Zo,h1',h2]
 | rrow g k xs =>
  obtain ⟨bi,h1,_⟩:=h
  have h2:=hg _ h1
  have h1':β t g=some bi:=h1
  funext b';simp [Zc,Zo,h1',h2]
 | frow=>rfl
 | var cs =>
  obtain ⟨b,k,c,us,ty,h1,_⟩:=h
  have e:=hv rfl
  subst e
  have h2:=hg _ h1
  have h1':β t 0=some ⟨some b,k,c⟩:=h1
  funext b';simp [Zc,Zo,h1',h2]
 | row g k xs =>
  obtain ⟨bi,h1,_⟩:=h
  have h2:=hg _ h1
  have h1':β t g=some bi:=h1
  funext b';simp [Zc,Zo,h1',h2]
theorem Zju {t t' g':Nat} {x:Zf} (hg:∀ bi,β t (Zb x)=some bi->β' t' g'=some bi) (hv:ZbS x=true->g'=0) (h:BR I β w t x) (b:Nat):ZaS β' t' (Zo ρ g' x) b↔ZaS β t x b:=by
 cases x with
 | rmap es =>
  obtain ⟨b,k,c,_,_,h1,_⟩:=h
  have e:=hv rfl
  subst e
  have h2:=hg _ h1
  have h1':β t 0=some ⟨some b,k,c⟩:=h1
  simp [ZaS,Zo,h1',h2]
 | _=>exact XaN
theorem Zkk {g':Nat} {x:Zf} (hv:ZbS x=true->g'=0) (hx:okB x=true):Zb (Zo ρ g' x)=g':=by
 cases x with
 | var cs=>simp [Zo,Zb,hv rfl]
 | row=>rfl
 | frow=>rfl
 | rrow=>rfl
 | map es=>simp [Zo,Zb,hv rfl]
 | rmap es=>simp [Zo,Zb,hv rfl]
 | siter l p=>simp [Zo,Zb,hv rfl]
 | opq=>simp [Zo,Zb,hv rfl]
 | book n p=>simp [Zo,Zb,hv rfl]
 | free=>simp [okB] at hx
theorem Zg0:∀ {ids:List Nat} {t i j:Nat},Zy t ids i=some j->∃ k,j=i+k/\ids[k]?=some t
 | [],t,i,j,h=>by simp [Zy] at h
 | x::xs,t,i,j,h=>by
  simp only [Zy] at h
  split at h
  ·rename_i e;injection h with h;subst h e;exact ⟨0,by simp,rfl⟩
  ·obtain ⟨k,h1,h2⟩:=Zg0 h
   exact ⟨k+1,by omega,by simpa using h2⟩
theorem Zj9 {m:Nat} {ids:List Nat}:∀ {ts:List Nat} {j i:Nat},(Zm σ m ids ρ ts j)[i]?=(ts[i]?).map fun t=>Zo ρ (Zt m (j+i) (σ.getD t .free)) (σ.getD t .free)
 | [],j,i=>by simp [Zm]
 | t::ts,j,0=>by simp [Zm]
 | t::ts,j,i+1=>by
  simp only [Zm,XZ]
  rw [Zj9 (ts:=ts) (j:=j+1) (i:=i)]
  congr 2
  funext t
  rw [show j+1+i=j+(i+1) by omega]
theorem Zf1 {m:Nat} {ids:List Nat}:∀ {ts:List Nat} {j:Nat},(Zm σ m ids ρ ts j).length=ts.length
 | [],j=>rfl
 | t::ts,j=>by simp only [Zm,List.length_cons,Zf1]
def Zbb (σ:Za) (m:Nat) (ids:List Nat) (β:Bmap):Bmap:=fun j g=>match ids[j]? with
 | some t=>match σ[t]? with
  | some b=>if okB b then (if g=Zt m j b then β t (Zb b) else if j < m/\g=0 then β t 0 else none) else none
  | none=>none
 | none=>none
theorem Zhu {m:Nat} {ids:List Nat}:ZdE (Zg σ m ids) β (Zbb σ m ids β):=by
 intro t g t' g' bi h hb
 unfold Zg at h
 split at h
 ·rename_i j hj
  obtain ⟨k,e,hk⟩:=Zg0 hj
  have e':j=k:=by omega
  subst e'
  have fin:∀ b,σ[t]?=some b->okB b=true->(if g=Zb b then some (j,Zt m j b) else (none:Option (Nat×Nat)))=some (t',g')->Zbb σ m ids β t' g'=some bi:=by
   intro b hb' hok h
   by_cases e:g=Zb b
   ·rw [if_pos e] at h
    simp only [Xa,Xb] at h
    obtain ⟨rfl,rfl⟩:=h
    unfold Zbb
    simp only [hk,hb',hok,if_true]
    rw [<-e];exact hb
   ·rw [if_neg e] at h;cases h
  split at h
  ·cases h
  ·rename_i b n1 hb'
   refine fin b hb' ?_ h
   cases b with
   | free=>exact absurd rfl n1
   | map es=>rfl
   | rmap es=>rfl
   | siter=>rfl
   | opq=>rfl
   | book=>rfl
   | rrow=>rfl
   | var=>rfl
   | row=>rfl
   | frow=>rfl
  ·cases h
 ·cases h
theorem Zsw {m j:Nat} {x:Zf} (h:ZbS x=true):Zt m j x=0:=by cases x <;> simp [ZbS] at h <;> simp [Zt,Zb]
theorem Rel.pick (R:Rel base w0 I0 I β σ w) {K':Nat->Prop} {w1:World} {I1:Imm} {m:Nat} {ids:List Nat} (hnd:ids.Nodup) (h1:KB K' w1 w) (h2:∀ b o,K' b->I b o=I1 b o) (h3:∀ t x b,t ∈ ids->σ[t]?=some x->Zc w β t x b->¬K' b) (h4:∀ t x b,t ∈ ids->σ[t]?=some x->ZaS β t x b->K' b) :
  Rel K' w1 I1 I (Zbb σ m ids β) (Zm σ m ids (Zg σ m ids) ids 0) w:=by
 have look:∀ j x',(Zm σ m ids (Zg σ m ids) ids 0)[j]?=some x'->∃ t,ids[j]?=some t/\(x'=.free/\(∀ g,Zbb σ m ids β j g=none)\/∃ x,σ[t]?=some x/\okB x=true/\x'=Zo (Zg σ m ids) (Zt m j x) x/\Zbb σ m ids β j (Zt m j x)=β t (Zb x)):=by
  intro j x' h
  rw [Zj9,Xh] at h
  obtain ⟨t,ht,h⟩:=h
  simp only [XD] at h
  refine ⟨t,ht,?_⟩
  cases hx:σ[t]? with
  | none =>
   left
   have : σ.getD t .free=.free:=by simp [Xd,hx]
   rw [this] at h
   exact ⟨h.symm,fun g=>by simp [Zbb,ht,hx]⟩
  | some x =>
   have hd:σ.getD t .free=x:=by simp [Xd,hx]
   rw [hd] at h
   by_cases hok:okB x=true
   ·exact Xw ⟨x,rfl,hok,h.symm,by simp [Zbb,ht,hx,hok]⟩
   ·left
    refine ⟨?_,fun g=>by simp [Zbb,ht,hx,hok]⟩
    rw [<-h]
    cases x <;> simp_all [okB,Zo]
 have hvar:∀ (j:Nat) (x:Zf),ZbS x=true->Zt m j x=0:=fun j x h=>Zsw h
 have hown:∀ j x' b,(Zm σ m ids (Zg σ m ids) ids 0)[j]?=some x'->Zc w (Zbb σ m ids β) j x' b->∃ t x,ids[j]?=some t/\σ[t]?=some x/\Zc w β t x b:=by
  intro j x' b h hb
  obtain ⟨t,ht,⟨rfl,_⟩ | ⟨x,hx,hok,rfl,hβ⟩⟩:=look j x' h
  ·cases hb
  ·rw [Zk8 (fun bi h=>by rw [hβ];exact h) (hvar j x) (R.blk t x hx)] at hb
   exact ⟨t,x,ht,hx,hb⟩
 refine ⟨h1,h2,R.imm,?_,?_,?_,?_,?_,?_,R.glob,?_⟩
 ·intro j x' h
  obtain ⟨t,ht,⟨rfl,_⟩ | ⟨x,hx,hok,rfl,hβ⟩⟩:=look j x' h
  ·trivial
  ·exact Zj4 Zhu (fun bi h=>by rw [hβ];exact h) (hvar j x) (R.blk t x hx)
 ·intro j x' b h hb
  obtain ⟨t,x,ht,hx,hb⟩:=hown j x' b h hb
  exact ⟨h3 t x b (Xq ht) hx hb,(R.own t x b hx hb).2⟩
 ·intro j x j' x' b h h' hb hb'
  obtain ⟨t,y,ht,hy,e⟩:=hown j x b h hb
  obtain ⟨t',y',ht',hy',e'⟩:=hown j' x' b h' hb'
  have:=R.apart t y t' y' b hy hy' e e'
  subst this
  exact (Xaj (Xe.1 ht).1 hnd).1 (ht.trans ht'.symm)
 ·intro j g h
  rw [Zf1] at h
  unfold Zbb
  rw [XT h]
 ·intro j g h
  obtain ⟨t,ht,⟨_,h⟩ | ⟨x,hx,hok,h,hβ⟩⟩:=look j _ h
  ·exact h g
  ·cases x <;> first | (simp only [okB] at hok;cases hok;done) | (simp only [Zo] at h;cases h;done)
 ·intro j b g h hg
  obtain ⟨t,ht,⟨_,h⟩ | ⟨x,hx,hok,rfl,hβ⟩⟩:=look j _ h
  ·exact h g
  ·rw [Zkk (hvar j x) hok] at hg
   simp only [Zbb,ht,hx,hok,if_true]
   rw [if_neg (by omega),if_neg (by omega)]
 ·intro j x' b h hb
  obtain ⟨t,ht,⟨rfl,_⟩ | ⟨x,hx,hok,rfl,hβ⟩⟩:=look j x' h
  ·cases hb
  ·exact h4 t x b (Xq ht) hx ((Zju (fun bi h=>by rw [hβ];exact h) (hvar j x) (R.blk t x hx) b).1 hb)
theorem Zex:∀ (n:Nat) (todo acc:List Nat),acc.Nodup->(Zn σ n todo acc).Nodup/\∃ r,Zn σ n todo acc=acc++r
 | 0,todo,acc,h=>⟨h,[],by simp [Zn]⟩
 | n+1,[],acc,h=>⟨h,[],by simp [Zn]⟩
 | n+1,t::todo,acc,h=>by
  simp only [Zn]
  split
  ·exact Zex n todo acc h
  ·rename_i hc
   have hnd:(acc++[t]).Nodup:=by
    rw [WV]
    refine ⟨h,by simp,?_⟩
    intro a ha b hb
    simp only [XV] at hb
    subst hb
    rintro rfl
    simp [ha] at hc
   obtain ⟨h1,r,h2⟩:=Zex n (ZF (σ.getD t .free)++todo) (acc++[t]) hnd
   exact ⟨h1,t::r,by rw [h2];simp⟩
def KeptE (m:Nat) (β β':Bmap):Prop:=∀ t,t < m->∀ bi,β t 0=some bi->β' t 0=some bi
theorem KeptE.refl (m:Nat) (β:Bmap):KeptE m β β:=fun _ _ _ h=>h
theorem KeptE.trans {m:Nat} {a b c:Bmap} (h:KeptE m a b) (h':KeptE m b c):KeptE m a c:=fun t ht bi e=>h' t ht bi (h t ht bi e)
theorem KeptE.of_le {m:Nat} (h:β.le β'):KeptE m β β':=fun t _ bi e=>h t 0 bi e
theorem ZkV (R:Rel base w0 I0 I β σ w) (m:Nat) (roots:List AVal):∃ β',KeptE m β β'/\Rel base w0 I0 I β' (gcA m roots σ).2 w/\ZdE (Zg σ m (Zx m roots σ)) β β':=by
 obtain ⟨hnd,r,hr⟩:=Zex (σ:=σ) 1000 (ZM roots++(Wn m).flatMap fun t=>ZF (σ.getD t .free)) (Wn m) List.nodup_range
 have hids:Zx m roots σ=Wn m++r:=hr
 refine ⟨Zbb σ m (Zx m roots σ) β,?_,R.pick hnd R.below R.old (fun t x b _ hx hb=>(R.own t x b hx hb).1) (fun t x b _ hx hb=>R.ro t x b hx hb),Zhu⟩
 intro t ht bi hb
 have h1:(Zx m roots σ)[t]?=some t:=by rw [hids,List.getElem?_append_left (by simpa using ht)];simp [ht]
 unfold Zbb
 simp only [h1]
 cases hx:σ[t]? with
 | none =>
  have : β t 0=none:=R.fresh t 0 (by simpa using hx)
  rw [this] at hb;cases hb
 | some x =>
  simp only
  have hok:okB x=true:=by
   cases x with
   | free=>rw [R.free t 0 hx] at hb;cases hb
   | map es=>rfl
   | rmap es=>rfl
   | siter=>rfl
   | opq=>rfl
   | book=>rfl
   | rrow=>rfl
   | var=>rfl
   | row=>rfl
   | frow=>rfl
  rw [if_pos hok]
  split
  ·rename_i e
   have : Zb x=0:=by
    unfold Zt at e
    by_cases h0:Zb x=0
    ·exact h0
    ·rw [if_pos ⟨ht,h0⟩] at e;cases e
   rw [this];exact hb
  ·rw [if_pos ⟨ht,trivial⟩];exact hb
theorem Zi8:∀ (tm:Tms) (n:Nat),tget ((tm.map (·.1)).zip (ZG ρ (tm.map (·.2)))) n=Ze ρ (tget tm n)
 | [],n=>by simp [tget,Ze]
 | (d,v)::tm,n=>by
  simp only [XB,ZG,List.zip_cons_cons,tget]
  split
  ·rfl
  ·exact Zi8 tm n
theorem Zh2 (R:Rel base w0 I0 I β σ w) {tm:Tms} {tmps:Array Value} (T:TR I β tm tmps) (m:Nat):∃ β',KeptE m β β'/\Rel base w0 I0 I β' (gcT m tm σ).2 w/\TR I β' (gcT m tm σ).1 tmps:=by
 obtain ⟨β',h1,h2,h3⟩:=ZkV R m (tm.map (·.2))
 refine ⟨β',h1,h2,fun n=>?_⟩
 show VR I β' (tget ((tm.map (·.1)).zip (ZG _ (tm.map (·.2)))) n) _
 rw [Zi8]
 exact Zeg h3 _ _ (T n)
def Ends (r:AVal) (e:Ending) (u:Value):Prop:=match r with
 | .pan _=>e=.panicked [{ v:=u,recovered:=false }]
 | _=>e=.returned u
def Zaj:AVal->AVal
 | .pan x=>x
 | x=>x
def ZaN (m:Nat) (base:Nat->Prop) (w0:World) (I0 I:Imm) (β:Bmap) (r:AVal) (σ':Za) (u:Value) (w':World):Prop :=
 ∃ I' β',I.le I'/\KeptE m β β'/\Rel base w0 I0 I' β' σ' w'/\VR I' β' (Zaj r) u
theorem Ends.ren {r:AVal} {e:Ending} {u:Value} (h:Ends r e u):Ends (Ze ρ r) e u:=by
 cases r <;> first
  | exact h
  | (simp only [Ze];split <;> exact h)
theorem Zc6 {r:AVal} (h:∀ x,r≠.pan x):Zaj r=r:=by
 cases r <;> first | rfl | exact absurd rfl (h _)
theorem Zwv {r:AVal} (h:∀ x,r≠.pan x):∀ x,Ze ρ r≠.pan x:=by
 intro x
 cases r <;> first
  | (intro e;simp only [Ze] at e;cases e;done)
  | exact absurd rfl (h _)
  | (simp only [Ze];split <;> simp)
theorem ZgM (r:AVal):Zaj (Ze ρ r)=Ze ρ (Zaj r)\/∃ x,r=.pan x:=by
 by_cases h:∃ x,r=.pan x
 ·exact Xw h
 ·have h':∀ x,r≠.pan x:=fun x e=>h ⟨x,e⟩
  exact Xo (by rw [Zc6 (Zwv h'),Zc6 h'])
theorem Zff {m:Nat} {r r':AVal} {u:Value} (h:ZaN m base w0 I0 I β r σ u w) (he:Zas m σ r=some (r',σ')):ZaN m base w0 I0 I β r' σ' u w/\∀ e,Ends r e u->Ends r' e u:=by
 obtain ⟨I1,β1,h1,h2,h3,h4⟩:=h
 obtain ⟨β2,g1,g2,g3⟩:=ZkV h3 m [r]
 unfold Zas gcA at he
 simp only [ZG,Xa,Xb] at he
 obtain ⟨rfl,rfl⟩:=he
 refine ⟨⟨I1,β2,h1,h2.trans g1,g2,?_⟩,fun e he=>he.ren⟩
 have:=Zeg g3 _ _ h4
 rcases ZgM (ρ:=Zg σ m (Zx m [r] σ)) r with e | ⟨x,rfl⟩
 ·rw [e];exact this
 ·exact this
theorem Zpc {m:Nat} {r r':AVal} {h h':Za} {u:Value} (hp:ZaN m base w0 I0 I β r h u w) (he:Zcb m (some (r,h))=some (r',h')):ZaN m base w0 I0 I β r' h' u w/\∀ e,Ends r e u->Ends r' e u:=by
 by_cases hpan:∃ x,r=.pan x
 ·obtain ⟨x,rfl⟩:=hpan
  simp only [Zcb,Xa,Xb] at he
  obtain ⟨rfl,rfl⟩:=he
  exact ⟨hp,fun _ h=>h⟩
 ·have hv0:Zaj r=r:=by cases r <;> first | rfl | exact absurd ⟨_,rfl⟩ hpan
  have hends:∀ e,Ends r e u->e=.returned u:=by
   intro e h
   cases r <;> first | exact h | exact absurd ⟨_,rfl⟩ hpan
  have he':(match viewR h r with
   | some (r',ts)=>match gcA m [r'] (Zj h ts) with
    | ([r''],σ')=>some (r'',σ')
    | _=>none
   | none=>none)=some (r',h'):=by
   cases r <;> first | exact he | exact absurd ⟨_,rfl⟩ hpan
  split at he'
  ·rename_i r1 ts hview
   obtain ⟨I1,β1,h1,h2,h3,h4⟩:=hp
   rw [hv0] at h4
   obtain ⟨I2,k1,k2,k3,_,k5,_,_⟩:=Zet ts h3
   have hres:=Zl7 k2 (k5 (ZnQ hview)) (by rw [k3.viewR];exact hview) (h4.mono k1 (Bmap.le.refl β1) _ _)
   have hnp:∀ x,r1≠.pan x:=by rintro x rfl;simp only [VR] at hres
   have hv1:Zaj r1=r1:=by cases r1 <;> first | rfl | exact absurd rfl (hnp _)
   have ho:Zas m (Zj h ts) r1=some (r',h'):=he'
   obtain ⟨q1,q2⟩:=Zff (⟨I2,β1,h1.trans k1,h2,k2,by rw [hv1];exact hres.mono (Imm.le.refl I2) (ZeJ β1) _ _⟩:ZaN m base w0 I0 I β r1 (Zj h ts) u w) ho
   refine ⟨q1,fun e he=>q2 e ?_⟩
   rw [hends e he]
   cases r1 <;> first | rfl | exact absurd rfl (hnp _)
  ·cases he'
end
end
section
open Go.RowKit
def ZY (P:Program) (O:Zq):Prop:=∀ f args σ r σ',O f args σ=some (r,σ') ->
 (∃ fn,P.funcs[f]?=some fn/\fn.body.isSome=true/\(fn.name == "runtime.NumGoroutine")=false) /\
 ∀ base w0 I0 I β w (vs:Array Value),KLt base w0->Rel base w0 I0 I β σ w->VRs I β args vs.toList ->
  Calls P f vs w (fun e w'=>∃ u,Ends r e u/\ZaN σ.length base w0 I0 I β r σ' u w')
section
variable {P:Program} {base:Nat->Prop} {w0 w w':World} {I0 I I':Imm} {β β':Bmap} {σ σ':Za} {tm:Tms}
theorem Zgx {a:Act} (T:TR I β tm a.tmps):∀ {xs:List Operand} {ys:List Opd},Zbi xs=some ys->VRs I β (ys.map fun y=>y.ev tm) (xs.map a.eval)
 | [],ys,h=>by simp only [Zbi,Xa] at h;subst h;simp [VRs]
 | x::xs,ys,h=>by
  simp only [Zbi] at h
  split at h
  ·rename_i y hy
   split at h
   ·rename_i ys' hys
    injection h with h;subst h
    simp only [XB,VRs]
    exact ⟨_,_,rfl,ZD T hy,Zgx T hys⟩
   ·cases h
  ·cases h
theorem Zfp {a:Act} (T:TR I β tm a.tmps) {x:Option Operand} {y:Option Opd} (h:ZdL x=some y):OVR I β (y.map fun y=>y.ev tm) (x.map a.eval):=by
 cases x with
 | none=>simp only [ZdL,Xa] at h;subst h;rfl
 | some x =>
  simp only [ZdL,Xh] at h
  obtain ⟨y',h1,rfl⟩:=h
  exact ⟨_,rfl,ZD T h1⟩
theorem ZhH {f:FuncId} {args:Array Value} {fn:Func} (h1:P.funcs[f]?=some fn) (h2:fn.body.isSome=true) (h3:(fn.name == "runtime.NumGoroutine")=false):(callFunc f args).run P w=.ok (.enter f args) w:=by
 have h2':fn.body.isNone=false:=by cases hb:fn.body <;> simp_all
 have h3':¬fn.name = "runtime.NumGoroutine":=by simpa using h3
 have h2'':fn.body≠none:=by cases hb:fn.body <;> simp_all
 simp [callFunc,h1,h2'',h3']
section
variable {ids:List Nat} {sq:Nat} {ρ:Rho}
theorem Zfn {σ0:Za} {t:Nat}:∀ {h:Za} {j:Nat} {σ:Za},(∀ i,i < h.length->Zaq ids sq (j+i)≠t)->(ZaR σ0 ids sq h j σ)[t]?=σ[t]?
 | [],j,σ,_=>rfl
 | b::bs,j,σ,hn=>by
  simp only [ZaR]
  rw [Zfn (fun i hi=>by have:=hn (i+1) (by simp;omega);rwa [show j+(i+1)=j+1+i by omega] at this),Xj,if_neg (by have:=hn 0 (by simp);simpa using this)]
theorem Zje {σ0:Za}:∀ {h:Za} {j i:Nat} {σ:Za} {b:Zf},(∀ i i',i < h.length->i' < h.length->Zaq ids sq (j+i)=Zaq ids sq (j+i')->i=i')->h[i]?=some b->Zaq ids sq (j+i) < σ.length ->
  (ZaR σ0 ids sq h j σ)[Zaq ids sq (j+i)]?=some (Zo (ZaC σ0 ids sq) (Zbu σ0 ids (j+i) b) b)
 | [],j,i,σ,b,_,h,_=>by simp at h
 | b'::bs,j,0,σ,b,hinj,h,hlt=>by
  simp only [XI,Xa] at h
  subst h
  simp only [ZaR,X4] at hlt ⊢
  rw [Zfn,Xj,if_pos rfl,if_pos hlt]
  intro i hi e
  have:=hinj (i+1) 0 (by simp;omega) (by simp) (by rw [show j+(i+1)=j+1+i by omega];simpa using e)
  omega
 | b'::bs,j,i+1,σ,b,hinj,h,hlt=>by
  simp only [XZ] at h
  simp only [ZaR]
  rw [show j+(i+1)=j+1+i by omega] at hlt ⊢
  refine Zje (fun a a' ha ha' e=>?_) h (by simpa using hlt)
  have:=hinj (a+1) (a'+1) (by simp;omega) (by simp;omega) (by rw [show j+(a+1)=j+1+a by omega,show j+(a'+1)=j+1+a' by omega];exact e)
  omega
theorem ZkR {σ0:Za}:∀ {h:Za} {j:Nat} {σ:Za},(ZaR σ0 ids sq h j σ).length=σ.length
 | [],j,σ=>rfl
 | b::bs,j,σ=>by simp only [ZaR];rw [ZkR];simp
theorem Zdv {σ0:Za}:∀ {h:Za} {j i:Nat} {b:Zf},Zbq σ0 ids h j=true->h[i]?=some b->okB b=true/\(match ids[j+i]? with
  | some t=>Zdx (σ0.getD t .free) b=true/\Zb b<=1
  | none=>Zb b=0/\ZbB b=false)
 | [],j,i,b,_,h=>by simp at h
 | b'::bs,j,0,b,hok,h=>by
  simp only [XI,Xa] at h
  subst h
  simp only [Zbq,Xc] at hok
  refine ⟨hok.1.1,?_⟩
  rw [X4]
  have:=hok.1.2
  revert this
  cases ids[j]? with
  | none=>intro h;simpa using h
  | some t=>intro h;simpa using h
 | b'::bs,j,i+1,b,hok,h=>by
  simp only [XZ] at h
  simp only [Zbq,Xc] at hok
  have:=Zdv hok.2 h
  rwa [show j+1+i=j+(i+1) by omega] at this
theorem ZxA {x y:Zf} (hy:ZbS y=true) (h:Zdx x y=true):Zb x=0:=by
 cases x <;> cases y <;> first | rfl | (simp [Zdx] at h;done) | (simp [ZbS] at hy;done)
theorem Zlq {y:Zf} (hy:ZbS y=true):Zb y=0:=by
 cases y <;> first | rfl | (simp [ZbS] at hy;done)
theorem ZeU:∀ {n sq i:Nat},Zb0 σ sq n=true->i < n->σ[sq+i]?=some .free
 | 0,_,_,_,hi=>by omega
 | n+1,sq,0,h,_=>by
  simp only [Zb0,Xc] at h
  have:=h.1
  unfold freeAt at this
  split at this
  ·rename_i e;simpa using e
  ·cases this
 | n+1,sq,i+1,h,hi=>by
  simp only [Zb0,Xc] at h
  have:=ZeU (i:=i) h.2 (by omega)
  rwa [show sq+1+i=sq+(i+1) by omega] at this
theorem Zk2 {t:Nat}:∀ {ids:List Nat} {i j:Nat},ids.Nodup->ids[j]?=some t->Zy t ids i=some (i+j)
 | [],i,j,_,h=>by simp at h
 | x::xs,i,0,_,h=>by
  simp only [XI,Xa] at h
  simp [Zy,h]
 | x::xs,i,j+1,hn,h=>by
  simp only [XZ] at h
  rw [List.nodup_cons] at hn
  have hne:x≠t:=by rintro rfl;exact hn.1 (Xq h)
  simp only [Zy,hne,if_false]
  rw [Zk2 hn.2 h]
  congr 1;omega
theorem ZgS {t:Nat}:∀ {ids:List Nat} {i:Nat},t ∉ ids->Zy t ids i=none
 | [],i,_=>rfl
 | x::xs,i,h=>by
  simp only [XG,not_or] at h
  have hne:x≠t:=fun e=>h.1 e.symm
  simp only [Zy,hne,if_false]
  exact ZgS h.2
def Zcd (σ:Za) (ids:List Nat) (sq n:Nat) (β β1:Bmap):Bmap:=fun t g=>match Zy t ids 0 with
 | some j=>if g<=Zb (σ.getD t .free) then β t g else if g=Zb (σ.getD t .free)+1 then β1 j 1 else none
 | none=>if sq<=t/\t < sq+n then (if g=0 then β1 (ids.length+(t - sq)) 0 else none) else β t g
theorem Rel.back {Ic:Imm} {βc:Bmap} {h:Za} {n:Nat} (R:Rel base w0 I0 I β σ w) (hb:KLt base w0) (hnd:ids.Nodup) (hok:ids.all (fun t=>okB (σ.getD t .free))=true)
  (Rc:Rel (fun b=>b < w.heap.size/\∀ t ∈ ids,∀ x,σ[t]?=some x->¬Zc w β t x b) w I Ic βc h w') (hI:I.le Ic) (hkept:KeptE ids.length (Zbb σ 0 ids β) βc)
  (h1:h.length<=ids.length+n) (h2:ids.length<=h.length) (h3:Zbq σ ids h 0=true) (h4:Zb0 σ sq n=true) :
  ∃ β2,β.le β2/\Rel base w0 I0 Ic β2 (ZaR σ ids sq h 0 σ) w'/\ZdE (ZaC σ ids sq) βc β2:=by
 have hbw:=R.base_le hb
 have hblk:∀ t,t ∈ ids->∃ x,σ[t]?=some x/\okB x=true/\σ.getD t .free=x/\∃ bi,β t (Zb x)=some bi:=by
  intro t ht
  have h0:=Xv.1 hok t ht
  cases hx:σ[t]? with
  | none=>simp [Xd,hx,okB] at h0
  | some x =>
   have hd:σ.getD t .free=x:=by simp [Xd,hx]
   rw [hd] at h0
   refine ⟨x,rfl,h0,hd,?_⟩
   have hB:=R.blk t x hx
   cases x with
   | free=>simp [okB] at h0
   | map es=>obtain ⟨b,k,c,_,_,e,_⟩:=hB;exact ⟨_,e⟩
   | siter l p=>obtain ⟨b,k,c,e,_⟩:=hB;exact ⟨_,e⟩
   | opq=>exact hB
   | rmap es=>obtain ⟨b,k,c,_,_,e,_⟩:=hB;exact ⟨_,e⟩
   | book n p=>obtain ⟨b,k,c,vs,e,_⟩:=hB;exact ⟨_,e⟩
   | rrow g k xs=>obtain ⟨bi,e,_⟩:=hB;exact ⟨_,e⟩
   | var cs=>obtain ⟨b,k,c,us,ty,e,_⟩:=hB;exact ⟨_,e⟩
   | row g k xs=>obtain ⟨bi,e,_⟩:=hB;exact ⟨_,e⟩
   | frow g k xs=>obtain ⟨bi,e,_⟩:=hB;exact ⟨_,e⟩
 have hnot:∀ i,i < n->sq+i ∉ ids:=by
  intro i hi hm
  obtain ⟨x,hx,hk,_⟩:=hblk _ hm
  rw [ZeU h4 hi] at hx
  injection hx with hx;subst hx;simp [okB] at hk
 have tgt_ids:∀ j t,ids[j]?=some t->Zaq ids sq j=t:=by intro j t ht;simp [Zaq,Xd,ht]
 have tgt_new:∀ j,ids.length<=j->Zaq ids sq j=sq+(j - ids.length):=by intro j hj;simp [Zaq,Xd,XT hj]
 have split_j:∀ j,j < h.length->(∃ t,ids[j]?=some t/\t ∈ ids/\Zaq ids sq j=t)\/(ids.length<=j/\ids[j]?=none/\j - ids.length < n/\Zaq ids sq j=sq+(j - ids.length)):=by
  intro j hj
  by_cases hlt:j < ids.length
  ·have e:ids[j]?=some ids[j]:=Xz hlt
   exact Xo ⟨ids[j],e,WM hlt,tgt_ids _ _ e⟩
  ·exact Xw ⟨by omega,XT (by omega),by omega,tgt_new j (by omega)⟩
 have inj:∀ i i',i < h.length->i' < h.length->Zaq ids sq (0+i)=Zaq ids sq (0+i')->i=i':=by
  intro i i' hi hi' e
  rw [XD,XD] at e
  rcases split_j i hi with ⟨t,a1,a2,a3⟩ | ⟨a1,_,a3,a4⟩ <;> rcases split_j i' hi' with ⟨t',b1,b2,b3⟩ | ⟨b1,_,b3,b4⟩
  ·rw [a3,b3] at e;subst e
   exact (Xaj (Xe.1 a1).1 hnd).1 (a1.trans b1.symm)
  ·rw [a3,b4] at e;subst e;exact absurd a2 (hnot _ b3)
  ·rw [a4,b3] at e;subst e;exact absurd b2 (hnot _ a3)
  ·rw [a4,b4] at e;omega
 have tlt:∀ j,j < h.length->Zaq ids sq j < σ.length:=by
  intro j hj
  rcases split_j j hj with ⟨t,a1,a2,a3⟩ | ⟨a1,_,a3,a4⟩
  ·rw [a3]
   obtain ⟨x,hx,_⟩:=hblk t a2
   exact (Xe.1 hx).1
  ·rw [a4];exact (Xe.1 (ZeU h4 a3)).1
 have look:∀ t x',(ZaR σ ids sq h 0 σ)[t]?=some x'->(∃ j b,h[j]?=some b/\t=Zaq ids sq j/\x'=Zo (ZaC σ ids sq) (Zbu σ ids j b) b)\/((∀ j,j < h.length->Zaq ids sq j≠t)/\σ[t]?=some x'):=by
  intro t x' hx
  by_cases hex:∃ j,j < h.length/\Zaq ids sq j=t
  ·obtain ⟨j,hj,rfl⟩:=hex
   have:=Zje (σ0:=σ) (σ:=σ) (j:=0) (i:=j) inj (Xz hj) (by rw [XD];exact tlt j hj)
   rw [XD] at this
   rw [this] at hx
   injection hx with hx
   exact Xo ⟨j,h[j],Xz hj,rfl,hx.symm⟩
  ·have hn:∀ j,j < h.length->Zaq ids sq j≠t:=fun j hj e=>hex ⟨j,hj,e⟩
   rw [Zfn (fun i hi=>by rw [XD];exact hn i hi)] at hx
   exact Xw ⟨hn,hx⟩
 have out:∀ t,(∀ j,j < h.length->Zaq ids sq j≠t)->t ∉ ids/\∀ g,Zcd σ ids sq (h.length - ids.length) β βc t g=β t g:=by
  intro t hn
  have h0:t ∉ ids:=by
   intro hm
   obtain ⟨j,hj⟩:=List.mem_iff_getElem?.1 hm
   exact hn j (by have:=(Xe.1 hj).1;omega) (tgt_ids j t hj)
  refine ⟨h0,fun g=>?_⟩
  unfold Zcd
  rw [ZgS h0]
  simp only
  rw [if_neg]
  rintro ⟨q1,q2⟩
  exact hn (ids.length+(t - sq)) (by omega) (by rw [tgt_new _ (by omega)];omega)
 have atIds:∀ j t,ids[j]?=some t->∀ g,Zcd σ ids sq (h.length - ids.length) β βc t g=if g<=Zb (σ.getD t .free) then β t g else if g=Zb (σ.getD t .free)+1 then βc j 1 else none:=by
  intro j t hj g
  unfold Zcd
  rw [Zk2 hnd hj]
  simp only [XD]
 have atNew:∀ i,i < h.length - ids.length->∀ g,Zcd σ ids sq (h.length - ids.length) β βc (sq+i) g=if g=0 then βc (ids.length+i) 0 else none:=by
  intro i hi g
  unfold Zcd
  rw [ZgS (hnot i (by omega))]
  simp only
  rw [if_pos ⟨by omega,by omega⟩,show sq+i - sq=i by omega]
 have hle:β.le (Zcd σ ids sq (h.length - ids.length) β βc):=by
  intro t g bi e
  by_cases hex:∃ j,j < h.length/\Zaq ids sq j=t
  ·obtain ⟨j,hj,rfl⟩:=hex
   rcases split_j j hj with ⟨t,a1,a2,a3⟩ | ⟨a1,_,a3,a4⟩
   ·rw [a3] at e ⊢
    rw [atIds j t a1]
    obtain ⟨x,hx,_,hd,_⟩:=hblk t a2
    rw [if_pos]
    ·exact e
    ·rcases Xae (Zb (σ.getD t .free)) g with hlt | hge
     ·rw [hd] at hlt;rw [R.gen t x g hx hlt] at e;cases e
     ·exact hge
   ·rw [a4] at e
    rw [R.free _ g (ZeU h4 a3)] at e;cases e
  ·rw [(out t fun j hj e=>hex ⟨j,hj,e⟩).2];exact e
 have kept:∀ j t,ids[j]?=some t->∀ bi,βc j 0=some bi->β t (Zb (σ.getD t .free))=some bi:=by
  intro j t hj bi e
  obtain ⟨x,hx,hk,hd,bi0,hb0⟩:=hblk t (Xq hj)
  have hp:Zbb σ 0 ids β j 0=some bi0:=by
   unfold Zbb
   simp only [hj,hx,hk,if_true]
   rw [if_pos (by simp [Zt])];exact hb0
  have:=hkept j (Xe.1 hj).1 bi0 hp
  rw [this] at e;injection e with e;subst e
  rw [hd];exact hb0
 have hρ:ZdE (ZaC σ ids sq) βc (Zcd σ ids sq (h.length - ids.length) β βc):=by
  intro j g t' g' bi hr hbi
  have hjlt:j < h.length:=by
   rcases Xae j h.length with hlt | hge
   ·exact hlt
   ·rw [Rc.fresh j g hge] at hbi;cases hbi
  have hj':=Xz hjlt
  obtain ⟨k1,k2⟩:=Zdv h3 hj'
  rw [XD] at k2
  have hgen:¬Zb h[j] < g:=fun hlt=>by rw [Rc.gen j _ g hj' hlt] at hbi;cases hbi
  rcases split_j j hjlt with ⟨t,a1,a2,a3⟩ | ⟨a1,a2,a3,a4⟩
  ·simp only [ZaC,a1,Xa,Xb] at hr
   obtain ⟨rfl,rfl⟩:=hr
   rw [a1] at k2
   rw [atIds j _ a1]
   have : g=0\/g=1:=by omega
   rcases this with rfl | rfl
   ·rw [if_pos (by omega)];exact kept j _ a1 bi hbi
   ·rw [if_neg (by omega),if_pos rfl];exact hbi
  ·simp only [ZaC,a2,Xa,Xb] at hr
   obtain ⟨rfl,rfl⟩:=hr
   rw [a2] at k2
   have : g=0:=by have:=k2.1;omega
   subst this
   rw [atNew _ (by omega),if_pos rfl,show ids.length+(j - ids.length)=j by omega]
   exact hbi
 have hvar:∀ j b,h[j]?=some b->ZbS b=true->Zbu σ ids j b=0:=by
  intro j b hj e
  have hjlt:=(Xe.1 hj).1
  obtain ⟨k1,k2⟩:=Zdv h3 hj
  rw [XD] at k2
  unfold Zbu
  rcases split_j j hjlt with ⟨t,a1,a2,a3⟩ | ⟨a1,a2,a3,a4⟩
  ·rw [a1] at k2 ⊢
   simp only at k2 ⊢
   obtain ⟨x,hx,hk,hd,_⟩:=hblk t a2
   rw [hd] at k2 ⊢
   rw [ZxA e k2.1,Zlq e]
  ·rw [a2];exact Zlq e
 have hβg:∀ j b,h[j]?=some b->∀ bi,βc j (Zb b)=some bi->Zcd σ ids sq (h.length - ids.length) β βc (Zaq ids sq j) (Zbu σ ids j b)=some bi:=by
  intro j b hj bi e
  have hjlt:=(Xe.1 hj).1
  refine hρ j (Zb b) _ _ bi ?_ e
  rcases split_j j hjlt with ⟨t,a1,a2,a3⟩ | ⟨a1,a2,a3,a4⟩
  ·simp only [ZaC,Zbu,a1,a3]
  ·simp only [ZaC,Zbu,a2,a4]
 have hKK:∀ b,base b->b < w.heap.size/\∀ t ∈ ids,∀ x,σ[t]?=some x->¬Zc w β t x b:=by
  intro b hB
  exact ⟨hbw b hB,fun t _ x hx e=>(R.own t x b hx e).1 hB⟩
 have hown:∀ j b,h[j]?=some b->Zc w' (Zcd σ ids sq (h.length - ids.length) β βc) (Zaq ids sq j) (Zo (ZaC σ ids sq) (Zbu σ ids j b) b)=Zc w' βc j b:=fun j b hj =>
  Zk8 (hβg j b hj) (hvar j b hj) (Rc.blk j b hj)
 have oth:∀ t x b,t ∉ ids->σ[t]?=some x->Zc w β t x b->b < w.heap.size/\∀ t ∈ ids,∀ x,σ[t]?=some x->¬Zc w β t x b:=by
  intro t x b hn hx hbb
  refine ⟨(R.blk t x hx).owns_lt hbb,fun t' ht' x' hx' e=>hn ?_⟩
  rw [R.apart t x t' x' b hx hx' hbb e];exact ht'
 have cv:∀ t x b,t ∉ ids->σ[t]?=some x->Zc w' (Zcd σ ids sq (h.length - ids.length) β βc) t x b->Zc w β t x b:=fun t x b hn hx=>((R.blk t x hx).owns_at hle (fun b hbb=>Rc.below.block b (oth t x b hn hx hbb)) b).1
 refine ⟨_,hle,⟨R.below.trans (Rc.below.mono hKK),fun b o hB=>(Rc.old b o (hKK b hB)).trans (R.old b o hB),Rc.imm,?_,?_,?_,?_,?_,?_,Rc.glob,?_⟩,hρ⟩
 ·intro t x' hx
  rcases look t x' hx with ⟨j,b,hj,rfl,rfl⟩ | ⟨hn,hx⟩
  ·exact Zj4 hρ (hβg j b hj) (hvar j b hj) (Rc.blk j b hj)
  ·refine (R.blk t x' hx).keep hI hle (fun b hbb=>Rc.below.block b (oth t x' b (out t hn).1 hx hbb)) (fun b hs=>Rc.below.block b (hKK b (R.ro t x' b hx hs)))
 ·intro t x' b hx hbb
  rcases look t x' hx with ⟨j,b',hj,rfl,rfl⟩ | ⟨hn,hx⟩
  ·rw [hown j b' hj] at hbb
   have:=Rc.own j b' b hj hbb
   exact ⟨fun hB=>this.1 (hKK b hB),this.2⟩
  ·replace hbb:=cv t x' b (out t hn).1 hx hbb
   refine ⟨(R.own t x' b hx hbb).1,fun o=>?_⟩
   rw [Rc.old b o (oth t x' b (out t hn).1 hx hbb)]
   exact (R.own t x' b hx hbb).2 o
 ·intro t x t' x' b hx hx' hbb hbb'
  rcases look t x hx with ⟨j,c,hj,rfl,rfl⟩ | ⟨hn,hx⟩ <;> rcases look t' x' hx' with ⟨j',c',hj',rfl,rfl⟩ | ⟨hn',hx'⟩
  ·rw [hown j c hj] at hbb;rw [hown j' c' hj'] at hbb'
   rw [Rc.apart j c j' c' b hj hj' hbb hbb']
  ·rw [hown j c hj] at hbb;replace hbb':=cv t' x' b (out t' hn').1 hx' hbb'
   exact absurd (oth t' x' b (out t' hn').1 hx' hbb') (Rc.own j c b hj hbb).1
  ·rw [hown j' c' hj'] at hbb';replace hbb:=cv t x b (out t hn).1 hx hbb
   exact absurd (oth t x b (out t hn).1 hx hbb) (Rc.own j' c' b hj' hbb').1
  ·replace hbb:=cv t x b (out t hn).1 hx hbb;replace hbb':=cv t' x' b (out t' hn').1 hx' hbb'
   exact R.apart t x t' x' b hx hx' hbb hbb'
 ·intro t g ht
  rw [ZkR] at ht
  have hn:∀ j,j < h.length->Zaq ids sq j≠t:=fun j hj e=>by have:=tlt j hj;omega
  rw [(out t hn).2];exact R.fresh t g ht
 ·intro t g hx
  rcases look t _ hx with ⟨j,b,hj,rfl,e⟩ | ⟨hn,hx⟩
  ·have:=(Zdv h3 hj).1
   cases b <;> first | (simp [okB] at this;done) | (simp only [Zo] at e;cases e;done)
  ·rw [(out t hn).2];exact R.free t g hx
 ·intro t x' g hx hg
  rcases look t _ hx with ⟨j,b,hj,rfl,rfl⟩ | ⟨hn,hx⟩
  ·obtain ⟨k1,k2⟩:=Zdv h3 hj
   rw [XD] at k2
   rw [Zkk (hvar j b hj) k1] at hg
   have hjlt:=(Xe.1 hj).1
   rcases split_j j hjlt with ⟨t,a1,a2,a3⟩ | ⟨a1,a2,a3,a4⟩
   ·rw [a3,atIds j t a1]
    simp only [Zbu,a1] at hg
    rw [if_neg (by omega)]
    split
    ·rename_i e
     exact Rc.gen j b 1 hj (by omega)
    ·rfl
   ·rw [a4,atNew _ (by omega)]
    rw [if_neg (by omega)]
  ·rw [(out t hn).2];exact R.gen t x' g hx hg
 ·intro t x' b hx hb'
  rcases look t x' hx with ⟨j,b',hj,rfl,rfl⟩ | ⟨hn,hx⟩
  ·rw [Zju (hβg j b' hj) (hvar j b' hj) (Rc.blk j b' hj)] at hb'
   have hjlt:=(Xe.1 hj).1
   obtain ⟨k1,k2⟩:=Zdv h3 hj
   rw [XD] at k2
   cases b' with
   | rmap es =>
    rcases split_j j hjlt with ⟨t,a1,a2,a3⟩ | ⟨a1,a2,a3,a4⟩
    ·rw [a1] at k2
     simp only at k2
     obtain ⟨x,hx,hk,hd,_⟩:=hblk t a2
     obtain ⟨b2,k,c,_,_,e1,_⟩:=Rc.blk j _ hj
     have e2:=kept j t a1 _ e1
     rw [hd] at k2 e2
     cases x <;> simp [Zdx] at k2
     rename_i es'
     refine R.ro t _ b hx ?_
     simp only [ZaS,e1,Option.bind_some,Xa] at hb'
     subst hb'
     have e3:β t 0=some ⟨some b2,k,c⟩:=e2
     simp [ZaS,e3]
    ·rw [a2] at k2
     simp at k2
   | _=>cases hb'
  ·exact R.ro t x' b hx (((R.blk t x' hx).sees_at hle b).1 hb')
end
theorem Rel.after_flat {Ic I1:Imm} {βc:Bmap} {σc:Za} {K':Nat->Prop} (R:Rel base w0 I0 I β σ w) (hb:KLt base w0) (hK:∀ b,b < w.heap.size->K' b) (Rc:Rel K' w I1 Ic βc σc w'):Rel base w0 I0 I β σ w':=by
 have hbw:=R.base_le hb
 refine R.stay (Imm.le.refl I) (Rc.below.mono fun b h=>hK b (hbw b h)) (fun _ _ _=>rfl) (fun b o u h=>?_) (fun t x b h hb'=>⟨Rc.below.block b (hK b ((R.blk t x h).owns_lt hb')),(R.own t x b h hb').2⟩)
 have:=R.imm b o u h
 have hlt:=Zb5 this
 rw [<-this]
 simp only [World.cell?,Rc.below.block b (hK b hlt)]
theorem Zvn {I I':Imm} {β β':Bmap} {r:AVal} {u:Value} (hf:ZaF r=true) (h:VR I β (Zaj r) u):VR I' β' (Zaj r) u:=by
 by_cases hp:∃ x,r=.pan x
 ·obtain ⟨x,rfl⟩:=hp
  simp only [Zaj] at h ⊢
  cases x <;> simp only [ZaF,ZaA,Zap] at hf <;> first | (cases hf;done) | skip
  case iface t x =>
   simp only [VR] at h ⊢
   obtain ⟨u',h1,h2⟩:=h
   exact ⟨u',h1,ZfM hf h2⟩
 ·have hn:∀ x,r≠.pan x:=fun x e=>hp ⟨x,e⟩
  rw [Zc6 hn] at h ⊢
  exact ZsG hf h
theorem ZiD {I I':Imm} {β β':Bmap} (hI:∀ b o n,I b o=some (.int .u8 n)->I' b o=some (.int .u8 n)):∀ {xs:List AVal} {b off:Nat},xs.all Zhl=true->∀ {k:Nat},LR I β k xs b off->LR I' β' k xs b off
 | [],_,_,_,_,_=>by simp only [LR]
 | x::xs,b,off,hx,k,h=>by
  simp only [List.all_cons,Xc] at hx
  have ih:=fun (h:LR I β k xs b (off+k))=>ZiD (β':=β') hI hx.2 h
  have hx1:=hx.1
  unfold Zhl at hx1
  split at hx1
  ·simp only [LR,VR] at h ⊢
   obtain ⟨⟨h0,u,h1,h2⟩,h3⟩:=h
   subst h2
   exact ⟨⟨h0,_,hI _ _ _ h1,rfl⟩,ih h3⟩
  ·cases hx1
theorem Zkn {I I':Imm} {β β':Bmap} (hI:∀ b o n,I b o=some (.int .u8 n)->I' b o=some (.int .u8 n)) {x:AVal} {v:Value} (hf:Zfj x=true) (h:VR I β x v):VR I' β' x v:=by
 unfold Zfj at hf
 split at hf
 ·simp only [VR] at h ⊢
  obtain ⟨A,cap,h1,h2,h3,h4,h5,h6⟩:=h
  refine ⟨A,cap,h1,h2,h3,h4,?_,h6⟩
  rcases h5 with h5 | ⟨b,off,k,e,hk,h5⟩
  ·exact Xo h5
  ·exact Xw ⟨b,off,k,e,hk,ZiD hI hf h5⟩
 ·exact ZfM hf h
theorem Zlf {I I':Imm} {β β':Bmap} (hI:∀ b o n,I b o=some (.int .u8 n)->I' b o=some (.int .u8 n)) {x:AVal} {v:Value} (hf:ZeR x=true) (h:VR I β x v):VR I' β' x v:=by
 unfold ZeR at hf
 split at hf
 ·rename_i cs
  simp only [VR] at h ⊢
  obtain ⟨us,rfl,h⟩:=h
  exact ⟨us,rfl,Zb2 (Zaa h) (fun i x v hx hv=>by
   obtain ⟨v',h1,h2⟩:=ZaZ h hx
   rw [hv] at h1;injection h1 with h1;subst h1
   exact Zkn hI (Xv.1 hf x (Xq hx)) h2)⟩
 ·exact Zkn hI hf h
theorem ZmE {I I':Imm} {β β':Bmap} (hI:∀ b o n,I b o=some (.int .u8 n)->I' b o=some (.int .u8 n)) {x:AVal} {v:Value} (hf:Ze1 x=true) (h:VR I β x v):VR I' β' x v:=by
 unfold Ze1 at hf
 split at hf
 ·rename_i cs
  simp only [VR] at h ⊢
  obtain ⟨us,rfl,h⟩:=h
  exact ⟨us,rfl,Zb2 (Zaa h) (fun i x v hx hv=>by
   obtain ⟨v',h1,h2⟩:=ZaZ h hx
   rw [hv] at h1;injection h1 with h1;subst h1
   exact Zlf hI (Xv.1 hf x (Xq hx)) h2)⟩
 ·exact Zlf hI hf h
theorem Rel.after_bytes {I1 Ic:Imm} {βc:Bmap} {σc:Za} {K':Nat->Prop} {r:AVal} {u:Value} (R:Rel base w0 I0 I β σ w) (hb:KLt base w0) (hK:∀ b,b < w.heap.size->K' b) (Rc:Rel K' w I1 Ic βc σc w') (h1:I.le I1) (h2:I1.le Ic)
  (hn:∀ b o n,I1 b o=some (.int .u8 n)->I b o=some (.int .u8 n)) (hf:Ze1 r=true) (hv:VR Ic βc (Zaj r) u):Post base w0 I0 I β (Zaj r) σ u w':=by
 have hbw:=R.base_le hb
 let J:Imm:=fun b o=>if b < w.heap.size then I b o else Ic b o
 have hle:I.le J:=by
  intro b o u hu
  have hlt:=Zb5 (R.imm b o u hu)
  simp only [J,hlt,if_true];exact hu
 have hJ:∀ b o n,Ic b o=some (.int .u8 n)->J b o=some (.int .u8 n):=by
  intro b o n hu
  by_cases hlt:b < w.heap.size
  ·simp only [J,hlt,if_true]
   rw [Rc.old b o (hK b hlt)] at hu
   exact hn b o n hu
  ·simp only [J,hlt,if_false];exact hu
 have hval:Zaj r=r:=Zc6 (fun x e=>by subst e;simp [Ze1,ZeR,Zfj,Zap] at hf)
 rw [hval] at hv ⊢
 refine Post.mk hle (Bmap.le.refl β) (R.stay hle (Rc.below.mono fun b h=>hK b (hbw b h)) ?_ ?_ ?_) (ZmE hJ hf hv)
 ·intro b o hb'
  simp only [J,hbw b hb',if_true]
 ·intro b o u hu
  by_cases hlt:b < w.heap.size
  ·simp only [J,hlt,if_true] at hu
   rw [<-R.imm b o u hu]
   simp only [World.cell?,Rc.below.block b (hK b hlt)]
  ·simp only [J,hlt,if_false] at hu
   exact Rc.imm b o u hu
 ·intro t x b hx hb'
  have hlt:=(R.blk t x hx).owns_lt hb'
  refine ⟨Rc.below.block b (hK b hlt),fun o=>?_⟩
  simp only [J,hlt,if_true]
  exact (R.own t x b hx hb').2 o
theorem Zvj {xs:List AVal} (h:xs.all ZaA=true):(xs.flatMap AVal.cells).all Zap=true:=by
 rw [Xv] at h ⊢
 intro x hx
 obtain ⟨y,hy,hxy⟩:=X1.1 hx
 have:=h y hy
 cases y
 case agg cs=>exact Xv.1 this x hxy
 all_goals (simp only [AVal.cells,XV] at hxy;subst hxy;exact this)
theorem Rel.clone {Ic I1:Imm} {βc:Bmap} {K':Nat->Prop} {sq k lo n:Nat} {xs:List AVal} {u:Value} (R:Rel base w0 I0 I β σ w) (hb:KLt base w0) (hK:∀ b,b < w.heap.size->K' b) (Rc:Rel K' w I1 Ic βc [.row 0 k xs] w') (hs:σ[sq]?=some .free) (hf:xs.all ZaA=true)
  (hv:VR Ic βc (.sl 0 0 lo n) u):Post base w0 I0 I β (.sl sq 0 lo n) (σ.set sq (.row 0 k xs)) u w':=by
 have R':=R.after_flat hb hK Rc
 obtain ⟨bi,h1,h2,h3,h4,h5,h6,h7,h8⟩:=Rc.blk 0 _ rfl
 have hle:β.le (β.put sq 0 bi):=Bmap.put_le (R.free sq 0 hs)
 have hbw:=R.base_le hb
 have hsl:sq < σ.length:=(Xe.1 hs).1
 have hnew:∀ b,bi.b=some b->¬b < w.heap.size:=by
  intro b e hlt
  exact (Rc.own 0 (.row 0 k xs) b rfl (by simp [Zc,h1,e])).1 (hK b hlt)
 have hown:∀ b,Zc w' (β.put sq 0 bi) sq (.row 0 k xs) b->bi.b=some b:=by
  intro b e
  simpa [Zc,Bmap.put_same] using e
 refine Post.mk (Imm.le.refl I) hle (R'.upd (Imm.le.refl I) hle (KB.refl base w') (fun _ _ _=>rfl) R'.imm sq _ rfl hsl (fun t g h=>Bmap.put_ne h) ?_ ?_ ?_ ?_ (by simp)) ?_
 ·intro t x b hne h hb'
  replace hb':=((R.blk t x h).owns_at (Bmap.le.refl β) (fun b hb'=>Rc.below.block b (hK b ((R.blk t x h).owns_lt hb'))) b).1 hb'
  refine ⟨rfl,(R.own t x b h hb').2,fun e=>?_⟩
  exact hnew b (hown b e) ((R.blk t x h).owns_lt hb')
 ·refine ⟨bi,Bmap.put_same β sq 0 _,h2,h3,h4,h5,h6,h7,?_⟩
  rcases h8 with h8 | ⟨b,us,ty,g1,g2,g3,g4⟩
  ·exact Xo h8
  ·exact Xw ⟨b,us,ty,g1,g2,g3,Zjp (Zvj hf) g4⟩
 ·intro b e
  have hnb:=hnew b (hown b e)
  refine ⟨fun hB=>hnb (hbw b hB),fun o=>?_⟩
  cases hI:I b o with
  | none=>rfl
  | some v=>exact absurd (Zb5 (R.imm b o v hI)) hnb
 ·intro g hg
  simp only [Zb] at hg
  rw [Bmap.put_gen (by omega)]
  exact R.free sq g hs
 ·simp only [VR] at hv ⊢
  obtain ⟨bi',e,hv⟩:=hv
  rw [h1] at e
  injection e with e;subst e
  exact ⟨bi,Bmap.put_same β sq 0 _,hv⟩
theorem Ziq {O:Zq} (hO:ZY P O) {bf:Nat->Bool} (R:Rel base w0 I0 I β σ w) (hb:KLt base w0) {sq f own:Nat} {view:Bool} {args:List AVal} {vs:Array Value} (hargs:VRs I β args vs.toList) {r:AVal} {c:Cls} (hsite:own=1->σ[sq]?=some .free) (h:Zi O bf σ sq f own view args=some (r,σ',c)) :
  (∃ fn,P.funcs[f]?=some fn/\fn.body.isSome=true/\(fn.name == "runtime.NumGoroutine")=false)/\Calls P f vs w (fun e w'=>∃ u,Ends r e u/\Post base w0 I0 I β (Zaj r) σ' u w'):=by
 unfold Zi at h
 split at h
 ·cases h
 rename_i xs ts hshow
 obtain ⟨I1,hI1,R1,hal,_,hfz,_,_,hnby⟩:=Zet ts R
 have hxs:VRs I1 β xs vs.toList:=by
  unfold Zbx at hshow
  split at hshow
  ·simp only [Xa,Xb] at hshow
   obtain ⟨rfl,rfl⟩:=hshow
   exact hargs.mono hI1 (Bmap.le.refl β) _ _
  ·exact Zjr R1 (hfz (ZfC hshow)) (by rw [hal.showAs];exact hshow) (hargs.mono hI1 (Bmap.le.refl β) _ _)
 generalize hσf:Zj σ ts=σf at *
 obtain ⟨hnd,_⟩:=Zex (σ:=σf) 1000 (ZM xs) [] List.nodup_nil
 generalize Zn σf 1000 (ZM xs) []=ids at *
 unfold Za5 at h
 split at h
 case isFalse=>cases h
 rename_i hok
 have R2:=R1.pick (K':=fun b=>b < w.heap.size/\∀ t ∈ ids,∀ x,σf[t]?=some x->¬Zc w β t x b) (w1:=w) (I1:=I1) (m:=0) hnd (KB.refl _ w) (fun _ _ _=>rfl) (fun t x b ht hx hb' hk=>hk.2 t ht x hx hb') (fun t x b ht hx hs=>⟨R1.base_le hb b (R1.ro t x b hx hs),fun t' _ x' hx' ho=>(R1.own t' x' b hx' ho).1 (R1.ro t x b hx hs)⟩)
 generalize hq:Zat view ids.length (O f (ZG (Zg σf 0 ids) xs) (Zm σf 0 ids (Zg σf 0 ids) ids 0))=q at h
 cases q with
 | none=>simp only [Zal] at h;cases h
 | some q =>
  obtain ⟨r1,h1⟩:=q
  obtain ⟨r0,h0,hcall⟩:∃ r0 h0,O f (ZG (Zg σf 0 ids) xs) (Zm σf 0 ids (Zg σf 0 ids) ids 0)=some (r0,h0):=by
   cases ho:O f (ZG (Zg σf 0 ids) xs) (Zm σf 0 ids (Zg σf 0 ids) ids 0) with
   | none=>rw [ho] at hq;cases view <;> simp [Zat,Zcb] at hq
   | some q=>exact ⟨q.1,q.2,rfl⟩
  rw [hcall] at hq
  obtain ⟨hfn,hrun⟩:=hO f _ _ r0 h0 hcall
  refine ⟨hfn,(hrun _ w I1 I1 _ w vs (fun b hb=>hb.1) R2 (Zcg Zhu _ _ hxs)).mono ?_⟩
  rintro e w' ⟨u,he,hp⟩
  rw [Zf1] at hp
  have hp1:ZaN ids.length (fun b=>b < w.heap.size/\∀ t ∈ ids,∀ x,σf[t]?=some x->¬Zc w β t x b) w I1 I1 (Zbb σf 0 ids β) r1 h1 u w'/\Ends r1 e u:=by
   cases view with
   | false =>
    simp only [Zat,Xg,if_false,Xa,Xb] at hq
    obtain ⟨rfl,rfl⟩:=hq
    exact ⟨hp,he⟩
   | true =>
    simp only [Zat,if_true] at hq
    obtain ⟨q1,q2⟩:=Zpc hp hq
    exact ⟨q1,q2 e he⟩
  obtain ⟨⟨I2,β2,hI2,hkept,Rc,hv⟩,he1⟩:=hp1
  simp only [Zal] at h
  split at h
  ·rename_i hc
   simp only [Xc,W0] at hc
   obtain ⟨rfl,rfl⟩:=hc
   split at h
   ·rename_i hflat
    simp only [Xa,Xb] at h
    obtain ⟨rfl,rfl,rfl⟩:=h
    exact ⟨u,he1,Post.here (R.after_flat hb (fun b hlt=>⟨hlt,by simp⟩) Rc) (Zvn hflat hv)⟩
   split at h
   ·rename_i hap
    unfold Zb9 at hap
    simp only [Xc] at hap
    simp only [Xa,Xb] at h
    obtain ⟨rfl,rfl,rfl⟩:=h
    exact ⟨u,he1,R.after_bytes hb (fun b hlt=>⟨hlt,by simp⟩) Rc hI1 hI2 (hnby hap.2) hap.1.2 hv⟩
   ·simp only [Xa,Xb] at h
    obtain ⟨rfl,rfl,rfl⟩:=h
    obtain ⟨β3,g1,g2,g3⟩:=R1.back (sq:=sq) (n:=0) hb hnd hok Rc hI2 hkept (by simp) (by simp) rfl rfl
    have hρ:ZaC σf [] sq=ZaC [] [] sq:=rfl
    refine ⟨u,he1.ren,Post.mk (hI1.trans hI2) g1 g2 ?_⟩
    rw [hρ] at g3
    have:=Zeg g3 _ _ hv
    rcases ZgM (ρ:=ZaC [] [] sq) r1 with e | ⟨x,rfl⟩
    ·rw [e];exact this
    ·exact this
  ·split at h
   ·rename_i lo n k xs' hcl
    split at hcl
    case isFalse=>cases hcl
    rename_i hid
    simp only [W0] at hid
    subst hid
    unfold Zeo at hcl
    split at hcl
    case h_2=>cases hcl
    split at hcl
    case isFalse=>cases hcl
    rename_i hcc
    simp only [Xc,decide_eq_true_eq] at hcc
    simp only [Xa,Xb] at hcl h
    obtain ⟨rfl,rfl,rfl,rfl⟩:=hcl
    obtain ⟨rfl,rfl,rfl⟩:=h
    exact ⟨u,he1,R.clone hb (fun b hlt=>⟨hlt,by simp⟩) Rc (hsite hcc.1) hcc.2 hv⟩
   split at h
   case isFalse=>cases h
   rename_i hc
   simp only [Xc,decide_eq_true_eq] at hc
   obtain ⟨⟨⟨c1,c2⟩,c3⟩,c4⟩:=hc
   simp only [Xa,Xb] at h
   obtain ⟨rfl,rfl,rfl⟩:=h
   obtain ⟨β3,g1,g2,g3⟩:=R1.back hb hnd hok Rc hI2 hkept c1 c2 c3 c4
   refine ⟨u,he1.ren,Post.mk (hI1.trans hI2) g1 g2 ?_⟩
   have:=Zeg g3 _ _ hv
   rcases ZgM (ρ:=ZaC σf ids sq) r1 with e | ⟨x,rfl⟩
   ·rw [e];exact this
   ·exact this
end
end
section
open Go.RowKit
section
variable {P:Program} {w:World} {I:Imm} {β:Bmap}
theorem Zkj {t:TypeId} (hb:Zho P t=true) {xs:Array Value} {o:Nat} {v:Value} (h:xs[o]?=some v):(part t xs o).run P w=.ok v w:=by
 unfold Zho at hb
 have key:∀ d,P.underlying t=some d->d.isRow=false->(part t xs o).run P w=.ok v w:=by
  intro d hu hd
  have hagg:(isAgg t).run P w=.ok false w:=by
   unfold isAgg
   rw [Sem.run_bind,run_underlying hu w]
   cases d <;> simp_all [TypeDesc.isRow]
  simp [part,hagg,h]
 split at hb
 ·rename_i hu;exact key _ hu rfl
 ·rename_i hu;exact key _ hu rfl
 ·rename_i hu;exact key _ hu rfl
 ·cases hb
theorem Zmx (w:World) {t:TypeId} (d:Nat) {x y:AVal} {u v:Value} {b:Bool} (hx:VR I β x u) (hy:VR I β y v) (h:ZbO x y=some b) (hk:ZcV P t x=true):(Op.equalIn (d+1) t u v).run P w=.ok b w:=by
 unfold ZbO at h
 split at h
 ·rename_i k a k' b'
  split at h
  ·rename_i e;subst e
   injection h with h;subst h
   simp only [VR] at hx hy
   subst hx hy
   cases hd:P.underlying t with
   | none=>simp [ZcV,hd] at hk
   | some dd =>
    cases dd <;> simp [ZcV,hd] at hk
    exact run_equalIn_int w d t _ _ a b' hd
  ·cases h
 ·rename_i a b'
  injection h with h;subst h
  simp only [VR] at hx hy
  subst hx hy
  cases hd:P.underlying t with
  | none=>simp [ZcV,hd] at hk
  | some dd =>
   cases dd <;> simp [ZcV,hd] at hk
   exact run_equalIn_bool' w d t a b' hd
 ·rename_i a b'
  injection h with h;subst h
  simp only [VR] at hx hy
  obtain ⟨rfl,_⟩:=hx
  obtain ⟨rfl,_⟩:=hy
  cases hd:P.underlying t with
  | none=>simp [ZcV,hd] at hk
  | some dd =>
   cases dd <;> simp [ZcV,hd] at hk
   rw [run_equalIn_string w d t _ _ hd,Zfg,Zfg]
 ·cases h
theorem ZjW:∀ {fs:List Field} {xs:List AVal},Zef (fs.map fun f=>(Zdo P f.type).getD 3) xs=true->Zc7 P fs xs=true
 | [],[],_=>rfl
 | [],x::xs,h=>by simp [Zef] at h
 | f::fs,[],h=>by simp [Zef] at h
 | f::fs,x::xs,h=>by
  simp only [XB,Zef,Xc,beq_iff_eq] at h
  simp only [Zc7,Xc]
  refine ⟨?_,ZjW h.2⟩
  have h1:=h.1
  cases hd:P.underlying f.type with
  | none=>simp only [Zdo,hd,Xar] at h1;cases x <;> simp [Zag] at h1
  | some dd=>cases dd <;> simp only [Zdo,hd,Xar,WF] at h1 <;> cases x <;> first | (simp [ZcV,hd];done) | (simp [Zag] at h1;done)
theorem Zk5 (w:World) (d:Nat) {us vs:Array Value}:∀ {fs:List Field} {xs ys:List AVal} {o:Nat} {b:Bool},ZfD P o fs=true->Zc7 P fs xs=true->VRs I β xs (us.toList.drop o)->VRs I β ys (vs.toList.drop o)->Zdd xs ys=some b->(Op.eqFields (d+1) us vs fs).run P w=.ok b w
 | [],xs,ys,o,b,hf,hk,hx,hy,h=>by
  cases xs with
  | nil =>
   cases ys with
   | nil=>simp only [Zdd,Xa] at h;subst h;simp [Op.eqFields]
   | cons=>simp [Zdd] at h
  | cons=>simp [Zc7] at hk
 | f::fs,xs,ys,o,b,hf,hk,hx,hy,h=>by
  cases xs with
  | nil=>simp [Zc7] at hk
  | cons x xs =>
   cases ys with
   | nil=>simp [Zdd] at h
   | cons y ys =>
    simp only [ZfD,Xc,beq_iff_eq,bne_iff_ne,ne_eq] at hf
    obtain ⟨⟨⟨h1,h2⟩,h3⟩,h4⟩:=hf
    simp only [Zc7,Xc] at hk
    simp only [VRs] at hx hy
    obtain ⟨u,us',eu,hx1,hx2⟩:=hx
    obtain ⟨v,vs',ev,hy1,hy2⟩:=hy
    have gu:us[o]?=some u:=by
     have:=congrArg (fun l:List Value=>l[0]?) eu
     simpa using this
    have gv:vs[o]?=some v:=by
     have:=congrArg (fun l:List Value=>l[0]?) ev
     simpa using this
    have eu':us.toList.drop (o+1)=us':=by rw [<-XaK,eu];rfl
    have ev':vs.toList.drop (o+1)=vs':=by rw [<-XaK,ev];rfl
    simp only [Zdd] at h
    split at h
    ·rename_i b1 hb1
     split at h
     ·rename_i b2 hb2
      injection h with h;subst h
      have r1:=Zmx w d hx1 hy1 hb1 hk.1
      have r2:=Zk5 w d (us:=us) (vs:=vs) h4 hk.2 (by rw [eu'];exact hx2) (by rw [ev'];exact hy2) hb2
      rw [<-h1] at gu gv
      simp only [Op.eqFields,h2,ne_eq,not_false_eq_true,if_true,Sem.run_bind,Zkj h3 gu,Zkj h3 gv,r1,Result.andThen_ok]
      cases b1
      ·simp
      ·simpa using r2
     ·cases h
    ·cases h
theorem Zw4 {t:TypeId} {fs:Array Field} (hu:P.underlying t=some (.struct fs)) (hf:Zht P t fs=true) {x y:List AVal} {us vs:Array Value} (hx:VRs I β x us.toList) (hy:VRs I β y vs.toList) (hk:Zc7 P fs.toList x=true) {b:Bool} (h:Zdd x y=some b) (neg:Bool) {op:BinOp} (hop:op=(if neg then .neq else .eql)) (ox oy:Operand) :
  (do eqGuard op t ox oy (.agg us) (.agg vs);binOp op t (.agg us) (.agg vs):Sem Value).run P w=.ok (.bool (b != neg)) w:=by
 simp only [Zht,Xc,Bool.not_eq_true'] at hf
 obtain ⟨⟨hf1,hf2⟩,hf3⟩:=hf
 have hfo:P.fieldsOf t=fs:=by simp [Program.fieldsOf,hu]
 have h1:(eqGuard op t ox oy (.agg us) (.agg vs)).run P w=.ok () w:=by
  subst hop
  cases neg <;> simp [eqGuard,hf3]
 have h2:(Op.equal t (.agg us) (.agg vs)).run P w=.ok b w:=by
  show (Op.equalIn (9999+1) t (.agg us) (.agg vs)).run P w=_
  rw [run_equalIn_struct w 9999 t us vs (by rw [hfo];exact hu) hf2,hfo]
  exact Zk5 w 9998 hf1 hk (by simpa using hx) (by simpa using hy) h
 subst hop
 cases neg
 ·simp only [Xg,if_false] at h1 ⊢
  simp [h1,h2,binOp]
 ·simp only [if_true] at h1 ⊢
  simp [h1,h2,binOp]
end
end
section
open Go.RowKit
section
variable {P:Program} {base:Nat->Prop} {w0 w w':World} {I0 I I':Imm} {β β':Bmap} {σ σ':Za}
def ZbE:TypeDesc->Option Nat
 | .int _=>some 0
 | .bool=>some 1
 | .string=>some 2
 | _=>none
theorem Zf7 {P:Program} {t:TypeId} {kc:Nat} {z:AVal} (h:Zee P t=some (kc,z)):∃ kt et d,P.underlying t=some (.map kt et)/\P.underlying kt=some d/\ZbE d=some kc/\ZbG P et=some z:=by
 unfold Zee at h
 split at h
 case h_2=>cases h
 rename_i kt et ht
 split at h
 case h_2=>cases h
 rename_i kc' z' hk hz
 simp only [Xa,Xb] at h
 obtain ⟨rfl,rfl⟩:=h
 unfold Zdo at hk
 split at hk
 ·rename_i e;injection hk with hk;subst hk;exact ⟨kt,et,_,ht,e,rfl,hz⟩
 ·rename_i e;injection hk with hk;subst hk;exact ⟨kt,et,_,ht,e,rfl,hz⟩
 ·rename_i e;injection hk with hk;subst hk;exact ⟨kt,et,_,ht,e,rfl,hz⟩
 ·cases hk
theorem ZkO {l l':List UInt8}:((⟨l.toArray⟩:ByteArray) == ⟨l'.toArray⟩)=(l == l'):=by
 rw [beq_toListBytes,Zfg,Zfg]
theorem ZjX {d:TypeDesc} {x y:AVal} {vx vy:Value} {b:Bool} (hd:ZbE d=some (Zag x)) (h:ZbO x y=some b) (hx:VR I β x vx) (hy:VR I β y vy):Instr.sameNow d vx vy=some b:=by
 unfold ZbO at h
 split at h
 ·rename_i k n k' m
  split at h
  case isFalse=>cases h
  rename_i hk
  subst hk
  injection h with h
  subst h
  simp only [VR] at hx hy
  subst hx hy
  cases d <;> simp [ZbE,Zag] at hd
  simp [Instr.sameNow]
 ·injection h with h
  subst h
  simp only [VR] at hx hy
  subst hx hy
  cases d <;> simp [ZbE,Zag] at hd
  simp [Instr.sameNow]
 ·rename_i l l'
  injection h with h
  subst h
  simp only [VR] at hx hy
  rw [hx.1,hy.1]
  cases d <;> simp [ZbE,Zag] at hd
  simp only [Instr.sameNow,ZkO]
 ·cases h
theorem ZoC {x y:AVal} {vx vy:Value} (h:ZbO x y=some true) (hx:VR I β x vx) (hy:VR I β y vy):Instr.sameBits 10000 vy vx=true/\vx=vy:=by
 unfold ZbO at h
 split at h
 ·rename_i k n k' m
  split at h
  case isFalse=>cases h
  rename_i hk
  subst hk
  simp only [Xa,beq_iff_eq] at h
  subst h
  simp only [VR] at hx hy
  subst hx hy
  exact ⟨by simp [Instr.sameBits],rfl⟩
 ·simp only [Xa,beq_iff_eq] at h
  subst h
  simp only [VR] at hx hy
  subst hx hy
  exact ⟨by simp [Instr.sameBits],rfl⟩
 ·simp only [Xa,beq_iff_eq] at h
  subst h
  simp only [VR] at hx hy
  rw [hx.1,hy.1]
  exact ⟨by simp only [Instr.sameBits,ZkO,beq_self_eq_true],rfl⟩
 ·cases h
theorem Zc3 {d:TypeDesc} {x:AVal} {vx:Value} (hd:ZbE d=some (Zag x)) (hx:VR I β x vx):∀ (es:List (AVal×AVal)) (arr:List MapEntry) (i:Nat) (r:Option (Nat×AVal)),VRs I β (es.map (·.1)) (arr.map (·.key))->VRs I β (es.map (·.2)) (arr.map (·.val))->ZbD x es i=some r ->
  (r=none/\Instr.findNow d vx arr i=some none) \/
  ∃ j y e p,r=some (i+j,y)/\Instr.findNow d vx arr i=some (some (i+j,e.val))/\arr[j]?=some e/\es[j]?=some p/\p.2=y/\VR I β y e.val/\ZbO x p.1=some true/\VR I β p.1 e.key
 | [],arr,i,r,hk,_,h=>by
  unfold ZbD at h
  injection h with h
  subst h
  simp only [X6,VRs,List.map_eq_nil_iff] at hk
  subst hk
  exact Xo ⟨rfl,by simp [Instr.findNow]⟩
 | (k,y)::es,arr,i,r,hk,hv,h=>by
  unfold ZbD at h
  cases arr with
  | nil =>
   simp only [XB,X6,VRs] at hk
   obtain ⟨_,_,hk,_⟩:=hk
   cases hk
  | cons e arr =>
  simp only [XB,VRs] at hk hv
  obtain ⟨_,_,ek,k1,k2⟩:=hk
  injection ek with ek1 ek2
  subst ek1 ek2
  obtain ⟨_,_,ev,v1,v2⟩:=hv
  injection ev with ev1 ev2
  subst ev1 ev2
  split at h
  ·rename_i ha
   injection h with h
   subst h
   refine Xw ⟨0,y,e,(k,y),rfl,?_,rfl,rfl,rfl,v1,ha,k1⟩
   simp only [Instr.findNow,ZjX hd ha hx k1,X4]
  ·rename_i ha
   have hn:=ZjX hd ha hx k1
   rcases Zc3 hd hx es arr (i+1) r k2 v2 h with ⟨h1,h2⟩ | ⟨j,y',e',p',h1,h2,h3,h4,h5⟩
   ·exact Xo ⟨h1,by simp only [Instr.findNow,hn];exact h2⟩
   ·refine Xw ⟨j+1,y',e',p',by rw [h1,Ws,XaQ 1 j],?_,by simpa using h3,by simpa using h4,h5⟩
    simp only [Instr.findNow,hn]
    rw [h2,Ws,XaQ 1 j]
  ·cases h
theorem ZcD {kt:TypeId} {d:TypeDesc} {kc:Nat} (hk:P.underlying kt=some d) (hd:ZbE d=some kc) (e:Bool) (v:Value):(Instr.checkKey e 10000 kt v).run P w=.ok () w:=by
 show (Instr.checkKey e (9999+1) kt v).run P w=_
 unfold Instr.checkKey
 rw [Sem.run_bind,run_underlying hk]
 cases d <;> simp [ZbE] at hd <;> rfl
theorem Zc2 {kt:TypeId} {d:TypeDesc} (hk:P.underlying kt=some d) {v:Value} {arr:List MapEntry} {r:Option (Nat×Value)} (h:Instr.findNow d v arr 0=some r):(Instr.findKey kt v arr).run P w=.ok r w:=by
 unfold Instr.findKey
 rw [Sem.run_bind,run_underlying hk]
 simp only [Result.andThen_ok,h,Sem.run_pure]
theorem ZqN {e:TypeId} {z:AVal} (hz:ZbG P e=some z):∃ v,(zeroValue e).run P w=.ok v w/\VR I β z v:=by
 unfold ZbG at hz
 split at hz
 case h_2=>cases hz
 rename_i i hi
 split at hz
 case h_2=>cases hz
 rename_i v hv
 exact ⟨v,by simp [zeroValue,typeInfo,hi,hv],(ZcY hz).1⟩
theorem ZdX {b:Nat} {arr:Array MapEntry} {clk:Nat} (h:w.heap[b]?=some (.map arr clk)):(getObj b).run P w=.ok (.map arr clk) w:=by simp [getObj,Sem.run,h]
theorem ZeE:VR I β (.tup []) undef:=by simp [VR,VRs,undef]
theorem ZeT {x:AVal} {v:Value} (b:Bool) (h:VR I β x v):VR I β (.tup [x,.bool b]) (.tuple #[v,.bool b]):=by
 simp only [VR]
 exact ⟨_,rfl,by simp only [VRs];exact ⟨_,_,rfl,h,_,_,rfl,rfl,rfl⟩⟩
theorem Zxp (R:Rel base w0 I0 I β σ w) {t kt et:TypeId} (ht:P.underlying t=some (.map kt et)) {d:TypeDesc} (hdk:P.underlying kt=some d) {kc:Nat} (hd:ZbE d=some kc) {z:AVal} (hz:ZbG P et=some z) {ok:Bool} {m k v:AVal} {vm vk:Value} {c:Cls} (hm:VR I β m vm) (hk:VR I β k vk)
  (h:Zbh σ kc z ok m k=some (v,σ',c)):σ'=σ/\∃ u,(Instr.lookup t vm vk ok).run P w=.ok u w/\VR I β v u:=by
 obtain ⟨vz,hvz,hzr⟩:=ZqN (P:=P) (w:=w) (I:=I) (β:=β) hz
 unfold Zbh at h
 split at h
 case isFalse=>cases h
 rename_i hkc
 have hd':ZbE d=some (Zag k):=by rw [hd,hkc]
 split at h
 ·simp only [Xa,Xb] at h
  obtain ⟨rfl,rfl,rfl⟩:=h
  simp only [VR] at hm
  subst hm
  have hf:=Zc2 (P:=P) (w:=w) hdk (v:=vk) (arr:=[]) (r:=none) (by simp [Instr.findNow])
  refine ⟨rfl,if ok then .tuple #[vz,.bool false] else vz,?_,?_⟩
  ·simp [Instr.lookup,run_underlying ht,ZcD hdk hd,hf,hvz]
  ·cases ok
   ·exact hzr
   ·exact ZeT false hzr
 ·rename_i b
  simp only [VR] at hm
  obtain ⟨bb,kk,cc,hb,rfl⟩:=hm
  split at h
  ·rename_i es hs
   obtain ⟨b',k',c',arr,clk,e1,e2,e3,e4,_⟩:=R.blk _ _ hs
   rw [hb] at e1
   simp only [Xa,BI.mk.injEq] at e1
   obtain ⟨rfl,rfl,rfl⟩:=e1
   have hg:=ZdX (P:=P) e2
   split at h
   ·rename_i j y hf
    simp only [Xa,Xb] at h
    obtain ⟨rfl,rfl,rfl⟩:=h
    rcases Zc3 hd' hk es arr.toList 0 _ e3 e4 hf with ⟨h1,_⟩ | ⟨j',y',e,p,h1,h2,_,_,_,h5,_⟩
    ·cases h1
    ·injection h1 with h1
     injection h1 with h1 h1'
     subst h1'
     have hr:=Zc2 (P:=P) (w:=w) hdk h2
     refine ⟨rfl,if ok then .tuple #[e.val,.bool true] else e.val,?_,?_⟩
     ·simp [Instr.lookup,run_underlying ht,ZcD hdk hd,hg,hr]
     ·cases ok
      ·exact h5
      ·exact ZeT true h5
   ·rename_i hf
    simp only [Xa,Xb] at h
    obtain ⟨rfl,rfl,rfl⟩:=h
    rcases Zc3 hd' hk es arr.toList 0 _ e3 e4 hf with ⟨_,h2⟩ | ⟨j',y',e,p,h1,_⟩
    ·have hr:=Zc2 (P:=P) (w:=w) hdk h2
     refine ⟨rfl,if ok then .tuple #[vz,.bool false] else vz,?_,?_⟩
     ·simp [Instr.lookup,run_underlying ht,ZcD hdk hd,hg,hr,hvz]
     ·cases ok
      ·exact hzr
      ·exact ZeT false hzr
    ·cases h1
   ·cases h
  ·rename_i es hs
   obtain ⟨b',k',c',arr,clk,e1,e2,e3,e4,_⟩:=R.blk _ _ hs
   rw [hb] at e1
   simp only [Xa,BI.mk.injEq] at e1
   obtain ⟨rfl,rfl,rfl⟩:=e1
   have hg:=ZdX (P:=P) e2
   split at h
   ·rename_i j y hf
    simp only [Xa,Xb] at h
    obtain ⟨rfl,rfl,rfl⟩:=h
    rcases Zc3 hd' hk es arr.toList 0 _ e3 e4 hf with ⟨h1,_⟩ | ⟨j',y',e,p,h1,h2,_,_,_,h5,_⟩
    ·cases h1
    ·injection h1 with h1
     injection h1 with h1 h1'
     subst h1'
     have hr:=Zc2 (P:=P) (w:=w) hdk h2
     refine ⟨rfl,if ok then .tuple #[e.val,.bool true] else e.val,?_,?_⟩
     ·simp [Instr.lookup,run_underlying ht,ZcD hdk hd,hg,hr]
     ·cases ok
      ·exact h5
      ·exact ZeT true h5
   ·rename_i hf
    simp only [Xa,Xb] at h
    obtain ⟨rfl,rfl,rfl⟩:=h
    rcases Zc3 hd' hk es arr.toList 0 _ e3 e4 hf with ⟨_,h2⟩ | ⟨j',y',e,p,h1,_⟩
    ·have hr:=Zc2 (P:=P) (w:=w) hdk h2
     refine ⟨rfl,if ok then .tuple #[vz,.bool false] else vz,?_,?_⟩
     ·simp [Instr.lookup,run_underlying ht,ZcD hdk hd,hg,hr,hvz]
     ·cases ok
      ·exact hzr
      ·exact ZeT false hzr
    ·cases h1
   ·cases h
  ·cases h
 ·cases h
theorem Zgl (R:Rel base w0 I0 I β σ w) {t b k c:Nat} {es es':List (AVal×AVal)} (hs:σ[t]?=some (.map es)) (hb:β t 0=some ⟨some b,k,c⟩) {arr':Array MapEntry} {clk':Nat} (hk:VRs I β (es'.map (·.1)) (arr'.toList.map (·.key))) (hv:VRs I β (es'.map (·.2)) (arr'.toList.map (·.val))) (hA:∀ p ∈ es',Zcz p.1=true) (hS:ZeH arr' clk') (hlt:b < w.heap.size) :
  Rel base w0 I0 I β (σ.set t (.map es')) { w with heap:=w.heap.setIfInBounds b (.map arr' clk') } :=
 R.putObj hs (by simp [Zc,hb]) _ (by simp [Zc,hb]) ⟨b,k,c,arr',clk',hb,by rw [WA hlt],hk,hv,hA,hS⟩ rfl
theorem Zgj (arr:Array MapEntry) (i:Nat) (f:MapEntry->MapEntry):(arr.modify i f).toList=arr.toList.modify i f:=by simp
theorem Zhk {α β:Type} (g:α->β) (f:α->α) (v:β) (hf:∀ x,g (f x)=v):∀ (l:List α) (i:Nat),(l.modify i f).map g=(l.map g).set i v
 | [],i=>by simp
 | x::l,0=>by simp [hf]
 | x::l,i+1=>by simp [Zhk g f v hf l i]
theorem ZhI {α β:Type} (g:α->β) (f:α->α) (hf:∀ x,g (f x)=g x):∀ (l:List α) (i:Nat),(l.modify i f).map g=l.map g
 | [],i=>by simp
 | x::l,0=>by simp [hf]
 | x::l,i+1=>by simp [ZhI g f hf l i]
theorem ZfT {b:Nat} {arr:Array MapEntry} {clk:Nat} {o':Obj} (h:w.heap[b]?=some (.map arr clk)):(setObj b o').run P w=.ok () { w with heap:=w.heap.setIfInBounds b o' }:=by simp [setObj,Sem.run,h]
theorem ZgU:∀ {xs:List AVal} {vs:List Value} (i:Nat),VRs I β xs vs->VRs I β (xs.eraseIdx i) (vs.eraseIdx i)
 | [],vs,i,h=>by simp only [VRs] at h;subst h;simp [VRs]
 | x::xs,vs,0,h=>by
  simp only [VRs] at h
  obtain ⟨v,vs',rfl,_,h⟩:=h
  exact h
 | x::xs,vs,i+1,h=>by
  simp only [VRs] at h
  obtain ⟨v,vs',rfl,h1,h⟩:=h
  simp only [List.eraseIdx_cons_succ,VRs]
  exact ⟨v,_,rfl,h1,ZgU i h⟩
theorem Zd5 {α β:Type} (g:α->β):∀ (l:List α) (i:Nat),(l.eraseIdx i).map g=(l.map g).eraseIdx i
 | [],i=>by simp
 | x::l,0=>by simp
 | x::l,i+1=>by simp [Zd5 g l i]
theorem Zlc (R:Rel base w0 I0 I β σ w) {t kt et:TypeId} (ht:P.underlying t=some (.map kt et)) {d:TypeDesc} (hdk:P.underlying kt=some d) {kc:Nat} (hd:ZbE d=some kc) {m k x v:AVal} {vm vk vx:Value} {c:Cls} (hm:VR I β m vm) (hk:VR I β k vk) (hx:VR I β x vx)
  (h:Zdh σ kc m k x=some (v,σ',c)):v=.tup []/\∃ w',(Instr.mapUpdate t vm vk vx).run P w=.ok () w'/\Rel base w0 I0 I β σ' w':=by
 unfold Zdh at h
 split at h
 case isFalse=>cases h
 rename_i hkc
 obtain ⟨hkc,hkA,_⟩:=hkc
 have hd':ZbE d=some (Zag k):=by rw [hd,hkc]
 split at h
 case h_2=>cases h
 rename_i b
 simp only [VR] at hm
 obtain ⟨bb,kk,cc,hb,rfl⟩:=hm
 split at h
 case h_2=>cases h
 rename_i es hs
 obtain ⟨b',k',c',arr,clk,e1,e2,e3,e4,e5,e6,e7⟩:=R.blk _ _ hs
 have hb0:=hb
 rw [hb] at e1
 simp only [Xa,BI.mk.injEq] at e1
 obtain ⟨rfl,rfl,rfl⟩:=e1
 have hg:=ZdX (P:=P) e2
 have hlt:bb < w.heap.size:=(Xy.1 e2).1
 split at h
 ·rename_i j y hf
  simp only [Xa,Xb] at h
  obtain ⟨rfl,rfl,rfl⟩:=h
  rcases Zc3 hd' hk es arr.toList 0 _ e3 e4 hf with ⟨h1,_⟩ | ⟨j',y',e,p,h1,h2,h3,h4,_,h5,h6,h7⟩
  ·cases h1
  ·simp only [XD] at h1 h2
   injection h1 with h1
   injection h1 with h1 h1'
   subst h1 h1'
   have hr:=Zc2 (P:=P) (w:=w) hdk h2
   obtain ⟨sb,_⟩:=ZoC h6 hk h7
   have h3':arr[j]?=some e:=by rw [<-Array.getElem?_toList];exact h3
   have hst:(Instr.keyThatStays (((arr[j]?).map (·.key)).getD vk) vk).run P w=.ok vk w:=by
    rw [h3']
    simp [Instr.keyThatStays,sb]
   refine ⟨rfl,_,?_,Zgl R hs hb0 (arr':=arr.modify j fun e=>{ e with key:=vk,val:=vx }) (clk':=clk) ?_ ?_ ?_ ?_ hlt⟩
   ·simp only [Instr.mapUpdate,run_underlying ht,ZcD hdk hd,hg,hr,hst,Sem.run_bind,Result.andThen_ok,ZfT e2]
   ·rw [Zgj,Zhk (fun x:MapEntry=>x.key) _ vk (fun _=>rfl),List.map_set]
    exact Zki e3 hk j
   ·rw [Zgj,Zhk (fun x:MapEntry=>x.val) _ vx (fun _=>rfl),List.map_set]
    exact Zki e4 hx j
   ·intro q hq
    rcases Wg hq with hq | rfl
    ·exact e5 q hq
    ·exact hkA
   ·refine ⟨fun e he=>?_,?_⟩
    ·rw [Zgj] at he
     have hm:e.born ∈ (arr.toList.modify j fun e=>{ e with key:=vk,val:=vx }).map (·.born):=XL.2 ⟨e,he,rfl⟩
     rw [ZhI (fun x:MapEntry=>x.born) (fun e:MapEntry=>{ e with key:=vk,val:=vx }) (fun _=>rfl)] at hm
     obtain ⟨e',he',hb'⟩:=XL.1 hm
     rw [<-hb'];exact e6 e' he'
    ·rw [Zgj,ZhI (fun x:MapEntry=>x.born) (fun e:MapEntry=>{ e with key:=vk,val:=vx }) (fun _=>rfl)]
     exact e7
 ·rename_i hf
  simp only [Xa,Xb] at h
  obtain ⟨rfl,rfl,rfl⟩:=h
  rcases Zc3 hd' hk es arr.toList 0 _ e3 e4 hf with ⟨_,h2⟩ | ⟨j',y',e,p,h1,_⟩
  ·have hr:=Zc2 (P:=P) (w:=w) hdk h2
   refine ⟨rfl,_,?_,Zgl R hs hb0 (arr':=arr.push { key:=vk,val:=vx,born:=clk }) (clk':=clk+1) ?_ ?_ ?_ ?_ hlt⟩
   ·simp only [Instr.mapUpdate,run_underlying ht,ZcD hdk hd,hg,hr,Sem.run_bind,Result.andThen_ok,ZfT e2]
   ·rw [Xak,Wd,Wd]
    exact Zbj e3 (by simp only [XB,X6,VRs];exact ⟨_,_,rfl,hk,rfl⟩)
   ·rw [Xak,Wd,Wd]
    exact Zbj e4 (by simp only [XB,X6,VRs];exact ⟨_,_,rfl,hx,rfl⟩)
   ·intro q hq
    rcases Xn.1 hq with hq | hq
    ·exact e5 q hq
    ·rw [XV] at hq;subst hq;exact hkA
   ·refine ⟨fun e he=>?_,?_⟩
    ·rw [Xak] at he
     rcases Xn.1 he with he | he
     ·have:=e6 e he;omega
     ·rw [XV] at he;subst he;exact Nat.lt_succ_self clk
    ·rw [Xak,Wd,WV]
     refine ⟨e7,by simp,?_⟩
     intro a ha b hb'
     simp only [XB,X6,XV] at hb'
     subst hb'
     obtain ⟨e',he',rfl⟩:=XL.1 ha
     have:=e6 e' he'
     omega
  ·cases h1
 ·cases h
theorem ZuN (R:Rel base w0 I0 I β σ w) {t kt et:TypeId} (ht:P.underlying t=some (.map kt et)) {d:TypeDesc} (hdk:P.underlying kt=some d) {kc:Nat} (hd:ZbE d=some kc) {m k v:AVal} {vm vk:Value} {c:Cls} (ts:List TypeId) (ty:TypeId) (hm:VR I β m vm) (hk:VR I β k vk)
  (h:ZdY σ kc m k=some (v,σ',c)):∃ w',(Builtin.delete_ (t::ts).toArray ty #[vm,vk]).run P w=.ok (.tuple #[]) w'/\v=.tup []/\Rel base w0 I0 I β σ' w':=by
 unfold ZdY at h
 split at h
 case isFalse=>cases h
 rename_i hkc
 have hd':ZbE d=some (Zag k):=by rw [hd,hkc]
 split at h
 ·simp only [Xa,Xb] at h
  obtain ⟨rfl,rfl,rfl⟩:=h
  simp only [VR] at hm
  subst hm
  exact ⟨w,by simp [Builtin.delete_,run_underlying ht,ZcD hdk hd],rfl,R⟩
 ·rename_i b
  simp only [VR] at hm
  obtain ⟨bb,kk,cc,hb,rfl⟩:=hm
  split at h
  case h_2=>cases h
  rename_i es hs
  obtain ⟨b',k',c',arr,clk,e1,e2,e3,e4,e5,e6,e7⟩:=R.blk _ _ hs
  have hb0:=hb
  rw [hb] at e1
  simp only [Xa,BI.mk.injEq] at e1
  obtain ⟨rfl,rfl,rfl⟩:=e1
  have hg:=ZdX (P:=P) e2
  have hlt:bb < w.heap.size:=(Xy.1 e2).1
  split at h
  ·rename_i j y hf
   simp only [Xa,Xb] at h
   obtain ⟨rfl,rfl,rfl⟩:=h
   rcases Zc3 hd' hk es arr.toList 0 _ e3 e4 hf with ⟨h1,_⟩ | ⟨j',y',e,p,h1,h2,h3,h4,_⟩
   ·cases h1
   ·simp only [XD] at h1 h2
    injection h1 with h1
    injection h1 with h1 h1'
    subst h1 h1'
    have hr:=Zc2 (P:=P) (w:=w) hdk h2
    have el:(arr.eraseIdxIfInBounds j).toList=arr.toList.eraseIdx j:=by simp
    refine ⟨_,?_,rfl,Zgl R hs hb0 (arr':=arr.eraseIdxIfInBounds j) (clk':=clk) ?_ ?_ ?_ ?_ hlt⟩
    ·simp [Builtin.delete_,run_underlying ht,ZcD hdk hd,hg,hr,ZfT e2]
    ·rw [el,Zd5,Zd5];exact ZgU j e3
    ·rw [el,Zd5,Zd5];exact ZgU j e4
    ·exact fun q hq=>e5 q (List.mem_of_mem_eraseIdx hq)
    ·refine ⟨fun e he=>?_,?_⟩
     ·rw [el] at he;exact e6 e (List.mem_of_mem_eraseIdx he)
     ·rw [el,Zd5];exact e7.sublist (List.eraseIdx_sublist _ _)
  ·rename_i hf
   simp only [Xa,Xb] at h
   obtain ⟨rfl,rfl,rfl⟩:=h
   rcases Zc3 hd' hk es arr.toList 0 _ e3 e4 hf with ⟨_,h2⟩ | ⟨j',y',e,p,h1,_⟩
   ·have hr:=Zc2 (P:=P) (w:=w) hdk h2
    refine ⟨_,?_,rfl,Zgl R hs hb0 (arr':=arr) (clk':=clk) e3 e4 e5 ⟨e6,e7⟩ hlt⟩
    simp [Builtin.delete_,run_underlying ht,ZcD hdk hd,hg,hr,ZfT e2]
   ·cases h1
  ·cases h
 ·cases h
theorem ZrR (R:Rel base w0 I0 I β σ w) {t kt et:TypeId} (ht:P.underlying t=some (.map kt et)) {m v:AVal} {vm:Value} {c:Cls} (ty:TypeId) (hm:VR I β m vm) (h:Zdj σ m=some (v,σ',c)):σ'=σ/\∃ u,(Builtin.len_ #[t] ty #[vm]).run P w=.ok u w/\VR I β v u:=by
 unfold Zdj at h
 split at h
 ·simp only [Xa,Xb] at h
  obtain ⟨rfl,rfl,rfl⟩:=h
  simp only [VR] at hm
  subst hm
  exact ⟨rfl,goInt 0,by simp [Builtin.len_,run_underlying ht],by simp [VR,goInt]⟩
 ·rename_i b
  simp only [VR] at hm
  obtain ⟨bb,kk,cc,hb,rfl⟩:=hm
  split at h
  ·rename_i es hs
   simp only [Xa,Xb] at h
   obtain ⟨rfl,rfl,rfl⟩:=h
   obtain ⟨b',k',c',arr,clk,e1,e2,e3,_⟩:=R.blk _ _ hs
   rw [hb] at e1
   simp only [Xa,BI.mk.injEq] at e1
   obtain ⟨rfl,rfl,rfl⟩:=e1
   have hg:=ZdX (P:=P) e2
   have hl:es.length=arr.size:=by simpa using Zaa e3
   exact ⟨rfl,goInt arr.size,by simp [Builtin.len_,run_underlying ht,hg],by simp [VR,goInt,hl]⟩
  ·rename_i es hs
   simp only [Xa,Xb] at h
   obtain ⟨rfl,rfl,rfl⟩:=h
   obtain ⟨b',k',c',arr,clk,e1,e2,e3,_⟩:=R.blk _ _ hs
   rw [hb] at e1
   simp only [Xa,BI.mk.injEq] at e1
   obtain ⟨rfl,rfl,rfl⟩:=e1
   have hg:=ZdX (P:=P) e2
   have hl:es.length=arr.size:=by simpa using Zaa e3
   exact ⟨rfl,goInt arr.size,by simp [Builtin.len_,run_underlying ht,hg],by simp [VR,goInt,hl]⟩
  ·cases h
 ·cases h
theorem ZvG (R:Rel base w0 I0 I β σ w) (hb:KLt base w0) (t:TypeId) {sq:Nat} (hs:σ[sq]?=some .free) :
  ∃ u w',(Instr.makeMap t none).run P w=.ok u w'/\Post base w0 I0 I β (.map sq) (σ.set sq (.map [])) u w':=by
 obtain ⟨R',hle⟩:=R.newObj hb hs (.map #[] 0) (.map []) 1 1 (by simp [Zc,Bmap.put_same]) rfl (by simp)
  ⟨_,_,_,#[],0,Bmap.put_same β sq 0 _,by simp,by simp [VRs],by simp [VRs],by simp,by simp [ZeH]⟩
 refine ⟨.map (some w.heap.size),_,run_makeMap t w,Post.mk (Imm.le.refl I) hle R' ?_⟩
 simp only [VR]
 exact ⟨_,_,_,Bmap.put_same β sq 0 _,rfl⟩
end
end
section
open Go.RowKit
section
variable {P:Program} {base:Nat->Prop} {w0 w w':World} {I0 I I':Imm} {β β':Bmap} {σ σ':Za} {tm:Tms}
theorem Zc8 {α:Type} {x:Option α} {f:α->AVal×Za×Cls} {y:AVal×Za×Cls} (h:x.map f=some y):∃ a,x=some a/\f a=y:=by simpa [Xh] using h
theorem ZlF {t:TypeId} (hu:P.underlying t=some .bool) (p q:Bool) (x y:Operand):(do eqGuard .eql t x y (.bool p) (.bool q);binOp .eql t (.bool p) (.bool q):Sem Value).run P w=.ok (.bool ((p == q) != false)) w:=by
 have h1:(eqGuard .eql t x y (.bool p) (.bool q)).run P w=.ok () w:=by simp [eqGuard]
 simp only [Sem.run_bind,h1,Result.andThen_ok,run_eql_bool w t p q hu]
 cases p <;> cases q <;> rfl
theorem Zra {t:TypeId} (hu:P.underlying t=some .bool) (p q:Bool) (x y:Operand):(do eqGuard .neq t x y (.bool p) (.bool q);binOp .neq t (.bool p) (.bool q):Sem Value).run P w=.ok (.bool ((p == q) != true)) w:=by
 have h1:(eqGuard .neq t x y (.bool p) (.bool q)).run P w=.ok () w:=by simp [eqGuard]
 have h2:(binOp .neq t (.bool p) (.bool q)).run P w=.ok (.bool (!(p == q))) w:=by
  simp only [binOp,Sem.run_bind,run_equal_bool w t p q hu,Result.andThen_ok,Sem.run_pure]
 simp only [Sem.run_bind,h1,Result.andThen_ok,h2]
 cases p <;> cases q <;> rfl
theorem Zji {t e:TypeId} (hu:P.underlying t=some (.pointer e)) (p q:Option Addr) (hpq:p=none\/q=none):(Op.equal t (.pointer p) (.pointer q)).run P w=.ok (p.isNone && q.isNone) w:=by
 show (Op.equalIn (9999+1) t (.pointer p) (.pointer q)).run P w=_
 unfold Op.equalIn
 rw [Sem.run_bind,run_underlying hu]
 simp only [Result.andThen_ok]
 rcases hpq with rfl | rfl
 ·cases q <;> simp
 ·cases p <;> simp
theorem ZgY {t e:TypeId} (hu:P.underlying t=some (.pointer e)) (p q:Option Addr) (x y:Operand) (hpq:p=none\/q=none):(do eqGuard .eql t x y (.pointer p) (.pointer q);binOp .eql t (.pointer p) (.pointer q):Sem Value).run P w=.ok (.bool ((p.isNone && q.isNone) != false)) w:=by
 have h1:(eqGuard .eql t x y (.pointer p) (.pointer q)).run P w=.ok () w:=by simp [eqGuard]
 simp only [Sem.run_bind,h1,Result.andThen_ok,binOp,Zji hu p q hpq,Sem.run_pure]
 simp
theorem ZhS {t e:TypeId} (hu:P.underlying t=some (.pointer e)) (p q:Option Addr) (x y:Operand) (hpq:p=none\/q=none):(do eqGuard .neq t x y (.pointer p) (.pointer q);binOp .neq t (.pointer p) (.pointer q):Sem Value).run P w=.ok (.bool ((p.isNone && q.isNone) != true)) w:=by
 have h1:(eqGuard .neq t x y (.pointer p) (.pointer q)).run P w=.ok () w:=by simp [eqGuard]
 simp only [Sem.run_bind,h1,Result.andThen_ok,binOp,Zji hu p q hpq,Sem.run_pure]
 simp
theorem Zt9 {t:TypeId} {ms} (hu:P.underlying t=some (.interface ms)) (neg:Bool) {op:BinOp} (x:Operand) (vy:Value) (hop:op=(if neg then .neq else .eql)):(do eqGuard op t x (.const vy) .nilIface .nilIface;binOp op t .nilIface .nilIface:Sem Value).run P w=.ok (.bool (true != neg)) w:=by
 have h1:(eqGuard op t x (.const vy) .nilIface .nilIface).run P w=.ok () w:=by subst hop;cases neg <;> simp [eqGuard]
 have h2:(Op.equal t .nilIface .nilIface).run P w=.ok true w:=by
  show (Op.equalIn (9999+1) t .nilIface .nilIface).run P w=_
  unfold Op.equalIn
  rw [Sem.run_bind,run_underlying hu]
  simp only [Result.andThen_ok]
  rfl
 subst hop
 cases neg
 ·simp only [Xg,if_false] at h1 ⊢
  simp [h1,h2,binOp]
 ·simp only [if_true] at h1 ⊢
  simp [h1,h2,binOp]
theorem ZsE {t t1:TypeId} {u:Value} {ms} (hu:P.underlying t=some (.interface ms)) (neg:Bool) {op:BinOp} (x:Operand) (vy:Value) (hop:op=(if neg then .neq else .eql)):(do eqGuard op t x (.const vy) (.iface t1 u) .nilIface;binOp op t (.iface t1 u) .nilIface:Sem Value).run P w=.ok (.bool (false != neg)) w:=by
 have h1:(eqGuard op t x (.const vy) (.iface t1 u) .nilIface).run P w=.ok () w:=by subst hop;cases neg <;> simp [eqGuard]
 have h2:(Op.equal t (.iface t1 u) .nilIface).run P w=.ok false w:=by
  show (Op.equalIn (9999+1) t (.iface t1 u) .nilIface).run P w=_
  unfold Op.equalIn
  rw [Sem.run_bind,run_underlying hu]
  simp only [Result.andThen_ok]
  rfl
 subst hop
 cases neg
 ·simp only [Xg,if_false] at h1 ⊢
  simp [h1,h2,binOp]
 ·simp only [if_true] at h1 ⊢
  simp [h1,h2,binOp]
def OpR (P:Program) (s:Sem Next) (w:World) (base:Nat->Prop) (w0:World) (I0 I:Imm) (β:Bmap) (v:AVal) (σ':Za):Prop :=
 OpOk P s w (Post base w0 I0 I β v σ')\/∃ x,v=.pan x/\OpPan P s w (Post base w0 I0 I β x σ')
theorem OpR.of_call {s:Sem Next} {f:FuncId} {args:Array Value} {v:AVal} (h:s.run P w=.ok (.enter f args) w) (hc:Calls P f args w (fun e w'=>∃ u,Ends v e u/\Post base w0 I0 I β (Zaj v) σ' u w')):OpR P s w base w0 I0 I β v σ':=by
 by_cases hp:∃ x,v=.pan x
 ·obtain ⟨x,rfl⟩:=hp
  exact Xw ⟨x,rfl,Xw ⟨f,args,w,h,hc.mono fun e w' ⟨u,h1,h2⟩=>⟨u,h1,h2⟩⟩⟩
 ·have hn:∀ x,v≠.pan x:=fun x e=>hp ⟨x,e⟩
  refine Xo (Xw (Xw ⟨f,args,w,h,hc.mono fun e w' ⟨u,h1,h2⟩=>⟨u,?_,by rw [Zc6 hn] at h2;exact h2⟩⟩))
  cases v <;> first | exact h1 | exact absurd rfl (hn _)
theorem ZvQ {O:Zq} (hO:ZY P O) {bf:Nat->Bool} {an:Ann} {a:Act} {o:Oper} {own:Nat} {ins:Ins} (x:Operand) (ho:o.op=.move x) (hc:Zs P an own (.move x)=some ins) (T:TR I β tm a.tmps) (R:Rel base w0 I0 I β σ w) (hb:KLt base w0)
  {sq:Nat} (hsite:nsite ins≠0->σ[sq]?=some .free) {v:AVal} {c:Cls} (h:execI O bf tm σ sq ins=some (v,σ',c)):OpOk P (execOp a.eval o) w (Post base w0 I0 I β v σ'):=by
 rw [show execOp a.eval o=(pure (.value (a.eval x)):Sem Next) by unfold execOp;rw [ho]]
 simp only [Zs] at hc
 simp only [Xh] at hc
 obtain ⟨y,hy,rfl⟩:=hc
 simp only [execI,Xa,Xb] at h
 obtain ⟨rfl,rfl,rfl⟩:=h
 exact Xo ⟨_,w,rfl,Post.here R (ZD T hy)⟩
theorem Zwb {O:Zq} (hO:ZY P O) {bf:Nat->Bool} {an:Ann} {a:Act} {o:Oper} {own:Nat} {ins:Ins} (x:Operand) (ho:o.op=.assign x) (hc:Zs P an own (.assign x)=some ins) (T:TR I β tm a.tmps) (R:Rel base w0 I0 I β σ w) (hb:KLt base w0)
  {sq:Nat} (hsite:nsite ins≠0->σ[sq]?=some .free) {v:AVal} {c:Cls} (h:execI O bf tm σ sq ins=some (v,σ',c)):OpOk P (execOp a.eval o) w (Post base w0 I0 I β v σ'):=by
 rw [show execOp a.eval o=(pure (.value (a.eval x)):Sem Next) by unfold execOp;rw [ho]]
 simp only [Zs] at hc
 simp only [Xh] at hc
 obtain ⟨y,hy,rfl⟩:=hc
 simp only [execI,Xa,Xb] at h
 obtain ⟨rfl,rfl,rfl⟩:=h
 exact Xo ⟨_,w,rfl,Post.here R (ZD T hy)⟩
theorem Zya {O:Zq} (hO:ZY P O) {bf:Nat->Bool} {an:Ann} {a:Act} {o:Oper} {own:Nat} {ins:Ins} (x:Operand) (y:Operand) (z:Operand) (ho:o.op=.pick x y z) (hc:Zs P an own (.pick x y z)=some ins) (T:TR I β tm a.tmps) (R:Rel base w0 I0 I β σ w) (hb:KLt base w0)
  {sq:Nat} (hsite:nsite ins≠0->σ[sq]?=some .free) {v:AVal} {c:Cls} (h:execI O bf tm σ sq ins=some (v,σ',c)):OpOk P (execOp a.eval o) w (Post base w0 I0 I β v σ'):=by
 rw [show execOp a.eval o=(do pure (.value (if <-asBool (a.eval x) then a.eval y else a.eval z)):Sem Next) by unfold execOp;rw [ho]]
 simp only [Zs] at hc
 split at hc
 ·rename_i c' a' b' hx hy hz
  injection hc with hc;subst hc
  have hx':=ZD T hx
  simp only [execI] at h
  unfold Zdn at h
  split at h
  ·rename_i e
   rw [e] at hx';simp only [VR] at hx'
   simp only [Xa,Xb] at h
   obtain ⟨rfl,rfl,rfl⟩:=h
   exact Xo ⟨_,w,by simp [hx',asBool],Post.here R (ZD T hy)⟩
  ·rename_i e
   rw [e] at hx';simp only [VR] at hx'
   simp only [Xa,Xb] at h
   obtain ⟨rfl,rfl,rfl⟩:=h
   exact Xo ⟨_,w,by simp [hx',asBool],Post.here R (ZD T hz)⟩
  ·cases h
 ·cases hc
theorem Zps {O:Zq} (hO:ZY P O) {bf:Nat->Bool} {an:Ann} {a:Act} {o:Oper} {own:Nat} {ins:Ins} (e:TypeId) (ho:o.op=.alloc e) (hc:Zs P an own (.alloc e)=some ins) (T:TR I β tm a.tmps) (R:Rel base w0 I0 I β σ w) (hb:KLt base w0)
  {sq:Nat} (hsite:nsite ins≠0->σ[sq]?=some .free) {v:AVal} {c:Cls} (h:execI O bf tm σ sq ins=some (v,σ',c)):OpOk P (execOp a.eval o) w (Post base w0 I0 I β v σ'):=by
 rw [show execOp a.eval o=(do pure (.value (<-Instr.alloc e true (.tuple #[]))):Sem Next) by unfold execOp;rw [ho]]
 simp only [Zs] at hc
 simp only [Xh] at hc
 obtain ⟨z,hz,rfl⟩:=hc
 simp only [execI,Xa,Xb] at h
 obtain ⟨rfl,rfl,rfl⟩:=h
 exact OpOk.val (Zs3 R hb hz (hsite (by simp [nsite])))
theorem ZoS {O:Zq} (hO:ZY P O) {bf:Nat->Bool} {an:Ann} {a:Act} {o:Oper} {own:Nat} {ins:Ins} (e:TypeId) (x:Operand) (ho:o.op=.box e x) (hc:Zs P an own (.box e x)=some ins) (T:TR I β tm a.tmps) (R:Rel base w0 I0 I β σ w) (hb:KLt base w0)
  {sq:Nat} (hsite:nsite ins≠0->σ[sq]?=some .free) {v:AVal} {c:Cls} (h:execI O bf tm σ sq ins=some (v,σ',c)):OpOk P (execOp a.eval o) w (Post base w0 I0 I β v σ'):=by
 rw [show execOp a.eval o=(do pure (.value (<-Instr.box e (a.eval x))):Sem Next) by unfold execOp;rw [ho]]
 simp only [Zs] at hc
 simp only [Xh] at hc
 obtain ⟨y,hy,hins⟩:=hc
 by_cases h3:own=3
 ·rw [if_pos h3] at hins
  subst hins
  simp only [execI] at h
  split at h
  ·rename_i e6
   simp only [Xa,Xb] at h
   obtain ⟨rfl,rfl,rfl⟩:=h
   have hv:=ZD T hy
   rw [e6] at hv
   exact OpOk.val (ZmI R hb hv (hsite (by simp [nsite])))
  ·cases h
 rw [if_neg h3] at hins
 by_cases h4:own=4
 ·rw [if_pos h4] at hins
  subst hins
  simp only [execI] at h
  split at h
  ·rename_i e6
   split at h
   ·rename_i hf
    simp only [Xa,Xb] at h
    obtain ⟨rfl,rfl,rfl⟩:=h
    have hv:=ZD T hy
    rw [e6] at hv
    refine OpOk.val (ZrZ R hb hv (hsite (by simp [nsite])) ?_)
    unfold freeAt at hf
    split at hf
    ·assumption
    ·cases hf
   ·cases h
  ·cases h
 rw [if_neg h4] at hins
 subst hins
 simp only [execI] at h
 split at h
 ·cases h
 ·cases h
 ·cases h
 ·rename_i _ hnt _
  simp only [Xa,Xb] at h
  obtain ⟨rfl,rfl,rfl⟩:=h
  exact OpOk.val (ZuO R hb hnt (ZD T hy) (hsite (by simp [nsite])))
theorem Zs9 {O:Zq} (hO:ZY P O) {bf:Nat->Bool} {an:Ann} {a:Act} {o:Oper} {own:Nat} {ins:Ins} (t:TypeId) (parts:Array (Nat×Operand)) (ho:o.op=.build t parts) (hc:Zs P an own (.build t parts)=some ins) (T:TR I β tm a.tmps) (R:Rel base w0 I0 I β σ w) (hb:KLt base w0)
  {sq:Nat} (hsite:nsite ins≠0->σ[sq]?=some .free) {v:AVal} {c:Cls} (h:execI O bf tm σ sq ins=some (v,σ',c)):OpOk P (execOp a.eval o) w (Post base w0 I0 I β v σ'):=by
 rw [show execOp a.eval o=(do pure (.value (<-Instr.build t (parts.map fun (i,x)=>(i,a.eval x)))):Sem Next) by unfold execOp;rw [ho]]
 simp only [Zs] at hc
 have hc0:Zs P an own (.build t parts)=some ins:=by simp only [Zs];exact hc
 obtain ⟨zs,ps,rfl⟩:∃ zs ps,ins=.build zs ps:=by
  split at hc
  ·split at hc
   ·simp only [Xh] at hc;obtain ⟨ps,_,rfl⟩:=hc;exact ⟨_,_,rfl⟩
   ·cases hc
  ·split at hc
   ·simp only [Xh] at hc;obtain ⟨ps,_,rfl⟩:=hc;exact ⟨_,_,rfl⟩
   ·cases hc
  ·cases hc
 simp only [execI] at h
 split at h
 ·rename_i cs hf
  simp only [Xa,Xb] at h
  obtain ⟨rfl,rfl,rfl⟩:=h
  obtain ⟨u,h1,h2⟩:=ZoY (w:=w) T hc0 hf
  exact OpOk.val ⟨u,w,h1,Post.here R h2⟩
 ·cases h
theorem Zql {O:Zq} (hO:ZY P O) {bf:Nat->Bool} {an:Ann} {a:Act} {o:Oper} {own:Nat} {ins:Ins} (t:TypeId) (n:Nat) (parts:Array (Nat×Operand)) (ho:o.op=.buildSlice t n parts) (hc:Zs P an own (.buildSlice t n parts)=some ins) (T:TR I β tm a.tmps) (R:Rel base w0 I0 I β σ w) (hb:KLt base w0)
  {sq:Nat} (hsite:nsite ins≠0->σ[sq]?=some .free) {v:AVal} {c:Cls} (h:execI O bf tm σ sq ins=some (v,σ',c)):OpOk P (execOp a.eval o) w (Post base w0 I0 I β v σ'):=by
 rw [show execOp a.eval o=(do pure (.value (<-Instr.buildSlice t n (parts.map fun (i,x)=>(i,a.eval x)))):Sem Next) by unfold execOp;rw [ho]]
 simp only [Zs] at hc
 split at hc
 ·rename_i k bytes z he
  split at hc
  ·rename_i hn
   simp only [Xh] at hc
   obtain ⟨ps,hps,rfl⟩:=hc
   split at h
   ·rename_i ho
    exact OpOk.val (Zpx T R hb he hn hps (hsite (by rw [if_pos ho];simp [nsite])) h)
   ·rename_i ho
    exact OpOk.val (Zpy T R hb he hn hps (fun ho'=>hsite (by rw [if_neg ho];simp [nsite,ho'])) h)
  ·cases hc
 ·cases hc
theorem Zxu {O:Zq} (hO:ZY P O) {bf:Nat->Bool} {an:Ann} {a:Act} {o:Oper} {own:Nat} {ins:Ins} (t:TypeId) (x:Operand) (ho:o.op=.load t x) (hc:Zs P an own (.load t x)=some ins) (T:TR I β tm a.tmps) (R:Rel base w0 I0 I β σ w) (hb:KLt base w0)
  {sq:Nat} (hsite:nsite ins≠0->σ[sq]?=some .free) {v:AVal} {c:Cls} (h:execI O bf tm σ sq ins=some (v,σ',c)):OpOk P (execOp a.eval o) w (Post base w0 I0 I β v σ'):=by
 rw [show execOp a.eval o=(do pure (.value (<-Instr.loadAt t (a.eval x))):Sem Next) by unfold execOp;rw [ho]]
 simp only [Zs] at hc
 split at hc
 ·rename_i k y hk hy
  injection hc with hc;subst hc
  simp only [execI] at h
  obtain ⟨u,h1,h2,rfl⟩:=ZiG hk R (ZD T hy) h
  exact OpOk.val ⟨u,w,h1,Post.here R h2⟩
 ·cases hc
theorem Zwz {O:Zq} (hO:ZY P O) {bf:Nat->Bool} {an:Ann} {a:Act} {o:Oper} {own:Nat} {ins:Ins} (t:TypeId) (x:Operand) (y:Operand) (ho:o.op=.store t x y) (hc:Zs P an own (.store t x y)=some ins) (T:TR I β tm a.tmps) (R:Rel base w0 I0 I β σ w) (hb:KLt base w0)
  {sq:Nat} (hsite:nsite ins≠0->σ[sq]?=some .free) {v:AVal} {c:Cls} (h:execI O bf tm σ sq ins=some (v,σ',c)):OpOk P (execOp a.eval o) w (Post base w0 I0 I β v σ'):=by
 rw [show execOp a.eval o=(do Instr.storeAt t (a.eval x) (a.eval y);pure .skip:Sem Next) by unfold execOp;rw [ho]]
 simp only [Zs] at hc
 split at hc
 ·rename_i k x' y' hk hx hy
  injection hc with hc;subst hc
  simp only [execI] at h
  exact OpOk.unit (ZxU hk R (ZD T hx) (ZD T hy) h)
 ·cases hc
theorem ZnX {O:Zq} (hO:ZY P O) {bf:Nat->Bool} {an:Ann} {a:Act} {o:Oper} {own:Nat} {ins:Ins} (x:Operand) (ho:o.op=.nilCheck x) (hc:Zs P an own (.nilCheck x)=some ins) (T:TR I β tm a.tmps) (R:Rel base w0 I0 I β σ w) (hb:KLt base w0)
  {sq:Nat} (hsite:nsite ins≠0->σ[sq]?=some .free) {v:AVal} {c:Cls} (h:execI O bf tm σ sq ins=some (v,σ',c)):OpOk P (execOp a.eval o) w (Post base w0 I0 I β v σ'):=by
 simp only [Zs] at hc
 simp only [Xh] at hc
 obtain ⟨y,hy,rfl⟩:=hc
 have hx:=ZD T hy
 have key:∀ ad,a.eval x=.pointer (some ad)->execOp a.eval o=pure (.value (a.eval x)):=by
  intro ad e
  unfold execOp
  rw [ho]
  simp only [e]
 simp only [execI] at h
 split at h
 ·rename_i t' o' e
  simp only [Xa,Xb] at h
  obtain ⟨rfl,rfl,rfl⟩:=h
  rw [e] at hx
  have hx':=hx
  simp only [VR] at hx'
  obtain ⟨b,k,c',_,hp⟩:=hx'
  rw [key _ hp]
  exact Xo ⟨a.eval x,w,rfl,Post.here R hx⟩
 ·rename_i t' g' i' o' e
  simp only [Xa,Xb] at h
  obtain ⟨rfl,rfl,rfl⟩:=h
  rw [e] at hx
  have hx':=hx
  simp only [VR] at hx'
  obtain ⟨b,k,c',_,hp⟩:=hx'
  rw [key _ hp]
  exact Xo ⟨a.eval x,w,rfl,Post.here R hx⟩
 ·rename_i cs o' e
  simp only [Xa,Xb] at h
  obtain ⟨rfl,rfl,rfl⟩:=h
  rw [e] at hx
  have hx':=hx
  simp only [VR] at hx'
  obtain ⟨b,off,hp,_⟩:=hx'
  rw [key _ hp]
  exact Xo ⟨a.eval x,w,rfl,Post.here R hx⟩
 ·cases h
theorem Ztd {O : Zq} (hO : ZY P O) {bf : Nat -> Bool} {an : Ann} {a : Act} {o : Oper} {own : Nat} {ins : Ins} (op : BinOp) (t : TypeId) (x : Operand) (y : Operand) (yt : TypeId) (ho : o.op = .binOp op t x y yt) (hc : Zs P an own (.binOp op t x y yt) = some ins) (T : TR I β tm a.tmps) (R : Rel base w0 I0 I β σ w) (hb : KLt base w0)
    {sq : Nat} (hsite : nsite ins ≠ 0 -> σ[sq]? = some .free) {v : AVal} {c : Cls} (h : execI O bf tm σ sq ins = some (v, σ', c)) : OpOk P (execOp a.eval o) w (Post base w0 I0 I β v σ') := by
  rw [show execOp a.eval o = (do pure (.value (<- (do eqGuard op t x y (a.eval x) (a.eval y); binOp op t (a.eval x) (a.eval y)))) : Sem Next) by unfold execOp; rw [ho]]
  simp only [Zs] at hc
  split at hc
  . rename_i x' y' hx hy
    have hx' := ZD T hx
    have hy' := ZD T hy
    unfold Zjw at hc
    split at hc
    . injection hc with hc; subst hc
      simp only [execI] at h
      obtain ⟨r, hr, he⟩ := Zc8 h
      simp only [Xb] at he
      obtain ⟨rfl, rfl, rfl⟩ := he
      obtain ⟨u, h1, h2⟩ := ZiV (P := P) (w := w) (t := t) x y hx' hy' hr
      exact OpOk.val ⟨u, w, h1, Post.here R h2⟩
    . injection hc with hc; subst hc
      simp only [execI] at h
      obtain ⟨r, hr, he⟩ := Zc8 h
      simp only [Xb] at he
      obtain ⟨rfl, rfl, rfl⟩ := he
      obtain ⟨u, h1, h2⟩ := ZiV (P := P) (w := w) (t := t) x y hx' hy' hr
      exact OpOk.val ⟨u, w, h1, Post.here R h2⟩
    . rename_i hu
      split at hc
      all_goals first
        | (cases hc; done)
        | (injection hc with hc; subst hc
           simp only [execI] at h
           split at h
           . rename_i p q e1 e2
             rw [e1] at hx'; rw [e2] at hy'
             simp only [VR] at hx' hy'
             simp only [Xa, Xb] at h
             obtain ⟨rfl, rfl, rfl⟩ := h
             refine OpOk.val ⟨_, w, ?_, Post.here R (by simp only [VR]; rfl)⟩
             rw [hx', hy']
             first | exact ZlF hu p q x y | exact Zra hu p q x y
           . cases h)
    . rename_i elem hu
      split at hc
      all_goals first
        | (cases hc; done)
        | (injection hc with hc; subst hc
           simp only [execI] at h
           split at h
           . rename_i e1 e2
             rw [e1] at hx'; rw [e2] at hy'
             simp only [VR] at hx' hy'
             simp only [Xa, Xb] at h
             obtain ⟨rfl, rfl, rfl⟩ := h
             refine OpOk.val ⟨_, w, ?_, Post.here R (by simp only [VR]; rfl)⟩
             rw [hx', hy']
             first | exact ZgY hu _ _ x y (by simp) | exact ZhS hu _ _ x y (by simp)
           . rename_i t1 o1 e1 e2
             rw [e1] at hx'; rw [e2] at hy'
             simp only [VR] at hx' hy'
             obtain ⟨b, k, c', _, hy'⟩ := hy'
             simp only [Xa, Xb] at h
             obtain ⟨rfl, rfl, rfl⟩ := h
             refine OpOk.val ⟨_, w, ?_, Post.here R (by simp only [VR]; rfl)⟩
             rw [hx', hy']
             first | exact ZgY hu _ _ x y (by simp) | exact ZhS hu _ _ x y (by simp)
           . rename_i t1 o1 e1 e2
             rw [e1] at hx'; rw [e2] at hy'
             simp only [VR] at hx' hy'
             obtain ⟨b, k, c', _, hx'⟩ := hx'
             simp only [Xa, Xb] at h
             obtain ⟨rfl, rfl, rfl⟩ := h
             refine OpOk.val ⟨_, w, ?_, Post.here R (by simp only [VR]; rfl)⟩
             rw [hx', hy']
             first | exact ZgY hu _ _ x y (by simp) | exact ZhS hu _ _ x y (by simp)
           . cases h)
    . rename_i fs hu
      split at hc
      case isFalse => cases hc
      rename_i hfl
      have fin : ∀ (neg : Bool), op = (if neg then .neq else .eql) -> execI O bf tm σ sq (.eqv neg (fs.toList.map fun f => (Zdo P f.type).getD 3) x' y') = some (v, σ', c) -> OpOk P (do pure (.value (<- (do eqGuard op t x y (a.eval x) (a.eval y); binOp op t (a.eval x) (a.eval y))))) w (Post base w0 I0 I β v σ') := by
        intro neg hop h
        simp only [execI] at h
        split at h
        . rename_i xs ys e1 e2
          rw [e1] at hx'; rw [e2] at hy'
          simp only [VR] at hx' hy'
          obtain ⟨us, hx1, hx2⟩ := hx'
          obtain ⟨vs, hy1, hy2⟩ := hy'
          split at h
          case isFalse => cases h
          rename_i hk
          split at h
          . rename_i b hb'
            simp only [Xa, Xb] at h
            obtain ⟨rfl, rfl, rfl⟩ := h
            refine OpOk.val ⟨_, w, ?_, Post.here R (by simp only [VR]; rfl)⟩
            rw [hx1, hy1]
            exact Zw4 hu hfl hx2 hy2 (ZjW hk) hb' neg hop x y
          . cases h
        . cases h
      split at hc
      . injection hc with hc; subst hc; exact fin false rfl h
      . injection hc with hc; subst hc; exact fin true rfl h
      . cases hc
    . rename_i ms hu
      have fin : ∀ (neg : Bool), y' = .c .nili -> op = (if neg then .neq else .eql) -> execI O bf tm σ sq (.ieq neg x' y') = some (v, σ', c) -> OpOk P (do pure (.value (<- (do eqGuard op t x y (a.eval x) (a.eval y); binOp op t (a.eval x) (a.eval y))))) w (Post base w0 I0 I β v σ') := by
        intro neg hy0 hop h
        subst hy0
        obtain ⟨vy, rfl⟩ : ∃ vy, y = .const vy := by
          cases y with
          | const vy => exact ⟨vy, rfl⟩
          | tmp t => simp [ZE] at hy
          | func f => simp only [ZE] at hy; split at hy <;> simp at hy
          | global g => simp [ZE] at hy
        simp only [Opd.ev, VR] at hy'
        have hms : P.underlying t = some (.interface ms) := hu
        simp only [execI] at h
        rw [show (Opd.c AVal.nili).ev tm = .nili from rfl] at h
        split at h
        . rename_i e1 e2
          rw [e1] at hx'
          simp only [VR] at hx'
          simp only [Xa, Xb] at h
          obtain ⟨rfl, rfl, rfl⟩ := h
          refine OpOk.val ⟨_, w, ?_, Post.here R (by simp only [VR]; rfl)⟩
          rw [hx', hy']
          exact Zt9 hms neg x vy hop
        . rename_i e2; cases e2
        . rename_i t1 x1 e1 e2
          rw [e1] at hx'
          simp only [VR] at hx'
          obtain ⟨u, hx', _⟩ := hx'
          simp only [Xa, Xb] at h
          obtain ⟨rfl, rfl, rfl⟩ := h
          refine OpOk.val ⟨_, w, ?_, Post.here R (by simp only [VR]; rfl)⟩
          rw [hx', hy']
          exact ZsE hms neg x vy hop
        . cases h
      split at hc
      . injection hc with hc; subst hc; exact fin false rfl rfl h
      . injection hc with hc; subst hc; exact fin true rfl rfl h
      . cases hc
    . cases hc
  . cases hc
theorem Zoo {O:Zq} (hO:ZY P O) {bf:Nat->Bool} {an:Ann} {a:Act} {o:Oper} {own:Nat} {ins:Ins} (op:UnOp) (t:TypeId) (x:Operand) (ho:o.op=.unOp op t x) (hc:Zs P an own (.unOp op t x)=some ins) (T:TR I β tm a.tmps) (R:Rel base w0 I0 I β σ w) (hb:KLt base w0)
  {sq:Nat} (hsite:nsite ins≠0->σ[sq]?=some .free) {v:AVal} {c:Cls} (h:execI O bf tm σ sq ins=some (v,σ',c)):OpOk P (execOp a.eval o) w (Post base w0 I0 I β v σ'):=by
 rw [show execOp a.eval o=(do pure (.value (<-Op.unary op (a.eval x))):Sem Next) by unfold execOp;rw [ho]]
 simp only [Zs] at hc
 simp only [Xh] at hc
 obtain ⟨y,hy,rfl⟩:=hc
 simp only [execI] at h
 obtain ⟨r,hr,he⟩:=Zc8 h
 simp only [Xb] at he
 obtain ⟨rfl,rfl,rfl⟩:=he
 obtain ⟨u,h1,h2⟩:=Zve (P:=P) (w:=w) (ZD T hy) hr
 exact OpOk.val ⟨u,w,h1,Post.here R h2⟩
theorem ZvT {O:Zq} (hO:ZY P O) {bf:Nat->Bool} {an:Ann} {a:Act} {o:Oper} {own:Nat} {ins:Ins} (src:TypeId) (dst:TypeId) (x:Operand) (ho:o.op=.convert src dst x) (hc:Zs P an own (.convert src dst x)=some ins) (T:TR I β tm a.tmps) (R:Rel base w0 I0 I β σ w) (hb:KLt base w0)
  {sq:Nat} (hsite:nsite ins≠0->σ[sq]?=some .free) {v:AVal} {c:Cls} (h:execI O bf tm σ sq ins=some (v,σ',c)):OpOk P (execOp a.eval o) w (Post base w0 I0 I β v σ'):=by
 rw [show execOp a.eval o=(do pure (.value (<-convert src dst (a.eval x))):Sem Next) by unfold execOp;rw [ho]]
 simp only [Zs] at hc
 split at hc
 ·rename_i y hy
  have hx:=ZD T hy
  unfold ZlA at hc
  split at hc
  ·rename_i k1 k2 hs hd
   injection hc with hc;subst hc
   simp only [execI] at h
   split at h
   ·rename_i k n e
    rw [e] at hx;simp only [VR] at hx
    simp only [Xa,Xb] at h
    obtain ⟨rfl,rfl,rfl⟩:=h
    refine OpOk.val ⟨.int k2 (k2.wrap n),w,?_,Post.here R (by simp only [VR])⟩
    rw [hx]
    simp [convert,run_underlying hs,run_underlying hd,Conv.intToInt]
   ·cases h
  ·rename_i hs hd
   injection hc with hc;subst hc
   simp only [execI] at h
   split at h
   ·rename_i k n e
    rw [e] at hx;simp only [VR] at hx
    simp only [Xa,Xb] at h
    obtain ⟨rfl,rfl,rfl⟩:=h
    refine OpOk.val ⟨.string (Utf8.encode n),w,?_,Post.here R ?_⟩
    ·rw [hx]
     simp [convert,run_underlying hs,run_underlying hd,Conv.intToString]
    ·simp only [VR]
     refine ⟨by simp,?_⟩
     unfold Utf8.encode
     simp only
     repeat' split
     all_goals simp
   ·cases h
  ·rename_i hs hd
   injection hc with hc;subst hc
   simp only [execI] at h
   split at h
   ·rename_i l e
    rw [e] at hx
    have hx':=hx
    simp only [VR] at hx'
    simp only [Xa,Xb] at h
    obtain ⟨rfl,rfl,rfl⟩:=h
    refine OpOk.val ⟨_,w,?_,Post.here R hx⟩
    rw [hx'.1]
    simp [convert,run_underlying hs,run_underlying hd]
   ·cases h
  ·rename_i e hs hd
   split at hc
   ·rename_i he
    injection hc with hc;subst hc
    simp only [execI] at h
    split at h
    ·rename_i l e'
     rw [e'] at hx
     simp only [VR] at hx
     simp only [Xa,Xb] at h
     obtain ⟨rfl,rfl,rfl⟩:=h
     rw [hx.1]
     exact OpOk.val (Zwc hs hd he R hb hx.2)
    ·cases h
   ·cases hc
  ·rename_i e1 e hs hd
   split at hc
   ·rename_i hsd
    subst hsd
    split at hc
    ·rename_i he
     injection hc with hc;subst hc
     simp only [execI] at h
     split at h
     ·rename_i t' g n ev
      rw [ev] at hx
      split at h
      ·rename_i g' k xs hrow
       split at h
       ·rename_i hcond
        obtain ⟨rfl,hn,h0⟩:=hcond
        simp only [Xa,Xb] at h
        obtain ⟨rfl,rfl,rfl⟩:=h
        obtain ⟨w1,h1,h2⟩:=ZoB hd he R hrow hn h0 hx
        exact OpOk.val ⟨_,w1,h1,h2⟩
       ·cases h
      ·cases h
     ·cases h
    ·cases hc
   ·cases hc
  ·rename_i e hs hd
   split at hc
   ·rename_i he
    injection hc with hc;subst hc
    simp only [execI] at h
    split at h
    ·rename_i xs ts hel
     split at h
     ·rename_i l hl
      simp only [Xa,Xb] at h
      obtain ⟨rfl,rfl,rfl⟩:=h
      by_cases hst:∃ l',y.ev tm=.str l'
      ·obtain ⟨l',e'⟩:=hst
       rw [e'] at hel hx
       simp only [Zk,Xa,Xb] at hel
       obtain ⟨rfl,rfl⟩:=hel
       simp only [VR] at hx
       have hll:l=l':=by
        obtain ⟨ns,e1,e2⟩:=ZhY hl
        subst e2
        have : l'.map Zbc=ns.map (AVal.int .u8):=e1
        apply Wq
        intro j
        have hj:=congrArg (fun q:List AVal=>q[j]?) this
        simp only [List.getElem?_map] at hj ⊢
        cases h1:l'[j]? <;> cases h2:ns[j]? <;> simp_all [Zbc]
        rename_i b n
        rw [<-hj];simp
       subst hll
       refine OpOk.val ⟨.string ⟨l.toArray⟩,w,?_,Post.here R (by simp only [VR];exact ⟨trivial,hx.2⟩)⟩
       rw [hx.1]
       simp [convert,run_underlying hs,run_underlying hd]
      ·have hrd:=Zhp R (fun l' e'=>hst ⟨l',e'⟩) hel hx
       obtain ⟨h1,h2⟩:=Zos (P:=P) hs he hd hrd hl
       exact OpOk.val ⟨_,w,h1,Post.here R (by simp only [VR];exact ⟨trivial,h2⟩)⟩
     ·cases h
    ·cases h
   ·cases hc
  ·cases hc
 ·cases hc
theorem Ztb {O:Zq} (hO:ZY P O) {bf:Nat->Bool} {an:Ann} {a:Act} {o:Oper} {own:Nat} {ins:Ins} (t:TypeId) (x:Operand) (lo:Option Operand) (hi:Option Operand) (mx:Option Operand) (ho:o.op=.slice t x lo hi mx) (hc:Zs P an own (.slice t x lo hi mx)=some ins) (T:TR I β tm a.tmps) (R:Rel base w0 I0 I β σ w) (hb:KLt base w0)
  {sq:Nat} (hsite:nsite ins≠0->σ[sq]?=some .free) {v:AVal} {c:Cls} (h:execI O bf tm σ sq ins=some (v,σ',c)):OpOk P (execOp a.eval o) w (Post base w0 I0 I β v σ'):=by
 rw [show execOp a.eval o=(do pure (.value (<-Instr.sliceAt t (a.eval x) (lo.map a.eval) (hi.map a.eval) (mx.map a.eval))):Sem Next) by unfold execOp;rw [ho]]
 simp only [Zs] at hc
 split at hc
 ·rename_i x' lo' hi' mx' hx hlo hhi hmx
  split at hc
  ·rename_i hu
   split at hc
   ·injection hc with hc;subst hc
    have hmx0:mx=none:=by cases mx <;> simp_all [ZdL]
    subst hmx0
    have hx':=ZD T hx
    simp only [execI] at h
    split at h
    ·rename_i s e
     rw [e] at hx';simp only [VR] at hx'
     split at h
     ·cases h
     rename_i hh h1
     split at h
     ·cases h
     rename_i ll h2
     simp only [Xa,Xb] at h
     obtain ⟨rfl,rfl,rfl⟩:=h
     refine OpOk.val ⟨_,w,?_,Post.here R (by simp only [VR];exact ⟨rfl,by simp;omega⟩)⟩
     rw [hx'.1]
     exact Zvm hu hx'.2 (Zfp T hlo) (Zfp T hhi) h1 h2
    ·cases h
   ·cases hc
  ·rename_i e hu
   split at hc
   ·rename_i k hk
    split at hc
    ·split at hc
     ·cases hc
     ·rename_i hnn
      injection hc with hc;subst hc
      simp only [execI] at h
      obtain ⟨u,h1,h2⟩:=Zwa hu hk R (ZD T hx) (Zfp T hlo) (Zfp T hhi) (Zfp T hmx) (by
       intro e'
       cases hi' with
       | some _=>simp at e'
       | none=>cases mx' with
        | none=>rfl
        | some q=>exact absurd rfl (hnn q rfl)) h
      exact OpOk.val ⟨u,w,h1,h2⟩
    ·cases hc
   ·cases hc
  ·cases hc
 ·cases hc
theorem Zte {O:Zq} (hO:ZY P O) {bf:Nat->Bool} {an:Ann} {a:Act} {o:Oper} {own:Nat} {ins:Ins} (s:TypeId) (x:Operand) (i:Nat) (ho:o.op=.fieldAddr s x i) (hc:Zs P an own (.fieldAddr s x i)=some ins) (T:TR I β tm a.tmps) (R:Rel base w0 I0 I β σ w) (hb:KLt base w0)
  {sq:Nat} (hsite:nsite ins≠0->σ[sq]?=some .free) {v:AVal} {c:Cls} (h:execI O bf tm σ sq ins=some (v,σ',c)):OpOk P (execOp a.eval o) w (Post base w0 I0 I β v σ'):=by
 rw [show execOp a.eval o=(do pure (.value (<-Instr.fieldAt s (a.eval x) i)):Sem Next) by unfold execOp;rw [ho]]
 simp only [Zs] at hc
 split at hc
 ·rename_i fields x' hs hx
  split at hc
  ·rename_i f hf
   split at hc
   ·rename_i k hk
    split at hc
    ·cases hc
    ·rename_i hk0
     injection hc with hc;subst hc
     simp only [execI] at h
     obtain ⟨r,hr,he⟩:=Zc8 h
     simp only [Xb] at he
     obtain ⟨rfl,rfl,rfl⟩:=he
     obtain ⟨u,h1,h2⟩:=Znp (w:=w) hs hf hk hk0 (ZD T hx) hr
     exact OpOk.val ⟨u,w,h1,Post.here R h2⟩
   ·cases hc
  ·cases hc
 ·cases hc
theorem Zrm {O:Zq} (hO:ZY P O) {bf:Nat->Bool} {an:Ann} {a:Act} {o:Oper} {own:Nat} {ins:Ins} (s:TypeId) (x:Operand) (i:Nat) (ho:o.op=.field s x i) (hc:Zs P an own (.field s x i)=some ins) (T:TR I β tm a.tmps) (R:Rel base w0 I0 I β σ w) (hb:KLt base w0)
  {sq:Nat} (hsite:nsite ins≠0->σ[sq]?=some .free) {v:AVal} {c:Cls} (h:execI O bf tm σ sq ins=some (v,σ',c)):OpOk P (execOp a.eval o) w (Post base w0 I0 I β v σ'):=by
 rw [show execOp a.eval o=(do pure (.value (<-Instr.field s (a.eval x) i)):Sem Next) by unfold execOp;rw [ho]]
 simp only [Zs] at hc
 split at hc
 ·rename_i fields x' hs hx
  split at hc
  ·rename_i f hf
   simp only [Xh] at hc
   obtain ⟨k,hk,rfl⟩:=hc
   have hx':=ZD T hx
   simp only [execI] at h
   split at h
   ·rename_i cs e
    rw [e] at hx';simp only [VR] at hx'
    obtain ⟨us,hus,hv⟩:=hx'
    obtain ⟨r,hr,he⟩:=Zc8 h
    simp only [Xb] at he
    obtain ⟨rfl,rfl,rfl⟩:=he
    obtain ⟨u,h1,h2⟩:=Zkw (P:=P) (w:=w) hk hv hr
    refine OpOk.val ⟨u,w,?_,Post.here R h2⟩
    rw [hus]
    simp [Instr.field,run_underlying hs,hf,asAgg,h1]
   ·cases h
  ·cases hc
 ·cases hc
theorem ZwX {O:Zq} (hO:ZY P O) {bf:Nat->Bool} {an:Ann} {a:Act} {o:Oper} {own:Nat} {ins:Ins} (t:TypeId) (x:Operand) (i:Operand) (ho:o.op=.indexAddr t x i) (hc:Zs P an own (.indexAddr t x i)=some ins) (T:TR I β tm a.tmps) (R:Rel base w0 I0 I β σ w) (hb:KLt base w0)
  {sq:Nat} (hsite:nsite ins≠0->σ[sq]?=some .free) {v:AVal} {c:Cls} (h:execI O bf tm σ sq ins=some (v,σ',c)):OpOk P (execOp a.eval o) w (Post base w0 I0 I β v σ'):=by
 rw [show execOp a.eval o=(do pure (.value (<-Instr.indexAt t (a.eval x) (a.eval i))):Sem Next) by unfold execOp;rw [ho]]
 simp only [Zs] at hc
 split at hc
 ·rename_i e x' i' hu hx hi
  simp only [Xh] at hc
  obtain ⟨k,hk,rfl⟩:=hc
  simp only [execI] at h
  obtain ⟨u,h1,h2,rfl⟩:=ZvK hu hk R (ZD T hx) (ZD T hi) h
  exact OpOk.val ⟨u,w,h1,Post.here R h2⟩
 ·rename_i n e x' i' hu hx hi
  simp only [Xh] at hc
  obtain ⟨k,hk,rfl⟩:=hc
  have hi':=ZD T hi
  simp only [execI] at h
  split at h
  ·rename_i kk ii e'
   rw [e'] at hi';simp only [VR] at hi'
   split at h
   ·rename_i hb'
    obtain ⟨r,hr,he⟩:=Zc8 h
    simp only [Xb] at he
    obtain ⟨rfl,rfl,rfl⟩:=he
    obtain ⟨u,h1,h2⟩:=ZnC (P:=P) (w:=w) (kk:=kk) hu hk (ZD T hx) hb'.1 hb'.2 hr
    exact OpOk.val ⟨u,w,by rw [hi'];exact h1,Post.here R h2⟩
   ·cases h
  ·cases h
 ·cases hc
theorem Zt3 {O:Zq} (hO:ZY P O) {bf:Nat->Bool} {an:Ann} {a:Act} {o:Oper} {own:Nat} {ins:Ins} (t:TypeId) (x:Operand) (i:Operand) (ho:o.op=.index t x i) (hc:Zs P an own (.index t x i)=some ins) (T:TR I β tm a.tmps) (R:Rel base w0 I0 I β σ w) (hb:KLt base w0)
  {sq:Nat} (hsite:nsite ins≠0->σ[sq]?=some .free) {v:AVal} {c:Cls} (h:execI O bf tm σ sq ins=some (v,σ',c)):OpOk P (execOp a.eval o) w (Post base w0 I0 I β v σ'):=by
 rw [show execOp a.eval o=(do pure (.value (<-Instr.index t (a.eval x) (a.eval i))):Sem Next) by unfold execOp;rw [ho]]
 simp only [Zs] at hc
 split at hc
 ·rename_i x' i' hu hx hi
  injection hc with hc;subst hc
  have hx':=ZD T hx
  have hi':=ZD T hi
  simp only [execI] at h
  split at h
  ·rename_i s kk ii e1 e2
   rw [e1] at hx';rw [e2] at hi'
   simp only [VR] at hx' hi'
   split at h
   ·rename_i h0
    simp only [Xh] at h
    obtain ⟨b,hbb,he⟩:=h
    simp only [Xb] at he
    obtain ⟨rfl,rfl,rfl⟩:=he
    refine OpOk.val ⟨.int .u8 b.toNat,w,?_,Post.here R (by simp only [Zbc,VR])⟩
    rw [hx'.1,hi']
    have hg:(⟨s.toArray⟩:ByteArray)[ii.toNat]?=some b:=by
     have hlt:=(Xe.1 hbb).1
     have : ii.toNat < Wm ⟨s.toArray⟩:=by simpa [Wm] using hlt
     rw [getElem?_pos (⟨s.toArray⟩:ByteArray) ii.toNat this]
     have:=(Xe.1 hbb).2
     rw [<-this]
     rfl
    simp [Instr.index,asIntOf,run_underlying hu,h0,hg]
   ·cases h
  ·cases h
 ·rename_i n e x' i' hu hx hi
  split at hc
  ·rename_i s k hk hk2
   injection hc with hc;subst hc
   have hx':=ZD T hx
   have hi':=ZD T hi
   simp only [execI] at h
   split at h
   ·rename_i cs kk ii e1 e2
    rw [e1] at hx';rw [e2] at hi'
    simp only [VR] at hx' hi'
    obtain ⟨us,hus,hv⟩:=hx'
    split at h
    ·rename_i hb'
     obtain ⟨r,hr,he⟩:=Zc8 h
     simp only [Xb] at he
     obtain ⟨rfl,rfl,rfl⟩:=he
     obtain ⟨u,h1,h2⟩:=Zkw (P:=P) (w:=w) hk hv hr
     obtain ⟨ie,hie,hke⟩:∃ ie,P.info? e=some ie/\ie.size=k:=by
      unfold ZaG at hk2
      cases hi:P.info? e with
      | none=>simp [hi] at hk2
      | some i=>exact ⟨i,rfl,by simpa [hi] using hk2⟩
     refine OpOk.val ⟨u,w,?_,Post.here R h2⟩
     rw [hus,hi']
     simp [Instr.index,asIntOf,run_underlying hu,hb'.1,hb'.2,sizeOf,typeInfo,hie,hke,h1]
    ·cases h
   ·cases h
  ·cases hc
 ·cases hc
theorem ZuW {O:Zq} (hO:ZY P O) {bf:Nat->Bool} {an:Ann} {a:Act} {o:Oper} {own:Nat} {ins:Ins} (x:Operand) (i:Nat) (ho:o.op=.extract x i) (hc:Zs P an own (.extract x i)=some ins) (T:TR I β tm a.tmps) (R:Rel base w0 I0 I β σ w) (hb:KLt base w0)
  {sq:Nat} (hsite:nsite ins≠0->σ[sq]?=some .free) {v:AVal} {c:Cls} (h:execI O bf tm σ sq ins=some (v,σ',c)):OpOk P (execOp a.eval o) w (Post base w0 I0 I β v σ'):=by
 rw [show execOp a.eval o=(do pure (.value (<-Instr.extract (a.eval x) i)):Sem Next) by unfold execOp;rw [ho]]
 simp only [Zs] at hc
 simp only [Xh] at hc
 obtain ⟨y,hy,rfl⟩:=hc
 have hx:=ZD T hy
 simp only [execI] at h
 split at h
 ·rename_i vs e
  rw [e] at hx;simp only [VR] at hx
  obtain ⟨us,hus,hv⟩:=hx
  obtain ⟨r,hr,he⟩:=Zc8 h
  simp only [Xb] at he
  obtain ⟨rfl,rfl,rfl⟩:=he
  obtain ⟨u,h1,h2⟩:=ZaZ hv hr
  have h1':us[i]?=some u:=by simpa using h1
  exact OpOk.val ⟨u,w,by rw [hus];simp [Instr.extract,h1'],Post.here R h2⟩
 ·cases h
theorem ZoI {O:Zq} (hO:ZY P O) {bf:Nat->Bool} {an:Ann} {a:Act} {o:Oper} {own:Nat} {ins:Ins} (t:TypeId) (l:Operand) (c':Operand) (ho:o.op=.makeSlice t l c') (hc:Zs P an own (.makeSlice t l c')=some ins) (T:TR I β tm a.tmps) (R:Rel base w0 I0 I β σ w) (hb:KLt base w0)
  {sq:Nat} (hsite:nsite ins≠0->σ[sq]?=some .free) {v:AVal} {c:Cls} (h:execI O bf tm σ sq ins=some (v,σ',c)):OpOk P (execOp a.eval o) w (Post base w0 I0 I β v σ'):=by
 rw [show execOp a.eval o=(do pure (.value (<-Instr.makeSlice t (a.eval l) (a.eval c'))):Sem Next) by unfold execOp;rw [ho]]
 simp only [Zs] at hc
 split at hc
 ·rename_i k bytes z l' c'' he hl hc'
  injection hc with hc;subst hc
  have hl':=ZD T hl
  have hc'':=ZD T hc'
  simp only [execI] at h
  split at h
  ·rename_i li ci e1 e2
   rw [e1] at hl';rw [e2] at hc''
   simp only [VR] at hl' hc''
   split at h
   ·rename_i hcond
    simp only [Xa,Xb] at h
    obtain ⟨rfl,rfl,rfl⟩:=h
    rw [hl',hc'']
    exact OpOk.val (Zrn R hb he hcond.1 hcond.2.1 hcond.2.2.1 hcond.2.2.2.1 (hsite (by simp [nsite])))
   ·cases h
  ·cases h
 ·cases hc
theorem ZsO {O:Zq} (hO:ZY P O) {bf:Nat->Bool} {an:Ann} {a:Act} {o:Oper} {own:Nat} {ins:Ins} (fn:Fn) (first:Array Operand) (captured:Array Operand) (ho:o.op=.makeFunc fn first captured) (hc:Zs P an own (.makeFunc fn first captured)=some ins) (T:TR I β tm a.tmps) (R:Rel base w0 I0 I β σ w) (hb:KLt base w0)
  {sq:Nat} (hsite:nsite ins≠0->σ[sq]?=some .free) {v:AVal} {c:Cls} (h:execI O bf tm σ sq ins=some (v,σ',c)):OpOk P (execOp a.eval o) w (Post base w0 I0 I β v σ'):=by
 rw [show execOp a.eval o=(do pure (.value (<-Instr.makeFunc fn (first.map a.eval) (captured.map a.eval))):Sem Next) by unfold execOp;rw [ho]]
 simp only [Zs] at hc
 cases fn <;> simp only at hc <;> try (cases hc;done)
 rename_i f
 split at hc
 case isFalse=>cases hc
 rename_i hlt
 split at hc
 ·rename_i hf
  simp only [Xh] at hc
  obtain ⟨caps,hcaps,rfl⟩:=hc
  simp only [execI,Xa,Xb] at h
  obtain ⟨rfl,rfl,rfl⟩:=h
  have hfe:first=#[]:=by simpa using hf
  subst hfe
  refine OpOk.val ⟨.func (.func f) #[] (captured.map a.eval),w,by simp [Instr.makeFunc],Post.here R ?_⟩
  simp only [VR,if_pos hlt]
  exact ⟨_,_,rfl,rfl,by simpa using Zgx T hcaps⟩
 ·split at hc
  case isFalse=>cases hc
  rename_i hf
  simp only [Xh] at hc
  obtain ⟨caps,hcaps,rfl⟩:=hc
  simp only [execI,Xa,Xb] at h
  obtain ⟨rfl,rfl,rfl⟩:=h
  have hfe:captured=#[]:=by simpa using hf
  subst hfe
  refine OpOk.val ⟨.func (.func f) (first.map a.eval) #[],w,by simp [Instr.makeFunc],Post.here R ?_⟩
  have hn:¬(f+1000000 < 1000000):=Nat.not_lt.2 (Nat.le_add_left _ _)
  simp only [VR,if_neg hn,Nat.add_sub_cancel]
  exact ⟨_,_,rfl,rfl,by simpa using Zgx T hcaps⟩
theorem Zxe {O:Zq} (hO:ZY P O) {bf:Nat->Bool} {an:Ann} {a:Act} {o:Oper} {own:Nat} {ins:Ins} (t:TypeId) (x:Operand) (ho:o.op=.makeInterface t x) (hc:Zs P an own (.makeInterface t x)=some ins) (T:TR I β tm a.tmps) (R:Rel base w0 I0 I β σ w) (hb:KLt base w0)
  {sq:Nat} (hsite:nsite ins≠0->σ[sq]?=some .free) {v:AVal} {c:Cls} (h:execI O bf tm σ sq ins=some (v,σ',c)):OpOk P (execOp a.eval o) w (Post base w0 I0 I β v σ'):=by
 rw [show execOp a.eval o=(do pure (.value (<-Instr.makeInterface t (a.eval x))):Sem Next) by unfold execOp;rw [ho]]
 simp only [Zs] at hc
 split at hc
 ·cases hc
 ·rename_i d hd hnd
  simp only [Xh] at hc
  obtain ⟨y,hy,rfl⟩:=hc
  have hy':=ZD T hy
  have hrun:∀ u,(Instr.makeInterface t u).run P w=.ok (.iface t u) w:=by
   intro u
   unfold Instr.makeInterface
   rw [Sem.run_bind,run_underlying hnd]
   simp only [Result.andThen_ok]
   cases d <;> first | rfl | exact absurd rfl (hd _)
  simp only [execI] at h
  split at h
  ·cases h
  ·cases h
  ·cases h
  ·simp only [Xa,Xb] at h
   obtain ⟨rfl,rfl,rfl⟩:=h
   exact OpOk.val ⟨_,w,hrun _,Post.here R (by simp only [VR];exact ⟨_,rfl,hy'⟩)⟩
 ·cases hc
theorem Zyd {O:Zq} (hO:ZY P O) {bf:Nat->Bool} {an:Ann} {a:Act} {o:Oper} {own:Nat} {ins:Ins} (x:Operand) (ho:o.op=.panic x) (hc:Zs P an own (.panic x)=some ins) (T:TR I β tm a.tmps) (R:Rel base w0 I0 I β σ w) (hb:KLt base w0)
  {sq:Nat} (hsite:nsite ins≠0->σ[sq]?=some .free) {v:AVal} {c:Cls} (h:execI O bf tm σ sq ins=some (v,σ',c)):OpR P (execOp a.eval o) w base w0 I0 I β v σ':=by
 rw [show execOp a.eval o=(do pure (.value (<-Instr.panic (a.eval x))):Sem Next) by unfold execOp;rw [ho]]
 simp only [Zs] at hc
 simp only [Xh] at hc
 obtain ⟨y,hy,rfl⟩:=hc
 have hy':=ZD T hy
 simp only [execI] at h
 split at h
 ·rename_i t1 x1 e
  rw [e] at hy'
  simp only [Xa,Xb] at h
  obtain ⟨rfl,rfl,rfl⟩:=h
  refine Xw ⟨_,rfl,Xo ⟨a.eval x,w,?_,Post.here R hy'⟩⟩
  simp only [VR] at hy'
  obtain ⟨u,hu,_⟩:=hy'
  simp [hu,Instr.panic,goPanic]
 ·cases h
theorem Zo9 {O:Zq} (hO:ZY P O) {bf:Nat->Bool} {an:Ann} {a:Act} {o:Oper} {own:Nat} {ins:Ins} (t:TypeId) (x:Operand) (ho:o.op=.range t x) (hc:Zs P an own (.range t x)=some ins) (T:TR I β tm a.tmps) (R:Rel base w0 I0 I β σ w) (hb:KLt base w0)
  {sq:Nat} (hsite:nsite ins≠0->σ[sq]?=some .free) {v:AVal} {c:Cls} (h:execI O bf tm σ sq ins=some (v,σ',c)):OpOk P (execOp a.eval o) w (Post base w0 I0 I β v σ'):=by
 rw [show execOp a.eval o=(do pure (.value (<-Instr.range t (a.eval x))):Sem Next) by unfold execOp;rw [ho]]
 simp only [Zs] at hc
 split at hc
 case h_2=>cases hc
 rename_i ht
 simp only [Xh] at hc
 obtain ⟨y,hy,rfl⟩:=hc
 have hy':=ZD T hy
 simp only [execI] at h
 split at h
 case h_2=>cases h
 rename_i l e
 simp only [Xa,Xb] at h
 obtain ⟨rfl,rfl,rfl⟩:=h
 rw [e] at hy'
 simp only [VR] at hy'
 rw [hy'.1]
 exact OpOk.val (Zna R hb ht (hsite (by simp [nsite])))
theorem Zrk {O:Zq} (hO:ZY P O) {bf:Nat->Bool} {an:Ann} {a:Act} {o:Oper} {own:Nat} {ins:Ins} (x:Operand) (str:Bool) (ho:o.op=.next x str) (hc:Zs P an own (.next x str)=some ins) (T:TR I β tm a.tmps) (R:Rel base w0 I0 I β σ w) (hb:KLt base w0)
  {sq:Nat} (hsite:nsite ins≠0->σ[sq]?=some .free) {v:AVal} {c:Cls} (h:execI O bf tm σ sq ins=some (v,σ',c)):OpOk P (execOp a.eval o) w (Post base w0 I0 I β v σ'):=by
 rw [show execOp a.eval o=(do pure (.value (<-Instr.next (a.eval x) str o.type)):Sem Next) by unfold execOp;rw [ho]]
 simp only [Zs] at hc
 cases str
 case false=>cases hc
 simp only [Xh] at hc
 obtain ⟨y,hy,rfl⟩:=hc
 have hy':=ZD T hy
 simp only [execI] at h
 split at h
 case h_2=>cases h
 rename_i t e
 rw [e] at hy'
 split at h
 case h_2=>cases h
 rename_i l p hs
 obtain ⟨u,w',h1,h2⟩:=ZxV (P:=P) R hs hy' o.type
 split at h
 ·rename_i hp
  rw [if_pos hp] at h2
  simp only [Xa,Xb] at h
  obtain ⟨rfl,rfl,rfl⟩:=h
  exact OpOk.val ⟨u,w',h1,h2⟩
 ·rename_i hp
  rw [if_neg hp] at h2
  simp only [Xa,Xb] at h
  obtain ⟨rfl,rfl,rfl⟩:=h
  exact OpOk.val ⟨u,w',h1,h2⟩
theorem Zwr {O:Zq} (hO:ZY P O) {bf:Nat->Bool} {an:Ann} {a:Act} {o:Oper} {own:Nat} {ins:Ins} (t:TypeId) (r:Option Operand) (ho:o.op=.makeMap t r) (hc:Zs P an own (.makeMap t r)=some ins) (T:TR I β tm a.tmps) (R:Rel base w0 I0 I β σ w) (hb:KLt base w0)
  {sq:Nat} (hsite:nsite ins≠0->σ[sq]?=some .free) {v:AVal} {c:Cls} (h:execI O bf tm σ sq ins=some (v,σ',c)):OpOk P (execOp a.eval o) w (Post base w0 I0 I β v σ'):=by
 rw [show execOp a.eval o=(do pure (.value (<-Instr.makeMap t (r.map a.eval))):Sem Next) by unfold execOp;rw [ho]]
 simp only [Zs] at hc
 cases r with
 | some r=>cases hc
 | none =>
  injection hc with hc;subst hc
  simp only [execI,Xa,Xb] at h
  obtain ⟨rfl,rfl,rfl⟩:=h
  exact OpOk.val (ZvG R hb t (hsite (by simp [nsite])))
theorem ZlL {O:Zq} (hO:ZY P O) {bf:Nat->Bool} {an:Ann} {a:Act} {o:Oper} {own:Nat} {ins:Ins} (t:TypeId) (x:Operand) (z:Operand) (ok:Bool) (ho:o.op=.lookup t x z ok) (hc:Zs P an own (.lookup t x z ok)=some ins) (T:TR I β tm a.tmps) (R:Rel base w0 I0 I β σ w) (hb:KLt base w0)
  {sq:Nat} (hsite:nsite ins≠0->σ[sq]?=some .free) {v:AVal} {c:Cls} (h:execI O bf tm σ sq ins=some (v,σ',c)):OpOk P (execOp a.eval o) w (Post base w0 I0 I β v σ'):=by
 rw [show execOp a.eval o=(do pure (.value (<-Instr.lookup t (a.eval x) (a.eval z) ok)):Sem Next) by unfold execOp;rw [ho]]
 simp only [Zs] at hc
 split at hc
 case h_2=>cases hc
 rename_i kc zv m k hmp hm hk
 injection hc with hc;subst hc
 simp only [execI] at h
 obtain ⟨kt,et,d,ht,hdk,hd,hz⟩:=Zf7 hmp
 obtain ⟨rfl,u,h1,h2⟩:=Zxp R ht hdk hd hz (ZD T hm) (ZD T hk) h
 exact OpOk.val ⟨u,w,h1,Post.here R h2⟩
theorem Zyv {O:Zq} (hO:ZY P O) {bf:Nat->Bool} {an:Ann} {a:Act} {o:Oper} {own:Nat} {ins:Ins} (t:TypeId) (x:Operand) (z:Operand) (y:Operand) (ho:o.op=.mapUpdate t x z y) (hc:Zs P an own (.mapUpdate t x z y)=some ins) (T:TR I β tm a.tmps) (R:Rel base w0 I0 I β σ w) (hb:KLt base w0)
  {sq:Nat} (hsite:nsite ins≠0->σ[sq]?=some .free) {v:AVal} {c:Cls} (h:execI O bf tm σ sq ins=some (v,σ',c)):OpOk P (execOp a.eval o) w (Post base w0 I0 I β v σ'):=by
 rw [show execOp a.eval o=(do Instr.mapUpdate t (a.eval x) (a.eval z) (a.eval y);pure .skip:Sem Next) by unfold execOp;rw [ho]]
 simp only [Zs] at hc
 split at hc
 case h_2=>cases hc
 rename_i kc zv m k vv hmp hm hk hv
 injection hc with hc;subst hc
 simp only [execI] at h
 obtain ⟨kt,et,d,ht,hdk,hd,hz⟩:=Zf7 hmp
 obtain ⟨rfl,w',h1,h2⟩:=Zlc R ht hdk hd (ZD T hm) (ZD T hk) (ZD T hv) h
 exact OpOk.unit ⟨w',h1,Post.here h2 ZeE⟩
theorem Ztx {O:Zq} (hO:ZY P O) {bf:Nat->Bool} {an:Ann} {a:Act} {o:Oper} {own:Nat} {ins:Ins} (t:TypeId) (x:Operand) (z:Operand) (y:Operand) (ho:o.op=.insert t x z y) (hc:Zs P an own (.insert t x z y)=some ins) (T:TR I β tm a.tmps) (R:Rel base w0 I0 I β σ w) (hb:KLt base w0)
  {sq:Nat} (hsite:nsite ins≠0->σ[sq]?=some .free) {v:AVal} {c:Cls} (h:execI O bf tm σ sq ins=some (v,σ',c)):OpOk P (execOp a.eval o) w (Post base w0 I0 I β v σ'):=by
 rw [show execOp a.eval o=(do Instr.mapUpdate t (a.eval x) (a.eval z) (a.eval y);pure .skip:Sem Next) by unfold execOp;rw [ho]]
 simp only [Zs] at hc
 split at hc
 case h_2=>cases hc
 rename_i kc zv m k vv hmp hm hk hv
 injection hc with hc;subst hc
 simp only [execI] at h
 obtain ⟨kt,et,d,ht,hdk,hd,hz⟩:=Zf7 hmp
 obtain ⟨rfl,w',h1,h2⟩:=Zlc R ht hdk hd (ZD T hm) (ZD T hk) (ZD T hv) h
 exact OpOk.unit ⟨w',h1,Post.here h2 ZeE⟩
theorem ZnZ {O:Zq} (hO:ZY P O) {bf:Nat->Bool} {an:Ann} {a:Act} {o:Oper} {own:Nat} {ins:Ins} (cl:Call) (ho:o.op=.call cl) (hc:Zs P an own (.call cl)=some ins) (T:TR I β tm a.tmps) (R:Rel base w0 I0 I β σ w) (hb:KLt base w0)
  {sq:Nat} (hsite:nsite ins≠0->σ[sq]?=some .free) {v:AVal} {c:Cls} (h:execI O bf tm σ sq ins=some (v,σ',c)):OpR P (execOp a.eval o) w base w0 I0 I β v σ':=by
 rw [show execOp a.eval o=(do let d <-resolve a.eval cl o.type;invoke d.target d.args:Sem Next) by unfold execOp;rw [ho]]
 simp only [Zs] at hc
 unfold Zk6 at hc
 split at hc
 ·cases hc
 rename_i args hargs
 have hav:=Zgx T hargs
 obtain ⟨callee,cargs,ctypes⟩:=cl
 simp only at hc hargs hav
 have hmap:(cargs.toList.map a.eval)=(cargs.map a.eval).toList:=by simp
 split at hc
 ·rename_i f
  injection hc with hc;subst hc
  simp only [execI] at h
  obtain ⟨⟨fn,f1,f2,f3⟩,g2⟩:=Ziq hO R hb (vs:=cargs.map a.eval) (by rw [<-hmap];exact hav) (fun ho=>hsite (by simp [nsite,ho])) h
  exact OpR.of_call (by simp [resolve,Act.eval,Deferred.ofValue,invoke,ZhH f1 f2 f3]) g2
 ·rename_i t
  injection hc with hc;subst hc
  simp only [execI] at h
  split at h
  ·rename_i f caps hf
   have hfv:=ZD (x:=.tmp t) T rfl
   rw [hf] at hfv
   simp only [VR] at hfv
   obtain ⟨fs,us,hus,h0,hcaps⟩:=hfv
   by_cases hlt:f < 1000000
   ·simp only [if_pos hlt] at h hus h0
    subst h0
    obtain ⟨⟨fn,f1,f2,f3⟩,g2⟩:=Ziq hO R hb (vs:=cargs.map a.eval++us) (by rw [Array.toList_append,<-hmap];exact Zbj hav (by simpa using hcaps)) (fun ho=>absurd ho (by decide)) h
    exact OpR.of_call (by simp [resolve,hus,Deferred.ofValue,invoke,ZhH f1 f2 f3]) g2
   ·simp only [if_neg hlt] at h hus h0
    subst h0
    obtain ⟨⟨fn,f1,f2,f3⟩,g2⟩:=Ziq hO R hb (vs:=fs++cargs.map a.eval) (by rw [Array.toList_append,<-hmap];exact Zbj (by simpa using hcaps) hav) (fun ho=>absurd ho (by decide)) h
    exact OpR.of_call (by simp [resolve,hus,Deferred.ofValue,invoke,ZhH f1 f2 f3]) g2
  ·cases h
 ·refine Xo ?_
  split at hc
  ·rename_i t u x y hty
   split at hc
   ·rename_i k bytes z he
    obtain ⟨e,i,vz,hu,hi,hik,hib,hvz,hz,hk,hby,hzl⟩:=ZeQ he
    obtain ⟨hz1,hz2⟩:=ZcY (I:=I) (β:=β) hz
    have hzs:vz.cells.size=i.size:=by rw [ZdQ (ZcT hz) hz1,hzl,hik]
    have hargs2:∃ ox oy,cargs=#[ox,oy]/\ZE ox=some x/\ZE oy=some y:=by
     obtain ⟨l⟩:=cargs
     match l,hargs with
     | [],hargs=>simp [Zbi] at hargs
     | [ox],hargs =>
      simp only [Zbi] at hargs
      split at hargs
      ·simp at hargs
      ·cases hargs
     | [ox,oy],hargs =>
      simp only [Zbi] at hargs
      split at hargs
      ·rename_i x1 hx1
       split at hargs
       ·rename_i l2 hl2
        split at hl2
        ·rename_i y1 hy1
         simp only [Xa] at hl2 hargs
         subst hl2
         simp only [Xai,and_true] at hargs
         obtain ⟨rfl,rfl⟩:=hargs
         exact ⟨ox,oy,rfl,hx1,hy1⟩
        ·cases hl2
       ·cases hargs
      ·cases hargs
     | ox::oy::oz::r,hargs=>have:=Zaa hav;simp at this
    obtain ⟨ox,oy,rfl,hx,hy⟩:=hargs2
    have htys:ctypes=#[t,u]:=by
     obtain ⟨l⟩:=ctypes
     simpa using hty
    subst htys
    have fin:ZeO P t u e i vz->Z9 σ sq k bytes (x.ev tm) (y.ev tm)=some (v,σ',c)->OpOk P (do let d <-resolve a.eval { callee:=.builtin .append,args:=#[ox,oy],argTypes:=#[t,u] } o.type;invoke d.target d.args) w (Post base w0 I0 I β v σ'):=by
     intro TT h
     rw [<-hik,<-hib] at h
     have hns:nsite ins≠0:=by
      split at hc
      ·injection hc with hc;subst hc;simp [nsite]
      ·split at hc
       ·injection hc with hc;subst hc;simp [nsite]
       ·cases hc
      ·cases hc
     obtain ⟨vr,w1,h1,h2⟩:=Zo1 (ty:=o.type) TT R hb (ZD T hx) (ZD T hy) (hsite hns) h
     exact Xo ⟨vr,w1,by simp [resolve,invoke,builtin,h1],h2⟩
    split at hc
    ·rename_i e' hu2
     injection hc with hc;subst hc
     simp only [execI] at h
     exact fin ⟨hu,Xo ⟨e',hu2⟩,hi,hvz,hzs,by omega,by omega⟩ h
    ·rename_i hu2
     split at hc
     ·injection hc with hc;subst hc
      simp only [execI] at h
      exact fin ⟨hu,Xw hu2,hi,hvz,hzs,by omega,by omega⟩ h
     ·cases hc
    ·cases hc
   ·cases hc
  ·cases hc
 ·refine Xo ?_
  split at hc
  ·rename_i t x hty
   have hargs2:∃ ox,cargs=#[ox]/\ZE ox=some x:=by
    obtain ⟨l⟩:=cargs
    match l,hargs with
    | [],hargs=>simp [Zbi] at hargs
    | [ox],hargs =>
     simp only [Zbi] at hargs
     split at hargs
     ·rename_i x1 hx1
      simp only [Xa,Xai,and_true] at hargs
      subst hargs
      exact ⟨ox,rfl,hx1⟩
     ·cases hargs
    | ox::oy::r,hargs =>
     have:=Zaa hav
     simp at this
   obtain ⟨ox,rfl,hx⟩:=hargs2
   have htys:ctypes=#[t]:=by
    obtain ⟨l⟩:=ctypes
    simpa using hty
   subst htys
   have hx':=ZD T hx
   split at hc
   ·rename_i e hu
    injection hc with hc;subst hc
    simp only [execI] at h
    split at h
    ·rename_i b xs hh
     rw [hh] at hx';simp only [VR] at hx'
     obtain ⟨A,cap,hv,_⟩:=hx'
     simp only [Xa,Xb] at h
     obtain ⟨rfl,rfl,rfl⟩:=h
     refine Xo ⟨.int .i64 xs.length,w,?_,Post.here R (by simp only [VR])⟩
     simp [resolve,invoke,builtin,hv,Builtin.len_,run_underlying hu,goInt]
    ·rename_i t' g lo n hh
     rw [hh] at hx';simp only [VR] at hx'
     obtain ⟨bi,_,hle,_,hv⟩:=hx'
     simp only [Xa,Xb] at h
     obtain ⟨rfl,rfl,rfl⟩:=h
     refine Xo ⟨.int .i64 n,w,?_,Post.here R (by simp only [VR])⟩
     rcases hv with ⟨b,_,hv⟩ | ⟨_,hc0,A,hv⟩ | ⟨_,_,hn0,A,hv⟩
     ·simp [resolve,invoke,builtin,hv,Builtin.len_,run_underlying hu,goInt]
     ·have : n=0:=by omega
      subst this
      simp [resolve,invoke,builtin,hv,Builtin.len_,run_underlying hu,goInt]
     ·subst hn0
      simp [resolve,invoke,builtin,hv,Builtin.len_,run_underlying hu,goInt]
    ·cases h
   ·rename_i hu
    injection hc with hc;subst hc
    simp only [execI] at h
    split at h
    ·rename_i l hh
     rw [hh] at hx';simp only [VR] at hx'
     simp only [Xa,Xb] at h
     obtain ⟨rfl,rfl,rfl⟩:=h
     refine Xo ⟨.int .i64 l.length,w,?_,Post.here R (by simp only [VR])⟩
     have hsz:Wm ⟨l.toArray⟩=l.length:=by simp [Wm]
     simp [resolve,invoke,builtin,hx'.1,Builtin.len_,run_underlying hu,goInt,hsz]
    ·cases h
   ·rename_i kt et hu
    injection hc with hc;subst hc
    simp only [execI] at h
    obtain ⟨rfl,u,h1,h2⟩:=ZrR R hu o.type hx' h
    exact Xo ⟨u,w,by simp [resolve,invoke,builtin,h1],Post.here R h2⟩
   ·cases hc
  ·cases hc
 ·refine Xo ?_
  split at hc
  ·rename_i t ts x y hty
   split at hc
   case h_2=>cases hc
   rename_i kc zv hmp
   injection hc with hc;subst hc
   obtain ⟨kt,et,d,ht,hdk,hd,hz⟩:=Zf7 hmp
   have hargs2:∃ ox oy,cargs=#[ox,oy]/\ZE ox=some x/\ZE oy=some y:=by
    obtain ⟨l⟩:=cargs
    match l,hargs with
    | [],hargs=>simp [Zbi] at hargs
    | [ox],hargs =>
     simp only [Zbi] at hargs
     split at hargs
     ·simp at hargs
     ·cases hargs
    | [ox,oy],hargs =>
     simp only [Zbi] at hargs
     split at hargs
     ·rename_i x1 hx1
      split at hargs
      ·rename_i l2 hl2
       split at hl2
       ·rename_i y1 hy1
        simp only [Xa] at hl2 hargs
        subst hl2
        simp only [Xai,and_true] at hargs
        obtain ⟨rfl,rfl⟩:=hargs
        exact ⟨ox,oy,rfl,hx1,hy1⟩
       ·cases hl2
      ·cases hargs
     ·cases hargs
    | ox::oy::oz::r,hargs=>have:=Zaa hav;simp at this
   obtain ⟨ox,oy,rfl,hx,hy⟩:=hargs2
   have htys:ctypes=(t::ts).toArray:=by
    obtain ⟨l⟩:=ctypes
    simpa using hty
   subst htys
   simp only [execI] at h
   obtain ⟨w',h1,rfl,h2⟩:=ZuN R ht hdk hd ts o.type (ZD T hx) (ZD T hy) h
   exact Xo ⟨.tuple #[],w',by simp [resolve,invoke,builtin,h1],Post.here h2 ZeE⟩
  ·cases hc
 ·refine Xo ?_
  split at hc
  ·rename_i t x hty
   have hargs2:∃ ox,cargs=#[ox]/\ZE ox=some x:=by
    obtain ⟨l⟩:=cargs
    match l,hargs with
    | [],hargs=>simp [Zbi] at hargs
    | [ox],hargs =>
     simp only [Zbi] at hargs
     split at hargs
     ·rename_i x1 hx1
      simp only [Xa,Xai,and_true] at hargs
      subst hargs
      exact ⟨ox,rfl,hx1⟩
     ·cases hargs
    | ox::oy::r,hargs =>
     have:=Zaa hav
     simp at this
   obtain ⟨ox,rfl,hx⟩:=hargs2
   have htys:ctypes=#[t]:=by
    obtain ⟨l⟩:=ctypes
    simpa using hty
   subst htys
   split at hc
   ·rename_i k bytes z he
    injection hc with hc;subst hc
    simp only [execI] at h
    obtain ⟨vr,w1,h1,h2⟩:=ZnN (ty:=o.type) R he (ZD T hx) h
    exact Xo ⟨vr,w1,by simp [resolve,invoke,builtin,h1],h2⟩
   ·cases hc
  ·cases hc
 ·refine Xo ?_
  split at hc
  ·rename_i hl2
   injection hc with hc;subst hc
   simp only [execI] at h
   split at h
   ·rename_i k p k' q hh
    rw [hh] at hav
    simp only [VRs,VR] at hav
    obtain ⟨v1,vs1,e1,rfl,v2,vs2,rfl,rfl,rfl⟩:=hav
    simp only [Xa,Xb] at h
    obtain ⟨rfl,rfl,rfl⟩:=h
    have hca:cargs.map a.eval=#[.int k p,.int k' q]:=by
     apply XaI
     simpa using e1
    refine Xo ⟨_,w,?_,Post.here R (by simp only [VR];rfl)⟩
    simp [resolve,invoke,builtin,hca,Builtin.max_,Builtin.max2]
   ·cases h
  ·cases hc
 ·refine Xo ?_
  split at hc
  ·rename_i hl2
   injection hc with hc;subst hc
   simp only [execI] at h
   split at h
   ·rename_i k p k' q hh
    rw [hh] at hav
    simp only [VRs,VR] at hav
    obtain ⟨v1,vs1,e1,rfl,v2,vs2,rfl,rfl,rfl⟩:=hav
    simp only [Xa,Xb] at h
    obtain ⟨rfl,rfl,rfl⟩:=h
    have hca:cargs.map a.eval=#[.int k p,.int k' q]:=by
     apply XaI
     simpa using e1
    refine Xo ⟨_,w,?_,Post.here R (by simp only [VR];rfl)⟩
    simp [resolve,invoke,builtin,hca,Builtin.min_,Builtin.min2]
   ·cases h
  ·cases hc
 ·cases hc
theorem Znf {O:Zq} (hO:ZY P O) {bf:Nat->Bool} {an:Ann} {a:Act} {o:Oper} {own:Nat} {ins:Ins} (hc:Zs P an own o.op=some ins) (T:TR I β tm a.tmps) (R:Rel base w0 I0 I β σ w) (hb:KLt base w0)
  {sq:Nat} (hsite:nsite ins≠0->σ[sq]?=some .free) {v:AVal} {c:Cls} (h:execI O bf tm σ sq ins=some (v,σ',c)):OpR P (execOp a.eval o) w base w0 I0 I β v σ':=by
 cases ho:o.op <;> rw [ho] at hc <;> first
  | exact Xo (ZvQ hO _ ho hc T R hb hsite h)
  | exact Xo (Zwb hO _ ho hc T R hb hsite h)
  | exact Xo (Zya hO _ _ _ ho hc T R hb hsite h)
  | exact Xo (Zps hO _ ho hc T R hb hsite h)
  | exact Xo (ZoS hO _ _ ho hc T R hb hsite h)
  | exact Xo (Zs9 hO _ _ ho hc T R hb hsite h)
  | exact Xo (Zql hO _ _ _ ho hc T R hb hsite h)
  | exact Xo (Zxu hO _ _ ho hc T R hb hsite h)
  | exact Xo (Zwz hO _ _ _ ho hc T R hb hsite h)
  | exact Xo (ZnX hO _ ho hc T R hb hsite h)
  | exact Xo (Ztd hO _ _ _ _ _ ho hc T R hb hsite h)
  | exact Xo (Zoo hO _ _ _ ho hc T R hb hsite h)
  | exact Xo (ZvT hO _ _ _ ho hc T R hb hsite h)
  | exact Xo (Ztb hO _ _ _ _ _ ho hc T R hb hsite h)
  | exact Xo (Zte hO _ _ _ ho hc T R hb hsite h)
  | exact Xo (Zrm hO _ _ _ ho hc T R hb hsite h)
  | exact Xo (ZwX hO _ _ _ ho hc T R hb hsite h)
  | exact Xo (Zt3 hO _ _ _ ho hc T R hb hsite h)
  | exact Xo (ZuW hO _ _ ho hc T R hb hsite h)
  | exact Xo (ZoI hO _ _ _ ho hc T R hb hsite h)
  | exact Xo (ZsO hO _ _ _ ho hc T R hb hsite h)
  | exact Xo (Zxe hO _ _ ho hc T R hb hsite h)
  | exact Zyd hO _ ho hc T R hb hsite h
  | exact Xo (Zo9 hO _ _ ho hc T R hb hsite h)
  | exact Xo (Zrk hO _ _ ho hc T R hb hsite h)
  | exact Xo (Zwr hO _ _ ho hc T R hb hsite h)
  | exact Xo (ZlL hO _ _ _ _ ho hc T R hb hsite h)
  | exact Xo (Zyv hO _ _ _ _ ho hc T R hb hsite h)
  | exact Xo (Ztx hO _ _ _ _ ho hc T R hb hsite h)
  | exact ZnZ hO _ ho hc T R hb hsite h
  | (simp only [Zs] at hc;cases hc;done)
end
end
section
open Go.RowKit
section
variable {O:Zq} {bf:Nat->Bool} {tm tm':Tms} {σ σ' σ2:Za} {sq:Nat}
theorem Opd.ev_congr {x:Opd} (h:∀ n ∈ x.reads,tget tm n=tget tm' n):x.ev tm=x.ev tm':=by
 cases x with
 | t n=>exact h n (by simp [Opd.reads])
 | c v=>rfl
theorem Zgp {xs:List Opd} (h:∀ n ∈ xs.flatMap Opd.reads,tget tm n=tget tm' n):(xs.map fun x=>x.ev tm)=xs.map fun x=>x.ev tm':=by
 apply Xac
 intro x hx
 exact Opd.ev_congr fun n hn=>h n (X1.2 ⟨x,hx,hn⟩)
theorem Ze9 {x:Option Opd} (h:∀ n ∈ Zd6 x,tget tm n=tget tm' n):(x.map fun x=>x.ev tm)=x.map fun x=>x.ev tm':=by
 cases x with
 | none=>rfl
 | some x=>simp only [XM];rw [Opd.ev_congr (x:=x) h]
theorem ZdK {ins:Ins} (h:∀ n ∈ ins.reads,tget tm n=tget tm' n):execI O bf tm σ sq ins=execI O bf tm' σ sq ins:=by
 cases ins with
 | alloc zs=>rfl
 | build zs ps =>
  have : (ps.map fun p=>(p.1,p.2.1,p.2.2.ev tm))=ps.map fun p=>(p.1,p.2.1,p.2.2.ev tm'):=by
   apply Xac
   intro p hp
   rw [Opd.ev_congr (x:=p.2.2) fun n hn=>h n (by simp only [Ins.reads];exact X1.2 ⟨p,hp,hn⟩)]
  simp only [execI,this]
 | bslice own k n z ps =>
  have : (ps.map fun p=>p.2.ev tm)=ps.map fun p=>p.2.ev tm':=by
   apply Xac
   intro p hp
   rw [Opd.ev_congr (x:=p.2) fun n hn=>h n (by simp only [Ins.reads];exact X1.2 ⟨p,hp,hn⟩)]
  simp only [execI,this]
 | rslice k n z ps =>
  have h0:∀ p ∈ ps,p.2.ev tm=p.2.ev tm':=fun p hp=>Opd.ev_congr (x:=p.2) fun n hn=>h n (by simp only [Ins.reads];exact X1.2 ⟨p,hp,hn⟩)
  have h1:(ps.map fun p=>(p.1,p.2.ev tm))=ps.map fun p=>(p.1,p.2.ev tm'):=Xac fun p hp=>by rw [h0 p hp]
  have h2:(ps.all fun p=>(p.2.ev tm).cells.length == k && (p.2.ev tm).cells.all Zu)=ps.all fun p=>(p.2.ev tm').cells.length == k && (p.2.ev tm').cells.all Zu:=by
   rw [Bool.eq_iff_iff,Xv,Xv]
   exact ⟨fun h p hp=>by rw [<-h0 p hp];exact h p hp,fun h p hp=>by rw [h0 p hp];exact h p hp⟩
  simp only [execI,h1,h2]
 | rng x=>simp only [execI,Opd.ev_congr (x:=x) h]
 | nxt x=>simp only [execI,Opd.ev_congr (x:=x) h]
 | mkmap=>rfl
 | mkbook x=>simp only [execI,Opd.ev_congr (x:=x) h]
 | mkrow x=>simp only [execI,Opd.ev_congr (x:=x) h]
 | mlen x=>simp only [execI,Opd.ev_congr (x:=x) h]
 | look kc z ok x y=>simp only [Ins.reads,Xn] at h;simp only [execI,Opd.ev_congr (x:=x) fun n hn=>h n (Xo hn),Opd.ev_congr (x:=y) fun n hn=>h n (Xw hn)]
 | mdel kc x y=>simp only [Ins.reads,Xn] at h;simp only [execI,Opd.ev_congr (x:=x) fun n hn=>h n (Xo hn),Opd.ev_congr (x:=y) fun n hn=>h n (Xw hn)]
 | mset kc x y z =>
  simp only [Ins.reads,Xn] at h
  simp only [execI,Opd.ev_congr (x:=x) fun n hn=>h n (Xo (Xo hn)),Opd.ev_congr (x:=y) fun n hn=>h n (Xo (Xw hn)),Opd.ev_congr (x:=z) fun n hn=>h n (Xw hn)]
 | mov x=>simp only [execI,Opd.ev_congr (x:=x) h]
 | box x=>simp only [execI,Opd.ev_congr (x:=x) h]
 | un op x=>simp only [execI,Opd.ev_congr (x:=x) h]
 | i2i k x=>simp only [execI,Opd.ev_congr (x:=x) h]
 | i2s x=>simp only [execI,Opd.ev_congr (x:=x) h]
 | clr k z x=>simp only [execI,Opd.ev_congr (x:=x) h]
 | same x=>simp only [execI,Opd.ev_congr (x:=x) h]
 | s2b x=>simp only [execI,Opd.ev_congr (x:=x) h]
 | b2s x=>simp only [execI,Opd.ev_congr (x:=x) h]
 | s2s x=>simp only [execI,Opd.ev_congr (x:=x) h]
 | faddr o x=>simp only [execI,Opd.ev_congr (x:=x) h]
 | field k o x=>simp only [execI,Opd.ev_congr (x:=x) h]
 | ext x i=>simp only [execI,Opd.ev_congr (x:=x) h]
 | len x=>simp only [execI,Opd.ev_congr (x:=x) h]
 | slen x=>simp only [execI,Opd.ev_congr (x:=x) h]
 | nilchk x=>simp only [execI,Opd.ev_congr (x:=x) h]
 | mki t x=>simp only [execI,Opd.ev_congr (x:=x) h]
 | panic x=>simp only [execI,Opd.ev_congr (x:=x) h]
 | ld k x=>simp only [execI,Opd.ev_congr (x:=x) h]
 | pick c a b =>
  simp only [Ins.reads,Xn] at h
  simp only [execI,Opd.ev_congr (x:=c) fun n hn=>h n (Xo (Xo hn)),Opd.ev_congr (x:=a) fun n hn=>h n (Xo (Xw hn)),Opd.ev_congr (x:=b) fun n hn=>h n (Xw hn)]
 | st k x y=>simp only [Ins.reads,Xn] at h;simp only [execI,Opd.ev_congr (x:=x) fun n hn=>h n (Xo hn),Opd.ev_congr (x:=y) fun n hn=>h n (Xw hn)]
 | bin k x y=>simp only [Ins.reads,Xn] at h;simp only [execI,Opd.ev_congr (x:=x) fun n hn=>h n (Xo hn),Opd.ev_congr (x:=y) fun n hn=>h n (Xw hn)]
 | iaddr k x y=>simp only [Ins.reads,Xn] at h;simp only [execI,Opd.ev_congr (x:=x) fun n hn=>h n (Xo hn),Opd.ev_congr (x:=y) fun n hn=>h n (Xw hn)]
 | aaddr k n x y=>simp only [Ins.reads,Xn] at h;simp only [execI,Opd.ev_congr (x:=x) fun n hn=>h n (Xo hn),Opd.ev_congr (x:=y) fun n hn=>h n (Xw hn)]
 | sindex x y=>simp only [Ins.reads,Xn] at h;simp only [execI,Opd.ev_congr (x:=x) fun n hn=>h n (Xo hn),Opd.ev_congr (x:=y) fun n hn=>h n (Xw hn)]
 | aindex s k n x y=>simp only [Ins.reads,Xn] at h;simp only [execI,Opd.ev_congr (x:=x) fun n hn=>h n (Xo hn),Opd.ev_congr (x:=y) fun n hn=>h n (Xw hn)]
 | app k b z x y=>simp only [Ins.reads,Xn] at h;simp only [execI,Opd.ev_congr (x:=x) fun n hn=>h n (Xo hn),Opd.ev_congr (x:=y) fun n hn=>h n (Xw hn)]
 | mkslice k b z x y=>simp only [Ins.reads,Xn] at h;simp only [execI,Opd.ev_congr (x:=x) fun n hn=>h n (Xo hn),Opd.ev_congr (x:=y) fun n hn=>h n (Xw hn)]
 | beq k x y=>simp only [Ins.reads,Xn] at h;simp only [execI,Opd.ev_congr (x:=x) fun n hn=>h n (Xo hn),Opd.ev_congr (x:=y) fun n hn=>h n (Xw hn)]
 | peq k x y=>simp only [Ins.reads,Xn] at h;simp only [execI,Opd.ev_congr (x:=x) fun n hn=>h n (Xo hn),Opd.ev_congr (x:=y) fun n hn=>h n (Xw hn)]
 | eqv k ks x y=>simp only [Ins.reads,Xn] at h;simp only [execI,Opd.ev_congr (x:=x) fun n hn=>h n (Xo hn),Opd.ev_congr (x:=y) fun n hn=>h n (Xw hn)]
 | ieq k x y=>simp only [Ins.reads,Xn] at h;simp only [execI,Opd.ev_congr (x:=x) fun n hn=>h n (Xo hn),Opd.ev_congr (x:=y) fun n hn=>h n (Xw hn)]
 | slice k x lo hi mx =>
  simp only [Ins.reads,Xn] at h
  simp only [execI,Opd.ev_congr (x:=x) fun n hn=>h n (Xo (Xo (Xo hn))),Ze9 (x:=lo) fun n hn=>h n (Xo (Xo (Xw hn))),Ze9 (x:=hi) fun n hn=>h n (Xo (Xw hn)),Ze9 (x:=mx) fun n hn=>h n (Xw hn)]
 | sslice x lo hi =>
  simp only [Ins.reads,Xn] at h
  simp only [execI,Opd.ev_congr (x:=x) fun n hn=>h n (Xo (Xo hn)),Ze9 (x:=lo) fun n hn=>h n (Xo (Xw hn)),Ze9 (x:=hi) fun n hn=>h n (Xw hn)]
 | mm m xs=>simp only [Ins.reads] at h;simp only [execI,Zgp h]
 | call f own vw xs=>simp only [Ins.reads] at h;simp only [execI,Zgp h]
 | mkfn f xs=>simp only [Ins.reads] at h;simp only [execI,Zgp h]
 | callv x xs =>
  simp only [Ins.reads,Xn] at h
  simp only [execI,Opd.ev_congr (x:=x) fun n hn=>h n (Xo hn),Zgp (xs:=xs) fun n hn=>h n (Xw hn)]
def Agree (σ σ2:Za) (ts:List Nat):Prop:=∀ t ∈ ts,σ2[t]?=σ[t]?
theorem Agree.left {ts us:List Nat} (h:Agree σ σ2 (ts++us)):Agree σ σ2 ts:=fun t ht=>h t (by simp [ht])
theorem Agree.right {ts us:List Nat} (h:Agree σ σ2 (ts++us)):Agree σ σ2 us:=fun t ht=>h t (by simp [ht])
theorem ZdA {a:AVal} {xs:List AVal} {ts:List Nat} (h:Zk σ a=some (xs,ts)) (hA:Agree σ σ2 ts):Zk σ2 a=some (xs,ts):=by
 unfold Zk at h ⊢
 split at h
 ·exact h
 ·exact h
 ·rename_i t g lo n
  have ht:t ∈ ts:=by
   split at h
   ·split at h
    ·simp only [Xa,Xb] at h;rw [<-h.2];simp
    ·cases h
   ·split at h
    ·simp only [Xa,Xb] at h;rw [<-h.2];simp
    ·cases h
   ·cases h
  rw [hA t ht]
  exact h
 ·cases h
theorem ZkP {a y:AVal} {ts:List Nat} (h:ZaQ σ a=some (y,ts)) (hA:Agree σ σ2 ts):ZaQ σ2 a=some (y,ts):=by
 unfold ZaQ at h ⊢
 split at h
 case h_2 =>
  split at h
  ·rename_i he
   simp only [Xa,Xb] at h
   obtain ⟨rfl,rfl⟩:=h
   rw [ZdA he hA]
  ·cases h
 all_goals exact h
theorem Zko:∀ {cs ys:List AVal} {ts:List Nat},Za7 σ cs=some (ys,ts)->Agree σ σ2 ts->Za7 σ2 cs=some (ys,ts)
 | [],ys,ts,h,_=>h
 | c::cs,ys,ts,h,hA=>by
  simp only [Za7] at h ⊢
  split at h
  ·rename_i h1
   split at h
   ·rename_i h2
    simp only [Xa,Xb] at h
    obtain ⟨rfl,rfl⟩:=h
    rw [ZkP h1 hA.left]
    simp only
    rw [Zko h2 hA.right]
   ·cases h
  ·cases h
theorem ZrK {a y:AVal} {ts:List Nat} (h:Zba σ a=some (y,ts)) (hA:Agree σ σ2 ts):Zba σ2 a=some (y,ts):=by
 unfold Zba at h ⊢
 split at h
 ·split at h
  ·rename_i h1
   simp only [Xa,Xb] at h
   obtain ⟨rfl,rfl⟩:=h
   rw [Zko h1 hA]
  ·cases h
 ·exact ZkP h hA
theorem ZhD:∀ {cs ys:List AVal} {ts:List Nat},viewAs σ cs=some (ys,ts)->Agree σ σ2 ts->viewAs σ2 cs=some (ys,ts)
 | [],ys,ts,h,_=>h
 | c::cs,ys,ts,h,hA=>by
  simp only [viewAs] at h ⊢
  split at h
  ·rename_i h1
   split at h
   ·rename_i h2
    simp only [Xa,Xb] at h
    obtain ⟨rfl,rfl⟩:=h
    rw [ZrK h1 hA.left]
    simp only
    rw [ZhD h2 hA.right]
   ·cases h
  ·cases h
theorem ZlC {a y:AVal} {ts:List Nat} (h:ZaI σ a=some (y,ts)) (hA:Agree σ σ2 ts):ZaI σ2 a=some (y,ts):=by
 unfold ZaI at h ⊢
 split at h
 case h_2 =>
  split at h
  ·rename_i he
   simp only [Xa,Xb] at h
   obtain ⟨rfl,rfl⟩:=h
   rw [ZdA he hA]
  ·cases h
 all_goals exact h
theorem Zkq:∀ {cs ys:List AVal} {ts:List Nat},Zbp σ cs=some (ys,ts)->Agree σ σ2 ts->Zbp σ2 cs=some (ys,ts)
 | [],ys,ts,h,_=>h
 | c::cs,ys,ts,h,hA=>by
  simp only [Zbp] at h ⊢
  split at h
  ·rename_i h1
   split at h
   ·rename_i h2
    simp only [Xa,Xb] at h
    obtain ⟨rfl,rfl⟩:=h
    rw [ZlC h1 hA.left]
    simp only
    rw [Zkq h2 hA.right]
   ·cases h
  ·cases h
theorem Zol {a y:AVal} {ts:List Nat} (h:showA σ a=some (y,ts)) (hA:Agree σ σ2 ts):showA σ2 a=some (y,ts):=by
 unfold showA at h ⊢
 split at h
 ·split at h
  ·rename_i h1
   simp only [Xa,Xb] at h
   obtain ⟨rfl,rfl⟩:=h
   rw [Zkq h1 hA]
  ·cases h
 ·exact ZlC h hA
theorem Zg4:∀ {cs ys:List AVal} {ts:List Nat},showAs σ cs=some (ys,ts)->Agree σ σ2 ts->showAs σ2 cs=some (ys,ts)
 | [],ys,ts,h,_=>h
 | c::cs,ys,ts,h,hA=>by
  simp only [showAs] at h ⊢
  split at h
  ·rename_i h1
   split at h
   ·rename_i h2
    simp only [Xa,Xb] at h
    obtain ⟨rfl,rfl⟩:=h
    rw [Zol h1 hA.left]
    simp only
    rw [Zg4 h2 hA.right]
   ·cases h
  ·cases h
def Zaf (σ:Za) (s:Nat):Option Zf->Za
 | none=>σ
 | some b=>σ.set s b
def ZcK (σ:Za) (ts:List Nat):Prop:=∀ t ∈ ts,∃ x,σ[t]?=some x/\x≠.free
theorem Rowy.nonfree {ts:List Nat} (h:Rowy σ ts):ZcK σ ts:=by
 intro t ht
 obtain ⟨g,k,xs,h | h⟩:=h t ht
 ·exact ⟨_,h,by simp⟩
 ·exact ⟨_,h,by simp⟩
theorem ZbL:ZcK σ []:=fun t ht=>by simp at ht
theorem Zhe {t:Nat} {x:Zf} (h:σ[t]?=some x) (hx:x≠.free):ZcK σ [t]:=fun t' ht=>by
 simp at ht;subst ht;exact ⟨x,h,hx⟩
def Framed (f:Za->Option (AVal×Za×Cls)) (σ:Za) (sq ns:Nat) (v:AVal) (σ':Za) (c:Cls):Prop :=
 ∃ ob,σ'=Zaf σ sq ob/\(ob.isSome=true->ns≠0)/\ob≠some .free/\ZcK σ c.rd/\∀ σ2,Agree σ σ2 c.rd->f σ2=some (v,Zaf σ2 sq ob,c)
theorem Framed.pure {f:Za->Option (AVal×Za×Cls)} {v:AVal} {c:Cls} {ns:Nat} (hr:c.rd=[]) (hf:∀ σ2,f σ2=some (v,σ2,c)):Framed f σ sq ns v σ c :=
 ⟨none,rfl,by simp,by simp,by rw [hr];exact ZbL,fun σ2 _=>hf σ2⟩
theorem Zl6 {kc:Nat} {z:AVal} {ok:Bool} {m k v:AVal} {c:Cls} {ns:Nat} (h:Zbh σ kc z ok m k=some (v,σ',c)):Framed (fun σ=>Zbh σ kc z ok m k) σ sq ns v σ' c:=by
 unfold Zbh at h
 split at h
 case isFalse=>cases h
 rename_i hk
 split at h
 ·simp only [Xa,Xb] at h
  obtain ⟨rfl,rfl,rfl⟩:=h
  exact Framed.pure rfl fun σ2=>by simp only [Zbh];rw [if_pos hk]
 ·rename_i t
  split at h
  ·rename_i es hs
   have hnf:ZcK σ [t]:=fun u hu=>by rw [XV] at hu;subst hu;exact ⟨_,hs,by simp⟩
   split at h
   ·rename_i j y hf
    simp only [Xa,Xb] at h
    obtain ⟨rfl,rfl,rfl⟩:=h
    refine ⟨none,rfl,by simp,by simp,hnf,fun σ2 hA=>?_⟩
    have e2:σ2[t]?=some (.map es):=by rw [hA t (by simp)];exact hs
    simp only [Zbh,e2,hf,Zaf]
    rw [if_pos hk]
   ·rename_i hf
    simp only [Xa,Xb] at h
    obtain ⟨rfl,rfl,rfl⟩:=h
    refine ⟨none,rfl,by simp,by simp,hnf,fun σ2 hA=>?_⟩
    have e2:σ2[t]?=some (.map es):=by rw [hA t (by simp)];exact hs
    simp only [Zbh,e2,hf,Zaf]
    rw [if_pos hk]
   ·cases h
  ·rename_i es hs
   have hnf:ZcK σ [t]:=fun u hu=>by rw [XV] at hu;subst hu;exact ⟨_,hs,by simp⟩
   split at h
   ·rename_i j y hf
    simp only [Xa,Xb] at h
    obtain ⟨rfl,rfl,rfl⟩:=h
    refine ⟨none,rfl,by simp,by simp,hnf,fun σ2 hA=>?_⟩
    have e2:σ2[t]?=some (.rmap es):=by rw [hA t (by simp)];exact hs
    simp only [Zbh,e2,hf,Zaf]
    rw [if_pos hk]
   ·rename_i hf
    simp only [Xa,Xb] at h
    obtain ⟨rfl,rfl,rfl⟩:=h
    refine ⟨none,rfl,by simp,by simp,hnf,fun σ2 hA=>?_⟩
    have e2:σ2[t]?=some (.rmap es):=by rw [hA t (by simp)];exact hs
    simp only [Zbh,e2,hf,Zaf]
    rw [if_pos hk]
   ·cases h
  ·cases h
 ·cases h
theorem Ztg {m v:AVal} {c:Cls} {ns:Nat} (h:Zdj σ m=some (v,σ',c)):Framed (fun σ=>Zdj σ m) σ sq ns v σ' c:=by
 unfold Zdj at h
 split at h
 ·simp only [Xa,Xb] at h
  obtain ⟨rfl,rfl,rfl⟩:=h
  exact Framed.pure rfl fun σ2=>rfl
 ·rename_i t
  split at h
  ·rename_i es hs
   simp only [Xa,Xb] at h
   obtain ⟨rfl,rfl,rfl⟩:=h
   refine ⟨none,rfl,by simp,by simp,fun u hu=>by rw [XV] at hu;subst hu;exact ⟨_,hs,by simp⟩,fun σ2 hA=>?_⟩
   have e2:σ2[t]?=some (.map es):=by rw [hA t (by simp)];exact hs
   simp only [Zdj,e2,Zaf]
  ·rename_i es hs
   simp only [Xa,Xb] at h
   obtain ⟨rfl,rfl,rfl⟩:=h
   refine ⟨none,rfl,by simp,by simp,fun u hu=>by rw [XV] at hu;subst hu;exact ⟨_,hs,by simp⟩,fun σ2 hA=>?_⟩
   have e2:σ2[t]?=some (.rmap es):=by rw [hA t (by simp)];exact hs
   simp only [Zdj,e2,Zaf]
  ·cases h
 ·cases h
theorem ZrX {k:Option Nat} {a v:AVal} {c:Cls} {ns:Nat} (h:ldA σ k a=some (v,σ',c)):Framed (fun σ=>ldA σ k a) σ sq ns v σ' c:=by
 have h0:=h
 unfold ldA at h
 have fin:∀ t,σ'=σ->c.rd=[t]->(∃ x,σ[t]?=some x/\x≠.free)->(∀ σ2:Za,σ2[t]?=σ[t]?->ldA σ2 k a=(ldA σ k a).map fun p=>(p.1,σ2,p.2.2))->Framed (fun σ=>ldA σ k a) σ sq ns v σ' c:=by
  intro t e1 e2 ⟨x,hx,hne⟩ hf
  subst e1
  refine ⟨none,rfl,by simp,by simp,by rw [e2];exact Zhe hx hne,fun σ2 hA=>?_⟩
  rw [e2] at hA
  simp only
  rw [hf σ2 (hA t (by simp)),h0]
  rfl
 split at h
 ·rename_i t o
  split at h
  ·rename_i cs hs
   split at h
   ·rename_i v' hp
    simp only [Xa,Xb] at h
    obtain ⟨rfl,rfl,rfl⟩:=h
    exact fin t rfl rfl ⟨_,hs,by simp⟩ (fun σ2 h2=>by simp only [ldA,h2,hs,hp,XM])
   ·cases h
  ·cases h
 ·rename_i t g i o
  split at h
  ·rename_i g' kk xs hs
   split at h
   ·rename_i e
    split at h
    ·rename_i x hx
     split at h
     ·rename_i v' hp
      simp only [Xa,Xb] at h
      obtain ⟨rfl,rfl,rfl⟩:=h
      exact fin t rfl rfl ⟨_,hs,by simp⟩ (fun σ2 h2=>by simp only [ldA,h2,hs,e,if_true,hx,hp,XM])
     ·cases h
    ·cases h
   ·cases h
  ·rename_i g' kk xs hs
   split at h
   ·rename_i e
    split at h
    ·rename_i x hx
     split at h
     ·rename_i v' hp
      simp only [Xa,Xb] at h
      obtain ⟨rfl,rfl,rfl⟩:=h
      exact fin t rfl rfl ⟨_,hs,by simp⟩ (fun σ2 h2=>by simp only [ldA,h2,hs,e,if_true,hx,hp,XM])
     ·cases h
    ·cases h
   ·cases h
  ·rename_i g' kk xs hs
   split at h
   ·rename_i e
    split at h
    ·rename_i x hx
     split at h
     ·rename_i v' hp
      simp only [Xa,Xb] at h
      obtain ⟨rfl,rfl,rfl⟩:=h
      exact fin t rfl rfl ⟨_,hs,by simp⟩ (fun σ2 h2=>by simp only [ldA,h2,hs,e,if_true,hx,hp,XM])
     ·cases h
    ·cases h
   ·cases h
  ·cases h
 ·rename_i cs o
  split at h
  ·rename_i v' hp
   simp only [Xa,Xb] at h
   obtain ⟨rfl,rfl,rfl⟩:=h
   exact Framed.pure rfl (fun σ2=>by simp only [ldA,hp])
  ·cases h
 ·cases h
theorem Zyl {k:Nat} {x i v:AVal} {c:Cls} {ns:Nat} (h:ZaV σ k x i=some (v,σ',c)):Framed (fun σ=>ZaV σ k x i) σ sq ns v σ' c:=by
 have h0:=h
 unfold ZaV at h
 split at h
 case h_2=>cases h
 rename_i kk ii
 split at h
 case isFalse=>cases h
 rename_i hi
 split at h
 ·rename_i b xs
  split at h
  ·rename_i y hy
   split at h
   ·rename_i hk
    simp only [Xa,Xb] at h
    obtain ⟨rfl,rfl,rfl⟩:=h
    exact Framed.pure rfl (fun σ2=>by simp only [ZaV,hi,if_true,hy,hk])
   ·cases h
  ·cases h
 ·rename_i t g p n
  split at h
  case isFalse=>cases h
  rename_i hn
  have fin:σ'=σ->c.rd=[t]->(∃ x,σ[t]?=some x/\x≠.free)->Framed (fun σ=>ZaV σ k (.sl t g p n) (.int kk ii)) σ sq ns v σ' c:=by
   intro e1 e2 ⟨x,hx,hne⟩
   subst e1
   refine ⟨none,rfl,by simp,by simp,by rw [e2];exact Zhe hx hne,fun σ2 hA=>?_⟩
   rw [e2] at hA
   have h2:=hA t (by simp)
   simp only [ZaV,hi,if_true,hn] at h0 ⊢
   rw [h2]
   split at h0
   ·split at h0
    ·rename_i hc
     simp only [Xa,Xb] at h0
     obtain ⟨rfl,_,rfl⟩:=h0
     rename_i hs
     simp only [hs,hc,and_self,if_true]
     rfl
    ·cases h0
   ·split at h0
    ·rename_i hc
     simp only [Xa,Xb] at h0
     obtain ⟨rfl,_,rfl⟩:=h0
     rename_i hs
     simp only [hs,hc,and_self,if_true]
     rfl
    ·cases h0
   ·split at h0
    ·rename_i hc
     simp only [Xa,Xb] at h0
     obtain ⟨rfl,_,rfl⟩:=h0
     rename_i hs
     simp only [hs,hc,and_self,if_true]
     rfl
    ·cases h0
   ·cases h0
  split at h
  ·rename_i hs
   split at h
   ·simp only [Xa,Xb] at h
    exact fin h.2.1.symm (by rw [<-h.2.2]) ⟨_,hs,by simp⟩
   ·cases h
  ·rename_i hs
   split at h
   ·simp only [Xa,Xb] at h
    exact fin h.2.1.symm (by rw [<-h.2.2]) ⟨_,hs,by simp⟩
   ·cases h
  ·rename_i hs
   split at h
   ·simp only [Xa,Xb] at h
    exact fin h.2.1.symm (by rw [<-h.2.2]) ⟨_,hs,by simp⟩
   ·cases h
  ·cases h
 ·cases h
end
end
section
open Go.RowKit
section
variable {O:Zq} {bf:Nat->Bool} {tm tm':Tms} {σ σ' σ2:Za} {sq:Nat}
theorem Framed.one {f:Za->Option (AVal×Za×Cls)} {v:AVal} {c:Cls} {ns t:Nat} (hr:c.rd=[t]) (hn:∃ x,σ[t]?=some x/\x≠.free) (hf:∀ σ2:Za,σ2[t]?=σ[t]?->f σ2=some (v,σ2,c)):Framed f σ sq ns v σ c:=by
 obtain ⟨x,hx,hne⟩:=hn
 exact ⟨none,rfl,by simp,by simp,by rw [hr];exact Zhe hx hne,fun σ2 hA=>hf σ2 (hA t (by rw [hr];simp))⟩
theorem ZpA {k:Nat} {x v:AVal} {lo hi mx:Option AVal} {c:Cls} {ns:Nat} (h:ZaP σ k x lo hi mx=some (v,σ',c)) (hw:c.wr=[]):Framed (fun σ=>ZaP σ k x lo hi mx) σ sq ns v σ' c:=by
 unfold ZaP at h
 split at h
 ·rename_i b xs
  split at h
  ·cases h
  rename_i m hm
  split at h
  ·cases h
  rename_i h' hh
  split at h
  ·cases h
  rename_i l hl
  split at h
  case isFalse=>cases h
  rename_i hk0
  split at h
  ·rename_i hmx
   simp only [Xa,Xb] at h
   obtain ⟨rfl,rfl,rfl⟩:=h
   exact Framed.pure rfl (fun σ2=>by simp only [ZaP,hm,hh,hl,hk0,if_true,hmx])
  ·rename_i hmx
   simp only [Xa,Xb] at h
   obtain ⟨rfl,rfl,rfl⟩:=h
   exact Framed.pure rfl (fun σ2=>by simp only [ZaP,hm,hh,hl,hk0,if_true,hmx,if_false,Xg])
 ·rename_i t g p n
  split at h
  ·cases h
  rename_i els hels
  have hnf:∃ x,σ[t]?=some x/\x≠.free:=by
   simp only [Zk] at hels
   split at hels
   ·rename_i hs;exact ⟨_,hs,by simp⟩
   ·rename_i hs;exact ⟨_,hs,by simp⟩
   ·cases hels
  have hel2:∀ σ2:Za,σ2[t]?=σ[t]?->Zk σ2 (.sl t g p n)=some els:=by
   intro σ2 h2
   rw [<-hels]
   simp only [Zk,h2]
  split at h
  ·rename_i m0
   split at h
   ·rename_i q1 hq1
    split at h
    ·rename_i q2 hq2
     split at h
     ·rename_i q3 hq3
      simp only [Xa,Xb] at h
      obtain ⟨rfl,rfl,rfl⟩:=h
      exact Framed.one rfl hnf (fun σ2 h2=>by simp only [ZaP,hel2 σ2 h2,hq1,hq2,hq3])
     ·cases h
    ·cases h
   ·rename_i hq0
    split at h
    ·rename_i q1 hq1
     split at h
     ·rename_i q2 hq2
      split at h
      ·rename_i q3 hq3
       simp only [Xa,Xb] at h
       obtain ⟨rfl,rfl,rfl⟩:=h
       exact Framed.one rfl hnf (fun σ2 h2=>by simp only [ZaP,hel2 σ2 h2,hq0,hq1,hq2,hq3])
      ·cases h
     ·cases h
    ·cases h
  ·split at h
   ·rename_i g' k' xs hs
    split at h
    case isFalse=>cases h
    rename_i hkk
    split at h
    ·cases h
    rename_i h' hh
    split at h
    ·cases h
    rename_i l hl
    simp only [Xa,Xb] at h
    obtain ⟨rfl,rfl,rfl⟩:=h
    exact Framed.one rfl hnf (fun σ2 h2=>by simp only [ZaP,hel2 σ2 h2,h2,hs,hkk,if_true,hh,hl])
   ·rename_i g' k' xs hs
    split at h
    case isFalse=>cases h
    rename_i hkk
    split at h
    ·cases h
    rename_i h' hh
    split at h
    ·cases h
    rename_i l hl
    simp only [Xa,Xb] at h
    obtain ⟨rfl,rfl,rfl⟩:=h
    exact Framed.one rfl hnf (fun σ2 h2=>by simp only [ZaP,hel2 σ2 h2,h2,hs,hkk,if_true,hh,hl])
   ·cases h
 ·cases h
theorem Zn8 {k bytes:Nat} {x y v:AVal} {c:Cls} (h:ZcR σ sq k bytes x y=some (v,σ',c)):c.any=true:=by
 unfold ZcR at h
 repeat' (split at h)
 all_goals first
  | (cases h;done)
  | (simp only [Xa,Xb] at h;rw [<-h.2.2])
theorem Zvh {k bytes:Nat} {x y v:AVal} {c:Cls} (h:Z9 σ sq k bytes x y=some (v,σ',c)) (hw:c.wr=[]) (ha:c.any=false):Framed (fun σ=>Z9 σ sq k bytes x y) σ sq 1 v σ' c:=by
 unfold Z9 at h
 split at h
 ·rw [Zn8 h] at ha;cases ha
 rename_i ys us he
 split at h
 case isFalse=>cases h
 rename_i hk
 have hnf:=(ZgF he).nonfree
 split at h
 ·split at h
  ·rename_i hb
   simp only [Xa,Xb] at h
   obtain ⟨rfl,rfl,rfl⟩:=h
   refine ⟨some (.row 0 k ys),rfl,by simp,by simp,hnf,fun σ2 hA=>?_⟩
   simp only [Z9,ZdA he hA,hk,if_true,hb,Zaf]
  ·cases h
 ·rename_i x0 xs0
  split at h
  ·rename_i hb
   split at h
   ·simp only [Xa,Xb] at h
    obtain ⟨rfl,rfl,rfl⟩:=h
    refine ⟨none,rfl,by simp,by simp,hnf,fun σ2 hA=>?_⟩
    simp only [Z9,ZdA he hA,hk,if_true,Zaf]
    rw [if_pos hb]
   ·rename_i y0 ys0
    simp only [Xa,Xb] at h
    obtain ⟨rfl,rfl,rfl⟩:=h
    refine ⟨some (.row 0 k ((x0::xs0)++(y0::ys0))),rfl,by simp,by simp,hnf,fun σ2 hA=>?_⟩
    simp only [Z9,ZdA he hA,hk,if_true,Zaf]
    rw [if_pos hb]
  ·cases h
 ·split at h
  ·split at h
   ·split at h
    ·simp only [Xa,Xb] at h
     rw [<-h.2.2] at hw;simp at hw
    ·split at h
     ·simp only [Xa,Xb] at h
      rw [<-h.2.2] at hw;simp at hw
     ·cases h
   ·cases h
  ·cases h
 ·cases h
theorem ZkL {σ:Za} {vs:List AVal} (h:Zn σ 1000 (ZM vs) []=[]):ZM vs=[]:=by
 cases e:ZM vs with
 | nil=>rfl
 | cons t r =>
  rw [e] at h
  simp only [Zn,List.contains_nil,Xg,if_false,List.nil_append] at h
  obtain ⟨_,r',hr⟩:=Zex (σ:=σ) 999 (ZF (σ.getD t .free)++r) [t] (by simp)
  rw [hr] at h
  simp at h
theorem Zln {f own:Nat} {view:Bool} {args:List AVal} {v:AVal} {c:Cls} {ns:Nat} (hns:own=1->ns≠0) (h:Zi O bf σ sq f own view args=some (v,σ',c)) (hw:c.wr=[]) (ha:c.any=false):Framed (fun σ=>Zi O bf σ sq f own view args) σ sq ns v σ' c:=by
 unfold Zi at h
 split at h
 ·cases h
 rename_i xs ts hs
 have hnf:ZcK σ ts:=by
  unfold Zbx at hs
  split at hs
  ·simp only [Xa,Xb] at hs
   rw [<-hs.2];exact ZbL
  ·exact (ZfC hs).nonfree
 have hag:∀ σ2,Agree σ σ2 ts->Zbx (bf f) σ2 args=some (xs,ts):=by
  intro σ2 hA
  unfold Zbx at hs ⊢
  split at hs
  ·rename_i hb;rw [if_pos hb];exact hs
  ·rename_i hb;rw [if_neg hb];exact Zg4 hs hA
 generalize hids:Zn (Zj σ ts) 1000 (ZM xs) []=ids at h
 unfold Za5 at h
 split at h
 case isFalse=>cases h
 generalize hq:Zat view ids.length (O f (ZG (Zg (Zj σ ts) 0 ids) xs) (Zm (Zj σ ts) 0 ids (Zg (Zj σ ts) 0 ids) ids 0))=q at h
 cases q with
 | none=>simp only [Zal] at h;cases h
 | some q =>
  obtain ⟨r,hp⟩:=q
  simp only [Zal] at h
  split at h
  ·rename_i hc
   simp only [Xc,W0] at hc
   obtain ⟨rfl,rfl⟩:=hc
   have hrl:=ZkL hids
   have hrho:∀ σ:Za,Zg σ 0 []=fun _ _=>none:=fun σ=>by funext t g;simp [Zg,Zy]
   have hall:∀ σ2,Agree σ σ2 ts->Zi O bf σ2 sq f own view args=Zal σ2 (Zj σ2 ts) [] ts sq own (some (r,[])):=by
    intro σ2 hA
    unfold Zi
    rw [hag σ2 hA]
    simp only
    rw [hrl]
    have h0:Zn (Zj σ2 ts) 1000 [] []=[]:=rfl
    rw [h0]
    unfold Za5
    simp only [XW,if_true]
    rw [hrho]
    rw [hrho] at hq
    simp only [Zm] at hq ⊢
    rw [hq]
   split at h
   ·rename_i hf
    simp only [Xa,Xb] at h
    obtain ⟨rfl,rfl,rfl⟩:=h
    refine ⟨none,rfl,by simp,by simp,hnf,fun σ2 hA=>?_⟩
    simp only
    rw [hall σ2 hA]
    simp only [Zal,WG,WI,if_true,hf,Zaf]
   split at h
   ·rename_i hf hap
    simp only [Xa,Xb] at h
    obtain ⟨rfl,rfl,rfl⟩:=h
    refine ⟨none,rfl,by simp,by simp,hnf,fun σ2 hA=>?_⟩
    have hap2:Zb9 σ2 ts r=true:=by
     unfold Zb9 at hap ⊢
     simp only [Xc] at hap ⊢
     refine ⟨hap.1,Xv.2 fun t ht=>?_⟩
     have:=Xv.1 hap.2 t ht
     unfold Zdt at this ⊢
     rw [hA t ht];exact this
    simp only
    rw [hall σ2 hA]
    simp only [Zal,WG,WI,if_true,hf,hap2,Zaf,if_false,Xg]
   ·rename_i hf hap
    simp only [Xa,Xb] at h
    obtain ⟨rfl,rfl,rfl⟩:=h
    simp only at hw
    subst hw
    refine ⟨none,rfl,by simp,by simp,hnf,fun σ2 hA=>?_⟩
    simp only
    rw [hall σ2 hA]
    simp only [Zal,WG,WI,if_true,hf,Zaf,Zj,if_false,Xg,Zb9,WG,Bool.not_true,Bool.false_and]
  ·rename_i hne
   split at h
   ·rename_i lo n k xs' hcl
    have hcl0:=hcl
    split at hcl
    case isFalse=>cases hcl
    rename_i hid
    simp only [W0] at hid
    subst hid
    unfold Zeo at hcl
    split at hcl
    case h_2=>cases hcl
    split at hcl
    case isFalse=>cases hcl
    rename_i hcc
    simp only [Xc,decide_eq_true_eq] at hcc
    simp only [Xa,Xb] at hcl h
    obtain ⟨rfl,rfl,rfl,rfl⟩:=hcl
    obtain ⟨rfl,rfl,rfl⟩:=h
    have hrl:=ZkL hids
    have hrho:∀ σ:Za,Zg σ 0 []=fun _ _=>none:=fun σ=>by funext t g;simp [Zg,Zy]
    refine ⟨some (.row 0 _ _),rfl,fun _=>hns hcc.1,by simp,hnf,fun σ2 hA=>?_⟩
    simp only
    unfold Zi
    rw [hag σ2 hA]
    simp only
    rw [hrl]
    have h0:Zn (Zj σ2 ts) 1000 [] []=[]:=rfl
    rw [h0]
    unfold Za5
    simp only [XW,if_true]
    rw [hrho]
    rw [hrho] at hq
    simp only [Zm] at hq ⊢
    rw [hq]
    simp only [Zal]
    rw [if_neg hne,hcl0]
    rfl
   split at h
   ·simp only [Xa,Xb] at h
    rw [<-h.2.2] at ha;simp at ha
   ·cases h
theorem Zbw {x:Option AVal} {v:AVal} {c:Cls} (h:x.map (fun r=>(r,σ,({}:Cls)))=some (v,σ',c)):σ'=σ/\c={}/\x=some v:=by
 simp only [Xh,Xb] at h
 obtain ⟨a,h1,rfl,rfl,rfl⟩:=h
 exact ⟨rfl,rfl,h1⟩
theorem ZqR {ins : Ins} {v : AVal} {c : Cls} (h : execI O bf tm σ sq ins = some (v, σ', c)) (hw : c.wr = []) (ha : c.any = false) : Framed (fun σ => execI O bf tm σ sq ins) σ sq (nsite ins) v σ' c := by
  cases ins with
  | alloc zs =>
    simp only [execI, Xa, Xb] at h
    obtain ⟨rfl, rfl, rfl⟩ := h
    exact ⟨some (.var zs), rfl, by simp [nsite], by simp, ZbL, fun σ2 _ => rfl⟩
  | box x =>
    simp only [execI] at h
    split at h
    . cases h
    . cases h
    . cases h
    . rename_i hne1 hne2 hne3
      simp only [Xa, Xb] at h
      obtain ⟨rfl, rfl, rfl⟩ := h
      refine ⟨some (.var (x.ev tm).cells), rfl, by simp [nsite], by simp, ZbL, fun σ2 _ => ?_⟩
      simp only [execI, Zaf]
  | mkslice k b z x y =>
    simp only [execI] at h
    split at h
    . rename_i l c' e1 e2
      split at h
      . rename_i hc
        simp only [Xa, Xb] at h
        obtain ⟨rfl, rfl, rfl⟩ := h
        refine ⟨some (.row 0 k (XC c'.toNat z)), rfl, by simp [nsite], by simp, ZbL, fun σ2 _ => ?_⟩
        simp only [execI, e1, e2, Zaf]
        try rw [if_pos hc]
      . cases h
    . cases h
  | bslice own k n z ps =>
    simp only [execI] at h
    split at h
    . cases h
    rename_i ys ts hv
    split at h
    case isFalse => cases h
    rename_i hc
    split at h
    . rename_i ho
      simp only [Xa, Xb] at h
      obtain ⟨rfl, rfl, rfl⟩ := h
      simp only at hw
      subst hw
      refine ⟨some (.row 0 k (((ps.map (·.1)).zip ys).foldl (fun l p => l.set p.1 p.2) (XC n z))), rfl, by simp [nsite, ho], by simp, ZbL, fun σ2 hA => ?_⟩
      simp only [execI, ZhD hv hA, Zaf, Zj]
      rw [if_pos hc, if_pos ho]
    . rename_i ho
      simp only [Xa, Xb] at h
      obtain ⟨rfl, rfl, rfl⟩ := h
      simp only at hw
      subst hw
      refine ⟨none, rfl, by simp, by simp, ZbL, fun σ2 hA => ?_⟩
      simp only [execI, ZhD hv hA, Zaf, Zj]
      rw [if_pos hc, if_neg ho]
  | rslice k n z ps =>
    simp only [execI] at h
    split at h
    case isFalse => cases h
    rename_i hc
    simp only [Xa, Xb] at h
    obtain ⟨rfl, rfl, rfl⟩ := h
    refine ⟨some (.rrow 0 k ((ps.map fun p => (p.1, p.2.ev tm)).foldl (fun l p => l.set p.1 p.2) (XC n z))), rfl, by simp [nsite], by simp, ZbL, fun σ2 hA => ?_⟩
    simp only [execI, Zaf]
    rw [if_pos hc]
  | rng x =>
    simp only [execI] at h
    split at h
    . rename_i l e
      simp only [Xa, Xb] at h
      obtain ⟨rfl, rfl, rfl⟩ := h
      exact ⟨some (.siter l 0), rfl, by simp [nsite], by simp, ZbL, fun σ2 _ => by simp only [execI, e, Zaf]⟩
    . cases h
  | mkmap =>
    simp only [execI, Xa, Xb] at h
    obtain ⟨rfl, rfl, rfl⟩ := h
    exact ⟨some (.map []), rfl, by simp [nsite], by simp, ZbL, fun σ2 _ => rfl⟩
  | mkrow x =>
    simp only [execI] at h
    repeat' split at h
    all_goals first
      | (cases h; done)
      | (simp only [Xa, Xb] at h
         obtain ⟨_, _, rfl⟩ := h
         cases ha)
  | mkbook x =>
    simp only [execI] at h
    split at h
    . rename_i e
      simp only [Xa, Xb] at h
      obtain ⟨rfl, rfl, rfl⟩ := h
      exact ⟨some (.book 0 []), rfl, by simp [nsite], by simp, ZbL, fun σ2 _ => by simp only [execI, e, Zaf]⟩
    . cases h
  | look kc z ok m k => simp only [execI] at h ⊢; exact Zl6 h
  | mlen m => simp only [execI] at h ⊢; exact Ztg h
  | mset kc m k v =>
    simp only [execI] at h
    unfold Zdh at h
    repeat' (split at h)
    all_goals first
      | (cases h; done)
      | (simp only [Xa, Xb] at h; rw [<- h.2.2] at hw; cases hw)
  | mdel kc m k =>
    simp only [execI] at h ⊢
    unfold ZdY at h
    split at h
    case isFalse => cases h
    rename_i hk
    split at h
    . rename_i e
      simp only [Xa, Xb] at h; obtain ⟨rfl, rfl, rfl⟩ := h
      refine Framed.pure rfl fun σ2 => ?_
      simp only [ZdY, e]
      rw [if_pos hk]
    . repeat' (split at h)
      all_goals first
        | (cases h; done)
        | (simp only [Xa, Xb] at h; rw [<- h.2.2] at hw; cases hw)
    . cases h
  | clr k z x =>
    simp only [execI] at h
    unfold ZI at h
    repeat' (split at h)
    all_goals first
      | (cases h; done)
      | (simp only [Xa, Xb] at h; rw [<- h.2.2] at hw; cases hw)
  | nxt x =>
    simp only [execI] at h
    repeat' (split at h)
    all_goals first
      | (cases h; done)
      | (simp only [Xa, Xb] at h; rw [<- h.2.2] at ha; cases ha)
  | ld k a => simp only [execI] at h ⊢; exact ZrX h
  | st k a x =>
    simp only [execI] at h
    unfold stA at h
    split at h
    . split at h
      . split at h
        . split at h
          . simp only [Xa, Xb] at h; rw [<- h.2.2] at hw; simp at hw
          . cases h
        . cases h
      . split at h
        . split at h
          . split at h
            . split at h
              . split at h
                . cases h
                . split at h
                  . simp only [Xa, Xb] at h; rw [<- h.2.2] at hw; simp at hw
                  . cases h
              . cases h
            . cases h
          . cases h
        . split at h
          . split at h
            . split at h
              . simp only [Xa, Xb] at h; rw [<- h.2.2] at hw; simp at hw
              . cases h
            . cases h
          . cases h
        . cases h
      . cases h
    . cases h
  | slice k x lo hi mx => simp only [execI] at h ⊢; exact ZpA h hw
  | iaddr k x i => simp only [execI] at h ⊢; exact Zyl h
  | app k b z x y => simp only [execI] at h ⊢; exact Zvh h hw ha
  | b2s x =>
    simp only [execI] at h
    split at h
    . rename_i xs ts he
      split at h
      . rename_i l hl
        simp only [Xa, Xb] at h
        obtain ⟨rfl, rfl, rfl⟩ := h
        refine ⟨none, rfl, by simp, by simp, (ZgF he).nonfree, fun σ2 hA => ?_⟩
        simp only [execI, ZdA he hA, hl, Zaf]
      . cases h
    . cases h
  | s2s x =>
    simp only [execI] at h
    split at h
    . split at h
      . split at h
        . simp only [Xa, Xb] at h; rw [<- h.2.2] at hw; simp at hw
        . cases h
      . cases h
    . cases h
  | call f own vw xs => simp only [execI] at h ⊢; exact Zln (fun ho => by simp [nsite, ho]) h hw ha
  | callv x xs =>
    simp only [execI] at h
    split at h
    . rename_i f caps e
      have := Zln (ns := nsite (.callv x xs)) (fun ho => absurd ho (by decide)) h hw ha
      have he : (fun σ => execI O bf tm σ sq (.callv x xs)) = fun σ => Zi O bf σ sq (if f < 1000000 then f else f - 1000000) 4 false (if f < 1000000 then xs.map (·.ev tm) ++ caps else caps ++ xs.map (·.ev tm)) := by funext σ; simp only [execI, e]
      rw [he]; exact this
    . cases h
  | mki t x =>
    simp only [execI] at h
    split at h
    . cases h
    . cases h
    . cases h
    . simp only [Xa, Xb] at h; obtain ⟨rfl, rfl, rfl⟩ := h; exact Framed.pure rfl (fun σ2 => by simp only [execI])
  | panic x =>
    simp only [execI] at h
    split at h
    . rename_i e; simp only [Xa, Xb] at h; obtain ⟨rfl, rfl, rfl⟩ := h; exact Framed.pure rfl (fun σ2 => by simp only [execI, e])
    . cases h
  | eqv neg ks x y =>
    simp only [execI] at h
    split at h
    . rename_i e1 e2
      split at h
      . rename_i e4
        split at h
        . rename_i e3; simp only [Xa, Xb] at h; obtain ⟨rfl, rfl, rfl⟩ := h; exact Framed.pure rfl (fun σ2 => by simp only [execI, e1, e2, e3, e4, if_true])
        . cases h
      . cases h
    . cases h
  | ieq neg x y =>
    simp only [execI] at h
    split at h
    . rename_i e1 e2; simp only [Xa, Xb] at h; obtain ⟨rfl, rfl, rfl⟩ := h; exact Framed.pure rfl (fun σ2 => by simp only [execI, e1, e2])
    . rename_i e1 e2; simp only [Xa, Xb] at h; obtain ⟨rfl, rfl, rfl⟩ := h; exact Framed.pure rfl (fun σ2 => by simp only [execI, e1, e2])
    . rename_i e1 e2; simp only [Xa, Xb] at h; obtain ⟨rfl, rfl, rfl⟩ := h; exact Framed.pure rfl (fun σ2 => by simp only [execI, e1, e2])
    . cases h
  | mov x => simp only [execI, Xa, Xb] at h; obtain ⟨rfl, rfl, rfl⟩ := h; exact Framed.pure rfl (fun σ2 => rfl)
  | mkfn f xs => simp only [execI, Xa, Xb] at h; obtain ⟨rfl, rfl, rfl⟩ := h; exact Framed.pure rfl (fun σ2 => rfl)
  | bin op x y =>
    simp only [execI] at h
    obtain ⟨rfl, rfl, hx⟩ := Zbw h
    exact Framed.pure rfl (fun σ2 => by simp only [execI, hx, XM])
  | un op x =>
    simp only [execI] at h
    obtain ⟨rfl, rfl, hx⟩ := Zbw h
    exact Framed.pure rfl (fun σ2 => by simp only [execI, hx, XM])
  | faddr off x =>
    simp only [execI] at h
    obtain ⟨rfl, rfl, hx⟩ := Zbw h
    exact Framed.pure rfl (fun σ2 => by simp only [execI, hx, XM])
  | pick a b d =>
    simp only [execI] at h
    unfold Zdn at h
    split at h
    . rename_i e; simp only [Xa, Xb] at h; obtain ⟨rfl, rfl, rfl⟩ := h; exact Framed.pure rfl (fun σ2 => by simp only [execI, Zdn, e])
    . rename_i e; simp only [Xa, Xb] at h; obtain ⟨rfl, rfl, rfl⟩ := h; exact Framed.pure rfl (fun σ2 => by simp only [execI, Zdn, e])
    . cases h
  | build zs ps =>
    simp only [execI] at h
    split at h
    . rename_i cs hf
      simp only [Xa, Xb] at h; obtain ⟨rfl, rfl, rfl⟩ := h
      exact Framed.pure rfl (fun σ2 => by simp only [execI, hf])
    . cases h
  | i2i k x =>
    simp only [execI] at h
    split at h
    . rename_i e; simp only [Xa, Xb] at h; obtain ⟨rfl, rfl, rfl⟩ := h; exact Framed.pure rfl (fun σ2 => by simp only [execI, e])
    . cases h
  | i2s x =>
    simp only [execI] at h
    split at h
    . rename_i e; simp only [Xa, Xb] at h; obtain ⟨rfl, rfl, rfl⟩ := h; exact Framed.pure rfl (fun σ2 => by simp only [execI, e])
    . cases h
  | same x =>
    simp only [execI] at h
    split at h
    . rename_i e; simp only [Xa, Xb] at h; obtain ⟨rfl, rfl, rfl⟩ := h; exact Framed.pure rfl (fun σ2 => by simp only [execI, e])
    . cases h
  | s2b x =>
    simp only [execI] at h
    split at h
    . rename_i e; simp only [Xa, Xb] at h; obtain ⟨rfl, rfl, rfl⟩ := h; exact Framed.pure rfl (fun σ2 => by simp only [execI, e])
    . cases h
  | sslice x lo hi =>
    simp only [execI] at h
    split at h
    . rename_i s e
      split at h
      . cases h
      rename_i h1 hh
      split at h
      . cases h
      rename_i l hl
      simp only [Xa, Xb] at h; obtain ⟨rfl, rfl, rfl⟩ := h
      exact Framed.pure rfl (fun σ2 => by simp only [execI, e, hh, hl])
    . cases h
  | field k off x =>
    simp only [execI] at h
    split at h
    . rename_i cs e
      obtain ⟨rfl, rfl, hx⟩ := Zbw h
      exact Framed.pure rfl (fun σ2 => by simp only [execI, e, hx, XM])
    . cases h
  | aaddr k n x i =>
    simp only [execI] at h
    split at h
    . rename_i e
      split at h
      . rename_i hc
        obtain ⟨rfl, rfl, hx⟩ := Zbw h
        exact Framed.pure rfl (fun σ2 => by simp only [execI, e]; rw [if_pos hc, hx]; rfl)
      . cases h
    . cases h
  | sindex x i =>
    simp only [execI] at h
    split at h
    . rename_i e1 e2
      split at h
      . rename_i hc
        simp only [Xh, Xb] at h
        obtain ⟨b, hb, rfl, rfl, rfl⟩ := h
        exact Framed.pure rfl (fun σ2 => by simp only [execI, e1, e2]; rw [if_pos hc, hb]; rfl)
      . cases h
    . cases h
  | aindex s k n x i =>
    simp only [execI] at h
    split at h
    . rename_i e1 e2
      split at h
      . rename_i hc
        obtain ⟨rfl, rfl, hx⟩ := Zbw h
        exact Framed.pure rfl (fun σ2 => by simp only [execI, e1, e2]; rw [if_pos hc, hx]; rfl)
      . cases h
    . cases h
  | ext x i =>
    simp only [execI] at h
    split at h
    . rename_i e
      obtain ⟨rfl, rfl, hx⟩ := Zbw h
      exact Framed.pure rfl (fun σ2 => by simp only [execI, e, hx, XM])
    . cases h
  | len x =>
    simp only [execI] at h
    split at h
    . rename_i e; simp only [Xa, Xb] at h; obtain ⟨rfl, rfl, rfl⟩ := h; exact Framed.pure rfl (fun σ2 => by simp only [execI, e])
    . rename_i e; simp only [Xa, Xb] at h; obtain ⟨rfl, rfl, rfl⟩ := h; exact Framed.pure rfl (fun σ2 => by simp only [execI, e])
    . cases h
  | slen x =>
    simp only [execI] at h
    split at h
    . rename_i e; simp only [Xa, Xb] at h; obtain ⟨rfl, rfl, rfl⟩ := h; exact Framed.pure rfl (fun σ2 => by simp only [execI, e])
    . cases h
  | mm m xs =>
    simp only [execI] at h
    split at h
    . rename_i e; simp only [Xa, Xb] at h; obtain ⟨rfl, rfl, rfl⟩ := h; exact Framed.pure rfl (fun σ2 => by simp only [execI, e])
    . cases h
  | nilchk x =>
    simp only [execI] at h
    split at h
    . rename_i e; simp only [Xa, Xb] at h; obtain ⟨rfl, rfl, rfl⟩ := h; exact Framed.pure rfl (fun σ2 => by simp only [execI, e])
    . rename_i e; simp only [Xa, Xb] at h; obtain ⟨rfl, rfl, rfl⟩ := h; exact Framed.pure rfl (fun σ2 => by simp only [execI, e])
    . rename_i e; simp only [Xa, Xb] at h; obtain ⟨rfl, rfl, rfl⟩ := h; exact Framed.pure rfl (fun σ2 => by simp only [execI, e])
    . cases h
  | beq neg x y =>
    simp only [execI] at h
    split at h
    . rename_i e1 e2; simp only [Xa, Xb] at h; obtain ⟨rfl, rfl, rfl⟩ := h; exact Framed.pure rfl (fun σ2 => by simp only [execI, e1, e2])
    . cases h
  | peq neg x y =>
    simp only [execI] at h
    split at h
    . rename_i e1 e2; simp only [Xa, Xb] at h; obtain ⟨rfl, rfl, rfl⟩ := h; exact Framed.pure rfl (fun σ2 => by simp only [execI, e1, e2])
    . rename_i e1 e2; simp only [Xa, Xb] at h; obtain ⟨rfl, rfl, rfl⟩ := h; exact Framed.pure rfl (fun σ2 => by simp only [execI, e1, e2])
    . rename_i e1 e2; simp only [Xa, Xb] at h; obtain ⟨rfl, rfl, rfl⟩ := h; exact Framed.pure rfl (fun σ2 => by simp only [execI, e1, e2])
    . cases h
theorem Zwh {ins:Ins} {v:AVal} {c:Cls} (ht:ins.touches=false) (h:execI O bf tm σ sq ins=some (v,σ',c)):c={}/\nsite ins=0:=by
 cases ins <;> simp [Ins.touches] at ht <;> refine ⟨?_,rfl⟩ <;> simp only [execI] at h
 case mov x=>simp only [Xa,Xb] at h;exact h.2.2.symm
 case mkfn f xs=>simp only [Xa,Xb] at h;exact h.2.2.symm
 case bin op x y=>exact (Zbw h).2.1
 case un op x=>exact (Zbw h).2.1
 case faddr off x=>exact (Zbw h).2.1
 case pick c x y =>
  unfold Zdn at h
  split at h
  ·simp only [Xa,Xb] at h;exact h.2.2.symm
  ·simp only [Xa,Xb] at h;exact h.2.2.symm
  ·cases h
 all_goals
  repeat' (split at h)
  all_goals first
   | (cases h;done)
   | (simp only [Xa,Xb] at h;exact h.2.2.symm)
   | exact (Zbw h).2.1
   | (simp only [Xh,Xb] at h;obtain ⟨_,_,_,_,h⟩:=h;exact h.symm)
theorem ZwF {ins:Ins} {v:AVal} {c:Cls} (ht:ins.touches=false) (h:execI O bf tm σ sq ins=some (v,σ',c)):σ'=σ:=by
 cases ins <;> simp [Ins.touches] at ht <;> simp only [execI] at h
 case mov x=>simp only [Xa,Xb] at h;exact h.2.1.symm
 case mkfn f xs=>simp only [Xa,Xb] at h;exact h.2.1.symm
 case bin op x y=>exact (Zbw h).1
 case un op x=>exact (Zbw h).1
 case faddr off x=>exact (Zbw h).1
 case pick c x y =>
  unfold Zdn at h
  split at h
  ·simp only [Xa,Xb] at h;exact h.2.1.symm
  ·simp only [Xa,Xb] at h;exact h.2.1.symm
  ·cases h
 all_goals
  repeat' (split at h)
  all_goals first
   | (cases h;done)
   | (simp only [Xa,Xb] at h;exact h.2.1.symm)
   | exact (Zbw h).1
   | (simp only [Xh,Xb] at h;obtain ⟨_,_,_,h,_⟩:=h;exact h.symm)
end
end
section
open Go.RowKit
section
variable {O:Zq} {bf:Nat->Bool} {tm:Tms} {σ σ':Za} {sq s:Nat} {b:Zf}
theorem ZdV:∀ (ts:List Nat) (σ:Za),(Zj σ ts)[s]?=some .free↔σ[s]?=some .free
 | [],σ=>XaN
 | t::ts,σ=>by
  simp only [Zj]
  split
  ·rename_i g k xs hs
   rw [ZdV ts,Xj]
   split
   ·rename_i e;subst e
    split
    ·simp [hs]
    ·simp [hs]
   ·exact XaN
  ·exact ZdV ts σ
theorem ZhZ {cs:List AVal} {t:Nat}:∀ (ts:List Nat) (σ:Za),σ[t]?=some (.var cs)->(Zj σ ts)[t]?=some (.var cs)
 | [],σ,h=>h
 | u::ts,σ,h=>by
  simp only [Zj]
  split
  ·rename_i g k xs hs
   refine ZhZ ts _ ?_
   rw [Xj]
   split
   ·rename_i e;subst e;rw [hs] at h;cases h
   ·exact h
  ·exact ZhZ ts σ h
theorem Zhn:∀ (ts:List Nat) (σ:Za),s ∉ ts->Zj (σ.set s b) ts=(Zj σ ts).set s b
 | [],σ,_=>rfl
 | t::ts,σ,h=>by
  simp only [XG,not_or] at h
  have e:(σ.set s b)[t]?=σ[t]?:=by rw [Xj,if_neg h.1]
  simp only [Zj,e]
  split
  ·rw [WN _ _ h.1,Zhn ts _ h.2]
  ·exact Zhn ts σ h.2
theorem Zem {t:Nat} (h:s≠t):(σ.set s b).getD t .free=σ.getD t .free:=by
 rw [Xd,Xd,Xj,if_neg h]
theorem ZhR:∀ (n:Nat) (todo acc:List Nat),∀ x ∈ acc,x ∈ Zn σ n todo acc
 | 0,_,acc,x,h=>h
 | n+1,[],acc,x,h=>h
 | n+1,t::todo,acc,x,h=>by
  simp only [Zn]
  split
  ·exact ZhR n todo acc x h
  ·exact ZhR n _ _ x (by simp [h])
theorem ZhM:∀ (n:Nat) (todo acc:List Nat),s ∉ Zn σ n todo acc->Zn (σ.set s b) n todo acc=Zn σ n todo acc
 | 0,_,acc,_=>rfl
 | n+1,[],acc,_=>rfl
 | n+1,t::todo,acc,h=>by
  simp only [Zn] at h ⊢
  split
  ·rename_i hc;rw [if_pos hc] at h;exact ZhM n todo acc h
  ·rename_i hc
   rw [if_neg hc] at h
   have hne:s≠t:=by
    rintro rfl
    exact h (ZhR n _ _ s (by simp))
   rw [Zem hne]
   exact ZhM n _ _ h
theorem Zyf {m:Nat} {ids:List Nat} (h:s ∉ ids):Zg (σ.set s b) m ids=Zg σ m ids:=by
 funext t g
 unfold Zg
 split
 ·rename_i j hj
  obtain ⟨k,_,hk⟩:=Zg0 hj
  have : s≠t:=by rintro rfl;exact h (Xq hk)
  rw [Xj,if_neg this]
 ·rfl
theorem Zi0 {m:Nat} {ids:List Nat} {ρ:Rho}:∀ (ts:List Nat) (j:Nat),s ∉ ts->Zm (σ.set s b) m ids ρ ts j=Zm σ m ids ρ ts j
 | [],_,_=>rfl
 | t::ts,j,h=>by
  simp only [XG,not_or] at h
  simp only [Zm,Zem h.1,Zi0 ts (j+1) h.2]
theorem ZkC {ids:List Nat} (h:s ∉ ids):∀ (hp:Za) (j:Nat),Zbq (σ.set s b) ids hp j=Zbq σ ids hp j
 | [],_=>rfl
 | x::xs,j=>by
  simp only [Zbq,ZkC h xs (j+1)]
  congr 2
  split
  ·rename_i t ht
   have : s≠t:=by rintro rfl;exact h (Xq ht)
   rw [Zem this]
  ·rfl
theorem Zlm:∀ (n sq:Nat),(∀ i,i < n->sq+i≠s)->Zb0 (σ.set s b) sq n=Zb0 σ sq n
 | 0,_,_=>rfl
 | n+1,sq,h=>by
  have h0:=h 0 (by omega)
  simp only [Zb0,freeAt]
  rw [Xj,if_neg (by intro e;exact h0 (by simpa using e.symm)),Zlm n (sq+1) (fun i hi=>by have:=h (i+1) (by omega);rwa [show sq+1+i=sq+(i+1) by omega])]
theorem Zlh {ids:List Nat} (h:s ∉ ids):ZaC (σ.set s b) ids sq=ZaC σ ids sq:=by
 funext j g
 unfold ZaC
 split
 ·rename_i t ht
  have : s≠t:=by rintro rfl;exact h (Xq ht)
  rw [Zem this]
 ·rfl
theorem ZkH {σ0:Za} {ids:List Nat} (h:s ∉ ids):∀ (hp:Za) (j:Nat) (σ:Za),(∀ i,i < hp.length->Zaq ids sq (j+i)≠s)->ZaR (σ0.set s b) ids sq hp j (σ.set s b)=(ZaR σ0 ids sq hp j σ).set s b
 | [],_,_,_=>rfl
 | x::xs,j,σ,hn=>by
  have h0:=hn 0 (by simp)
  simp only [X4] at h0
  have eg:Zbu (σ0.set s b) ids j x=Zbu σ0 ids j x:=by
   unfold Zbu
   split
   ·rename_i t ht
    have : s≠t:=by rintro rfl;exact h (Xq ht)
    rw [Zem this]
   ·rfl
  simp only [ZaR,Zlh h,eg]
  rw [WN _ _ (Ne.symm h0)]
  exact ZkH h xs (j+1) _ (fun i hi=>by have:=hn (i+1) (by simp;omega);rwa [show j+1+i=j+(i+1) by omega])
theorem Zj6:∀ (ids:List Nat),s ∉ ids->Zby (σ.set s b) ids=Zby σ ids
 | [],_=>rfl
 | t::ts,h=>by
  simp only [XG,not_or] at h
  simp only [Zby,Xj,if_neg h.1,Zj6 ts h.2]
theorem Zv0 {ρ:Rho} {g:Nat} {x:Zf} (h:okB x=true):Zo ρ g x≠.free:=by
 cases x <;> simp [okB] at h <;> simp [Zo]
theorem Ziw {σ0:Za} {ids:List Nat}:∀ (hp:Za) (j:Nat) (σ:Za),Zbq σ0 ids hp j=true->(ZaR σ0 ids sq hp j σ)[s]?=some .free->σ[s]?=some .free
 | [],_,_,_,h=>h
 | x::xs,j,σ,hk,h=>by
  simp only [Zbq,Xc] at hk
  simp only [ZaR] at h
  have:=Ziw xs (j+1) _ hk.2 h
  rw [Xj] at this
  split at this
  ·split at this
   ·injection this with this;exact absurd this (Zv0 hk.1.1)
   ·cases this
  ·exact this
theorem ZvB {ts:List Nat} (h:ZcK σ ts) (hs:σ[s]?=some .free):s ∉ ts:=by
 intro hm
 obtain ⟨x,hx,hne⟩:=h s hm
 rw [hs] at hx;injection hx with hx;exact hne hx.symm
theorem Zi9 {f own:Nat} {view:Bool} {args:List AVal} {v:AVal} {c:Cls} (h:Zi O bf σ sq f own view args=some (v,σ',c)) (hs':σ'[s]?=some .free) (hne:∀ i,i < own->sq+i≠s) :
  σ[s]?=some .free/\Zi O bf (σ.set s b) sq f own view args=some (v,σ'.set s b,c):=by
 unfold Zi at h
 split at h
 ·cases h
 rename_i xs ts hsh
 have hnf:ZcK σ ts:=by
  unfold Zbx at hsh
  split at hsh
  ·simp only [Xa,Xb] at hsh
   rw [<-hsh.2];exact ZbL
  ·exact (ZfC hsh).nonfree
 have hag:∀ σ2,Agree σ σ2 ts->Zbx (bf f) σ2 args=some (xs,ts):=by
  intro σ2 hA
  unfold Zbx at hsh ⊢
  split at hsh
  ·rename_i hb;rw [if_pos hb];exact hsh
  ·rename_i hb;rw [if_neg hb];exact Zg4 hsh hA
 generalize hids:Zn (Zj σ ts) 1000 (ZM xs) []=ids at h
 unfold Za5 at h
 split at h
 case isFalse=>cases h
 rename_i hall
 generalize hq:Zat view ids.length (O f (ZG (Zg (Zj σ ts) 0 ids) xs) (Zm (Zj σ ts) 0 ids (Zg (Zj σ ts) 0 ids) ids 0))=q at h
 have key:σ[s]?=some .free->s ∉ ts/\s ∉ ids/\Zi O bf (σ.set s b) sq f own view args=Zal (σ.set s b) ((Zj σ ts).set s b) ids ts sq own q:=by
  intro hs
  have n1:=ZvB hnf hs
  have hsf:(Zj σ ts)[s]?=some .free:=(ZdV ts σ).2 hs
  have n2:s ∉ ids:=by
   intro hm
   have:=Xv.1 hall s hm
   rw [Xd,hsf] at this
   simp [okB] at this
  refine ⟨n1,n2,?_⟩
  unfold Zi
  rw [hag _ (fun t ht=>by rw [Xj,if_neg (by rintro rfl;exact n1 ht)])]
  simp only
  rw [Zhn ts σ n1,ZhM _ _ _ (by rw [hids];exact n2),hids]
  unfold Za5
  have hall2:(ids.all fun t=>okB (((Zj σ ts).set s b).getD t .free))=true:=by
   rw [Xv] at hall ⊢
   intro t ht
   rw [Zem (by rintro rfl;exact n2 ht)]
   exact hall t ht
  rw [if_pos hall2,Zyf n2,Zi0 ids 0 n2,hq]
 cases q with
 | none=>simp only [Zal] at h;cases h
 | some q =>
  obtain ⟨r,hp⟩:=q
  simp only [Zal] at h
  split at h
  ·rename_i hc
   split at h
   ·rename_i hf
    simp only [Xa,Xb] at h
    obtain ⟨rfl,rfl,rfl⟩:=h
    obtain ⟨n1,n2,k⟩:=key hs'
    refine ⟨hs',?_⟩
    rw [k]
    simp only [Zal,hc,if_true,hf]
   split at h
   ·rename_i hf hap
    simp only [Xa,Xb] at h
    obtain ⟨rfl,rfl,rfl⟩:=h
    obtain ⟨n1,n2,k⟩:=key hs'
    refine ⟨hs',?_⟩
    have hap2:Zb9 (σ.set s b) ts r=true:=by
     unfold Zb9 at hap ⊢
     simp only [Xc] at hap ⊢
     refine ⟨hap.1,Xv.2 fun t ht=>?_⟩
     have:=Xv.1 hap.2 t ht
     unfold Zdt at this ⊢
     rw [Xj,if_neg (by rintro rfl;exact n1 ht)];exact this
    rw [k]
    simp only [Zal,hc,if_true,hf,hap2,if_false,Xg]
   ·rename_i hf hap
    simp only [Xa,Xb] at h
    obtain ⟨rfl,rfl,rfl⟩:=h
    have hs:=(ZdV ts σ).1 hs'
    obtain ⟨n1,n2,k⟩:=key hs
    refine ⟨hs,?_⟩
    have hap2:¬Zb9 (σ.set s b) ts r=true:=by
     intro h2
     refine hap ?_
     unfold Zb9 at h2 ⊢
     simp only [Xc] at h2 ⊢
     refine ⟨h2.1,Xv.2 fun t ht=>?_⟩
     have:=Xv.1 h2.2 t ht
     unfold Zdt at this ⊢
     rw [Xj,if_neg (by rintro rfl;exact n1 ht)] at this;exact this
    rw [k]
    simp only [Zal,hc,if_true,hf,if_neg hap2,if_false,Xg]
  ·rename_i hc
   split at h
   ·rename_i lo n k xs' hcl
    simp only [Xa,Xb] at h
    obtain ⟨rfl,rfl,rfl⟩:=h
    have hown:own=1:=by
     split at hcl
     case isFalse=>cases hcl
     unfold Zeo at hcl
     split at hcl
     case h_2=>cases hcl
     split at hcl
     case isFalse=>cases hcl
     rename_i hcc
     simp only [Xc,decide_eq_true_eq] at hcc
     exact hcc.1
    have hns:sq≠s:=by have:=hne 0 (by omega);simpa using this
    have hs:σ[s]?=some .free:=by rwa [Xj,if_neg hns] at hs'
    obtain ⟨n1,n2,kk⟩:=key hs
    refine ⟨hs,?_⟩
    rw [kk]
    simp only [Zal]
    rw [if_neg hc,hcl]
    simp only
    rw [WN _ _ (Ne.symm hns)]
   split at h
   ·rename_i hcl hcc
    simp only [Xa,Xb] at h
    obtain ⟨rfl,rfl,rfl⟩:=h
    simp only [Xc,decide_eq_true_eq] at hcc
    obtain ⟨⟨⟨c1,c2⟩,c3⟩,c4⟩:=hcc
    have hs:=(ZdV ts σ).1 (Ziw hp 0 _ c3 hs')
    obtain ⟨n1,n2,kk⟩:=key hs
    refine ⟨hs,?_⟩
    rw [kk]
    have htg:∀ i,i < hp.length->Zaq ids sq (0+i)≠s:=by
     intro i hi e
     rw [XD] at e
     unfold Zaq at e
     rw [Xd] at e
     rcases Xae i ids.length with hl | hl
     ·rw [Xz hl] at e
      simp only [WF] at e
      exact n2 (e ▸ WM hl)
     ·rw [XT hl] at e
      exact hne (i - ids.length) (by omega) e
    simp only [Zal]
    rw [if_neg hc,hcl]
    simp only [c1,c2,decide_true,Bool.true_and,ZkC n2,c3,Zlm own sq hne,c4,WI,if_true,Zlh n2,ZkH n2 hp 0 _ htg,Zj6 ids n2]
   ·cases h
theorem ZmP {f own:Nat} {view:Bool} {args:List AVal} {v:AVal} {c:Cls} (h:Zi O bf σ sq f own view args=some (v,σ',c)) (hs:σ'[s]?=some .free):σ[s]?=some .free:=by
 unfold Zi at h
 split at h
 ·cases h
 rename_i xs ts hsh
 unfold Za5 at h
 split at h
 case isFalse=>cases h
 generalize Zn (Zj σ ts) 1000 (ZM xs) []=ids at h
 generalize Zat view ids.length (O f (ZG (Zg (Zj σ ts) 0 ids) xs) (Zm (Zj σ ts) 0 ids (Zg (Zj σ ts) 0 ids) ids 0))=q at h
 cases q with
 | none=>simp only [Zal] at h;cases h
 | some q =>
  obtain ⟨r,hp⟩:=q
  simp only [Zal] at h
  split at h
  ·split at h
   ·simp only [Xa,Xb] at h
    rw [h.2.1];exact hs
   split at h
   ·simp only [Xa,Xb] at h
    rw [h.2.1];exact hs
   ·simp only [Xa,Xb] at h
    rw [<-h.2.1] at hs
    exact (ZdV ts σ).1 hs
  ·split at h
   ·simp only [Xa,Xb] at h
    rw [<-h.2.1,Xj] at hs
    split at hs
    ·split at hs <;> simp at hs
    ·exact hs
   split at h
   ·rename_i hcc
    simp only [Xa,Xb] at h
    rw [<-h.2.1] at hs
    simp only [Xc,decide_eq_true_eq] at hcc
    exact (ZdV ts σ).1 (Ziw hp 0 _ hcc.1.2 hs)
   ·cases h
theorem Zim {t:Nat} {cs:List AVal}:∀ {ids:List Nat},(Zby σ ids).lookup t=some cs->σ[t]?=some (.var cs)
 | [],h=>by simp [Zby] at h
 | u::us,h=>by
  simp only [Zby] at h
  split at h
  ·rename_i cs' hu
   rw [We] at h
   split at h
   ·rename_i e
    injection h with h;subst h
    have : t=u:=by simpa using e
    rw [this];exact hu
   ·exact Zim h
  ·exact Zim h
theorem Zgs {t:Nat} {cs:List AVal}:∀ {ids:List Nat},(Zby σ ids).lookup t=none->t ∈ ids->σ[t]?≠some (.var cs)
 | u::us,h,hm=>by
  intro hv
  simp only [Zby] at h
  rcases XG.1 hm with e | hm
  ·subst e
   rw [hv] at h
   simp only [We,beq_self_eq_true] at h
   cases h
  ·split at h
   ·rw [We] at h
    split at h
    ·cases h
    ·exact Zgs h hm hv
   ·exact Zgs h hm hv
theorem Zj0 {σ0:Za} {ids:List Nat} {t:Nat}:∀ (hp:Za) (j:Nat) (σ:Za),(∀ i x,hp[i]?=some x->Zaq ids sq (j+i)=t->∃ cs,x=.var cs)->(∃ cs,σ[t]?=some (.var cs))->∃ cs,(ZaR σ0 ids sq hp j σ)[t]?=some (.var cs)
 | [],_,_,_,h=>h
 | x::xs,j,σ,hv,⟨cs,h⟩=>by
  simp only [ZaR]
  refine Zj0 xs (j+1) _ (fun i y hy e=>hv (i+1) y (by simpa using hy) (by rwa [show j+(i+1)=j+1+i by omega])) ?_
  rw [Xj]
  split
  ·rename_i e
   obtain ⟨cs',rfl⟩:=hv 0 x rfl (by simpa using e)
   split
   ·exact ⟨_,rfl⟩
   ·rename_i hl
    rw [e] at hl
    rw [XT (by omega)] at h;cases h
  ·exact ⟨cs,h⟩
theorem ZpK {f own:Nat} {view:Bool} {args:List AVal} {v:AVal} {c:Cls} (h:Zi O bf σ sq f own view args=some (v,σ',c)) (ha:c.any=true) {t:Nat} {cs:List AVal} (ht:σ[t]?=some (.var cs)) :
  (c.upd.lookup t=none->σ'[t]?=some (.var cs))/\(∀ cs2,c.upd.lookup t=some cs2->σ'[t]?=some (.var cs2)):=by
 unfold Zi at h
 split at h
 ·cases h
 rename_i xs ts hsh
 generalize hids:Zn (Zj σ ts) 1000 (ZM xs) []=ids at h
 unfold Za5 at h
 split at h
 case isFalse=>cases h
 generalize Zat view ids.length (O f (ZG (Zg (Zj σ ts) 0 ids) xs) (Zm (Zj σ ts) 0 ids (Zg (Zj σ ts) 0 ids) ids 0))=q at h
 cases q with
 | none=>simp only [Zal] at h;cases h
 | some q =>
  obtain ⟨r,hp⟩:=q
  simp only [Zal] at h
  split at h
  ·split at h
   ·simp only [Xa,Xb] at h
    rw [<-h.2.2] at ha;cases ha
   split at h
   ·simp only [Xa,Xb] at h
    rw [<-h.2.2] at ha;cases ha
   ·simp only [Xa,Xb] at h
    rw [<-h.2.2] at ha;cases ha
  ·split at h
   ·simp only [Xa,Xb] at h
    rw [<-h.2.2] at ha;cases ha
   split at h
   ·rename_i hcc
    simp only [Xa,Xb] at h
    obtain ⟨_,rfl,rfl⟩:=h
    simp only [Xc,decide_eq_true_eq] at hcc
    obtain ⟨⟨⟨c1,c2⟩,c3⟩,c4⟩:=hcc
    have hf:=ZhZ ts σ ht
    refine ⟨fun hn=>?_,fun cs2 hc2=>Zim hc2⟩
    have tgt:∀ i,i < hp.length->Zaq ids sq (0+i)=t->i < ids.length/\ids[i]?=some t:=by
     intro i hi e
     rw [XD] at e
     unfold Zaq at e
     rw [Xd] at e
     rcases Xae i ids.length with hl | hl
     ·rw [Xz hl] at e ⊢
      simp only [WF] at e
      exact ⟨hl,by rw [e]⟩
     ·rw [XT hl] at e
      simp only [Xar] at e
      have:=ZeU c4 (i:=i - ids.length) (by omega)
      rw [e,hf] at this;cases this
    by_cases hm:t ∈ ids
    ·exfalso
     obtain ⟨cs3,h3⟩:=Zj0 (σ0:=Zj σ ts) (sq:=sq) (ids:=ids) (t:=t) hp 0 (Zj σ ts) (fun i x hx e=>by
      obtain ⟨hl,hi⟩:=tgt i (Xe.1 hx).1 e
      have:=(Zdv c3 hx).2
      rw [XD,hi] at this
      simp only at this
      have hk:=this.1
      rw [Xd,hf] at hk
      simp only [WF] at hk
      cases x <;> simp [Zdx] at hk
      exact ⟨_,rfl⟩) ⟨_,hf⟩
     exact Zgs hn hm h3
    ·rw [Zfn (fun i hi e=>hm (by
      obtain ⟨hl,hi⟩:=tgt i hi e
      exact Xq hi))]
     exact hf
   ·cases h
end
end
end Go.Proofs.YtagamgebijflnaaDoor
