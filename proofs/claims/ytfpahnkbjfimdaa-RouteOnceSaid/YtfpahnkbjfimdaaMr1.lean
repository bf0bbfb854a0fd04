/- packed -/
import Derived.Test.YtfpahnkbjfimdaaMr0
import Derived.Laws.StructEq
import Derived.Laws.Small
set_option linter.unusedSimpArgs false
set_option linter.unusedVariables false
open Option.some renaming injEq→Xa,inj→Xas
open Prod.mk renaming injEq→Xb
open List renaming getElem?_eq_some_iff→Xd,getD_eq_getElem?_getD→Xj,getElem?_set→Xk,all_nil→Xo,mem_of_getElem?→Xs,map_cons→Xu,mem_append→Xv,length_cons→Xx,length_append→Xy,getElem?_eq_getElem→XB,getElem?_cons_zero→XI,mem_map→XJ,mem_cons→XL,all_eq_true→XM,replicate→XO,length_map→XP,getElem?_take→XQ,flatMap_cons→XT,getElem?_eq_none→XV,getElem?_cons_succ→XW,getElem?_map→XX,mem_singleton→XZ,map_nil→X0,length_take→X3,getElem?_eq_none_iff→X4,mem_or_eq_of_mem_set→X5,ext_getElem?→X7,eq_of_mem_replicate→Wb,map_append→Wc,zip_cons_cons→Wd,mem_flatMap→Wh,nodup_cons→Wi,mem_cons_of_mem→Wk,take_of_length_le→Wq,filterMap_cons→Wt,getElem?_append→Wz,map_map→WB,mem_of_mem_take→WI,range→WJ,map_congr_left→WS,mem_filterMap→W4,set_cons_succ→W5,take_take→W7,getElem?_zip_eq_some→W8,nodup_append→Xac,mem_of_mem_eraseIdx→Xad,length_eq_zero_iff→Xah,isEmpty_iff→Xak,set_cons_zero→Xan,isEmpty_nil→Xay,sublist_cons_self→XaF,set_set→XaH,map_eq_nil_iff→XaR,map_set→XaT,getElem?_inj→XaW,drop_drop→Xa8
open Bool renaming and_eq_true→Xl,false_eq_true→Xz,and_self→XaD
open Option renaming map_eq_some_iff→Xn,map_some→XU,bind_some→X9,getD_none→Xax
open Or renaming inl→Xw,inr→XE
open Array renaming getElem?_eq_some_iff→XD,length_toList→XS,getElem?_setIfInBounds_ne→We,getElem?_setIfInBounds_self_of_lt→Wn,getElem?_toList→Wo,getElem?_modify→WO,toList_push→WP,range→WW,ext'→Xa7
open Nat renaming zero_add→XF,le_refl→XR,mul_le_mul_right→Wf,add_mul→Wg,add_zero→Wm,add_assoc→WH,min_eq_left→WU,lt_or_ge→XaA,add_comm→XaG,mul_le_mul_left→XaQ
open ByteArray renaming size→WL
open Ne renaming symm→WY
open List.cons renaming injEq→Xae
open List.Sublist renaming refl→Xau
open Sum renaming inr→Xbd
namespace Go.Proofs.Ytfpahnkbjfimdaa
set_option maxHeartbeats 16000000
set_option maxRecDepth 10000
section
open Go.RowKit
section
variable {P:Program} {base:Nat->Prop} {w0 w w':World} {I0 I I':Imm} {β β':Bmap} {σ σ':Za} {tm:Tms}
theorem Zji {a:Act} (T:TR I β tm a.tmps):∀ {parts:List (Nat×Operand)} {ps:List (Nat×Opd)},Zfk parts=some ps ->
  (parts.map fun (i,x)=>(i,a.eval x))=(ps.map (·.1)).zip (parts.map fun p=>a.eval p.2)/\VRs I β (ps.map fun p=>p.2.ev tm) (parts.map fun p=>a.eval p.2)/\ps.length=parts.length
 | [],ps,h=>by simp only [Zfk,Xa] at h;subst h;exact ⟨rfl,by simp [VRs],rfl⟩
 | (i,x)::r,ps,h=>by
  simp only [Zfk] at h
  split at h
  ·rename_i y ps' hy hps
   injection h with h;subst h
   obtain ⟨h1,h2,h3⟩:=Zji T hps
   refine ⟨by simp [h1],?_,by simp [h3]⟩
   simp only [Xu,VRs]
   exact ⟨_,_,rfl,Z8 T hy,h2⟩
  ·cases h
theorem Zgd {t:TypeId} {k bytes:Nat} {z:AVal} (h:Zds P t=some (k,bytes,z)):∃ e i v,P.underlying t=some (.slice e)/\P.info? e=some i/\i.size=k/\i.bytes=bytes/\i.zero=some v/\Ze6 v=some z/\0 < k/\0 < bytes/\z.cells.length=k:=by
 unfold Zds at h
 split at h
 ·rename_i e hu
  split at h
  ·rename_i i z' hi hz
   split at h
   ·rename_i hc
    simp only [Xa,Xb] at h
    obtain ⟨rfl,rfl,rfl⟩:=h
    unfold ZcP at hz
    rw [hi] at hz
    simp only at hz
    split at hz
    ·rename_i v hv
     exact ⟨e,i,v,hu,hi,rfl,rfl,hv,hz,hc.1,hc.2.1,hc.2.2⟩
    ·cases hz
   ·cases h
  ·cases h
 ·cases h
theorem Zws {k:Nat} {xs:List AVal} {us:Array Value} (hk:∀ x ∈ xs,x.cells.length=k) (hv:VRs I β (xs.flatMap AVal.cells) us.toList) (hI:I.le (I.add w.heap.size us)):LR (I.add w.heap.size us) β k xs w.heap.size 0 :=
 ZfL hk (VRs.mono hI (Bmap.le.refl β) _ _ hv) (fun j u hu=>by simp only [Imm.add,XF,if_true];simpa using hu)
theorem ZsZ {a:Act} (T:TR I β tm a.tmps) (R:Rel base w0 I0 I β σ w) (hb:KLt base w0) {t:TypeId} {n:Nat} {parts:Array (Nat×Operand)} {k bytes:Nat} {z:AVal} {own:Bool} {ps:List (Nat×Opd)} (he:Zds P t=some (k,bytes,z)) (hn:n*k<=16777216) (hps:Zfk parts.toList=some ps)
  {sq:Nat} (hs:own=true->σ[sq]?=some .free) {O:ZZ} {pure':Nat->Bool} {r:AVal} {c:Cls} (h:execI O pure' tm σ sq (.bslice own k n z ps)=some (r,σ',c)) :
  ∃ u w',(Instr.buildSlice t n (parts.map fun (i,x)=>(i,a.eval x))).run P w=.ok u w'/\Post base w0 I0 I β r σ' u w':=by
 obtain ⟨e,i,v,hu,hi,hik,hib,hv,hz,hk,hby,hzl⟩:=Zgd he
 obtain ⟨hz1,hz2⟩:=Zd4 (I:=I) (β:=β) hz
 simp only [execI] at h
 split at h
 ·cases h
 rename_i ys ts hview
 split at h
 case isFalse=>cases h
 rename_i hc
 simp only [Xl,XM,beq_iff_eq,decide_eq_true_eq] at hc
 obtain ⟨⟨hy,hidx⟩,_⟩:=hc
 obtain ⟨c1,c2,c3⟩:=Zji (a:=a) T hps
 obtain ⟨I1,hI1,R1,hal,_,hfz,_,hoth,_⟩:=Zfw ts R
 obtain ⟨v1,v2⟩:=Zjn R1 (hfz (ZgW hview)) (by rw [hal.viewAs];exact hview) (c2.mono hI1 (Bmap.le.refl β) _ _)
 have hyl:(ps.map (·.1)).length=ys.length:=by rw [Zaa v1];simp [c3]
 obtain ⟨cells',g1,g2,g3,g4,g5⟩:=ZjM (I:=I1) (β:=β) (k:=k) (is:=ps.map (·.1)) (ys:=ys) (vs:=parts.toList.map fun p=>a.eval p.2) (xs:=XO n z) (cells:=(WW (n*k)).map (v.cells[· % v.cells.size]!)) hyl (fun y hy=>Zq2 (v2 y hy)) v1 hy
  (by intro j hj;simp only [XJ] at hj;obtain ⟨p,hp,rfl⟩:=hj;simpa using hidx p hp) (by intro x hx;rw [Wb hx];exact hzl) (Zh4 (Zd2 hz) (hz1.mono hI1 (Bmap.le.refl β) _ _) hzl hk n)
 have hrun:(Instr.buildSlice t n (parts.map fun (i,x)=>(i,a.eval x))).run P w=.ok (.slice (some ⟨w.heap.size,0,none⟩) n n) { w with heap:=w.heap.push (.cells cells' e) }:=by
  have hpl:(parts.map fun (i,x)=>(i,a.eval x)).toList=(ps.map (·.1)).zip (parts.toList.map fun p=>a.eval p.2):=by rw [<-c1];simp
  have hle:¬16777216 < n*i.size:=by rw [hik];omega
  have hle':¬2 ^ 24 < n*k:=by omega
  by_cases hn0:n*k=0
  ·have hr0:WW 0=#[]:=rfl
   have g1':Instr.fill (fun i=>some (i*k,k)) #[] ((ps.map (·.1)).zip (parts.toList.map fun p=>a.eval p.2))=some cells':=by
    rw [hn0,hr0] at g1;simpa using g1
   simp only [Instr.buildSlice,Sem.run_bind,run_underlying hu,Result.andThen_ok,sizeOf,typeInfo,run_program,hi,Sem.run_pure,Sem.run_ite,hik,hn0,hpl]
   simp [hr0,g1',newRow]
  ·simp only [Instr.buildSlice,Sem.run_bind,run_underlying hu,Result.andThen_ok,sizeOf,typeInfo,run_program,hi,Sem.run_pure,Sem.run_ite,hik,hn0,hpl,zeroValue,hv,if_false]
   simp [show ¬16777216 < n*k by omega,hn0,g1,newRow,hv]
 have htree:Z4 (((ps.map (·.1)).zip ys).foldl (fun l p=>l.set p.1 p.2) (XO n z))=true:=by
  have aux:∀ (l:List (Nat×AVal)) (xs:List AVal),(∀ p ∈ l,Zaf p.2.cells=true)->Z4 xs=true->Z4 (l.foldl (fun l p=>l.set p.1 p.2) xs)=true:=by
   intro l
   induction l with
   | nil=>intro xs _ h;exact h
   | cons p l ih =>
    intro xs hp hx
    refine ih _ (fun q hq=>hp q (by simp [hq])) ?_
    rw [Zb8] at hx ⊢
    intro x hm
    rcases X5 hm with hm | rfl
    ·exact hx x hm
    ·exact hp p (by simp)
  refine aux _ _ (fun p hp=>v2 p.2 (List.of_mem_zip hp).2) ?_
  rw [Zb8];intro x hx;rw [Wb hx];exact hz2
 have hcs:cells'.size=n*k:=by rw [g5];simp
 have hn63:n<=9223372036854775807:=by
  have : n*1<=n*k:=XaQ n hk
  omega
 generalize ((ps.map (·.1)).zip ys).foldl (fun l p=>l.set p.1 p.2) (XO n z)=xs at *
 have hxl:xs.length=n:=by rw [g4];simp
 split at h
 ·rename_i ho
  simp only [Xa,Xb] at h
  obtain ⟨rfl,rfl,rfl⟩:=h
  have hs1:(Zs σ ts)[sq]?=some .free:=by
   refine hoth sq _ ?_ (hs ho)
   intro hm
   obtain ⟨g,k',xs',hx | hx⟩:=ZgW hview sq hm <;> (rw [hs ho] at hx;cases hx)
  obtain ⟨R',hle⟩:=R1.newOwn hb hs1 cells' e (.row 0 k xs) k n (XE ⟨xs,rfl,hk,hn63,by omega,htree,g3,hcs,by rw [Wq (by simp [hcs,hxl])];exact g2⟩)
  refine ⟨_,_,hrun,Post.mk hI1 hle R' ?_⟩
  rw [Zcb]
  exact ⟨_,Bmap.put_same β sq 0 _,XR _,hn63,Xw ⟨_,rfl,rfl⟩⟩
 ·simp only [Xa,Xb] at h
  obtain ⟨rfl,rfl,rfl⟩:=h
  obtain ⟨R',hI⟩:=R1.newImm hb cells' e (0,0)
  refine ⟨_,_,hrun,Post.mk (hI1.trans hI) (Bmap.le.refl β) R' ?_⟩
  simp only [VR]
  refine ⟨some ⟨w.heap.size,0,none⟩,n,by rw [hxl],by omega,hn63,fun _=>hxl.symm,?_,htree⟩
  by_cases hx0:xs=[]
  ·exact Xw hx0
  ·exact XE ⟨w.heap.size,0,k,rfl,hk,Zws g3 g2 hI⟩
theorem Zrj {a:Act} (T:TR I β tm a.tmps) (R:Rel base w0 I0 I β σ w) (hb:KLt base w0) {t:TypeId} {n:Nat} {parts:Array (Nat×Operand)} {k bytes:Nat} {z:AVal} {ps:List (Nat×Opd)} (he:Zds P t=some (k,bytes,z)) (hn:n*k<=16777216) (hps:Zfk parts.toList=some ps)
  {sq:Nat} (hs:σ[sq]?=some .free) {O:ZZ} {pure':Nat->Bool} {r:AVal} {c:Cls} (h:execI O pure' tm σ sq (.rslice k n z ps)=some (r,σ',c)) :
  ∃ u w',(Instr.buildSlice t n (parts.map fun (i,x)=>(i,a.eval x))).run P w=.ok u w'/\Post base w0 I0 I β r σ' u w':=by
 obtain ⟨e,i,v,hu,hi,hik,hib,hv,hz,hk,hby,hzl⟩:=Zgd he
 obtain ⟨hz1,hz2⟩:=Zd4 (I:=I) (β:=β) hz
 simp only [execI] at h
 split at h
 case isFalse=>cases h
 rename_i hc
 simp only [Xl,XM,beq_iff_eq,decide_eq_true_eq] at hc
 obtain ⟨⟨⟨hy0,hidx⟩,_⟩,hzok⟩:=hc
 obtain ⟨c1,c2,c3⟩:=Zji (a:=a) T hps
 have hzip:(ps.map (·.1)).zip (ps.map fun p=>p.2.ev tm)=ps.map fun p=>(p.1,p.2.ev tm):=by
  rw [List.zip_map']
 have hy:∀ y ∈ ps.map (fun p=>p.2.ev tm),y.cells.length=k:=by
  intro y hy
  obtain ⟨p,hp,rfl⟩:=XJ.1 hy
  exact (hy0 p hp).1
 have hyok:∀ y ∈ ps.map (fun p=>p.2.ev tm),∀ c ∈ y.cells,Zy c=true:=by
  intro y hy
  obtain ⟨p,hp,rfl⟩:=XJ.1 hy
  exact (hy0 p hp).2
 have hntop:∀ y ∈ ps.map (fun p=>p.2.ev tm),y≠.top:=by
  intro y hy e
  have:=hyok y hy
  rw [e] at this
  have:=this .top (by simp [AVal.cells])
  cases this
 obtain ⟨cells',g1,g2,g3,g4,g5⟩:=ZjM (I:=I) (β:=β) (k:=k) (is:=ps.map (·.1)) (ys:=ps.map fun p=>p.2.ev tm) (vs:=parts.toList.map fun p=>a.eval p.2) (xs:=XO n z) (cells:=(WW (n*k)).map (v.cells[· % v.cells.size]!)) (by simp) hntop c2 hy
  (by intro j hj;simp only [XJ] at hj;obtain ⟨p,hp,rfl⟩:=hj;simpa using hidx p hp) (by intro x hx;rw [Wb hx];exact hzl) (Zh4 (Zd2 hz) hz1 hzl hk n)
 have hrun:(Instr.buildSlice t n (parts.map fun (i,x)=>(i,a.eval x))).run P w=.ok (.slice (some ⟨w.heap.size,0,none⟩) n n) { w with heap:=w.heap.push (.cells cells' e) }:=by
  have hpl:(parts.map fun (i,x)=>(i,a.eval x)).toList=(ps.map (·.1)).zip (parts.toList.map fun p=>a.eval p.2):=by rw [<-c1];simp
  have hle:¬16777216 < n*i.size:=by rw [hik];omega
  have hle':¬2 ^ 24 < n*k:=by omega
  by_cases hn0:n*k=0
  ·have hr0:WW 0=#[]:=rfl
   have g1':Instr.fill (fun i=>some (i*k,k)) #[] ((ps.map (·.1)).zip (parts.toList.map fun p=>a.eval p.2))=some cells':=by
    rw [hn0,hr0] at g1;simpa using g1
   simp only [Instr.buildSlice,Sem.run_bind,run_underlying hu,Result.andThen_ok,sizeOf,typeInfo,run_program,hi,Sem.run_pure,Sem.run_ite,hik,hn0,hpl]
   simp [hr0,g1',newRow]
  ·simp only [Instr.buildSlice,Sem.run_bind,run_underlying hu,Result.andThen_ok,sizeOf,typeInfo,run_program,hi,Sem.run_pure,Sem.run_ite,hik,hn0,hpl,zeroValue,hv,if_false]
   simp [show ¬16777216 < n*k by omega,hn0,g1,newRow,hv]
 rw [hzip] at g2 g3 g4
 have hall:∀ x ∈ (ps.map fun p=>(p.1,p.2.ev tm)).foldl (fun l p=>l.set p.1 p.2) (XO n z),∀ c ∈ x.cells,Zy c=true:=by
  have aux:∀ (l:List (Nat×AVal)) (xs:List AVal),(∀ p ∈ l,∀ c ∈ p.2.cells,Zy c=true)->(∀ x ∈ xs,∀ c ∈ x.cells,Zy c=true)->∀ x ∈ l.foldl (fun l p=>l.set p.1 p.2) xs,∀ c ∈ x.cells,Zy c=true:=by
   intro l
   induction l with
   | nil=>intro xs _ h;exact h
   | cons p l ih =>
    intro xs hp hx
    refine ih _ (fun q hq=>hp q (by simp [hq])) ?_
    intro x hm
    rcases X5 hm with hm | rfl
    ·exact hx x hm
    ·exact hp p (by simp)
  refine aux _ _ (fun p hp=>?_) (fun x hx=>by rw [Wb hx];exact hzok)
  obtain ⟨q,hq,rfl⟩:=XJ.1 hp
  exact (hy0 q hq).2
 have hcs:cells'.size=n*k:=by rw [g5];simp
 have hn63:n<=9223372036854775807:=by
  have : n*1<=n*k:=XaQ n hk
  omega
 generalize (ps.map fun p=>(p.1,p.2.ev tm)).foldl (fun l p=>l.set p.1 p.2) (XO n z)=xs at *
 have hxl:xs.length=n:=by rw [g4];simp
 simp only [Xa,Xb] at h
 obtain ⟨rfl,rfl,rfl⟩:=h
 obtain ⟨R',hle⟩:=R.newObj hb hs (.cells cells' e) (.rrow 0 k xs) k n (by simp [Ze,Bmap.put_same]) rfl (by simp)
  ⟨_,Bmap.put_same β sq 0 _,rfl,hk,hn63,by simp only [hxl];exact XR _,fun x hx=>⟨g3 x hx,hall x hx⟩,w.heap.size,cells',e,rfl,by simp,hcs,by rw [Wq (by simp [hcs,hxl])];exact VRs.mono (Imm.le.refl I) (Bmap.put_le (R.free sq 0 hs)) _ _ g2⟩
 refine ⟨_,_,hrun,Post.mk (Imm.le.refl I) hle R' ?_⟩
 rw [Zcb]
 exact ⟨_,Bmap.put_same β sq 0 _,XR _,hn63,Xw ⟨_,rfl,rfl⟩⟩
theorem ZtA (R:Rel base w0 I0 I β σ w) {t ty:TypeId} {k bytes:Nat} {z:AVal} (he:Zds P t=some (k,bytes,z)) {x r:AVal} {v:Value} (hx:VR I β x v) {c:Cls} (h:ZB σ k z x=some (r,σ',c)) :
  ∃ u w',(Builtin.clear_ #[t] ty #[v]).run P w=.ok u w'/\Post base w0 I0 I β r σ' u w':=by
 obtain ⟨e,i,vz,hu,hi,hik,hib,hvz,hz,hk,hby,hzl⟩:=Zgd he
 obtain ⟨hz1,hz2⟩:=Zd4 (I:=I) (β:=β) hz
 unfold ZB at h
 split at h
 case h_2=>cases h
 rename_i t' g lo n
 split at h
 case h_2=>cases h
 rename_i g' k' xs hs
 split at h
 case isFalse=>cases h
 rename_i hc
 obtain ⟨rfl,rfl,hle,_⟩:=hc
 simp only [Xa,Xb] at h
 obtain ⟨rfl,rfl,rfl⟩:=h
 have Zf3:VR I β (.tup []) (.tuple #[]):=by simp [VR,VRs]
 by_cases hn:n=0
 ·subst hn
  have hsame:σ.set t' (.row g' k' (xs.take lo++XO 0 z++xs.drop (lo+0)))=σ:=by
   have : xs.take lo++XO 0 z++xs.drop (lo+0)=xs:=by simp
   rw [this]
   apply X7
   intro j
   rw [Xk]
   split
   ·rename_i e;subst e
    split
    ·exact hs.symm
    ·rename_i hlt;rw [XV (by omega)]
   ·rfl
  rw [hsame]
  refine ⟨.tuple #[],w,?_,Post.here R Zf3⟩
  simp only [VR] at hx
  obtain ⟨bi,_,_,_,hv⟩:=hx
  rcases hv with ⟨b,_,rfl⟩ | ⟨_,_,A,rfl⟩ | ⟨_,_,_,A,rfl⟩
  ·simp [Builtin.clear_,run_underlying hu]
  ·cases A <;> simp [Builtin.clear_,run_underlying hu]
  ·cases A <;> simp [Builtin.clear_,run_underlying hu]
 ·obtain ⟨bi,e1,e2,e3,e4,e5,e6,e7,e8⟩:=R.blk _ _ hs
  subst e2
  simp only [VR] at hx
  obtain ⟨bi',f1,f2,f3,f4⟩:=hx
  rw [e1] at f1
  injection f1 with f1
  subst f1
  have hown:∀ b,Ze w β t' (.row g' bi.k xs) b↔bi.b=some b:=by simp [Ze,e1]
  rcases e8 with ⟨_,hz0⟩ | ⟨b,us,ty0,hbb,e8,e9,e10⟩
  ·omega
  have hv0:v=.slice (some ⟨b,lo*bi.k,none⟩) n (bi.cap - lo):=by
   rcases f4 with ⟨b',eb,rfl⟩ | ⟨_,hz0,_⟩ | ⟨_,_,hn0,_⟩
   ·rw [hbb] at eb;injection eb with eb;subst eb;rfl
   ·omega
   ·exact absurd hn0 hn
  subst hv0
  have hrep:=Zh4 (I:=I) (β:=β) (Zd2 hz) hz1 hzl hk n
  have hvl:=Ze0 (Zd2 hz) hz1
  have hzc:Builtin.zeroCells vz.cells n=(WW (n*bi.k)).map (vz.cells[· % vz.cells.size]!):=by
   unfold Builtin.zeroCells
   rw [hvl,hzl]
  have hlen:((WW (n*bi.k)).map (vz.cells[· % vz.cells.size]!)).toList.length=n*bi.k:=by simp
  have hone:∀ v ∈ ((WW (n*bi.k)).map (vz.cells[· % vz.cells.size]!)).toList,v.oneCell'=true:=ZfD (fun y hy=>by
   obtain ⟨q,hq,hy⟩:=Wh.1 hy
   rw [Wb hq] at hy
   exact ZhU (ZcG.1 hz2 y hy)) hrep
  have hmul:(lo+n)*bi.k<=us.size:=by rw [e9];exact Wf _ f2
  have hmul2:(lo+n)*bi.k<=xs.length*bi.k:=Wf _ hle
  rw [Wg] at hmul hmul2
  have hst:=run_storeCells_at (P:=P) b (lo*bi.k) ty0 _ 0 us w e8 (by rw [hlen];omega) hone
  simp only [Wm] at hst
  refine ⟨.tuple #[],_,?_,Post.here (R.write hs (b:=b) (by rw [hown,hbb]) (us.toList.take (lo*bi.k)++((WW (n*bi.k)).map (vz.cells[· % vz.cells.size]!)).toList++us.toList.drop (lo*bi.k+((WW (n*bi.k)).map (vz.cells[· % vz.cells.size]!)).toList.length)).toArray (by simp [Ze,e1,hbb]) ?_ rfl) Zf3⟩
  ·obtain ⟨m,rfl⟩:∃ m,n=m+1:=⟨n - 1,by omega⟩
   simp only [Builtin.clear_,zeroValue,typeInfo,hi,hvz,hzc,run_underlying hu,Sem.run_bind,Sem.run_pure,Result.andThen_ok,List.getElem?_toArray,XI,run_program]
   rw [hst]
   rfl
  ·have hxl:(xs.take lo++XO n z++xs.drop (lo+n)).length=xs.length:=by simp;omega
   refine ⟨bi,e1,rfl,e3,e4,by rw [hxl];exact e5,?_,?_,XE ⟨b,_,ty0,hbb,setRow_heap w b us _ ty0 (0,0) e8,?_,?_⟩⟩
   ·exact ZfY (ZfY (ZfK e6 lo) (by rw [Zb8];intro x hx;rw [Wb hx];exact hz2)) (ZgQ e6 _)
   ·intro q hq
    simp only [Xv] at hq
    rcases hq with (hq | hq) | hq
    ·exact e7 q (WI hq)
    ·rw [Wb hq];exact hzl
    ·exact e7 q (List.mem_of_mem_drop hq)
   ·simp only [List.size_toArray,Xy,X3,List.length_drop,XS,hlen]
    rw [<-e9];omega
   ·rw [hxl,ZeO,ZeO,<-ZfF e7,<-ZfP e7]
    have h1:=Zdr e10 (lo*bi.k)
    have h2:=ZdQ e10 ((lo+n)*bi.k)
    have:=Zca (Zca h1 hrep) h2
    refine cast ?_ this
    congr 1
    rw [W7,WU (by omega),List.drop_take]
    rw [Wg]
    apply X7
    intro j
    simp only [Wz,XQ,List.getElem?_drop,Xy,X3,XS,hlen]
    repeat' split
    all_goals first | rfl | omega | (congr 1;omega) | (exfalso;omega) | skip
    all_goals (first | (symm;rw [X4];simp;omega) | (rw [X4];simp;omega))
theorem ZAz (R:Rel base w0 I0 I β σ w) (hb:KLt base w0) {t:TypeId} (ht:P.underlying t=some .string) {l:List UInt8} {sq:Nat} (hs:σ[sq]?=some .free) :
  ∃ u w',(Instr.range t (.string ⟨l.toArray⟩)).run P w=.ok u w'/\Post base w0 I0 I β (.ref sq 0) (σ.set sq (.siter l 0)) u w':=by
 obtain ⟨R',hle⟩:=R.newObj hb hs (.stringIter ⟨l.toArray⟩ 0) (.siter l 0) 1 1 (by simp [Ze,Bmap.put_same]) rfl (by simp)
  ⟨_,_,_,Bmap.put_same β sq 0 _,by simp⟩
 refine ⟨.pointer (some ⟨w.heap.size,0,none⟩),_,?_,Post.mk (Imm.le.refl I) hle R' ?_⟩
 ·simp [Instr.range,run_underlying ht]
 ·simp only [VR]
  exact ⟨_,_,_,Bmap.put_same β sq 0 _,rfl⟩
theorem Zvr (R:Rel base w0 I0 I β σ w) {t:Nat} {l:List UInt8} {p:Nat} (hs:σ[t]?=some (.siter l p)) {v:Value} (hv:VR I β (.ref t 0) v) (ty:TypeId) :
  ∃ u w',(Instr.next v true ty).run P w=.ok u w'/\(if p < l.length then Post base w0 I0 I β (.tup [.bool true,.int .i64 p,.int .i32 (Zff l p).1]) (σ.set t (.siter l (p+(Zff l p).2))) u w' else Post base w0 I0 I β (.tup [.bool false]) σ u w'):=by
 simp only [VR] at hv
 obtain ⟨b,k,c,hb,rfl⟩:=hv
 obtain ⟨b',k',c',e1,e2⟩:=R.blk _ _ hs
 rw [hb] at e1
 simp only [Xa,BI.mk.injEq] at e1
 obtain ⟨rfl,rfl,rfl⟩:=e1
 have hg:(getObj b).run P w=.ok (.stringIter ⟨l.toArray⟩ p) w:=by simp [getObj,Sem.run,e2]
 have hsz:(ByteArray.mk l.toArray).size=l.length:=by simp [WL]
 have hlt:b < w.heap.size:=(XD.1 e2).1
 by_cases hp:p < l.length
 ·have hso:∀ o,(setObj b o).run P w=.ok () { w with heap:=w.heap.setIfInBounds b o }:=by intro o;simp [setObj,Sem.run,e2]
  refine ⟨.tuple #[.bool true,goInt p,.int .i32 (Zff l p).1],{ w with heap:=w.heap.setIfInBounds b (.stringIter ⟨l.toArray⟩ (p+(Zff l p).2)) },?_,?_⟩
  ·simp [Instr.next,hg,hsz,hp,hso,Zff]
  ·rw [if_pos hp]
   refine Post.here (R.putObj hs (by simp [Ze,hb]) _ (by simp [Ze,hb]) ⟨b,k,c,hb,?_⟩ rfl) ?_
   ·rw [Wn hlt]
   ·simp [VR,VRs,goInt]
 ·refine ⟨.tuple #[.bool false],w,?_,?_⟩
  ·simp [Instr.next,hg,hsz,hp]
  ·rw [if_neg hp]
   refine Post.here R ?_
   simp [VR,VRs]
theorem Zwp (R:Rel base w0 I0 I β σ w) (hb:KLt base w0) {t:TypeId} {k bytes:Nat} {z:AVal} (he:Zds P t=some (k,bytes,z)) {l c:Int} (h0:0<=l) (h1:l<=c) (h2:c<=9223372036854775807) (h3:bytes*c<=140737488355328) {sq:Nat} (hs:σ[sq]?=some .free) :
  ∃ u w',(Instr.makeSlice t (.int .i64 l) (.int .i64 c)).run P w=.ok u w'/\Post base w0 I0 I β (.sl sq 0 0 l.toNat) (σ.set sq (.row 0 k (XO c.toNat z))) u w':=by
 obtain ⟨e,i,v,hu,hi,hik,hib,hv,hz,hk,hby,hzl⟩:=Zgd he
 obtain ⟨hz1,hz2⟩:=Zd4 (I:=I) (β:=β) hz
 have wl:IntKind.i64.wrap l=l:=by rw [IntKind.wrap_i64];omega
 have wc:IntKind.i64.wrap c=c:=by rw [IntKind.wrap_i64];omega
 have hc0:¬c < 0:=by omega
 have hbc:¬(281474976710656:Int) < bytes*c:=by omega
 have hl0:¬l < 0:=by omega
 have hlc:¬c < l:=by omega
 have hvl:=Ze0 (Zd2 hz) hz1
 have hrep:=Zh4 (Zd2 hz) hz1 hzl hk c.toNat
 have husz:((WW (c.toNat*k)).map (v.cells[· % v.cells.size]!)).size=c.toNat*k:=by simp
 obtain ⟨R',hle⟩:=R.newOwn hb hs ((WW (c.toNat*k)).map (v.cells[· % v.cells.size]!)) e (.row 0 k (XO c.toNat z)) k c.toNat (XE ⟨_,rfl,hk,by omega,by simp,by rw [Zb8];intro x hx;rw [Wb hx];exact hz2,by intro x hx;rw [Wb hx];exact hzl,husz,by rw [Wq (by simp)];exact hrep⟩)
 refine ⟨.slice (some ⟨w.heap.size,0,none⟩) l.toNat c.toNat,_,?_,Post.mk (Imm.le.refl I) hle R' ?_⟩
 ·by_cases hn0:c.toNat*k=0
  ·have hr0:WW 0=#[]:=rfl
   simp [Instr.makeSlice,run_underlying hu,asInt,asIntOf,typeInfo,hi,hib,wl,wc,sizeOf,hik,hn0,hc0,hbc,hl0,hlc,newRow,hr0]
  ·simp [Instr.makeSlice,run_underlying hu,asInt,asIntOf,typeInfo,hi,hib,wl,wc,sizeOf,hik,hn0,hc0,hbc,hl0,hlc,newRow,zeroValue,hv]
 ·rw [Zcb]
  exact ⟨_,Bmap.put_same β sq 0 _,by simp;omega,by simp;omega,Xw ⟨_,rfl,rfl⟩⟩
theorem Zo7 {t e:TypeId} (hu:P.underlying t=some (.slice e)) (he:P.underlying e=some (.int .u8)) (R:Rel base w0 I0 I β σ w) {t' g k lo n:Nat} {xs:List AVal} (hs:σ[t']?=some (.row g k xs)) (hn:lo+n<=xs.length) (h0:0 < n) {v:Value} (hx:VR I β (.sl t' g lo n) v) :
  ∃ w',(convert t t v).run P w=.ok v w'/\Post base w0 I0 I β (.lst false ((xs.drop lo).take n)) (σ.set t' (.frow g k xs)) v w':=by
 have hsl:t' < σ.length:=(Xd.1 hs).1
 have hx0:=hx
 simp only [VR] at hx
 obtain ⟨bi,f1,f2,f3,f4⟩:=hx
 obtain ⟨bi',h1,h2,h3,h4,h5,h6,h7,h8⟩:=R.blk _ _ hs
 rw [f1] at h1;injection h1 with h1;subst h1
 rcases f4 with ⟨b,hbb,rfl⟩ | ⟨_,hc,_⟩ | ⟨_,_,hz,_⟩
 ·rcases h8 with ⟨h8,_⟩ | ⟨b',us,ty,eb,h8,h9,h10⟩
  ·rw [hbb] at h8;cases h8
  rw [hbb] at eb;injection eb with eb;subst eb
  have hown:Ze w β t' (.row g k xs) b:=by simp [Ze,f1,hbb]
  have ho:=R.own t' _ b hs hown
  let w':World:=w.freeze ⟨b,us.size,none⟩ 1
  have hhb:w'.heap[b]?=some (.cells us ty (us.size,us.size+1)):=by
   simp only [w',World.freeze,Nat.one_ne_zero,if_false,WO,if_true,h8,XU]
   simp
  have hho:∀ b',b'≠b->w'.heap[b']?=w.heap[b']?:=by
   intro b' hne
   simp only [w',World.freeze,Nat.one_ne_zero,if_false,WO]
   rw [if_neg (fun e=>hne e.symm)]
  have hsz:w'.heap.size=w.heap.size:=by simp [w',World.freeze]
  let I':Imm:=fun b' o=>if b'=b/\o < xs.length*k then us[o]? else I b' o
  have hle:I.le I':=by
   intro b' o u hu
   have : b'≠b:=by rintro rfl;rw [ho.2 o] at hu;cases hu
   simp only [I',this,false_and,if_false]
   exact hu
  have R':Rel base w0 I0 I' β (σ.set t' (.frow g k xs)) w':=by
   refine R.upd hle (Bmap.le.refl β) ⟨rfl,rfl,rfl,by rw [hsz];exact XR _,fun q hq=>hho q (by rintro rfl;exact ho.1 hq)⟩ ?_ ?_ t' _ rfl hsl (fun _ _ _=>rfl) ?_ ?_ (fun b e=>by cases e) (fun g' hg=>R.gen t' _ g' hs (by simpa [Zb] using hg)) (by simp)
   ·intro b' o hb'
    have : b'≠b:=by rintro rfl;exact ho.1 hb'
    simp only [I',this,false_and,if_false]
   ·intro b' o u hu
    simp only [I'] at hu
    split at hu
    ·rename_i hc
     rw [hc.1,Zed hhb];exact hu
    ·have:=R.imm _ _ _ hu
     have hne:b'≠b:=by rintro rfl;rw [ho.2 o] at hu;cases hu
     rw [<-this]
     simp only [World.cell?,hho b' hne]
   ·intro t'' x b' hne hx hb'
    have hbb':b'≠b:=by rintro rfl;exact hne (R.apart t'' x t' _ b' hx hs hb' hown)
    refine ⟨hho b' hbb',fun o=>?_,by simp [Ze]⟩
    simp only [I',hbb',false_and,if_false]
    exact (R.own t'' x b' hx hb').2 o
   ·refine ⟨bi,f1,h2,h3,h4,h5,h6,XE ⟨b,hbb,?_⟩⟩
    refine ZfL h7 (VRs.mono hle (Bmap.le.refl β) _ _ h10) (fun j u hu=>?_)
    rw [XQ] at hu
    split at hu
    ·rename_i hj
     simp only [I',XF,true_and,hj,if_true]
     simpa using hu
    ·cases hu
  refine ⟨w',?_,Post.mk hle (Bmap.le.refl β) R' (Zip R' (by rw [Xk,if_pos rfl,if_pos hsl]) hn (hx0.mono hle (Bmap.le.refl β) _ _))⟩
  have hshape:w.shape? b=some (ty,us.size):=by simp [World.shape?,h8]
  simp [convert,run_underlying hu,run_underlying he,markStringish,hshape,w']
 ·omega
 ·omega
end
end
section
open Go.RowKit
section
variable {base:Nat->Prop} {w0 w w':World} {I0 I I':Imm} {β β':Bmap} {σ σ':Za} {ρ:Rho}
def ZeD (ρ:Rho) (β β':Bmap):Prop:=∀ t g t' g' bi,ρ t g=some (t',g')->β t g=some bi->β' t' g'=some bi
mutual
theorem Zfr (hρ:ZeD ρ β β'):∀ (x:AVal) (v:Value),VR I β x v->VR I β' (Zi ρ x) v
 | .top,_,h=>by simp only [Zi,VR]
 | .any,_,h=>by simpa only [Zi,VR] using h
 | .int _ _,_,h=>by simpa only [Zi,VR] using h
 | .bool _,_,h=>by simpa only [Zi,VR] using h
 | .str _,_,h=>by simpa only [Zi,VR] using h
 | .nilp,_,h=>by simpa only [Zi,VR] using h
 | .nilm,_,h=>by simpa only [Zi,VR] using h
 | .nili,_,h=>by simpa only [Zi,VR] using h
 | .pan _,_,h=>by simp only [VR] at h
 | .iface t x,_,h=>by
  simp only [Zi,VR] at h ⊢
  obtain ⟨u,h1,h2⟩:=h
  exact ⟨u,h1,Zfr hρ x u h2⟩
 | .ref t o,_,h=>by
  simp only [VR] at h
  obtain ⟨b,k,c,h1,h2⟩:=h
  simp only [Zi]
  split
  ·rename_i t' e
   simp only [VR]
   exact ⟨b,k,c,hρ _ _ _ _ _ e h1,h2⟩
  ·subst h2;simp only [VR];exact ⟨rfl,rfl⟩
 | .map t,_,h=>by
  simp only [VR] at h
  obtain ⟨b,k,c,h1,h2⟩:=h
  simp only [Zi]
  split
  ·rename_i t' e
   simp only [VR]
   exact ⟨b,k,c,hρ _ _ _ _ _ e h1,h2⟩
  ·subst h2;simp only [VR];exact ⟨rfl,rfl⟩
 | .eref t g i o,_,h=>by
  simp only [VR] at h
  obtain ⟨b,k,c,h1,h2⟩:=h
  simp only [Zi]
  split
  ·rename_i t' g' e
   simp only [VR]
   exact ⟨b,k,c,hρ _ _ _ _ _ e h1,h2⟩
  ·subst h2;simp only [VR];exact ⟨rfl,rfl⟩
 | .sl t g lo n,_,h=>by
  simp only [VR] at h
  obtain ⟨bi,h1,h2,h3,h4⟩:=h
  simp only [Zi]
  split
  ·rename_i t' g' e
   simp only [VR]
   exact ⟨bi,hρ _ _ _ _ _ e h1,h2,h3,h4⟩
  ·simp only [VR]
   rcases h4 with ⟨_,_,rfl⟩ | ⟨_,_,_,rfl⟩ | ⟨_,_,_,_,rfl⟩ <;> exact ⟨rfl,rfl⟩
 | .iptr cs o,_,h=>by
  simp only [Zi,VR] at h ⊢
  obtain ⟨b,off,h1,h2,h3⟩:=h
  exact ⟨b,off,h1,CR.of_tree h3 h2,h3⟩
 | .lst x xs,_,h=>by
  simp only [Zi,VR] at h ⊢
  obtain ⟨A,cap,h1,h2,h3,h4,h5,h6⟩:=h
  refine ⟨A,cap,h1,h2,h3,h4,?_,h6⟩
  rcases h5 with h5 | ⟨b,off,k,e,hk,h5⟩
  ·exact Xw h5
  ·exact XE ⟨b,off,k,e,hk,(LR.tree k xs b off h6 h5).mono (Imm.le.refl I) (Zga β') _ _ _ _⟩
 | .agg cs,_,h=>by
  simp only [Zi,VR] at h ⊢
  obtain ⟨us,h1,h2⟩:=h
  exact ⟨us,h1,ZdR hρ cs us.toList h2⟩
 | .tup cs,_,h=>by
  simp only [Zi,VR] at h ⊢
  obtain ⟨us,h1,h2⟩:=h
  exact ⟨us,h1,ZdR hρ cs us.toList h2⟩
 | .fn f cs,_,h=>by
  simp only [Zi,VR] at h ⊢
  obtain ⟨fs,us,h1,h0,h2⟩:=h
  exact ⟨fs,us,h1,h0,ZdR hρ cs (fs.toList++us.toList) h2⟩
theorem ZdR (hρ:ZeD ρ β β'):∀ (xs:List AVal) (vs:List Value),VRs I β xs vs->VRs I β' (ZW ρ xs) vs
 | [],_,h=>by simpa only [ZW,VRs] using h
 | x::xs,_,h=>by
  simp only [ZW,VRs] at h ⊢
  obtain ⟨v,vs',h1,h2,h3⟩:=h
  exact ⟨v,vs',h1,Zfr hρ x v h2,ZdR hρ xs vs' h3⟩
end
theorem ZdJ:∀ (xs:List AVal),ZW ρ xs=xs.map (Zi ρ)
 | []=>rfl
 | x::xs=>by simp only [ZW,Xu,ZdJ xs]
def Zdh:ZV->Bool
 | .var _ | .map _ | .siter _ _ | .opq | .book _ _ | .rmap _ | .gmap _ _=>true
 | _=>false
theorem Zmz (x:AVal):(Zi ρ x).cells=x.cells.map (Zi ρ):=by
 cases x with
 | agg cs=>simp only [Zi,AVal.cells,ZdJ]
 | ref t o =>
  show (Zi ρ (.ref t o)).cells=[Zi ρ (.ref t o)]
  simp only [Zi]
  generalize ρ t 0=q
  rcases q with _ | ⟨t',_ | g⟩ <;> rfl
 | eref t g i o =>
  show (Zi ρ (.eref t g i o)).cells=[Zi ρ (.eref t g i o)]
  simp only [Zi]
  generalize ρ t g=q
  rcases q with _ | ⟨t',g'⟩ <;> rfl
 | sl t g i o =>
  show (Zi ρ (.sl t g i o)).cells=[Zi ρ (.sl t g i o)]
  simp only [Zi]
  generalize ρ t g=q
  rcases q with _ | ⟨t',g'⟩ <;> rfl
 | map t =>
  show (Zi ρ (.map t)).cells=[Zi ρ (.map t)]
  simp only [Zi]
  generalize ρ t 0=q
  rcases q with _ | ⟨t',_ | g⟩ <;> rfl
 | _=>simp only [Zi,AVal.cells,Xu,X0]
theorem Zx5 (x:AVal):x.cells.length=(Zi ρ x).cells.length/\(∀ c ∈ (Zi ρ x).cells,∃ c0 ∈ x.cells,c=Zi ρ c0):=by
 rw [Zmz]
 exact ⟨by simp,fun c hc=>by obtain ⟨c0,h0,rfl⟩:=XJ.1 hc;exact ⟨c0,h0,rfl⟩⟩
theorem Zy8 {c:AVal} (h:Zy c=true):Zy (Zi ρ c)=true:=by
 cases c <;> first
  | (simp [Zy] at h;done)
  | (simp only [Zi];rfl)
  | (simp only [Zi];split <;> rfl)
theorem Zle:∀ (xs:List AVal),(ZW ρ xs).flatMap AVal.cells=ZW ρ (xs.flatMap AVal.cells)
 | []=>rfl
 | x::xs=>by
  rw [ZW,XT,XT,Zle xs,ZdJ,ZdJ,Wc]
  rw [Zmz]
theorem ZnD {w:World} {kb:Nat} {es:List (AVal×(List AVal ⊕ AVal))}:Zas w kb (es.map fun p=>(p.1,p.2.map id (Zi ρ)))=Zas w kb es:=by
 unfold Zas
 congr 1
 generalize ZcK w kb=l
 induction es generalizing l with
 | nil=>rfl
 | cons x es ih =>
  cases l with
  | nil=>rfl
  | cons e l =>
   obtain ⟨x1,q⟩:=x
   simp only [Xu,Wd,Wt,ih]
   cases q <;> rfl
theorem Zoc (hρ:ZeD ρ β β') {k kb:Nat} {es:List (AVal×(List AVal ⊕ AVal))} (h:GmapW I β w k kb es):GmapW I β' w k kb (es.map fun p=>(p.1,p.2.map id (Zi ρ))):=by
 obtain ⟨h0,h1,arr,clk,h2,h3,h4,h5,h6⟩:=h
 refine ⟨by rw [ZnD];exact h0,h1,arr,clk,h2,?_,?_,h5,?_⟩
 ·rw [WB]
  refine VRs.of_cells (β:=β) ?_ h3
  intro x hx
  obtain ⟨p,hp,rfl⟩:=XJ.1 hx
  have:=h4 p hp
  show Zaf p.1.cells=true
  generalize p.1=q at this ⊢
  cases q <;> simp [ZbJ] at this <;> rfl
 ·intro p hp
  obtain ⟨q,hq,rfl⟩:=XJ.1 hp
  exact h4 q hq
 ·intro i p e hp he
  rw [XX,Xn] at hp
  obtain ⟨⟨x,q⟩,hq,rfl⟩:=hp
  have:=h6 i _ e hq he
  cases q with
  | inr y=>exact Zfr hρ _ _ this
  | inl xs =>
   obtain ⟨t1,t2,vs,t3,t4⟩:=this
   exact ⟨t1,t2,vs,t3,VRs.of_cells (β:=β) (fun x hx=>by
    have:=ZcG.1 (Zje t1) x hx
    cases x <;> simp_all [Zaj,AVal.cells,Zaf]) t4⟩
theorem ZmF (hρ:ZeD ρ β β') {t t':Nat} {x:ZV} {g':Nat} (hg:∀ bi,β t (Zb x)=some bi->β' t' g'=some bi) (hv:Zdh x=true->g'=0) (h:BR I β w t x):BR I β' w t' (Zh ρ g' x):=by
 cases x with
 | free=>trivial
 | map es =>
  obtain ⟨b,k,c,arr,clk,h1,h2,h3,h4,h5,h6⟩:=h
  have e:=hv rfl
  subst e
  refine ⟨b,k,c,arr,clk,hg _ h1,h2,?_,?_,?_,h6⟩
  ·rw [WB]
   refine VRs.of_cells (β:=β) ?_ h3
   intro x hx
   obtain ⟨p,hp,rfl⟩:=XJ.1 hx
   have:=h5 p hp
   show Zaf p.1.cells=true
   generalize p.1=q at this ⊢
   cases q <;> simp [ZbJ] at this <;> rfl
  ·have:=ZdR hρ _ _ h4
   rw [ZdJ,WB] at this
   rw [WB]
   exact this
  ·intro p hp
   obtain ⟨q,hq,rfl⟩:=XJ.1 hp
   exact h5 q hq
 | rmap es =>
  obtain ⟨b,k,c,arr,clk,h1,h2,h3,h4,h5,h6⟩:=h
  have e:=hv rfl
  subst e
  refine ⟨b,k,c,arr,clk,hg _ h1,h2,?_,?_,?_,h6⟩
  ·rw [WB]
   refine VRs.of_cells (β:=β) ?_ h3
   intro x hx
   obtain ⟨p,hp,rfl⟩:=XJ.1 hx
   have:=h5 p hp
   show Zaf p.1.cells=true
   generalize p.1=q at this ⊢
   cases q <;> simp [ZbJ] at this <;> rfl
  ·have:=ZdR hρ _ _ h4
   rw [ZdJ,WB] at this
   rw [WB]
   exact this
  ·intro p hp
   obtain ⟨q,hq,rfl⟩:=XJ.1 hp
   exact h5 q hq
 | gmap k es =>
  obtain ⟨b,k',c,h1,h2⟩:=h
  have e:=hv rfl
  subst e
  exact ⟨b,k',c,hg _ h1,Zoc hρ h2⟩
 | opq =>
  obtain ⟨bi,h⟩:=h
  have e:=hv rfl
  subst e
  exact ⟨bi,hg _ h⟩
 | book n p =>
  obtain ⟨b,k,c,vs,h1,h3,h2⟩:=h
  have e:=hv rfl
  subst e
  have h3':=ZdR hρ _ _ h3
  rw [ZdJ,WB] at h3'
  exact ⟨b,k,c,vs,hg _ h1,by rw [WB];exact h3',by rw [WB];exact h2⟩
 | siter l p =>
  obtain ⟨b,k,c,h1,h2⟩:=h
  have e:=hv rfl
  subst e
  exact ⟨b,k,c,hg _ h1,h2⟩
 | rrow g k xs =>
  obtain ⟨bi,h1,h2,h3,h4,h5,h6,b,us,ty,e,h8,h9,h10⟩:=h
  refine ⟨bi,hg _ h1,h2,h3,h4,by rw [ZdJ,XP];exact h5,?_,b,us,ty,e,h8,h9,?_⟩
  ·intro x hx
   rw [ZdJ] at hx
   obtain ⟨y,hy,rfl⟩:=XJ.1 hx
   obtain ⟨q1,q2⟩:=Zx5 (ρ:=ρ) y
   refine ⟨by rw [<-q1];exact (h6 y hy).1,fun c hc=>?_⟩
   obtain ⟨c0,hc0,rfl⟩:=q2 c hc
   exact Zy8 ((h6 y hy).2 c0 hc0)
  ·rw [Zle,show (ZW ρ xs).length=xs.length by rw [ZdJ,XP]]
   exact ZdR hρ _ _ h10
 | var cs =>
  obtain ⟨b,k,c,us,ty,h1,h2,h3⟩:=h
  have e:=hv rfl
  subst e
  exact ⟨b,k,c,us,ty,hg _ h1,h2,ZdR hρ _ _ h3⟩
 | row g k xs =>
  obtain ⟨bi,h1,h2,h3,h4,h5,h6,h7,h8⟩:=h
  refine ⟨bi,hg _ h1,h2,h3,h4,h5,h6,h7,?_⟩
  rcases h8 with h8 | ⟨b,us,ty,e,h8,h9,h10⟩
  ·exact Xw h8
  ·refine XE ⟨b,us,ty,e,h8,h9,VRs.of_cells (β:=β) ?_ h10⟩
   intro x hx
   have:=ZcG.1 (Zje h6) x hx
   cases x <;> simp_all [Zaj,AVal.cells,Zaf]
 | frow g k xs =>
  obtain ⟨bi,h1,h2,h3,h4,h5,h6,h7⟩:=h
  refine ⟨bi,hg _ h1,h2,h3,h4,h5,h6,?_⟩
  rcases h7 with h7 | ⟨b,e,h7⟩
  ·exact Xw h7
  ·exact XE ⟨b,e,(LR.tree _ _ _ _ h6 h7).mono (Imm.le.refl I) (Zga β') _ _ _ _⟩
theorem Znj {t t' g':Nat} {x:ZV} (hg:∀ bi,β t (Zb x)=some bi->β' t' g'=some bi) (hv:Zdh x=true->g'=0) (h:BR I β w t x):Ze w β' t' (Zh ρ g' x)=Ze w β t x:=by
 cases x with
 | free=>rfl
 | opq=>rfl
 | gmap k es =>
  obtain ⟨b,k',c,h1,_⟩:=h
  have e:=hv rfl
  subst e
  have h2:=hg _ h1
  have h1':β t 0=some ⟨some b,k',c⟩:=h1
  funext b';simp [Ze,Zh,h1',h2,ZnD]
 | rmap=>rfl
 | book n p =>
  obtain ⟨b,k,c,vs,h1,_⟩:=h
  have e:=hv rfl
  subst e
  have h2:=hg _ h1
  have h1':β t 0=some ⟨some b,k,c⟩:=h1
  funext b';simp [Ze,Zh,h1',h2]
 | map es =>
  obtain ⟨b,k,c,_,_,h1,_⟩:=h
  have e:=hv rfl
  subst e
  have h2:=hg _ h1
  have h1':β t 0=some ⟨some b,k,c⟩:=h1
  funext b';simp [Ze,Zh,h1',h2]
 | siter l p =>
  obtain ⟨b,k,c,h1,_⟩:=h
  have e:=hv rfl
  subst e
  have h2:=hg _ h1
  have h1':β t 0=some ⟨some b,k,c⟩:=h1
  funext b';simp [Ze,Zh,h1',h2]
 | rrow g k xs =>
  obtain ⟨bi,h1,_⟩:=h
  have h2:=hg _ h1
  have h1':β t g=some bi:=h1
  funext b';simp [Ze,Zh,h1',h2]
 | frow=>rfl
 | var cs =>
  obtain ⟨b,k,c,us,ty,h1,_⟩:=h
  have e:=hv rfl
  subst e
  have h2:=hg _ h1
  have h1':β t 0=some ⟨some b,k,c⟩:=h1
  funext b';simp [Ze,Zh,h1',h2]
 | row g k xs =>
  obtain ⟨bi,h1,_⟩:=h
  have h2:=hg _ h1
  have h1':β t g=some bi:=h1
  funext b';simp [Ze,Zh,h1',h2]
theorem Znx {t t' g':Nat} {x:ZV} (hg:∀ bi,β t (Zb x)=some bi->β' t' g'=some bi) (hv:Zdh x=true->g'=0) (h:BR I β w t x) (b:Nat):ZbF β' t' (Zh ρ g' x) b↔ZbF β t x b:=by
 cases x with
 | rmap es =>
  obtain ⟨b,k,c,_,_,h1,_⟩:=h
  have e:=hv rfl
  subst e
  have h2:=hg _ h1
  have h1':β t 0=some ⟨some b,k,c⟩:=h1
  simp [ZbF,Zh,h1',h2]
 | _=>exact Iff.rfl
theorem ZnB {g':Nat} {x:ZV} (hv:Zdh x=true->g'=0) (hx:okB x=true):Zb (Zh ρ g' x)=g':=by
 cases x with
 | var cs=>simp [Zh,Zb,hv rfl]
 | row=>rfl
 | frow=>rfl
 | rrow=>rfl
 | map es=>simp [Zh,Zb,hv rfl]
 | rmap es=>simp [Zh,Zb,hv rfl]
 | gmap k es=>simp [Zh,Zb,hv rfl]
 | siter l p=>simp [Zh,Zb,hv rfl]
 | opq=>simp [Zh,Zb,hv rfl]
 | book n p=>simp [Zh,Zb,hv rfl]
 | free=>simp [okB] at hx
theorem ZiL:∀ {ids:List Nat} {t i j:Nat},Zm t ids i=some j->∃ k,j=i+k/\ids[k]?=some t
 | [],t,i,j,h=>by simp [Zm] at h
 | x::xs,t,i,j,h=>by
  simp only [Zm] at h
  split at h
  ·rename_i e;injection h with h;subst h e;exact ⟨0,by simp,rfl⟩
  ·obtain ⟨k,h1,h2⟩:=ZiL h
   exact ⟨k+1,by omega,by simpa using h2⟩
theorem Zkz {m:Nat} {ids:List Nat}:∀ {ts:List Nat} {j i:Nat},(Zg σ m ids ρ ts j)[i]?=(ts[i]?).map fun t=>Zh ρ (Zn m (j+i) (σ.getD t .free)) (σ.getD t .free)
 | [],j,i=>by simp [Zg]
 | t::ts,j,0=>by simp [Zg]
 | t::ts,j,i+1=>by
  simp only [Zg,XW]
  rw [Zkz (ts:=ts) (j:=j+1) (i:=i)]
  congr 2
  funext t
  rw [show j+1+i=j+(i+1) by omega]
theorem Zh3 {m:Nat} {ids:List Nat}:∀ {ts:List Nat} {j:Nat},(Zg σ m ids ρ ts j).length=ts.length
 | [],j=>rfl
 | t::ts,j=>by simp only [Zg,Xx,Zh3]
def Zch (σ:Za) (m:Nat) (ids:List Nat) (β:Bmap):Bmap:=fun j g=>match ids[j]? with
 | some t=>match σ[t]? with
  | some b=>if okB b then (if g=Zn m j b then β t (Zb b) else if j < m/\g=0 then β t 0 else none) else none
  | none=>none
 | none=>none
theorem Zjo {m:Nat} {ids:List Nat}:ZeD (Zd σ m ids) β (Zch σ m ids β):=by
 intro t g t' g' bi h hb
 unfold Zd at h
 split at h
 ·rename_i j hj
  obtain ⟨k,e,hk⟩:=ZiL hj
  have e':j=k:=by omega
  subst e'
  have fin:∀ b,σ[t]?=some b->okB b=true->(if g=Zb b then some (j,Zn m j b) else (none:Option (Nat×Nat)))=some (t',g')->Zch σ m ids β t' g'=some bi:=by
   intro b hb' hok h
   by_cases e:g=Zb b
   ·rw [if_pos e] at h
    simp only [Xa,Xb] at h
    obtain ⟨rfl,rfl⟩:=h
    unfold Zch
    simp only [hk,hb',hok,if_true]
    rw [<-e];exact hb
   ·rw [if_neg e] at h;cases h
  split at h
  ·cases h
  ·rename_i b n1 hb'
   refine fin b hb' ?_ h
   cases b with
   | free=>exact absurd rfl n1
   | map es=>rfl
   | rmap es=>rfl
   | gmap=>rfl
   | siter=>rfl
   | opq=>rfl
   | book=>rfl
   | rrow=>rfl
   | var=>rfl
   | row=>rfl
   | frow=>rfl
  ·cases h
 ·cases h
theorem ZAw {m j:Nat} {x:ZV} (h:Zdh x=true):Zn m j x=0:=by cases x <;> simp [Zdh] at h <;> simp [Zn,Zb]
theorem Rel.pick (R:Rel base w0 I0 I β σ w) {K':Nat->Prop} {w1:World} {I1:Imm} {m:Nat} {ids:List Nat} (hnd:ids.Nodup) (h1:KB K' w1 w) (h2:∀ b o,K' b->I b o=I1 b o) (h3:∀ t x b,t ∈ ids->σ[t]?=some x->Ze w β t x b->¬K' b) (h4:∀ t x b,t ∈ ids->σ[t]?=some x->ZbF β t x b->K' b) :
  Rel K' w1 I1 I (Zch σ m ids β) (Zg σ m ids (Zd σ m ids) ids 0) w:=by
 have look:∀ j x',(Zg σ m ids (Zd σ m ids) ids 0)[j]?=some x'->∃ t,ids[j]?=some t/\(x'=.free/\(∀ g,Zch σ m ids β j g=none)\/∃ x,σ[t]?=some x/\okB x=true/\x'=Zh (Zd σ m ids) (Zn m j x) x/\Zch σ m ids β j (Zn m j x)=β t (Zb x)):=by
  intro j x' h
  rw [Zkz,Xn] at h
  obtain ⟨t,ht,h⟩:=h
  simp only [XF] at h
  refine ⟨t,ht,?_⟩
  cases hx:σ[t]? with
  | none =>
   left
   have : σ.getD t .free=.free:=by simp [Xj,hx]
   rw [this] at h
   exact ⟨h.symm,fun g=>by simp [Zch,ht,hx]⟩
  | some x =>
   have hd:σ.getD t .free=x:=by simp [Xj,hx]
   rw [hd] at h
   by_cases hok:okB x=true
   ·exact XE ⟨x,rfl,hok,h.symm,by simp [Zch,ht,hx,hok]⟩
   ·left
    refine ⟨?_,fun g=>by simp [Zch,ht,hx,hok]⟩
    rw [<-h]
    cases x <;> simp_all [okB,Zh]
 have hvar:∀ (j:Nat) (x:ZV),Zdh x=true->Zn m j x=0:=fun j x h=>ZAw h
 have hown:∀ j x' b,(Zg σ m ids (Zd σ m ids) ids 0)[j]?=some x'->Ze w (Zch σ m ids β) j x' b->∃ t x,ids[j]?=some t/\σ[t]?=some x/\Ze w β t x b:=by
  intro j x' b h hb
  obtain ⟨t,ht,⟨rfl,_⟩ | ⟨x,hx,hok,rfl,hβ⟩⟩:=look j x' h
  ·cases hb
  ·rw [Znj (fun bi h=>by rw [hβ];exact h) (hvar j x) (R.blk t x hx)] at hb
   exact ⟨t,x,ht,hx,hb⟩
 refine ⟨h1,h2,R.imm,?_,?_,?_,?_,?_,?_,R.glob,?_⟩
 ·intro j x' h
  obtain ⟨t,ht,⟨rfl,_⟩ | ⟨x,hx,hok,rfl,hβ⟩⟩:=look j x' h
  ·trivial
  ·exact ZmF Zjo (fun bi h=>by rw [hβ];exact h) (hvar j x) (R.blk t x hx)
 ·intro j x' b h hb
  obtain ⟨t,x,ht,hx,hb⟩:=hown j x' b h hb
  exact ⟨h3 t x b (Xs ht) hx hb,(R.own t x b hx hb).2⟩
 ·intro j x j' x' b h h' hb hb'
  obtain ⟨t,y,ht,hy,e⟩:=hown j x b h hb
  obtain ⟨t',y',ht',hy',e'⟩:=hown j' x' b h' hb'
  have:=R.apart t y t' y' b hy hy' e e'
  subst this
  exact (XaW (Xd.1 ht).1 hnd).1 (ht.trans ht'.symm)
 ·intro j g h
  rw [Zh3] at h
  unfold Zch
  rw [XV h]
 ·intro j g h
  obtain ⟨t,ht,⟨_,h⟩ | ⟨x,hx,hok,h,hβ⟩⟩:=look j _ h
  ·exact h g
  ·cases x <;> first | (simp only [okB] at hok;cases hok;done) | (simp only [Zh] at h;cases h;done)
 ·intro j b g h hg
  obtain ⟨t,ht,⟨_,h⟩ | ⟨x,hx,hok,rfl,hβ⟩⟩:=look j _ h
  ·exact h g
  ·rw [ZnB (hvar j x) hok] at hg
   simp only [Zch,ht,hx,hok,if_true]
   rw [if_neg (by omega),if_neg (by omega)]
 ·intro j x' b h hb
  obtain ⟨t,ht,⟨rfl,_⟩ | ⟨x,hx,hok,rfl,hβ⟩⟩:=look j x' h
  ·cases hb
  ·exact h4 t x b (Xs ht) hx ((Znx (fun bi h=>by rw [hβ];exact h) (hvar j x) (R.blk t x hx) b).1 hb)
theorem ZfO:∀ (n:Nat) (todo acc:List Nat),acc.Nodup->(Zf σ n todo acc).Nodup/\∃ r,Zf σ n todo acc=acc++r
 | 0,todo,acc,h=>⟨h,[],by simp [Zf]⟩
 | n+1,[],acc,h=>⟨h,[],by simp [Zf]⟩
 | n+1,t::todo,acc,h=>by
  simp only [Zf]
  split
  ·exact ZfO n todo acc h
  ·rename_i hc
   have hnd:(acc++[t]).Nodup:=by
    rw [Xac]
    refine ⟨h,by simp,?_⟩
    intro a ha b hb
    simp only [XZ] at hb
    subst hb
    rintro rfl
    simp [ha] at hc
   obtain ⟨h1,r,h2⟩:=ZfO n (Zp (σ.getD t .free)++todo) (acc++[t]) hnd
   exact ⟨h1,t::r,by rw [h2];simp⟩
def KeptE (m:Nat) (β β':Bmap):Prop:=∀ t,t < m->∀ bi,β t 0=some bi->β' t 0=some bi
theorem KeptE.refl (m:Nat) (β:Bmap):KeptE m β β:=fun _ _ _ h=>h
theorem KeptE.trans {m:Nat} {a b c:Bmap} (h:KeptE m a b) (h':KeptE m b c):KeptE m a c:=fun t ht bi e=>h' t ht bi (h t ht bi e)
theorem KeptE.of_le {m:Nat} (h:β.le β'):KeptE m β β':=fun t _ bi e=>h t 0 bi e
theorem Zlb (R:Rel base w0 I0 I β σ w) (m:Nat) (roots:List AVal):∃ β',KeptE m β β'/\Rel base w0 I0 I β' (gcA m roots σ).2 w/\ZeD (Zd σ m (Zj m roots σ)) β β':=by
 obtain ⟨hnd,r,hr⟩:=ZfO (σ:=σ) 1000 (ZX roots++(WJ m).flatMap fun t=>Zp (σ.getD t .free)) (WJ m) List.nodup_range
 have hids:Zj m roots σ=WJ m++r:=hr
 refine ⟨Zch σ m (Zj m roots σ) β,?_,R.pick hnd R.below R.old (fun t x b _ hx hb=>(R.own t x b hx hb).1) (fun t x b _ hx hb=>R.ro t x b hx hb),Zjo⟩
 intro t ht bi hb
 have h1:(Zj m roots σ)[t]?=some t:=by rw [hids,List.getElem?_append_left (by simpa using ht)];simp [ht]
 unfold Zch
 simp only [h1]
 cases hx:σ[t]? with
 | none =>
  have : β t 0=none:=R.fresh t 0 (by simpa using hx)
  rw [this] at hb;cases hb
 | some x =>
  simp only
  have hok:okB x=true:=by
   cases x with
   | free=>rw [R.free t 0 hx] at hb;cases hb
   | map es=>rfl
   | rmap es=>rfl
   | gmap=>rfl
   | siter=>rfl
   | opq=>rfl
   | book=>rfl
   | rrow=>rfl
   | var=>rfl
   | row=>rfl
   | frow=>rfl
  rw [if_pos hok]
  split
  ·rename_i e
   have : Zb x=0:=by
    unfold Zn at e
    by_cases h0:Zb x=0
    ·exact h0
    ·rw [if_pos ⟨ht,h0⟩] at e;cases e
   rw [this];exact hb
  ·rw [if_pos ⟨ht,trivial⟩];exact hb
theorem ZlQ:∀ (tm:Tms) (n:Nat),tget ((tm.map (·.1)).zip (ZW ρ (tm.map (·.2)))) n=Zi ρ (tget tm n)
 | [],n=>by simp [tget,Zi]
 | (d,v)::tm,n=>by
  simp only [Xu,ZW,Wd,tget]
  split
  ·rfl
  ·exact ZlQ tm n
theorem Zja (R:Rel base w0 I0 I β σ w) {tm:Tms} {tmps:Array Value} (T:TR I β tm tmps) (m:Nat):∃ β',KeptE m β β'/\Rel base w0 I0 I β' (gcT m tm σ).2 w/\TR I β' (gcT m tm σ).1 tmps:=by
 obtain ⟨β',h1,h2,h3⟩:=Zlb R m (tm.map (·.2))
 refine ⟨β',h1,h2,fun n=>?_⟩
 show VR I β' (tget ((tm.map (·.1)).zip (ZW _ (tm.map (·.2)))) n) _
 rw [ZlQ]
 exact Zfr h3 _ _ (T n)
def Ends (r:AVal) (e:Ending) (u:Value):Prop:=match r with
 | .pan _=>e=.panicked [{ v:=u,recovered:=false }]
 | _=>e=.returned u
def Zam:AVal->AVal
 | .pan x=>x
 | x=>x
def ZbG (m:Nat) (base:Nat->Prop) (w0:World) (I0 I:Imm) (β:Bmap) (r:AVal) (σ':Za) (u:Value) (w':World):Prop :=
 ∃ I' β',I.le I'/\KeptE m β β'/\Rel base w0 I0 I' β' σ' w'/\VR I' β' (Zam r) u
theorem Ends.ren {r:AVal} {e:Ending} {u:Value} (h:Ends r e u):Ends (Zi ρ r) e u:=by
 cases r <;> first
  | exact h
  | (simp only [Zi];split <;> exact h)
theorem Zfi {r:AVal} (h:∀ x,r≠.pan x):Zam r=r:=by
 cases r <;> first | rfl | exact absurd rfl (h _)
theorem Zpw {r:AVal} (h:∀ x,r≠.pan x):∀ x,Zi ρ r≠.pan x:=by
 intro x
 cases r <;> first
  | (intro e;simp only [Zi] at e;cases e;done)
  | exact absurd rfl (h _)
  | (simp only [Zi];split <;> simp)
theorem ZiQ (r:AVal):Zam (Zi ρ r)=Zi ρ (Zam r)\/∃ x,r=.pan x:=by
 by_cases h:∃ x,r=.pan x
 ·exact XE h
 ·have h':∀ x,r≠.pan x:=fun x e=>h ⟨x,e⟩
  exact Xw (by rw [Zfi (Zpw h'),Zfi h'])
theorem Zgk {m:Nat} {r r':AVal} {u:Value} (h:ZbG m base w0 I0 I β r σ u w) (he:ZaD m σ r=some (r',σ')):ZbG m base w0 I0 I β r' σ' u w/\∀ e,Ends r e u->Ends r' e u:=by
 obtain ⟨I1,β1,h1,h2,h3,h4⟩:=h
 obtain ⟨β2,g1,g2,g3⟩:=Zlb h3 m [r]
 unfold ZaD gcA at he
 simp only [ZW,Xa,Xb] at he
 obtain ⟨rfl,rfl⟩:=he
 refine ⟨⟨I1,β2,h1,h2.trans g1,g2,?_⟩,fun e he=>he.ren⟩
 have:=Zfr g3 _ _ h4
 rcases ZiQ (ρ:=Zd σ m (Zj m [r] σ)) r with e | ⟨x,rfl⟩
 ·rw [e];exact this
 ·exact this
theorem ZyR {m:Nat} {r r':AVal} {h h':Za} {u:Value} (hp:ZbG m base w0 I0 I β r h u w) (he:Zcz m (some (r,h))=some (r',h')):ZbG m base w0 I0 I β r' h' u w/\∀ e,Ends r e u->Ends r' e u:=by
 by_cases hpan:∃ x,r=.pan x
 ·obtain ⟨x,rfl⟩:=hpan
  simp only [Zcz,Xa,Xb] at he
  obtain ⟨rfl,rfl⟩:=he
  exact ⟨hp,fun _ h=>h⟩
 ·have hv0:Zam r=r:=by cases r <;> first | rfl | exact absurd ⟨_,rfl⟩ hpan
  have hends:∀ e,Ends r e u->e=.returned u:=by
   intro e h
   cases r <;> first | exact h | exact absurd ⟨_,rfl⟩ hpan
  have he':(match viewR h r with
   | some (r',ts)=>match gcA m [r'] (Zs h ts) with
    | ([r''],σ')=>some (r'',σ')
    | _=>none
   | none=>none)=some (r',h'):=by
   cases r <;> first | exact he | exact absurd ⟨_,rfl⟩ hpan
  split at he'
  ·rename_i r1 ts hview
   obtain ⟨I1,β1,h1,h2,h3,h4⟩:=hp
   rw [hv0] at h4
   obtain ⟨I2,k1,k2,k3,_,k5,_,_⟩:=Zfw ts h3
   have hres:=Zql k2 (k5 (Zoq hview)) (by rw [k3.viewR];exact hview) (h4.mono k1 (Bmap.le.refl β1) _ _)
   have hnp:∀ x,r1≠.pan x:=by rintro x rfl;simp only [VR] at hres
   have hv1:Zam r1=r1:=by cases r1 <;> first | rfl | exact absurd rfl (hnp _)
   have ho:ZaD m (Zs h ts) r1=some (r',h'):=he'
   obtain ⟨q1,q2⟩:=Zgk (⟨I2,β1,h1.trans k1,h2,k2,by rw [hv1];exact hres.mono (Imm.le.refl I2) (Zga β1) _ _⟩:ZbG m base w0 I0 I β r1 (Zs h ts) u w) ho
   refine ⟨q1,fun e he=>q2 e ?_⟩
   rw [hends e he]
   cases r1 <;> first | rfl | exact absurd rfl (hnp _)
  ·cases he'
end
end
section
open Go.RowKit
def Zad (P:Program) (O:ZZ):Prop:=∀ f args σ r σ',O f args σ=some (r,σ') ->
 (∃ fn,P.funcs[f]?=some fn/\fn.body.isSome=true/\(fn.name == "runtime.NumGoroutine")=false) /\
 ∀ base w0 I0 I β w (vs:Array Value),KLt base w0->Rel base w0 I0 I β σ w->VRs I β args vs.toList ->
  Calls P f vs w (fun e w'=>∃ u,Ends r e u/\ZbG σ.length base w0 I0 I β r σ' u w')
section
variable {P:Program} {base:Nat->Prop} {w0 w w':World} {I0 I I':Imm} {β β':Bmap} {σ σ':Za} {tm:Tms}
theorem Zh6 {a:Act} (T:TR I β tm a.tmps):∀ {xs:List Operand} {ys:List Opd},Zck xs=some ys->VRs I β (ys.map fun y=>y.ev tm) (xs.map a.eval)
 | [],ys,h=>by simp only [Zck,Xa] at h;subst h;simp [VRs]
 | x::xs,ys,h=>by
  simp only [Zck] at h
  split at h
  ·rename_i y hy
   split at h
   ·rename_i ys' hys
    injection h with h;subst h
    simp only [Xu,VRs]
    exact ⟨_,_,rfl,Z8 T hy,Zh6 T hys⟩
   ·cases h
  ·cases h
theorem Zf9 {a:Act} (T:TR I β tm a.tmps) {x:Option Operand} {y:Option Opd} (h:Ze5 x=some y):OVR I β (y.map fun y=>y.ev tm) (x.map a.eval):=by
 cases x with
 | none=>simp only [Ze5,Xa] at h;subst h;rfl
 | some x =>
  simp only [Ze5,Xn] at h
  obtain ⟨y',h1,rfl⟩:=h
  exact ⟨_,rfl,Z8 T h1⟩
theorem Ziw {f:FuncId} {args:Array Value} {fn:Func} (h1:P.funcs[f]?=some fn) (h2:fn.body.isSome=true) (h3:(fn.name == "runtime.NumGoroutine")=false):(callFunc f args).run P w=.ok (.enter f args) w:=by
 have h2':fn.body.isNone=false:=by cases hb:fn.body <;> simp_all
 have h3':¬fn.name = "runtime.NumGoroutine":=by simpa using h3
 have h2'':fn.body≠none:=by cases hb:fn.body <;> simp_all
 simp [callFunc,h1,h2'',h3']
section
variable {ids:List Nat} {sq:Nat} {ρ:Rho}
theorem Zgc {σ0:Za} {t:Nat}:∀ {h:Za} {j:Nat} {σ:Za},(∀ i,i < h.length->ZaL ids sq (j+i)≠t)->(ZbX σ0 ids sq h j σ)[t]?=σ[t]?
 | [],j,σ,_=>rfl
 | b::bs,j,σ,hn=>by
  simp only [ZbX]
  rw [Zgc (fun i hi=>by have:=hn (i+1) (by simp;omega);rwa [show j+(i+1)=j+1+i by omega] at this),Xk,if_neg (by have:=hn 0 (by simp);simpa using this)]
theorem ZkT {σ0:Za}:∀ {h:Za} {j i:Nat} {σ:Za} {b:ZV},(∀ i i',i < h.length->i' < h.length->ZaL ids sq (j+i)=ZaL ids sq (j+i')->i=i')->h[i]?=some b->ZaL ids sq (j+i) < σ.length ->
  (ZbX σ0 ids sq h j σ)[ZaL ids sq (j+i)]?=some (Zh (Zby σ0 ids sq) (Zcu σ0 ids (j+i) b) b)
 | [],j,i,σ,b,_,h,_=>by simp at h
 | b'::bs,j,0,σ,b,hinj,h,hlt=>by
  simp only [XI,Xa] at h
  subst h
  simp only [ZbX,Wm] at hlt ⊢
  rw [Zgc,Xk,if_pos rfl,if_pos hlt]
  intro i hi e
  have:=hinj (i+1) 0 (by simp;omega) (by simp) (by rw [show j+(i+1)=j+1+i by omega];simpa using e)
  omega
 | b'::bs,j,i+1,σ,b,hinj,h,hlt=>by
  simp only [XW] at h
  simp only [ZbX]
  rw [show j+(i+1)=j+1+i by omega] at hlt ⊢
  refine ZkT (fun a a' ha ha' e=>?_) h (by simpa using hlt)
  have:=hinj (a+1) (a'+1) (by simp;omega) (by simp;omega) (by rw [show j+(a+1)=j+1+a by omega,show j+(a'+1)=j+1+a' by omega];exact e)
  omega
theorem Zlu {σ0:Za}:∀ {h:Za} {j:Nat} {σ:Za},(ZbX σ0 ids sq h j σ).length=σ.length
 | [],j,σ=>rfl
 | b::bs,j,σ=>by simp only [ZbX];rw [Zlu];simp
theorem ZeT {σ0:Za}:∀ {h:Za} {j i:Nat} {b:ZV},ZcS σ0 ids h j=true->h[i]?=some b->okB b=true/\(match ids[j+i]? with
  | some t=>Zfb (σ0.getD t .free) b=true/\Zb b<=1
  | none=>Zb b=0/\ZdH b=false)
 | [],j,i,b,_,h=>by simp at h
 | b'::bs,j,0,b,hok,h=>by
  simp only [XI,Xa] at h
  subst h
  simp only [ZcS,Xl] at hok
  refine ⟨hok.1.1,?_⟩
  rw [Wm]
  have:=hok.1.2
  revert this
  cases ids[j]? with
  | none=>intro h;simpa using h
  | some t=>intro h;simpa using h
 | b'::bs,j,i+1,b,hok,h=>by
  simp only [XW] at h
  simp only [ZcS,Xl] at hok
  have:=ZeT hok.2 h
  rwa [show j+1+i=j+(i+1) by omega] at this
theorem Zq9 {x y:ZV} (hy:Zdh y=true) (h:Zfb x y=true):Zb x=0:=by
 cases x <;> cases y <;> first | rfl | (simp [Zfb] at h;done) | (simp [Zdh] at hy;done)
theorem Zlv {y:ZV} (hy:Zdh y=true):Zb y=0:=by
 cases y <;> first | rfl | (simp [Zdh] at hy;done)
theorem ZgP:∀ {n sq i:Nat},Zdq σ sq n=true->i < n->σ[sq+i]?=some .free
 | 0,_,_,_,hi=>by omega
 | n+1,sq,0,h,_=>by
  simp only [Zdq,Xl] at h
  have:=h.1
  unfold freeAt at this
  split at this
  ·rename_i e;simpa using e
  ·cases this
 | n+1,sq,i+1,h,hi=>by
  simp only [Zdq,Xl] at h
  have:=ZgP (i:=i) h.2 (by omega)
  rwa [show sq+1+i=sq+(i+1) by omega] at this
theorem ZlX {t:Nat}:∀ {ids:List Nat} {i j:Nat},ids.Nodup->ids[j]?=some t->Zm t ids i=some (i+j)
 | [],i,j,_,h=>by simp at h
 | x::xs,i,0,_,h=>by
  simp only [XI,Xa] at h
  simp [Zm,h]
 | x::xs,i,j+1,hn,h=>by
  simp only [XW] at h
  rw [Wi] at hn
  have hne:x≠t:=by rintro rfl;exact hn.1 (Xs h)
  simp only [Zm,hne,if_false]
  rw [ZlX hn.2 h]
  congr 1;omega
theorem ZjP {t:Nat}:∀ {ids:List Nat} {i:Nat},t ∉ ids->Zm t ids i=none
 | [],i,_=>rfl
 | x::xs,i,h=>by
  simp only [XL,not_or] at h
  have hne:x≠t:=fun e=>h.1 e.symm
  simp only [Zm,hne,if_false]
  exact ZjP h.2
def Zdt (σ:Za) (ids:List Nat) (sq n:Nat) (β β1:Bmap):Bmap:=fun t g=>match Zm t ids 0 with
 | some j=>if g<=Zb (σ.getD t .free) then β t g else if g=Zb (σ.getD t .free)+1 then β1 j 1 else none
 | none=>if sq<=t/\t < sq+n then (if g=0 then β1 (ids.length+(t - sq)) 0 else none) else β t g
theorem Rel.back {Ic:Imm} {βc:Bmap} {h:Za} {n:Nat} (R:Rel base w0 I0 I β σ w) (hb:KLt base w0) (hnd:ids.Nodup) (hok:ids.all (fun t=>okB (σ.getD t .free))=true)
  (Rc:Rel (fun b=>b < w.heap.size/\∀ t ∈ ids,∀ x,σ[t]?=some x->¬Ze w β t x b) w I Ic βc h w') (hI:I.le Ic) (hkept:KeptE ids.length (Zch σ 0 ids β) βc)
  (h1:h.length<=ids.length+n) (h2:ids.length<=h.length) (h3:ZcS σ ids h 0=true) (h4:Zdq σ sq n=true) :
  ∃ β2,β.le β2/\Rel base w0 I0 Ic β2 (ZbX σ ids sq h 0 σ) w'/\ZeD (Zby σ ids sq) βc β2:=by
 have hbw:=R.base_le hb
 have hblk:∀ t,t ∈ ids->∃ x,σ[t]?=some x/\okB x=true/\σ.getD t .free=x/\∃ bi,β t (Zb x)=some bi:=by
  intro t ht
  have h0:=XM.1 hok t ht
  cases hx:σ[t]? with
  | none=>simp [Xj,hx,okB] at h0
  | some x =>
   have hd:σ.getD t .free=x:=by simp [Xj,hx]
   rw [hd] at h0
   refine ⟨x,rfl,h0,hd,?_⟩
   have hB:=R.blk t x hx
   cases x with
   | free=>simp [okB] at h0
   | map es=>obtain ⟨b,k,c,_,_,e,_⟩:=hB;exact ⟨_,e⟩
   | siter l p=>obtain ⟨b,k,c,e,_⟩:=hB;exact ⟨_,e⟩
   | opq=>exact hB
   | rmap es=>obtain ⟨b,k,c,_,_,e,_⟩:=hB;exact ⟨_,e⟩
   | gmap k es=>obtain ⟨b,k',c,e,_⟩:=hB;exact ⟨_,e⟩
   | book n p=>obtain ⟨b,k,c,vs,e,_⟩:=hB;exact ⟨_,e⟩
   | rrow g k xs=>obtain ⟨bi,e,_⟩:=hB;exact ⟨_,e⟩
   | var cs=>obtain ⟨b,k,c,us,ty,e,_⟩:=hB;exact ⟨_,e⟩
   | row g k xs=>obtain ⟨bi,e,_⟩:=hB;exact ⟨_,e⟩
   | frow g k xs=>obtain ⟨bi,e,_⟩:=hB;exact ⟨_,e⟩
 have hnot:∀ i,i < n->sq+i ∉ ids:=by
  intro i hi hm
  obtain ⟨x,hx,hk,_⟩:=hblk _ hm
  rw [ZgP h4 hi] at hx
  injection hx with hx;subst hx;simp [okB] at hk
 have tgt_ids:∀ j t,ids[j]?=some t->ZaL ids sq j=t:=by intro j t ht;simp [ZaL,Xj,ht]
 have tgt_new:∀ j,ids.length<=j->ZaL ids sq j=sq+(j - ids.length):=by intro j hj;simp [ZaL,Xj,XV hj]
 have split_j:∀ j,j < h.length->(∃ t,ids[j]?=some t/\t ∈ ids/\ZaL ids sq j=t)\/(ids.length<=j/\ids[j]?=none/\j - ids.length < n/\ZaL ids sq j=sq+(j - ids.length)):=by
  intro j hj
  by_cases hlt:j < ids.length
  ·have e:ids[j]?=some ids[j]:=XB hlt
   exact Xw ⟨ids[j],e,List.getElem_mem hlt,tgt_ids _ _ e⟩
  ·exact XE ⟨by omega,XV (by omega),by omega,tgt_new j (by omega)⟩
 have inj:∀ i i',i < h.length->i' < h.length->ZaL ids sq (0+i)=ZaL ids sq (0+i')->i=i':=by
  intro i i' hi hi' e
  rw [XF,XF] at e
  rcases split_j i hi with ⟨t,a1,a2,a3⟩ | ⟨a1,_,a3,a4⟩ <;> rcases split_j i' hi' with ⟨t',b1,b2,b3⟩ | ⟨b1,_,b3,b4⟩
  ·rw [a3,b3] at e;subst e
   exact (XaW (Xd.1 a1).1 hnd).1 (a1.trans b1.symm)
  ·rw [a3,b4] at e;subst e;exact absurd a2 (hnot _ b3)
  ·rw [a4,b3] at e;subst e;exact absurd b2 (hnot _ a3)
  ·rw [a4,b4] at e;omega
 have tlt:∀ j,j < h.length->ZaL ids sq j < σ.length:=by
  intro j hj
  rcases split_j j hj with ⟨t,a1,a2,a3⟩ | ⟨a1,_,a3,a4⟩
  ·rw [a3]
   obtain ⟨x,hx,_⟩:=hblk t a2
   exact (Xd.1 hx).1
  ·rw [a4];exact (Xd.1 (ZgP h4 a3)).1
 have look:∀ t x',(ZbX σ ids sq h 0 σ)[t]?=some x'->(∃ j b,h[j]?=some b/\t=ZaL ids sq j/\x'=Zh (Zby σ ids sq) (Zcu σ ids j b) b)\/((∀ j,j < h.length->ZaL ids sq j≠t)/\σ[t]?=some x'):=by
  intro t x' hx
  by_cases hex:∃ j,j < h.length/\ZaL ids sq j=t
  ·obtain ⟨j,hj,rfl⟩:=hex
   have:=ZkT (σ0:=σ) (σ:=σ) (j:=0) (i:=j) inj (XB hj) (by rw [XF];exact tlt j hj)
   rw [XF] at this
   rw [this] at hx
   injection hx with hx
   exact Xw ⟨j,h[j],XB hj,rfl,hx.symm⟩
  ·have hn:∀ j,j < h.length->ZaL ids sq j≠t:=fun j hj e=>hex ⟨j,hj,e⟩
   rw [Zgc (fun i hi=>by rw [XF];exact hn i hi)] at hx
   exact XE ⟨hn,hx⟩
 have out:∀ t,(∀ j,j < h.length->ZaL ids sq j≠t)->t ∉ ids/\∀ g,Zdt σ ids sq (h.length - ids.length) β βc t g=β t g:=by
  intro t hn
  have h0:t ∉ ids:=by
   intro hm
   obtain ⟨j,hj⟩:=List.mem_iff_getElem?.1 hm
   exact hn j (by have:=(Xd.1 hj).1;omega) (tgt_ids j t hj)
  refine ⟨h0,fun g=>?_⟩
  unfold Zdt
  rw [ZjP h0]
  simp only
  rw [if_neg]
  rintro ⟨q1,q2⟩
  exact hn (ids.length+(t - sq)) (by omega) (by rw [tgt_new _ (by omega)];omega)
 have atIds:∀ j t,ids[j]?=some t->∀ g,Zdt σ ids sq (h.length - ids.length) β βc t g=if g<=Zb (σ.getD t .free) then β t g else if g=Zb (σ.getD t .free)+1 then βc j 1 else none:=by
  intro j t hj g
  unfold Zdt
  rw [ZlX hnd hj]
  simp only [XF]
 have atNew:∀ i,i < h.length - ids.length->∀ g,Zdt σ ids sq (h.length - ids.length) β βc (sq+i) g=if g=0 then βc (ids.length+i) 0 else none:=by
  intro i hi g
  unfold Zdt
  rw [ZjP (hnot i (by omega))]
  simp only
  rw [if_pos ⟨by omega,by omega⟩,show sq+i - sq=i by omega]
 have hle:β.le (Zdt σ ids sq (h.length - ids.length) β βc):=by
  intro t g bi e
  by_cases hex:∃ j,j < h.length/\ZaL ids sq j=t
  ·obtain ⟨j,hj,rfl⟩:=hex
   rcases split_j j hj with ⟨t,a1,a2,a3⟩ | ⟨a1,_,a3,a4⟩
   ·rw [a3] at e ⊢
    rw [atIds j t a1]
    obtain ⟨x,hx,_,hd,_⟩:=hblk t a2
    rw [if_pos]
    ·exact e
    ·rcases XaA (Zb (σ.getD t .free)) g with hlt | hge
     ·rw [hd] at hlt;rw [R.gen t x g hx hlt] at e;cases e
     ·exact hge
   ·rw [a4] at e
    rw [R.free _ g (ZgP h4 a3)] at e;cases e
  ·rw [(out t fun j hj e=>hex ⟨j,hj,e⟩).2];exact e
 have kept:∀ j t,ids[j]?=some t->∀ bi,βc j 0=some bi->β t (Zb (σ.getD t .free))=some bi:=by
  intro j t hj bi e
  obtain ⟨x,hx,hk,hd,bi0,hb0⟩:=hblk t (Xs hj)
  have hp:Zch σ 0 ids β j 0=some bi0:=by
   unfold Zch
   simp only [hj,hx,hk,if_true]
   rw [if_pos (by simp [Zn])];exact hb0
  have:=hkept j (Xd.1 hj).1 bi0 hp
  rw [this] at e;injection e with e;subst e
  rw [hd];exact hb0
 have hρ:ZeD (Zby σ ids sq) βc (Zdt σ ids sq (h.length - ids.length) β βc):=by
  intro j g t' g' bi hr hbi
  have hjlt:j < h.length:=by
   rcases XaA j h.length with hlt | hge
   ·exact hlt
   ·rw [Rc.fresh j g hge] at hbi;cases hbi
  have hj':=XB hjlt
  obtain ⟨k1,k2⟩:=ZeT h3 hj'
  rw [XF] at k2
  have hgen:¬Zb h[j] < g:=fun hlt=>by rw [Rc.gen j _ g hj' hlt] at hbi;cases hbi
  rcases split_j j hjlt with ⟨t,a1,a2,a3⟩ | ⟨a1,a2,a3,a4⟩
  ·simp only [Zby,a1,Xa,Xb] at hr
   obtain ⟨rfl,rfl⟩:=hr
   rw [a1] at k2
   rw [atIds j _ a1]
   have : g=0\/g=1:=by omega
   rcases this with rfl | rfl
   ·rw [if_pos (by omega)];exact kept j _ a1 bi hbi
   ·rw [if_neg (by omega),if_pos rfl];exact hbi
  ·simp only [Zby,a2,Xa,Xb] at hr
   obtain ⟨rfl,rfl⟩:=hr
   rw [a2] at k2
   have : g=0:=by have:=k2.1;omega
   subst this
   rw [atNew _ (by omega),if_pos rfl,show ids.length+(j - ids.length)=j by omega]
   exact hbi
 have hvar:∀ j b,h[j]?=some b->Zdh b=true->Zcu σ ids j b=0:=by
  intro j b hj e
  have hjlt:=(Xd.1 hj).1
  obtain ⟨k1,k2⟩:=ZeT h3 hj
  rw [XF] at k2
  unfold Zcu
  rcases split_j j hjlt with ⟨t,a1,a2,a3⟩ | ⟨a1,a2,a3,a4⟩
  ·rw [a1] at k2 ⊢
   simp only at k2 ⊢
   obtain ⟨x,hx,hk,hd,_⟩:=hblk t a2
   rw [hd] at k2 ⊢
   rw [Zq9 e k2.1,Zlv e]
  ·rw [a2];exact Zlv e
 have hβg:∀ j b,h[j]?=some b->∀ bi,βc j (Zb b)=some bi->Zdt σ ids sq (h.length - ids.length) β βc (ZaL ids sq j) (Zcu σ ids j b)=some bi:=by
  intro j b hj bi e
  have hjlt:=(Xd.1 hj).1
  refine hρ j (Zb b) _ _ bi ?_ e
  rcases split_j j hjlt with ⟨t,a1,a2,a3⟩ | ⟨a1,a2,a3,a4⟩
  ·simp only [Zby,Zcu,a1,a3]
  ·simp only [Zby,Zcu,a2,a4]
 have hKK:∀ b,base b->b < w.heap.size/\∀ t ∈ ids,∀ x,σ[t]?=some x->¬Ze w β t x b:=by
  intro b hB
  exact ⟨hbw b hB,fun t _ x hx e=>(R.own t x b hx e).1 hB⟩
 have hown:∀ j b,h[j]?=some b->Ze w' (Zdt σ ids sq (h.length - ids.length) β βc) (ZaL ids sq j) (Zh (Zby σ ids sq) (Zcu σ ids j b) b)=Ze w' βc j b:=fun j b hj =>
  Znj (hβg j b hj) (hvar j b hj) (Rc.blk j b hj)
 have oth:∀ t x b,t ∉ ids->σ[t]?=some x->Ze w β t x b->b < w.heap.size/\∀ t ∈ ids,∀ x,σ[t]?=some x->¬Ze w β t x b:=by
  intro t x b hn hx hbb
  refine ⟨(R.blk t x hx).owns_lt hbb,fun t' ht' x' hx' e=>hn ?_⟩
  rw [R.apart t x t' x' b hx hx' hbb e];exact ht'
 have cv:∀ t x b,t ∉ ids->σ[t]?=some x->Ze w' (Zdt σ ids sq (h.length - ids.length) β βc) t x b->Ze w β t x b:=fun t x b hn hx=>((R.blk t x hx).owns_at hle (fun b hbb=>Rc.below.block b (oth t x b hn hx hbb)) b).1
 refine ⟨_,hle,⟨R.below.trans (Rc.below.mono hKK),fun b o hB=>(Rc.old b o (hKK b hB)).trans (R.old b o hB),Rc.imm,?_,?_,?_,?_,?_,?_,Rc.glob,?_⟩,hρ⟩
 ·intro t x' hx
  rcases look t x' hx with ⟨j,b,hj,rfl,rfl⟩ | ⟨hn,hx⟩
  ·exact ZmF hρ (hβg j b hj) (hvar j b hj) (Rc.blk j b hj)
  ·refine (R.blk t x' hx).keep hI hle (fun b hbb=>Rc.below.block b (oth t x' b (out t hn).1 hx hbb)) (fun b hs=>Rc.below.block b (hKK b (R.ro t x' b hx hs)))
 ·intro t x' b hx hbb
  rcases look t x' hx with ⟨j,b',hj,rfl,rfl⟩ | ⟨hn,hx⟩
  ·rw [hown j b' hj] at hbb
   have:=Rc.own j b' b hj hbb
   exact ⟨fun hB=>this.1 (hKK b hB),this.2⟩
  ·replace hbb:=cv t x' b (out t hn).1 hx hbb
   refine ⟨(R.own t x' b hx hbb).1,fun o=>?_⟩
   rw [Rc.old b o (oth t x' b (out t hn).1 hx hbb)]
   exact (R.own t x' b hx hbb).2 o
 ·intro t x t' x' b hx hx' hbb hbb'
  rcases look t x hx with ⟨j,c,hj,rfl,rfl⟩ | ⟨hn,hx⟩ <;> rcases look t' x' hx' with ⟨j',c',hj',rfl,rfl⟩ | ⟨hn',hx'⟩
  ·rw [hown j c hj] at hbb;rw [hown j' c' hj'] at hbb'
   rw [Rc.apart j c j' c' b hj hj' hbb hbb']
  ·rw [hown j c hj] at hbb;replace hbb':=cv t' x' b (out t' hn').1 hx' hbb'
   exact absurd (oth t' x' b (out t' hn').1 hx' hbb') (Rc.own j c b hj hbb).1
  ·rw [hown j' c' hj'] at hbb';replace hbb:=cv t x b (out t hn).1 hx hbb
   exact absurd (oth t x b (out t hn).1 hx hbb) (Rc.own j' c' b hj' hbb').1
  ·replace hbb:=cv t x b (out t hn).1 hx hbb;replace hbb':=cv t' x' b (out t' hn').1 hx' hbb'
   exact R.apart t x t' x' b hx hx' hbb hbb'
 ·intro t g ht
  rw [Zlu] at ht
  have hn:∀ j,j < h.length->ZaL ids sq j≠t:=fun j hj e=>by have:=tlt j hj;omega
  rw [(out t hn).2];exact R.fresh t g ht
 ·intro t g hx
  rcases look t _ hx with ⟨j,b,hj,rfl,e⟩ | ⟨hn,hx⟩
  ·have:=(ZeT h3 hj).1
   cases b <;> first | (simp [okB] at this;done) | (simp only [Zh] at e;cases e;done)
  ·rw [(out t hn).2];exact R.free t g hx
 ·intro t x' g hx hg
  rcases look t _ hx with ⟨j,b,hj,rfl,rfl⟩ | ⟨hn,hx⟩
  ·obtain ⟨k1,k2⟩:=ZeT h3 hj
   rw [XF] at k2
   rw [ZnB (hvar j b hj) k1] at hg
   have hjlt:=(Xd.1 hj).1
   rcases split_j j hjlt with ⟨t,a1,a2,a3⟩ | ⟨a1,a2,a3,a4⟩
   ·rw [a3,atIds j t a1]
    simp only [Zcu,a1] at hg
    rw [if_neg (by omega)]
    split
    ·rename_i e
     exact Rc.gen j b 1 hj (by omega)
    ·rfl
   ·rw [a4,atNew _ (by omega)]
    rw [if_neg (by omega)]
  ·rw [(out t hn).2];exact R.gen t x' g hx hg
 ·intro t x' b hx hb'
  rcases look t x' hx with ⟨j,b',hj,rfl,rfl⟩ | ⟨hn,hx⟩
  ·rw [Znx (hβg j b' hj) (hvar j b' hj) (Rc.blk j b' hj)] at hb'
   have hjlt:=(Xd.1 hj).1
   obtain ⟨k1,k2⟩:=ZeT h3 hj
   rw [XF] at k2
   cases b' with
   | rmap es =>
    rcases split_j j hjlt with ⟨t,a1,a2,a3⟩ | ⟨a1,a2,a3,a4⟩
    ·rw [a1] at k2
     simp only at k2
     obtain ⟨x,hx,hk,hd,_⟩:=hblk t a2
     obtain ⟨b2,k,c,_,_,e1,_⟩:=Rc.blk j _ hj
     have e2:=kept j t a1 _ e1
     rw [hd] at k2 e2
     cases x <;> simp [Zfb] at k2
     rename_i es'
     refine R.ro t _ b hx ?_
     simp only [ZbF,e1,X9,Xa] at hb'
     subst hb'
     have e3:β t 0=some ⟨some b2,k,c⟩:=e2
     simp [ZbF,e3]
    ·rw [a2] at k2
     simp at k2
   | _=>cases hb'
  ·exact R.ro t x' b hx (((R.blk t x' hx).sees_at hle b).1 hb')
end
theorem Rel.after_flat {Ic I1:Imm} {βc:Bmap} {σc:Za} {K':Nat->Prop} (R:Rel base w0 I0 I β σ w) (hb:KLt base w0) (hK:∀ b,b < w.heap.size->K' b) (Rc:Rel K' w I1 Ic βc σc w'):Rel base w0 I0 I β σ w':=by
 have hbw:=R.base_le hb
 refine R.stay (Imm.le.refl I) (Rc.below.mono fun b h=>hK b (hbw b h)) (fun _ _ _=>rfl) (fun b o u h=>?_) (fun t x b h hb'=>⟨Rc.below.block b (hK b ((R.blk t x h).owns_lt hb')),(R.own t x b h hb').2⟩)
 have:=R.imm b o u h
 have hlt:=Zde this
 rw [<-this]
 simp only [World.cell?,Rc.below.block b (hK b hlt)]
theorem ZxI {I I':Imm} {β β':Bmap} {r:AVal} {u:Value} (hf:Zbg r=true) (h:VR I β (Zam r) u):VR I' β' (Zam r) u:=by
 by_cases hp:∃ x,r=.pan x
 ·obtain ⟨x,rfl⟩:=hp
  simp only [Zam] at h ⊢
  cases x <;> simp only [Zbg,ZaS,ZaJ] at hf <;> first | (cases hf;done) | skip
  case iface t x =>
   simp only [VR] at h ⊢
   obtain ⟨u',h1,h2⟩:=h
   exact ⟨u',h1,Zg7 hf h2⟩
 ·have hn:∀ x,r≠.pan x:=fun x e=>hp ⟨x,e⟩
  rw [Zfi hn] at h ⊢
  exact Zzd hf h
theorem Zne {I I':Imm} {β β':Bmap} (hI:∀ b o n,I b o=some (.int .u8 n)->I' b o=some (.int .u8 n)):∀ {xs:List AVal} {b off:Nat},xs.all Ziu=true->∀ {k:Nat},LR I β k xs b off->LR I' β' k xs b off
 | [],_,_,_,_,_=>by simp only [LR]
 | x::xs,b,off,hx,k,h=>by
  simp only [List.all_cons,Xl] at hx
  have ih:=fun (h:LR I β k xs b (off+k))=>Zne (β':=β') hI hx.2 h
  have hx1:=hx.1
  unfold Ziu at hx1
  split at hx1
  ·simp only [LR,VR] at h ⊢
   obtain ⟨⟨h0,u,h1,h2⟩,h3⟩:=h
   subst h2
   exact ⟨⟨h0,_,hI _ _ _ h1,rfl⟩,ih h3⟩
  ·cases hx1
theorem ZmZ {I I':Imm} {β β':Bmap} (hI:∀ b o n,I b o=some (.int .u8 n)->I' b o=some (.int .u8 n)) {x:AVal} {v:Value} (hf:Zgn x=true) (h:VR I β x v):VR I' β' x v:=by
 unfold Zgn at hf
 split at hf
 ·simp only [VR] at h ⊢
  obtain ⟨A,cap,h1,h2,h3,h4,h5,h6⟩:=h
  refine ⟨A,cap,h1,h2,h3,h4,?_,h6⟩
  rcases h5 with h5 | ⟨b,off,k,e,hk,h5⟩
  ·exact Xw h5
  ·exact XE ⟨b,off,k,e,hk,Zne hI hf h5⟩
 ·exact Zg7 hf h
theorem Zns {I I':Imm} {β β':Bmap} (hI:∀ b o n,I b o=some (.int .u8 n)->I' b o=some (.int .u8 n)) {x:AVal} {v:Value} (hf:ZgL x=true) (h:VR I β x v):VR I' β' x v:=by
 unfold ZgL at hf
 split at hf
 ·rename_i cs
  simp only [VR] at h ⊢
  obtain ⟨us,rfl,h⟩:=h
  exact ⟨us,rfl,Zda (Zaa h) (fun i x v hx hv=>by
   obtain ⟨v',h1,h2⟩:=Zcc h hx
   rw [hv] at h1;injection h1 with h1;subst h1
   exact ZmZ hI (XM.1 hf x (Xs hx)) h2)⟩
 ·exact ZmZ hI hf h
theorem Zvq {I I':Imm} {β β':Bmap} (hI:∀ b o n,I b o=some (.int .u8 n)->I' b o=some (.int .u8 n)) {x:AVal} {v:Value} (hf:Zgx x=true) (h:VR I β x v):VR I' β' x v:=by
 unfold Zgx at hf
 split at hf
 ·rename_i cs
  simp only [VR] at h ⊢
  obtain ⟨us,rfl,h⟩:=h
  exact ⟨us,rfl,Zda (Zaa h) (fun i x v hx hv=>by
   obtain ⟨v',h1,h2⟩:=Zcc h hx
   rw [hv] at h1;injection h1 with h1;subst h1
   exact Zns hI (XM.1 hf x (Xs hx)) h2)⟩
 ·exact Zns hI hf h
theorem Rel.after_bytes {I1 Ic:Imm} {βc:Bmap} {σc:Za} {K':Nat->Prop} {r:AVal} {u:Value} (R:Rel base w0 I0 I β σ w) (hb:KLt base w0) (hK:∀ b,b < w.heap.size->K' b) (Rc:Rel K' w I1 Ic βc σc w') (h1:I.le I1) (h2:I1.le Ic)
  (hn:∀ b o n,I1 b o=some (.int .u8 n)->I b o=some (.int .u8 n)) (hf:Zgx r=true) (hv:VR Ic βc (Zam r) u):Post base w0 I0 I β (Zam r) σ u w':=by
 have hbw:=R.base_le hb
 let J:Imm:=fun b o=>if b < w.heap.size then I b o else Ic b o
 have hle:I.le J:=by
  intro b o u hu
  have hlt:=Zde (R.imm b o u hu)
  simp only [J,hlt,if_true];exact hu
 have hJ:∀ b o n,Ic b o=some (.int .u8 n)->J b o=some (.int .u8 n):=by
  intro b o n hu
  by_cases hlt:b < w.heap.size
  ·simp only [J,hlt,if_true]
   rw [Rc.old b o (hK b hlt)] at hu
   exact hn b o n hu
  ·simp only [J,hlt,if_false];exact hu
 have hval:Zam r=r:=Zfi (fun x e=>by subst e;simp [Zgx,ZgL,Zgn,ZaJ] at hf)
 rw [hval] at hv ⊢
 refine Post.mk hle (Bmap.le.refl β) (R.stay hle (Rc.below.mono fun b h=>hK b (hbw b h)) ?_ ?_ ?_) (Zvq hJ hf hv)
 ·intro b o hb'
  simp only [J,hbw b hb',if_true]
 ·intro b o u hu
  by_cases hlt:b < w.heap.size
  ·simp only [J,hlt,if_true] at hu
   rw [<-R.imm b o u hu]
   simp only [World.cell?,Rc.below.block b (hK b hlt)]
  ·simp only [J,hlt,if_false] at hu
   exact Rc.imm b o u hu
 ·intro t x b hx hb'
  have hlt:=(R.blk t x hx).owns_lt hb'
  refine ⟨Rc.below.block b (hK b hlt),fun o=>?_⟩
  simp only [J,hlt,if_true]
  exact (R.own t x b hx hb').2 o
theorem Zvj {xs:List AVal} (h:xs.all ZaS=true):(xs.flatMap AVal.cells).all ZaJ=true:=by
 rw [XM] at h ⊢
 intro x hx
 obtain ⟨y,hy,hxy⟩:=Wh.1 hx
 have:=h y hy
 cases y
 case agg cs=>exact XM.1 this x hxy
 all_goals (simp only [AVal.cells,XZ] at hxy;subst hxy;exact this)
theorem Rel.clone {Ic I1:Imm} {βc:Bmap} {K':Nat->Prop} {sq k lo n:Nat} {xs:List AVal} {u:Value} (R:Rel base w0 I0 I β σ w) (hb:KLt base w0) (hK:∀ b,b < w.heap.size->K' b) (Rc:Rel K' w I1 Ic βc [.row 0 k xs] w') (hs:σ[sq]?=some .free) (hf:xs.all ZaS=true)
  (hv:VR Ic βc (.sl 0 0 lo n) u):Post base w0 I0 I β (.sl sq 0 lo n) (σ.set sq (.row 0 k xs)) u w':=by
 have R':=R.after_flat hb hK Rc
 obtain ⟨bi,h1,h2,h3,h4,h5,h6,h7,h8⟩:=Rc.blk 0 _ rfl
 have hle:β.le (β.put sq 0 bi):=Bmap.put_le (R.free sq 0 hs)
 have hbw:=R.base_le hb
 have hsl:sq < σ.length:=(Xd.1 hs).1
 have hnew:∀ b,bi.b=some b->¬b < w.heap.size:=by
  intro b e hlt
  exact (Rc.own 0 (.row 0 k xs) b rfl (by simp [Ze,h1,e])).1 (hK b hlt)
 have hown:∀ b,Ze w' (β.put sq 0 bi) sq (.row 0 k xs) b->bi.b=some b:=by
  intro b e
  simpa [Ze,Bmap.put_same] using e
 refine Post.mk (Imm.le.refl I) hle (R'.upd (Imm.le.refl I) hle (KB.refl base w') (fun _ _ _=>rfl) R'.imm sq _ rfl hsl (fun t g h=>Bmap.put_ne h) ?_ ?_ ?_ ?_ (by simp)) ?_
 ·intro t x b hne h hb'
  replace hb':=((R.blk t x h).owns_at (Bmap.le.refl β) (fun b hb'=>Rc.below.block b (hK b ((R.blk t x h).owns_lt hb'))) b).1 hb'
  refine ⟨rfl,(R.own t x b h hb').2,fun e=>?_⟩
  exact hnew b (hown b e) ((R.blk t x h).owns_lt hb')
 ·refine ⟨bi,Bmap.put_same β sq 0 _,h2,h3,h4,h5,h6,h7,?_⟩
  rcases h8 with h8 | ⟨b,us,ty,g1,g2,g3,g4⟩
  ·exact Xw h8
  ·exact XE ⟨b,us,ty,g1,g2,g3,ZnE (Zvj hf) g4⟩
 ·intro b e
  have hnb:=hnew b (hown b e)
  refine ⟨fun hB=>hnb (hbw b hB),fun o=>?_⟩
  cases hI:I b o with
  | none=>rfl
  | some v=>exact absurd (Zde (R.imm b o v hI)) hnb
 ·intro g hg
  simp only [Zb] at hg
  rw [Bmap.put_gen (by omega)]
  exact R.free sq g hs
 ·simp only [VR] at hv ⊢
  obtain ⟨bi',e,hv⟩:=hv
  rw [h1] at e
  injection e with e;subst e
  exact ⟨bi,Bmap.put_same β sq 0 _,hv⟩
theorem ZiK {O:ZZ} (hO:Zad P O) {bf:Nat->Bool} (R:Rel base w0 I0 I β σ w) (hb:KLt base w0) {sq f own:Nat} {view:Bool} {args:List AVal} {vs:Array Value} (hargs:VRs I β args vs.toList) {r:AVal} {c:Cls} (hsite:own=1->σ[sq]?=some .free) (h:Z7 O bf σ sq f own view args=some (r,σ',c)) :
  (∃ fn,P.funcs[f]?=some fn/\fn.body.isSome=true/\(fn.name == "runtime.NumGoroutine")=false)/\Calls P f vs w (fun e w'=>∃ u,Ends r e u/\Post base w0 I0 I β (Zam r) σ' u w'):=by
 unfold Z7 at h
 split at h
 ·cases h
 rename_i xs ts hshow
 obtain ⟨I1,hI1,R1,hal,_,hfz,_,_,hnby⟩:=Zfw ts R
 have hxs:VRs I1 β xs vs.toList:=by
  unfold Zc6 at hshow
  split at hshow
  ·simp only [Xa,Xb] at hshow
   obtain ⟨rfl,rfl⟩:=hshow
   exact hargs.mono hI1 (Bmap.le.refl β) _ _
  ·exact ZkS R1 (hfz (Zh9 hshow)) (by rw [hal.showAs];exact hshow) (hargs.mono hI1 (Bmap.le.refl β) _ _)
 generalize hσf:Zs σ ts=σf at *
 obtain ⟨hnd,_⟩:=ZfO (σ:=σf) 1000 (ZX xs) [] List.nodup_nil
 generalize Zf σf 1000 (ZX xs) []=ids at *
 unfold Zcj at h
 split at h
 case isFalse=>cases h
 rename_i hok
 have R2:=R1.pick (K':=fun b=>b < w.heap.size/\∀ t ∈ ids,∀ x,σf[t]?=some x->¬Ze w β t x b) (w1:=w) (I1:=I1) (m:=0) hnd (KB.refl _ w) (fun _ _ _=>rfl) (fun t x b ht hx hb' hk=>hk.2 t ht x hx hb') (fun t x b ht hx hs=>⟨R1.base_le hb b (R1.ro t x b hx hs),fun t' _ x' hx' ho=>(R1.own t' x' b hx' ho).1 (R1.ro t x b hx hs)⟩)
 generalize hq:ZaM view ids.length (O f (ZW (Zd σf 0 ids) xs) (Zg σf 0 ids (Zd σf 0 ids) ids 0))=q at h
 cases q with
 | none=>simp only [ZaC] at h;cases h
 | some q =>
  obtain ⟨r1,h1⟩:=q
  obtain ⟨r0,h0,hcall⟩:∃ r0 h0,O f (ZW (Zd σf 0 ids) xs) (Zg σf 0 ids (Zd σf 0 ids) ids 0)=some (r0,h0):=by
   cases ho:O f (ZW (Zd σf 0 ids) xs) (Zg σf 0 ids (Zd σf 0 ids) ids 0) with
   | none=>rw [ho] at hq;cases view <;> simp [ZaM,Zcz] at hq
   | some q=>exact ⟨q.1,q.2,rfl⟩
  rw [hcall] at hq
  obtain ⟨hfn,hrun⟩:=hO f _ _ r0 h0 hcall
  refine ⟨hfn,(hrun _ w I1 I1 _ w vs (fun b hb=>hb.1) R2 (ZdR Zjo _ _ hxs)).mono ?_⟩
  rintro e w' ⟨u,he,hp⟩
  rw [Zh3] at hp
  have hp1:ZbG ids.length (fun b=>b < w.heap.size/\∀ t ∈ ids,∀ x,σf[t]?=some x->¬Ze w β t x b) w I1 I1 (Zch σf 0 ids β) r1 h1 u w'/\Ends r1 e u:=by
   cases view with
   | false =>
    simp only [ZaM,Xz,if_false,Xa,Xb] at hq
    obtain ⟨rfl,rfl⟩:=hq
    exact ⟨hp,he⟩
   | true =>
    simp only [ZaM,if_true] at hq
    obtain ⟨q1,q2⟩:=ZyR hp hq
    exact ⟨q1,q2 e he⟩
  obtain ⟨⟨I2,β2,hI2,hkept,Rc,hv⟩,he1⟩:=hp1
  simp only [ZaC] at h
  split at h
  ·rename_i hc
   simp only [Xl,Xak] at hc
   obtain ⟨rfl,rfl⟩:=hc
   split at h
   ·rename_i hflat
    simp only [Xa,Xb] at h
    obtain ⟨rfl,rfl,rfl⟩:=h
    exact ⟨u,he1,Post.here (R.after_flat hb (fun b hlt=>⟨hlt,by simp⟩) Rc) (ZxI hflat hv)⟩
   split at h
   ·rename_i hap
    unfold Zdg at hap
    simp only [Xl] at hap
    simp only [Xa,Xb] at h
    obtain ⟨rfl,rfl,rfl⟩:=h
    exact ⟨u,he1,R.after_bytes hb (fun b hlt=>⟨hlt,by simp⟩) Rc hI1 hI2 (hnby hap.2) hap.1.2 hv⟩
   ·simp only [Xa,Xb] at h
    obtain ⟨rfl,rfl,rfl⟩:=h
    obtain ⟨β3,g1,g2,g3⟩:=R1.back (sq:=sq) (n:=0) hb hnd hok Rc hI2 hkept (by simp) (by simp) rfl rfl
    have hρ:Zby σf [] sq=Zby [] [] sq:=rfl
    refine ⟨u,he1.ren,Post.mk (hI1.trans hI2) g1 g2 ?_⟩
    rw [hρ] at g3
    have:=Zfr g3 _ _ hv
    rcases ZiQ (ρ:=Zby [] [] sq) r1 with e | ⟨x,rfl⟩
    ·rw [e];exact this
    ·exact this
  ·split at h
   ·rename_i lo n k xs' hcl
    split at hcl
    case isFalse=>cases hcl
    rename_i hid
    simp only [Xak] at hid
    subst hid
    unfold Zgh at hcl
    split at hcl
    case h_2=>cases hcl
    split at hcl
    case isFalse=>cases hcl
    rename_i hcc
    simp only [Xl,decide_eq_true_eq] at hcc
    simp only [Xa,Xb] at hcl h
    obtain ⟨rfl,rfl,rfl,rfl⟩:=hcl
    obtain ⟨rfl,rfl,rfl⟩:=h
    exact ⟨u,he1,R.clone hb (fun b hlt=>⟨hlt,by simp⟩) Rc (hsite hcc.1) hcc.2 hv⟩
   split at h
   case isFalse=>cases h
   rename_i hc
   simp only [Xl,decide_eq_true_eq] at hc
   obtain ⟨⟨⟨c1,c2⟩,c3⟩,c4⟩:=hc
   simp only [Xa,Xb] at h
   obtain ⟨rfl,rfl,rfl⟩:=h
   obtain ⟨β3,g1,g2,g3⟩:=R1.back hb hnd hok Rc hI2 hkept c1 c2 c3 c4
   refine ⟨u,he1.ren,Post.mk (hI1.trans hI2) g1 g2 ?_⟩
   have:=Zfr g3 _ _ hv
   rcases ZiQ (ρ:=Zby σf ids sq) r1 with e | ⟨x,rfl⟩
   ·rw [e];exact this
   ·exact this
end
end
section
open Go.RowKit
section
variable {P:Program} {w:World} {I:Imm} {β:Bmap}
theorem Zmg {t:TypeId} (hb:Zkf P t=true) {xs:Array Value} {o:Nat} {v:Value} (h:xs[o]?=some v):(part t xs o).run P w=.ok v w:=by
 unfold Zkf at hb
 have key:∀ d,P.underlying t=some d->d.isRow=false->(part t xs o).run P w=.ok v w:=by
  intro d hu hd
  have hagg:(isAgg t).run P w=.ok false w:=by
   unfold isAgg
   rw [Sem.run_bind,run_underlying hu w]
   cases d <;> simp_all [TypeDesc.isRow]
  simp [part,hagg,h]
 split at hb
 ·rename_i hu;exact key _ hu rfl
 ·rename_i hu;exact key _ hu rfl
 ·rename_i hu;exact key _ hu rfl
 ·cases hb
theorem ZrC (w:World) {t:TypeId} (d:Nat) {x y:AVal} {u v:Value} {b:Bool} (hx:VR I β x u) (hy:VR I β y v) (h:ZcT x y=some b) (hk:Zen P t x=true):(Op.equalIn (d+1) t u v).run P w=.ok b w:=by
 unfold ZcT at h
 split at h
 ·rename_i k a k' b'
  split at h
  ·rename_i e;subst e
   injection h with h;subst h
   simp only [VR] at hx hy
   subst hx hy
   cases hd:P.underlying t with
   | none=>simp [Zen,hd] at hk
   | some dd =>
    cases dd <;> simp [Zen,hd] at hk
    exact run_equalIn_int w d t _ _ a b' hd
  ·cases h
 ·rename_i a b'
  injection h with h;subst h
  simp only [VR] at hx hy
  subst hx hy
  cases hd:P.underlying t with
  | none=>simp [Zen,hd] at hk
  | some dd =>
   cases dd <;> simp [Zen,hd] at hk
   exact run_equalIn_bool' w d t a b' hd
 ·rename_i a b'
  injection h with h;subst h
  simp only [VR] at hx hy
  obtain ⟨rfl,_⟩:=hx
  obtain ⟨rfl,_⟩:=hy
  cases hd:P.underlying t with
  | none=>simp [Zen,hd] at hk
  | some dd =>
   cases dd <;> simp [Zen,hd] at hk
   rw [run_equalIn_string w d t _ _ hd,ZgV,ZgV]
 ·cases h
theorem ZlP:∀ {fs:List Field} {xs:List AVal},Zfx (fs.map fun f=>(ZeP P f.type).getD 3) xs=true->Zex P fs xs=true
 | [],[],_=>rfl
 | [],x::xs,h=>by simp [Zfx] at h
 | f::fs,[],h=>by simp [Zfx] at h
 | f::fs,x::xs,h=>by
  simp only [Xu,Zfx,Xl,beq_iff_eq] at h
  simp only [Zex,Xl]
  refine ⟨?_,ZlP h.2⟩
  have h1:=h.1
  cases hd:P.underlying f.type with
  | none=>simp only [ZeP,hd,Xax] at h1;cases x <;> simp [Zaq] at h1
  | some dd=>cases dd <;> simp only [ZeP,hd,Xax,Option.getD_some] at h1 <;> cases x <;> first | (simp [Zen,hd];done) | (simp [Zaq] at h1;done)
theorem Zm9 (w:World) (d:Nat) {us vs:Array Value}:∀ {fs:List Field} {xs ys:List AVal} {o:Nat} {b:Bool},ZhF P o fs=true->Zex P fs xs=true->VRs I β xs (us.toList.drop o)->VRs I β ys (vs.toList.drop o)->ZeG xs ys=some b->(Op.eqFields (d+1) us vs fs).run P w=.ok b w
 | [],xs,ys,o,b,hf,hk,hx,hy,h=>by
  cases xs with
  | nil =>
   cases ys with
   | nil=>simp only [ZeG,Xa] at h;subst h;simp [Op.eqFields]
   | cons=>simp [ZeG] at h
  | cons=>simp [Zex] at hk
 | f::fs,xs,ys,o,b,hf,hk,hx,hy,h=>by
  cases xs with
  | nil=>simp [Zex] at hk
  | cons x xs =>
   cases ys with
   | nil=>simp [ZeG] at h
   | cons y ys =>
    simp only [ZhF,Xl,beq_iff_eq,bne_iff_ne,ne_eq] at hf
    obtain ⟨⟨⟨h1,h2⟩,h3⟩,h4⟩:=hf
    simp only [Zex,Xl] at hk
    simp only [VRs] at hx hy
    obtain ⟨u,us',eu,hx1,hx2⟩:=hx
    obtain ⟨v,vs',ev,hy1,hy2⟩:=hy
    have gu:us[o]?=some u:=by
     have:=congrArg (fun l:List Value=>l[0]?) eu
     simpa using this
    have gv:vs[o]?=some v:=by
     have:=congrArg (fun l:List Value=>l[0]?) ev
     simpa using this
    have eu':us.toList.drop (o+1)=us':=by rw [<-Xa8,eu];rfl
    have ev':vs.toList.drop (o+1)=vs':=by rw [<-Xa8,ev];rfl
    simp only [ZeG] at h
    split at h
    ·rename_i b1 hb1
     split at h
     ·rename_i b2 hb2
      injection h with h;subst h
      have r1:=ZrC w d hx1 hy1 hb1 hk.1
      have r2:=Zm9 w d (us:=us) (vs:=vs) h4 hk.2 (by rw [eu'];exact hx2) (by rw [ev'];exact hy2) hb2
      rw [<-h1] at gu gv
      simp only [Op.eqFields,h2,ne_eq,not_false_eq_true,if_true,Sem.run_bind,Zmg h3 gu,Zmg h3 gv,r1,Result.andThen_ok]
      cases b1
      ·simp
      ·simpa using r2
     ·cases h
    ·cases h
theorem ZoH {t:TypeId} {fs:Array Field} (hu:P.underlying t=some (.struct fs)) (hf:Zjh P t fs=true) {x y:List AVal} {us vs:Array Value} (hx:VRs I β x us.toList) (hy:VRs I β y vs.toList) (hk:Zex P fs.toList x=true) {b:Bool} (h:ZeG x y=some b) (neg:Bool) {op:BinOp} (hop:op=(if neg then .neq else .eql)) (ox oy:Operand) :
  (do eqGuard op t ox oy (.agg us) (.agg vs);binOp op t (.agg us) (.agg vs):Sem Value).run P w=.ok (.bool (b != neg)) w:=by
 simp only [Zjh,Xl,Bool.not_eq_true'] at hf
 obtain ⟨⟨hf1,hf2⟩,hf3⟩:=hf
 have hfo:P.fieldsOf t=fs:=by simp [Program.fieldsOf,hu]
 have h1:(eqGuard op t ox oy (.agg us) (.agg vs)).run P w=.ok () w:=by
  subst hop
  cases neg <;> simp [eqGuard,hf3]
 have h2:(Op.equal t (.agg us) (.agg vs)).run P w=.ok b w:=by
  show (Op.equalIn (9999+1) t (.agg us) (.agg vs)).run P w=_
  rw [run_equalIn_struct w 9999 t us vs (by rw [hfo];exact hu) hf2,hfo]
  exact Zm9 w 9998 hf1 hk (by simpa using hx) (by simpa using hy) h
 subst hop
 cases neg
 ·simp only [Xz,if_false] at h1 ⊢
  simp [h1,h2,binOp]
 ·simp only [if_true] at h1 ⊢
  simp [h1,h2,binOp]
end
end
section
open Go.RowKit
section
variable {P:Program} {base:Nat->Prop} {w0 w w':World} {I0 I I':Imm} {β β':Bmap} {σ σ':Za}
def Zbl:TypeDesc->Option Nat
 | .int _=>some 0
 | .bool=>some 1
 | .string=>some 2
 | _=>none
theorem Zg9 {P:Program} {t:TypeId} {kc:Nat} {z:AVal} (h:Zf7 P t=some (kc,z)):∃ kt et d,P.underlying t=some (.map kt et)/\P.underlying kt=some d/\Zbl d=some kc/\ZcP P et=some z:=by
 unfold Zf7 at h
 split at h
 case h_2=>cases h
 rename_i kt et ht
 split at h
 case h_2=>cases h
 rename_i kc' z' hk hz
 simp only [Xa,Xb] at h
 obtain ⟨rfl,rfl⟩:=h
 unfold ZeP at hk
 split at hk
 ·rename_i e;injection hk with hk;subst hk;exact ⟨kt,et,_,ht,e,rfl,hz⟩
 ·rename_i e;injection hk with hk;subst hk;exact ⟨kt,et,_,ht,e,rfl,hz⟩
 ·rename_i e;injection hk with hk;subst hk;exact ⟨kt,et,_,ht,e,rfl,hz⟩
 ·cases hk
theorem ZmH {l l':List UInt8}:((⟨l.toArray⟩:ByteArray) == ⟨l'.toArray⟩)=(l == l'):=by
 rw [beq_toListBytes,ZgV,ZgV]
theorem Zhf {d:TypeDesc} {x y:AVal} {vx vy:Value} {b:Bool} (hd:Zbl d=some (Zaq x)) (h:ZcT x y=some b) (hx:VR I β x vx) (hy:VR I β y vy):Instr.sameNow d vx vy=some b:=by
 unfold ZcT at h
 split at h
 ·rename_i k n k' m
  split at h
  case isFalse=>cases h
  rename_i hk
  subst hk
  injection h with h
  subst h
  simp only [VR] at hx hy
  subst hx hy
  cases d <;> simp [Zbl,Zaq] at hd
  simp [Instr.sameNow]
 ·injection h with h
  subst h
  simp only [VR] at hx hy
  subst hx hy
  cases d <;> simp [Zbl,Zaq] at hd
  simp [Instr.sameNow]
 ·rename_i l l'
  injection h with h
  subst h
  simp only [VR] at hx hy
  rw [hx.1,hy.1]
  cases d <;> simp [Zbl,Zaq] at hd
  simp only [Instr.sameNow,ZmH]
 ·cases h
theorem ZlY {x y:AVal} {vx vy:Value} (h:ZcT x y=some true) (hx:VR I β x vx) (hy:VR I β y vy):Instr.sameBits 10000 vy vx=true/\vx=vy:=by
 unfold ZcT at h
 split at h
 ·rename_i k n k' m
  split at h
  case isFalse=>cases h
  rename_i hk
  subst hk
  simp only [Xa,beq_iff_eq] at h
  subst h
  simp only [VR] at hx hy
  subst hx hy
  exact ⟨by simp [Instr.sameBits],rfl⟩
 ·simp only [Xa,beq_iff_eq] at h
  subst h
  simp only [VR] at hx hy
  subst hx hy
  exact ⟨by simp [Instr.sameBits],rfl⟩
 ·simp only [Xa,beq_iff_eq] at h
  subst h
  simp only [VR] at hx hy
  rw [hx.1,hy.1]
  exact ⟨by simp only [Instr.sameBits,ZmH,beq_self_eq_true],rfl⟩
 ·cases h
theorem Zeh {d:TypeDesc} {x:AVal} {vx:Value} (hd:Zbl d=some (Zaq x)) (hx:VR I β x vx):∀ (es:List (AVal×AVal)) (arr:List MapEntry) (i:Nat) (r:Option (Nat×AVal)),VRs I β (es.map (·.1)) (arr.map (·.key))->VRs I β (es.map (·.2)) (arr.map (·.val))->ZeK x es i=some r ->
  (r=none/\Instr.findNow d vx arr i=some none) \/
  ∃ j y e p,r=some (i+j,y)/\Instr.findNow d vx arr i=some (some (i+j,e.val))/\arr[j]?=some e/\es[j]?=some p/\p.2=y/\VR I β y e.val/\ZcT x p.1=some true/\VR I β p.1 e.key
 | [],arr,i,r,hk,_,h=>by
  unfold ZeK at h
  injection h with h
  subst h
  simp only [X0,VRs,XaR] at hk
  subst hk
  exact Xw ⟨rfl,by simp [Instr.findNow]⟩
 | (k,y)::es,arr,i,r,hk,hv,h=>by
  unfold ZeK at h
  cases arr with
  | nil =>
   simp only [Xu,X0,VRs] at hk
   obtain ⟨_,_,hk,_⟩:=hk
   cases hk
  | cons e arr =>
  simp only [Xu,VRs] at hk hv
  obtain ⟨_,_,ek,k1,k2⟩:=hk
  injection ek with ek1 ek2
  subst ek1 ek2
  obtain ⟨_,_,ev,v1,v2⟩:=hv
  injection ev with ev1 ev2
  subst ev1 ev2
  split at h
  ·rename_i ha
   injection h with h
   subst h
   refine XE ⟨0,y,e,(k,y),rfl,?_,rfl,rfl,rfl,v1,ha,k1⟩
   simp only [Instr.findNow,Zhf hd ha hx k1,Wm]
  ·rename_i ha
   have hn:=Zhf hd ha hx k1
   rcases Zeh hd hx es arr (i+1) r k2 v2 h with ⟨h1,h2⟩ | ⟨j,y',e',p',h1,h2,h3,h4,h5⟩
   ·exact Xw ⟨h1,by simp only [Instr.findNow,hn];exact h2⟩
   ·refine XE ⟨j+1,y',e',p',by rw [h1,WH,XaG 1 j],?_,by simpa using h3,by simpa using h4,h5⟩
    simp only [Instr.findNow,hn]
    rw [h2,WH,XaG 1 j]
  ·cases h
theorem Zcl {kt:TypeId} {d:TypeDesc} {kc:Nat} (hk:P.underlying kt=some d) (hd:Zbl d=some kc) (e:Bool) (v:Value):(Instr.checkKey e 10000 kt v).run P w=.ok () w:=by
 show (Instr.checkKey e (9999+1) kt v).run P w=_
 unfold Instr.checkKey
 rw [Sem.run_bind,run_underlying hk]
 cases d <;> simp [Zbl] at hd <;> rfl
theorem Zct {kt:TypeId} {d:TypeDesc} (hk:P.underlying kt=some d) {v:Value} {arr:List MapEntry} {r:Option (Nat×Value)} (h:Instr.findNow d v arr 0=some r):(Instr.findKey kt v arr).run P w=.ok r w:=by
 unfold Instr.findKey
 rw [Sem.run_bind,run_underlying hk]
 simp only [Result.andThen_ok,h,Sem.run_pure]
theorem ZnH {e:TypeId} {z:AVal} (hz:ZcP P e=some z):∃ v,(zeroValue e).run P w=.ok v w/\VR I β z v:=by
 unfold ZcP at hz
 split at hz
 case h_2=>cases hz
 rename_i i hi
 split at hz
 case h_2=>cases hz
 rename_i v hv
 exact ⟨v,by simp [zeroValue,typeInfo,hi,hv],(Zd4 hz).1⟩
theorem ZdF {b:Nat} {arr:Array MapEntry} {clk:Nat} (h:w.heap[b]?=some (.map arr clk)):(getObj b).run P w=.ok (.map arr clk) w:=by simp [getObj,Sem.run,h]
theorem Zf3:VR I β (.tup []) undef:=by simp [VR,VRs,undef]
theorem ZgR {x:AVal} {v:Value} (b:Bool) (h:VR I β x v):VR I β (.tup [x,.bool b]) (.tuple #[v,.bool b]):=by
 simp only [VR]
 exact ⟨_,rfl,by simp only [VRs];exact ⟨_,_,rfl,h,_,_,rfl,rfl,rfl⟩⟩
theorem Zwo (R:Rel base w0 I0 I β σ w) {t kt et:TypeId} (ht:P.underlying t=some (.map kt et)) {d:TypeDesc} (hdk:P.underlying kt=some d) {kc:Nat} (hd:Zbl d=some kc) {z:AVal} (hz:ZcP P et=some z) {ok:Bool} {m k v:AVal} {vm vk:Value} {c:Cls} (hm:VR I β m vm) (hk:VR I β k vk)
  (h:Zdp σ kc z ok m k=some (v,σ',c)):σ'=σ/\∃ u,(Instr.lookup t vm vk ok).run P w=.ok u w/\VR I β v u:=by
 obtain ⟨vz,hvz,hzr⟩:=ZnH (P:=P) (w:=w) (I:=I) (β:=β) hz
 unfold Zdp at h
 split at h
 case isFalse=>cases h
 rename_i hkc
 have hd':Zbl d=some (Zaq k):=by rw [hd,hkc]
 split at h
 ·simp only [Xa,Xb] at h
  obtain ⟨rfl,rfl,rfl⟩:=h
  simp only [VR] at hm
  subst hm
  have hf:=Zct (P:=P) (w:=w) hdk (v:=vk) (arr:=[]) (r:=none) (by simp [Instr.findNow])
  refine ⟨rfl,if ok then .tuple #[vz,.bool false] else vz,?_,?_⟩
  ·simp [Instr.lookup,run_underlying ht,Zcl hdk hd,hf,hvz]
  ·cases ok
   ·exact hzr
   ·exact ZgR false hzr
 ·rename_i b
  simp only [VR] at hm
  obtain ⟨bb,kk,cc,hb,rfl⟩:=hm
  split at h
  ·rename_i es hs
   obtain ⟨b',k',c',arr,clk,e1,e2,e3,e4,_⟩:=R.blk _ _ hs
   rw [hb] at e1
   simp only [Xa,BI.mk.injEq] at e1
   obtain ⟨rfl,rfl,rfl⟩:=e1
   have hg:=ZdF (P:=P) e2
   split at h
   ·rename_i j y hf
    simp only [Xa,Xb] at h
    obtain ⟨rfl,rfl,rfl⟩:=h
    rcases Zeh hd' hk es arr.toList 0 _ e3 e4 hf with ⟨h1,_⟩ | ⟨j',y',e,p,h1,h2,_,_,_,h5,_⟩
    ·cases h1
    ·injection h1 with h1
     injection h1 with h1 h1'
     subst h1'
     have hr:=Zct (P:=P) (w:=w) hdk h2
     refine ⟨rfl,if ok then .tuple #[e.val,.bool true] else e.val,?_,?_⟩
     ·simp [Instr.lookup,run_underlying ht,Zcl hdk hd,hg,hr]
     ·cases ok
      ·exact h5
      ·exact ZgR true h5
   ·rename_i hf
    simp only [Xa,Xb] at h
    obtain ⟨rfl,rfl,rfl⟩:=h
    rcases Zeh hd' hk es arr.toList 0 _ e3 e4 hf with ⟨_,h2⟩ | ⟨j',y',e,p,h1,_⟩
    ·have hr:=Zct (P:=P) (w:=w) hdk h2
     refine ⟨rfl,if ok then .tuple #[vz,.bool false] else vz,?_,?_⟩
     ·simp [Instr.lookup,run_underlying ht,Zcl hdk hd,hg,hr,hvz]
     ·cases ok
      ·exact hzr
      ·exact ZgR false hzr
    ·cases h1
   ·cases h
  ·rename_i es hs
   obtain ⟨b',k',c',arr,clk,e1,e2,e3,e4,_⟩:=R.blk _ _ hs
   rw [hb] at e1
   simp only [Xa,BI.mk.injEq] at e1
   obtain ⟨rfl,rfl,rfl⟩:=e1
   have hg:=ZdF (P:=P) e2
   split at h
   ·rename_i j y hf
    simp only [Xa,Xb] at h
    obtain ⟨rfl,rfl,rfl⟩:=h
    rcases Zeh hd' hk es arr.toList 0 _ e3 e4 hf with ⟨h1,_⟩ | ⟨j',y',e,p,h1,h2,_,_,_,h5,_⟩
    ·cases h1
    ·injection h1 with h1
     injection h1 with h1 h1'
     subst h1'
     have hr:=Zct (P:=P) (w:=w) hdk h2
     refine ⟨rfl,if ok then .tuple #[e.val,.bool true] else e.val,?_,?_⟩
     ·simp [Instr.lookup,run_underlying ht,Zcl hdk hd,hg,hr]
     ·cases ok
      ·exact h5
      ·exact ZgR true h5
   ·rename_i hf
    simp only [Xa,Xb] at h
    obtain ⟨rfl,rfl,rfl⟩:=h
    rcases Zeh hd' hk es arr.toList 0 _ e3 e4 hf with ⟨_,h2⟩ | ⟨j',y',e,p,h1,_⟩
    ·have hr:=Zct (P:=P) (w:=w) hdk h2
     refine ⟨rfl,if ok then .tuple #[vz,.bool false] else vz,?_,?_⟩
     ·simp [Instr.lookup,run_underlying ht,Zcl hdk hd,hg,hr,hvz]
     ·cases ok
      ·exact hzr
      ·exact ZgR false hzr
    ·cases h1
   ·cases h
  ·cases h
 ·cases h
theorem ZhX (R:Rel base w0 I0 I β σ w) {t b k c:Nat} {es es':List (AVal×AVal)} (hs:σ[t]?=some (.map es)) (hb:β t 0=some ⟨some b,k,c⟩) {arr':Array MapEntry} {clk':Nat} (hk:VRs I β (es'.map (·.1)) (arr'.toList.map (·.key))) (hv:VRs I β (es'.map (·.2)) (arr'.toList.map (·.val))) (hA:∀ p ∈ es',ZbJ p.1=true) (hS:ZeM arr' clk') (hlt:b < w.heap.size) :
  Rel base w0 I0 I β (σ.set t (.map es')) { w with heap:=w.heap.setIfInBounds b (.map arr' clk') } :=
 R.putObj hs (by simp [Ze,hb]) _ (by simp [Ze,hb]) ⟨b,k,c,arr',clk',hb,by rw [Wn hlt],hk,hv,hA,hS⟩ rfl
theorem Zew (arr:Array MapEntry) (i:Nat) (f:MapEntry->MapEntry):(arr.modify i f).toList=arr.toList.modify i f:=by simp
theorem Zh2 {α β:Type} (g:α->β) (f:α->α) (v:β) (hf:∀ x,g (f x)=v):∀ (l:List α) (i:Nat),(l.modify i f).map g=(l.map g).set i v
 | [],i=>by simp
 | x::l,0=>by simp [hf]
 | x::l,i+1=>by simp [Zh2 g f v hf l i]
theorem Zgf {α β:Type} (g:α->β) (f:α->α) (hf:∀ x,g (f x)=g x):∀ (l:List α) (i:Nat),(l.modify i f).map g=l.map g
 | [],i=>by simp
 | x::l,0=>by simp [hf]
 | x::l,i+1=>by simp [Zgf g f hf l i]
theorem Zet {b:Nat} {arr:Array MapEntry} {clk:Nat} {o':Obj} (h:w.heap[b]?=some (.map arr clk)):(setObj b o').run P w=.ok () { w with heap:=w.heap.setIfInBounds b o' }:=by simp [setObj,Sem.run,h]
theorem Zii:∀ {xs:List AVal} {vs:List Value} (i:Nat),VRs I β xs vs->VRs I β (xs.eraseIdx i) (vs.eraseIdx i)
 | [],vs,i,h=>by simp only [VRs] at h;subst h;simp [VRs]
 | x::xs,vs,0,h=>by
  simp only [VRs] at h
  obtain ⟨v,vs',rfl,_,h⟩:=h
  exact h
 | x::xs,vs,i+1,h=>by
  simp only [VRs] at h
  obtain ⟨v,vs',rfl,h1,h⟩:=h
  simp only [List.eraseIdx_cons_succ,VRs]
  exact ⟨v,_,rfl,h1,Zii i h⟩
theorem Zd0 {α β:Type} (g:α->β):∀ (l:List α) (i:Nat),(l.eraseIdx i).map g=(l.map g).eraseIdx i
 | [],i=>by simp
 | x::l,0=>by simp
 | x::l,i+1=>by simp [Zd0 g l i]
theorem ZxJ (R:Rel base w0 I0 I β σ w) {t kt et:TypeId} (ht:P.underlying t=some (.map kt et)) {d:TypeDesc} (hdk:P.underlying kt=some d) {kc:Nat} (hd:Zbl d=some kc) {m k x v:AVal} {vm vk vx:Value} {c:Cls} (hm:VR I β m vm) (hk:VR I β k vk) (hx:VR I β x vx) (hng:∀ t,m=.map t->∀ w es,σ[t]?≠some (.gmap w es))
  (h:Zc0 σ kc m k x=some (v,σ',c)):v=.tup []/\∃ w',(Instr.mapUpdate t vm vk vx).run P w=.ok () w'/\Rel base w0 I0 I β σ' w':=by
 unfold Zc0 at h
 split at h
 case isFalse=>cases h
 rename_i hkc
 obtain ⟨hkc,hkA,_⟩:=hkc
 have hd':Zbl d=some (Zaq k):=by rw [hd,hkc]
 split at h
 case h_2=>cases h
 rename_i b
 simp only [VR] at hm
 obtain ⟨bb,kk,cc,hb,rfl⟩:=hm
 split at h
 case h_2=>rename_i hs;exact absurd hs (hng _ rfl _ _)
 case h_3=>cases h
 rename_i es hs
 obtain ⟨b',k',c',arr,clk,e1,e2,e3,e4,e5,e6,e7⟩:=R.blk _ _ hs
 have hb0:=hb
 rw [hb] at e1
 simp only [Xa,BI.mk.injEq] at e1
 obtain ⟨rfl,rfl,rfl⟩:=e1
 have hg:=ZdF (P:=P) e2
 have hlt:bb < w.heap.size:=(XD.1 e2).1
 split at h
 ·rename_i j y hf
  simp only [Xa,Xb] at h
  obtain ⟨rfl,rfl,rfl⟩:=h
  rcases Zeh hd' hk es arr.toList 0 _ e3 e4 hf with ⟨h1,_⟩ | ⟨j',y',e,p,h1,h2,h3,h4,_,h5,h6,h7⟩
  ·cases h1
  ·simp only [XF] at h1 h2
   injection h1 with h1
   injection h1 with h1 h1'
   subst h1 h1'
   have hr:=Zct (P:=P) (w:=w) hdk h2
   obtain ⟨sb,_⟩:=ZlY h6 hk h7
   have h3':arr[j]?=some e:=by rw [<-Wo];exact h3
   have hst:(Instr.keyThatStays (((arr[j]?).map (·.key)).getD vk) vk).run P w=.ok vk w:=by
    rw [h3']
    simp [Instr.keyThatStays,sb]
   refine ⟨rfl,_,?_,ZhX R hs hb0 (arr':=arr.modify j fun e=>{ e with key:=vk,val:=vx }) (clk':=clk) ?_ ?_ ?_ ?_ hlt⟩
   ·simp only [Instr.mapUpdate,run_underlying ht,Zcl hdk hd,hg,hr,hst,Sem.run_bind,Result.andThen_ok,Zet e2]
   ·rw [Zew,Zh2 (fun x:MapEntry=>x.key) _ vk (fun _=>rfl),XaT]
    exact ZiJ e3 hk j
   ·rw [Zew,Zh2 (fun x:MapEntry=>x.val) _ vx (fun _=>rfl),XaT]
    exact ZiJ e4 hx j
   ·intro q hq
    rcases X5 hq with hq | rfl
    ·exact e5 q hq
    ·exact hkA
   ·refine ⟨fun e he=>?_,?_⟩
    ·rw [Zew] at he
     have hm:e.born ∈ (arr.toList.modify j fun e=>{ e with key:=vk,val:=vx }).map (·.born):=XJ.2 ⟨e,he,rfl⟩
     rw [Zgf (fun x:MapEntry=>x.born) (fun e:MapEntry=>{ e with key:=vk,val:=vx }) (fun _=>rfl)] at hm
     obtain ⟨e',he',hb'⟩:=XJ.1 hm
     rw [<-hb'];exact e6 e' he'
    ·rw [Zew,Zgf (fun x:MapEntry=>x.born) (fun e:MapEntry=>{ e with key:=vk,val:=vx }) (fun _=>rfl)]
     exact e7
 ·rename_i hf
  simp only [Xa,Xb] at h
  obtain ⟨rfl,rfl,rfl⟩:=h
  rcases Zeh hd' hk es arr.toList 0 _ e3 e4 hf with ⟨_,h2⟩ | ⟨j',y',e,p,h1,_⟩
  ·have hr:=Zct (P:=P) (w:=w) hdk h2
   refine ⟨rfl,_,?_,ZhX R hs hb0 (arr':=arr.push { key:=vk,val:=vx,born:=clk }) (clk':=clk+1) ?_ ?_ ?_ ?_ hlt⟩
   ·simp only [Instr.mapUpdate,run_underlying ht,Zcl hdk hd,hg,hr,Sem.run_bind,Result.andThen_ok,Zet e2]
   ·rw [WP,Wc,Wc]
    exact Zca e3 (by simp only [Xu,X0,VRs];exact ⟨_,_,rfl,hk,rfl⟩)
   ·rw [WP,Wc,Wc]
    exact Zca e4 (by simp only [Xu,X0,VRs];exact ⟨_,_,rfl,hx,rfl⟩)
   ·intro q hq
    rcases Xv.1 hq with hq | hq
    ·exact e5 q hq
    ·rw [XZ] at hq;subst hq;exact hkA
   ·refine ⟨fun e he=>?_,?_⟩
    ·rw [WP] at he
     rcases Xv.1 he with he | he
     ·have:=e6 e he;omega
     ·rw [XZ] at he;subst he;exact Nat.lt_succ_self clk
    ·rw [WP,Wc,Xac]
     refine ⟨e7,by simp,?_⟩
     intro a ha b hb'
     simp only [Xu,X0,XZ] at hb'
     subst hb'
     obtain ⟨e',he',rfl⟩:=XJ.1 ha
     have:=e6 e' he'
     omega
  ·cases h1
 ·cases h
theorem ZsJ (R:Rel base w0 I0 I β σ w) {t kt et:TypeId} (ht:P.underlying t=some (.map kt et)) {d:TypeDesc} (hdk:P.underlying kt=some d) {kc:Nat} (hd:Zbl d=some kc) {m k v:AVal} {vm vk:Value} {c:Cls} (ts:List TypeId) (ty:TypeId) (hm:VR I β m vm) (hk:VR I β k vk) (hng:∀ t,m=.map t->∀ w es,σ[t]?≠some (.gmap w es))
  (h:ZeZ σ kc m k=some (v,σ',c)):∃ w',(Builtin.delete_ (t::ts).toArray ty #[vm,vk]).run P w=.ok (.tuple #[]) w'/\v=.tup []/\Rel base w0 I0 I β σ' w':=by
 unfold ZeZ at h
 split at h
 case isFalse=>cases h
 rename_i hkc
 have hd':Zbl d=some (Zaq k):=by rw [hd,hkc]
 split at h
 ·simp only [Xa,Xb] at h
  obtain ⟨rfl,rfl,rfl⟩:=h
  simp only [VR] at hm
  subst hm
  exact ⟨w,by simp [Builtin.delete_,run_underlying ht,Zcl hdk hd],rfl,R⟩
 ·rename_i b
  simp only [VR] at hm
  obtain ⟨bb,kk,cc,hb,rfl⟩:=hm
  split at h
  case h_2=>rename_i hs;exact absurd hs (hng _ rfl _ _)
  case h_3=>cases h
  rename_i es hs
  obtain ⟨b',k',c',arr,clk,e1,e2,e3,e4,e5,e6,e7⟩:=R.blk _ _ hs
  have hb0:=hb
  rw [hb] at e1
  simp only [Xa,BI.mk.injEq] at e1
  obtain ⟨rfl,rfl,rfl⟩:=e1
  have hg:=ZdF (P:=P) e2
  have hlt:bb < w.heap.size:=(XD.1 e2).1
  split at h
  ·rename_i j y hf
   simp only [Xa,Xb] at h
   obtain ⟨rfl,rfl,rfl⟩:=h
   rcases Zeh hd' hk es arr.toList 0 _ e3 e4 hf with ⟨h1,_⟩ | ⟨j',y',e,p,h1,h2,h3,h4,_⟩
   ·cases h1
   ·simp only [XF] at h1 h2
    injection h1 with h1
    injection h1 with h1 h1'
    subst h1 h1'
    have hr:=Zct (P:=P) (w:=w) hdk h2
    have el:(arr.eraseIdxIfInBounds j).toList=arr.toList.eraseIdx j:=by simp
    refine ⟨_,?_,rfl,ZhX R hs hb0 (arr':=arr.eraseIdxIfInBounds j) (clk':=clk) ?_ ?_ ?_ ?_ hlt⟩
    ·simp [Builtin.delete_,run_underlying ht,Zcl hdk hd,hg,hr,Zet e2]
    ·rw [el,Zd0,Zd0];exact Zii j e3
    ·rw [el,Zd0,Zd0];exact Zii j e4
    ·exact fun q hq=>e5 q (Xad hq)
    ·refine ⟨fun e he=>?_,?_⟩
     ·rw [el] at he;exact e6 e (Xad he)
     ·rw [el,Zd0];exact e7.sublist (List.eraseIdx_sublist _ _)
  ·rename_i hf
   simp only [Xa,Xb] at h
   obtain ⟨rfl,rfl,rfl⟩:=h
   rcases Zeh hd' hk es arr.toList 0 _ e3 e4 hf with ⟨_,h2⟩ | ⟨j',y',e,p,h1,_⟩
   ·have hr:=Zct (P:=P) (w:=w) hdk h2
    refine ⟨_,?_,rfl,ZhX R hs hb0 (arr':=arr) (clk':=clk) e3 e4 e5 ⟨e6,e7⟩ hlt⟩
    simp [Builtin.delete_,run_underlying ht,Zcl hdk hd,hg,hr,Zet e2]
   ·cases h1
  ·cases h
 ·cases h
theorem ZpH (R:Rel base w0 I0 I β σ w) {t kt et:TypeId} (ht:P.underlying t=some (.map kt et)) {m v:AVal} {vm:Value} {c:Cls} (ty:TypeId) (hm:VR I β m vm) (h:ZeL σ m=some (v,σ',c)):σ'=σ/\∃ u,(Builtin.len_ #[t] ty #[vm]).run P w=.ok u w/\VR I β v u:=by
 unfold ZeL at h
 split at h
 ·simp only [Xa,Xb] at h
  obtain ⟨rfl,rfl,rfl⟩:=h
  simp only [VR] at hm
  subst hm
  exact ⟨rfl,goInt 0,by simp [Builtin.len_,run_underlying ht],by simp [VR,goInt]⟩
 ·rename_i b
  simp only [VR] at hm
  obtain ⟨bb,kk,cc,hb,rfl⟩:=hm
  split at h
  ·rename_i es hs
   simp only [Xa,Xb] at h
   obtain ⟨rfl,rfl,rfl⟩:=h
   obtain ⟨b',k',c',arr,clk,e1,e2,e3,_⟩:=R.blk _ _ hs
   rw [hb] at e1
   simp only [Xa,BI.mk.injEq] at e1
   obtain ⟨rfl,rfl,rfl⟩:=e1
   have hg:=ZdF (P:=P) e2
   have hl:es.length=arr.size:=by simpa using Zaa e3
   exact ⟨rfl,goInt arr.size,by simp [Builtin.len_,run_underlying ht,hg],by simp [VR,goInt,hl]⟩
  ·rename_i es hs
   simp only [Xa,Xb] at h
   obtain ⟨rfl,rfl,rfl⟩:=h
   obtain ⟨b',k',c',arr,clk,e1,e2,e3,_⟩:=R.blk _ _ hs
   rw [hb] at e1
   simp only [Xa,BI.mk.injEq] at e1
   obtain ⟨rfl,rfl,rfl⟩:=e1
   have hg:=ZdF (P:=P) e2
   have hl:es.length=arr.size:=by simpa using Zaa e3
   exact ⟨rfl,goInt arr.size,by simp [Builtin.len_,run_underlying ht,hg],by simp [VR,goInt,hl]⟩
  ·cases h
 ·cases h
theorem Zzs (R:Rel base w0 I0 I β σ w) (hb:KLt base w0) (t:TypeId) {sq:Nat} (hs:σ[sq]?=some .free) :
  ∃ u w',(Instr.makeMap t none).run P w=.ok u w'/\Post base w0 I0 I β (.map sq) (σ.set sq (.map [])) u w':=by
 obtain ⟨R',hle⟩:=R.newObj hb hs (.map #[] 0) (.map []) 1 1 (by simp [Ze,Bmap.put_same]) rfl (by simp)
  ⟨_,_,_,#[],0,Bmap.put_same β sq 0 _,by simp,by simp [VRs],by simp [VRs],by simp,by simp [ZeM]⟩
 refine ⟨.map (some w.heap.size),_,run_makeMap t w,Post.mk (Imm.le.refl I) hle R' ?_⟩
 simp only [VR]
 exact ⟨_,_,_,Bmap.put_same β sq 0 _,rfl⟩
end
end
section
open Go.RowKit
section
variable {base:Nat->Prop} {w0 w:World} {I0 I:Imm} {β:Bmap} {σ:Za}
theorem Zhw {k:Nat}:∀ {xs:List AVal},(∀ x ∈ xs,x.cells.length=k)->(xs.flatMap AVal.cells).length=xs.length*k
 | [],_=>by simp
 | x::xs,h=>by
  rw [XT,Xy,h x (by simp),Zhw (fun y hy=>h y (by simp [hy])),Xx,Nat.succ_mul,XaG]
theorem ZAc {k s:Nat} {v:Value} {xs:List AVal} (hk:0 < k) (h:GEnt I β w k v (.inl xs)) (hs:β s 0=none):∃ bi:BI,(∀ b,bi.b=some b↔Zag v=some b)/\BR I (β.put s 0 bi) w s (.row 0 k xs)/\VR I (β.put s 0 bi) (.sl s 0 0 xs.length) v:=by
 obtain ⟨t1,t2,vs,⟨A,n,c,rfl,h1,h2,h3,h4⟩,t4⟩:=h
 have hn:xs.length=n:=by
  have:=Zaa t4
  rw [Zhw t2,h1] at this
  exact Nat.eq_of_mul_eq_mul_right hk this
 subst hn
 by_cases hc:c=0
 ·subst hc
  have h0:xs.length=0:=by omega
  refine ⟨⟨none,k,0⟩,fun b=>by simp [Zag],⟨_,Bmap.put_same β s 0 _,rfl,hk,by simp,by simp;exact Xah.1 h0,t1,t2,Xw ⟨rfl,rfl⟩⟩,?_⟩
  simp only [VR]
  exact ⟨_,Bmap.put_same β s 0 _,by simp [h0],by simp,XE (Xw ⟨rfl,rfl,A,by rw [h0]⟩)⟩
 ·rcases h4 with h4 | ⟨g,cur,e,rfl,hg,hs',ht⟩
  ·exact absurd h4 hc
  refine ⟨⟨some g,k,c⟩,fun b=>by simp [Zag,hc],⟨_,Bmap.put_same β s 0 _,rfl,hk,h3,h2,t1,t2,XE ⟨g,cur,e,rfl,hg,hs',?_⟩⟩,?_⟩
  ·rw [ht]
   exact VRs.mono (Imm.le.refl I) (Bmap.put_le hs) _ _ t4
  ·simp only [VR]
   exact ⟨_,Bmap.put_same β s 0 _,by simpa using h2,h3,Xw ⟨g,rfl,by simp⟩⟩
theorem Zzg {w : World} {kb j : Nat} {es : List (AVal × (List AVal ⊕ AVal))} {q y : AVal} {xs : List AVal} {e : MapEntry} (hj : es[j]? = some (q, .inl xs)) (he : (ZcK w kb)[j]? = some e) :
    (Zas w kb (es.set j (q, .inr y))).Sublist (Zas w kb es) /\ ((Zas w kb es).Nodup -> ∀ g, Zag e.val = some g -> g ∉ Zas w kb (es.set j (q, .inr y))) := by
  unfold Zas
  generalize ZcK w kb = l at *
  have key : ∀ (es : List (AVal × (List AVal ⊕ AVal))) (l : List MapEntry) (j : Nat), es[j]? = some (q, .inl xs) -> l[j]? = some e ->
      ((((es.set j (q, .inr y)).zip l).filterMap fun p => match p.1.2 with | .inl _ => Zag p.2.val | .inr _ => none).Sublist ((es.zip l).filterMap fun p => match p.1.2 with | .inl _ => Zag p.2.val | .inr _ => none)) /\
      (((es.zip l).filterMap fun p => match p.1.2 with | .inl _ => Zag p.2.val | .inr _ => none).Nodup -> ∀ g, Zag e.val = some g -> g ∈ ((es.zip l).filterMap fun p => match p.1.2 with | .inl _ => Zag p.2.val | .inr _ => none) /\ g ∉ (((es.set j (q, .inr y)).zip l).filterMap fun p => match p.1.2 with | .inl _ => Zag p.2.val | .inr _ => none)) := by
    intro es
    induction es with
    | nil => intro l j h; simp at h
    | cons x es ih =>
      intro l j h h'
      cases l with
      | nil => simp at h'
      | cons a l =>
        cases j with
        | zero =>
          simp only [XI, Xa] at h h'
          subst h h'
          simp only [Xan, Wd, Wt]
          cases hc : Zag a.val with
          | none => exact ⟨Xau _, fun _ g hg => by cases hg⟩
          | some g' =>
            refine ⟨XaF _ _, fun hn g hg => ?_⟩
            injection hg with hg; subst hg
            exact ⟨by simp, (Wi.1 hn).1⟩
        | succ j =>
          simp only [XW] at h h'
          obtain ⟨i1, i2⟩ := ih l j h h'
          simp only [W5, Wd, Wt]
          generalize (match x.2 with | .inl _ => Zag a.val | .inr _ => none : Option Nat) = o
          cases o with
          | none => exact ⟨i1, i2⟩
          | some g' =>
            refine ⟨i1.cons_cons _, fun hn g hg => ?_⟩
            obtain ⟨n1, n2⟩ := Wi.1 hn
            obtain ⟨m1, m2⟩ := i2 n2 g hg
            refine ⟨Wk _ m1, ?_⟩
            rw [XL]
            rintro (rfl | h)
            . exact n1 m1
            . exact m2 h
  obtain ⟨k1, k2⟩ := key es l j hj he
  refine ⟨k1.cons_cons _, fun hn g hg => ?_⟩
  obtain ⟨n1, n2⟩ := Wi.1 hn
  obtain ⟨m1, m2⟩ := k2 n2 g hg
  rw [XL]
  rintro (rfl | h)
  . exact n1 m1
  . exact m2 h
theorem Rel.take_row (R:Rel base w0 I0 I β σ w) {t s k j:Nat} {es:List (AVal×(List AVal ⊕ AVal))} {q:AVal} {xs:List AVal} (ht:σ[t]?=some (.gmap k es)) (hj:es[j]?=some (q,.inl xs)) (hs:σ[s]?=some .free) :
  ∃ (bi:BI) (kb clk:Nat) (arr:Array MapEntry) (e:MapEntry),(β t 0).bind (·.b)=some kb/\w.heap[kb]?=some (.map arr clk)/\arr.toList[j]?=some e/\VR I (β.put s 0 bi) (.sl s 0 0 xs.length) e.val/\β.le (β.put s 0 bi) /\
   Rel base w0 I0 I (β.put s 0 bi) ((σ.set s (.row 0 k xs)).set t (.gmap k (es.set j (q,.inr (.sl s 0 0 xs.length))))) w:=by
 obtain ⟨kb,k',c',hb,hG⟩:=R.blk t _ ht
 obtain ⟨g0,g1,arr,clk,g2,g3,g4,g5,g6⟩:=hG
 have hlen:es.length=arr.toList.length:=by simpa using Zaa g3
 have hjl:j < arr.toList.length:=by have:=(Xd.1 hj).1;omega
 obtain ⟨e,he⟩:∃ e,arr.toList[j]?=some e:=⟨_,XB hjl⟩
 have hfree:=R.free s 0 hs
 obtain ⟨bi,hbi,hrow,hval⟩:=ZAc (s:=s) g1 (g6 j _ e hj he) hfree
 have hle:β.le (β.put s 0 bi):=Bmap.put_le hfree
 have hne:s≠t:=by rintro rfl;rw [hs] at ht;cases ht
 have htl:t < σ.length:=(Xd.1 ht).1
 have hsl:s < σ.length:=(Xd.1 hs).1
 obtain ⟨b1,b2⟩:=Zzg (w:=w) (kb:=kb) (q:=q) (y:=.sl s 0 0 xs.length) hj (by rw [Ze8 g2];exact he)
 have hbt:(β.put s 0 bi) t 0=some ⟨some kb,k',c'⟩:=hle _ _ _ hb
 refine ⟨bi,kb,clk,arr,e,by simp [hb],g2,he,hval,hle,?_⟩
 have look:∀ u x,((σ.set s (.row 0 k xs)).set t (.gmap k (es.set j (q,.inr (.sl s 0 0 xs.length)))))[u]?=some x->(u=t/\x=.gmap k (es.set j (q,.inr (.sl s 0 0 xs.length))))\/(u=s/\x=.row 0 k xs)\/(u≠t/\u≠s/\σ[u]?=some x):=by
  intro u x h
  rcases ZgH (by simpa using htl) h with ⟨rfl,rfl⟩ | ⟨h1,h⟩
  ·exact Xw ⟨rfl,rfl⟩
  ·rcases ZgH hsl h with ⟨rfl,rfl⟩ | ⟨h2,h⟩
   ·exact XE (Xw ⟨rfl,rfl⟩)
   ·exact XE (XE ⟨h1,h2,h⟩)
 have ownT:∀ b,b ∈ Zas w kb es->Ze w β t (.gmap k es) b:=fun b hm=>⟨kb,by simp [hb],hm⟩
 have own1:∀ b,Ze w (β.put s 0 bi) t (.gmap k (es.set j (q,.inr (.sl s 0 0 xs.length)))) b->b ∈ Zas w kb (es.set j (q,.inr (.sl s 0 0 xs.length))):=by
  rintro b ⟨kb',h1,h2⟩
  rw [hbt] at h1
  simp only [X9,Xa] at h1
  subst h1;exact h2
 have own2:∀ b,Ze w (β.put s 0 bi) s (.row 0 k xs) b->Zag e.val=some b:=by
  intro b h
  simp only [Ze,Bmap.put_same,X9] at h
  exact (hbi b).1 h
 have mem2:∀ b,Zag e.val=some b->b ∈ Zas w kb es:=fun b h=>ZlN hj (by rw [Ze8 g2];exact he) h
 have own0:∀ u x b,((σ.set s (.row 0 k xs)).set t (.gmap k (es.set j (q,.inr (.sl s 0 0 xs.length)))))[u]?=some x->Ze w (β.put s 0 bi) u x b->∃ y,(u≠s->σ[u]?=some y/\Ze w β u y b)/\(u=s->Ze w β t (.gmap k es) b):=by
  intro u x b hx ho
  rcases look u x hx with ⟨rfl,rfl⟩ | ⟨rfl,rfl⟩ | ⟨h1,h2,hx'⟩
  ·exact ⟨_,fun _=>⟨ht,ownT b (b1.subset (own1 b ho))⟩,fun h=>absurd h.symm hne⟩
  ·exact ⟨.free,fun h=>absurd rfl h,fun _=>ownT b (mem2 b (own2 b ho))⟩
  ·exact ⟨x,fun _=>⟨hx',by rwa [(R.blk u x hx').owns_eq hle] at ho⟩,fun h=>absurd h h2⟩
 refine ⟨R.below,R.old,R.imm,?_,?_,?_,?_,?_,?_,R.glob,?_⟩
 ·intro u x hx
  rcases look u x hx with ⟨rfl,rfl⟩ | ⟨rfl,rfl⟩ | ⟨h1,h2,hx⟩
  ·refine ⟨kb,k',c',hbt,g0.sublist b1,g1,arr,clk,g2,?_,?_,g5,?_⟩
   ·have hm:(es.set j (q,.inr (.sl s 0 0 xs.length))).map (·.1)=es.map (·.1):=by
     apply X7
     intro i
     rw [XX,XX,Xk]
     split
     ·rename_i e';subst e'
      rw [hj,if_pos (Xd.1 hj).1];rfl
     ·rfl
    rw [hm];exact VRs.mono (Imm.le.refl I) hle _ _ g3
   ·intro p hp
    rcases X5 hp with hp | rfl
    ·exact g4 p hp
    ·exact g4 (q,.inl xs) (Xs hj)
   ·intro i p e' hp he'
    rw [Xk] at hp
    split at hp
    ·rename_i e2;subst e2
     split at hp
     ·injection hp with hp;subst hp
      rw [he] at he';injection he' with he';subst he'
      exact hval
     ·cases hp
    ·have:=g6 i p e' hp he'
     obtain ⟨x,q'⟩:=p
     cases q' with
     | inr y=>exact VR.mono (Imm.le.refl I) hle _ _ this
     | inl ys =>
      obtain ⟨t1,t2,vs,t3,t4⟩:=this
      exact ⟨t1,t2,vs,t3,VRs.mono (Imm.le.refl I) hle _ _ t4⟩
  ·exact hrow
  ·exact (R.blk u x hx).keep (Imm.le.refl I) hle (fun _ _=>rfl) (fun _ _=>rfl)
 ·intro u x b hx ho
  obtain ⟨y,h1,h2⟩:=own0 u x b hx ho
  by_cases hu:u=s
  ·exact R.own t _ b ht (h2 hu)
  ·exact R.own u y b (h1 hu).1 (h1 hu).2
 ·intro u x u' x' b hx hx' ho ho'
  obtain ⟨y,h1,h2⟩:=own0 u x b hx ho
  obtain ⟨y',h1',h2'⟩:=own0 u' x' b hx' ho'
  by_cases hu:u=s <;> by_cases hu':u'=s
  ·rw [hu,hu']
  ·exfalso
   have e1:=R.apart _ _ _ _ b ht (h1' hu').1 (h2 hu) (h1' hu').2
   subst e1 hu
   rcases look _ _ hx' with ⟨_,rfl⟩ | ⟨h,_⟩ | ⟨h,_⟩
   ·rcases look _ _ hx with ⟨h,_⟩ | ⟨_,rfl⟩ | ⟨_,h,_⟩
    ·exact hne h
    ·exact b2 g0 b (own2 b ho) (own1 b ho')
    ·exact h rfl
   ·exact hu' h
   ·exact h rfl
  ·exfalso
   have e1:=R.apart _ _ _ _ b ht (h1 hu).1 (h2' hu') (h1 hu).2
   subst e1 hu'
   rcases look _ _ hx with ⟨_,rfl⟩ | ⟨h,_⟩ | ⟨h,_⟩
   ·rcases look _ _ hx' with ⟨h,_⟩ | ⟨_,rfl⟩ | ⟨_,h,_⟩
    ·exact hne h
    ·exact b2 g0 b (own2 b ho') (own1 b ho)
    ·exact h rfl
   ·exact hu h
   ·exact h rfl
  ·exact R.apart u y u' y' b (h1 hu).1 (h1' hu').1 (h1 hu).2 (h1' hu').2
 ·intro u g hu
  simp only [List.length_set] at hu
  rw [Bmap.put_ne (by omega)]
  exact R.fresh u g hu
 ·intro u g hx
  rcases look u _ hx with ⟨_,h⟩ | ⟨_,h⟩ | ⟨_,h2,hx⟩
  ·cases h
  ·cases h
  ·rw [Bmap.put_ne h2];exact R.free u g hx
 ·intro u x g hx hg
  rcases look u _ hx with ⟨rfl,rfl⟩ | ⟨rfl,rfl⟩ | ⟨_,h2,hx⟩
  ·rw [Bmap.put_ne (WY hne)];exact R.gen u _ g ht hg
  ·simp only [Zb] at hg
   rw [Bmap.put_gen (by omega)];exact R.free u g hs
  ·rw [Bmap.put_ne h2];exact R.gen u x g hx hg
 ·intro u x b hx hsee
  rcases look u _ hx with ⟨rfl,rfl⟩ | ⟨rfl,rfl⟩ | ⟨_,h2,hx⟩
  ·cases hsee
  ·cases hsee
  ·exact R.ro u x b hx (((R.blk u x hx).sees_at hle b).1 hsee)
end
end
section
open Go.RowKit
section
variable {base:Nat->Prop} {w0 w:World} {I0 I:Imm} {β:Bmap} {σ:Za}
def Zbf (p:(AVal×(List AVal ⊕ AVal))×MapEntry):Option Nat:=match p.1.2 with
 | .inl _=>Zag p.2.val
 | .inr _=>none
theorem ZeV {kb:Nat} {es:List (AVal×(List AVal ⊕ AVal))}:Zas w kb es=kb::(es.zip (ZcK w kb)).filterMap Zbf:=rfl
theorem ZyE {kb j : Nat} {es : List (AVal × (List AVal ⊕ AVal))} {q y : AVal} {xs : List AVal} {e : MapEntry} (hj : es[j]? = some (q, .inr y)) (he : (ZcK w kb)[j]? = some e) (hn : (Zas w kb es).Nodup) (hg : ∀ g, Zag e.val = some g -> g ∉ Zas w kb es) :
    (Zas w kb (es.set j (q, .inl xs))).Nodup /\ ∀ b ∈ Zas w kb (es.set j (q, .inl xs)), b ∈ Zas w kb es \/ Zag e.val = some b := by
  simp only [ZeV] at hn hg ⊢
  generalize ZcK w kb = l at *
  have key : ∀ (es : List (AVal × (List AVal ⊕ AVal))) (l : List MapEntry) (j : Nat), es[j]? = some (q, .inr y) -> l[j]? = some e -> ((es.zip l).filterMap Zbf).Nodup -> (∀ g, Zag e.val = some g -> g ∉ (es.zip l).filterMap Zbf) ->
      (((es.set j (q, .inl xs)).zip l).filterMap Zbf).Nodup /\ ∀ b ∈ ((es.set j (q, .inl xs)).zip l).filterMap Zbf, b ∈ (es.zip l).filterMap Zbf \/ Zag e.val = some b := by
    intro es
    induction es with
    | nil => intro l j h; simp at h
    | cons x es ih =>
      intro l j h h' hn hg
      cases l with
      | nil => simp at h'
      | cons a l =>
        cases j with
        | zero =>
          simp only [XI, Xa] at h h'
          subst h h'
          have e1 : Zbf ((q, Xbd y), a) = none := rfl
          have e2 : Zbf ((q, Sum.inl xs), a) = Zag a.val := rfl
          simp only [Xan, Wd, Wt, e1, e2] at hn hg ⊢
          cases hc : Zag a.val with
          | none => exact ⟨hn, fun b hb => Xw hb⟩
          | some g' =>
            refine ⟨Wi.2 ⟨hg g' hc, hn⟩, fun b hb => ?_⟩
            rcases XL.1 hb with rfl | hb
            . exact XE rfl
            . exact Xw hb
        | succ j =>
          simp only [XW] at h h'
          simp only [W5, Wd, Wt] at hn hg ⊢
          generalize Zbf (x, a) = o at *
          cases o with
          | none => exact ih l j h h' hn hg
          | some g' =>
            obtain ⟨n1, n2⟩ := Wi.1 hn
            obtain ⟨i1, i2⟩ := ih l j h h' n2 (fun g hc hm => hg g hc (Wk _ hm))
            refine ⟨Wi.2 ⟨fun hm => ?_, i1⟩, fun b hb => ?_⟩
            . rcases i2 g' hm with h1 | h1
              . exact n1 h1
              . exact hg g' h1 (by simp)
            . rcases XL.1 hb with rfl | hb
              . exact Xw (by simp)
              . rcases i2 b hb with h1 | h1
                . exact Xw (Wk _ h1)
                . exact XE h1
  obtain ⟨n1, n2⟩ := Wi.1 hn
  obtain ⟨k1, k2⟩ := key es l j hj he n2 (fun g hc hm => hg g hc (Wk _ hm))
  refine ⟨Wi.2 ⟨fun hm => ?_, k1⟩, fun b hb => ?_⟩
  . rcases k2 kb hm with h1 | h1
    . exact n1 h1
    . exact hg kb h1 (by simp)
  . rcases XL.1 hb with rfl | hb
    . exact Xw (by simp)
    . rcases k2 b hb with h1 | h1
      . exact Xw (Wk _ h1)
      . exact XE h1
theorem Rel.give_row (R:Rel base w0 I0 I β σ w) {t s k j g n:Nat} {es:List (AVal×(List AVal ⊕ AVal))} {q:AVal} {xs:List AVal} (ht:σ[t]?=some (.gmap k es)) (hj:es[j]?=some (q,.inr (.sl s g 0 n))) (hs:σ[s]?=some (.row g k xs)) (hnx:n<=xs.length) :
  Rel base w0 I0 I β ((σ.set s (.frow g k [])).set t (.gmap k (es.set j (q,.inl (xs.take n))))) w:=by
 obtain ⟨kb,k',c',hb,hG⟩:=R.blk t _ ht
 obtain ⟨g0,g1,arr,clk,g2,g3,g4,g5,g6⟩:=hG
 obtain ⟨bi,r1,r2,r3,r4,r5,r6,r7,r8⟩:=R.blk s _ hs
 have hlen:es.length=arr.toList.length:=by simpa using Zaa g3
 have hjl:j < arr.toList.length:=by have:=(Xd.1 hj).1;omega
 obtain ⟨e,he⟩:∃ e,arr.toList[j]?=some e:=⟨_,XB hjl⟩
 have hv:VR I β (.sl s g 0 n) e.val:=g6 j _ e hj he
 have hne:s≠t:=by rintro rfl;rw [hs] at ht;cases ht
 have htl:t < σ.length:=(Xd.1 ht).1
 have hsl:s < σ.length:=(Xd.1 hs).1
 have hent:GEnt I β w k e.val (.inl (xs.take n))/\∀ b,Zag e.val=some b->bi.b=some b:=by
  simp only [VR] at hv
  obtain ⟨bi',v1,v2,v3,v4⟩:=hv
  rw [r1] at v1;injection v1 with v1;subst v1
  rcases v4 with ⟨b,hbb,hvv⟩ | ⟨hbn,hc0,A,hvv⟩ | ⟨h0,_⟩
  ·rcases r8 with ⟨h8,_⟩ | ⟨b',us,ty,h8,h9,h10,h11⟩
   ·rw [h8] at hbb;cases hbb
   ·rw [h8] at hbb;injection hbb with hbb;subst hbb
    rw [hvv]
    have h12:VRs I β ((xs.take n).flatMap AVal.cells) (us.toList.take (n*k)):=by
     have:=Zdr h11 (n*k)
     rwa [W7,WU (Wf k hnx),ZfF r7] at this
    have r7':∀ x ∈ xs.take n,x.cells.length=k:=fun x hx=>r7 x (WI hx)
    refine ⟨⟨ZfK r6 n,r7',_,⟨some ⟨b',0,none⟩,n,bi.cap,by simp,?_,Nat.le_trans hnx r5,r4,XE ⟨b',us,ty,rfl,h9,h10,rfl⟩⟩,h12⟩,fun b hcap=>?_⟩
    ·have:=Zaa h12
     rw [<-this,Zhw r7',X3,WU hnx]
    ·simp only [Zag,Nat.sub_zero] at hcap
     split at hcap
     ·cases hcap
     ·simp only [XU,Xa] at hcap
      rw [h8,hcap]
  ·have hx0:xs=[]:=Xah.1 (by omega)
   subst hx0
   rw [hvv,List.take_nil]
   exact ⟨⟨by simp [Z4],by simp,[],⟨A,0,0,rfl,by simp,XR _,by simp,Xw rfl⟩,by simp [VRs]⟩,fun b hcap=>by simp [Zag] at hcap⟩
  ·omega
 have hgo:∀ b,Zag e.val=some b->Ze w β s (.row g k xs) b:=fun b hc=>by
  simp only [Ze,r1,X9];exact hent.2 b hc
 have ownT:∀ b,b ∈ Zas w kb es->Ze w β t (.gmap k es) b:=fun b hm=>⟨kb,by simp [hb],hm⟩
 obtain ⟨b1,b2⟩:=ZyE (w:=w) (kb:=kb) (q:=q) (xs:=xs.take n) hj (by rw [Ze8 g2];exact he) g0 (fun b hc hm=>hne (R.apart s _ t _ b hs ht (hgo b hc) (ownT b hm)))
 have look:∀ u x,((σ.set s (.frow g k [])).set t (.gmap k (es.set j (q,.inl (xs.take n)))))[u]?=some x->(u=t/\x=.gmap k (es.set j (q,.inl (xs.take n))))\/(u=s/\x=.frow g k [])\/(u≠t/\u≠s/\σ[u]?=some x):=by
  intro u x h
  rcases ZgH (by simpa using htl) h with ⟨rfl,rfl⟩ | ⟨h1,h⟩
  ·exact Xw ⟨rfl,rfl⟩
  ·rcases ZgH hsl h with ⟨rfl,rfl⟩ | ⟨h2,h⟩
   ·exact XE (Xw ⟨rfl,rfl⟩)
   ·exact XE (XE ⟨h1,h2,h⟩)
 have own0:∀ u x b,((σ.set s (.frow g k [])).set t (.gmap k (es.set j (q,.inl (xs.take n)))))[u]?=some x->Ze w β u x b->∃ u' y,σ[u']?=some y/\Ze w β u' y b/\(u'=u\/(u'=s/\u=t))/\u≠s:=by
  intro u x b hx ho
  rcases look u x hx with ⟨rfl,rfl⟩ | ⟨rfl,rfl⟩ | ⟨h1,h2,hx'⟩
  ·obtain ⟨kb',h1,h2⟩:=ho
   rw [hb] at h1
   simp only [X9,Xa] at h1
   subst h1
   rcases b2 b h2 with h3 | h3
   ·exact ⟨u,_,ht,ownT b h3,Xw rfl,WY hne⟩
   ·exact ⟨s,_,hs,hgo b h3,XE ⟨rfl,rfl⟩,WY hne⟩
  ·cases ho
  ·exact ⟨u,x,hx',ho,Xw rfl,h2⟩
 refine ⟨R.below,R.old,R.imm,?_,?_,?_,fun u g hu=>R.fresh u g (by simpa using hu),?_,?_,R.glob,?_⟩
 ·intro u x hx
  rcases look u x hx with ⟨rfl,rfl⟩ | ⟨rfl,rfl⟩ | ⟨h1,h2,hx⟩
  ·refine ⟨kb,k',c',hb,b1,g1,arr,clk,g2,?_,?_,g5,?_⟩
   ·have hm:(es.set j (q,.inl (xs.take n))).map (·.1)=es.map (·.1):=by
     apply X7
     intro i
     rw [XX,XX,Xk]
     split
     ·rename_i e';subst e'
      rw [hj,if_pos (Xd.1 hj).1];rfl
     ·rfl
    rw [hm];exact g3
   ·intro p hp
    rcases X5 hp with hp | rfl
    ·exact g4 p hp
    ·exact g4 (q,.inr (.sl s g 0 n)) (Xs hj)
   ·intro i p e' hp he'
    rw [Xk] at hp
    split at hp
    ·rename_i e2;subst e2
     split at hp
     ·injection hp with hp;subst hp
      rw [he] at he';injection he' with he';subst he'
      exact hent.1
     ·cases hp
    ·exact g6 i p e' hp he'
  ·exact ⟨bi,r1,r2,r3,r4,by simp,by simp [Z4],Xw rfl⟩
  ·exact R.blk u x hx
 ·intro u x b hx ho
  obtain ⟨u',y,h1,h2,_⟩:=own0 u x b hx ho
  exact R.own u' y b h1 h2
 ·intro u x u' x' b hx hx' ho ho'
  obtain ⟨v,y,h1,h2,h3,h4⟩:=own0 u x b hx ho
  obtain ⟨v',y',h1',h2',h3',h4'⟩:=own0 u' x' b hx' ho'
  have:=R.apart v y v' y' b h1 h1' h2 h2'
  subst this
  rcases h3 with rfl | ⟨rfl,rfl⟩
  ·rcases h3' with h | ⟨h,h'⟩
   ·exact h
   ·exact absurd h h4
  ·rcases h3' with h | ⟨_,h'⟩
   ·exact absurd h.symm h4'
   ·exact h'.symm
 ·intro u g' hx
  rcases look u _ hx with ⟨_,h⟩ | ⟨_,h⟩ | ⟨_,_,hx⟩
  ·cases h
  ·cases h
  ·exact R.free u g' hx
 ·intro u x g' hx hg
  rcases look u _ hx with ⟨rfl,rfl⟩ | ⟨rfl,rfl⟩ | ⟨_,_,hx⟩
  ·exact R.gen u _ g' ht hg
  ·exact R.gen u _ g' hs hg
  ·exact R.gen u x g' hx hg
 ·intro u x b hx hsee
  rcases look u _ hx with ⟨rfl,rfl⟩ | ⟨rfl,rfl⟩ | ⟨_,_,hx⟩
  ·cases hsee
  ·cases hsee
  ·exact R.ro u x b hx hsee
end
end
section
open Go.RowKit
section
variable {P:Program} {base:Nat->Prop} {w0 w w':World} {I0 I I':Imm} {β β':Bmap} {σ σ':Za}
theorem Zfc {d:TypeDesc} {x:AVal} {vx:Value} (hd:Zbl d=some (Zaq x)) (hx:VR I β x vx):∀ (es:List (AVal×(List AVal ⊕ AVal))) (arr:List MapEntry) (i:Nat) (r:Option (Nat×(List AVal ⊕ AVal))),VRs I β (es.map (·.1)) (arr.map (·.key))->Zcs x es i=some r ->
  (r=none/\Instr.findNow d vx arr i=some none) \/
  ∃ j y e q,r=some (i+j,y)/\Instr.findNow d vx arr i=some (some (i+j,e.val))/\arr[j]?=some e/\es[j]?=some (q,y)/\ZcT x q=some true/\VR I β q e.key
 | [],arr,i,r,hk,h=>by
  unfold Zcs at h
  injection h with h
  subst h
  simp only [X0,VRs,XaR] at hk
  subst hk
  exact Xw ⟨rfl,by simp [Instr.findNow]⟩
 | (k,y)::es,arr,i,r,hk,h=>by
  unfold Zcs at h
  cases arr with
  | nil =>
   simp only [Xu,X0,VRs] at hk
   obtain ⟨_,_,hk,_⟩:=hk
   cases hk
  | cons e arr =>
  simp only [Xu,VRs] at hk
  obtain ⟨_,_,ek,k1,k2⟩:=hk
  injection ek with ek1 ek2
  subst ek1 ek2
  split at h
  ·rename_i ha
   injection h with h
   subst h
   refine XE ⟨0,y,e,k,rfl,?_,rfl,rfl,ha,k1⟩
   simp only [Instr.findNow,Zhf hd ha hx k1,Wm]
  ·rename_i ha
   have hn:=Zhf hd ha hx k1
   rcases Zfc hd hx es arr (i+1) r k2 h with ⟨h1,h2⟩ | ⟨j,y',e',q',h1,h2,h3,h4,h5⟩
   ·exact Xw ⟨h1,by simp only [Instr.findNow,hn];exact h2⟩
   ·refine XE ⟨j+1,y',e',q',by rw [h1,WH,XaG 1 j],?_,by simpa using h3,by simpa using h4,h5⟩
    simp only [Instr.findNow,hn]
    rw [h2,WH,XaG 1 j]
  ·cases h
theorem ZvK (R:Rel base w0 I0 I β σ w) {t kt et:TypeId} (ht:P.underlying t=some (.map kt et)) {d:TypeDesc} (hdk:P.underlying kt=some d) {kc:Nat} (hd:Zbl d=some kc) {z:AVal} (hz:ZcP P et=some z) {s:Nat} {m k v:AVal} {vm vk:Value} {c:Cls} (hm:VR I β m vm) (hk:VR I β k vk) (hs:σ[s]?=some .free)
  (h:Zcy σ s kc z m k=some (v,σ',c)):∃ u,(Instr.lookup t vm vk false).run P w=.ok u w/\Post base w0 I0 I β v σ' u w:=by
 obtain ⟨vz,hvz,hzr⟩:=ZnH (P:=P) (w:=w) (I:=I) (β:=β) hz
 unfold Zcy at h
 split at h
 case isFalse=>cases h
 rename_i hkc
 have hd':Zbl d=some (Zaq k):=by rw [hd,hkc]
 split at h
 case h_2=>cases h
 rename_i b
 simp only [VR] at hm
 obtain ⟨bb,kk,cc,hb,rfl⟩:=hm
 split at h
 case h_2=>cases h
 rename_i wd es ht'
 obtain ⟨kb,k',c',e1,hG⟩:=R.blk _ _ ht'
 rw [hb] at e1
 simp only [Xa,BI.mk.injEq] at e1
 obtain ⟨rfl,rfl,rfl⟩:=e1
 obtain ⟨g0,g1,arr,clk,g2,g3,g4,g5,g6⟩:=hG
 have hg:=ZdF (P:=P) g2
 split at h
 ·rename_i j xs hf
  simp only [Xa,Xb] at h
  obtain ⟨rfl,rfl,rfl⟩:=h
  rcases Zfc hd' hk es arr.toList 0 _ g3 hf with ⟨h1,_⟩ | ⟨j',y',e,q,h1,h2,h3,h4,_⟩
  ·cases h1
  ·simp only [XF,Xa,Xb] at h1
   obtain ⟨rfl,rfl⟩:=h1
   have hr:=Zct (P:=P) (w:=w) hdk h2
   obtain ⟨bi,kb2,clk2,arr2,e2,t1,t2,t3,t4,t5,t6⟩:=R.take_row ht' h4 hs
   rw [hb] at t1
   simp only [X9,Xa] at t1
   subst t1
   rw [g2] at t2
   simp only [Xa,Obj.map.injEq] at t2
   obtain ⟨rfl,rfl⟩:=t2
   rw [h3] at t3;injection t3 with t3;subst t3
   have hq:(es.getD j (k,.inl xs)).1=q:=by simp [Xj,h4]
   rw [hq]
   refine ⟨e.val,?_,Post.mk (Imm.le.refl I) t5 t6 t4⟩
   simp [Instr.lookup,run_underlying ht,Zcl hdk hd,hg,hr]
 ·rename_i j y hf
  simp only [Xa,Xb] at h
  obtain ⟨rfl,rfl,rfl⟩:=h
  rcases Zfc hd' hk es arr.toList 0 _ g3 hf with ⟨h1,_⟩ | ⟨j',y',e,q,h1,h2,h3,h4,_⟩
  ·cases h1
  ·simp only [XF,Xa,Xb] at h1
   obtain ⟨rfl,rfl⟩:=h1
   have hr:=Zct (P:=P) (w:=w) hdk h2
   refine ⟨e.val,?_,Post.here R (g6 _ _ e h4 h3)⟩
   simp [Instr.lookup,run_underlying ht,Zcl hdk hd,hg,hr]
 ·rename_i hf
  simp only [Xa,Xb] at h
  obtain ⟨rfl,rfl,rfl⟩:=h
  rcases Zfc hd' hk es arr.toList 0 _ g3 hf with ⟨_,h2⟩ | ⟨j',y',e,q,h1,_⟩
  ·have hr:=Zct (P:=P) (w:=w) hdk h2
   refine ⟨vz,?_,Post.here R hzr⟩
   simp [Instr.lookup,run_underlying ht,Zcl hdk hd,hg,hr,hvz]
  ·cases h1
 ·cases h
end
end
section
open Go.RowKit
section
variable {P:Program} {base:Nat->Prop} {w0 w w':World} {I0 I I':Imm} {β β':Bmap} {σ σ':Za}
theorem ZrY (R : Rel base w0 I0 I β σ w) (hb : KLt base w0) (t : TypeId) {k : Nat} (hk : 0 < k) {sq : Nat} (hs : σ[sq]? = some .free) :
    ∃ u w', (Instr.makeMap t none).run P w = .ok u w' /\ Post base w0 I0 I β (.map sq) (σ.set sq (.gmap k [])) u w' := by
  have he : ∀ (w : World) (b : Nat), Zas w b [] = [b] := fun w b => by simp [Zas]
  obtain ⟨R', hle⟩ := R.newObj hb hs (.map #[] 0) (.gmap k []) 1 1 (by
      rintro b ⟨kb, h1, h2⟩
      rw [he] at h2
      simp only [Bmap.put_same, X9, Xa] at h1
      subst h1
      simpa using h2) rfl (by simp)
    ⟨_, _, _, Bmap.put_same β sq 0 _, by rw [he]; simp, hk, #[], 0, by simp, by simp [VRs], by simp, by simp [ZeM], by simp⟩
  refine ⟨.map (some w.heap.size), _, run_makeMap t w, Post.mk (Imm.le.refl I) hle R' ?_⟩
  simp only [VR]
  exact ⟨_, _, _, Bmap.put_same β sq 0 _, rfl⟩
theorem Rel.regmap (R:Rel base w0 I0 I β σ w) {t k kb:Nat} {es es':List (AVal×(List AVal ⊕ AVal))} (ht:σ[t]?=some (.gmap k es)) (hbt:(β t 0).bind (·.b)=some kb) {o:Obj} (hkm:kb ∈ Zas w kb es)
  (hG:∃ b k' c,β t 0=some ⟨some b,k',c⟩/\GmapW I β { w with heap:=w.heap.setIfInBounds kb o } k b es') (hsub:∀ b ∈ Zas { w with heap:=w.heap.setIfInBounds kb o } kb es',b ∈ Zas w kb es) :
  Rel base w0 I0 I β (σ.set t (.gmap k es')) { w with heap:=w.heap.setIfInBounds kb o }:=by
 have hsl:t < σ.length:=(Xd.1 ht).1
 have ho:=R.own t _ kb ht ⟨kb,hbt,hkm⟩
 have hh:∀ b',b'≠kb->(w.heap.setIfInBounds kb o)[b']?=w.heap[b']?:=by
  intro b' hne
  rw [We (fun e=>hne e.symm)]
 have hold:∀ b,Ze { w with heap:=w.heap.setIfInBounds kb o } β t (.gmap k es') b->Ze w β t (.gmap k es) b:=by
  rintro b ⟨kb',h1,h2⟩
  rw [hbt] at h1;injection h1 with h1;subst h1
  exact ⟨kb,hbt,hsub b h2⟩
 refine R.upd (Imm.le.refl I) (Bmap.le.refl β) ⟨rfl,rfl,rfl,by simp,fun k hk=>hh k (by rintro rfl;exact ho.1 hk)⟩ (fun _ _ _=>rfl) ?_ t _ rfl hsl (fun _ _ _=>rfl) ?_ hG ?_ ?_ (by simp)
 ·intro b' o' u h
  have hne:b'≠kb:=by rintro rfl;rw [ho.2 o'] at h;cases h
  rw [<-R.imm b' o' u h]
  simp only [World.cell?,hh b' hne]
 ·intro t' y b' hne hy hb'
  have hbb:b'≠kb:=by rintro rfl;exact hne (R.apart t' y t _ b' hy ht hb' ⟨_,hbt,hkm⟩)
  exact ⟨hh b' hbb,(R.own t' y b' hy hb').2,fun e=>hne (R.apart t' y t _ b' hy ht hb' (hold b' e))⟩
 ·intro b' e
  exact R.own t _ b' ht (hold b' e)
 ·intro g hlt
  exact R.gen t _ g ht hlt
theorem Zmh {kb:Nat} {arr':Array MapEntry} {clk':Nat} (hlt:kb < w.heap.size):ZcK { w with heap:=w.heap.setIfInBounds kb (.map arr' clk') } kb=arr'.toList:=by
 unfold ZcK
 simp only [Wn hlt]
theorem Zjw {q y:AVal} {e:MapEntry} {v':MapEntry}:∀ (es:List (AVal×(List AVal ⊕ AVal))) (l:List MapEntry) (j:Nat),l[j]?=some e->(((es.set j (q,.inr y)).zip (l.set j v')).filterMap Zbf).Sublist ((es.zip l).filterMap Zbf)
 | [],l,j,h=>by simp
 | x::es,[],j,h=>by simp at h
 | x::es,a::l,0,h=>by
  have e1:Zbf ((q,Xbd y),v')=none:=rfl
  simp only [Xan,Wd,Wt,e1]
  cases Zbf (x,a) with
  | none=>exact Xau _
  | some g=>exact XaF _ _
 | x::es,a::l,j+1,h=>by
  simp only [XW] at h
  simp only [W5,Wd,Wt]
  cases Zbf (x,a) with
  | none=>exact Zjw es l j h
  | some g=>exact (Zjw es l j h).cons_cons _
theorem Zl8 {q y:AVal} {v':MapEntry}:∀ (es:List (AVal×(List AVal ⊕ AVal))) (l:List MapEntry),es.length=l.length->(((es++[(q,(Xbd y:List AVal ⊕ AVal))]).zip (l++[v'])).filterMap Zbf)=((es.zip l).filterMap Zbf)
 | [],[],_=>rfl
 | [],_::_,h=>by simp at h
 | _::_,[],h=>by simp at h
 | x::es,a::l,h=>by
  simp only [List.cons_append,Wd,Wt]
  rw [Zl8 es l (by simpa using h)]
theorem Zjm:∀ (es:List (AVal×(List AVal ⊕ AVal))) (l:List MapEntry) (j:Nat),(((es.eraseIdx j).zip (l.eraseIdx j)).filterMap Zbf).Sublist ((es.zip l).filterMap Zbf)
 | [],l,j=>by simp
 | x::es,[],j=>by simp
 | x::es,a::l,0=>by
  simp only [List.eraseIdx_cons_zero,Wd,Wt]
  cases Zbf (x,a) with
  | none=>exact Xau _
  | some g=>exact XaF _ _
 | x::es,a::l,j+1=>by
  simp only [List.eraseIdx_cons_succ,Wd,Wt]
  cases Zbf (x,a) with
  | none=>exact Zjm es l j
  | some g=>exact (Zjm es l j).cons_cons _
theorem GEnt.keep {k kb:Nat} {v:Value} {o:Obj} {p:List AVal ⊕ AVal} (h:GEnt I β w k v p) (hne:∀ xs,p=.inl xs->Zag v≠some kb):GEnt I β { w with heap:=w.heap.setIfInBounds kb o } k v p:=by
 cases p with
 | inr y=>exact h
 | inl xs =>
  obtain ⟨t1,t2,vs,t3,t4⟩:=h
  refine ⟨t1,t2,vs,t3.keep (fun g hg=>?_),t4⟩
  have : g≠kb:=fun e=>hne xs rfl (by rw [hg,e])
  simp only
  rw [We (fun e=>this e.symm)]
theorem Rel.gturn (R:Rel base w0 I0 I β σ w) {b k bb kk cc clk:Nat} {es:List (AVal×(List AVal ⊕ AVal))} {arr:Array MapEntry} (hs:σ[b]?=some (.gmap k es)) (hb:β b 0=some ⟨some bb,kk,cc⟩) (g2:w.heap[bb]?=some (.map arr clk)) {x:AVal} {vx:Value} (hx:VR I β x vx) :
  ∀ (arr':Array MapEntry) (clk':Nat) (es':List (AVal×(List AVal ⊕ AVal))),((es'.zip arr'.toList).filterMap Zbf).Sublist ((es.zip arr.toList).filterMap Zbf) ->
   VRs I β (es'.map (·.1)) (arr'.toList.map (·.key))->(∀ p ∈ es',ZbJ p.1=true)->ZeM arr' clk' ->
   (∀ (i:Nat) (p:AVal×(List AVal ⊕ AVal)) (e:MapEntry),es'[i]?=some p->arr'.toList[i]?=some e->(p.2=.inr x/\e.val=vx)\/(∃ i':Nat,es[i']?=some p/\arr.toList[i']?=some e)) ->
   Rel base w0 I0 I β (σ.set b (.gmap k es')) { w with heap:=w.heap.setIfInBounds bb (.map arr' clk') }:=by
 obtain ⟨kb,k',c',e1,hG⟩:=R.blk _ _ hs
 rw [hb] at e1
 simp only [Xa,BI.mk.injEq] at e1
 obtain ⟨rfl,rfl,rfl⟩:=e1
 obtain ⟨g0,g1,arr1,clk1,g2',g3,g4,g5,g6⟩:=hG
 rw [g2] at g2'
 simp only [Xa,Obj.map.injEq] at g2'
 obtain ⟨rfl,rfl⟩:=g2'
 have hlt:bb < w.heap.size:=(XD.1 g2).1
 have hents:=Ze8 g2
 rw [ZeV,hents] at g0
 obtain ⟨n1,n2⟩:=Wi.1 g0
 have hnk:∀ (i:Nat) (p:AVal×(List AVal ⊕ AVal)) (e:MapEntry),es[i]?=some p->arr.toList[i]?=some e->∀ xs,p.2=.inl xs->Zag e.val≠some bb:=by
  intro i p e hp he xs hpx hc
  refine n1 (W4.2 ⟨(p,e),Xs (i:=i) (by rw [W8];exact ⟨hp,he⟩),?_⟩)
  unfold Zbf
  simp only [hpx]
  exact hc
 intro arr' clk' es' f1 f2 f3 f4 f5
 have hsub:∀ c ∈ Zas { w with heap:=w.heap.setIfInBounds bb (.map arr' clk') } bb es',c ∈ Zas w bb es:=by
  intro c hc
  rw [ZeV,Zmh hlt] at hc
  rw [ZeV,hents]
  rcases XL.1 hc with rfl | hc
  ·simp
  ·exact Wk _ (f1.subset hc)
 refine R.regmap hs (by simp [hb]) (by simp [Zas]) ⟨bb,kk,cc,hb,?_,g1,arr',clk',by simp only [Wn hlt],f2,f3,f4,?_⟩ hsub
 ·rw [ZeV,Zmh hlt]
  exact Wi.2 ⟨fun h=>n1 (f1.subset h),n2.sublist f1⟩
 ·intro i p e hp he
  rcases f5 i p e hp he with ⟨h1,h2⟩ | ⟨i',h1,h2⟩
  ·rw [h1,h2];exact hx
  ·exact (g6 i' p e h1 h2).keep (hnk i' p e h1 h2)
theorem ZlU (R:Rel base w0 I0 I β σ w) {t kt et:TypeId} (ht:P.underlying t=some (.map kt et)) {d:TypeDesc} (hdk:P.underlying kt=some d) {kc:Nat} (hd:Zbl d=some kc) {b k:Nat} {es:List (AVal×(List AVal ⊕ AVal))} {q x:AVal} {vm vk vx:Value} (hkc:Zaq q=kc) (hkA:ZbJ q=true) (hm:VR I β (.map b) vm) (hk:VR I β q vk) (hx:VR I β x vx)
  (hs:σ[b]?=some (.gmap k es)) {es':List (AVal×(List AVal ⊕ AVal))} (h:ZcQ q (.inr x) es=some es'):∃ w',(Instr.mapUpdate t vm vk vx).run P w=.ok () w'/\Rel base w0 I0 I β (σ.set b (.gmap k es')) w':=by
 have hd':Zbl d=some (Zaq q):=by rw [hd,hkc]
 simp only [VR] at hm
 obtain ⟨bb,kk,cc,hb,rfl⟩:=hm
 obtain ⟨kb,k',c',e1,hG⟩:=R.blk _ _ hs
 rw [hb] at e1
 simp only [Xa,BI.mk.injEq] at e1
 obtain ⟨rfl,rfl,rfl⟩:=e1
 obtain ⟨g0,g1,arr,clk,g2,g3,g4,g5,g6⟩:=hG
 obtain ⟨s1,s2⟩:=g5
 have hg:=ZdF (P:=P) g2
 have hlt:bb < w.heap.size:=(XD.1 g2).1
 have hlen:es.length=arr.toList.length:=by simpa using Zaa g3
 have fin:=R.gturn hs hb g2 hx
 unfold ZcQ at h
 split at h
 ·rename_i j y hf
  injection h with h;subst h
  rcases Zfc hd' hk es arr.toList 0 _ g3 hf with ⟨h1,_⟩ | ⟨j',y',e,q',h1,h2,h3,h4,h6,h7⟩
  ·cases h1
  ·simp only [XF,Xa,Xb] at h1 h2
   obtain ⟨rfl,rfl⟩:=h1
   have hr:=Zct (P:=P) (w:=w) hdk h2
   obtain ⟨sb,_⟩:=ZlY h6 hk h7
   have h3':arr[j]?=some e:=by rw [<-Wo];exact h3
   have hst:(Instr.keyThatStays (((arr[j]?).map (·.key)).getD vk) vk).run P w=.ok vk w:=by
    rw [h3']
    simp [Instr.keyThatStays,sb]
   have hmod:(arr.modify j fun e=>{ e with key:=vk,val:=vx }).toList=arr.toList.set j { e with key:=vk,val:=vx }:=by
    rw [Zew]
    apply X7
    intro i
    rw [List.getElem?_modify,Xk]
    by_cases hij:j=i
    ·subst hij
     have hjl:=(Xd.1 h3).1
     have hjl':j < arr.size:=by simpa using hjl
     have hje:arr[j]=e:=by rw [Array.getElem?_eq_getElem hjl'] at h3';exact Xas h3'
     simp [hjl',hje]
    ·simp [hij]
   refine ⟨_,?_,fin (arr.modify j fun e=>{ e with key:=vk,val:=vx }) clk _ ?_ ?_ ?_ ?_ ?_⟩
   ·simp only [Instr.mapUpdate,run_underlying ht,Zcl hdk hd,hg,hr,hst,Sem.run_bind,Result.andThen_ok,Zet g2]
   ·rw [hmod];exact Zjw es arr.toList j h3
   ·rw [Zew,Zh2 (fun x:MapEntry=>x.key) _ vk (fun _=>rfl),XaT]
    exact ZiJ g3 hk j
   ·intro p hp
    rcases X5 hp with hp | rfl
    ·exact g4 p hp
    ·exact hkA
   ·refine ⟨fun e he=>?_,?_⟩
    ·rw [Zew] at he
     have hm:e.born ∈ (arr.toList.modify j fun e=>{ e with key:=vk,val:=vx }).map (·.born):=XJ.2 ⟨e,he,rfl⟩
     rw [Zgf (fun x:MapEntry=>x.born) (fun e:MapEntry=>{ e with key:=vk,val:=vx }) (fun _=>rfl)] at hm
     obtain ⟨e',he',hb'⟩:=XJ.1 hm
     rw [<-hb'];exact s1 e' he'
    ·rw [Zew,Zgf (fun x:MapEntry=>x.born) (fun e:MapEntry=>{ e with key:=vk,val:=vx }) (fun _=>rfl)]
     exact s2
   ·intro i p e' hp he'
    rw [hmod,Xk] at he'
    rw [Xk] at hp
    by_cases hij:j=i
    ·subst hij
     rw [if_pos rfl] at hp he'
     split at hp
     ·injection hp with hp;subst hp
      split at he'
      ·injection he' with he';subst he';exact Xw ⟨rfl,rfl⟩
      ·cases he'
     ·cases hp
    ·rw [if_neg hij] at hp he'
     exact XE ⟨i,hp,he'⟩
 ·rename_i hf
  injection h with h;subst h
  rcases Zfc hd' hk es arr.toList 0 _ g3 hf with ⟨_,h2⟩ | ⟨j',y',e,q',h1,_⟩
  ·have hr:=Zct (P:=P) (w:=w) hdk h2
   refine ⟨_,?_,fin (arr.push { key:=vk,val:=vx,born:=clk }) (clk+1) _ ?_ ?_ ?_ ?_ ?_⟩
   ·simp only [Instr.mapUpdate,run_underlying ht,Zcl hdk hd,hg,hr,Sem.run_bind,Result.andThen_ok,Zet g2]
   ·rw [WP,Zl8 es arr.toList hlen]
    exact Xau _
   ·rw [WP,Wc,Wc]
    exact Zca g3 (by simp only [Xu,X0,VRs];exact ⟨_,_,rfl,hk,rfl⟩)
   ·intro p hp
    rcases Xv.1 hp with hp | hp
    ·exact g4 p hp
    ·rw [XZ] at hp;subst hp;exact hkA
   ·refine ⟨fun e he=>?_,?_⟩
    ·rw [WP] at he
     rcases Xv.1 he with he | he
     ·have:=s1 e he;omega
     ·rw [XZ] at he;subst he;exact Nat.lt_succ_self clk
    ·rw [WP,Wc,Xac]
     refine ⟨s2,by simp,?_⟩
     intro a ha b hb'
     simp only [Xu,X0,XZ] at hb'
     subst hb'
     obtain ⟨e',he',rfl⟩:=XJ.1 ha
     have:=s1 e' he'
     omega
   ·intro i p e' hp he'
    rw [WP,Wz] at he'
    rw [Wz] at hp
    by_cases hil:i < es.length
    ·rw [if_pos hil] at hp
     rw [if_pos (by omega)] at he'
     exact XE ⟨i,hp,he'⟩
    ·rw [if_neg hil] at hp
     rw [if_neg (by omega)] at he'
     have h0:i - es.length=0:=by
      have:=(Xd.1 hp).1
      simp only [Xx,List.length_nil] at this
      omega
     rw [h0] at hp
     rw [<-hlen,h0] at he'
     simp only [XI,Xa] at hp he'
     subst hp he'
     exact Xw ⟨rfl,rfl⟩
  ·cases h1
 ·cases h
theorem ZnG {q:AVal}:∀ {es:List (AVal×(List AVal ⊕ AVal))} {i j:Nat} {y:List AVal ⊕ AVal},Zcs q es i=some (some (j,y))->∃ j' q',j=i+j'/\es[j']?=some (q',y)
 | [],i,j,y,h=>by simp [Zcs] at h
 | (a,b)::es,i,j,y,h=>by
  simp only [Zcs] at h
  split at h
  ·simp only [Xa,Xb] at h
   obtain ⟨rfl,rfl⟩:=h
   exact ⟨0,a,rfl,rfl⟩
  ·obtain ⟨j',q',e1,e2⟩:=ZnG h
   exact ⟨j'+1,q',by omega,by simpa using e2⟩
  ·cases h
theorem Zv2 (σ:Za) (k:Nat) (x:AVal):ZcJ σ k x=(.inr x,σ)\/∃ s g n xs,x=.sl s g 0 n/\σ[s]?=some (.row g k xs)/\n<=xs.length/\ZcJ σ k x=(.inl (xs.take n),σ.set s (.frow g k [])):=by
 unfold ZcJ
 split
 ·rename_i s g lo n
  split
  ·rename_i g' k1 xs hrow
   split
   ·rename_i hc
    obtain ⟨rfl,rfl,rfl,hn⟩:=hc
    exact XE ⟨s,g',n,xs,rfl,hrow,hn,rfl⟩
   ·exact Xw rfl
  ·exact Xw rfl
 ·exact Xw rfl
theorem Zww (R:Rel base w0 I0 I β σ w) {t kt et:TypeId} (ht:P.underlying t=some (.map kt et)) {d:TypeDesc} (hdk:P.underlying kt=some d) {kc:Nat} (hd:Zbl d=some kc) {b k:Nat} {es es':List (AVal×(List AVal ⊕ AVal))} {q x:AVal} {vm vk vx:Value} (hkc:Zaq q=kc) (hkA:ZbJ q=true) (hm:VR I β (.map b) vm) (hk:VR I β q vk) (hx:VR I β x vx)
  (hs:σ[b]?=some (.gmap k es)) (h:ZcQ q (ZcJ σ k x).1 es=some es'):∃ w',(Instr.mapUpdate t vm vk vx).run P w=.ok () w'/\Rel base w0 I0 I β ((ZcJ σ k x).2.set b (.gmap k es')) w':=by
 rcases Zv2 σ k x with e | ⟨s,g',n,xs,rfl,hrow,hn,e⟩
 ·rw [e] at h ⊢
  exact ZlU R ht hdk hd hkc hkA hm hk hx hs h
 rw [e] at h ⊢
 simp only at h ⊢
 have hsb:s≠b:=by rintro rfl;rw [hrow] at hs;cases hs
 have hbl:b < σ.length:=(Xd.1 hs).1
 have key:∀ es1,ZcQ q (.inr (.sl s g' 0 n)) es=some es1->∀ j,es1[j]?=some (q,.inr (.sl s g' 0 n))->es'=es1.set j (q,.inl (xs.take n))->∃ w',(Instr.mapUpdate t vm vk vx).run P w=.ok () w'/\Rel base w0 I0 I β ((σ.set s (.frow g' k [])).set b (.gmap k es')) w':=by
  intro es1 h1 j hj he
  obtain ⟨w',hw,R'⟩:=ZlU R ht hdk hd hkc hkA hm hk hx hs h1
  have:=R'.give_row (t:=b) (s:=s) (k:=k) (j:=j) (g:=g') (n:=n) (es:=es1) (q:=q) (xs:=xs) (by rw [Xk,if_pos rfl,if_pos hbl]) hj (by rw [Xk,if_neg (fun e=>hsb e.symm)];exact hrow) hn
  rw [List.set_comm _ _ (fun e=>hsb e.symm),XaH,<-he] at this
  exact ⟨w',hw,this⟩
 unfold ZcQ at h key
 split at h
 ·rename_i j y hf
  injection h with h;subst h
  rw [hf] at key
  obtain ⟨j',q',e1,e2⟩:=ZnG hf
  have hj:j < es.length:=by have:=(Xd.1 e2).1;omega
  exact key _ rfl j (by rw [Xk,if_pos rfl,if_pos hj]) (by rw [XaH])
 ·rename_i hf
  injection h with h;subst h
  rw [hf] at key
  exact key _ rfl es.length (by simp) (by simp)
 ·cases h
theorem Zi4 {α:Type}:∀ {l:List α} {j i:Nat} {x:α},(l.eraseIdx j)[i]?=some x->l[if i < j then i else i+1]?=some x
 | [],j,i,x,h=>by simp at h
 | a::l,0,i,x,h=>by simpa using h
 | a::l,j+1,0,x,h=>by simpa using h
 | a::l,j+1,i+1,x,h=>by
  have:=Zi4 (l:=l) (j:=j) (i:=i) (x:=x) (by simpa using h)
  by_cases hij:i < j
  ·rw [if_pos hij] at this;rw [if_pos (by omega)];simpa using this
  ·rw [if_neg hij] at this;rw [if_neg (by omega)];simpa using this
theorem Zl4 (R:Rel base w0 I0 I β σ w) {t kt et:TypeId} (ht:P.underlying t=some (.map kt et)) {d:TypeDesc} (hdk:P.underlying kt=some d) {kc:Nat} (hd:Zbl d=some kc) {b k:Nat} {es:List (AVal×(List AVal ⊕ AVal))} {q:AVal} {vm vk:Value} (ts:List TypeId) (ty:TypeId) (hkc:Zaq q=kc) (hm:VR I β (.map b) vm) (hk:VR I β q vk)
  (hs:σ[b]?=some (.gmap k es)) {r:Option (Nat×(List AVal ⊕ AVal))} (h:Zcs q es 0=some r):∃ w',(Builtin.delete_ (t::ts).toArray ty #[vm,vk]).run P w=.ok (.tuple #[]) w'/\Rel base w0 I0 I β (σ.set b (.gmap k (match r with | some (j,_)=>es.eraseIdx j | none=>es))) w':=by
 have hd':Zbl d=some (Zaq q):=by rw [hd,hkc]
 simp only [VR] at hm
 obtain ⟨bb,kk,cc,hb,rfl⟩:=hm
 obtain ⟨kb,k',c',e1,hG⟩:=R.blk _ _ hs
 rw [hb] at e1
 simp only [Xa,BI.mk.injEq] at e1
 obtain ⟨rfl,rfl,rfl⟩:=e1
 obtain ⟨g0,g1,arr,clk,g2,g3,g4,g5,g6⟩:=hG
 have hg:=ZdF (P:=P) g2
 have fin:=R.gturn hs hb g2 (x:=.nilp) (vx:=.pointer none) (by simp [VR])
 have hbl:b < σ.length:=(Xd.1 hs).1
 rcases Zfc hd' hk es arr.toList 0 _ g3 h with ⟨rfl,h2⟩ | ⟨j,y,e,q',rfl,h2,h3,h4,h6,h7⟩
 ·have hr:=Zct (P:=P) (w:=w) hdk h2
  refine ⟨_,?_,fin arr clk es (Xau _) g3 g4 g5 (fun i p e h1 h2=>XE ⟨i,h1,h2⟩)⟩
  simp [Builtin.delete_,run_underlying ht,Zcl hdk hd,hg,hr,Zet g2]
 ·simp only [XF] at h2
  have hr:=Zct (P:=P) (w:=w) hdk h2
  have el:(arr.eraseIdxIfInBounds j).toList=arr.toList.eraseIdx j:=by simp
  simp only [XF]
  refine ⟨_,?_,fin (arr.eraseIdxIfInBounds j) clk (es.eraseIdx j) ?_ ?_ (fun p hp=>g4 p (Xad hp)) ?_ ?_⟩
  ·simp [Builtin.delete_,run_underlying ht,Zcl hdk hd,hg,hr,Zet g2]
  ·rw [el];exact Zjm es arr.toList j
  ·rw [el,Zd0,Zd0];exact Zii j g3
  ·refine ⟨fun e he=>?_,?_⟩
   ·rw [el] at he;exact g5.1 e (Xad he)
   ·rw [el,Zd0];exact g5.2.sublist (List.eraseIdx_sublist _ _)
  ·intro i p e' hp he'
   rw [el] at he'
   exact XE ⟨_,Zi4 hp,Zi4 he'⟩
theorem ZmG (R:Rel base w0 I0 I β σ w) {t kt et:TypeId} (ht:P.underlying t=some (.map kt et)) {d:TypeDesc} (hdk:P.underlying kt=some d) {kc:Nat} (hd:Zbl d=some kc) {m k x v:AVal} {vm vk vx:Value} {c:Cls} (hm:VR I β m vm) (hk:VR I β k vk) (hx:VR I β x vx)
  (h:Zc0 σ kc m k x=some (v,σ',c)):v=.tup []/\∃ w',(Instr.mapUpdate t vm vk vx).run P w=.ok () w'/\Rel base w0 I0 I β σ' w':=by
 by_cases hg:∃ b wd es,m=.map b/\σ[b]?=some (.gmap wd es)
 ·obtain ⟨b,wd,es,rfl,hs⟩:=hg
  unfold Zc0 at h
  split at h
  case isFalse=>cases h
  rename_i hkc
  obtain ⟨hkc,hkA,_⟩:=hkc
  simp only [hs] at h
  split at h
  ·rename_i es' he
   simp only [Xa,Xb] at h
   obtain ⟨rfl,rfl,rfl⟩:=h
   exact ⟨rfl,Zww R ht hdk hd hkc hkA hm hk hx hs he⟩
  ·cases h
 ·exact ZxJ R ht hdk hd hm hk hx (fun t e w es hs=>hg ⟨t,w,es,e,hs⟩) h
theorem Zp8 (R:Rel base w0 I0 I β σ w) {t kt et:TypeId} (ht:P.underlying t=some (.map kt et)) {d:TypeDesc} (hdk:P.underlying kt=some d) {kc:Nat} (hd:Zbl d=some kc) {m k v:AVal} {vm vk:Value} {c:Cls} (ts:List TypeId) (ty:TypeId) (hm:VR I β m vm) (hk:VR I β k vk)
  (h:ZeZ σ kc m k=some (v,σ',c)):∃ w',(Builtin.delete_ (t::ts).toArray ty #[vm,vk]).run P w=.ok (.tuple #[]) w'/\v=.tup []/\Rel base w0 I0 I β σ' w':=by
 by_cases hg:∃ b wd es,m=.map b/\σ[b]?=some (.gmap wd es)
 ·obtain ⟨b,wd,es,rfl,hs⟩:=hg
  unfold ZeZ at h
  split at h
  case isFalse=>cases h
  rename_i hkc
  simp only [hs] at h
  split at h
  ·rename_i j y he
   simp only [Xa,Xb] at h
   obtain ⟨rfl,rfl,rfl⟩:=h
   obtain ⟨w',h1,h2⟩:=Zl4 R ht hdk hd ts ty hkc hm hk hs he
   exact ⟨w',h1,rfl,h2⟩
  ·rename_i he
   simp only [Xa,Xb] at h
   obtain ⟨rfl,rfl,rfl⟩:=h
   obtain ⟨w',h1,h2⟩:=Zl4 R ht hdk hd ts ty hkc hm hk hs he
   exact ⟨w',h1,rfl,h2⟩
  ·cases h
 ·exact ZsJ R ht hdk hd ts ty hm hk (fun t e w es hs=>hg ⟨t,w,es,e,hs⟩) h
theorem Zmo:∀ {es:List (AVal×(List AVal ⊕ AVal))} {fs:List (AVal×AVal)},ZdW es=some fs->es.map (·.1)=fs.map (·.1)/\es.length=fs.length/\∀ (i:Nat) (p:AVal×(List AVal ⊕ AVal)),es[i]?=some p->∃ xs,p.2=.inl xs/\fs[i]?=some (p.1,.lst false xs)
 | [],fs,h=>by simp only [ZdW,Xa] at h;subst h;simp
 | (k,.inl xs)::r,fs,h=>by
  simp only [ZdW] at h
  split at h
  ·rename_i l hl
   injection h with h;subst h
   obtain ⟨h1,h2,h3⟩:=Zmo hl
   refine ⟨by simp [h1],by simp [h2],fun i p hp=>?_⟩
   cases i with
   | zero=>simp only [XI,Xa] at hp;subst hp;exact ⟨xs,rfl,rfl⟩
   | succ i=>simp only [XW] at hp ⊢;exact h3 i p hp
  ·cases h
 | (_,.inr _)::_,fs,h=>by simp [ZdW] at h
open Classical in
noncomputable def Imm.addBs (I:Imm) (w:World) (L:List Nat):Imm:=fun b o=>if b ∈ L then w.cell? ⟨b,o,none⟩ else I b o
theorem Rel.melt (R:Rel base w0 I0 I β σ w) {t k:Nat} {es:List (AVal×(List AVal ⊕ AVal))} {fs:List (AVal×AVal)} (ht:σ[t]?=some (.gmap k es)) (hf:ZdW es=some fs) :
  ∃ I',I.le I'/\Rel base w0 I0 I' β (σ.set t (.map fs)) w:=by
 obtain ⟨kb,k',c',hb,hG⟩:=R.blk t _ ht
 obtain ⟨g0,g1,arr,clk,g2,g3,g4,g5,g6⟩:=hG
 obtain ⟨m1,m2,m3⟩:=Zmo hf
 have hents:=Ze8 g2
 have hg0:=g0
 rw [ZeV,hents] at g0
 obtain ⟨n1,n2⟩:=Wi.1 g0
 generalize hL:(es.zip arr.toList).filterMap Zbf=L at *
 have hbs:Zas w kb es=kb::L:=by rw [ZeV,hents,hL]
 have ownL:∀ b ∈ L,Ze w β t (.gmap k es) b:=fun b hm=>⟨kb,by simp [hb],by rw [hbs];exact Wk _ hm⟩
 have ownK:Ze w β t (.gmap k es) kb:=⟨kb,by simp [hb],by rw [hbs];simp⟩
 have hle:I.le (I.addBs w L):=by
  intro b o u h
  unfold Imm.addBs
  by_cases hm:b ∈ L
  ·have:=(R.own t _ b ht (ownL b hm)).2 o
   rw [h] at this;cases this
  ·rw [if_neg hm];exact h
 have hlen:es.length=arr.toList.length:=by simpa using Zaa g3
 have htl:t < σ.length:=(Xd.1 ht).1
 have look:∀ u x,(σ.set t (.map fs))[u]?=some x->(u=t/\x=.map fs)\/(u≠t/\σ[u]?=some x):=fun u x h=>ZgH htl h
 have hnew:∀ (i:Nat) (p:AVal×AVal) (e:MapEntry),fs[i]?=some p->arr.toList[i]?=some e->VR (I.addBs w L) β p.2 e.val:=by
  intro i p e hp he
  have hil:i < es.length:=by rw [m2];exact (Xd.1 hp).1
  obtain ⟨q,hq⟩:∃ q,es[i]?=some q:=⟨_,XB hil⟩
  obtain ⟨xs,hx1,hx2⟩:=m3 i q hq
  rw [hp] at hx2;injection hx2 with hx2;subst hx2
  have hent:=g6 i q e hq he
  rw [hx1] at hent
  obtain ⟨t1,t2,vs,⟨A,n,c,hv,h1,h2,h3,h4⟩,t4⟩:=hent
  have hn:xs.length=n:=by
   have:=Zaa t4
   rw [Zhw t2,h1] at this
   exact Nat.eq_of_mul_eq_mul_right g1 this
  subst hn
  simp only [VR]
  refine ⟨A,c,hv,h2,h3,by simp,?_,t1⟩
  rcases h4 with h4 | ⟨g,cur,e',rfl,hg,hs',htk⟩
  ·exact Xw (Xah.1 (by omega))
  ·by_cases hc:c=0
   ·exact Xw (Xah.1 (by omega))
   refine XE ⟨g,0,k,rfl,g1,?_⟩
   have hgL:g ∈ L:=by
    rw [<-hL]
    refine W4.2 ⟨(q,e),Xs (i:=i) (by rw [W8];exact ⟨hq,he⟩),?_⟩
    unfold Zbf
    simp only [hx1,hv,Zag,hc,if_false,XU]
   refine ZfL t2 (VRs.mono hle (Bmap.le.refl β) _ _ t4) (fun j u hu=>?_)
   unfold Imm.addBs
   rw [if_pos hgL,XF,Zed hg]
   rw [<-htk,XQ] at hu
   split at hu
   ·rwa [Wo] at hu
   ·cases hu
 refine ⟨_,hle,R.below,?_,?_,?_,?_,?_,?_,?_,?_,fun b o u h=>hle b o u (R.glob b o u h),?_⟩
 ·intro b o hbase
  unfold Imm.addBs
  rw [if_neg (fun hm=>(R.own t _ b ht (ownL b hm)).1 hbase)]
  exact R.old b o hbase
 ·intro b o u h
  unfold Imm.addBs at h
  split at h
  ·exact h
  ·exact R.imm b o u h
 ·intro u x hx
  rcases look u x hx with ⟨rfl,rfl⟩ | ⟨hne,hx⟩
  ·refine ⟨kb,k',c',arr,clk,hb,g2,?_,?_,?_,g5⟩
   ·rw [<-m1];exact VRs.mono hle (Bmap.le.refl β) _ _ g3
   ·refine Zda (by simp [<-m2,hlen]) (fun i x v hx hv=>?_)
    rw [XX,Xn] at hx hv
    obtain ⟨p,hp,rfl⟩:=hx
    obtain ⟨e,he,rfl⟩:=hv
    exact hnew i p e hp he
   ·intro p hp
    have : p.1 ∈ es.map (·.1):=by rw [m1];exact XJ.2 ⟨p,hp,rfl⟩
    obtain ⟨q,hq,e⟩:=XJ.1 this
    rw [<-e];exact g4 q hq
  ·exact (R.blk u x hx).keep hle (Bmap.le.refl β) (fun _ _=>rfl) (fun _ _=>rfl)
 ·intro u x b hx ho
  have hIn:∀ (u':Nat) (y:ZV),σ[u']?=some y->Ze w β u' y b->b ∉ L->¬base b/\∀ o,(I.addBs w L) b o=none:=by
   intro u' y hy hoy hnL
   refine ⟨(R.own u' y b hy hoy).1,fun o=>?_⟩
   unfold Imm.addBs
   rw [if_neg hnL]
   exact (R.own u' y b hy hoy).2 o
  rcases look u x hx with ⟨rfl,rfl⟩ | ⟨hne,hx⟩
  ·have hbk:kb=b:=by simpa [Ze,hb] using ho
   subst hbk
   exact hIn u _ ht ownK n1
  ·exact hIn u x hx ho (fun hm=>hne (R.apart u x t _ b hx ht ho (ownL b hm)))
 ·intro u x u' x' b hx hx' ho ho'
  have conv:∀ u x,(σ.set t (.map fs))[u]?=some x->Ze w β u x b->∃ y,σ[u]?=some y/\Ze w β u y b:=by
   intro u x hx ho
   rcases look u x hx with ⟨rfl,rfl⟩ | ⟨hne,hx⟩
   ·have hbk:kb=b:=by simpa [Ze,hb] using ho
    subst hbk
    exact ⟨_,ht,ownK⟩
   ·exact ⟨x,hx,ho⟩
  obtain ⟨y,h1,h2⟩:=conv u x hx ho
  obtain ⟨y',h1',h2'⟩:=conv u' x' hx' ho'
  exact R.apart u y u' y' b h1 h1' h2 h2'
 ·intro u g hu
  exact R.fresh u g (by simpa using hu)
 ·intro u g hx
  rcases look u _ hx with ⟨_,h⟩ | ⟨_,hx⟩
  ·cases h
  ·exact R.free u g hx
 ·intro u x g hx hg
  rcases look u x hx with ⟨rfl,rfl⟩ | ⟨_,hx⟩
  ·exact R.gen u _ g ht hg
  ·exact R.gen u x g hx hg
 ·intro u x b hx hsee
  rcases look u x hx with ⟨rfl,rfl⟩ | ⟨_,hx⟩
  ·cases hsee
  ·exact R.ro u x b hx hsee
end
end
section
open Go.RowKit
section
variable {P:Program} {base:Nat->Prop} {w0 w w':World} {I0 I I':Imm} {β β':Bmap} {σ σ':Za} {tm:Tms}
theorem Zes {α:Type} {x:Option α} {f:α->AVal×Za×Cls} {y:AVal×Za×Cls} (h:x.map f=some y):∃ a,x=some a/\f a=y:=by simpa [Xn] using h
theorem Zsq {t:TypeId} (hu:P.underlying t=some .bool) (p q:Bool) (x y:Operand):(do eqGuard .eql t x y (.bool p) (.bool q);binOp .eql t (.bool p) (.bool q):Sem Value).run P w=.ok (.bool ((p == q) != false)) w:=by
 have h1:(eqGuard .eql t x y (.bool p) (.bool q)).run P w=.ok () w:=by simp [eqGuard]
 simp only [Sem.run_bind,h1,Result.andThen_ok,run_eql_bool w t p q hu]
 cases p <;> cases q <;> rfl
theorem Ztn {t:TypeId} (hu:P.underlying t=some .bool) (p q:Bool) (x y:Operand):(do eqGuard .neq t x y (.bool p) (.bool q);binOp .neq t (.bool p) (.bool q):Sem Value).run P w=.ok (.bool ((p == q) != true)) w:=by
 have h1:(eqGuard .neq t x y (.bool p) (.bool q)).run P w=.ok () w:=by simp [eqGuard]
 have h2:(binOp .neq t (.bool p) (.bool q)).run P w=.ok (.bool (!(p == q))) w:=by
  simp only [binOp,Sem.run_bind,run_equal_bool w t p q hu,Result.andThen_ok,Sem.run_pure]
 simp only [Sem.run_bind,h1,Result.andThen_ok,h2]
 cases p <;> cases q <;> rfl
theorem ZlI {t e:TypeId} (hu:P.underlying t=some (.pointer e)) (p q:Option Addr) (hpq:p=none\/q=none):(Op.equal t (.pointer p) (.pointer q)).run P w=.ok (p.isNone && q.isNone) w:=by
 show (Op.equalIn (9999+1) t (.pointer p) (.pointer q)).run P w=_
 unfold Op.equalIn
 rw [Sem.run_bind,run_underlying hu]
 simp only [Result.andThen_ok]
 rcases hpq with rfl | rfl
 ·cases q <;> simp
 ·cases p <;> simp
theorem Zi7 {t e:TypeId} (hu:P.underlying t=some (.pointer e)) (p q:Option Addr) (x y:Operand) (hpq:p=none\/q=none):(do eqGuard .eql t x y (.pointer p) (.pointer q);binOp .eql t (.pointer p) (.pointer q):Sem Value).run P w=.ok (.bool ((p.isNone && q.isNone) != false)) w:=by
 have h1:(eqGuard .eql t x y (.pointer p) (.pointer q)).run P w=.ok () w:=by simp [eqGuard]
 simp only [Sem.run_bind,h1,Result.andThen_ok,binOp,ZlI hu p q hpq,Sem.run_pure]
 simp
theorem ZjX {t e:TypeId} (hu:P.underlying t=some (.pointer e)) (p q:Option Addr) (x y:Operand) (hpq:p=none\/q=none):(do eqGuard .neq t x y (.pointer p) (.pointer q);binOp .neq t (.pointer p) (.pointer q):Sem Value).run P w=.ok (.bool ((p.isNone && q.isNone) != true)) w:=by
 have h1:(eqGuard .neq t x y (.pointer p) (.pointer q)).run P w=.ok () w:=by simp [eqGuard]
 simp only [Sem.run_bind,h1,Result.andThen_ok,binOp,ZlI hu p q hpq,Sem.run_pure]
 simp
theorem ZoW {t:TypeId} {ms} (hu:P.underlying t=some (.interface ms)) (neg:Bool) {op:BinOp} (x:Operand) (vy:Value) (hop:op=(if neg then .neq else .eql)):(do eqGuard op t x (.const vy) .nilIface .nilIface;binOp op t .nilIface .nilIface:Sem Value).run P w=.ok (.bool (true != neg)) w:=by
 have h1:(eqGuard op t x (.const vy) .nilIface .nilIface).run P w=.ok () w:=by subst hop;cases neg <;> simp [eqGuard]
 have h2:(Op.equal t .nilIface .nilIface).run P w=.ok true w:=by
  show (Op.equalIn (9999+1) t .nilIface .nilIface).run P w=_
  unfold Op.equalIn
  rw [Sem.run_bind,run_underlying hu]
  simp only [Result.andThen_ok]
  rfl
 subst hop
 cases neg
 ·simp only [Xz,if_false] at h1 ⊢
  simp [h1,h2,binOp]
 ·simp only [if_true] at h1 ⊢
  simp [h1,h2,binOp]
theorem Zu9 {t t1:TypeId} {u:Value} {ms} (hu:P.underlying t=some (.interface ms)) (neg:Bool) {op:BinOp} (x:Operand) (vy:Value) (hop:op=(if neg then .neq else .eql)):(do eqGuard op t x (.const vy) (.iface t1 u) .nilIface;binOp op t (.iface t1 u) .nilIface:Sem Value).run P w=.ok (.bool (false != neg)) w:=by
 have h1:(eqGuard op t x (.const vy) (.iface t1 u) .nilIface).run P w=.ok () w:=by subst hop;cases neg <;> simp [eqGuard]
 have h2:(Op.equal t (.iface t1 u) .nilIface).run P w=.ok false w:=by
  show (Op.equalIn (9999+1) t (.iface t1 u) .nilIface).run P w=_
  unfold Op.equalIn
  rw [Sem.run_bind,run_underlying hu]
  simp only [Result.andThen_ok]
  rfl
 subst hop
 cases neg
 ·simp only [Xz,if_false] at h1 ⊢
  simp [h1,h2,binOp]
 ·simp only [if_true] at h1 ⊢
  simp [h1,h2,binOp]
def OpR (P:Program) (s:Sem Next) (w:World) (base:Nat->Prop) (w0:World) (I0 I:Imm) (β:Bmap) (v:AVal) (σ':Za):Prop :=
 OpOk P s w (Post base w0 I0 I β v σ')\/∃ x,v=.pan x/\OpPan P s w (Post base w0 I0 I β x σ')
theorem OpR.of_call {s:Sem Next} {f:FuncId} {args:Array Value} {v:AVal} (h:s.run P w=.ok (.enter f args) w) (hc:Calls P f args w (fun e w'=>∃ u,Ends v e u/\Post base w0 I0 I β (Zam v) σ' u w')):OpR P s w base w0 I0 I β v σ':=by
 by_cases hp:∃ x,v=.pan x
 ·obtain ⟨x,rfl⟩:=hp
  exact XE ⟨x,rfl,XE ⟨f,args,w,h,hc.mono fun e w' ⟨u,h1,h2⟩=>⟨u,h1,h2⟩⟩⟩
 ·have hn:∀ x,v≠.pan x:=fun x e=>hp ⟨x,e⟩
  refine Xw (XE (XE ⟨f,args,w,h,hc.mono fun e w' ⟨u,h1,h2⟩=>⟨u,?_,by rw [Zfi hn] at h2;exact h2⟩⟩))
  cases v <;> first | exact h1 | exact absurd rfl (hn _)
theorem ZpO {O:ZZ} (hO:Zad P O) {bf:Nat->Bool} {an:Ann} {a:Act} {o:Oper} {own:Nat} {ins:Ins} (x:Operand) (ho:o.op=.move x) (hc:Z0 P an own (.move x)=some ins) (T:TR I β tm a.tmps) (R:Rel base w0 I0 I β σ w) (hb:KLt base w0)
  {sq:Nat} (hsite:nsite ins≠0->σ[sq]?=some .free) {v:AVal} {c:Cls} (h:execI O bf tm σ sq ins=some (v,σ',c)):OpOk P (execOp a.eval o) w (Post base w0 I0 I β v σ'):=by
 rw [show execOp a.eval o=(pure (.value (a.eval x)):Sem Next) by unfold execOp;rw [ho]]
 simp only [Z0] at hc
 simp only [Xn] at hc
 obtain ⟨y,hy,rfl⟩:=hc
 simp only [execI,Xa,Xb] at h
 obtain ⟨rfl,rfl,rfl⟩:=h
 exact Xw ⟨_,w,rfl,Post.here R (Z8 T hy)⟩
theorem Zwi {O:ZZ} (hO:Zad P O) {bf:Nat->Bool} {an:Ann} {a:Act} {o:Oper} {own:Nat} {ins:Ins} (x:Operand) (ho:o.op=.assign x) (hc:Z0 P an own (.assign x)=some ins) (T:TR I β tm a.tmps) (R:Rel base w0 I0 I β σ w) (hb:KLt base w0)
  {sq:Nat} (hsite:nsite ins≠0->σ[sq]?=some .free) {v:AVal} {c:Cls} (h:execI O bf tm σ sq ins=some (v,σ',c)):OpOk P (execOp a.eval o) w (Post base w0 I0 I β v σ'):=by
 rw [show execOp a.eval o=(pure (.value (a.eval x)):Sem Next) by unfold execOp;rw [ho]]
 simp only [Z0] at hc
 simp only [Xn] at hc
 obtain ⟨y,hy,rfl⟩:=hc
 simp only [execI,Xa,Xb] at h
 obtain ⟨rfl,rfl,rfl⟩:=h
 exact Xw ⟨_,w,rfl,Post.here R (Z8 T hy)⟩
theorem ZuH {O:ZZ} (hO:Zad P O) {bf:Nat->Bool} {an:Ann} {a:Act} {o:Oper} {own:Nat} {ins:Ins} (x:Operand) (y:Operand) (z:Operand) (ho:o.op=.pick x y z) (hc:Z0 P an own (.pick x y z)=some ins) (T:TR I β tm a.tmps) (R:Rel base w0 I0 I β σ w) (hb:KLt base w0)
  {sq:Nat} (hsite:nsite ins≠0->σ[sq]?=some .free) {v:AVal} {c:Cls} (h:execI O bf tm σ sq ins=some (v,σ',c)):OpOk P (execOp a.eval o) w (Post base w0 I0 I β v σ'):=by
 rw [show execOp a.eval o=(do pure (.value (if <-asBool (a.eval x) then a.eval y else a.eval z)):Sem Next) by unfold execOp;rw [ho]]
 simp only [Z0] at hc
 split at hc
 ·rename_i c' a' b' hx hy hz
  injection hc with hc;subst hc
  have hx':=Z8 T hx
  simp only [execI] at h
  unfold Zeu at h
  split at h
  ·rename_i e
   rw [e] at hx';simp only [VR] at hx'
   simp only [Xa,Xb] at h
   obtain ⟨rfl,rfl,rfl⟩:=h
   exact Xw ⟨_,w,by simp [hx',asBool],Post.here R (Z8 T hy)⟩
  ·rename_i e
   rw [e] at hx';simp only [VR] at hx'
   simp only [Xa,Xb] at h
   obtain ⟨rfl,rfl,rfl⟩:=h
   exact Xw ⟨_,w,by simp [hx',asBool],Post.here R (Z8 T hz)⟩
  ·cases h
 ·cases hc
theorem ZzO {O:ZZ} (hO:Zad P O) {bf:Nat->Bool} {an:Ann} {a:Act} {o:Oper} {own:Nat} {ins:Ins} (e:TypeId) (ho:o.op=.alloc e) (hc:Z0 P an own (.alloc e)=some ins) (T:TR I β tm a.tmps) (R:Rel base w0 I0 I β σ w) (hb:KLt base w0)
  {sq:Nat} (hsite:nsite ins≠0->σ[sq]?=some .free) {v:AVal} {c:Cls} (h:execI O bf tm σ sq ins=some (v,σ',c)):OpOk P (execOp a.eval o) w (Post base w0 I0 I β v σ'):=by
 rw [show execOp a.eval o=(do pure (.value (<-Instr.alloc e true (.tuple #[]))):Sem Next) by unfold execOp;rw [ho]]
 simp only [Z0] at hc
 simp only [Xn] at hc
 obtain ⟨z,hz,rfl⟩:=hc
 simp only [execI,Xa,Xb] at h
 obtain ⟨rfl,rfl,rfl⟩:=h
 exact OpOk.val (Ztf R hb hz (hsite (by simp [nsite])))
theorem Zsc {O:ZZ} (hO:Zad P O) {bf:Nat->Bool} {an:Ann} {a:Act} {o:Oper} {own:Nat} {ins:Ins} (e:TypeId) (x:Operand) (ho:o.op=.box e x) (hc:Z0 P an own (.box e x)=some ins) (T:TR I β tm a.tmps) (R:Rel base w0 I0 I β σ w) (hb:KLt base w0)
  {sq:Nat} (hsite:nsite ins≠0->σ[sq]?=some .free) {v:AVal} {c:Cls} (h:execI O bf tm σ sq ins=some (v,σ',c)):OpOk P (execOp a.eval o) w (Post base w0 I0 I β v σ'):=by
 rw [show execOp a.eval o=(do pure (.value (<-Instr.box e (a.eval x))):Sem Next) by unfold execOp;rw [ho]]
 simp only [Z0] at hc
 simp only [Xn] at hc
 obtain ⟨y,hy,hins⟩:=hc
 by_cases h3:own=3
 ·rw [if_pos h3] at hins
  subst hins
  simp only [execI] at h
  split at h
  ·rename_i e6
   simp only [Xa,Xb] at h
   obtain ⟨rfl,rfl,rfl⟩:=h
   have hv:=Z8 T hy
   rw [e6] at hv
   exact OpOk.val (Zxn R hb hv (hsite (by simp [nsite])))
  ·cases h
 rw [if_neg h3] at hins
 by_cases h4:own=4
 ·rw [if_pos h4] at hins
  subst hins
  simp only [execI] at h
  split at h
  ·rename_i e6
   split at h
   ·rename_i hf
    simp only [Xa,Xb] at h
    obtain ⟨rfl,rfl,rfl⟩:=h
    have hv:=Z8 T hy
    rw [e6] at hv
    refine OpOk.val (ZAM R hb hv (hsite (by simp [nsite])) ?_)
    unfold freeAt at hf
    split at hf
    ·assumption
    ·cases hf
   ·cases h
  ·cases h
 rw [if_neg h4] at hins
 subst hins
 simp only [execI] at h
 split at h
 ·cases h
 ·cases h
 ·cases h
 ·rename_i _ hnt _
  simp only [Xa,Xb] at h
  obtain ⟨rfl,rfl,rfl⟩:=h
  exact OpOk.val (ZxK R hb hnt (Z8 T hy) (hsite (by simp [nsite])))
theorem Zuo {O:ZZ} (hO:Zad P O) {bf:Nat->Bool} {an:Ann} {a:Act} {o:Oper} {own:Nat} {ins:Ins} (t:TypeId) (parts:Array (Nat×Operand)) (ho:o.op=.build t parts) (hc:Z0 P an own (.build t parts)=some ins) (T:TR I β tm a.tmps) (R:Rel base w0 I0 I β σ w) (hb:KLt base w0)
  {sq:Nat} (hsite:nsite ins≠0->σ[sq]?=some .free) {v:AVal} {c:Cls} (h:execI O bf tm σ sq ins=some (v,σ',c)):OpOk P (execOp a.eval o) w (Post base w0 I0 I β v σ'):=by
 rw [show execOp a.eval o=(do pure (.value (<-Instr.build t (parts.map fun (i,x)=>(i,a.eval x)))):Sem Next) by unfold execOp;rw [ho]]
 simp only [Z0] at hc
 have hc0:Z0 P an own (.build t parts)=some ins:=by simp only [Z0];exact hc
 obtain ⟨zs,ps,rfl⟩:∃ zs ps,ins=.build zs ps:=by
  split at hc
  ·split at hc
   ·simp only [Xn] at hc;obtain ⟨ps,_,rfl⟩:=hc;exact ⟨_,_,rfl⟩
   ·cases hc
  ·split at hc
   ·simp only [Xn] at hc;obtain ⟨ps,_,rfl⟩:=hc;exact ⟨_,_,rfl⟩
   ·cases hc
  ·cases hc
 simp only [execI] at h
 split at h
 ·rename_i cs hf
  simp only [Xa,Xb] at h
  obtain ⟨rfl,rfl,rfl⟩:=h
  obtain ⟨u,h1,h2⟩:=Zp7 (w:=w) T hc0 hf
  exact OpOk.val ⟨u,w,h1,Post.here R h2⟩
 ·cases h
theorem Zo2 {O:ZZ} (hO:Zad P O) {bf:Nat->Bool} {an:Ann} {a:Act} {o:Oper} {own:Nat} {ins:Ins} (t:TypeId) (n:Nat) (parts:Array (Nat×Operand)) (ho:o.op=.buildSlice t n parts) (hc:Z0 P an own (.buildSlice t n parts)=some ins) (T:TR I β tm a.tmps) (R:Rel base w0 I0 I β σ w) (hb:KLt base w0)
  {sq:Nat} (hsite:nsite ins≠0->σ[sq]?=some .free) {v:AVal} {c:Cls} (h:execI O bf tm σ sq ins=some (v,σ',c)):OpOk P (execOp a.eval o) w (Post base w0 I0 I β v σ'):=by
 rw [show execOp a.eval o=(do pure (.value (<-Instr.buildSlice t n (parts.map fun (i,x)=>(i,a.eval x)))):Sem Next) by unfold execOp;rw [ho]]
 simp only [Z0] at hc
 split at hc
 ·rename_i k bytes z he
  split at hc
  ·rename_i hn
   simp only [Xn] at hc
   obtain ⟨ps,hps,rfl⟩:=hc
   split at h
   ·rename_i ho
    exact OpOk.val (Zrj T R hb he hn hps (hsite (by rw [if_pos ho];simp [nsite])) h)
   ·rename_i ho
    exact OpOk.val (ZsZ T R hb he hn hps (fun ho'=>hsite (by rw [if_neg ho];simp [nsite,ho'])) h)
  ·cases hc
 ·cases hc
theorem Zw2 {O:ZZ} (hO:Zad P O) {bf:Nat->Bool} {an:Ann} {a:Act} {o:Oper} {own:Nat} {ins:Ins} (t:TypeId) (x:Operand) (ho:o.op=.load t x) (hc:Z0 P an own (.load t x)=some ins) (T:TR I β tm a.tmps) (R:Rel base w0 I0 I β σ w) (hb:KLt base w0)
  {sq:Nat} (hsite:nsite ins≠0->σ[sq]?=some .free) {v:AVal} {c:Cls} (h:execI O bf tm σ sq ins=some (v,σ',c)):OpOk P (execOp a.eval o) w (Post base w0 I0 I β v σ'):=by
 rw [show execOp a.eval o=(do pure (.value (<-Instr.loadAt t (a.eval x))):Sem Next) by unfold execOp;rw [ho]]
 simp only [Z0] at hc
 split at hc
 ·rename_i k y hk hy
  injection hc with hc;subst hc
  simp only [execI] at h
  obtain ⟨u,h1,h2,rfl⟩:=ZkN hk R (Z8 T hy) h
  exact OpOk.val ⟨u,w,h1,Post.here R h2⟩
 ·cases hc
theorem ZzU {O:ZZ} (hO:Zad P O) {bf:Nat->Bool} {an:Ann} {a:Act} {o:Oper} {own:Nat} {ins:Ins} (t:TypeId) (x:Operand) (y:Operand) (ho:o.op=.store t x y) (hc:Z0 P an own (.store t x y)=some ins) (T:TR I β tm a.tmps) (R:Rel base w0 I0 I β σ w) (hb:KLt base w0)
  {sq:Nat} (hsite:nsite ins≠0->σ[sq]?=some .free) {v:AVal} {c:Cls} (h:execI O bf tm σ sq ins=some (v,σ',c)):OpOk P (execOp a.eval o) w (Post base w0 I0 I β v σ'):=by
 rw [show execOp a.eval o=(do Instr.storeAt t (a.eval x) (a.eval y);pure .skip:Sem Next) by unfold execOp;rw [ho]]
 simp only [Z0] at hc
 split at hc
 ·rename_i k x' y' hk hx hy
  injection hc with hc;subst hc
  simp only [execI] at h
  exact OpOk.unit (ZyA hk R (Z8 T hx) (Z8 T hy) h)
 ·cases hc
theorem Zxe {O:ZZ} (hO:Zad P O) {bf:Nat->Bool} {an:Ann} {a:Act} {o:Oper} {own:Nat} {ins:Ins} (x:Operand) (ho:o.op=.nilCheck x) (hc:Z0 P an own (.nilCheck x)=some ins) (T:TR I β tm a.tmps) (R:Rel base w0 I0 I β σ w) (hb:KLt base w0)
  {sq:Nat} (hsite:nsite ins≠0->σ[sq]?=some .free) {v:AVal} {c:Cls} (h:execI O bf tm σ sq ins=some (v,σ',c)):OpOk P (execOp a.eval o) w (Post base w0 I0 I β v σ'):=by
 simp only [Z0] at hc
 simp only [Xn] at hc
 obtain ⟨y,hy,rfl⟩:=hc
 have hx:=Z8 T hy
 have key:∀ ad,a.eval x=.pointer (some ad)->execOp a.eval o=pure (.value (a.eval x)):=by
  intro ad e
  unfold execOp
  rw [ho]
  simp only [e]
 simp only [execI] at h
 split at h
 ·rename_i t' o' e
  simp only [Xa,Xb] at h
  obtain ⟨rfl,rfl,rfl⟩:=h
  rw [e] at hx
  have hx':=hx
  simp only [VR] at hx'
  obtain ⟨b,k,c',_,hp⟩:=hx'
  rw [key _ hp]
  exact Xw ⟨a.eval x,w,rfl,Post.here R hx⟩
 ·rename_i t' g' i' o' e
  simp only [Xa,Xb] at h
  obtain ⟨rfl,rfl,rfl⟩:=h
  rw [e] at hx
  have hx':=hx
  simp only [VR] at hx'
  obtain ⟨b,k,c',_,hp⟩:=hx'
  rw [key _ hp]
  exact Xw ⟨a.eval x,w,rfl,Post.here R hx⟩
 ·rename_i cs o' e
  simp only [Xa,Xb] at h
  obtain ⟨rfl,rfl,rfl⟩:=h
  rw [e] at hx
  have hx':=hx
  simp only [VR] at hx'
  obtain ⟨b,off,hp,_⟩:=hx'
  rw [key _ hp]
  exact Xw ⟨a.eval x,w,rfl,Post.here R hx⟩
 ·cases h
theorem ZqH {O : ZZ} (hO : Zad P O) {bf : Nat -> Bool} {an : Ann} {a : Act} {o : Oper} {own : Nat} {ins : Ins} (op : BinOp) (t : TypeId) (x : Operand) (y : Operand) (yt : TypeId) (ho : o.op = .binOp op t x y yt) (hc : Z0 P an own (.binOp op t x y yt) = some ins) (T : TR I β tm a.tmps) (R : Rel base w0 I0 I β σ w) (hb : KLt base w0)
    {sq : Nat} (hsite : nsite ins ≠ 0 -> σ[sq]? = some .free) {v : AVal} {c : Cls} (h : execI O bf tm σ sq ins = some (v, σ', c)) : OpOk P (execOp a.eval o) w (Post base w0 I0 I β v σ') := by
  rw [show execOp a.eval o = (do pure (.value (<- (do eqGuard op t x y (a.eval x) (a.eval y); binOp op t (a.eval x) (a.eval y)))) : Sem Next) by unfold execOp; rw [ho]]
  simp only [Z0] at hc
  split at hc
  . rename_i x' y' hx hy
    have hx' := Z8 T hx
    have hy' := Z8 T hy
    unfold Zlg at hc
    split at hc
    . injection hc with hc; subst hc
      simp only [execI] at h
      obtain ⟨r, hr, he⟩ := Zes h
      simp only [Xb] at he
      obtain ⟨rfl, rfl, rfl⟩ := he
      obtain ⟨u, h1, h2⟩ := Zm8 (P := P) (w := w) (t := t) x y hx' hy' hr
      exact OpOk.val ⟨u, w, h1, Post.here R h2⟩
    . injection hc with hc; subst hc
      simp only [execI] at h
      obtain ⟨r, hr, he⟩ := Zes h
      simp only [Xb] at he
      obtain ⟨rfl, rfl, rfl⟩ := he
      obtain ⟨u, h1, h2⟩ := Zm8 (P := P) (w := w) (t := t) x y hx' hy' hr
      exact OpOk.val ⟨u, w, h1, Post.here R h2⟩
    . rename_i hu
      split at hc
      all_goals first
        | (cases hc; done)
        | (injection hc with hc; subst hc
           simp only [execI] at h
           split at h
           . rename_i p q e1 e2
             rw [e1] at hx'; rw [e2] at hy'
             simp only [VR] at hx' hy'
             simp only [Xa, Xb] at h
             obtain ⟨rfl, rfl, rfl⟩ := h
             refine OpOk.val ⟨_, w, ?_, Post.here R (by simp only [VR]; rfl)⟩
             rw [hx', hy']
             first | exact Zsq hu p q x y | exact Ztn hu p q x y
           . cases h)
    . rename_i elem hu
      split at hc
      all_goals first
        | (cases hc; done)
        | (injection hc with hc; subst hc
           simp only [execI] at h
           split at h
           . rename_i e1 e2
             rw [e1] at hx'; rw [e2] at hy'
             simp only [VR] at hx' hy'
             simp only [Xa, Xb] at h
             obtain ⟨rfl, rfl, rfl⟩ := h
             refine OpOk.val ⟨_, w, ?_, Post.here R (by simp only [VR]; rfl)⟩
             rw [hx', hy']
             first | exact Zi7 hu _ _ x y (by simp) | exact ZjX hu _ _ x y (by simp)
           . rename_i t1 o1 e1 e2
             rw [e1] at hx'; rw [e2] at hy'
             simp only [VR] at hx' hy'
             obtain ⟨b, k, c', _, hy'⟩ := hy'
             simp only [Xa, Xb] at h
             obtain ⟨rfl, rfl, rfl⟩ := h
             refine OpOk.val ⟨_, w, ?_, Post.here R (by simp only [VR]; rfl)⟩
             rw [hx', hy']
             first | exact Zi7 hu _ _ x y (by simp) | exact ZjX hu _ _ x y (by simp)
           . rename_i t1 o1 e1 e2
             rw [e1] at hx'; rw [e2] at hy'
             simp only [VR] at hx' hy'
             obtain ⟨b, k, c', _, hx'⟩ := hx'
             simp only [Xa, Xb] at h
             obtain ⟨rfl, rfl, rfl⟩ := h
             refine OpOk.val ⟨_, w, ?_, Post.here R (by simp only [VR]; rfl)⟩
             rw [hx', hy']
             first | exact Zi7 hu _ _ x y (by simp) | exact ZjX hu _ _ x y (by simp)
           . cases h)
    . rename_i fs hu
      split at hc
      case isFalse => cases hc
      rename_i hfl
      have fin : ∀ (neg : Bool), op = (if neg then .neq else .eql) -> execI O bf tm σ sq (.eqv neg (fs.toList.map fun f => (ZeP P f.type).getD 3) x' y') = some (v, σ', c) -> OpOk P (do pure (.value (<- (do eqGuard op t x y (a.eval x) (a.eval y); binOp op t (a.eval x) (a.eval y))))) w (Post base w0 I0 I β v σ') := by
        intro neg hop h
        simp only [execI] at h
        split at h
        . rename_i xs ys e1 e2
          rw [e1] at hx'; rw [e2] at hy'
          simp only [VR] at hx' hy'
          obtain ⟨us, hx1, hx2⟩ := hx'
          obtain ⟨vs, hy1, hy2⟩ := hy'
          split at h
          case isFalse => cases h
          rename_i hk
          split at h
          . rename_i b hb'
            simp only [Xa, Xb] at h
            obtain ⟨rfl, rfl, rfl⟩ := h
            refine OpOk.val ⟨_, w, ?_, Post.here R (by simp only [VR]; rfl)⟩
            rw [hx1, hy1]
            exact ZoH hu hfl hx2 hy2 (ZlP hk) hb' neg hop x y
          . cases h
        . cases h
      split at hc
      . injection hc with hc; subst hc; exact fin false rfl h
      . injection hc with hc; subst hc; exact fin true rfl h
      . cases hc
    . rename_i ms hu
      have fin : ∀ (neg : Bool), y' = .c .nili -> op = (if neg then .neq else .eql) -> execI O bf tm σ sq (.ieq neg x' y') = some (v, σ', c) -> OpOk P (do pure (.value (<- (do eqGuard op t x y (a.eval x) (a.eval y); binOp op t (a.eval x) (a.eval y))))) w (Post base w0 I0 I β v σ') := by
        intro neg hy0 hop h
        subst hy0
        obtain ⟨vy, rfl⟩ : ∃ vy, y = .const vy := by
          cases y with
          | const vy => exact ⟨vy, rfl⟩
          | tmp t => simp [Z9] at hy
          | func f => simp only [Z9] at hy; split at hy <;> simp at hy
          | global g => simp [Z9] at hy
        simp only [Opd.ev, VR] at hy'
        have hms : P.underlying t = some (.interface ms) := hu
        simp only [execI] at h
        rw [show (Opd.c AVal.nili).ev tm = .nili from rfl] at h
        split at h
        . rename_i e1 e2
          rw [e1] at hx'
          simp only [VR] at hx'
          simp only [Xa, Xb] at h
          obtain ⟨rfl, rfl, rfl⟩ := h
          refine OpOk.val ⟨_, w, ?_, Post.here R (by simp only [VR]; rfl)⟩
          rw [hx', hy']
          exact ZoW hms neg x vy hop
        . rename_i e2; cases e2
        . rename_i t1 x1 e1 e2
          rw [e1] at hx'
          simp only [VR] at hx'
          obtain ⟨u, hx', _⟩ := hx'
          simp only [Xa, Xb] at h
          obtain ⟨rfl, rfl, rfl⟩ := h
          refine OpOk.val ⟨_, w, ?_, Post.here R (by simp only [VR]; rfl)⟩
          rw [hx', hy']
          exact Zu9 hms neg x vy hop
        . cases h
      split at hc
      . injection hc with hc; subst hc; exact fin false rfl rfl h
      . injection hc with hc; subst hc; exact fin true rfl rfl h
      . cases hc
    . cases hc
  . cases hc
theorem Zv8 {O:ZZ} (hO:Zad P O) {bf:Nat->Bool} {an:Ann} {a:Act} {o:Oper} {own:Nat} {ins:Ins} (op:UnOp) (t:TypeId) (x:Operand) (ho:o.op=.unOp op t x) (hc:Z0 P an own (.unOp op t x)=some ins) (T:TR I β tm a.tmps) (R:Rel base w0 I0 I β σ w) (hb:KLt base w0)
  {sq:Nat} (hsite:nsite ins≠0->σ[sq]?=some .free) {v:AVal} {c:Cls} (h:execI O bf tm σ sq ins=some (v,σ',c)):OpOk P (execOp a.eval o) w (Post base w0 I0 I β v σ'):=by
 rw [show execOp a.eval o=(do pure (.value (<-Op.unary op (a.eval x))):Sem Next) by unfold execOp;rw [ho]]
 simp only [Z0] at hc
 simp only [Xn] at hc
 obtain ⟨y,hy,rfl⟩:=hc
 simp only [execI] at h
 obtain ⟨r,hr,he⟩:=Zes h
 simp only [Xb] at he
 obtain ⟨rfl,rfl,rfl⟩:=he
 obtain ⟨u,h1,h2⟩:=Zqv (P:=P) (w:=w) (Z8 T hy) hr
 exact OpOk.val ⟨u,w,h1,Post.here R h2⟩
theorem Zxw {O:ZZ} (hO:Zad P O) {bf:Nat->Bool} {an:Ann} {a:Act} {o:Oper} {own:Nat} {ins:Ins} (src:TypeId) (dst:TypeId) (x:Operand) (ho:o.op=.convert src dst x) (hc:Z0 P an own (.convert src dst x)=some ins) (T:TR I β tm a.tmps) (R:Rel base w0 I0 I β σ w) (hb:KLt base w0)
  {sq:Nat} (hsite:nsite ins≠0->σ[sq]?=some .free) {v:AVal} {c:Cls} (h:execI O bf tm σ sq ins=some (v,σ',c)):OpOk P (execOp a.eval o) w (Post base w0 I0 I β v σ'):=by
 rw [show execOp a.eval o=(do pure (.value (<-convert src dst (a.eval x))):Sem Next) by unfold execOp;rw [ho]]
 simp only [Z0] at hc
 split at hc
 ·rename_i y hy
  have hx:=Z8 T hy
  unfold ZmU at hc
  split at hc
  ·rename_i k1 k2 hs hd
   injection hc with hc;subst hc
   simp only [execI] at h
   split at h
   ·rename_i k n e
    rw [e] at hx;simp only [VR] at hx
    simp only [Xa,Xb] at h
    obtain ⟨rfl,rfl,rfl⟩:=h
    refine OpOk.val ⟨.int k2 (k2.wrap n),w,?_,Post.here R (by simp only [VR])⟩
    rw [hx]
    simp [convert,run_underlying hs,run_underlying hd,Conv.intToInt]
   ·cases h
  ·rename_i hs hd
   injection hc with hc;subst hc
   simp only [execI] at h
   split at h
   ·rename_i k n e
    rw [e] at hx;simp only [VR] at hx
    simp only [Xa,Xb] at h
    obtain ⟨rfl,rfl,rfl⟩:=h
    refine OpOk.val ⟨.string (Utf8.encode n),w,?_,Post.here R ?_⟩
    ·rw [hx]
     simp [convert,run_underlying hs,run_underlying hd,Conv.intToString]
    ·simp only [VR]
     refine ⟨by simp,?_⟩
     unfold Utf8.encode
     simp only
     repeat' split
     all_goals simp
   ·cases h
  ·rename_i hs hd
   injection hc with hc;subst hc
   simp only [execI] at h
   split at h
   ·rename_i l e
    rw [e] at hx
    have hx':=hx
    simp only [VR] at hx'
    simp only [Xa,Xb] at h
    obtain ⟨rfl,rfl,rfl⟩:=h
    refine OpOk.val ⟨_,w,?_,Post.here R hx⟩
    rw [hx'.1]
    simp [convert,run_underlying hs,run_underlying hd]
   ·cases h
  ·rename_i e hs hd
   split at hc
   ·rename_i he
    injection hc with hc;subst hc
    simp only [execI] at h
    split at h
    ·rename_i l e'
     rw [e'] at hx
     simp only [VR] at hx
     simp only [Xa,Xb] at h
     obtain ⟨rfl,rfl,rfl⟩:=h
     rw [hx.1]
     exact OpOk.val (ZuU hs hd he R hb hx.2)
    ·cases h
   ·cases hc
  ·rename_i e1 e hs hd
   split at hc
   ·rename_i hsd
    subst hsd
    split at hc
    ·rename_i he
     injection hc with hc;subst hc
     simp only [execI] at h
     split at h
     ·rename_i t' g n ev
      rw [ev] at hx
      split at h
      ·rename_i g' k xs hrow
       split at h
       ·rename_i hcond
        obtain ⟨rfl,hn,h0⟩:=hcond
        simp only [Xa,Xb] at h
        obtain ⟨rfl,rfl,rfl⟩:=h
        obtain ⟨w1,h1,h2⟩:=Zo7 hd he R hrow hn h0 hx
        exact OpOk.val ⟨_,w1,h1,h2⟩
       ·cases h
      ·cases h
     ·cases h
    ·cases hc
   ·cases hc
  ·rename_i e hs hd
   split at hc
   ·rename_i he
    injection hc with hc;subst hc
    simp only [execI] at h
    split at h
    ·rename_i xs ts hel
     split at h
     ·rename_i l hl
      simp only [Xa,Xb] at h
      obtain ⟨rfl,rfl,rfl⟩:=h
      by_cases hst:∃ l',y.ev tm=.str l'
      ·obtain ⟨l',e'⟩:=hst
       rw [e'] at hel hx
       simp only [Zk,Xa,Xb] at hel
       obtain ⟨rfl,rfl⟩:=hel
       simp only [VR] at hx
       have hll:l=l':=by
        obtain ⟨ns,e1,e2⟩:=Zin hl
        subst e2
        have : l'.map Zr=ns.map (AVal.int .u8):=e1
        apply X7
        intro j
        have hj:=congrArg (fun q:List AVal=>q[j]?) this
        simp only [XX] at hj ⊢
        cases h1:l'[j]? <;> cases h2:ns[j]? <;> simp_all [Zr]
        rename_i b n
        rw [<-hj];simp
       subst hll
       refine OpOk.val ⟨.string ⟨l.toArray⟩,w,?_,Post.here R (by simp only [VR];exact ⟨trivial,hx.2⟩)⟩
       rw [hx.1]
       simp [convert,run_underlying hs,run_underlying hd]
      ·have hrd:=ZiD R (fun l' e'=>hst ⟨l',e'⟩) hel hx
       obtain ⟨h1,h2⟩:=Zp9 (P:=P) hs he hd hrd hl
       exact OpOk.val ⟨_,w,h1,Post.here R (by simp only [VR];exact ⟨trivial,h2⟩)⟩
     ·cases h
    ·cases h
   ·cases hc
  ·cases hc
 ·cases hc
theorem Zoz {O:ZZ} (hO:Zad P O) {bf:Nat->Bool} {an:Ann} {a:Act} {o:Oper} {own:Nat} {ins:Ins} (t:TypeId) (x:Operand) (lo:Option Operand) (hi:Option Operand) (mx:Option Operand) (ho:o.op=.slice t x lo hi mx) (hc:Z0 P an own (.slice t x lo hi mx)=some ins) (T:TR I β tm a.tmps) (R:Rel base w0 I0 I β σ w) (hb:KLt base w0)
  {sq:Nat} (hsite:nsite ins≠0->σ[sq]?=some .free) {v:AVal} {c:Cls} (h:execI O bf tm σ sq ins=some (v,σ',c)):OpOk P (execOp a.eval o) w (Post base w0 I0 I β v σ'):=by
 rw [show execOp a.eval o=(do pure (.value (<-Instr.sliceAt t (a.eval x) (lo.map a.eval) (hi.map a.eval) (mx.map a.eval))):Sem Next) by unfold execOp;rw [ho]]
 simp only [Z0] at hc
 split at hc
 ·rename_i x' lo' hi' mx' hx hlo hhi hmx
  split at hc
  ·rename_i hu
   split at hc
   ·injection hc with hc;subst hc
    have hmx0:mx=none:=by cases mx <;> simp_all [Ze5]
    subst hmx0
    have hx':=Z8 T hx
    simp only [execI] at h
    split at h
    ·rename_i s e
     rw [e] at hx';simp only [VR] at hx'
     split at h
     ·cases h
     rename_i hh h1
     split at h
     ·cases h
     rename_i ll h2
     simp only [Xa,Xb] at h
     obtain ⟨rfl,rfl,rfl⟩:=h
     refine OpOk.val ⟨_,w,?_,Post.here R (by simp only [VR];exact ⟨rfl,by simp;omega⟩)⟩
     rw [hx'.1]
     exact Zyt hu hx'.2 (Zf9 T hlo) (Zf9 T hhi) h1 h2
    ·cases h
   ·cases hc
  ·rename_i e hu
   split at hc
   ·rename_i k hk
    split at hc
    ·split at hc
     ·cases hc
     ·rename_i hnn
      injection hc with hc;subst hc
      simp only [execI] at h
      obtain ⟨u,h1,h2⟩:=Zuh hu hk R (Z8 T hx) (Zf9 T hlo) (Zf9 T hhi) (Zf9 T hmx) (by
       intro e'
       cases hi' with
       | some _=>simp at e'
       | none=>cases mx' with
        | none=>rfl
        | some q=>exact absurd rfl (hnn q rfl)) h
      exact OpOk.val ⟨u,w,h1,h2⟩
    ·cases hc
   ·cases hc
  ·cases hc
 ·cases hc
theorem Zu6 {O:ZZ} (hO:Zad P O) {bf:Nat->Bool} {an:Ann} {a:Act} {o:Oper} {own:Nat} {ins:Ins} (s:TypeId) (x:Operand) (i:Nat) (ho:o.op=.fieldAddr s x i) (hc:Z0 P an own (.fieldAddr s x i)=some ins) (T:TR I β tm a.tmps) (R:Rel base w0 I0 I β σ w) (hb:KLt base w0)
  {sq:Nat} (hsite:nsite ins≠0->σ[sq]?=some .free) {v:AVal} {c:Cls} (h:execI O bf tm σ sq ins=some (v,σ',c)):OpOk P (execOp a.eval o) w (Post base w0 I0 I β v σ'):=by
 rw [show execOp a.eval o=(do pure (.value (<-Instr.fieldAt s (a.eval x) i)):Sem Next) by unfold execOp;rw [ho]]
 simp only [Z0] at hc
 split at hc
 ·rename_i fields x' hs hx
  split at hc
  ·rename_i f hf
   split at hc
   ·rename_i k hk
    split at hc
    ·cases hc
    ·rename_i hk0
     injection hc with hc;subst hc
     simp only [execI] at h
     obtain ⟨r,hr,he⟩:=Zes h
     simp only [Xb] at he
     obtain ⟨rfl,rfl,rfl⟩:=he
     obtain ⟨u,h1,h2⟩:=ZxV (w:=w) hs hf hk hk0 (Z8 T hx) hr
     exact OpOk.val ⟨u,w,h1,Post.here R h2⟩
   ·cases hc
  ·cases hc
 ·cases hc
theorem Zxl {O:ZZ} (hO:Zad P O) {bf:Nat->Bool} {an:Ann} {a:Act} {o:Oper} {own:Nat} {ins:Ins} (s:TypeId) (x:Operand) (i:Nat) (ho:o.op=.field s x i) (hc:Z0 P an own (.field s x i)=some ins) (T:TR I β tm a.tmps) (R:Rel base w0 I0 I β σ w) (hb:KLt base w0)
  {sq:Nat} (hsite:nsite ins≠0->σ[sq]?=some .free) {v:AVal} {c:Cls} (h:execI O bf tm σ sq ins=some (v,σ',c)):OpOk P (execOp a.eval o) w (Post base w0 I0 I β v σ'):=by
 rw [show execOp a.eval o=(do pure (.value (<-Instr.field s (a.eval x) i)):Sem Next) by unfold execOp;rw [ho]]
 simp only [Z0] at hc
 split at hc
 ·rename_i fields x' hs hx
  split at hc
  ·rename_i f hf
   simp only [Xn] at hc
   obtain ⟨k,hk,rfl⟩:=hc
   have hx':=Z8 T hx
   simp only [execI] at h
   split at h
   ·rename_i cs e
    rw [e] at hx';simp only [VR] at hx'
    obtain ⟨us,hus,hv⟩:=hx'
    obtain ⟨r,hr,he⟩:=Zes h
    simp only [Xb] at he
    obtain ⟨rfl,rfl,rfl⟩:=he
    obtain ⟨u,h1,h2⟩:=Zk4 (P:=P) (w:=w) hk hv hr
    refine OpOk.val ⟨u,w,?_,Post.here R h2⟩
    rw [hus]
    simp [Instr.field,run_underlying hs,hf,asAgg,h1]
   ·cases h
  ·cases hc
 ·cases hc
theorem ZAn {O:ZZ} (hO:Zad P O) {bf:Nat->Bool} {an:Ann} {a:Act} {o:Oper} {own:Nat} {ins:Ins} (t:TypeId) (x:Operand) (i:Operand) (ho:o.op=.indexAddr t x i) (hc:Z0 P an own (.indexAddr t x i)=some ins) (T:TR I β tm a.tmps) (R:Rel base w0 I0 I β σ w) (hb:KLt base w0)
  {sq:Nat} (hsite:nsite ins≠0->σ[sq]?=some .free) {v:AVal} {c:Cls} (h:execI O bf tm σ sq ins=some (v,σ',c)):OpOk P (execOp a.eval o) w (Post base w0 I0 I β v σ'):=by
 rw [show execOp a.eval o=(do pure (.value (<-Instr.indexAt t (a.eval x) (a.eval i))):Sem Next) by unfold execOp;rw [ho]]
 simp only [Z0] at hc
 split at hc
 ·rename_i e x' i' hu hx hi
  simp only [Xn] at hc
  obtain ⟨k,hk,rfl⟩:=hc
  simp only [execI] at h
  obtain ⟨u,h1,h2,rfl⟩:=Zqj hu hk R (Z8 T hx) (Z8 T hi) h
  exact OpOk.val ⟨u,w,h1,Post.here R h2⟩
 ·rename_i n e x' i' hu hx hi
  simp only [Xn] at hc
  obtain ⟨k,hk,rfl⟩:=hc
  have hi':=Z8 T hi
  simp only [execI] at h
  split at h
  ·rename_i kk ii e'
   rw [e'] at hi';simp only [VR] at hi'
   split at h
   ·rename_i hb'
    obtain ⟨r,hr,he⟩:=Zes h
    simp only [Xb] at he
    obtain ⟨rfl,rfl,rfl⟩:=he
    obtain ⟨u,h1,h2⟩:=Zta (P:=P) (w:=w) (kk:=kk) hu hk (Z8 T hx) hb'.1 hb'.2 hr
    exact OpOk.val ⟨u,w,by rw [hi'];exact h1,Post.here R h2⟩
   ·cases h
  ·cases h
 ·cases hc
theorem Zvg {O:ZZ} (hO:Zad P O) {bf:Nat->Bool} {an:Ann} {a:Act} {o:Oper} {own:Nat} {ins:Ins} (t:TypeId) (x:Operand) (i:Operand) (ho:o.op=.index t x i) (hc:Z0 P an own (.index t x i)=some ins) (T:TR I β tm a.tmps) (R:Rel base w0 I0 I β σ w) (hb:KLt base w0)
  {sq:Nat} (hsite:nsite ins≠0->σ[sq]?=some .free) {v:AVal} {c:Cls} (h:execI O bf tm σ sq ins=some (v,σ',c)):OpOk P (execOp a.eval o) w (Post base w0 I0 I β v σ'):=by
 rw [show execOp a.eval o=(do pure (.value (<-Instr.index t (a.eval x) (a.eval i))):Sem Next) by unfold execOp;rw [ho]]
 simp only [Z0] at hc
 split at hc
 ·rename_i x' i' hu hx hi
  injection hc with hc;subst hc
  have hx':=Z8 T hx
  have hi':=Z8 T hi
  simp only [execI] at h
  split at h
  ·rename_i s kk ii e1 e2
   rw [e1] at hx';rw [e2] at hi'
   simp only [VR] at hx' hi'
   split at h
   ·rename_i h0
    simp only [Xn] at h
    obtain ⟨b,hbb,he⟩:=h
    simp only [Xb] at he
    obtain ⟨rfl,rfl,rfl⟩:=he
    refine OpOk.val ⟨.int .u8 b.toNat,w,?_,Post.here R (by simp only [Zr,VR])⟩
    rw [hx'.1,hi']
    have hg:(⟨s.toArray⟩:ByteArray)[ii.toNat]?=some b:=by
     have hlt:=(Xd.1 hbb).1
     have : ii.toNat < WL ⟨s.toArray⟩:=by simpa [WL] using hlt
     rw [getElem?_pos (⟨s.toArray⟩:ByteArray) ii.toNat this]
     have:=(Xd.1 hbb).2
     rw [<-this]
     rfl
    simp [Instr.index,asIntOf,run_underlying hu,h0,hg]
   ·cases h
  ·cases h
 ·rename_i n e x' i' hu hx hi
  split at hc
  ·rename_i s k hk hk2
   injection hc with hc;subst hc
   have hx':=Z8 T hx
   have hi':=Z8 T hi
   simp only [execI] at h
   split at h
   ·rename_i cs kk ii e1 e2
    rw [e1] at hx';rw [e2] at hi'
    simp only [VR] at hx' hi'
    obtain ⟨us,hus,hv⟩:=hx'
    split at h
    ·rename_i hb'
     obtain ⟨r,hr,he⟩:=Zes h
     simp only [Xb] at he
     obtain ⟨rfl,rfl,rfl⟩:=he
     obtain ⟨u,h1,h2⟩:=Zk4 (P:=P) (w:=w) hk hv hr
     obtain ⟨ie,hie,hke⟩:∃ ie,P.info? e=some ie/\ie.size=k:=by
      unfold Zbp at hk2
      cases hi:P.info? e with
      | none=>simp [hi] at hk2
      | some i=>exact ⟨i,rfl,by simpa [hi] using hk2⟩
     refine OpOk.val ⟨u,w,?_,Post.here R h2⟩
     rw [hus,hi']
     simp [Instr.index,asIntOf,run_underlying hu,hb'.1,hb'.2,sizeOf,typeInfo,hie,hke,h1]
    ·cases h
   ·cases h
  ·cases hc
 ·cases hc
theorem Zs7 {O:ZZ} (hO:Zad P O) {bf:Nat->Bool} {an:Ann} {a:Act} {o:Oper} {own:Nat} {ins:Ins} (x:Operand) (i:Nat) (ho:o.op=.extract x i) (hc:Z0 P an own (.extract x i)=some ins) (T:TR I β tm a.tmps) (R:Rel base w0 I0 I β σ w) (hb:KLt base w0)
  {sq:Nat} (hsite:nsite ins≠0->σ[sq]?=some .free) {v:AVal} {c:Cls} (h:execI O bf tm σ sq ins=some (v,σ',c)):OpOk P (execOp a.eval o) w (Post base w0 I0 I β v σ'):=by
 rw [show execOp a.eval o=(do pure (.value (<-Instr.extract (a.eval x) i)):Sem Next) by unfold execOp;rw [ho]]
 simp only [Z0] at hc
 simp only [Xn] at hc
 obtain ⟨y,hy,rfl⟩:=hc
 have hx:=Z8 T hy
 simp only [execI] at h
 split at h
 ·rename_i vs e
  rw [e] at hx;simp only [VR] at hx
  obtain ⟨us,hus,hv⟩:=hx
  obtain ⟨r,hr,he⟩:=Zes h
  simp only [Xb] at he
  obtain ⟨rfl,rfl,rfl⟩:=he
  obtain ⟨u,h1,h2⟩:=Zcc hv hr
  have h1':us[i]?=some u:=by simpa using h1
  exact OpOk.val ⟨u,w,by rw [hus];simp [Instr.extract,h1'],Post.here R h2⟩
 ·cases h
theorem ZrG {O:ZZ} (hO:Zad P O) {bf:Nat->Bool} {an:Ann} {a:Act} {o:Oper} {own:Nat} {ins:Ins} (t:TypeId) (l:Operand) (c':Operand) (ho:o.op=.makeSlice t l c') (hc:Z0 P an own (.makeSlice t l c')=some ins) (T:TR I β tm a.tmps) (R:Rel base w0 I0 I β σ w) (hb:KLt base w0)
  {sq:Nat} (hsite:nsite ins≠0->σ[sq]?=some .free) {v:AVal} {c:Cls} (h:execI O bf tm σ sq ins=some (v,σ',c)):OpOk P (execOp a.eval o) w (Post base w0 I0 I β v σ'):=by
 rw [show execOp a.eval o=(do pure (.value (<-Instr.makeSlice t (a.eval l) (a.eval c'))):Sem Next) by unfold execOp;rw [ho]]
 simp only [Z0] at hc
 split at hc
 ·rename_i k bytes z l' c'' he hl hc'
  injection hc with hc;subst hc
  have hl':=Z8 T hl
  have hc'':=Z8 T hc'
  simp only [execI] at h
  split at h
  ·rename_i li ci e1 e2
   rw [e1] at hl';rw [e2] at hc''
   simp only [VR] at hl' hc''
   split at h
   ·rename_i hcond
    simp only [Xa,Xb] at h
    obtain ⟨rfl,rfl,rfl⟩:=h
    rw [hl',hc'']
    exact OpOk.val (Zwp R hb he hcond.1 hcond.2.1 hcond.2.2.1 hcond.2.2.2.1 (hsite (by simp [nsite])))
   ·cases h
  ·cases h
 ·cases hc
theorem ZwG {O:ZZ} (hO:Zad P O) {bf:Nat->Bool} {an:Ann} {a:Act} {o:Oper} {own:Nat} {ins:Ins} (fn:Fn) (first:Array Operand) (captured:Array Operand) (ho:o.op=.makeFunc fn first captured) (hc:Z0 P an own (.makeFunc fn first captured)=some ins) (T:TR I β tm a.tmps) (R:Rel base w0 I0 I β σ w) (hb:KLt base w0)
  {sq:Nat} (hsite:nsite ins≠0->σ[sq]?=some .free) {v:AVal} {c:Cls} (h:execI O bf tm σ sq ins=some (v,σ',c)):OpOk P (execOp a.eval o) w (Post base w0 I0 I β v σ'):=by
 rw [show execOp a.eval o=(do pure (.value (<-Instr.makeFunc fn (first.map a.eval) (captured.map a.eval))):Sem Next) by unfold execOp;rw [ho]]
 simp only [Z0] at hc
 cases fn <;> simp only at hc <;> try (cases hc;done)
 rename_i f
 split at hc
 case isFalse=>cases hc
 rename_i hlt
 split at hc
 ·rename_i hf
  simp only [Xn] at hc
  obtain ⟨caps,hcaps,rfl⟩:=hc
  simp only [execI,Xa,Xb] at h
  obtain ⟨rfl,rfl,rfl⟩:=h
  have hfe:first=#[]:=by simpa using hf
  subst hfe
  refine OpOk.val ⟨.func (.func f) #[] (captured.map a.eval),w,by simp [Instr.makeFunc],Post.here R ?_⟩
  simp only [VR,if_pos hlt]
  exact ⟨_,_,rfl,rfl,by simpa using Zh6 T hcaps⟩
 ·split at hc
  case isFalse=>cases hc
  rename_i hf
  simp only [Xn] at hc
  obtain ⟨caps,hcaps,rfl⟩:=hc
  simp only [execI,Xa,Xb] at h
  obtain ⟨rfl,rfl,rfl⟩:=h
  have hfe:captured=#[]:=by simpa using hf
  subst hfe
  refine OpOk.val ⟨.func (.func f) (first.map a.eval) #[],w,by simp [Instr.makeFunc],Post.here R ?_⟩
  have hn:¬(f+1000000 < 1000000):=Nat.not_lt.2 (Nat.le_add_left _ _)
  simp only [VR,if_neg hn,Nat.add_sub_cancel]
  exact ⟨_,_,rfl,rfl,by simpa using Zh6 T hcaps⟩
theorem Zt4 {O:ZZ} (hO:Zad P O) {bf:Nat->Bool} {an:Ann} {a:Act} {o:Oper} {own:Nat} {ins:Ins} (t:TypeId) (x:Operand) (ho:o.op=.makeInterface t x) (hc:Z0 P an own (.makeInterface t x)=some ins) (T:TR I β tm a.tmps) (R:Rel base w0 I0 I β σ w) (hb:KLt base w0)
  {sq:Nat} (hsite:nsite ins≠0->σ[sq]?=some .free) {v:AVal} {c:Cls} (h:execI O bf tm σ sq ins=some (v,σ',c)):OpOk P (execOp a.eval o) w (Post base w0 I0 I β v σ'):=by
 rw [show execOp a.eval o=(do pure (.value (<-Instr.makeInterface t (a.eval x))):Sem Next) by unfold execOp;rw [ho]]
 simp only [Z0] at hc
 split at hc
 ·cases hc
 ·rename_i d hd hnd
  simp only [Xn] at hc
  obtain ⟨y,hy,rfl⟩:=hc
  have hy':=Z8 T hy
  have hrun:∀ u,(Instr.makeInterface t u).run P w=.ok (.iface t u) w:=by
   intro u
   unfold Instr.makeInterface
   rw [Sem.run_bind,run_underlying hnd]
   simp only [Result.andThen_ok]
   cases d <;> first | rfl | exact absurd rfl (hd _)
  simp only [execI] at h
  split at h
  ·cases h
  ·cases h
  ·cases h
  ·simp only [Xa,Xb] at h
   obtain ⟨rfl,rfl,rfl⟩:=h
   exact OpOk.val ⟨_,w,hrun _,Post.here R (by simp only [VR];exact ⟨_,rfl,hy'⟩)⟩
 ·cases hc
theorem Zym {O:ZZ} (hO:Zad P O) {bf:Nat->Bool} {an:Ann} {a:Act} {o:Oper} {own:Nat} {ins:Ins} (x:Operand) (ho:o.op=.panic x) (hc:Z0 P an own (.panic x)=some ins) (T:TR I β tm a.tmps) (R:Rel base w0 I0 I β σ w) (hb:KLt base w0)
  {sq:Nat} (hsite:nsite ins≠0->σ[sq]?=some .free) {v:AVal} {c:Cls} (h:execI O bf tm σ sq ins=some (v,σ',c)):OpR P (execOp a.eval o) w base w0 I0 I β v σ':=by
 rw [show execOp a.eval o=(do pure (.value (<-Instr.panic (a.eval x))):Sem Next) by unfold execOp;rw [ho]]
 simp only [Z0] at hc
 simp only [Xn] at hc
 obtain ⟨y,hy,rfl⟩:=hc
 have hy':=Z8 T hy
 simp only [execI] at h
 split at h
 ·rename_i t1 x1 e
  rw [e] at hy'
  simp only [Xa,Xb] at h
  obtain ⟨rfl,rfl,rfl⟩:=h
  refine XE ⟨_,rfl,Xw ⟨a.eval x,w,?_,Post.here R hy'⟩⟩
  simp only [VR] at hy'
  obtain ⟨u,hu,_⟩:=hy'
  simp [hu,Instr.panic,goPanic]
 ·cases h
theorem ZvA {O:ZZ} (hO:Zad P O) {bf:Nat->Bool} {an:Ann} {a:Act} {o:Oper} {own:Nat} {ins:Ins} (t:TypeId) (x:Operand) (ho:o.op=.range t x) (hc:Z0 P an own (.range t x)=some ins) (T:TR I β tm a.tmps) (R:Rel base w0 I0 I β σ w) (hb:KLt base w0)
  {sq:Nat} (hsite:nsite ins≠0->σ[sq]?=some .free) {v:AVal} {c:Cls} (h:execI O bf tm σ sq ins=some (v,σ',c)):OpOk P (execOp a.eval o) w (Post base w0 I0 I β v σ'):=by
 rw [show execOp a.eval o=(do pure (.value (<-Instr.range t (a.eval x))):Sem Next) by unfold execOp;rw [ho]]
 simp only [Z0] at hc
 split at hc
 case h_2=>cases hc
 rename_i ht
 simp only [Xn] at hc
 obtain ⟨y,hy,rfl⟩:=hc
 have hy':=Z8 T hy
 simp only [execI] at h
 split at h
 case h_2=>cases h
 rename_i l e
 simp only [Xa,Xb] at h
 obtain ⟨rfl,rfl,rfl⟩:=h
 rw [e] at hy'
 simp only [VR] at hy'
 rw [hy'.1]
 exact OpOk.val (ZAz R hb ht (hsite (by simp [nsite])))
theorem ZqS {O:ZZ} (hO:Zad P O) {bf:Nat->Bool} {an:Ann} {a:Act} {o:Oper} {own:Nat} {ins:Ins} (x:Operand) (str:Bool) (ho:o.op=.next x str) (hc:Z0 P an own (.next x str)=some ins) (T:TR I β tm a.tmps) (R:Rel base w0 I0 I β σ w) (hb:KLt base w0)
  {sq:Nat} (hsite:nsite ins≠0->σ[sq]?=some .free) {v:AVal} {c:Cls} (h:execI O bf tm σ sq ins=some (v,σ',c)):OpOk P (execOp a.eval o) w (Post base w0 I0 I β v σ'):=by
 rw [show execOp a.eval o=(do pure (.value (<-Instr.next (a.eval x) str o.type)):Sem Next) by unfold execOp;rw [ho]]
 simp only [Z0] at hc
 cases str
 case false=>cases hc
 simp only [Xn] at hc
 obtain ⟨y,hy,rfl⟩:=hc
 have hy':=Z8 T hy
 simp only [execI] at h
 split at h
 case h_2=>cases h
 rename_i t e
 rw [e] at hy'
 split at h
 case h_2=>cases h
 rename_i l p hs
 obtain ⟨u,w',h1,h2⟩:=Zvr (P:=P) R hs hy' o.type
 split at h
 ·rename_i hp
  rw [if_pos hp] at h2
  simp only [Xa,Xb] at h
  obtain ⟨rfl,rfl,rfl⟩:=h
  exact OpOk.val ⟨u,w',h1,h2⟩
 ·rename_i hp
  rw [if_neg hp] at h2
  simp only [Xa,Xb] at h
  obtain ⟨rfl,rfl,rfl⟩:=h
  exact OpOk.val ⟨u,w',h1,h2⟩
theorem Zus {O:ZZ} (hO:Zad P O) {bf:Nat->Bool} {an:Ann} {a:Act} {o:Oper} {own:Nat} {ins:Ins} (t:TypeId) (r:Option Operand) (ho:o.op=.makeMap t r) (hc:Z0 P an own (.makeMap t r)=some ins) (T:TR I β tm a.tmps) (R:Rel base w0 I0 I β σ w) (hb:KLt base w0)
  {sq:Nat} (hsite:nsite ins≠0->σ[sq]?=some .free) {v:AVal} {c:Cls} (h:execI O bf tm σ sq ins=some (v,σ',c)):OpOk P (execOp a.eval o) w (Post base w0 I0 I β v σ'):=by
 rw [show execOp a.eval o=(do pure (.value (<-Instr.makeMap t (r.map a.eval))):Sem Next) by unfold execOp;rw [ho]]
 simp only [Z0] at hc
 cases r with
 | some r=>cases hc
 | none =>
  simp only at hc
  split at hc
  ·split at hc
   ·split at hc
    ·injection hc with hc;subst hc
     simp only [execI] at h
     split at h
     case isFalse=>cases h
     rename_i hk
     simp only [Xa,Xb] at h
     obtain ⟨rfl,rfl,rfl⟩:=h
     exact OpOk.val (ZrY R hb t hk (hsite (by simp [nsite])))
    ·cases hc
   ·cases hc
  injection hc with hc;subst hc
  simp only [execI,Xa,Xb] at h
  obtain ⟨rfl,rfl,rfl⟩:=h
  exact OpOk.val (Zzs R hb t (hsite (by simp [nsite])))
theorem ZsU {O:ZZ} (hO:Zad P O) {bf:Nat->Bool} {an:Ann} {a:Act} {o:Oper} {own:Nat} {ins:Ins} (t:TypeId) (x:Operand) (z:Operand) (ok:Bool) (ho:o.op=.lookup t x z ok) (hc:Z0 P an own (.lookup t x z ok)=some ins) (T:TR I β tm a.tmps) (R:Rel base w0 I0 I β σ w) (hb:KLt base w0)
  {sq:Nat} (hsite:nsite ins≠0->σ[sq]?=some .free) {v:AVal} {c:Cls} (h:execI O bf tm σ sq ins=some (v,σ',c)):OpOk P (execOp a.eval o) w (Post base w0 I0 I β v σ'):=by
 rw [show execOp a.eval o=(do pure (.value (<-Instr.lookup t (a.eval x) (a.eval z) ok)):Sem Next) by unfold execOp;rw [ho]]
 simp only [Z0] at hc
 split at hc
 case h_2=>cases hc
 rename_i kc zv m k hmp hm hk
 obtain ⟨kt,et,d,ht,hdk,hd,hz⟩:=Zg9 hmp
 split at hc
 ·split at hc
  ·cases hc
  rename_i hok
  have hok':ok=false:=by simpa using hok
  subst hok'
  injection hc with hc;subst hc
  simp only [execI] at h
  obtain ⟨u,h1,h2⟩:=ZvK R ht hdk hd hz (Z8 T hm) (Z8 T hk) (hsite (by simp [nsite])) h
  exact OpOk.val ⟨u,w,h1,h2⟩
 injection hc with hc;subst hc
 simp only [execI] at h
 obtain ⟨rfl,u,h1,h2⟩:=Zwo R ht hdk hd hz (Z8 T hm) (Z8 T hk) h
 exact OpOk.val ⟨u,w,h1,Post.here R h2⟩
theorem Zrc {O:ZZ} (hO:Zad P O) {bf:Nat->Bool} {an:Ann} {a:Act} {o:Oper} {own:Nat} {ins:Ins} (t:TypeId) (x:Operand) (z:Operand) (y:Operand) (ho:o.op=.mapUpdate t x z y) (hc:Z0 P an own (.mapUpdate t x z y)=some ins) (T:TR I β tm a.tmps) (R:Rel base w0 I0 I β σ w) (hb:KLt base w0)
  {sq:Nat} (hsite:nsite ins≠0->σ[sq]?=some .free) {v:AVal} {c:Cls} (h:execI O bf tm σ sq ins=some (v,σ',c)):OpOk P (execOp a.eval o) w (Post base w0 I0 I β v σ'):=by
 rw [show execOp a.eval o=(do Instr.mapUpdate t (a.eval x) (a.eval z) (a.eval y);pure .skip:Sem Next) by unfold execOp;rw [ho]]
 simp only [Z0] at hc
 split at hc
 case h_2=>cases hc
 rename_i kc zv m k vv hmp hm hk hv
 injection hc with hc;subst hc
 simp only [execI] at h
 obtain ⟨kt,et,d,ht,hdk,hd,hz⟩:=Zg9 hmp
 obtain ⟨rfl,w',h1,h2⟩:=ZmG R ht hdk hd (Z8 T hm) (Z8 T hk) (Z8 T hv) h
 exact OpOk.unit ⟨w',h1,Post.here h2 Zf3⟩
theorem ZyV {O:ZZ} (hO:Zad P O) {bf:Nat->Bool} {an:Ann} {a:Act} {o:Oper} {own:Nat} {ins:Ins} (t:TypeId) (x:Operand) (z:Operand) (y:Operand) (ho:o.op=.insert t x z y) (hc:Z0 P an own (.insert t x z y)=some ins) (T:TR I β tm a.tmps) (R:Rel base w0 I0 I β σ w) (hb:KLt base w0)
  {sq:Nat} (hsite:nsite ins≠0->σ[sq]?=some .free) {v:AVal} {c:Cls} (h:execI O bf tm σ sq ins=some (v,σ',c)):OpOk P (execOp a.eval o) w (Post base w0 I0 I β v σ'):=by
 rw [show execOp a.eval o=(do Instr.mapUpdate t (a.eval x) (a.eval z) (a.eval y);pure .skip:Sem Next) by unfold execOp;rw [ho]]
 simp only [Z0] at hc
 split at hc
 case h_2=>cases hc
 rename_i kc zv m k vv hmp hm hk hv
 injection hc with hc;subst hc
 simp only [execI] at h
 obtain ⟨kt,et,d,ht,hdk,hd,hz⟩:=Zg9 hmp
 obtain ⟨rfl,w',h1,h2⟩:=ZmG R ht hdk hd (Z8 T hm) (Z8 T hk) (Z8 T hv) h
 exact OpOk.unit ⟨w',h1,Post.here h2 Zf3⟩
theorem Zpo {O:ZZ} (hO:Zad P O) {bf:Nat->Bool} {an:Ann} {a:Act} {o:Oper} {own:Nat} {ins:Ins} (cl:Call) (ho:o.op=.call cl) (hc:Z0 P an own (.call cl)=some ins) (T:TR I β tm a.tmps) (R:Rel base w0 I0 I β σ w) (hb:KLt base w0)
  {sq:Nat} (hsite:nsite ins≠0->σ[sq]?=some .free) {v:AVal} {c:Cls} (h:execI O bf tm σ sq ins=some (v,σ',c)):OpR P (execOp a.eval o) w base w0 I0 I β v σ':=by
 rw [show execOp a.eval o=(do let d <-resolve a.eval cl o.type;invoke d.target d.args:Sem Next) by unfold execOp;rw [ho]]
 simp only [Z0] at hc
 unfold ZmV at hc
 split at hc
 ·cases hc
 rename_i args hargs
 have hav:=Zh6 T hargs
 obtain ⟨callee,cargs,ctypes⟩:=cl
 simp only at hc hargs hav
 have hmap:(cargs.toList.map a.eval)=(cargs.map a.eval).toList:=by simp
 split at hc
 ·rename_i f
  injection hc with hc;subst hc
  simp only [execI] at h
  obtain ⟨⟨fn,f1,f2,f3⟩,g2⟩:=ZiK hO R hb (vs:=cargs.map a.eval) (by rw [<-hmap];exact hav) (fun ho=>hsite (by simp [nsite,ho])) h
  exact OpR.of_call (by simp [resolve,Act.eval,Deferred.ofValue,invoke,Ziw f1 f2 f3]) g2
 ·rename_i t
  injection hc with hc;subst hc
  simp only [execI] at h
  split at h
  ·rename_i f caps hf
   have hfv:=Z8 (x:=.tmp t) T rfl
   rw [hf] at hfv
   simp only [VR] at hfv
   obtain ⟨fs,us,hus,h0,hcaps⟩:=hfv
   by_cases hlt:f < 1000000
   ·simp only [if_pos hlt] at h hus h0
    subst h0
    obtain ⟨⟨fn,f1,f2,f3⟩,g2⟩:=ZiK hO R hb (vs:=cargs.map a.eval++us) (by rw [Array.toList_append,<-hmap];exact Zca hav (by simpa using hcaps)) (fun ho=>absurd ho (by decide)) h
    exact OpR.of_call (by simp [resolve,hus,Deferred.ofValue,invoke,Ziw f1 f2 f3]) g2
   ·simp only [if_neg hlt] at h hus h0
    subst h0
    obtain ⟨⟨fn,f1,f2,f3⟩,g2⟩:=ZiK hO R hb (vs:=fs++cargs.map a.eval) (by rw [Array.toList_append,<-hmap];exact Zca (by simpa using hcaps) hav) (fun ho=>absurd ho (by decide)) h
    exact OpR.of_call (by simp [resolve,hus,Deferred.ofValue,invoke,Ziw f1 f2 f3]) g2
  ·cases h
 ·refine Xw ?_
  split at hc
  ·rename_i t u x y hty
   split at hc
   ·rename_i k bytes z he
    obtain ⟨e,i,vz,hu,hi,hik,hib,hvz,hz,hk,hby,hzl⟩:=Zgd he
    obtain ⟨hz1,hz2⟩:=Zd4 (I:=I) (β:=β) hz
    have hzs:vz.cells.size=i.size:=by rw [Ze0 (Zd2 hz) hz1,hzl,hik]
    have hargs2:∃ ox oy,cargs=#[ox,oy]/\Z9 ox=some x/\Z9 oy=some y:=by
     obtain ⟨l⟩:=cargs
     match l,hargs with
     | [],hargs=>simp [Zck] at hargs
     | [ox],hargs =>
      simp only [Zck] at hargs
      split at hargs
      ·simp at hargs
      ·cases hargs
     | [ox,oy],hargs =>
      simp only [Zck] at hargs
      split at hargs
      ·rename_i x1 hx1
       split at hargs
       ·rename_i l2 hl2
        split at hl2
        ·rename_i y1 hy1
         simp only [Xa] at hl2 hargs
         subst hl2
         simp only [Xae,and_true] at hargs
         obtain ⟨rfl,rfl⟩:=hargs
         exact ⟨ox,oy,rfl,hx1,hy1⟩
        ·cases hl2
       ·cases hargs
      ·cases hargs
     | ox::oy::oz::r,hargs=>have:=Zaa hav;simp at this
    obtain ⟨ox,oy,rfl,hx,hy⟩:=hargs2
    have htys:ctypes=#[t,u]:=by
     obtain ⟨l⟩:=ctypes
     simpa using hty
    subst htys
    have fin:Zgl P t u e i vz->Zae σ sq k bytes (x.ev tm) (y.ev tm)=some (v,σ',c)->OpOk P (do let d <-resolve a.eval { callee:=.builtin .append,args:=#[ox,oy],argTypes:=#[t,u] } o.type;invoke d.target d.args) w (Post base w0 I0 I β v σ'):=by
     intro TT h
     rw [<-hik,<-hib] at h
     have hns:nsite ins≠0:=by
      split at hc
      ·injection hc with hc;subst hc;simp [nsite]
      ·split at hc
       ·injection hc with hc;subst hc;simp [nsite]
       ·cases hc
      ·cases hc
     obtain ⟨vr,w1,h1,h2⟩:=Zpc (ty:=o.type) TT R hb (Z8 T hx) (Z8 T hy) (hsite hns) h
     exact Xw ⟨vr,w1,by simp [resolve,invoke,builtin,h1],h2⟩
    split at hc
    ·rename_i e' hu2
     injection hc with hc;subst hc
     simp only [execI] at h
     exact fin ⟨hu,Xw ⟨e',hu2⟩,hi,hvz,hzs,by omega,by omega⟩ h
    ·rename_i hu2
     split at hc
     ·injection hc with hc;subst hc
      simp only [execI] at h
      exact fin ⟨hu,XE hu2,hi,hvz,hzs,by omega,by omega⟩ h
     ·cases hc
    ·cases hc
   ·cases hc
  ·cases hc
 ·refine Xw ?_
  split at hc
  ·rename_i t x hty
   have hargs2:∃ ox,cargs=#[ox]/\Z9 ox=some x:=by
    obtain ⟨l⟩:=cargs
    match l,hargs with
    | [],hargs=>simp [Zck] at hargs
    | [ox],hargs =>
     simp only [Zck] at hargs
     split at hargs
     ·rename_i x1 hx1
      simp only [Xa,Xae,and_true] at hargs
      subst hargs
      exact ⟨ox,rfl,hx1⟩
     ·cases hargs
    | ox::oy::r,hargs =>
     have:=Zaa hav
     simp at this
   obtain ⟨ox,rfl,hx⟩:=hargs2
   have htys:ctypes=#[t]:=by
    obtain ⟨l⟩:=ctypes
    simpa using hty
   subst htys
   have hx':=Z8 T hx
   split at hc
   ·rename_i e hu
    injection hc with hc;subst hc
    simp only [execI] at h
    split at h
    ·rename_i b xs hh
     rw [hh] at hx';simp only [VR] at hx'
     obtain ⟨A,cap,hv,_⟩:=hx'
     simp only [Xa,Xb] at h
     obtain ⟨rfl,rfl,rfl⟩:=h
     refine Xw ⟨.int .i64 xs.length,w,?_,Post.here R (by simp only [VR])⟩
     simp [resolve,invoke,builtin,hv,Builtin.len_,run_underlying hu,goInt]
    ·rename_i t' g lo n hh
     rw [hh] at hx';simp only [VR] at hx'
     obtain ⟨bi,_,hle,_,hv⟩:=hx'
     simp only [Xa,Xb] at h
     obtain ⟨rfl,rfl,rfl⟩:=h
     refine Xw ⟨.int .i64 n,w,?_,Post.here R (by simp only [VR])⟩
     rcases hv with ⟨b,_,hv⟩ | ⟨_,hc0,A,hv⟩ | ⟨_,_,hn0,A,hv⟩
     ·simp [resolve,invoke,builtin,hv,Builtin.len_,run_underlying hu,goInt]
     ·have : n=0:=by omega
      subst this
      simp [resolve,invoke,builtin,hv,Builtin.len_,run_underlying hu,goInt]
     ·subst hn0
      simp [resolve,invoke,builtin,hv,Builtin.len_,run_underlying hu,goInt]
    ·cases h
   ·rename_i hu
    injection hc with hc;subst hc
    simp only [execI] at h
    split at h
    ·rename_i l hh
     rw [hh] at hx';simp only [VR] at hx'
     simp only [Xa,Xb] at h
     obtain ⟨rfl,rfl,rfl⟩:=h
     refine Xw ⟨.int .i64 l.length,w,?_,Post.here R (by simp only [VR])⟩
     have hsz:WL ⟨l.toArray⟩=l.length:=by simp [WL]
     simp [resolve,invoke,builtin,hx'.1,Builtin.len_,run_underlying hu,goInt,hsz]
    ·cases h
   ·rename_i kt et hu
    injection hc with hc;subst hc
    simp only [execI] at h
    obtain ⟨rfl,u,h1,h2⟩:=ZpH R hu o.type hx' h
    exact Xw ⟨u,w,by simp [resolve,invoke,builtin,h1],Post.here R h2⟩
   ·cases hc
  ·cases hc
 ·refine Xw ?_
  split at hc
  ·rename_i t ts x y hty
   split at hc
   case h_2=>cases hc
   rename_i kc zv hmp
   injection hc with hc;subst hc
   obtain ⟨kt,et,d,ht,hdk,hd,hz⟩:=Zg9 hmp
   have hargs2:∃ ox oy,cargs=#[ox,oy]/\Z9 ox=some x/\Z9 oy=some y:=by
    obtain ⟨l⟩:=cargs
    match l,hargs with
    | [],hargs=>simp [Zck] at hargs
    | [ox],hargs =>
     simp only [Zck] at hargs
     split at hargs
     ·simp at hargs
     ·cases hargs
    | [ox,oy],hargs =>
     simp only [Zck] at hargs
     split at hargs
     ·rename_i x1 hx1
      split at hargs
      ·rename_i l2 hl2
       split at hl2
       ·rename_i y1 hy1
        simp only [Xa] at hl2 hargs
        subst hl2
        simp only [Xae,and_true] at hargs
        obtain ⟨rfl,rfl⟩:=hargs
        exact ⟨ox,oy,rfl,hx1,hy1⟩
       ·cases hl2
      ·cases hargs
     ·cases hargs
    | ox::oy::oz::r,hargs=>have:=Zaa hav;simp at this
   obtain ⟨ox,oy,rfl,hx,hy⟩:=hargs2
   have htys:ctypes=(t::ts).toArray:=by
    obtain ⟨l⟩:=ctypes
    simpa using hty
   subst htys
   simp only [execI] at h
   obtain ⟨w',h1,rfl,h2⟩:=Zp8 R ht hdk hd ts o.type (Z8 T hx) (Z8 T hy) h
   exact Xw ⟨.tuple #[],w',by simp [resolve,invoke,builtin,h1],Post.here h2 Zf3⟩
  ·cases hc
 ·refine Xw ?_
  split at hc
  ·rename_i t x hty
   have hargs2:∃ ox,cargs=#[ox]/\Z9 ox=some x:=by
    obtain ⟨l⟩:=cargs
    match l,hargs with
    | [],hargs=>simp [Zck] at hargs
    | [ox],hargs =>
     simp only [Zck] at hargs
     split at hargs
     ·rename_i x1 hx1
      simp only [Xa,Xae,and_true] at hargs
      subst hargs
      exact ⟨ox,rfl,hx1⟩
     ·cases hargs
    | ox::oy::r,hargs =>
     have:=Zaa hav
     simp at this
   obtain ⟨ox,rfl,hx⟩:=hargs2
   have htys:ctypes=#[t]:=by
    obtain ⟨l⟩:=ctypes
    simpa using hty
   subst htys
   split at hc
   ·rename_i k bytes z he
    injection hc with hc;subst hc
    simp only [execI] at h
    obtain ⟨vr,w1,h1,h2⟩:=ZtA (ty:=o.type) R he (Z8 T hx) h
    exact Xw ⟨vr,w1,by simp [resolve,invoke,builtin,h1],h2⟩
   ·cases hc
  ·cases hc
 ·refine Xw ?_
  split at hc
  ·rename_i hl2
   injection hc with hc;subst hc
   simp only [execI] at h
   split at h
   ·rename_i k p k' q hh
    rw [hh] at hav
    simp only [VRs,VR] at hav
    obtain ⟨v1,vs1,e1,rfl,v2,vs2,rfl,rfl,rfl⟩:=hav
    simp only [Xa,Xb] at h
    obtain ⟨rfl,rfl,rfl⟩:=h
    have hca:cargs.map a.eval=#[.int k p,.int k' q]:=by
     apply Xa7
     simpa using e1
    refine Xw ⟨_,w,?_,Post.here R (by simp only [VR];rfl)⟩
    simp [resolve,invoke,builtin,hca,Builtin.max_,Builtin.max2]
   ·cases h
  ·cases hc
 ·refine Xw ?_
  split at hc
  ·rename_i hl2
   injection hc with hc;subst hc
   simp only [execI] at h
   split at h
   ·rename_i k p k' q hh
    rw [hh] at hav
    simp only [VRs,VR] at hav
    obtain ⟨v1,vs1,e1,rfl,v2,vs2,rfl,rfl,rfl⟩:=hav
    simp only [Xa,Xb] at h
    obtain ⟨rfl,rfl,rfl⟩:=h
    have hca:cargs.map a.eval=#[.int k p,.int k' q]:=by
     apply Xa7
     simpa using e1
    refine Xw ⟨_,w,?_,Post.here R (by simp only [VR];rfl)⟩
    simp [resolve,invoke,builtin,hca,Builtin.min_,Builtin.min2]
   ·cases h
  ·cases hc
 ·cases hc
theorem ZyK {O:ZZ} (hO:Zad P O) {bf:Nat->Bool} {an:Ann} {a:Act} {o:Oper} {own:Nat} {ins:Ins} (hc:Z0 P an own o.op=some ins) (T:TR I β tm a.tmps) (R:Rel base w0 I0 I β σ w) (hb:KLt base w0)
  {sq:Nat} (hsite:nsite ins≠0->σ[sq]?=some .free) {v:AVal} {c:Cls} (h:execI O bf tm σ sq ins=some (v,σ',c)):OpR P (execOp a.eval o) w base w0 I0 I β v σ':=by
 cases ho:o.op <;> rw [ho] at hc <;> first
  | exact Xw (ZpO hO _ ho hc T R hb hsite h)
  | exact Xw (Zwi hO _ ho hc T R hb hsite h)
  | exact Xw (ZuH hO _ _ _ ho hc T R hb hsite h)
  | exact Xw (ZzO hO _ ho hc T R hb hsite h)
  | exact Xw (Zsc hO _ _ ho hc T R hb hsite h)
  | exact Xw (Zuo hO _ _ ho hc T R hb hsite h)
  | exact Xw (Zo2 hO _ _ _ ho hc T R hb hsite h)
  | exact Xw (Zw2 hO _ _ ho hc T R hb hsite h)
  | exact Xw (ZzU hO _ _ _ ho hc T R hb hsite h)
  | exact Xw (Zxe hO _ ho hc T R hb hsite h)
  | exact Xw (ZqH hO _ _ _ _ _ ho hc T R hb hsite h)
  | exact Xw (Zv8 hO _ _ _ ho hc T R hb hsite h)
  | exact Xw (Zxw hO _ _ _ ho hc T R hb hsite h)
  | exact Xw (Zoz hO _ _ _ _ _ ho hc T R hb hsite h)
  | exact Xw (Zu6 hO _ _ _ ho hc T R hb hsite h)
  | exact Xw (Zxl hO _ _ _ ho hc T R hb hsite h)
  | exact Xw (ZAn hO _ _ _ ho hc T R hb hsite h)
  | exact Xw (Zvg hO _ _ _ ho hc T R hb hsite h)
  | exact Xw (Zs7 hO _ _ ho hc T R hb hsite h)
  | exact Xw (ZrG hO _ _ _ ho hc T R hb hsite h)
  | exact Xw (ZwG hO _ _ _ ho hc T R hb hsite h)
  | exact Xw (Zt4 hO _ _ ho hc T R hb hsite h)
  | exact Zym hO _ ho hc T R hb hsite h
  | exact Xw (ZvA hO _ _ ho hc T R hb hsite h)
  | exact Xw (ZqS hO _ _ ho hc T R hb hsite h)
  | exact Xw (Zus hO _ _ ho hc T R hb hsite h)
  | exact Xw (ZsU hO _ _ _ _ ho hc T R hb hsite h)
  | exact Xw (Zrc hO _ _ _ _ ho hc T R hb hsite h)
  | exact Xw (ZyV hO _ _ _ _ ho hc T R hb hsite h)
  | exact Zpo hO _ ho hc T R hb hsite h
  | (simp only [Z0] at hc;cases hc;done)
end
end
section
open Go.RowKit
section
variable {O:ZZ} {bf:Nat->Bool} {tm tm':Tms} {σ σ' σ2:Za} {sq:Nat}
theorem Opd.ev_congr {x:Opd} (h:∀ n ∈ x.reads,tget tm n=tget tm' n):x.ev tm=x.ev tm':=by
 cases x with
 | t n=>exact h n (by simp [Opd.reads])
 | c v=>rfl
theorem Zhk {xs:List Opd} (h:∀ n ∈ xs.flatMap Opd.reads,tget tm n=tget tm' n):(xs.map fun x=>x.ev tm)=xs.map fun x=>x.ev tm':=by
 apply WS
 intro x hx
 exact Opd.ev_congr fun n hn=>h n (Wh.2 ⟨x,hx,hn⟩)
theorem Zgt {x:Option Opd} (h:∀ n ∈ ZfT x,tget tm n=tget tm' n):(x.map fun x=>x.ev tm)=x.map fun x=>x.ev tm':=by
 cases x with
 | none=>rfl
 | some x=>simp only [XU];rw [Opd.ev_congr (x:=x) h]
theorem ZeY {ins:Ins} (h:∀ n ∈ ins.reads,tget tm n=tget tm' n):execI O bf tm σ sq ins=execI O bf tm' σ sq ins:=by
 cases ins with
 | alloc zs=>rfl
 | build zs ps =>
  have : (ps.map fun p=>(p.1,p.2.1,p.2.2.ev tm))=ps.map fun p=>(p.1,p.2.1,p.2.2.ev tm'):=by
   apply WS
   intro p hp
   rw [Opd.ev_congr (x:=p.2.2) fun n hn=>h n (by simp only [Ins.reads];exact Wh.2 ⟨p,hp,hn⟩)]
  simp only [execI,this]
 | bslice own k n z ps =>
  have : (ps.map fun p=>p.2.ev tm)=ps.map fun p=>p.2.ev tm':=by
   apply WS
   intro p hp
   rw [Opd.ev_congr (x:=p.2) fun n hn=>h n (by simp only [Ins.reads];exact Wh.2 ⟨p,hp,hn⟩)]
  simp only [execI,this]
 | rslice k n z ps =>
  have h0:∀ p ∈ ps,p.2.ev tm=p.2.ev tm':=fun p hp=>Opd.ev_congr (x:=p.2) fun n hn=>h n (by simp only [Ins.reads];exact Wh.2 ⟨p,hp,hn⟩)
  have h1:(ps.map fun p=>(p.1,p.2.ev tm))=ps.map fun p=>(p.1,p.2.ev tm'):=WS fun p hp=>by rw [h0 p hp]
  have h2:(ps.all fun p=>(p.2.ev tm).cells.length == k && (p.2.ev tm).cells.all Zy)=ps.all fun p=>(p.2.ev tm').cells.length == k && (p.2.ev tm').cells.all Zy:=by
   rw [Bool.eq_iff_iff,XM,XM]
   exact ⟨fun h p hp=>by rw [<-h0 p hp];exact h p hp,fun h p hp=>by rw [h0 p hp];exact h p hp⟩
  simp only [execI,h1,h2]
 | rng x=>simp only [execI,Opd.ev_congr (x:=x) h]
 | nxt x=>simp only [execI,Opd.ev_congr (x:=x) h]
 | mkmap=>rfl
 | mkgmap k=>rfl
 | glook kc z x y=>simp only [Ins.reads,Xv] at h;simp only [execI,Opd.ev_congr (x:=x) fun n hn=>h n (Xw hn),Opd.ev_congr (x:=y) fun n hn=>h n (XE hn)]
 | mkbook x=>simp only [execI,Opd.ev_congr (x:=x) h]
 | mkrow x=>simp only [execI,Opd.ev_congr (x:=x) h]
 | mlen x=>simp only [execI,Opd.ev_congr (x:=x) h]
 | look kc z ok x y=>simp only [Ins.reads,Xv] at h;simp only [execI,Opd.ev_congr (x:=x) fun n hn=>h n (Xw hn),Opd.ev_congr (x:=y) fun n hn=>h n (XE hn)]
 | mdel kc x y=>simp only [Ins.reads,Xv] at h;simp only [execI,Opd.ev_congr (x:=x) fun n hn=>h n (Xw hn),Opd.ev_congr (x:=y) fun n hn=>h n (XE hn)]
 | mset kc x y z =>
  simp only [Ins.reads,Xv] at h
  simp only [execI,Opd.ev_congr (x:=x) fun n hn=>h n (Xw (Xw hn)),Opd.ev_congr (x:=y) fun n hn=>h n (Xw (XE hn)),Opd.ev_congr (x:=z) fun n hn=>h n (XE hn)]
 | mov x=>simp only [execI,Opd.ev_congr (x:=x) h]
 | box x=>simp only [execI,Opd.ev_congr (x:=x) h]
 | un op x=>simp only [execI,Opd.ev_congr (x:=x) h]
 | i2i k x=>simp only [execI,Opd.ev_congr (x:=x) h]
 | i2s x=>simp only [execI,Opd.ev_congr (x:=x) h]
 | clr k z x=>simp only [execI,Opd.ev_congr (x:=x) h]
 | same x=>simp only [execI,Opd.ev_congr (x:=x) h]
 | s2b x=>simp only [execI,Opd.ev_congr (x:=x) h]
 | b2s x=>simp only [execI,Opd.ev_congr (x:=x) h]
 | s2s x=>simp only [execI,Opd.ev_congr (x:=x) h]
 | faddr o x=>simp only [execI,Opd.ev_congr (x:=x) h]
 | field k o x=>simp only [execI,Opd.ev_congr (x:=x) h]
 | ext x i=>simp only [execI,Opd.ev_congr (x:=x) h]
 | len x=>simp only [execI,Opd.ev_congr (x:=x) h]
 | slen x=>simp only [execI,Opd.ev_congr (x:=x) h]
 | nilchk x=>simp only [execI,Opd.ev_congr (x:=x) h]
 | mki t x=>simp only [execI,Opd.ev_congr (x:=x) h]
 | panic x=>simp only [execI,Opd.ev_congr (x:=x) h]
 | ld k x=>simp only [execI,Opd.ev_congr (x:=x) h]
 | pick c a b =>
  simp only [Ins.reads,Xv] at h
  simp only [execI,Opd.ev_congr (x:=c) fun n hn=>h n (Xw (Xw hn)),Opd.ev_congr (x:=a) fun n hn=>h n (Xw (XE hn)),Opd.ev_congr (x:=b) fun n hn=>h n (XE hn)]
 | st k x y=>simp only [Ins.reads,Xv] at h;simp only [execI,Opd.ev_congr (x:=x) fun n hn=>h n (Xw hn),Opd.ev_congr (x:=y) fun n hn=>h n (XE hn)]
 | bin k x y=>simp only [Ins.reads,Xv] at h;simp only [execI,Opd.ev_congr (x:=x) fun n hn=>h n (Xw hn),Opd.ev_congr (x:=y) fun n hn=>h n (XE hn)]
 | iaddr k x y=>simp only [Ins.reads,Xv] at h;simp only [execI,Opd.ev_congr (x:=x) fun n hn=>h n (Xw hn),Opd.ev_congr (x:=y) fun n hn=>h n (XE hn)]
 | aaddr k n x y=>simp only [Ins.reads,Xv] at h;simp only [execI,Opd.ev_congr (x:=x) fun n hn=>h n (Xw hn),Opd.ev_congr (x:=y) fun n hn=>h n (XE hn)]
 | sindex x y=>simp only [Ins.reads,Xv] at h;simp only [execI,Opd.ev_congr (x:=x) fun n hn=>h n (Xw hn),Opd.ev_congr (x:=y) fun n hn=>h n (XE hn)]
 | aindex s k n x y=>simp only [Ins.reads,Xv] at h;simp only [execI,Opd.ev_congr (x:=x) fun n hn=>h n (Xw hn),Opd.ev_congr (x:=y) fun n hn=>h n (XE hn)]
 | app k b z x y=>simp only [Ins.reads,Xv] at h;simp only [execI,Opd.ev_congr (x:=x) fun n hn=>h n (Xw hn),Opd.ev_congr (x:=y) fun n hn=>h n (XE hn)]
 | mkslice k b z x y=>simp only [Ins.reads,Xv] at h;simp only [execI,Opd.ev_congr (x:=x) fun n hn=>h n (Xw hn),Opd.ev_congr (x:=y) fun n hn=>h n (XE hn)]
 | beq k x y=>simp only [Ins.reads,Xv] at h;simp only [execI,Opd.ev_congr (x:=x) fun n hn=>h n (Xw hn),Opd.ev_congr (x:=y) fun n hn=>h n (XE hn)]
 | peq k x y=>simp only [Ins.reads,Xv] at h;simp only [execI,Opd.ev_congr (x:=x) fun n hn=>h n (Xw hn),Opd.ev_congr (x:=y) fun n hn=>h n (XE hn)]
 | eqv k ks x y=>simp only [Ins.reads,Xv] at h;simp only [execI,Opd.ev_congr (x:=x) fun n hn=>h n (Xw hn),Opd.ev_congr (x:=y) fun n hn=>h n (XE hn)]
 | ieq k x y=>simp only [Ins.reads,Xv] at h;simp only [execI,Opd.ev_congr (x:=x) fun n hn=>h n (Xw hn),Opd.ev_congr (x:=y) fun n hn=>h n (XE hn)]
 | slice k x lo hi mx =>
  simp only [Ins.reads,Xv] at h
  simp only [execI,Opd.ev_congr (x:=x) fun n hn=>h n (Xw (Xw (Xw hn))),Zgt (x:=lo) fun n hn=>h n (Xw (Xw (XE hn))),Zgt (x:=hi) fun n hn=>h n (Xw (XE hn)),Zgt (x:=mx) fun n hn=>h n (XE hn)]
 | sslice x lo hi =>
  simp only [Ins.reads,Xv] at h
  simp only [execI,Opd.ev_congr (x:=x) fun n hn=>h n (Xw (Xw hn)),Zgt (x:=lo) fun n hn=>h n (Xw (XE hn)),Zgt (x:=hi) fun n hn=>h n (XE hn)]
 | mm m xs=>simp only [Ins.reads] at h;simp only [execI,Zhk h]
 | call f own vw xs=>simp only [Ins.reads] at h;simp only [execI,Zhk h]
 | mkfn f xs=>simp only [Ins.reads] at h;simp only [execI,Zhk h]
 | callv x xs =>
  simp only [Ins.reads,Xv] at h
  simp only [execI,Opd.ev_congr (x:=x) fun n hn=>h n (Xw hn),Zhk (xs:=xs) fun n hn=>h n (XE hn)]
def Agree (σ σ2:Za) (ts:List Nat):Prop:=∀ t ∈ ts,σ2[t]?=σ[t]?
theorem Agree.left {ts us:List Nat} (h:Agree σ σ2 (ts++us)):Agree σ σ2 ts:=fun t ht=>h t (by simp [ht])
theorem Agree.right {ts us:List Nat} (h:Agree σ σ2 (ts++us)):Agree σ σ2 us:=fun t ht=>h t (by simp [ht])
theorem ZeW {a:AVal} {xs:List AVal} {ts:List Nat} (h:Zk σ a=some (xs,ts)) (hA:Agree σ σ2 ts):Zk σ2 a=some (xs,ts):=by
 unfold Zk at h ⊢
 split at h
 ·exact h
 ·exact h
 ·rename_i t g lo n
  have ht:t ∈ ts:=by
   split at h
   ·split at h
    ·simp only [Xa,Xb] at h;rw [<-h.2];simp
    ·cases h
   ·split at h
    ·simp only [Xa,Xb] at h;rw [<-h.2];simp
    ·cases h
   ·cases h
  rw [hA t ht]
  exact h
 ·cases h
theorem ZlW {a y:AVal} {ts:List Nat} (h:Zai σ a=some (y,ts)) (hA:Agree σ σ2 ts):Zai σ2 a=some (y,ts):=by
 unfold Zai at h ⊢
 split at h
 case h_2 =>
  split at h
  ·rename_i he
   simp only [Xa,Xb] at h
   obtain ⟨rfl,rfl⟩:=h
   rw [ZeW he hA]
  ·cases h
 all_goals exact h
theorem Zma:∀ {cs ys:List AVal} {ts:List Nat},Zal σ cs=some (ys,ts)->Agree σ σ2 ts->Zal σ2 cs=some (ys,ts)
 | [],ys,ts,h,_=>h
 | c::cs,ys,ts,h,hA=>by
  simp only [Zal] at h ⊢
  split at h
  ·rename_i h1
   split at h
   ·rename_i h2
    simp only [Xa,Xb] at h
    obtain ⟨rfl,rfl⟩:=h
    rw [ZlW h1 hA.left]
    simp only
    rw [Zma h2 hA.right]
   ·cases h
  ·cases h
theorem ZrT {a y:AVal} {ts:List Nat} (h:Zar σ a=some (y,ts)) (hA:Agree σ σ2 ts):Zar σ2 a=some (y,ts):=by
 unfold Zar at h ⊢
 split at h
 ·split at h
  ·rename_i h1
   simp only [Xa,Xb] at h
   obtain ⟨rfl,rfl⟩:=h
   rw [Zma h1 hA]
  ·cases h
 ·exact ZlW h hA
theorem Zjv:∀ {cs ys:List AVal} {ts:List Nat},viewAs σ cs=some (ys,ts)->Agree σ σ2 ts->viewAs σ2 cs=some (ys,ts)
 | [],ys,ts,h,_=>h
 | c::cs,ys,ts,h,hA=>by
  simp only [viewAs] at h ⊢
  split at h
  ·rename_i h1
   split at h
   ·rename_i h2
    simp only [Xa,Xb] at h
    obtain ⟨rfl,rfl⟩:=h
    rw [ZrT h1 hA.left]
    simp only
    rw [Zjv h2 hA.right]
   ·cases h
  ·cases h
theorem ZnA {a y:AVal} {ts:List Nat} (h:ZcV σ a=some (y,ts)) (hA:Agree σ σ2 ts):ZcV σ2 a=some (y,ts):=by
 unfold ZcV at h ⊢
 split at h
 case h_2 =>
  split at h
  ·rename_i he
   simp only [Xa,Xb] at h
   obtain ⟨rfl,rfl⟩:=h
   rw [ZeW he hA]
  ·cases h
 all_goals exact h
theorem ZmW:∀ {cs ys:List AVal} {ts:List Nat},Zcw σ cs=some (ys,ts)->Agree σ σ2 ts->Zcw σ2 cs=some (ys,ts)
 | [],ys,ts,h,_=>h
 | c::cs,ys,ts,h,hA=>by
  simp only [Zcw] at h ⊢
  split at h
  ·rename_i h1
   split at h
   ·rename_i h2
    simp only [Xa,Xb] at h
    obtain ⟨rfl,rfl⟩:=h
    rw [ZnA h1 hA.left]
    simp only
    rw [ZmW h2 hA.right]
   ·cases h
  ·cases h
theorem Zyp {a y:AVal} {ts:List Nat} (h:showA σ a=some (y,ts)) (hA:Agree σ σ2 ts):showA σ2 a=some (y,ts):=by
 unfold showA at h ⊢
 split at h
 ·split at h
  ·rename_i h1
   simp only [Xa,Xb] at h
   obtain ⟨rfl,rfl⟩:=h
   rw [ZmW h1 hA]
  ·cases h
 ·exact ZnA h hA
theorem Zir:∀ {cs ys:List AVal} {ts:List Nat},showAs σ cs=some (ys,ts)->Agree σ σ2 ts->showAs σ2 cs=some (ys,ts)
 | [],ys,ts,h,_=>h
 | c::cs,ys,ts,h,hA=>by
  simp only [showAs] at h ⊢
  split at h
  ·rename_i h1
   split at h
   ·rename_i h2
    simp only [Xa,Xb] at h
    obtain ⟨rfl,rfl⟩:=h
    rw [Zyp h1 hA.left]
    simp only
    rw [Zir h2 hA.right]
   ·cases h
  ·cases h
def Zay (σ:Za) (s:Nat):Option ZV->Za
 | none=>σ
 | some b=>σ.set s b
def ZdC (σ:Za) (ts:List Nat):Prop:=∀ t ∈ ts,∃ x,σ[t]?=some x/\x≠.free
theorem Rowy.nonfree {ts:List Nat} (h:Rowy σ ts):ZdC σ ts:=by
 intro t ht
 obtain ⟨g,k,xs,h | h⟩:=h t ht
 ·exact ⟨_,h,by simp⟩
 ·exact ⟨_,h,by simp⟩
theorem ZcX:ZdC σ []:=fun t ht=>by simp at ht
theorem ZiT {t:Nat} {x:ZV} (h:σ[t]?=some x) (hx:x≠.free):ZdC σ [t]:=fun t' ht=>by
 simp at ht;subst ht;exact ⟨x,h,hx⟩
def Framed (f:Za->Option (AVal×Za×Cls)) (σ:Za) (sq ns:Nat) (v:AVal) (σ':Za) (c:Cls):Prop :=
 ∃ ob,σ'=Zay σ sq ob/\(ob.isSome=true->ns≠0)/\ob≠some .free/\ZdC σ c.rd/\∀ σ2,Agree σ σ2 c.rd->f σ2=some (v,Zay σ2 sq ob,c)
theorem Framed.pure {f:Za->Option (AVal×Za×Cls)} {v:AVal} {c:Cls} {ns:Nat} (hr:c.rd=[]) (hf:∀ σ2,f σ2=some (v,σ2,c)):Framed f σ sq ns v σ c :=
 ⟨none,rfl,by simp,by simp,by rw [hr];exact ZcX,fun σ2 _=>hf σ2⟩
theorem ZuG {kc:Nat} {z:AVal} {ok:Bool} {m k v:AVal} {c:Cls} {ns:Nat} (h:Zdp σ kc z ok m k=some (v,σ',c)):Framed (fun σ=>Zdp σ kc z ok m k) σ sq ns v σ' c:=by
 unfold Zdp at h
 split at h
 case isFalse=>cases h
 rename_i hk
 split at h
 ·simp only [Xa,Xb] at h
  obtain ⟨rfl,rfl,rfl⟩:=h
  exact Framed.pure rfl fun σ2=>by simp only [Zdp];rw [if_pos hk]
 ·rename_i t
  split at h
  ·rename_i es hs
   have hnf:ZdC σ [t]:=fun u hu=>by rw [XZ] at hu;subst hu;exact ⟨_,hs,by simp⟩
   split at h
   ·rename_i j y hf
    simp only [Xa,Xb] at h
    obtain ⟨rfl,rfl,rfl⟩:=h
    refine ⟨none,rfl,by simp,by simp,hnf,fun σ2 hA=>?_⟩
    have e2:σ2[t]?=some (.map es):=by rw [hA t (by simp)];exact hs
    simp only [Zdp,e2,hf,Zay]
    rw [if_pos hk]
   ·rename_i hf
    simp only [Xa,Xb] at h
    obtain ⟨rfl,rfl,rfl⟩:=h
    refine ⟨none,rfl,by simp,by simp,hnf,fun σ2 hA=>?_⟩
    have e2:σ2[t]?=some (.map es):=by rw [hA t (by simp)];exact hs
    simp only [Zdp,e2,hf,Zay]
    rw [if_pos hk]
   ·cases h
  ·rename_i es hs
   have hnf:ZdC σ [t]:=fun u hu=>by rw [XZ] at hu;subst hu;exact ⟨_,hs,by simp⟩
   split at h
   ·rename_i j y hf
    simp only [Xa,Xb] at h
    obtain ⟨rfl,rfl,rfl⟩:=h
    refine ⟨none,rfl,by simp,by simp,hnf,fun σ2 hA=>?_⟩
    have e2:σ2[t]?=some (.rmap es):=by rw [hA t (by simp)];exact hs
    simp only [Zdp,e2,hf,Zay]
    rw [if_pos hk]
   ·rename_i hf
    simp only [Xa,Xb] at h
    obtain ⟨rfl,rfl,rfl⟩:=h
    refine ⟨none,rfl,by simp,by simp,hnf,fun σ2 hA=>?_⟩
    have e2:σ2[t]?=some (.rmap es):=by rw [hA t (by simp)];exact hs
    simp only [Zdp,e2,hf,Zay]
    rw [if_pos hk]
   ·cases h
  ·cases h
 ·cases h
theorem ZyS {m v:AVal} {c:Cls} {ns:Nat} (h:ZeL σ m=some (v,σ',c)):Framed (fun σ=>ZeL σ m) σ sq ns v σ' c:=by
 unfold ZeL at h
 split at h
 ·simp only [Xa,Xb] at h
  obtain ⟨rfl,rfl,rfl⟩:=h
  exact Framed.pure rfl fun σ2=>rfl
 ·rename_i t
  split at h
  ·rename_i es hs
   simp only [Xa,Xb] at h
   obtain ⟨rfl,rfl,rfl⟩:=h
   refine ⟨none,rfl,by simp,by simp,fun u hu=>by rw [XZ] at hu;subst hu;exact ⟨_,hs,by simp⟩,fun σ2 hA=>?_⟩
   have e2:σ2[t]?=some (.map es):=by rw [hA t (by simp)];exact hs
   simp only [ZeL,e2,Zay]
  ·rename_i es hs
   simp only [Xa,Xb] at h
   obtain ⟨rfl,rfl,rfl⟩:=h
   refine ⟨none,rfl,by simp,by simp,fun u hu=>by rw [XZ] at hu;subst hu;exact ⟨_,hs,by simp⟩,fun σ2 hA=>?_⟩
   have e2:σ2[t]?=some (.rmap es):=by rw [hA t (by simp)];exact hs
   simp only [ZeL,e2,Zay]
  ·cases h
 ·cases h
theorem Zo3 {k:Option Nat} {a v:AVal} {c:Cls} {ns:Nat} (h:ldA σ k a=some (v,σ',c)):Framed (fun σ=>ldA σ k a) σ sq ns v σ' c:=by
 have h0:=h
 unfold ldA at h
 have fin:∀ t,σ'=σ->c.rd=[t]->(∃ x,σ[t]?=some x/\x≠.free)->(∀ σ2:Za,σ2[t]?=σ[t]?->ldA σ2 k a=(ldA σ k a).map fun p=>(p.1,σ2,p.2.2))->Framed (fun σ=>ldA σ k a) σ sq ns v σ' c:=by
  intro t e1 e2 ⟨x,hx,hne⟩ hf
  subst e1
  refine ⟨none,rfl,by simp,by simp,by rw [e2];exact ZiT hx hne,fun σ2 hA=>?_⟩
  rw [e2] at hA
  simp only
  rw [hf σ2 (hA t (by simp)),h0]
  rfl
 split at h
 ·rename_i t o
  split at h
  ·rename_i cs hs
   split at h
   ·rename_i v' hp
    simp only [Xa,Xb] at h
    obtain ⟨rfl,rfl,rfl⟩:=h
    exact fin t rfl rfl ⟨_,hs,by simp⟩ (fun σ2 h2=>by simp only [ldA,h2,hs,hp,XU])
   ·cases h
  ·cases h
 ·rename_i t g i o
  split at h
  ·rename_i g' kk xs hs
   split at h
   ·rename_i e
    split at h
    ·rename_i x hx
     split at h
     ·rename_i v' hp
      simp only [Xa,Xb] at h
      obtain ⟨rfl,rfl,rfl⟩:=h
      exact fin t rfl rfl ⟨_,hs,by simp⟩ (fun σ2 h2=>by simp only [ldA,h2,hs,e,if_true,hx,hp,XU])
     ·cases h
    ·cases h
   ·cases h
  ·rename_i g' kk xs hs
   split at h
   ·rename_i e
    split at h
    ·rename_i x hx
     split at h
     ·rename_i v' hp
      simp only [Xa,Xb] at h
      obtain ⟨rfl,rfl,rfl⟩:=h
      exact fin t rfl rfl ⟨_,hs,by simp⟩ (fun σ2 h2=>by simp only [ldA,h2,hs,e,if_true,hx,hp,XU])
     ·cases h
    ·cases h
   ·cases h
  ·rename_i g' kk xs hs
   split at h
   ·rename_i e
    split at h
    ·rename_i x hx
     split at h
     ·rename_i v' hp
      simp only [Xa,Xb] at h
      obtain ⟨rfl,rfl,rfl⟩:=h
      exact fin t rfl rfl ⟨_,hs,by simp⟩ (fun σ2 h2=>by simp only [ldA,h2,hs,e,if_true,hx,hp,XU])
     ·cases h
    ·cases h
   ·cases h
  ·cases h
 ·rename_i cs o
  split at h
  ·rename_i v' hp
   simp only [Xa,Xb] at h
   obtain ⟨rfl,rfl,rfl⟩:=h
   exact Framed.pure rfl (fun σ2=>by simp only [ldA,hp])
  ·cases h
 ·cases h
theorem ZxE {k:Nat} {x i v:AVal} {c:Cls} {ns:Nat} (h:ZaN σ k x i=some (v,σ',c)):Framed (fun σ=>ZaN σ k x i) σ sq ns v σ' c:=by
 have h0:=h
 unfold ZaN at h
 split at h
 case h_2=>cases h
 rename_i kk ii
 split at h
 case isFalse=>cases h
 rename_i hi
 split at h
 ·rename_i b xs
  split at h
  ·rename_i y hy
   split at h
   ·rename_i hk
    simp only [Xa,Xb] at h
    obtain ⟨rfl,rfl,rfl⟩:=h
    exact Framed.pure rfl (fun σ2=>by simp only [ZaN,hi,if_true,hy,hk])
   ·cases h
  ·cases h
 ·rename_i t g p n
  split at h
  case isFalse=>cases h
  rename_i hn
  have fin:σ'=σ->c.rd=[t]->(∃ x,σ[t]?=some x/\x≠.free)->Framed (fun σ=>ZaN σ k (.sl t g p n) (.int kk ii)) σ sq ns v σ' c:=by
   intro e1 e2 ⟨x,hx,hne⟩
   subst e1
   refine ⟨none,rfl,by simp,by simp,by rw [e2];exact ZiT hx hne,fun σ2 hA=>?_⟩
   rw [e2] at hA
   have h2:=hA t (by simp)
   simp only [ZaN,hi,if_true,hn] at h0 ⊢
   rw [h2]
   split at h0
   ·split at h0
    ·rename_i hc
     simp only [Xa,Xb] at h0
     obtain ⟨rfl,_,rfl⟩:=h0
     rename_i hs
     simp only [hs,hc,and_self,if_true]
     rfl
    ·cases h0
   ·split at h0
    ·rename_i hc
     simp only [Xa,Xb] at h0
     obtain ⟨rfl,_,rfl⟩:=h0
     rename_i hs
     simp only [hs,hc,and_self,if_true]
     rfl
    ·cases h0
   ·split at h0
    ·rename_i hc
     simp only [Xa,Xb] at h0
     obtain ⟨rfl,_,rfl⟩:=h0
     rename_i hs
     simp only [hs,hc,and_self,if_true]
     rfl
    ·cases h0
   ·cases h0
  split at h
  ·rename_i hs
   split at h
   ·simp only [Xa,Xb] at h
    exact fin h.2.1.symm (by rw [<-h.2.2]) ⟨_,hs,by simp⟩
   ·cases h
  ·rename_i hs
   split at h
   ·simp only [Xa,Xb] at h
    exact fin h.2.1.symm (by rw [<-h.2.2]) ⟨_,hs,by simp⟩
   ·cases h
  ·rename_i hs
   split at h
   ·simp only [Xa,Xb] at h
    exact fin h.2.1.symm (by rw [<-h.2.2]) ⟨_,hs,by simp⟩
   ·cases h
  ·cases h
 ·cases h
end
end
section
open Go.RowKit
section
variable {O:ZZ} {bf:Nat->Bool} {tm tm':Tms} {σ σ' σ2:Za} {sq:Nat}
theorem Framed.one {f:Za->Option (AVal×Za×Cls)} {v:AVal} {c:Cls} {ns t:Nat} (hr:c.rd=[t]) (hn:∃ x,σ[t]?=some x/\x≠.free) (hf:∀ σ2:Za,σ2[t]?=σ[t]?->f σ2=some (v,σ2,c)):Framed f σ sq ns v σ c:=by
 obtain ⟨x,hx,hne⟩:=hn
 exact ⟨none,rfl,by simp,by simp,by rw [hr];exact ZiT hx hne,fun σ2 hA=>hf σ2 (hA t (by rw [hr];simp))⟩
theorem ZAI {k:Nat} {x v:AVal} {lo hi mx:Option AVal} {c:Cls} {ns:Nat} (h:ZcA σ k x lo hi mx=some (v,σ',c)) (hw:c.wr=[]):Framed (fun σ=>ZcA σ k x lo hi mx) σ sq ns v σ' c:=by
 unfold ZcA at h
 split at h
 ·rename_i b xs
  split at h
  ·cases h
  rename_i m hm
  split at h
  ·cases h
  rename_i h' hh
  split at h
  ·cases h
  rename_i l hl
  split at h
  case isFalse=>cases h
  rename_i hk0
  split at h
  ·rename_i hmx
   simp only [Xa,Xb] at h
   obtain ⟨rfl,rfl,rfl⟩:=h
   exact Framed.pure rfl (fun σ2=>by simp only [ZcA,hm,hh,hl,hk0,if_true,hmx])
  ·rename_i hmx
   simp only [Xa,Xb] at h
   obtain ⟨rfl,rfl,rfl⟩:=h
   exact Framed.pure rfl (fun σ2=>by simp only [ZcA,hm,hh,hl,hk0,if_true,hmx,if_false,Xz])
 ·rename_i t g p n
  split at h
  ·cases h
  rename_i els hels
  have hnf:∃ x,σ[t]?=some x/\x≠.free:=by
   simp only [Zk] at hels
   split at hels
   ·rename_i hs;exact ⟨_,hs,by simp⟩
   ·rename_i hs;exact ⟨_,hs,by simp⟩
   ·cases hels
  have hel2:∀ σ2:Za,σ2[t]?=σ[t]?->Zk σ2 (.sl t g p n)=some els:=by
   intro σ2 h2
   rw [<-hels]
   simp only [Zk,h2]
  split at h
  ·rename_i m0
   split at h
   ·rename_i q1 hq1
    split at h
    ·rename_i q2 hq2
     split at h
     ·rename_i q3 hq3
      simp only [Xa,Xb] at h
      obtain ⟨rfl,rfl,rfl⟩:=h
      exact Framed.one rfl hnf (fun σ2 h2=>by simp only [ZcA,hel2 σ2 h2,hq1,hq2,hq3])
     ·cases h
    ·cases h
   ·rename_i hq0
    split at h
    ·rename_i q1 hq1
     split at h
     ·rename_i q2 hq2
      split at h
      ·rename_i q3 hq3
       simp only [Xa,Xb] at h
       obtain ⟨rfl,rfl,rfl⟩:=h
       exact Framed.one rfl hnf (fun σ2 h2=>by simp only [ZcA,hel2 σ2 h2,hq0,hq1,hq2,hq3])
      ·cases h
     ·cases h
    ·cases h
  ·split at h
   ·rename_i g' k' xs hs
    split at h
    case isFalse=>cases h
    rename_i hkk
    split at h
    ·cases h
    rename_i h' hh
    split at h
    ·cases h
    rename_i l hl
    simp only [Xa,Xb] at h
    obtain ⟨rfl,rfl,rfl⟩:=h
    exact Framed.one rfl hnf (fun σ2 h2=>by simp only [ZcA,hel2 σ2 h2,h2,hs,hkk,if_true,hh,hl])
   ·rename_i g' k' xs hs
    split at h
    case isFalse=>cases h
    rename_i hkk
    split at h
    ·cases h
    rename_i h' hh
    split at h
    ·cases h
    rename_i l hl
    simp only [Xa,Xb] at h
    obtain ⟨rfl,rfl,rfl⟩:=h
    exact Framed.one rfl hnf (fun σ2 h2=>by simp only [ZcA,hel2 σ2 h2,h2,hs,hkk,if_true,hh,hl])
   ·cases h
 ·cases h
theorem Ztm {k bytes:Nat} {x y v:AVal} {c:Cls} (h:Zea σ sq k bytes x y=some (v,σ',c)):c.any=true:=by
 unfold Zea at h
 repeat' (split at h)
 all_goals first
  | (cases h;done)
  | (simp only [Xa,Xb] at h;rw [<-h.2.2])
theorem Ztt {k bytes:Nat} {x y v:AVal} {c:Cls} (h:Zae σ sq k bytes x y=some (v,σ',c)) (hw:c.wr=[]) (ha:c.any=false):Framed (fun σ=>Zae σ sq k bytes x y) σ sq 1 v σ' c:=by
 unfold Zae at h
 split at h
 ·rw [Ztm h] at ha;cases ha
 rename_i ys us he
 split at h
 case isFalse=>cases h
 rename_i hk
 have hnf:=(ZhZ he).nonfree
 split at h
 ·split at h
  ·rename_i hb
   simp only [Xa,Xb] at h
   obtain ⟨rfl,rfl,rfl⟩:=h
   refine ⟨some (.row 0 k ys),rfl,by simp,by simp,hnf,fun σ2 hA=>?_⟩
   simp only [Zae,ZeW he hA,hk,if_true,hb,Zay]
  ·cases h
 ·rename_i x0 xs0
  split at h
  ·rename_i hb
   split at h
   ·simp only [Xa,Xb] at h
    obtain ⟨rfl,rfl,rfl⟩:=h
    refine ⟨none,rfl,by simp,by simp,hnf,fun σ2 hA=>?_⟩
    simp only [Zae,ZeW he hA,hk,if_true,Zay]
    rw [if_pos hb]
   ·rename_i y0 ys0
    simp only [Xa,Xb] at h
    obtain ⟨rfl,rfl,rfl⟩:=h
    refine ⟨some (.row 0 k ((x0::xs0)++(y0::ys0))),rfl,by simp,by simp,hnf,fun σ2 hA=>?_⟩
    simp only [Zae,ZeW he hA,hk,if_true,Zay]
    rw [if_pos hb]
  ·cases h
 ·split at h
  ·split at h
   ·split at h
    ·simp only [Xa,Xb] at h
     rw [<-h.2.2] at hw;simp at hw
    ·split at h
     ·simp only [Xa,Xb] at h
      rw [<-h.2.2] at hw;simp at hw
     ·cases h
   ·cases h
  ·cases h
 ·cases h
theorem Zm0 {σ:Za} {vs:List AVal} (h:Zf σ 1000 (ZX vs) []=[]):ZX vs=[]:=by
 cases e:ZX vs with
 | nil=>rfl
 | cons t r =>
  rw [e] at h
  simp only [Zf,List.contains_nil,Xz,if_false,List.nil_append] at h
  obtain ⟨_,r',hr⟩:=ZfO (σ:=σ) 999 (Zp (σ.getD t .free)++r) [t] (by simp)
  rw [hr] at h
  simp at h
theorem Zk8 {f own:Nat} {view:Bool} {args:List AVal} {v:AVal} {c:Cls} {ns:Nat} (hns:own=1->ns≠0) (h:Z7 O bf σ sq f own view args=some (v,σ',c)) (hw:c.wr=[]) (ha:c.any=false):Framed (fun σ=>Z7 O bf σ sq f own view args) σ sq ns v σ' c:=by
 unfold Z7 at h
 split at h
 ·cases h
 rename_i xs ts hs
 have hnf:ZdC σ ts:=by
  unfold Zc6 at hs
  split at hs
  ·simp only [Xa,Xb] at hs
   rw [<-hs.2];exact ZcX
  ·exact (Zh9 hs).nonfree
 have hag:∀ σ2,Agree σ σ2 ts->Zc6 (bf f) σ2 args=some (xs,ts):=by
  intro σ2 hA
  unfold Zc6 at hs ⊢
  split at hs
  ·rename_i hb;rw [if_pos hb];exact hs
  ·rename_i hb;rw [if_neg hb];exact Zir hs hA
 generalize hids:Zf (Zs σ ts) 1000 (ZX xs) []=ids at h
 unfold Zcj at h
 split at h
 case isFalse=>cases h
 generalize hq:ZaM view ids.length (O f (ZW (Zd (Zs σ ts) 0 ids) xs) (Zg (Zs σ ts) 0 ids (Zd (Zs σ ts) 0 ids) ids 0))=q at h
 cases q with
 | none=>simp only [ZaC] at h;cases h
 | some q =>
  obtain ⟨r,hp⟩:=q
  simp only [ZaC] at h
  split at h
  ·rename_i hc
   simp only [Xl,Xak] at hc
   obtain ⟨rfl,rfl⟩:=hc
   have hrl:=Zm0 hids
   have hrho:∀ σ:Za,Zd σ 0 []=fun _ _=>none:=fun σ=>by funext t g;simp [Zd,Zm]
   have hall:∀ σ2,Agree σ σ2 ts->Z7 O bf σ2 sq f own view args=ZaC σ2 (Zs σ2 ts) [] ts sq own (some (r,[])):=by
    intro σ2 hA
    unfold Z7
    rw [hag σ2 hA]
    simp only
    rw [hrl]
    have h0:Zf (Zs σ2 ts) 1000 [] []=[]:=rfl
    rw [h0]
    unfold Zcj
    simp only [Xo,if_true]
    rw [hrho]
    rw [hrho] at hq
    simp only [Zg] at hq ⊢
    rw [hq]
   split at h
   ·rename_i hf
    simp only [Xa,Xb] at h
    obtain ⟨rfl,rfl,rfl⟩:=h
    refine ⟨none,rfl,by simp,by simp,hnf,fun σ2 hA=>?_⟩
    simp only
    rw [hall σ2 hA]
    simp only [ZaC,Xay,XaD,if_true,hf,Zay]
   split at h
   ·rename_i hf hap
    simp only [Xa,Xb] at h
    obtain ⟨rfl,rfl,rfl⟩:=h
    refine ⟨none,rfl,by simp,by simp,hnf,fun σ2 hA=>?_⟩
    have hap2:Zdg σ2 ts r=true:=by
     unfold Zdg at hap ⊢
     simp only [Xl] at hap ⊢
     refine ⟨hap.1,XM.2 fun t ht=>?_⟩
     have:=XM.1 hap.2 t ht
     unfold Zfl at this ⊢
     rw [hA t ht];exact this
    simp only
    rw [hall σ2 hA]
    simp only [ZaC,Xay,XaD,if_true,hf,hap2,Zay,if_false,Xz]
   ·rename_i hf hap
    simp only [Xa,Xb] at h
    obtain ⟨rfl,rfl,rfl⟩:=h
    simp only at hw
    subst hw
    refine ⟨none,rfl,by simp,by simp,hnf,fun σ2 hA=>?_⟩
    simp only
    rw [hall σ2 hA]
    simp only [ZaC,Xay,XaD,if_true,hf,Zay,Zs,if_false,Xz,Zdg,Xay,Bool.not_true,Bool.false_and]
  ·rename_i hne
   split at h
   ·rename_i lo n k xs' hcl
    have hcl0:=hcl
    split at hcl
    case isFalse=>cases hcl
    rename_i hid
    simp only [Xak] at hid
    subst hid
    unfold Zgh at hcl
    split at hcl
    case h_2=>cases hcl
    split at hcl
    case isFalse=>cases hcl
    rename_i hcc
    simp only [Xl,decide_eq_true_eq] at hcc
    simp only [Xa,Xb] at hcl h
    obtain ⟨rfl,rfl,rfl,rfl⟩:=hcl
    obtain ⟨rfl,rfl,rfl⟩:=h
    have hrl:=Zm0 hids
    have hrho:∀ σ:Za,Zd σ 0 []=fun _ _=>none:=fun σ=>by funext t g;simp [Zd,Zm]
    refine ⟨some (.row 0 _ _),rfl,fun _=>hns hcc.1,by simp,hnf,fun σ2 hA=>?_⟩
    simp only
    unfold Z7
    rw [hag σ2 hA]
    simp only
    rw [hrl]
    have h0:Zf (Zs σ2 ts) 1000 [] []=[]:=rfl
    rw [h0]
    unfold Zcj
    simp only [Xo,if_true]
    rw [hrho]
    rw [hrho] at hq
    simp only [Zg] at hq ⊢
    rw [hq]
    simp only [ZaC]
    rw [if_neg hne,hcl0]
    rfl
   split at h
   ·simp only [Xa,Xb] at h
    rw [<-h.2.2] at ha;simp at ha
   ·cases h
theorem ZcF {x:Option AVal} {v:AVal} {c:Cls} (h:x.map (fun r=>(r,σ,({}:Cls)))=some (v,σ',c)):σ'=σ/\c={}/\x=some v:=by
 simp only [Xn,Xb] at h
 obtain ⟨a,h1,rfl,rfl,rfl⟩:=h
 exact ⟨rfl,rfl,h1⟩
theorem ZoY {ins : Ins} {v : AVal} {c : Cls} (h : execI O bf tm σ sq ins = some (v, σ', c)) (hw : c.wr = []) (ha : c.any = false) : Framed (fun σ => execI O bf tm σ sq ins) σ sq (nsite ins) v σ' c := by
  cases ins with
  | alloc zs =>
    simp only [execI, Xa, Xb] at h
    obtain ⟨rfl, rfl, rfl⟩ := h
    exact ⟨some (.var zs), rfl, by simp [nsite], by simp, ZcX, fun σ2 _ => rfl⟩
  | box x =>
    simp only [execI] at h
    split at h
    . cases h
    . cases h
    . cases h
    . rename_i hne1 hne2 hne3
      simp only [Xa, Xb] at h
      obtain ⟨rfl, rfl, rfl⟩ := h
      refine ⟨some (.var (x.ev tm).cells), rfl, by simp [nsite], by simp, ZcX, fun σ2 _ => ?_⟩
      simp only [execI, Zay]
  | mkslice k b z x y =>
    simp only [execI] at h
    split at h
    . rename_i l c' e1 e2
      split at h
      . rename_i hc
        simp only [Xa, Xb] at h
        obtain ⟨rfl, rfl, rfl⟩ := h
        refine ⟨some (.row 0 k (XO c'.toNat z)), rfl, by simp [nsite], by simp, ZcX, fun σ2 _ => ?_⟩
        simp only [execI, e1, e2, Zay]
        try rw [if_pos hc]
      . cases h
    . cases h
  | bslice own k n z ps =>
    simp only [execI] at h
    split at h
    . cases h
    rename_i ys ts hv
    split at h
    case isFalse => cases h
    rename_i hc
    split at h
    . rename_i ho
      simp only [Xa, Xb] at h
      obtain ⟨rfl, rfl, rfl⟩ := h
      simp only at hw
      subst hw
      refine ⟨some (.row 0 k (((ps.map (·.1)).zip ys).foldl (fun l p => l.set p.1 p.2) (XO n z))), rfl, by simp [nsite, ho], by simp, ZcX, fun σ2 hA => ?_⟩
      simp only [execI, Zjv hv hA, Zay, Zs]
      rw [if_pos hc, if_pos ho]
    . rename_i ho
      simp only [Xa, Xb] at h
      obtain ⟨rfl, rfl, rfl⟩ := h
      simp only at hw
      subst hw
      refine ⟨none, rfl, by simp, by simp, ZcX, fun σ2 hA => ?_⟩
      simp only [execI, Zjv hv hA, Zay, Zs]
      rw [if_pos hc, if_neg ho]
  | rslice k n z ps =>
    simp only [execI] at h
    split at h
    case isFalse => cases h
    rename_i hc
    simp only [Xa, Xb] at h
    obtain ⟨rfl, rfl, rfl⟩ := h
    refine ⟨some (.rrow 0 k ((ps.map fun p => (p.1, p.2.ev tm)).foldl (fun l p => l.set p.1 p.2) (XO n z))), rfl, by simp [nsite], by simp, ZcX, fun σ2 hA => ?_⟩
    simp only [execI, Zay]
    rw [if_pos hc]
  | rng x =>
    simp only [execI] at h
    split at h
    . rename_i l e
      simp only [Xa, Xb] at h
      obtain ⟨rfl, rfl, rfl⟩ := h
      exact ⟨some (.siter l 0), rfl, by simp [nsite], by simp, ZcX, fun σ2 _ => by simp only [execI, e, Zay]⟩
    . cases h
  | mkmap =>
    simp only [execI, Xa, Xb] at h
    obtain ⟨rfl, rfl, rfl⟩ := h
    exact ⟨some (.map []), rfl, by simp [nsite], by simp, ZcX, fun σ2 _ => rfl⟩
  | mkrow x =>
    simp only [execI] at h
    repeat' split at h
    all_goals first
      | (cases h; done)
      | (simp only [Xa, Xb] at h
         obtain ⟨_, _, rfl⟩ := h
         cases ha)
  | mkbook x =>
    simp only [execI] at h
    split at h
    . rename_i e
      simp only [Xa, Xb] at h
      obtain ⟨rfl, rfl, rfl⟩ := h
      exact ⟨some (.book 0 []), rfl, by simp [nsite], by simp, ZcX, fun σ2 _ => by simp only [execI, e, Zay]⟩
    . cases h
  | look kc z ok m k => simp only [execI] at h ⊢; exact ZuG h
  | mlen m => simp only [execI] at h ⊢; exact ZyS h
  | mkgmap k =>
    simp only [execI] at h
    split at h
    case isFalse => cases h
    rename_i hk
    simp only [Xa, Xb] at h
    obtain ⟨rfl, rfl, rfl⟩ := h
    exact ⟨some (.gmap k []), rfl, by simp [nsite], by simp, ZcX, fun σ2 _ => by simp only [execI]; rw [if_pos hk]; rfl⟩
  | glook kc z m k =>
    simp only [execI] at h
    unfold Zcy at h
    repeat' (split at h)
    all_goals first
      | (cases h; done)
      | (simp only [Xa, Xb] at h; rw [<- h.2.2] at hw; cases hw)
  | mset kc m k v =>
    simp only [execI] at h
    unfold Zc0 at h
    repeat' (split at h)
    all_goals first
      | (cases h; done)
      | (simp only [Xa, Xb] at h; rw [<- h.2.2] at hw; cases hw)
  | mdel kc m k =>
    simp only [execI] at h ⊢
    unfold ZeZ at h
    split at h
    case isFalse => cases h
    rename_i hk
    split at h
    . rename_i e
      simp only [Xa, Xb] at h; obtain ⟨rfl, rfl, rfl⟩ := h
      refine Framed.pure rfl fun σ2 => ?_
      simp only [ZeZ, e]
      rw [if_pos hk]
    . repeat' (split at h)
      all_goals first
        | (cases h; done)
        | (simp only [Xa, Xb] at h; rw [<- h.2.2] at hw; cases hw)
    . cases h
  | clr k z x =>
    simp only [execI] at h
    unfold ZB at h
    repeat' (split at h)
    all_goals first
      | (cases h; done)
      | (simp only [Xa, Xb] at h; rw [<- h.2.2] at hw; cases hw)
  | nxt x =>
    simp only [execI] at h
    repeat' (split at h)
    all_goals first
      | (cases h; done)
      | (simp only [Xa, Xb] at h; rw [<- h.2.2] at ha; cases ha)
  | ld k a => simp only [execI] at h ⊢; exact Zo3 h
  | st k a x =>
    simp only [execI] at h
    unfold stA at h
    split at h
    . split at h
      . split at h
        . split at h
          . simp only [Xa, Xb] at h; rw [<- h.2.2] at hw; simp at hw
          . cases h
        . cases h
      . split at h
        . split at h
          . split at h
            . split at h
              . split at h
                . cases h
                . split at h
                  . simp only [Xa, Xb] at h; rw [<- h.2.2] at hw; simp at hw
                  . cases h
              . cases h
            . cases h
          . cases h
        . split at h
          . split at h
            . split at h
              . simp only [Xa, Xb] at h; rw [<- h.2.2] at hw; simp at hw
              . cases h
            . cases h
          . cases h
        . cases h
      . cases h
    . cases h
  | slice k x lo hi mx => simp only [execI] at h ⊢; exact ZAI h hw
  | iaddr k x i => simp only [execI] at h ⊢; exact ZxE h
  | app k b z x y => simp only [execI] at h ⊢; exact Ztt h hw ha
  | b2s x =>
    simp only [execI] at h
    split at h
    . rename_i xs ts he
      split at h
      . rename_i l hl
        simp only [Xa, Xb] at h
        obtain ⟨rfl, rfl, rfl⟩ := h
        refine ⟨none, rfl, by simp, by simp, (ZhZ he).nonfree, fun σ2 hA => ?_⟩
        simp only [execI, ZeW he hA, hl, Zay]
      . cases h
    . cases h
  | s2s x =>
    simp only [execI] at h
    split at h
    . split at h
      . split at h
        . simp only [Xa, Xb] at h; rw [<- h.2.2] at hw; simp at hw
        . cases h
      . cases h
    . cases h
  | call f own vw xs => simp only [execI] at h ⊢; exact Zk8 (fun ho => by simp [nsite, ho]) h hw ha
  | callv x xs =>
    simp only [execI] at h
    split at h
    . rename_i f caps e
      have := Zk8 (ns := nsite (.callv x xs)) (fun ho => absurd ho (by decide)) h hw ha
      have he : (fun σ => execI O bf tm σ sq (.callv x xs)) = fun σ => Z7 O bf σ sq (if f < 1000000 then f else f - 1000000) 4 false (if f < 1000000 then xs.map (·.ev tm) ++ caps else caps ++ xs.map (·.ev tm)) := by funext σ; simp only [execI, e]
      rw [he]; exact this
    . cases h
  | mki t x =>
    simp only [execI] at h
    split at h
    . cases h
    . cases h
    . cases h
    . simp only [Xa, Xb] at h; obtain ⟨rfl, rfl, rfl⟩ := h; exact Framed.pure rfl (fun σ2 => by simp only [execI])
  | panic x =>
    simp only [execI] at h
    split at h
    . rename_i e; simp only [Xa, Xb] at h; obtain ⟨rfl, rfl, rfl⟩ := h; exact Framed.pure rfl (fun σ2 => by simp only [execI, e])
    . cases h
  | eqv neg ks x y =>
    simp only [execI] at h
    split at h
    . rename_i e1 e2
      split at h
      . rename_i e4
        split at h
        . rename_i e3; simp only [Xa, Xb] at h; obtain ⟨rfl, rfl, rfl⟩ := h; exact Framed.pure rfl (fun σ2 => by simp only [execI, e1, e2, e3, e4, if_true])
        . cases h
      . cases h
    . cases h
  | ieq neg x y =>
    simp only [execI] at h
    split at h
    . rename_i e1 e2; simp only [Xa, Xb] at h; obtain ⟨rfl, rfl, rfl⟩ := h; exact Framed.pure rfl (fun σ2 => by simp only [execI, e1, e2])
    . rename_i e1 e2; simp only [Xa, Xb] at h; obtain ⟨rfl, rfl, rfl⟩ := h; exact Framed.pure rfl (fun σ2 => by simp only [execI, e1, e2])
    . rename_i e1 e2; simp only [Xa, Xb] at h; obtain ⟨rfl, rfl, rfl⟩ := h; exact Framed.pure rfl (fun σ2 => by simp only [execI, e1, e2])
    . cases h
  | mov x => simp only [execI, Xa, Xb] at h; obtain ⟨rfl, rfl, rfl⟩ := h; exact Framed.pure rfl (fun σ2 => rfl)
  | mkfn f xs => simp only [execI, Xa, Xb] at h; obtain ⟨rfl, rfl, rfl⟩ := h; exact Framed.pure rfl (fun σ2 => rfl)
  | bin op x y =>
    simp only [execI] at h
    obtain ⟨rfl, rfl, hx⟩ := ZcF h
    exact Framed.pure rfl (fun σ2 => by simp only [execI, hx, XU])
  | un op x =>
    simp only [execI] at h
    obtain ⟨rfl, rfl, hx⟩ := ZcF h
    exact Framed.pure rfl (fun σ2 => by simp only [execI, hx, XU])
  | faddr off x =>
    simp only [execI] at h
    obtain ⟨rfl, rfl, hx⟩ := ZcF h
    exact Framed.pure rfl (fun σ2 => by simp only [execI, hx, XU])
  | pick a b d =>
    simp only [execI] at h
    unfold Zeu at h
    split at h
    . rename_i e; simp only [Xa, Xb] at h; obtain ⟨rfl, rfl, rfl⟩ := h; exact Framed.pure rfl (fun σ2 => by simp only [execI, Zeu, e])
    . rename_i e; simp only [Xa, Xb] at h; obtain ⟨rfl, rfl, rfl⟩ := h; exact Framed.pure rfl (fun σ2 => by simp only [execI, Zeu, e])
    . cases h
  | build zs ps =>
    simp only [execI] at h
    split at h
    . rename_i cs hf
      simp only [Xa, Xb] at h; obtain ⟨rfl, rfl, rfl⟩ := h
      exact Framed.pure rfl (fun σ2 => by simp only [execI, hf])
    . cases h
  | i2i k x =>
    simp only [execI] at h
    split at h
    . rename_i e; simp only [Xa, Xb] at h; obtain ⟨rfl, rfl, rfl⟩ := h; exact Framed.pure rfl (fun σ2 => by simp only [execI, e])
    . cases h
  | i2s x =>
    simp only [execI] at h
    split at h
    . rename_i e; simp only [Xa, Xb] at h; obtain ⟨rfl, rfl, rfl⟩ := h; exact Framed.pure rfl (fun σ2 => by simp only [execI, e])
    . cases h
  | same x =>
    simp only [execI] at h
    split at h
    . rename_i e; simp only [Xa, Xb] at h; obtain ⟨rfl, rfl, rfl⟩ := h; exact Framed.pure rfl (fun σ2 => by simp only [execI, e])
    . cases h
  | s2b x =>
    simp only [execI] at h
    split at h
    . rename_i e; simp only [Xa, Xb] at h; obtain ⟨rfl, rfl, rfl⟩ := h; exact Framed.pure rfl (fun σ2 => by simp only [execI, e])
    . cases h
  | sslice x lo hi =>
    simp only [execI] at h
    split at h
    . rename_i s e
      split at h
      . cases h
      rename_i h1 hh
      split at h
      . cases h
      rename_i l hl
      simp only [Xa, Xb] at h; obtain ⟨rfl, rfl, rfl⟩ := h
      exact Framed.pure rfl (fun σ2 => by simp only [execI, e, hh, hl])
    . cases h
  | field k off x =>
    simp only [execI] at h
    split at h
    . rename_i cs e
      obtain ⟨rfl, rfl, hx⟩ := ZcF h
      exact Framed.pure rfl (fun σ2 => by simp only [execI, e, hx, XU])
    . cases h
  | aaddr k n x i =>
    simp only [execI] at h
    split at h
    . rename_i e
      split at h
      . rename_i hc
        obtain ⟨rfl, rfl, hx⟩ := ZcF h
        exact Framed.pure rfl (fun σ2 => by simp only [execI, e]; rw [if_pos hc, hx]; rfl)
      . cases h
    . cases h
  | sindex x i =>
    simp only [execI] at h
    split at h
    . rename_i e1 e2
      split at h
      . rename_i hc
        simp only [Xn, Xb] at h
        obtain ⟨b, hb, rfl, rfl, rfl⟩ := h
        exact Framed.pure rfl (fun σ2 => by simp only [execI, e1, e2]; rw [if_pos hc, hb]; rfl)
      . cases h
    . cases h
  | aindex s k n x i =>
    simp only [execI] at h
    split at h
    . rename_i e1 e2
      split at h
      . rename_i hc
        obtain ⟨rfl, rfl, hx⟩ := ZcF h
        exact Framed.pure rfl (fun σ2 => by simp only [execI, e1, e2]; rw [if_pos hc, hx]; rfl)
      . cases h
    . cases h
  | ext x i =>
    simp only [execI] at h
    split at h
    . rename_i e
      obtain ⟨rfl, rfl, hx⟩ := ZcF h
      exact Framed.pure rfl (fun σ2 => by simp only [execI, e, hx, XU])
    . cases h
  | len x =>
    simp only [execI] at h
    split at h
    . rename_i e; simp only [Xa, Xb] at h; obtain ⟨rfl, rfl, rfl⟩ := h; exact Framed.pure rfl (fun σ2 => by simp only [execI, e])
    . rename_i e; simp only [Xa, Xb] at h; obtain ⟨rfl, rfl, rfl⟩ := h; exact Framed.pure rfl (fun σ2 => by simp only [execI, e])
    . cases h
  | slen x =>
    simp only [execI] at h
    split at h
    . rename_i e; simp only [Xa, Xb] at h; obtain ⟨rfl, rfl, rfl⟩ := h; exact Framed.pure rfl (fun σ2 => by simp only [execI, e])
    . cases h
  | mm m xs =>
    simp only [execI] at h
    split at h
    . rename_i e; simp only [Xa, Xb] at h; obtain ⟨rfl, rfl, rfl⟩ := h; exact Framed.pure rfl (fun σ2 => by simp only [execI, e])
    . cases h
  | nilchk x =>
    simp only [execI] at h
    split at h
    . rename_i e; simp only [Xa, Xb] at h; obtain ⟨rfl, rfl, rfl⟩ := h; exact Framed.pure rfl (fun σ2 => by simp only [execI, e])
    . rename_i e; simp only [Xa, Xb] at h; obtain ⟨rfl, rfl, rfl⟩ := h; exact Framed.pure rfl (fun σ2 => by simp only [execI, e])
    . rename_i e; simp only [Xa, Xb] at h; obtain ⟨rfl, rfl, rfl⟩ := h; exact Framed.pure rfl (fun σ2 => by simp only [execI, e])
    . cases h
  | beq neg x y =>
    simp only [execI] at h
    split at h
    . rename_i e1 e2; simp only [Xa, Xb] at h; obtain ⟨rfl, rfl, rfl⟩ := h; exact Framed.pure rfl (fun σ2 => by simp only [execI, e1, e2])
    . cases h
  | peq neg x y =>
    simp only [execI] at h
    split at h
    . rename_i e1 e2; simp only [Xa, Xb] at h; obtain ⟨rfl, rfl, rfl⟩ := h; exact Framed.pure rfl (fun σ2 => by simp only [execI, e1, e2])
    . rename_i e1 e2; simp only [Xa, Xb] at h; obtain ⟨rfl, rfl, rfl⟩ := h; exact Framed.pure rfl (fun σ2 => by simp only [execI, e1, e2])
    . rename_i e1 e2; simp only [Xa, Xb] at h; obtain ⟨rfl, rfl, rfl⟩ := h; exact Framed.pure rfl (fun σ2 => by simp only [execI, e1, e2])
    . cases h
theorem Zrl {ins:Ins} {v:AVal} {c:Cls} (ht:ins.touches=false) (h:execI O bf tm σ sq ins=some (v,σ',c)):c={}/\nsite ins=0:=by
 cases ins <;> simp [Ins.touches] at ht <;> refine ⟨?_,rfl⟩ <;> simp only [execI] at h
 case mov x=>simp only [Xa,Xb] at h;exact h.2.2.symm
 case mkfn f xs=>simp only [Xa,Xb] at h;exact h.2.2.symm
 case bin op x y=>exact (ZcF h).2.1
 case un op x=>exact (ZcF h).2.1
 case faddr off x=>exact (ZcF h).2.1
 case pick c x y =>
  unfold Zeu at h
  split at h
  ·simp only [Xa,Xb] at h;exact h.2.2.symm
  ·simp only [Xa,Xb] at h;exact h.2.2.symm
  ·cases h
 all_goals
  repeat' (split at h)
  all_goals first
   | (cases h;done)
   | (simp only [Xa,Xb] at h;exact h.2.2.symm)
   | exact (ZcF h).2.1
   | (simp only [Xn,Xb] at h;obtain ⟨_,_,_,_,h⟩:=h;exact h.symm)
theorem Zzb {ins:Ins} {v:AVal} {c:Cls} (ht:ins.touches=false) (h:execI O bf tm σ sq ins=some (v,σ',c)):σ'=σ:=by
 cases ins <;> simp [Ins.touches] at ht <;> simp only [execI] at h
 case mov x=>simp only [Xa,Xb] at h;exact h.2.1.symm
 case mkfn f xs=>simp only [Xa,Xb] at h;exact h.2.1.symm
 case bin op x y=>exact (ZcF h).1
 case un op x=>exact (ZcF h).1
 case faddr off x=>exact (ZcF h).1
 case pick c x y =>
  unfold Zeu at h
  split at h
  ·simp only [Xa,Xb] at h;exact h.2.1.symm
  ·simp only [Xa,Xb] at h;exact h.2.1.symm
  ·cases h
 all_goals
  repeat' (split at h)
  all_goals first
   | (cases h;done)
   | (simp only [Xa,Xb] at h;exact h.2.1.symm)
   | exact (ZcF h).1
   | (simp only [Xn,Xb] at h;obtain ⟨_,_,_,h,_⟩:=h;exact h.symm)
end
end
end Go.Proofs.Ytfpahnkbjfimdaa
