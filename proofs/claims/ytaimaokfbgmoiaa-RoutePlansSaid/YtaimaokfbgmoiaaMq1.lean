/- packed -/
import Derived.Test.YtaimaokfbgmoiaaMq0
import Derived.Laws.StructEq
import Derived.Laws.Small
set_option linter.unusedSimpArgs false
set_option linter.unusedVariables false
open Option.some renaming injEq→Xa,inj→XaQ
open Prod.mk renaming injEq→Xb
open List renaming getElem?_eq_some_iff→Xf,getD_eq_getElem?_getD→Xn,length_cons→Xq,replicate→Xr,getElem?_set→Xv,map_cons→Xw,mem_of_getElem?→Xx,getElem?_eq_getElem→Xz,getElem?_cons_succ→XC,length_append→XE,mem_append→XG,length_map→XL,getElem?_cons_zero→XN,mem_cons→XP,map_nil→XS,mem_singleton→XU,mem_map→XV,all_eq_true→XW,getElem?_eq_none→XX,getElem?_map→XY,cons_append→X1,flatMap_cons→X5,getElem?_take→X8,length_take→X9,ext_getElem?→Wa,nodup_cons→Wc,getElem?_eq_none_iff→Wd,mem_or_eq_of_mem_set→We,take_succ_cons→Wh,take_of_length_le→Wk,map_append→Wl,zip_cons_cons→Wn,eq_of_mem_replicate→Wu,map_map→Wy,mem_flatMap→WB,mem_cons_of_mem→WE,nodup_append→WJ,filterMap_cons→WP,getElem?_append→WT,map_congr_left→WZ,range→W1,mem_of_mem_take→W4,set_cons_zero→W7,set_cons_succ→W8,length_eq_zero_iff→Xar,mem_filterMap→Xax,take_take→XaB,getElem?_zip_eq_some→XaC,mem_of_mem_eraseIdx→XaE,isEmpty_iff→XaL,drop_drop→XaM,set_set→Xa1,sublist_cons_self→Xa8,map_set→Xa9,getElem?_inj→Xbr
open Bool renaming and_eq_true→Xt,false_eq_true→Xu,not_eq_true'→WH
open Option renaming map_eq_some_iff→XB,map_some→X4,bind_some→Wq,getD_none→XaJ
open Or renaming inl→XH,inr→XO
open Nat renaming zero_add→XK,le_refl→X0,add_zero→Wm,mul_le_mul_right→Ww,add_mul→Wz,add_assoc→W2,add_comm→W6,min_eq_left→Xak,lt_or_ge→Xa0,mul_le_mul_left→Xbj
open Array renaming getElem?_eq_some_iff→XQ,length_toList→X7,getElem?_toList→Wp,getElem?_setIfInBounds_ne→Wv,getElem?_setIfInBounds_self_of_lt→WI,getElem?_modify→WM,toList_push→Xad,range→Xan,ext'→Xbz
open ByteArray renaming size→Xaa
open List.cons renaming injEq→XaF
open List.Sublist renaming refl→XaT
open Sum renaming inr→XbG
namespace Go.Proofs.Ytaimaokfbgmoiaa
set_option maxHeartbeats 16000000
set_option maxRecDepth 10000
section
open Go.RowKit
section
variable {P:Program} {base:Nat->Prop} {w0 w w':World} {I0 I I':Imm} {β β':Bmap} {σ σ':Za} {tm:Tms}
theorem Znm {a:Act} (T:TR I β tm a.tmps):∀ {parts:List (Nat×Operand)} {ps:List (Nat×Opd)},Zf2 parts=some ps ->
  (parts.map fun (i,x)=>(i,a.eval x))=(ps.map (·.1)).zip (parts.map fun p=>a.eval p.2)/\VRs I β (ps.map fun p=>p.2.ev tm) (parts.map fun p=>a.eval p.2)/\ps.length=parts.length
 | [],ps,h=>by simp only [Zf2,Xa] at h;subst h;exact ⟨rfl,by simp [VRs],rfl⟩
 | (i,x)::r,ps,h=>by
  simp only [Zf2] at h
  split at h
  ·rename_i y ps' hy hps
   injection h with h;subst h
   obtain ⟨h1,h2,h3⟩:=Znm T hps
   refine ⟨by simp [h1],?_,by simp [h3]⟩
   simp only [Xw,VRs]
   exact ⟨_,_,rfl,Zah T hy,h2⟩
  ·cases h
theorem ZhL {t:TypeId} {k bytes:Nat} {z:AVal} (h:Zei P t=some (k,bytes,z)):∃ e i v,P.underlying t=some (.slice e)/\P.info? e=some i/\i.size=k/\i.bytes=bytes/\i.zero=some v/\Zgh v=some z/\0 < k/\0 < bytes/\z.cells.length=k:=by
 unfold Zei at h
 split at h
 ·rename_i e hu
  split at h
  ·rename_i i z' hi hz
   split at h
   ·rename_i hc
    simp only [Xa,Xb] at h
    obtain ⟨rfl,rfl,rfl⟩:=h
    unfold ZdK at hz
    rw [hi] at hz
    simp only at hz
    split at hz
    ·rename_i v hv
     exact ⟨e,i,v,hu,hi,rfl,rfl,hv,hz,hc.1,hc.2.1,hc.2.2⟩
    ·cases hz
   ·cases h
  ·cases h
 ·cases h
theorem ZDj {k:Nat} {xs:List AVal} {us:Array Value} (hk:∀ x ∈ xs,x.cells.length=k) (hv:VRs I β (xs.flatMap AVal.cells) us.toList) (hI:I.le (I.add w.heap.size us)):LR (I.add w.heap.size us) β k xs w.heap.size 0 :=
 Zht hk (VRs.mono hI (Bmap.le.refl β) _ _ hv) (fun j u hu=>by simp only [Imm.add,XK,if_true];simpa using hu)
theorem ZDE {a:Act} (T:TR I β tm a.tmps) (R:Rel base w0 I0 I β σ w) (hb:KLt base w0) {t:TypeId} {n:Nat} {parts:Array (Nat×Operand)} {k bytes:Nat} {z:AVal} {own:Bool} {ps:List (Nat×Opd)} (he:Zei P t=some (k,bytes,z)) (hn:n*k<=16777216) (hps:Zf2 parts.toList=some ps)
  {sq:Nat} (hs:own=true->σ[sq]?=some .free) {O:Z7} {pure':Nat->Bool} {r:AVal} {c:Cls} (h:execI O pure' tm σ sq (.bslice own k n z ps)=some (r,σ',c)) :
  ∃ u w',(Instr.buildSlice t n (parts.map fun (i,x)=>(i,a.eval x))).run P w=.ok u w'/\Post base w0 I0 I β r σ' u w':=by
 obtain ⟨e,i,v,hu,hi,hik,hib,hv,hz,hk,hby,hzl⟩:=ZhL he
 obtain ⟨hz1,hz2⟩:=Ze0 (I:=I) (β:=β) hz
 simp only [execI] at h
 split at h
 ·cases h
 rename_i ys ts hview
 split at h
 case isFalse=>cases h
 rename_i hc
 simp only [Xt,XW,beq_iff_eq,decide_eq_true_eq] at hc
 obtain ⟨⟨hy,hidx⟩,_⟩:=hc
 obtain ⟨c1,c2,c3⟩:=Znm (a:=a) T hps
 obtain ⟨I1,hI1,R1,hal,_,hfz,_,hoth,_⟩:=Zgd ts R
 obtain ⟨v1,v2⟩:=Zlv R1 (hfz (Zi9 hview)) (by rw [hal.viewAs];exact hview) (c2.mono hI1 (Bmap.le.refl β) _ _)
 have hyl:(ps.map (·.1)).length=ys.length:=by rw [Zan v1];simp [c3]
 obtain ⟨cells',g1,g2,g3,g4,g5⟩:=ZnM (I:=I1) (β:=β) (k:=k) (is:=ps.map (·.1)) (ys:=ys) (vs:=parts.toList.map fun p=>a.eval p.2) (xs:=Xr n z) (cells:=(Xan (n*k)).map (v.cells[· % v.cells.size]!)) hyl (fun y hy=>ZEO (v2 y hy)) v1 hy
  (by intro j hj;simp only [XV] at hj;obtain ⟨p,hp,rfl⟩:=hj;simpa using hidx p hp) (by intro x hx;rw [Wu hx];exact hzl) (Zjl (Ze6 hz) (hz1.mono hI1 (Bmap.le.refl β) _ _) hzl hk n)
 have hrun:(Instr.buildSlice t n (parts.map fun (i,x)=>(i,a.eval x))).run P w=.ok (.slice (some ⟨w.heap.size,0,none⟩) n n) { w with heap:=w.heap.push (.cells cells' e) }:=by
  have hpl:(parts.map fun (i,x)=>(i,a.eval x)).toList=(ps.map (·.1)).zip (parts.toList.map fun p=>a.eval p.2):=by rw [<-c1];simp
  have hle:¬16777216 < n*i.size:=by rw [hik];omega
  have hle':¬2 ^ 24 < n*k:=by omega
  by_cases hn0:n*k=0
  ·have hr0:Xan 0=#[]:=rfl
   have g1':Instr.fill (fun i=>some (i*k,k)) #[] ((ps.map (·.1)).zip (parts.toList.map fun p=>a.eval p.2))=some cells':=by
    rw [hn0,hr0] at g1;simpa using g1
   simp only [Instr.buildSlice,Sem.run_bind,run_underlying hu,Result.andThen_ok,sizeOf,typeInfo,run_program,hi,Sem.run_pure,Sem.run_ite,hik,hn0,hpl]
   simp [hr0,g1',newRow]
  ·simp only [Instr.buildSlice,Sem.run_bind,run_underlying hu,Result.andThen_ok,sizeOf,typeInfo,run_program,hi,Sem.run_pure,Sem.run_ite,hik,hn0,hpl,zeroValue,hv,if_false]
   simp [show ¬16777216 < n*k by omega,hn0,g1,newRow,hv]
 have htree:Zac (((ps.map (·.1)).zip ys).foldl (fun l p=>l.set p.1 p.2) (Xr n z))=true:=by
  have aux:∀ (l:List (Nat×AVal)) (xs:List AVal),(∀ p ∈ l,ZaQ p.2.cells=true)->Zac xs=true->Zac (l.foldl (fun l p=>l.set p.1 p.2) xs)=true:=by
   intro l
   induction l with
   | nil=>intro xs _ h;exact h
   | cons p l ih =>
    intro xs hp hx
    refine ih _ (fun q hq=>hp q (by simp [hq])) ?_
    rw [ZcS] at hx ⊢
    intro x hm
    rcases We hm with hm | rfl
    ·exact hx x hm
    ·exact hp p (by simp)
  refine aux _ _ (fun p hp=>v2 p.2 (List.of_mem_zip hp).2) ?_
  rw [ZcS];intro x hx;rw [Wu hx];exact hz2
 have hcs:cells'.size=n*k:=by rw [g5];simp
 have hn63:n<=9223372036854775807:=by
  have : n*1<=n*k:=Xbj n hk
  omega
 generalize ((ps.map (·.1)).zip ys).foldl (fun l p=>l.set p.1 p.2) (Xr n z)=xs at *
 have hxl:xs.length=n:=by rw [g4];simp
 split at h
 ·rename_i ho
  simp only [Xa,Xb] at h
  obtain ⟨rfl,rfl,rfl⟩:=h
  have hs1:(ZV σ ts)[sq]?=some .free:=by
   refine hoth sq _ ?_ (hs ho)
   intro hm
   obtain ⟨g,k',xs',hx | hx⟩:=Zi9 hview sq hm <;> (rw [hs ho] at hx;cases hx)
  obtain ⟨R',hle⟩:=R1.newOwn hb hs1 cells' e (.row 0 k xs) k n (XO ⟨xs,rfl,hk,hn63,by omega,htree,g3,hcs,by rw [Wk (by simp [hcs,hxl])];exact g2⟩)
  refine ⟨_,_,hrun,Post.mk hI1 hle R' ?_⟩
  rw [ZcC]
  exact ⟨_,Bmap.put_same β sq 0 _,X0 _,hn63,XH ⟨_,rfl,rfl⟩⟩
 ·simp only [Xa,Xb] at h
  obtain ⟨rfl,rfl,rfl⟩:=h
  obtain ⟨R',hI⟩:=R1.newImm hb cells' e (0,0)
  refine ⟨_,_,hrun,Post.mk (hI1.trans hI) (Bmap.le.refl β) R' ?_⟩
  simp only [VR]
  refine ⟨some ⟨w.heap.size,0,none⟩,n,by rw [hxl],by omega,hn63,fun _=>hxl.symm,?_,htree⟩
  by_cases hx0:xs=[]
  ·exact XH hx0
  ·exact XO ⟨w.heap.size,0,k,rfl,hk,ZDj g3 g2 hI⟩
theorem ZAk {a:Act} (T:TR I β tm a.tmps) (R:Rel base w0 I0 I β σ w) (hb:KLt base w0) {t:TypeId} {n:Nat} {parts:Array (Nat×Operand)} {k bytes:Nat} {z:AVal} {ps:List (Nat×Opd)} (he:Zei P t=some (k,bytes,z)) (hn:n*k<=16777216) (hps:Zf2 parts.toList=some ps)
  {sq:Nat} (hs:σ[sq]?=some .free) {O:Z7} {pure':Nat->Bool} {r:AVal} {c:Cls} (h:execI O pure' tm σ sq (.rslice k n z ps)=some (r,σ',c)) :
  ∃ u w',(Instr.buildSlice t n (parts.map fun (i,x)=>(i,a.eval x))).run P w=.ok u w'/\Post base w0 I0 I β r σ' u w':=by
 obtain ⟨e,i,v,hu,hi,hik,hib,hv,hz,hk,hby,hzl⟩:=ZhL he
 obtain ⟨hz1,hz2⟩:=Ze0 (I:=I) (β:=β) hz
 simp only [execI] at h
 split at h
 case isFalse=>cases h
 rename_i hc
 simp only [Xt,XW,beq_iff_eq,decide_eq_true_eq] at hc
 obtain ⟨⟨⟨hy0,hidx⟩,_⟩,hzok⟩:=hc
 obtain ⟨c1,c2,c3⟩:=Znm (a:=a) T hps
 have hzip:(ps.map (·.1)).zip (ps.map fun p=>p.2.ev tm)=ps.map fun p=>(p.1,p.2.ev tm):=by
  rw [List.zip_map']
 have hy:∀ y ∈ ps.map (fun p=>p.2.ev tm),y.cells.length=k:=by
  intro y hy
  obtain ⟨p,hp,rfl⟩:=XV.1 hy
  exact (hy0 p hp).1
 have hyok:∀ y ∈ ps.map (fun p=>p.2.ev tm),∀ c ∈ y.cells,Z1 c=true:=by
  intro y hy
  obtain ⟨p,hp,rfl⟩:=XV.1 hy
  exact (hy0 p hp).2
 have hntop:∀ y ∈ ps.map (fun p=>p.2.ev tm),y≠.top:=by
  intro y hy e
  have:=hyok y hy
  rw [e] at this
  have:=this .top (by simp [AVal.cells])
  cases this
 obtain ⟨cells',g1,g2,g3,g4,g5⟩:=ZnM (I:=I) (β:=β) (k:=k) (is:=ps.map (·.1)) (ys:=ps.map fun p=>p.2.ev tm) (vs:=parts.toList.map fun p=>a.eval p.2) (xs:=Xr n z) (cells:=(Xan (n*k)).map (v.cells[· % v.cells.size]!)) (by simp) hntop c2 hy
  (by intro j hj;simp only [XV] at hj;obtain ⟨p,hp,rfl⟩:=hj;simpa using hidx p hp) (by intro x hx;rw [Wu hx];exact hzl) (Zjl (Ze6 hz) hz1 hzl hk n)
 have hrun:(Instr.buildSlice t n (parts.map fun (i,x)=>(i,a.eval x))).run P w=.ok (.slice (some ⟨w.heap.size,0,none⟩) n n) { w with heap:=w.heap.push (.cells cells' e) }:=by
  have hpl:(parts.map fun (i,x)=>(i,a.eval x)).toList=(ps.map (·.1)).zip (parts.toList.map fun p=>a.eval p.2):=by rw [<-c1];simp
  have hle:¬16777216 < n*i.size:=by rw [hik];omega
  have hle':¬2 ^ 24 < n*k:=by omega
  by_cases hn0:n*k=0
  ·have hr0:Xan 0=#[]:=rfl
   have g1':Instr.fill (fun i=>some (i*k,k)) #[] ((ps.map (·.1)).zip (parts.toList.map fun p=>a.eval p.2))=some cells':=by
    rw [hn0,hr0] at g1;simpa using g1
   simp only [Instr.buildSlice,Sem.run_bind,run_underlying hu,Result.andThen_ok,sizeOf,typeInfo,run_program,hi,Sem.run_pure,Sem.run_ite,hik,hn0,hpl]
   simp [hr0,g1',newRow]
  ·simp only [Instr.buildSlice,Sem.run_bind,run_underlying hu,Result.andThen_ok,sizeOf,typeInfo,run_program,hi,Sem.run_pure,Sem.run_ite,hik,hn0,hpl,zeroValue,hv,if_false]
   simp [show ¬16777216 < n*k by omega,hn0,g1,newRow,hv]
 rw [hzip] at g2 g3 g4
 have hall:∀ x ∈ (ps.map fun p=>(p.1,p.2.ev tm)).foldl (fun l p=>l.set p.1 p.2) (Xr n z),∀ c ∈ x.cells,Z1 c=true:=by
  have aux:∀ (l:List (Nat×AVal)) (xs:List AVal),(∀ p ∈ l,∀ c ∈ p.2.cells,Z1 c=true)->(∀ x ∈ xs,∀ c ∈ x.cells,Z1 c=true)->∀ x ∈ l.foldl (fun l p=>l.set p.1 p.2) xs,∀ c ∈ x.cells,Z1 c=true:=by
   intro l
   induction l with
   | nil=>intro xs _ h;exact h
   | cons p l ih =>
    intro xs hp hx
    refine ih _ (fun q hq=>hp q (by simp [hq])) ?_
    intro x hm
    rcases We hm with hm | rfl
    ·exact hx x hm
    ·exact hp p (by simp)
  refine aux _ _ (fun p hp=>?_) (fun x hx=>by rw [Wu hx];exact hzok)
  obtain ⟨q,hq,rfl⟩:=XV.1 hp
  exact (hy0 q hq).2
 have hcs:cells'.size=n*k:=by rw [g5];simp
 have hn63:n<=9223372036854775807:=by
  have : n*1<=n*k:=Xbj n hk
  omega
 generalize (ps.map fun p=>(p.1,p.2.ev tm)).foldl (fun l p=>l.set p.1 p.2) (Xr n z)=xs at *
 have hxl:xs.length=n:=by rw [g4];simp
 simp only [Xa,Xb] at h
 obtain ⟨rfl,rfl,rfl⟩:=h
 obtain ⟨R',hle⟩:=R.newObj hb hs (.cells cells' e) (.rrow 0 k xs) k n (by simp [Zw,Bmap.put_same]) rfl (by simp)
  ⟨_,Bmap.put_same β sq 0 _,rfl,hk,hn63,by simp only [hxl];exact X0 _,fun x hx=>⟨g3 x hx,hall x hx⟩,w.heap.size,cells',e,rfl,by simp,hcs,by rw [Wk (by simp [hcs,hxl])];exact VRs.mono (Imm.le.refl I) (Bmap.put_le (R.free sq 0 hs)) _ _ g2⟩
 refine ⟨_,_,hrun,Post.mk (Imm.le.refl I) hle R' ?_⟩
 rw [ZcC]
 exact ⟨_,Bmap.put_same β sq 0 _,X0 _,hn63,XH ⟨_,rfl,rfl⟩⟩
theorem ZDF (R:Rel base w0 I0 I β σ w) {t ty:TypeId} {k bytes:Nat} {z:AVal} (he:Zei P t=some (k,bytes,z)) {x r:AVal} {v:Value} (hx:VR I β x v) {c:Cls} (h:ZI σ k z x=some (r,σ',c)) :
  ∃ u w',(Builtin.clear_ #[t] ty #[v]).run P w=.ok u w'/\Post base w0 I0 I β r σ' u w':=by
 obtain ⟨e,i,vz,hu,hi,hik,hib,hvz,hz,hk,hby,hzl⟩:=ZhL he
 obtain ⟨hz1,hz2⟩:=Ze0 (I:=I) (β:=β) hz
 unfold ZI at h
 split at h
 case h_2=>cases h
 rename_i t' g lo n
 split at h
 case h_2=>cases h
 rename_i g' k' xs hs
 split at h
 case isFalse=>cases h
 rename_i hc
 obtain ⟨rfl,rfl,hle,_⟩:=hc
 simp only [Xa,Xb] at h
 obtain ⟨rfl,rfl,rfl⟩:=h
 have Zhl:VR I β (.tup []) (.tuple #[]):=by simp [VR,VRs]
 by_cases hn:n=0
 ·subst hn
  have hsame:σ.set t' (.row g' k' (xs.take lo++Xr 0 z++xs.drop (lo+0)))=σ:=by
   have : xs.take lo++Xr 0 z++xs.drop (lo+0)=xs:=by simp
   rw [this]
   apply Wa
   intro j
   rw [Xv]
   split
   ·rename_i e;subst e
    split
    ·exact hs.symm
    ·rename_i hlt;rw [XX (by omega)]
   ·rfl
  rw [hsame]
  refine ⟨.tuple #[],w,?_,Post.here R Zhl⟩
  simp only [VR] at hx
  obtain ⟨bi,_,_,_,hv⟩:=hx
  rcases hv with ⟨b,_,rfl⟩ | ⟨_,_,A,rfl⟩ | ⟨_,_,_,A,rfl⟩
  ·simp [Builtin.clear_,run_underlying hu]
  ·cases A <;> simp [Builtin.clear_,run_underlying hu]
  ·cases A <;> simp [Builtin.clear_,run_underlying hu]
 ·obtain ⟨bi,e1,e2,e3,e4,e5,e6,e7,e8⟩:=R.blk _ _ hs
  subst e2
  simp only [VR] at hx
  obtain ⟨bi',f1,f2,f3,f4⟩:=hx
  rw [e1] at f1
  injection f1 with f1
  subst f1
  have hown:∀ b,Zw w β t' (.row g' bi.k xs) b↔bi.b=some b:=by simp [Zw,e1]
  rcases e8 with ⟨_,hz0⟩ | ⟨b,us,ty0,hbb,e8,e9,e10⟩
  ·omega
  have hv0:v=.slice (some ⟨b,lo*bi.k,none⟩) n (bi.cap - lo):=by
   rcases f4 with ⟨b',eb,rfl⟩ | ⟨_,hz0,_⟩ | ⟨_,_,hn0,_⟩
   ·rw [hbb] at eb;injection eb with eb;subst eb;rfl
   ·omega
   ·exact absurd hn0 hn
  subst hv0
  have hrep:=Zjl (I:=I) (β:=β) (Ze6 hz) hz1 hzl hk n
  have hvl:=Zgl (Ze6 hz) hz1
  have hzc:Builtin.zeroCells vz.cells n=(Xan (n*bi.k)).map (vz.cells[· % vz.cells.size]!):=by
   unfold Builtin.zeroCells
   rw [hvl,hzl]
  have hlen:((Xan (n*bi.k)).map (vz.cells[· % vz.cells.size]!)).toList.length=n*bi.k:=by simp
  have hone:∀ v ∈ ((Xan (n*bi.k)).map (vz.cells[· % vz.cells.size]!)).toList,v.oneCell'=true:=ZgB (fun y hy=>by
   obtain ⟨q,hq,hy⟩:=WB.1 hy
   rw [Wu hq] at hy
   exact Zjh (Zdq.1 hz2 y hy)) hrep
  have hmul:(lo+n)*bi.k<=us.size:=by rw [e9];exact Ww _ f2
  have hmul2:(lo+n)*bi.k<=xs.length*bi.k:=Ww _ hle
  rw [Wz] at hmul hmul2
  have hst:=run_storeCells_at (P:=P) b (lo*bi.k) ty0 _ 0 us w e8 (by rw [hlen];omega) hone
  simp only [Wm] at hst
  refine ⟨.tuple #[],_,?_,Post.here (R.write hs (b:=b) (by rw [hown,hbb]) (us.toList.take (lo*bi.k)++((Xan (n*bi.k)).map (vz.cells[· % vz.cells.size]!)).toList++us.toList.drop (lo*bi.k+((Xan (n*bi.k)).map (vz.cells[· % vz.cells.size]!)).toList.length)).toArray (by simp [Zw,e1,hbb]) ?_ rfl) Zhl⟩
  ·obtain ⟨m,rfl⟩:∃ m,n=m+1:=⟨n - 1,by omega⟩
   simp only [Builtin.clear_,zeroValue,typeInfo,hi,hvz,hzc,run_underlying hu,Sem.run_bind,Sem.run_pure,Result.andThen_ok,List.getElem?_toArray,XN,run_program]
   rw [hst]
   rfl
  ·have hxl:(xs.take lo++Xr n z++xs.drop (lo+n)).length=xs.length:=by simp;omega
   refine ⟨bi,e1,rfl,e3,e4,by rw [hxl];exact e5,?_,?_,XO ⟨b,_,ty0,hbb,setRow_heap w b us _ ty0 (0,0) e8,?_,?_⟩⟩
   ·exact ZgH (ZgH (Zhu e6 lo) (by rw [ZcS];intro x hx;rw [Wu hx];exact hz2)) (Zh7 e6 _)
   ·intro q hq
    simp only [XG] at hq
    rcases hq with (hq | hq) | hq
    ·exact e7 q (W4 hq)
    ·rw [Wu hq];exact hzl
    ·exact e7 q (List.mem_of_mem_drop hq)
   ·simp only [List.size_toArray,XE,X9,List.length_drop,X7,hlen]
    rw [<-e9];omega
   ·rw [hxl,ZfJ,ZfJ,<-Zg4 e7,<-Zhq e7]
    have h1:=Zeu e10 (lo*bi.k)
    have h2:=ZdY e10 ((lo+n)*bi.k)
    have:=Zcu (Zcu h1 hrep) h2
    refine cast ?_ this
    congr 1
    rw [XaB,Xak (by omega),List.drop_take]
    rw [Wz]
    apply Wa
    intro j
    simp only [WT,X8,List.getElem?_drop,XE,X9,X7,hlen]
    repeat' split
    all_goals first | rfl | omega | (congr 1;omega) | (exfalso;omega) | skip
    all_goals (first | (symm;rw [Wd];simp;omega) | (rw [Wd];simp;omega))
theorem ZDW (R:Rel base w0 I0 I β σ w) (hb:KLt base w0) {t:TypeId} (ht:P.underlying t=some .string) {l:List UInt8} {sq:Nat} (hs:σ[sq]?=some .free) :
  ∃ u w',(Instr.range t (.string ⟨l.toArray⟩)).run P w=.ok u w'/\Post base w0 I0 I β (.ref sq 0) (σ.set sq (.siter l 0)) u w':=by
 obtain ⟨R',hle⟩:=R.newObj hb hs (.stringIter ⟨l.toArray⟩ 0) (.siter l 0) 1 1 (by simp [Zw,Bmap.put_same]) rfl (by simp)
  ⟨_,_,_,Bmap.put_same β sq 0 _,by simp⟩
 refine ⟨.pointer (some ⟨w.heap.size,0,none⟩),_,?_,Post.mk (Imm.le.refl I) hle R' ?_⟩
 ·simp [Instr.range,run_underlying ht]
 ·simp only [VR]
  exact ⟨_,_,_,Bmap.put_same β sq 0 _,rfl⟩
theorem ZES (R:Rel base w0 I0 I β σ w) {t:Nat} {l:List UInt8} {p:Nat} (hs:σ[t]?=some (.siter l p)) {v:Value} (hv:VR I β (.ref t 0) v) (ty:TypeId) :
  ∃ u w',(Instr.next v true ty).run P w=.ok u w'/\(if p < l.length then Post base w0 I0 I β (.tup [.bool true,.int .i64 p,.int .i32 (Zgi l p).1]) (σ.set t (.siter l (p+(Zgi l p).2))) u w' else Post base w0 I0 I β (.tup [.bool false]) σ u w'):=by
 simp only [VR] at hv
 obtain ⟨b,k,c,hb,rfl⟩:=hv
 obtain ⟨b',k',c',e1,e2⟩:=R.blk _ _ hs
 rw [hb] at e1
 simp only [Xa,BI.mk.injEq] at e1
 obtain ⟨rfl,rfl,rfl⟩:=e1
 have hg:(getObj b).run P w=.ok (.stringIter ⟨l.toArray⟩ p) w:=by simp [getObj,Sem.run,e2]
 have hsz:(ByteArray.mk l.toArray).size=l.length:=by simp [Xaa]
 have hlt:b < w.heap.size:=(XQ.1 e2).1
 by_cases hp:p < l.length
 ·have hso:∀ o,(setObj b o).run P w=.ok () { w with heap:=w.heap.setIfInBounds b o }:=by intro o;simp [setObj,Sem.run,e2]
  refine ⟨.tuple #[.bool true,goInt p,.int .i32 (Zgi l p).1],{ w with heap:=w.heap.setIfInBounds b (.stringIter ⟨l.toArray⟩ (p+(Zgi l p).2)) },?_,?_⟩
  ·simp [Instr.next,hg,hsz,hp,hso,Zgi]
  ·rw [if_pos hp]
   refine Post.here (R.putObj hs (by simp [Zw,hb]) _ (by simp [Zw,hb]) ⟨b,k,c,hb,?_⟩ rfl) ?_
   ·rw [WI hlt]
   ·simp [VR,VRs,goInt]
 ·refine ⟨.tuple #[.bool false],w,?_,?_⟩
  ·simp [Instr.next,hg,hsz,hp]
  ·rw [if_neg hp]
   refine Post.here R ?_
   simp [VR,VRs]
theorem ZEC (R:Rel base w0 I0 I β σ w) (hb:KLt base w0) {t:TypeId} {k bytes:Nat} {z:AVal} (he:Zei P t=some (k,bytes,z)) {l c:Int} (h0:0<=l) (h1:l<=c) (h2:c<=9223372036854775807) (h3:bytes*c<=140737488355328) {sq:Nat} (hs:σ[sq]?=some .free) :
  ∃ u w',(Instr.makeSlice t (.int .i64 l) (.int .i64 c)).run P w=.ok u w'/\Post base w0 I0 I β (.sl sq 0 0 l.toNat) (σ.set sq (.row 0 k (Xr c.toNat z))) u w':=by
 obtain ⟨e,i,v,hu,hi,hik,hib,hv,hz,hk,hby,hzl⟩:=ZhL he
 obtain ⟨hz1,hz2⟩:=Ze0 (I:=I) (β:=β) hz
 have wl:IntKind.i64.wrap l=l:=by rw [IntKind.wrap_i64];omega
 have wc:IntKind.i64.wrap c=c:=by rw [IntKind.wrap_i64];omega
 have hc0:¬c < 0:=by omega
 have hbc:¬(281474976710656:Int) < bytes*c:=by omega
 have hl0:¬l < 0:=by omega
 have hlc:¬c < l:=by omega
 have hvl:=Zgl (Ze6 hz) hz1
 have hrep:=Zjl (Ze6 hz) hz1 hzl hk c.toNat
 have husz:((Xan (c.toNat*k)).map (v.cells[· % v.cells.size]!)).size=c.toNat*k:=by simp
 obtain ⟨R',hle⟩:=R.newOwn hb hs ((Xan (c.toNat*k)).map (v.cells[· % v.cells.size]!)) e (.row 0 k (Xr c.toNat z)) k c.toNat (XO ⟨_,rfl,hk,by omega,by simp,by rw [ZcS];intro x hx;rw [Wu hx];exact hz2,by intro x hx;rw [Wu hx];exact hzl,husz,by rw [Wk (by simp)];exact hrep⟩)
 refine ⟨.slice (some ⟨w.heap.size,0,none⟩) l.toNat c.toNat,_,?_,Post.mk (Imm.le.refl I) hle R' ?_⟩
 ·by_cases hn0:c.toNat*k=0
  ·have hr0:Xan 0=#[]:=rfl
   simp [Instr.makeSlice,run_underlying hu,asInt,asIntOf,typeInfo,hi,hib,wl,wc,sizeOf,hik,hn0,hc0,hbc,hl0,hlc,newRow,hr0]
  ·simp [Instr.makeSlice,run_underlying hu,asInt,asIntOf,typeInfo,hi,hib,wl,wc,sizeOf,hik,hn0,hc0,hbc,hl0,hlc,newRow,zeroValue,hv]
 ·rw [ZcC]
  exact ⟨_,Bmap.put_same β sq 0 _,by simp;omega,by simp;omega,XH ⟨_,rfl,rfl⟩⟩
theorem ZAU {t e:TypeId} (hu:P.underlying t=some (.slice e)) (he:P.underlying e=some (.int .u8)) (R:Rel base w0 I0 I β σ w) {t' g k lo n:Nat} {xs:List AVal} (hs:σ[t']?=some (.row g k xs)) (hn:lo+n<=xs.length) (h0:0 < n) {v:Value} (hx:VR I β (.sl t' g lo n) v) :
  ∃ w',(convert t t v).run P w=.ok v w'/\Post base w0 I0 I β (.lst false ((xs.drop lo).take n)) (σ.set t' (.frow g k xs)) v w':=by
 have hsl:t' < σ.length:=(Xf.1 hs).1
 have hx0:=hx
 simp only [VR] at hx
 obtain ⟨bi,f1,f2,f3,f4⟩:=hx
 obtain ⟨bi',h1,h2,h3,h4,h5,h6,h7,h8⟩:=R.blk _ _ hs
 rw [f1] at h1;injection h1 with h1;subst h1
 rcases f4 with ⟨b,hbb,rfl⟩ | ⟨_,hc,_⟩ | ⟨_,_,hz,_⟩
 ·rcases h8 with ⟨h8,_⟩ | ⟨b',us,ty,eb,h8,h9,h10⟩
  ·rw [hbb] at h8;cases h8
  rw [hbb] at eb;injection eb with eb;subst eb
  have hown:Zw w β t' (.row g k xs) b:=by simp [Zw,f1,hbb]
  have ho:=R.own t' _ b hs hown
  let w':World:=w.freeze ⟨b,us.size,none⟩ 1
  have hhb:w'.heap[b]?=some (.cells us ty (us.size,us.size+1)):=by
   simp only [w',World.freeze,Nat.one_ne_zero,if_false,WM,if_true,h8,X4]
   simp
  have hho:∀ b',b'≠b->w'.heap[b']?=w.heap[b']?:=by
   intro b' hne
   simp only [w',World.freeze,Nat.one_ne_zero,if_false,WM]
   rw [if_neg (fun e=>hne e.symm)]
  have hsz:w'.heap.size=w.heap.size:=by simp [w',World.freeze]
  let I':Imm:=fun b' o=>if b'=b/\o < xs.length*k then us[o]? else I b' o
  have hle:I.le I':=by
   intro b' o u hu
   have : b'≠b:=by rintro rfl;rw [ho.2 o] at hu;cases hu
   simp only [I',this,false_and,if_false]
   exact hu
  have R':Rel base w0 I0 I' β (σ.set t' (.frow g k xs)) w':=by
   refine R.upd hle (Bmap.le.refl β) ⟨rfl,rfl,rfl,by rw [hsz];exact X0 _,fun q hq=>hho q (by rintro rfl;exact ho.1 hq)⟩ ?_ ?_ t' _ rfl hsl (fun _ _ _=>rfl) ?_ ?_ (fun b e=>by cases e) (fun g' hg=>R.gen t' _ g' hs (by simpa [Zc] using hg)) (by simp)
   ·intro b' o hb'
    have : b'≠b:=by rintro rfl;exact ho.1 hb'
    simp only [I',this,false_and,if_false]
   ·intro b' o u hu
    simp only [I'] at hu
    split at hu
    ·rename_i hc
     rw [hc.1,Ze2 hhb];exact hu
    ·have:=R.imm _ _ _ hu
     have hne:b'≠b:=by rintro rfl;rw [ho.2 o] at hu;cases hu
     rw [<-this]
     simp only [World.cell?,hho b' hne]
   ·intro t'' x b' hne hx hb'
    have hbb':b'≠b:=by rintro rfl;exact hne (R.apart t'' x t' _ b' hx hs hb' hown)
    refine ⟨hho b' hbb',fun o=>?_,by simp [Zw]⟩
    simp only [I',hbb',false_and,if_false]
    exact (R.own t'' x b' hx hb').2 o
   ·refine ⟨bi,f1,h2,h3,h4,h5,h6,XO ⟨b,hbb,?_⟩⟩
    refine Zht h7 (VRs.mono hle (Bmap.le.refl β) _ _ h10) (fun j u hu=>?_)
    rw [X8] at hu
    split at hu
    ·rename_i hj
     simp only [I',XK,true_and,hj,if_true]
     simpa using hu
    ·cases hu
  refine ⟨w',?_,Post.mk hle (Bmap.le.refl β) R' (Zq0 R' (by rw [Xv,if_pos rfl,if_pos hsl]) hn (hx0.mono hle (Bmap.le.refl β) _ _))⟩
  have hshape:w.shape? b=some (ty,us.size):=by simp [World.shape?,h8]
  simp [convert,run_underlying hu,run_underlying he,markStringish,hshape,w']
 ·omega
 ·omega
end
end
section
open Go.RowKit
section
variable {base:Nat->Prop} {w0 w w':World} {I0 I I':Imm} {β β':Bmap} {σ σ':Za} {ρ:Rho}
def ZfK (ρ:Rho) (β β':Bmap):Prop:=∀ t g t' g' bi,ρ t g=some (t',g')->β t g=some bi->β' t' g'=some bi
mutual
theorem ZfW (hρ:ZfK ρ β β'):∀ (x:AVal) (v:Value),VR I β x v->VR I β' (Zs ρ x) v
 | .top,_,h=>by simp only [Zs,VR]
 | .any,_,h=>by simpa only [Zs,VR] using h
 | .int _ _,_,h=>by simpa only [Zs,VR] using h
 | .bool _,_,h=>by simpa only [Zs,VR] using h
 | .str _,_,h=>by simpa only [Zs,VR] using h
 | .nilp,_,h=>by simpa only [Zs,VR] using h
 | .nilm,_,h=>by simpa only [Zs,VR] using h
 | .nili,_,h=>by simpa only [Zs,VR] using h
 | .pan _,_,h=>by simp only [VR] at h
 | .iface t x,_,h=>by
  simp only [Zs,VR] at h ⊢
  obtain ⟨u,h1,h2⟩:=h
  exact ⟨u,h1,ZfW hρ x u h2⟩
 | .ref t o,_,h=>by
  simp only [VR] at h
  obtain ⟨b,k,c,h1,h2⟩:=h
  simp only [Zs]
  split
  ·rename_i t' e
   simp only [VR]
   exact ⟨b,k,c,hρ _ _ _ _ _ e h1,h2⟩
  ·subst h2;simp only [VR];exact ⟨rfl,rfl⟩
 | .map t,_,h=>by
  simp only [VR] at h
  obtain ⟨b,k,c,h1,h2⟩:=h
  simp only [Zs]
  split
  ·rename_i t' e
   simp only [VR]
   exact ⟨b,k,c,hρ _ _ _ _ _ e h1,h2⟩
  ·subst h2;simp only [VR];exact ⟨rfl,rfl⟩
 | .eref t g i o,_,h=>by
  simp only [VR] at h
  obtain ⟨b,k,c,h1,h2⟩:=h
  simp only [Zs]
  split
  ·rename_i t' g' e
   simp only [VR]
   exact ⟨b,k,c,hρ _ _ _ _ _ e h1,h2⟩
  ·subst h2;simp only [VR];exact ⟨rfl,rfl⟩
 | .sl t g lo n,_,h=>by
  simp only [VR] at h
  obtain ⟨bi,h1,h2,h3,h4⟩:=h
  simp only [Zs]
  split
  ·rename_i t' g' e
   simp only [VR]
   exact ⟨bi,hρ _ _ _ _ _ e h1,h2,h3,h4⟩
  ·simp only [VR]
   rcases h4 with ⟨_,_,rfl⟩ | ⟨_,_,_,rfl⟩ | ⟨_,_,_,_,rfl⟩ <;> exact ⟨rfl,rfl⟩
 | .iptr cs o,_,h=>by
  simp only [Zs,VR] at h ⊢
  obtain ⟨b,off,h1,h2,h3⟩:=h
  exact ⟨b,off,h1,CR.of_tree h3 h2,h3⟩
 | .lst x xs,_,h=>by
  simp only [Zs,VR] at h ⊢
  obtain ⟨A,cap,h1,h2,h3,h4,h5,h6⟩:=h
  refine ⟨A,cap,h1,h2,h3,h4,?_,h6⟩
  rcases h5 with h5 | ⟨b,off,k,e,hk,h5⟩
  ·exact XH h5
  ·exact XO ⟨b,off,k,e,hk,(LR.tree k xs b off h6 h5).mono (Imm.le.refl I) (ZfU β') _ _ _ _⟩
 | .agg cs,_,h=>by
  simp only [Zs,VR] at h ⊢
  obtain ⟨us,h1,h2⟩:=h
  exact ⟨us,h1,ZeN hρ cs us.toList h2⟩
 | .tup cs,_,h=>by
  simp only [Zs,VR] at h ⊢
  obtain ⟨us,h1,h2⟩:=h
  exact ⟨us,h1,ZeN hρ cs us.toList h2⟩
 | .fn f cs,_,h=>by
  simp only [Zs,VR] at h ⊢
  obtain ⟨fs,us,h1,h0,h2⟩:=h
  exact ⟨fs,us,h1,h0,ZeN hρ cs (fs.toList++us.toList) h2⟩
theorem ZeN (hρ:ZfK ρ β β'):∀ (xs:List AVal) (vs:List Value),VRs I β xs vs->VRs I β' (ZW ρ xs) vs
 | [],_,h=>by simpa only [ZW,VRs] using h
 | x::xs,_,h=>by
  simp only [ZW,VRs] at h ⊢
  obtain ⟨v,vs',h1,h2,h3⟩:=h
  exact ⟨v,vs',h1,ZfW hρ x v h2,ZeN hρ xs vs' h3⟩
end
theorem ZeH:∀ (xs:List AVal),ZW ρ xs=xs.map (Zs ρ)
 | []=>rfl
 | x::xs=>by simp only [ZW,Xw,ZeH xs]
def Zd9:Zq->Bool
 | .var _ | .map _ | .siter _ _ | .opq | .book _ _ | .rmap _ | .gmap _ _=>true
 | _=>false
theorem Zzo (x:AVal):(Zs ρ x).cells=x.cells.map (Zs ρ):=by
 cases x with
 | agg cs=>simp only [Zs,AVal.cells,ZeH]
 | ref t o =>
  show (Zs ρ (.ref t o)).cells=[Zs ρ (.ref t o)]
  simp only [Zs]
  generalize ρ t 0=q
  rcases q with _ | ⟨t',_ | g⟩ <;> rfl
 | eref t g i o =>
  show (Zs ρ (.eref t g i o)).cells=[Zs ρ (.eref t g i o)]
  simp only [Zs]
  generalize ρ t g=q
  rcases q with _ | ⟨t',g'⟩ <;> rfl
 | sl t g i o =>
  show (Zs ρ (.sl t g i o)).cells=[Zs ρ (.sl t g i o)]
  simp only [Zs]
  generalize ρ t g=q
  rcases q with _ | ⟨t',g'⟩ <;> rfl
 | map t =>
  show (Zs ρ (.map t)).cells=[Zs ρ (.map t)]
  simp only [Zs]
  generalize ρ t 0=q
  rcases q with _ | ⟨t',_ | g⟩ <;> rfl
 | _=>simp only [Zs,AVal.cells,Xw,XS]
theorem ZAo (x:AVal):x.cells.length=(Zs ρ x).cells.length/\(∀ c ∈ (Zs ρ x).cells,∃ c0 ∈ x.cells,c=Zs ρ c0):=by
 rw [Zzo]
 exact ⟨by simp,fun c hc=>by obtain ⟨c0,h0,rfl⟩:=XV.1 hc;exact ⟨c0,h0,rfl⟩⟩
theorem ZFi {c:AVal} (h:Z1 c=true):Z1 (Zs ρ c)=true:=by
 cases c <;> first
  | (simp [Z1] at h;done)
  | (simp only [Zs];rfl)
  | (simp only [Zs];split <;> rfl)
theorem ZxM:∀ (xs:List AVal),(ZW ρ xs).flatMap AVal.cells=ZW ρ (xs.flatMap AVal.cells)
 | []=>rfl
 | x::xs=>by
  rw [ZW,X5,X5,ZxM xs,ZeH,ZeH,Wl]
  rw [Zzo]
theorem ZyG {w:World} {kb:Nat} {es:List (AVal×(List AVal ⊕ AVal))}:Za0 w kb (es.map fun p=>(p.1,p.2.map id (Zs ρ)))=Za0 w kb es:=by
 unfold Za0
 congr 1
 generalize Zdz w kb=l
 induction es generalizing l with
 | nil=>rfl
 | cons x es ih =>
  cases l with
  | nil=>rfl
  | cons e l =>
   obtain ⟨x1,q⟩:=x
   simp only [Xw,Wn,WP,ih]
   cases q <;> rfl
theorem ZEK (hρ:ZfK ρ β β') {k kb:Nat} {es:List (AVal×(List AVal ⊕ AVal))} (h:GmapW I β w k kb es):GmapW I β' w k kb (es.map fun p=>(p.1,p.2.map id (Zs ρ))):=by
 obtain ⟨h0,h1,arr,clk,h2,h3,h4,h5,h6⟩:=h
 refine ⟨by rw [ZyG];exact h0,h1,arr,clk,h2,?_,?_,h5,?_⟩
 ·rw [Wy]
  refine VRs.of_cells (β:=β) ?_ h3
  intro x hx
  obtain ⟨p,hp,rfl⟩:=XV.1 hx
  have:=h4 p hp
  show ZaQ p.1.cells=true
  generalize p.1=q at this ⊢
  cases q <;> simp [Zcw] at this <;> rfl
 ·intro p hp
  obtain ⟨q,hq,rfl⟩:=XV.1 hp
  exact h4 q hq
 ·intro i p e hp he
  rw [XY,XB] at hp
  obtain ⟨⟨x,q⟩,hq,rfl⟩:=hp
  have:=h6 i _ e hq he
  cases q with
  | inr y=>exact ZfW hρ _ _ this
  | inl xs =>
   obtain ⟨t1,t2,vs,t3,t4⟩:=this
   exact ⟨t1,t2,vs,t3,VRs.of_cells (β:=β) (fun x hx=>by
    have:=Zdq.1 (ZrL t1) x hx
    cases x <;> simp_all [ZaT,AVal.cells,ZaQ]) t4⟩
theorem Zyz (hρ:ZfK ρ β β') {t t':Nat} {x:Zq} {g':Nat} (hg:∀ bi,β t (Zc x)=some bi->β' t' g'=some bi) (hv:Zd9 x=true->g'=0) (h:BR I β w t x):BR I β' w t' (Zg ρ g' x):=by
 cases x with
 | free=>trivial
 | map es =>
  obtain ⟨b,k,c,arr,clk,h1,h2,h3,h4,h5,h6⟩:=h
  have e:=hv rfl
  subst e
  refine ⟨b,k,c,arr,clk,hg _ h1,h2,?_,?_,?_,h6⟩
  ·rw [Wy]
   refine VRs.of_cells (β:=β) ?_ h3
   intro x hx
   obtain ⟨p,hp,rfl⟩:=XV.1 hx
   have:=h5 p hp
   show ZaQ p.1.cells=true
   generalize p.1=q at this ⊢
   cases q <;> simp [Zcw] at this <;> rfl
  ·have:=ZeN hρ _ _ h4
   rw [ZeH,Wy] at this
   rw [Wy]
   exact this
  ·intro p hp
   obtain ⟨q,hq,rfl⟩:=XV.1 hp
   exact h5 q hq
 | rmap es =>
  obtain ⟨b,k,c,arr,clk,h1,h2,h3,h4,h5,h6⟩:=h
  have e:=hv rfl
  subst e
  refine ⟨b,k,c,arr,clk,hg _ h1,h2,?_,?_,?_,h6⟩
  ·rw [Wy]
   refine VRs.of_cells (β:=β) ?_ h3
   intro x hx
   obtain ⟨p,hp,rfl⟩:=XV.1 hx
   have:=h5 p hp
   show ZaQ p.1.cells=true
   generalize p.1=q at this ⊢
   cases q <;> simp [Zcw] at this <;> rfl
  ·have:=ZeN hρ _ _ h4
   rw [ZeH,Wy] at this
   rw [Wy]
   exact this
  ·intro p hp
   obtain ⟨q,hq,rfl⟩:=XV.1 hp
   exact h5 q hq
 | gmap k es =>
  obtain ⟨b,k',c,h1,h2⟩:=h
  have e:=hv rfl
  subst e
  exact ⟨b,k',c,hg _ h1,ZEK hρ h2⟩
 | opq =>
  obtain ⟨bi,h⟩:=h
  have e:=hv rfl
  subst e
  exact ⟨bi,hg _ h⟩
 | book n p =>
  obtain ⟨b,k,c,vs,h1,h3,h2⟩:=h
  have e:=hv rfl
  subst e
  have h3':=ZeN hρ _ _ h3
  rw [ZeH,Wy] at h3'
  exact ⟨b,k,c,vs,hg _ h1,by rw [Wy];exact h3',by rw [Wy];exact h2⟩
 | siter l p =>
  obtain ⟨b,k,c,h1,h2⟩:=h
  have e:=hv rfl
  subst e
  exact ⟨b,k,c,hg _ h1,h2⟩
 | rrow g k xs =>
  obtain ⟨bi,h1,h2,h3,h4,h5,h6,b,us,ty,e,h8,h9,h10⟩:=h
  refine ⟨bi,hg _ h1,h2,h3,h4,by rw [ZeH,XL];exact h5,?_,b,us,ty,e,h8,h9,?_⟩
  ·intro x hx
   rw [ZeH] at hx
   obtain ⟨y,hy,rfl⟩:=XV.1 hx
   obtain ⟨q1,q2⟩:=ZAo (ρ:=ρ) y
   refine ⟨by rw [<-q1];exact (h6 y hy).1,fun c hc=>?_⟩
   obtain ⟨c0,hc0,rfl⟩:=q2 c hc
   exact ZFi ((h6 y hy).2 c0 hc0)
  ·rw [ZxM,show (ZW ρ xs).length=xs.length by rw [ZeH,XL]]
   exact ZeN hρ _ _ h10
 | var cs =>
  obtain ⟨b,k,c,us,ty,h1,h2,h3⟩:=h
  have e:=hv rfl
  subst e
  exact ⟨b,k,c,us,ty,hg _ h1,h2,ZeN hρ _ _ h3⟩
 | row g k xs =>
  obtain ⟨bi,h1,h2,h3,h4,h5,h6,h7,h8⟩:=h
  refine ⟨bi,hg _ h1,h2,h3,h4,h5,h6,h7,?_⟩
  rcases h8 with h8 | ⟨b,us,ty,e,h8,h9,h10⟩
  ·exact XH h8
  ·refine XO ⟨b,us,ty,e,h8,h9,VRs.of_cells (β:=β) ?_ h10⟩
   intro x hx
   have:=Zdq.1 (ZrL h6) x hx
   cases x <;> simp_all [ZaT,AVal.cells,ZaQ]
 | frow g k xs =>
  obtain ⟨bi,h1,h2,h3,h4,h5,h6,h7⟩:=h
  refine ⟨bi,hg _ h1,h2,h3,h4,h5,h6,?_⟩
  rcases h7 with h7 | ⟨b,e,h7⟩
  ·exact XH h7
  ·exact XO ⟨b,e,(LR.tree _ _ _ _ h6 h7).mono (Imm.le.refl I) (ZfU β') _ _ _ _⟩
theorem ZxH {t t' g':Nat} {x:Zq} (hg:∀ bi,β t (Zc x)=some bi->β' t' g'=some bi) (hv:Zd9 x=true->g'=0) (h:BR I β w t x):Zw w β' t' (Zg ρ g' x)=Zw w β t x:=by
 cases x with
 | free=>rfl
 | opq=>rfl
 | gmap k es =>
  obtain ⟨b,k',c,h1,_⟩:=h
  have e:=hv rfl
  subst e
  have h2:=hg _ h1
  have h1':β t 0=some ⟨some b,k',c⟩:=h1
  funext b';simp [Zw,Zg,h1',h2,ZyG]
 | rmap=>rfl
 | book n p =>
  obtain ⟨b,k,c,vs,h1,_⟩:=h
  have e:=hv rfl
  subst e
  have h2:=hg _ h1
  have h1':β t 0=some ⟨some b,k,c⟩:=h1
  funext b';simp [Zw,Zg,h1',h2]
 | map es =>
  obtain ⟨b,k,c,_,_,h1,_⟩:=h
  have e:=hv rfl
  subst e
  have h2:=hg _ h1
  have h1':β t 0=some ⟨some b,k,c⟩:=h1
  funext b';simp [Zw,Zg,h1',h2]
 | siter l p =>
  obtain ⟨b,k,c,h1,_⟩:=h
  have e:=hv rfl
  subst e
  have h2:=hg _ h1
  have h1':β t 0=some ⟨some b,k,c⟩:=h1
  funext b';simp [Zw,Zg,h1',h2]
 | rrow g k xs =>
  obtain ⟨bi,h1,_⟩:=h
  have h2:=hg _ h1
  have h1':β t g=some bi:=h1
  funext b';simp [Zw,Zg,h1',h2]
 | frow=>rfl
 | var cs =>
  obtain ⟨b,k,c,us,ty,h1,_⟩:=h
  have e:=hv rfl
  subst e
  have h2:=hg _ h1
  have h1':β t 0=some ⟨some b,k,c⟩:=h1
  funext b';simp [Zw,Zg,h1',h2]
 | row g k xs =>
  obtain ⟨bi,h1,_⟩:=h
  have h2:=hg _ h1
  have h1':β t g=some bi:=h1
  funext b';simp [Zw,Zg,h1',h2]
theorem ZvP {t t' g':Nat} {x:Zq} (hg:∀ bi,β t (Zc x)=some bi->β' t' g'=some bi) (hv:Zd9 x=true->g'=0) (h:BR I β w t x) (b:Nat):Zco β' t' (Zg ρ g' x) b↔Zco β t x b:=by
 cases x with
 | rmap es =>
  obtain ⟨b,k,c,_,_,h1,_⟩:=h
  have e:=hv rfl
  subst e
  have h2:=hg _ h1
  have h1':β t 0=some ⟨some b,k,c⟩:=h1
  simp [Zco,Zg,h1',h2]
 | _=>exact Iff.rfl
theorem Zy1 {g':Nat} {x:Zq} (hv:Zd9 x=true->g'=0) (hx:okB x=true):Zc (Zg ρ g' x)=g':=by
 cases x with
 | var cs=>simp [Zg,Zc,hv rfl]
 | row=>rfl
 | frow=>rfl
 | rrow=>rfl
 | map es=>simp [Zg,Zc,hv rfl]
 | rmap es=>simp [Zg,Zc,hv rfl]
 | gmap k es=>simp [Zg,Zc,hv rfl]
 | siter l p=>simp [Zg,Zc,hv rfl]
 | opq=>simp [Zg,Zc,hv rfl]
 | book n p=>simp [Zg,Zc,hv rfl]
 | free=>simp [okB] at hx
theorem ZuS:∀ {ids:List Nat} {t i j:Nat},Zk t ids i=some j->∃ k,j=i+k/\ids[k]?=some t
 | [],t,i,j,h=>by simp [Zk] at h
 | x::xs,t,i,j,h=>by
  simp only [Zk] at h
  split at h
  ·rename_i e;injection h with h;subst h e;exact ⟨0,by simp,rfl⟩
  ·obtain ⟨k,h1,h2⟩:=ZuS h
   exact ⟨k+1,by omega,by simpa using h2⟩
theorem Zwi {m:Nat} {ids:List Nat}:∀ {ts:List Nat} {j i:Nat},(Ze σ m ids ρ ts j)[i]?=(ts[i]?).map fun t=>Zg ρ (Zl m (j+i) (σ.getD t .free)) (σ.getD t .free)
 | [],j,i=>by simp [Ze]
 | t::ts,j,0=>by simp [Ze]
 | t::ts,j,i+1=>by
  simp only [Ze,XC]
  rw [Zwi (ts:=ts) (j:=j+1) (i:=i)]
  congr 2
  funext t
  rw [show j+1+i=j+(i+1) by omega]
theorem ZiJ {m:Nat} {ids:List Nat}:∀ {ts:List Nat} {j:Nat},(Ze σ m ids ρ ts j).length=ts.length
 | [],j=>rfl
 | t::ts,j=>by simp only [Ze,Xq,ZiJ]
def Zc1 (σ:Za) (m:Nat) (ids:List Nat) (β:Bmap):Bmap:=fun j g=>match ids[j]? with
 | some t=>match σ[t]? with
  | some b=>if okB b then (if g=Zl m j b then β t (Zc b) else if j < m/\g=0 then β t 0 else none) else none
  | none=>none
 | none=>none
theorem ZrK {m:Nat} {ids:List Nat}:ZfK (Zd σ m ids) β (Zc1 σ m ids β):=by
 intro t g t' g' bi h hb
 unfold Zd at h
 split at h
 ·rename_i j hj
  obtain ⟨k,e,hk⟩:=ZuS hj
  have e':j=k:=by omega
  subst e'
  have fin:∀ b,σ[t]?=some b->okB b=true->(if g=Zc b then some (j,Zl m j b) else (none:Option (Nat×Nat)))=some (t',g')->Zc1 σ m ids β t' g'=some bi:=by
   intro b hb' hok h
   by_cases e:g=Zc b
   ·rw [if_pos e] at h
    simp only [Xa,Xb] at h
    obtain ⟨rfl,rfl⟩:=h
    unfold Zc1
    simp only [hk,hb',hok,if_true]
    rw [<-e];exact hb
   ·rw [if_neg e] at h;cases h
  split at h
  ·cases h
  ·rename_i b n1 hb'
   refine fin b hb' ?_ h
   cases b with
   | free=>exact absurd rfl n1
   | map es=>rfl
   | rmap es=>rfl
   | gmap=>rfl
   | siter=>rfl
   | opq=>rfl
   | book=>rfl
   | rrow=>rfl
   | var=>rfl
   | row=>rfl
   | frow=>rfl
  ·cases h
 ·cases h
theorem ZBP {m j:Nat} {x:Zq} (h:Zd9 x=true):Zl m j x=0:=by cases x <;> simp [Zd9] at h <;> simp [Zl,Zc]
theorem Rel.pick (R:Rel base w0 I0 I β σ w) {K':Nat->Prop} {w1:World} {I1:Imm} {m:Nat} {ids:List Nat} (hnd:ids.Nodup) (h1:KB K' w1 w) (h2:∀ b o,K' b->I b o=I1 b o) (h3:∀ t x b,t ∈ ids->σ[t]?=some x->Zw w β t x b->¬K' b) (h4:∀ t x b,t ∈ ids->σ[t]?=some x->Zco β t x b->K' b) :
  Rel K' w1 I1 I (Zc1 σ m ids β) (Ze σ m ids (Zd σ m ids) ids 0) w:=by
 have look:∀ j x',(Ze σ m ids (Zd σ m ids) ids 0)[j]?=some x'->∃ t,ids[j]?=some t/\(x'=.free/\(∀ g,Zc1 σ m ids β j g=none)\/∃ x,σ[t]?=some x/\okB x=true/\x'=Zg (Zd σ m ids) (Zl m j x) x/\Zc1 σ m ids β j (Zl m j x)=β t (Zc x)):=by
  intro j x' h
  rw [Zwi,XB] at h
  obtain ⟨t,ht,h⟩:=h
  simp only [XK] at h
  refine ⟨t,ht,?_⟩
  cases hx:σ[t]? with
  | none =>
   left
   have : σ.getD t .free=.free:=by simp [Xn,hx]
   rw [this] at h
   exact ⟨h.symm,fun g=>by simp [Zc1,ht,hx]⟩
  | some x =>
   have hd:σ.getD t .free=x:=by simp [Xn,hx]
   rw [hd] at h
   by_cases hok:okB x=true
   ·exact XO ⟨x,rfl,hok,h.symm,by simp [Zc1,ht,hx,hok]⟩
   ·left
    refine ⟨?_,fun g=>by simp [Zc1,ht,hx,hok]⟩
    rw [<-h]
    cases x <;> simp_all [okB,Zg]
 have hvar:∀ (j:Nat) (x:Zq),Zd9 x=true->Zl m j x=0:=fun j x h=>ZBP h
 have hown:∀ j x' b,(Ze σ m ids (Zd σ m ids) ids 0)[j]?=some x'->Zw w (Zc1 σ m ids β) j x' b->∃ t x,ids[j]?=some t/\σ[t]?=some x/\Zw w β t x b:=by
  intro j x' b h hb
  obtain ⟨t,ht,⟨rfl,_⟩ | ⟨x,hx,hok,rfl,hβ⟩⟩:=look j x' h
  ·cases hb
  ·rw [ZxH (fun bi h=>by rw [hβ];exact h) (hvar j x) (R.blk t x hx)] at hb
   exact ⟨t,x,ht,hx,hb⟩
 refine ⟨h1,h2,R.imm,?_,?_,?_,?_,?_,?_,R.glob,?_⟩
 ·intro j x' h
  obtain ⟨t,ht,⟨rfl,_⟩ | ⟨x,hx,hok,rfl,hβ⟩⟩:=look j x' h
  ·trivial
  ·exact Zyz ZrK (fun bi h=>by rw [hβ];exact h) (hvar j x) (R.blk t x hx)
 ·intro j x' b h hb
  obtain ⟨t,x,ht,hx,hb⟩:=hown j x' b h hb
  exact ⟨h3 t x b (Xx ht) hx hb,(R.own t x b hx hb).2⟩
 ·intro j x j' x' b h h' hb hb'
  obtain ⟨t,y,ht,hy,e⟩:=hown j x b h hb
  obtain ⟨t',y',ht',hy',e'⟩:=hown j' x' b h' hb'
  have:=R.apart t y t' y' b hy hy' e e'
  subst this
  exact (Xbr (Xf.1 ht).1 hnd).1 (ht.trans ht'.symm)
 ·intro j g h
  rw [ZiJ] at h
  unfold Zc1
  rw [XX h]
 ·intro j g h
  obtain ⟨t,ht,⟨_,h⟩ | ⟨x,hx,hok,h,hβ⟩⟩:=look j _ h
  ·exact h g
  ·cases x <;> first | (simp only [okB] at hok;cases hok;done) | (simp only [Zg] at h;cases h;done)
 ·intro j b g h hg
  obtain ⟨t,ht,⟨_,h⟩ | ⟨x,hx,hok,rfl,hβ⟩⟩:=look j _ h
  ·exact h g
  ·rw [Zy1 (hvar j x) hok] at hg
   simp only [Zc1,ht,hx,hok,if_true]
   rw [if_neg (by omega),if_neg (by omega)]
 ·intro j x' b h hb
  obtain ⟨t,ht,⟨rfl,_⟩ | ⟨x,hx,hok,rfl,hβ⟩⟩:=look j x' h
  ·cases hb
  ·exact h4 t x b (Xx ht) hx ((ZvP (fun bi h=>by rw [hβ];exact h) (hvar j x) (R.blk t x hx) b).1 hb)
theorem ZgG:∀ (n:Nat) (todo acc:List Nat),acc.Nodup->(Zf σ n todo acc).Nodup/\∃ r,Zf σ n todo acc=acc++r
 | 0,todo,acc,h=>⟨h,[],by simp [Zf]⟩
 | n+1,[],acc,h=>⟨h,[],by simp [Zf]⟩
 | n+1,t::todo,acc,h=>by
  simp only [Zf]
  split
  ·exact ZgG n todo acc h
  ·rename_i hc
   have hnd:(acc++[t]).Nodup:=by
    rw [WJ]
    refine ⟨h,by simp,?_⟩
    intro a ha b hb
    simp only [XU] at hb
    subst hb
    rintro rfl
    simp [ha] at hc
   obtain ⟨h1,r,h2⟩:=ZgG n (Zp (σ.getD t .free)++todo) (acc++[t]) hnd
   exact ⟨h1,t::r,by rw [h2];simp⟩
def KeptE (m:Nat) (β β':Bmap):Prop:=∀ t,t < m->∀ bi,β t 0=some bi->β' t 0=some bi
theorem KeptE.refl (m:Nat) (β:Bmap):KeptE m β β:=fun _ _ _ h=>h
theorem KeptE.trans {m:Nat} {a b c:Bmap} (h:KeptE m a b) (h':KeptE m b c):KeptE m a c:=fun t ht bi e=>h' t ht bi (h t ht bi e)
theorem KeptE.of_le {m:Nat} (h:β.le β'):KeptE m β β':=fun t _ bi e=>h t 0 bi e
theorem ZvM (R:Rel base w0 I0 I β σ w) (m:Nat) (roots:List AVal):∃ β',KeptE m β β'/\Rel base w0 I0 I β' (gcA m roots σ).2 w/\ZfK (Zd σ m (Zm m roots σ)) β β':=by
 obtain ⟨hnd,r,hr⟩:=ZgG (σ:=σ) 1000 (ZZ roots++(W1 m).flatMap fun t=>Zp (σ.getD t .free)) (W1 m) List.nodup_range
 have hids:Zm m roots σ=W1 m++r:=hr
 refine ⟨Zc1 σ m (Zm m roots σ) β,?_,R.pick hnd R.below R.old (fun t x b _ hx hb=>(R.own t x b hx hb).1) (fun t x b _ hx hb=>R.ro t x b hx hb),ZrK⟩
 intro t ht bi hb
 have h1:(Zm m roots σ)[t]?=some t:=by rw [hids,List.getElem?_append_left (by simpa using ht)];simp [ht]
 unfold Zc1
 simp only [h1]
 cases hx:σ[t]? with
 | none =>
  have : β t 0=none:=R.fresh t 0 (by simpa using hx)
  rw [this] at hb;cases hb
 | some x =>
  simp only
  have hok:okB x=true:=by
   cases x with
   | free=>rw [R.free t 0 hx] at hb;cases hb
   | map es=>rfl
   | rmap es=>rfl
   | gmap=>rfl
   | siter=>rfl
   | opq=>rfl
   | book=>rfl
   | rrow=>rfl
   | var=>rfl
   | row=>rfl
   | frow=>rfl
  rw [if_pos hok]
  split
  ·rename_i e
   have : Zc x=0:=by
    unfold Zl at e
    by_cases h0:Zc x=0
    ·exact h0
    ·rw [if_pos ⟨ht,h0⟩] at e;cases e
   rw [this];exact hb
  ·rw [if_pos ⟨ht,trivial⟩];exact hb
theorem Zw9:∀ (tm:Tms) (n:Nat),tget ((tm.map (·.1)).zip (ZW ρ (tm.map (·.2)))) n=Zs ρ (tget tm n)
 | [],n=>by simp [tget,Zs]
 | (d,v)::tm,n=>by
  simp only [Xw,ZW,Wn,tget]
  split
  ·rfl
  ·exact Zw9 tm n
theorem ZnN (R:Rel base w0 I0 I β σ w) {tm:Tms} {tmps:Array Value} (T:TR I β tm tmps) (m:Nat):∃ β',KeptE m β β'/\Rel base w0 I0 I β' (gcT m tm σ).2 w/\TR I β' (gcT m tm σ).1 tmps:=by
 obtain ⟨β',h1,h2,h3⟩:=ZvM R m (tm.map (·.2))
 refine ⟨β',h1,h2,fun n=>?_⟩
 show VR I β' (tget ((tm.map (·.1)).zip (ZW _ (tm.map (·.2)))) n) _
 rw [Zw9]
 exact ZfW h3 _ _ (T n)
def Ends (r:AVal) (e:Ending) (u:Value):Prop:=match r with
 | .pan _=>e=.panicked [{ v:=u,recovered:=false }]
 | _=>e=.returned u
def ZaN:AVal->AVal
 | .pan x=>x
 | x=>x
def Zbo (m:Nat) (base:Nat->Prop) (w0:World) (I0 I:Imm) (β:Bmap) (r:AVal) (σ':Za) (u:Value) (w':World):Prop :=
 ∃ I' β',I.le I'/\KeptE m β β'/\Rel base w0 I0 I' β' σ' w'/\VR I' β' (ZaN r) u
theorem Ends.ren {r:AVal} {e:Ending} {u:Value} (h:Ends r e u):Ends (Zs ρ r) e u:=by
 cases r <;> first
  | exact h
  | (simp only [Zs];split <;> exact h)
theorem ZfR {r:AVal} (h:∀ x,r≠.pan x):ZaN r=r:=by
 cases r <;> first | rfl | exact absurd rfl (h _)
theorem ZB4 {r:AVal} (h:∀ x,r≠.pan x):∀ x,Zs ρ r≠.pan x:=by
 intro x
 cases r <;> first
  | (intro e;simp only [Zs] at e;cases e;done)
  | exact absurd rfl (h _)
  | (simp only [Zs];split <;> simp)
theorem ZpO (r:AVal):ZaN (Zs ρ r)=Zs ρ (ZaN r)\/∃ x,r=.pan x:=by
 by_cases h:∃ x,r=.pan x
 ·exact XO h
 ·have h':∀ x,r≠.pan x:=fun x e=>h ⟨x,e⟩
  exact XH (by rw [ZfR (ZB4 h'),ZfR h'])
theorem Zhp {m:Nat} {r r':AVal} {u:Value} (h:Zbo m base w0 I0 I β r σ u w) (he:Zay m σ r=some (r',σ')):Zbo m base w0 I0 I β r' σ' u w/\∀ e,Ends r e u->Ends r' e u:=by
 obtain ⟨I1,β1,h1,h2,h3,h4⟩:=h
 obtain ⟨β2,g1,g2,g3⟩:=ZvM h3 m [r]
 unfold Zay gcA at he
 simp only [ZW,Xa,Xb] at he
 obtain ⟨rfl,rfl⟩:=he
 refine ⟨⟨I1,β2,h1,h2.trans g1,g2,?_⟩,fun e he=>he.ren⟩
 have:=ZfW g3 _ _ h4
 rcases ZpO (ρ:=Zd σ m (Zm m [r] σ)) r with e | ⟨x,rfl⟩
 ·rw [e];exact this
 ·exact this
theorem ZAh {m:Nat} {r r':AVal} {h h':Za} {u:Value} (hp:Zbo m base w0 I0 I β r h u w) (he:ZcO m (some (r,h))=some (r',h')):Zbo m base w0 I0 I β r' h' u w/\∀ e,Ends r e u->Ends r' e u:=by
 by_cases hpan:∃ x,r=.pan x
 ·obtain ⟨x,rfl⟩:=hpan
  simp only [ZcO,Xa,Xb] at he
  obtain ⟨rfl,rfl⟩:=he
  exact ⟨hp,fun _ h=>h⟩
 ·have hv0:ZaN r=r:=by cases r <;> first | rfl | exact absurd ⟨_,rfl⟩ hpan
  have hends:∀ e,Ends r e u->e=.returned u:=by
   intro e h
   cases r <;> first | exact h | exact absurd ⟨_,rfl⟩ hpan
  have he':(match viewR h r with
   | some (r',ts)=>match gcA m [r'] (ZV h ts) with
    | ([r''],σ')=>some (r'',σ')
    | _=>none
   | none=>none)=some (r',h'):=by
   cases r <;> first | exact he | exact absurd ⟨_,rfl⟩ hpan
  split at he'
  ·rename_i r1 ts hview
   obtain ⟨I1,β1,h1,h2,h3,h4⟩:=hp
   rw [hv0] at h4
   obtain ⟨I2,k1,k2,k3,_,k5,_,_⟩:=Zgd ts h3
   have hres:=ZwY k2 (k5 (Zvy hview)) (by rw [k3.viewR];exact hview) (h4.mono k1 (Bmap.le.refl β1) _ _)
   have hnp:∀ x,r1≠.pan x:=by rintro x rfl;simp only [VR] at hres
   have hv1:ZaN r1=r1:=by cases r1 <;> first | rfl | exact absurd rfl (hnp _)
   have ho:Zay m (ZV h ts) r1=some (r',h'):=he'
   obtain ⟨q1,q2⟩:=Zhp (⟨I2,β1,h1.trans k1,h2,k2,by rw [hv1];exact hres.mono (Imm.le.refl I2) (ZfU β1) _ _⟩:Zbo m base w0 I0 I β r1 (ZV h ts) u w) ho
   refine ⟨q1,fun e he=>q2 e ?_⟩
   rw [hends e he]
   cases r1 <;> first | rfl | exact absurd rfl (hnp _)
  ·cases he'
end
end
section
open Go.RowKit
def ZaF (P:Program) (O:Z7):Prop:=∀ f args σ r σ',O f args σ=some (r,σ') ->
 (∃ fn,P.funcs[f]?=some fn/\fn.body.isSome=true/\(fn.name == "runtime.NumGoroutine")=false) /\
 ∀ base w0 I0 I β w (vs:Array Value),KLt base w0->Rel base w0 I0 I β σ w->VRs I β args vs.toList ->
  Calls P f vs w (fun e w'=>∃ u,Ends r e u/\Zbo σ.length base w0 I0 I β r σ' u w')
section
variable {P:Program} {base:Nat->Prop} {w0 w w':World} {I0 I I':Imm} {β β':Bmap} {σ σ':Za} {tm:Tms}
theorem Zjv {a:Act} (T:TR I β tm a.tmps):∀ {xs:List Operand} {ys:List Opd},Zc7 xs=some ys->VRs I β (ys.map fun y=>y.ev tm) (xs.map a.eval)
 | [],ys,h=>by simp only [Zc7,Xa] at h;subst h;simp [VRs]
 | x::xs,ys,h=>by
  simp only [Zc7] at h
  split at h
  ·rename_i y hy
   split at h
   ·rename_i ys' hys
    injection h with h;subst h
    simp only [Xw,VRs]
    exact ⟨_,_,rfl,Zah T hy,Zjv T hys⟩
   ·cases h
  ·cases h
theorem Zie {a:Act} (T:TR I β tm a.tmps) {x:Option Operand} {y:Option Opd} (h:Zgc x=some y):OVR I β (y.map fun y=>y.ev tm) (x.map a.eval):=by
 cases x with
 | none=>simp only [Zgc,Xa] at h;subst h;rfl
 | some x =>
  simp only [Zgc,XB] at h
  obtain ⟨y',h1,rfl⟩:=h
  exact ⟨_,rfl,Zah T h1⟩
theorem Zk5 {f:FuncId} {args:Array Value} {fn:Func} (h1:P.funcs[f]?=some fn) (h2:fn.body.isSome=true) (h3:(fn.name == "runtime.NumGoroutine")=false):(callFunc f args).run P w=.ok (.enter f args) w:=by
 have h2':fn.body.isNone=false:=by cases hb:fn.body <;> simp_all
 have h3':¬fn.name = "runtime.NumGoroutine":=by simpa using h3
 have h2'':fn.body≠none:=by cases hb:fn.body <;> simp_all
 simp [callFunc,h1,h2'',h3']
section
variable {ids:List Nat} {sq:Nat} {ρ:Rho}
theorem ZhY {σ0:Za} {t:Nat}:∀ {h:Za} {j:Nat} {σ:Za},(∀ i,i < h.length->ZaY ids sq (j+i)≠t)->(Za9 σ0 ids sq h j σ)[t]?=σ[t]?
 | [],j,σ,_=>rfl
 | b::bs,j,σ,hn=>by
  simp only [Za9]
  rw [ZhY (fun i hi=>by have:=hn (i+1) (by simp;omega);rwa [show j+(i+1)=j+1+i by omega] at this),Xv,if_neg (by have:=hn 0 (by simp);simpa using this)]
theorem ZvA {σ0:Za}:∀ {h:Za} {j i:Nat} {σ:Za} {b:Zq},(∀ i i',i < h.length->i' < h.length->ZaY ids sq (j+i)=ZaY ids sq (j+i')->i=i')->h[i]?=some b->ZaY ids sq (j+i) < σ.length ->
  (Za9 σ0 ids sq h j σ)[ZaY ids sq (j+i)]?=some (Zg (Za8 σ0 ids sq) (ZbB σ0 ids (j+i) b) b)
 | [],j,i,σ,b,_,h,_=>by simp at h
 | b'::bs,j,0,σ,b,hinj,h,hlt=>by
  simp only [XN,Xa] at h
  subst h
  simp only [Za9,Wm] at hlt ⊢
  rw [ZhY,Xv,if_pos rfl,if_pos hlt]
  intro i hi e
  have:=hinj (i+1) 0 (by simp;omega) (by simp) (by rw [show j+(i+1)=j+1+i by omega];simpa using e)
  omega
 | b'::bs,j,i+1,σ,b,hinj,h,hlt=>by
  simp only [XC] at h
  simp only [Za9]
  rw [show j+(i+1)=j+1+i by omega] at hlt ⊢
  refine ZvA (fun a a' ha ha' e=>?_) h (by simpa using hlt)
  have:=hinj (a+1) (a'+1) (by simp;omega) (by simp;omega) (by rw [show j+(a+1)=j+1+a by omega,show j+(a'+1)=j+1+a' by omega];exact e)
  omega
theorem Zzk {σ0:Za}:∀ {h:Za} {j:Nat} {σ:Za},(Za9 σ0 ids sq h j σ).length=σ.length
 | [],j,σ=>rfl
 | b::bs,j,σ=>by simp only [Za9];rw [Zzk];simp
theorem Zgr {σ0:Za}:∀ {h:Za} {j i:Nat} {b:Zq},ZbI σ0 ids h j=true->h[i]?=some b->okB b=true/\(match ids[j+i]? with
  | some t=>ZeG (σ0.getD t .free) b=true/\Zc b<=1
  | none=>Zc b=0/\Zdg b=false)
 | [],j,i,b,_,h=>by simp at h
 | b'::bs,j,0,b,hok,h=>by
  simp only [XN,Xa] at h
  subst h
  simp only [ZbI,Xt] at hok
  refine ⟨hok.1.1,?_⟩
  rw [Wm]
  have:=hok.1.2
  revert this
  cases ids[j]? with
  | none=>intro h;simpa using h
  | some t=>intro h;simpa using h
 | b'::bs,j,i+1,b,hok,h=>by
  simp only [XC] at h
  simp only [ZbI,Xt] at hok
  have:=Zgr hok.2 h
  rwa [show j+1+i=j+(i+1) by omega] at this
theorem ZAt {x y:Zq} (hy:Zd9 y=true) (h:ZeG x y=true):Zc x=0:=by
 cases x <;> cases y <;> first | rfl | (simp [ZeG] at h;done) | (simp [Zd9] at hy;done)
theorem ZwA {y:Zq} (hy:Zd9 y=true):Zc y=0:=by
 cases y <;> first | rfl | (simp [Zd9] at hy;done)
theorem ZhN:∀ {n sq i:Nat},ZcJ σ sq n=true->i < n->σ[sq+i]?=some .free
 | 0,_,_,_,hi=>by omega
 | n+1,sq,0,h,_=>by
  simp only [ZcJ,Xt] at h
  have:=h.1
  unfold freeAt at this
  split at this
  ·rename_i e;simpa using e
  ·cases this
 | n+1,sq,i+1,h,hi=>by
  simp only [ZcJ,Xt] at h
  have:=ZhN (i:=i) h.2 (by omega)
  rwa [show sq+1+i=sq+(i+1) by omega] at this
theorem Zyq {t:Nat}:∀ {ids:List Nat} {i j:Nat},ids.Nodup->ids[j]?=some t->Zk t ids i=some (i+j)
 | [],i,j,_,h=>by simp at h
 | x::xs,i,0,_,h=>by
  simp only [XN,Xa] at h
  simp [Zk,h]
 | x::xs,i,j+1,hn,h=>by
  simp only [XC] at h
  rw [Wc] at hn
  have hne:x≠t:=by rintro rfl;exact hn.1 (Xx h)
  simp only [Zk,hne,if_false]
  rw [Zyq hn.2 h]
  congr 1;omega
theorem Zu0 {t:Nat}:∀ {ids:List Nat} {i:Nat},t ∉ ids->Zk t ids i=none
 | [],i,_=>rfl
 | x::xs,i,h=>by
  simp only [XP,not_or] at h
  have hne:x≠t:=fun e=>h.1 e.symm
  simp only [Zk,hne,if_false]
  exact Zu0 h.2
def Zel (σ:Za) (ids:List Nat) (sq n:Nat) (β β1:Bmap):Bmap:=fun t g=>match Zk t ids 0 with
 | some j=>if g<=Zc (σ.getD t .free) then β t g else if g=Zc (σ.getD t .free)+1 then β1 j 1 else none
 | none=>if sq<=t/\t < sq+n then (if g=0 then β1 (ids.length+(t - sq)) 0 else none) else β t g
theorem Rel.back {Ic:Imm} {βc:Bmap} {h:Za} {n:Nat} (R:Rel base w0 I0 I β σ w) (hb:KLt base w0) (hnd:ids.Nodup) (hok:ids.all (fun t=>okB (σ.getD t .free))=true)
  (Rc:Rel (fun b=>b < w.heap.size/\∀ t ∈ ids,∀ x,σ[t]?=some x->¬Zw w β t x b) w I Ic βc h w') (hI:I.le Ic) (hkept:KeptE ids.length (Zc1 σ 0 ids β) βc)
  (h1:h.length<=ids.length+n) (h2:ids.length<=h.length) (h3:ZbI σ ids h 0=true) (h4:ZcJ σ sq n=true) :
  ∃ β2,β.le β2/\Rel base w0 I0 Ic β2 (Za9 σ ids sq h 0 σ) w'/\ZfK (Za8 σ ids sq) βc β2:=by
 have hbw:=R.base_le hb
 have hblk:∀ t,t ∈ ids->∃ x,σ[t]?=some x/\okB x=true/\σ.getD t .free=x/\∃ bi,β t (Zc x)=some bi:=by
  intro t ht
  have h0:=XW.1 hok t ht
  cases hx:σ[t]? with
  | none=>simp [Xn,hx,okB] at h0
  | some x =>
   have hd:σ.getD t .free=x:=by simp [Xn,hx]
   rw [hd] at h0
   refine ⟨x,rfl,h0,hd,?_⟩
   have hB:=R.blk t x hx
   cases x with
   | free=>simp [okB] at h0
   | map es=>obtain ⟨b,k,c,_,_,e,_⟩:=hB;exact ⟨_,e⟩
   | siter l p=>obtain ⟨b,k,c,e,_⟩:=hB;exact ⟨_,e⟩
   | opq=>exact hB
   | rmap es=>obtain ⟨b,k,c,_,_,e,_⟩:=hB;exact ⟨_,e⟩
   | gmap k es=>obtain ⟨b,k',c,e,_⟩:=hB;exact ⟨_,e⟩
   | book n p=>obtain ⟨b,k,c,vs,e,_⟩:=hB;exact ⟨_,e⟩
   | rrow g k xs=>obtain ⟨bi,e,_⟩:=hB;exact ⟨_,e⟩
   | var cs=>obtain ⟨b,k,c,us,ty,e,_⟩:=hB;exact ⟨_,e⟩
   | row g k xs=>obtain ⟨bi,e,_⟩:=hB;exact ⟨_,e⟩
   | frow g k xs=>obtain ⟨bi,e,_⟩:=hB;exact ⟨_,e⟩
 have hnot:∀ i,i < n->sq+i ∉ ids:=by
  intro i hi hm
  obtain ⟨x,hx,hk,_⟩:=hblk _ hm
  rw [ZhN h4 hi] at hx
  injection hx with hx;subst hx;simp [okB] at hk
 have tgt_ids:∀ j t,ids[j]?=some t->ZaY ids sq j=t:=by intro j t ht;simp [ZaY,Xn,ht]
 have tgt_new:∀ j,ids.length<=j->ZaY ids sq j=sq+(j - ids.length):=by intro j hj;simp [ZaY,Xn,XX hj]
 have split_j:∀ j,j < h.length->(∃ t,ids[j]?=some t/\t ∈ ids/\ZaY ids sq j=t)\/(ids.length<=j/\ids[j]?=none/\j - ids.length < n/\ZaY ids sq j=sq+(j - ids.length)):=by
  intro j hj
  by_cases hlt:j < ids.length
  ·have e:ids[j]?=some ids[j]:=Xz hlt
   exact XH ⟨ids[j],e,List.getElem_mem hlt,tgt_ids _ _ e⟩
  ·exact XO ⟨by omega,XX (by omega),by omega,tgt_new j (by omega)⟩
 have inj:∀ i i',i < h.length->i' < h.length->ZaY ids sq (0+i)=ZaY ids sq (0+i')->i=i':=by
  intro i i' hi hi' e
  rw [XK,XK] at e
  rcases split_j i hi with ⟨t,a1,a2,a3⟩ | ⟨a1,_,a3,a4⟩ <;> rcases split_j i' hi' with ⟨t',b1,b2,b3⟩ | ⟨b1,_,b3,b4⟩
  ·rw [a3,b3] at e;subst e
   exact (Xbr (Xf.1 a1).1 hnd).1 (a1.trans b1.symm)
  ·rw [a3,b4] at e;subst e;exact absurd a2 (hnot _ b3)
  ·rw [a4,b3] at e;subst e;exact absurd b2 (hnot _ a3)
  ·rw [a4,b4] at e;omega
 have tlt:∀ j,j < h.length->ZaY ids sq j < σ.length:=by
  intro j hj
  rcases split_j j hj with ⟨t,a1,a2,a3⟩ | ⟨a1,_,a3,a4⟩
  ·rw [a3]
   obtain ⟨x,hx,_⟩:=hblk t a2
   exact (Xf.1 hx).1
  ·rw [a4];exact (Xf.1 (ZhN h4 a3)).1
 have look:∀ t x',(Za9 σ ids sq h 0 σ)[t]?=some x'->(∃ j b,h[j]?=some b/\t=ZaY ids sq j/\x'=Zg (Za8 σ ids sq) (ZbB σ ids j b) b)\/((∀ j,j < h.length->ZaY ids sq j≠t)/\σ[t]?=some x'):=by
  intro t x' hx
  by_cases hex:∃ j,j < h.length/\ZaY ids sq j=t
  ·obtain ⟨j,hj,rfl⟩:=hex
   have:=ZvA (σ0:=σ) (σ:=σ) (j:=0) (i:=j) inj (Xz hj) (by rw [XK];exact tlt j hj)
   rw [XK] at this
   rw [this] at hx
   injection hx with hx
   exact XH ⟨j,h[j],Xz hj,rfl,hx.symm⟩
  ·have hn:∀ j,j < h.length->ZaY ids sq j≠t:=fun j hj e=>hex ⟨j,hj,e⟩
   rw [ZhY (fun i hi=>by rw [XK];exact hn i hi)] at hx
   exact XO ⟨hn,hx⟩
 have out:∀ t,(∀ j,j < h.length->ZaY ids sq j≠t)->t ∉ ids/\∀ g,Zel σ ids sq (h.length - ids.length) β βc t g=β t g:=by
  intro t hn
  have h0:t ∉ ids:=by
   intro hm
   obtain ⟨j,hj⟩:=List.mem_iff_getElem?.1 hm
   exact hn j (by have:=(Xf.1 hj).1;omega) (tgt_ids j t hj)
  refine ⟨h0,fun g=>?_⟩
  unfold Zel
  rw [Zu0 h0]
  simp only
  rw [if_neg]
  rintro ⟨q1,q2⟩
  exact hn (ids.length+(t - sq)) (by omega) (by rw [tgt_new _ (by omega)];omega)
 have atIds:∀ j t,ids[j]?=some t->∀ g,Zel σ ids sq (h.length - ids.length) β βc t g=if g<=Zc (σ.getD t .free) then β t g else if g=Zc (σ.getD t .free)+1 then βc j 1 else none:=by
  intro j t hj g
  unfold Zel
  rw [Zyq hnd hj]
  simp only [XK]
 have atNew:∀ i,i < h.length - ids.length->∀ g,Zel σ ids sq (h.length - ids.length) β βc (sq+i) g=if g=0 then βc (ids.length+i) 0 else none:=by
  intro i hi g
  unfold Zel
  rw [Zu0 (hnot i (by omega))]
  simp only
  rw [if_pos ⟨by omega,by omega⟩,show sq+i - sq=i by omega]
 have hle:β.le (Zel σ ids sq (h.length - ids.length) β βc):=by
  intro t g bi e
  by_cases hex:∃ j,j < h.length/\ZaY ids sq j=t
  ·obtain ⟨j,hj,rfl⟩:=hex
   rcases split_j j hj with ⟨t,a1,a2,a3⟩ | ⟨a1,_,a3,a4⟩
   ·rw [a3] at e ⊢
    rw [atIds j t a1]
    obtain ⟨x,hx,_,hd,_⟩:=hblk t a2
    rw [if_pos]
    ·exact e
    ·rcases Xa0 (Zc (σ.getD t .free)) g with hlt | hge
     ·rw [hd] at hlt;rw [R.gen t x g hx hlt] at e;cases e
     ·exact hge
   ·rw [a4] at e
    rw [R.free _ g (ZhN h4 a3)] at e;cases e
  ·rw [(out t fun j hj e=>hex ⟨j,hj,e⟩).2];exact e
 have kept:∀ j t,ids[j]?=some t->∀ bi,βc j 0=some bi->β t (Zc (σ.getD t .free))=some bi:=by
  intro j t hj bi e
  obtain ⟨x,hx,hk,hd,bi0,hb0⟩:=hblk t (Xx hj)
  have hp:Zc1 σ 0 ids β j 0=some bi0:=by
   unfold Zc1
   simp only [hj,hx,hk,if_true]
   rw [if_pos (by simp [Zl])];exact hb0
  have:=hkept j (Xf.1 hj).1 bi0 hp
  rw [this] at e;injection e with e;subst e
  rw [hd];exact hb0
 have hρ:ZfK (Za8 σ ids sq) βc (Zel σ ids sq (h.length - ids.length) β βc):=by
  intro j g t' g' bi hr hbi
  have hjlt:j < h.length:=by
   rcases Xa0 j h.length with hlt | hge
   ·exact hlt
   ·rw [Rc.fresh j g hge] at hbi;cases hbi
  have hj':=Xz hjlt
  obtain ⟨k1,k2⟩:=Zgr h3 hj'
  rw [XK] at k2
  have hgen:¬Zc h[j] < g:=fun hlt=>by rw [Rc.gen j _ g hj' hlt] at hbi;cases hbi
  rcases split_j j hjlt with ⟨t,a1,a2,a3⟩ | ⟨a1,a2,a3,a4⟩
  ·simp only [Za8,a1,Xa,Xb] at hr
   obtain ⟨rfl,rfl⟩:=hr
   rw [a1] at k2
   rw [atIds j _ a1]
   have : g=0\/g=1:=by omega
   rcases this with rfl | rfl
   ·rw [if_pos (by omega)];exact kept j _ a1 bi hbi
   ·rw [if_neg (by omega),if_pos rfl];exact hbi
  ·simp only [Za8,a2,Xa,Xb] at hr
   obtain ⟨rfl,rfl⟩:=hr
   rw [a2] at k2
   have : g=0:=by have:=k2.1;omega
   subst this
   rw [atNew _ (by omega),if_pos rfl,show ids.length+(j - ids.length)=j by omega]
   exact hbi
 have hvar:∀ j b,h[j]?=some b->Zd9 b=true->ZbB σ ids j b=0:=by
  intro j b hj e
  have hjlt:=(Xf.1 hj).1
  obtain ⟨k1,k2⟩:=Zgr h3 hj
  rw [XK] at k2
  unfold ZbB
  rcases split_j j hjlt with ⟨t,a1,a2,a3⟩ | ⟨a1,a2,a3,a4⟩
  ·rw [a1] at k2 ⊢
   simp only at k2 ⊢
   obtain ⟨x,hx,hk,hd,_⟩:=hblk t a2
   rw [hd] at k2 ⊢
   rw [ZAt e k2.1,ZwA e]
  ·rw [a2];exact ZwA e
 have hβg:∀ j b,h[j]?=some b->∀ bi,βc j (Zc b)=some bi->Zel σ ids sq (h.length - ids.length) β βc (ZaY ids sq j) (ZbB σ ids j b)=some bi:=by
  intro j b hj bi e
  have hjlt:=(Xf.1 hj).1
  refine hρ j (Zc b) _ _ bi ?_ e
  rcases split_j j hjlt with ⟨t,a1,a2,a3⟩ | ⟨a1,a2,a3,a4⟩
  ·simp only [Za8,ZbB,a1,a3]
  ·simp only [Za8,ZbB,a2,a4]
 have hKK:∀ b,base b->b < w.heap.size/\∀ t ∈ ids,∀ x,σ[t]?=some x->¬Zw w β t x b:=by
  intro b hB
  exact ⟨hbw b hB,fun t _ x hx e=>(R.own t x b hx e).1 hB⟩
 have hown:∀ j b,h[j]?=some b->Zw w' (Zel σ ids sq (h.length - ids.length) β βc) (ZaY ids sq j) (Zg (Za8 σ ids sq) (ZbB σ ids j b) b)=Zw w' βc j b:=fun j b hj =>
  ZxH (hβg j b hj) (hvar j b hj) (Rc.blk j b hj)
 have oth:∀ t x b,t ∉ ids->σ[t]?=some x->Zw w β t x b->b < w.heap.size/\∀ t ∈ ids,∀ x,σ[t]?=some x->¬Zw w β t x b:=by
  intro t x b hn hx hbb
  refine ⟨(R.blk t x hx).owns_lt hbb,fun t' ht' x' hx' e=>hn ?_⟩
  rw [R.apart t x t' x' b hx hx' hbb e];exact ht'
 have cv:∀ t x b,t ∉ ids->σ[t]?=some x->Zw w' (Zel σ ids sq (h.length - ids.length) β βc) t x b->Zw w β t x b:=fun t x b hn hx=>((R.blk t x hx).owns_at hle (fun b hbb=>Rc.below.block b (oth t x b hn hx hbb)) b).1
 refine ⟨_,hle,⟨R.below.trans (Rc.below.mono hKK),fun b o hB=>(Rc.old b o (hKK b hB)).trans (R.old b o hB),Rc.imm,?_,?_,?_,?_,?_,?_,Rc.glob,?_⟩,hρ⟩
 ·intro t x' hx
  rcases look t x' hx with ⟨j,b,hj,rfl,rfl⟩ | ⟨hn,hx⟩
  ·exact Zyz hρ (hβg j b hj) (hvar j b hj) (Rc.blk j b hj)
  ·refine (R.blk t x' hx).keep hI hle (fun b hbb=>Rc.below.block b (oth t x' b (out t hn).1 hx hbb)) (fun b hs=>Rc.below.block b (hKK b (R.ro t x' b hx hs)))
 ·intro t x' b hx hbb
  rcases look t x' hx with ⟨j,b',hj,rfl,rfl⟩ | ⟨hn,hx⟩
  ·rw [hown j b' hj] at hbb
   have:=Rc.own j b' b hj hbb
   exact ⟨fun hB=>this.1 (hKK b hB),this.2⟩
  ·replace hbb:=cv t x' b (out t hn).1 hx hbb
   refine ⟨(R.own t x' b hx hbb).1,fun o=>?_⟩
   rw [Rc.old b o (oth t x' b (out t hn).1 hx hbb)]
   exact (R.own t x' b hx hbb).2 o
 ·intro t x t' x' b hx hx' hbb hbb'
  rcases look t x hx with ⟨j,c,hj,rfl,rfl⟩ | ⟨hn,hx⟩ <;> rcases look t' x' hx' with ⟨j',c',hj',rfl,rfl⟩ | ⟨hn',hx'⟩
  ·rw [hown j c hj] at hbb;rw [hown j' c' hj'] at hbb'
   rw [Rc.apart j c j' c' b hj hj' hbb hbb']
  ·rw [hown j c hj] at hbb;replace hbb':=cv t' x' b (out t' hn').1 hx' hbb'
   exact absurd (oth t' x' b (out t' hn').1 hx' hbb') (Rc.own j c b hj hbb).1
  ·rw [hown j' c' hj'] at hbb';replace hbb:=cv t x b (out t hn).1 hx hbb
   exact absurd (oth t x b (out t hn).1 hx hbb) (Rc.own j' c' b hj' hbb').1
  ·replace hbb:=cv t x b (out t hn).1 hx hbb;replace hbb':=cv t' x' b (out t' hn').1 hx' hbb'
   exact R.apart t x t' x' b hx hx' hbb hbb'
 ·intro t g ht
  rw [Zzk] at ht
  have hn:∀ j,j < h.length->ZaY ids sq j≠t:=fun j hj e=>by have:=tlt j hj;omega
  rw [(out t hn).2];exact R.fresh t g ht
 ·intro t g hx
  rcases look t _ hx with ⟨j,b,hj,rfl,e⟩ | ⟨hn,hx⟩
  ·have:=(Zgr h3 hj).1
   cases b <;> first | (simp [okB] at this;done) | (simp only [Zg] at e;cases e;done)
  ·rw [(out t hn).2];exact R.free t g hx
 ·intro t x' g hx hg
  rcases look t _ hx with ⟨j,b,hj,rfl,rfl⟩ | ⟨hn,hx⟩
  ·obtain ⟨k1,k2⟩:=Zgr h3 hj
   rw [XK] at k2
   rw [Zy1 (hvar j b hj) k1] at hg
   have hjlt:=(Xf.1 hj).1
   rcases split_j j hjlt with ⟨t,a1,a2,a3⟩ | ⟨a1,a2,a3,a4⟩
   ·rw [a3,atIds j t a1]
    simp only [ZbB,a1] at hg
    rw [if_neg (by omega)]
    split
    ·rename_i e
     exact Rc.gen j b 1 hj (by omega)
    ·rfl
   ·rw [a4,atNew _ (by omega)]
    rw [if_neg (by omega)]
  ·rw [(out t hn).2];exact R.gen t x' g hx hg
 ·intro t x' b hx hb'
  rcases look t x' hx with ⟨j,b',hj,rfl,rfl⟩ | ⟨hn,hx⟩
  ·rw [ZvP (hβg j b' hj) (hvar j b' hj) (Rc.blk j b' hj)] at hb'
   have hjlt:=(Xf.1 hj).1
   obtain ⟨k1,k2⟩:=Zgr h3 hj
   rw [XK] at k2
   cases b' with
   | rmap es =>
    rcases split_j j hjlt with ⟨t,a1,a2,a3⟩ | ⟨a1,a2,a3,a4⟩
    ·rw [a1] at k2
     simp only at k2
     obtain ⟨x,hx,hk,hd,_⟩:=hblk t a2
     obtain ⟨b2,k,c,_,_,e1,_⟩:=Rc.blk j _ hj
     have e2:=kept j t a1 _ e1
     rw [hd] at k2 e2
     cases x <;> simp [ZeG] at k2
     rename_i es'
     refine R.ro t _ b hx ?_
     simp only [Zco,e1,Wq,Xa] at hb'
     subst hb'
     have e3:β t 0=some ⟨some b2,k,c⟩:=e2
     simp [Zco,e3]
    ·rw [a2] at k2
     simp at k2
   | _=>cases hb'
  ·exact R.ro t x' b hx (((R.blk t x' hx).sees_at hle b).1 hb')
end
theorem Rel.after_flat {Ic I1:Imm} {βc:Bmap} {σc:Za} {K':Nat->Prop} (R:Rel base w0 I0 I β σ w) (hb:KLt base w0) (hK:∀ b,b < w.heap.size->K' b) (Rc:Rel K' w I1 Ic βc σc w'):Rel base w0 I0 I β σ w':=by
 have hbw:=R.base_le hb
 refine R.stay (Imm.le.refl I) (Rc.below.mono fun b h=>hK b (hbw b h)) (fun _ _ _=>rfl) (fun b o u h=>?_) (fun t x b h hb'=>⟨Rc.below.block b (hK b ((R.blk t x h).owns_lt hb')),(R.own t x b h hb').2⟩)
 have:=R.imm b o u h
 have hlt:=Zd1 this
 rw [<-this]
 simp only [World.cell?,Rc.below.block b (hK b hlt)]
theorem ZBr {I I':Imm} {β β':Bmap} {r:AVal} {u:Value} (hf:Zbg r=true) (h:VR I β (ZaN r) u):VR I' β' (ZaN r) u:=by
 by_cases hp:∃ x,r=.pan x
 ·obtain ⟨x,rfl⟩:=hp
  simp only [ZaN] at h ⊢
  cases x <;> simp only [Zbg,Zba,Za5] at hf <;> first | (cases hf;done) | skip
  case iface t x =>
   simp only [VR] at h ⊢
   obtain ⟨u',h1,h2⟩:=h
   exact ⟨u',h1,ZiI hf h2⟩
 ·have hn:∀ x,r≠.pan x:=fun x e=>hp ⟨x,e⟩
  rw [ZfR hn] at h ⊢
  exact ZEp hf h
theorem ZxE {I I':Imm} {β β':Bmap} (hI:∀ b o n,I b o=some (.int .u8 n)->I' b o=some (.int .u8 n)):∀ {xs:List AVal} {b off:Nat},xs.all ZlV=true->∀ {k:Nat},LR I β k xs b off->LR I' β' k xs b off
 | [],_,_,_,_,_=>by simp only [LR]
 | x::xs,b,off,hx,k,h=>by
  simp only [List.all_cons,Xt] at hx
  have ih:=fun (h:LR I β k xs b (off+k))=>ZxE (β':=β') hI hx.2 h
  have hx1:=hx.1
  unfold ZlV at hx1
  split at hx1
  ·simp only [LR,VR] at h ⊢
   obtain ⟨⟨h0,u,h1,h2⟩,h3⟩:=h
   subst h2
   exact ⟨⟨h0,_,hI _ _ _ h1,rfl⟩,ih h3⟩
  ·cases hx1
theorem ZxV {I I':Imm} {β β':Bmap} (hI:∀ b o n,I b o=some (.int .u8 n)->I' b o=some (.int .u8 n)) {x:AVal} {v:Value} (hf:Zil x=true) (h:VR I β x v):VR I' β' x v:=by
 unfold Zil at hf
 split at hf
 ·simp only [VR] at h ⊢
  obtain ⟨A,cap,h1,h2,h3,h4,h5,h6⟩:=h
  refine ⟨A,cap,h1,h2,h3,h4,?_,h6⟩
  rcases h5 with h5 | ⟨b,off,k,e,hk,h5⟩
  ·exact XH h5
  ·exact XO ⟨b,off,k,e,hk,ZxE hI hf h5⟩
 ·exact ZiI hf h
theorem Zv7 {I I':Imm} {β β':Bmap} (hI:∀ b o n,I b o=some (.int .u8 n)->I' b o=some (.int .u8 n)) {x:AVal} {v:Value} (hf:Zh9 x=true) (h:VR I β x v):VR I' β' x v:=by
 unfold Zh9 at hf
 split at hf
 ·rename_i cs
  simp only [VR] at h ⊢
  obtain ⟨us,rfl,h⟩:=h
  exact ⟨us,rfl,ZdF (Zan h) (fun i x v hx hv=>by
   obtain ⟨v',h1,h2⟩:=ZcF h hx
   rw [hv] at h1;injection h1 with h1;subst h1
   exact ZxV hI (XW.1 hf x (Xx hx)) h2)⟩
 ·exact ZxV hI hf h
theorem ZBU {I I':Imm} {β β':Bmap} (hI:∀ b o n,I b o=some (.int .u8 n)->I' b o=some (.int .u8 n)) {x:AVal} {v:Value} (hf:ZhS x=true) (h:VR I β x v):VR I' β' x v:=by
 unfold ZhS at hf
 split at hf
 ·rename_i cs
  simp only [VR] at h ⊢
  obtain ⟨us,rfl,h⟩:=h
  exact ⟨us,rfl,ZdF (Zan h) (fun i x v hx hv=>by
   obtain ⟨v',h1,h2⟩:=ZcF h hx
   rw [hv] at h1;injection h1 with h1;subst h1
   exact Zv7 hI (XW.1 hf x (Xx hx)) h2)⟩
 ·exact Zv7 hI hf h
theorem Rel.after_bytes {I1 Ic:Imm} {βc:Bmap} {σc:Za} {K':Nat->Prop} {r:AVal} {u:Value} (R:Rel base w0 I0 I β σ w) (hb:KLt base w0) (hK:∀ b,b < w.heap.size->K' b) (Rc:Rel K' w I1 Ic βc σc w') (h1:I.le I1) (h2:I1.le Ic)
  (hn:∀ b o n,I1 b o=some (.int .u8 n)->I b o=some (.int .u8 n)) (hf:ZhS r=true) (hv:VR Ic βc (ZaN r) u):Post base w0 I0 I β (ZaN r) σ u w':=by
 have hbw:=R.base_le hb
 let J:Imm:=fun b o=>if b < w.heap.size then I b o else Ic b o
 have hle:I.le J:=by
  intro b o u hu
  have hlt:=Zd1 (R.imm b o u hu)
  simp only [J,hlt,if_true];exact hu
 have hJ:∀ b o n,Ic b o=some (.int .u8 n)->J b o=some (.int .u8 n):=by
  intro b o n hu
  by_cases hlt:b < w.heap.size
  ·simp only [J,hlt,if_true]
   rw [Rc.old b o (hK b hlt)] at hu
   exact hn b o n hu
  ·simp only [J,hlt,if_false];exact hu
 have hval:ZaN r=r:=ZfR (fun x e=>by subst e;simp [ZhS,Zh9,Zil,Za5] at hf)
 rw [hval] at hv ⊢
 refine Post.mk hle (Bmap.le.refl β) (R.stay hle (Rc.below.mono fun b h=>hK b (hbw b h)) ?_ ?_ ?_) (ZBU hJ hf hv)
 ·intro b o hb'
  simp only [J,hbw b hb',if_true]
 ·intro b o u hu
  by_cases hlt:b < w.heap.size
  ·simp only [J,hlt,if_true] at hu
   rw [<-R.imm b o u hu]
   simp only [World.cell?,Rc.below.block b (hK b hlt)]
  ·simp only [J,hlt,if_false] at hu
   exact Rc.imm b o u hu
 ·intro t x b hx hb'
  have hlt:=(R.blk t x hx).owns_lt hb'
  refine ⟨Rc.below.block b (hK b hlt),fun o=>?_⟩
  simp only [J,hlt,if_true]
  exact (R.own t x b hx hb').2 o
theorem ZDC {xs:List AVal} (h:xs.all Zba=true):(xs.flatMap AVal.cells).all Za5=true:=by
 rw [XW] at h ⊢
 intro x hx
 obtain ⟨y,hy,hxy⟩:=WB.1 hx
 have:=h y hy
 cases y
 case agg cs=>exact XW.1 this x hxy
 all_goals (simp only [AVal.cells,XU] at hxy;subst hxy;exact this)
theorem Rel.clone {Ic I1:Imm} {βc:Bmap} {K':Nat->Prop} {sq k lo n:Nat} {xs:List AVal} {u:Value} (R:Rel base w0 I0 I β σ w) (hb:KLt base w0) (hK:∀ b,b < w.heap.size->K' b) (Rc:Rel K' w I1 Ic βc [.row 0 k xs] w') (hs:σ[sq]?=some .free) (hf:xs.all Zba=true)
  (hv:VR Ic βc (.sl 0 0 lo n) u):Post base w0 I0 I β (.sl sq 0 lo n) (σ.set sq (.row 0 k xs)) u w':=by
 have R':=R.after_flat hb hK Rc
 obtain ⟨bi,h1,h2,h3,h4,h5,h6,h7,h8⟩:=Rc.blk 0 _ rfl
 have hle:β.le (β.put sq 0 bi):=Bmap.put_le (R.free sq 0 hs)
 have hbw:=R.base_le hb
 have hsl:sq < σ.length:=(Xf.1 hs).1
 have hnew:∀ b,bi.b=some b->¬b < w.heap.size:=by
  intro b e hlt
  exact (Rc.own 0 (.row 0 k xs) b rfl (by simp [Zw,h1,e])).1 (hK b hlt)
 have hown:∀ b,Zw w' (β.put sq 0 bi) sq (.row 0 k xs) b->bi.b=some b:=by
  intro b e
  simpa [Zw,Bmap.put_same] using e
 refine Post.mk (Imm.le.refl I) hle (R'.upd (Imm.le.refl I) hle (KB.refl base w') (fun _ _ _=>rfl) R'.imm sq _ rfl hsl (fun t g h=>Bmap.put_ne h) ?_ ?_ ?_ ?_ (by simp)) ?_
 ·intro t x b hne h hb'
  replace hb':=((R.blk t x h).owns_at (Bmap.le.refl β) (fun b hb'=>Rc.below.block b (hK b ((R.blk t x h).owns_lt hb'))) b).1 hb'
  refine ⟨rfl,(R.own t x b h hb').2,fun e=>?_⟩
  exact hnew b (hown b e) ((R.blk t x h).owns_lt hb')
 ·refine ⟨bi,Bmap.put_same β sq 0 _,h2,h3,h4,h5,h6,h7,?_⟩
  rcases h8 with h8 | ⟨b,us,ty,g1,g2,g3,g4⟩
  ·exact XH h8
  ·exact XO ⟨b,us,ty,g1,g2,g3,Zxf (ZDC hf) g4⟩
 ·intro b e
  have hnb:=hnew b (hown b e)
  refine ⟨fun hB=>hnb (hbw b hB),fun o=>?_⟩
  cases hI:I b o with
  | none=>rfl
  | some v=>exact absurd (Zd1 (R.imm b o v hI)) hnb
 ·intro g hg
  simp only [Zc] at hg
  rw [Bmap.put_gen (by omega)]
  exact R.free sq g hs
 ·simp only [VR] at hv ⊢
  obtain ⟨bi',e,hv⟩:=hv
  rw [h1] at e
  injection e with e;subst e
  exact ⟨bi,Bmap.put_same β sq 0 _,hv⟩
theorem Zn8 {O:Z7} (hO:ZaF P O) {bf:Nat->Bool} (R:Rel base w0 I0 I β σ w) (hb:KLt base w0) {sq f own:Nat} {view:Bool} {args:List AVal} {vs:Array Value} (hargs:VRs I β args vs.toList) {r:AVal} {c:Cls} (hsite:own=1->σ[sq]?=some .free) (h:Z4 O bf σ sq f own view args=some (r,σ',c)) :
  (∃ fn,P.funcs[f]?=some fn/\fn.body.isSome=true/\(fn.name == "runtime.NumGoroutine")=false)/\Calls P f vs w (fun e w'=>∃ u,Ends r e u/\Post base w0 I0 I β (ZaN r) σ' u w'):=by
 unfold Z4 at h
 split at h
 ·cases h
 rename_i xs ts hshow
 obtain ⟨I1,hI1,R1,hal,_,hfz,_,_,hnby⟩:=Zgd ts R
 have hxs:VRs I1 β xs vs.toList:=by
  unfold ZcZ at hshow
  split at hshow
  ·simp only [Xa,Xb] at hshow
   obtain ⟨rfl,rfl⟩:=hshow
   exact hargs.mono hI1 (Bmap.le.refl β) _ _
  ·exact Zyr R1 (hfz (Zjg hshow)) (by rw [hal.showAs];exact hshow) (hargs.mono hI1 (Bmap.le.refl β) _ _)
 generalize hσf:ZV σ ts=σf at *
 obtain ⟨hnd,_⟩:=ZgG (σ:=σf) 1000 (ZZ xs) [] List.nodup_nil
 generalize Zf σf 1000 (ZZ xs) []=ids at *
 unfold Zck at h
 split at h
 case isFalse=>cases h
 rename_i hok
 have R2:=R1.pick (K':=fun b=>b < w.heap.size/\∀ t ∈ ids,∀ x,σf[t]?=some x->¬Zw w β t x b) (w1:=w) (I1:=I1) (m:=0) hnd (KB.refl _ w) (fun _ _ _=>rfl) (fun t x b ht hx hb' hk=>hk.2 t ht x hx hb') (fun t x b ht hx hs=>⟨R1.base_le hb b (R1.ro t x b hx hs),fun t' _ x' hx' ho=>(R1.own t' x' b hx' ho).1 (R1.ro t x b hx hs)⟩)
 generalize hq:ZaC view ids.length (O f (ZW (Zd σf 0 ids) xs) (Ze σf 0 ids (Zd σf 0 ids) ids 0))=q at h
 cases q with
 | none=>simp only [ZaP] at h;cases h
 | some q =>
  obtain ⟨r1,h1⟩:=q
  obtain ⟨r0,h0,hcall⟩:∃ r0 h0,O f (ZW (Zd σf 0 ids) xs) (Ze σf 0 ids (Zd σf 0 ids) ids 0)=some (r0,h0):=by
   cases ho:O f (ZW (Zd σf 0 ids) xs) (Ze σf 0 ids (Zd σf 0 ids) ids 0) with
   | none=>rw [ho] at hq;cases view <;> simp [ZaC,ZcO] at hq
   | some q=>exact ⟨q.1,q.2,rfl⟩
  rw [hcall] at hq
  obtain ⟨hfn,hrun⟩:=hO f _ _ r0 h0 hcall
  refine ⟨hfn,(hrun _ w I1 I1 _ w vs (fun b hb=>hb.1) R2 (ZeN ZrK _ _ hxs)).mono ?_⟩
  rintro e w' ⟨u,he,hp⟩
  rw [ZiJ] at hp
  have hp1:Zbo ids.length (fun b=>b < w.heap.size/\∀ t ∈ ids,∀ x,σf[t]?=some x->¬Zw w β t x b) w I1 I1 (Zc1 σf 0 ids β) r1 h1 u w'/\Ends r1 e u:=by
   cases view with
   | false =>
    simp only [ZaC,Xu,if_false,Xa,Xb] at hq
    obtain ⟨rfl,rfl⟩:=hq
    exact ⟨hp,he⟩
   | true =>
    simp only [ZaC,if_true] at hq
    obtain ⟨q1,q2⟩:=ZAh hp hq
    exact ⟨q1,q2 e he⟩
  obtain ⟨⟨I2,β2,hI2,hkept,Rc,hv⟩,he1⟩:=hp1
  simp only [ZaP] at h
  split at h
  ·rename_i hc
   simp only [Xt,XaL] at hc
   obtain ⟨rfl,rfl⟩:=hc
   split at h
   ·rename_i hflat
    simp only [Xa,Xb] at h
    obtain ⟨rfl,rfl,rfl⟩:=h
    exact ⟨u,he1,Post.here (R.after_flat hb (fun b hlt=>⟨hlt,by simp⟩) Rc) (ZBr hflat hv)⟩
   split at h
   ·rename_i hap
    unfold Zdi at hap
    simp only [Xt] at hap
    simp only [Xa,Xb] at h
    obtain ⟨rfl,rfl,rfl⟩:=h
    exact ⟨u,he1,R.after_bytes hb (fun b hlt=>⟨hlt,by simp⟩) Rc hI1 hI2 (hnby hap.2) hap.1.2 hv⟩
   ·simp only [Xa,Xb] at h
    obtain ⟨rfl,rfl,rfl⟩:=h
    obtain ⟨β3,g1,g2,g3⟩:=R1.back (sq:=sq) (n:=0) hb hnd hok Rc hI2 hkept (by simp) (by simp) rfl rfl
    have hρ:Za8 σf [] sq=Za8 [] [] sq:=rfl
    refine ⟨u,he1.ren,Post.mk (hI1.trans hI2) g1 g2 ?_⟩
    rw [hρ] at g3
    have:=ZfW g3 _ _ hv
    rcases ZpO (ρ:=Za8 [] [] sq) r1 with e | ⟨x,rfl⟩
    ·rw [e];exact this
    ·exact this
  ·split at h
   ·rename_i lo n k xs' hcl
    split at hcl
    case isFalse=>cases hcl
    rename_i hid
    simp only [XaL] at hid
    subst hid
    unfold Ze5 at hcl
    split at hcl
    case h_2=>cases hcl
    split at hcl
    case isFalse=>cases hcl
    rename_i hcc
    simp only [Xt,decide_eq_true_eq] at hcc
    simp only [Xa,Xb] at hcl h
    obtain ⟨rfl,rfl,rfl,rfl⟩:=hcl
    obtain ⟨rfl,rfl,rfl⟩:=h
    exact ⟨u,he1,R.clone hb (fun b hlt=>⟨hlt,by simp⟩) Rc (hsite hcc.1) hcc.2 hv⟩
   split at h
   case isFalse=>cases h
   rename_i hc
   simp only [Xt,decide_eq_true_eq] at hc
   obtain ⟨⟨⟨c1,c2⟩,c3⟩,c4⟩:=hc
   simp only [Xa,Xb] at h
   obtain ⟨rfl,rfl,rfl⟩:=h
   obtain ⟨β3,g1,g2,g3⟩:=R1.back hb hnd hok Rc hI2 hkept c1 c2 c3 c4
   refine ⟨u,he1.ren,Post.mk (hI1.trans hI2) g1 g2 ?_⟩
   have:=ZfW g3 _ _ hv
   rcases ZpO (ρ:=Za8 σf ids sq) r1 with e | ⟨x,rfl⟩
   ·rw [e];exact this
   ·exact this
end
end
section
open Go.RowKit
section
variable {P:Program} {w:World} {I:Imm} {β:Bmap}
theorem Zkc {t:TypeId} (hb:Zkb P t=true) {xs:Array Value} {o:Nat} {v:Value} (h:xs[o]?=some v):(part t xs o).run P w=.ok v w:=by
 unfold Zkb at hb
 have key:∀ d,P.underlying t=some d->d.isRow=false->(part t xs o).run P w=.ok v w:=by
  intro d hu hd
  have hagg:(isAgg t).run P w=.ok false w:=by
   unfold isAgg
   rw [Sem.run_bind,run_underlying hu w]
   cases d <;> simp_all [TypeDesc.isRow]
  simp [part,hagg,h]
 split at hb
 ·rename_i hu;exact key _ hu rfl
 ·rename_i hu;exact key _ hu rfl
 ·rename_i hu;exact key _ hu rfl
 ·cases hb
theorem Zxa (w:World) {t:TypeId} (d:Nat) {x y:AVal} {u v:Value} {b:Bool} (hx:VR I β x u) (hy:VR I β y v) (h:Zdx x y=some b) (hk:ZeO P t x=true):(Op.equalIn (d+1) t u v).run P w=.ok b w:=by
 unfold Zdx at h
 split at h
 ·rename_i k a k' b'
  split at h
  ·rename_i e;subst e
   injection h with h;subst h
   simp only [VR] at hx hy
   subst hx hy
   cases hd:P.underlying t with
   | none=>simp [ZeO,hd] at hk
   | some dd =>
    cases dd <;> simp [ZeO,hd] at hk
    exact run_equalIn_int w d t _ _ a b' hd
  ·cases h
 ·rename_i a b'
  injection h with h;subst h
  simp only [VR] at hx hy
  subst hx hy
  cases hd:P.underlying t with
  | none=>simp [ZeO,hd] at hk
  | some dd =>
   cases dd <;> simp [ZeO,hd] at hk
   exact run_equalIn_bool' w d t a b' hd
 ·rename_i a b'
  injection h with h;subst h
  simp only [VR] at hx hy
  obtain ⟨rfl,_⟩:=hx
  obtain ⟨rfl,_⟩:=hy
  cases hd:P.underlying t with
  | none=>simp [ZeO,hd] at hk
  | some dd =>
   cases dd <;> simp [ZeO,hd] at hk
   rw [run_equalIn_string w d t _ _ hd,Ziy,Ziy]
 ·cases h
theorem Zi8:∀ {fs:List Field} {xs:List AVal},ZbC (fs.map fun f=>(Zev P f.type).getD 3) xs=true->Zfd P fs xs=true
 | [],[],_=>rfl
 | [],x::xs,h=>by simp [ZbC] at h
 | f::fs,[],h=>by simp [ZbC] at h
 | f::fs,x::xs,h=>by
  simp only [Xw,ZbC,Xt,beq_iff_eq] at h
  simp only [Zfd,Xt]
  refine ⟨?_,Zi8 h.2⟩
  have h1:=h.1
  cases hd:P.underlying f.type with
  | none=>simp only [Zev,hd,XaJ] at h1;cases x <;> simp [ZaW] at h1
  | some dd=>cases dd <;> simp only [Zev,hd,XaJ,Option.getD_some] at h1 <;> cases x <;> first | (simp [ZeO,hd];done) | (simp [ZaW] at h1;done)
theorem ZtH (w:World) (d:Nat) {us vs:Array Value}:∀ {fs:List Field} {xs ys:List AVal} {o:Nat} {b:Bool},Ziq P o fs=true->Zfd P fs xs=true->VRs I β xs (us.toList.drop o)->VRs I β ys (vs.toList.drop o)->Zbh xs ys=some b->(Op.eqFields (d+1) us vs fs).run P w=.ok b w
 | [],xs,ys,o,b,hf,hk,hx,hy,h=>by
  cases xs with
  | nil =>
   cases ys with
   | nil=>simp only [Zbh,Xa] at h;subst h;simp [Op.eqFields]
   | cons=>simp [Zbh] at h
  | cons=>simp [Zfd] at hk
 | f::fs,xs,ys,o,b,hf,hk,hx,hy,h=>by
  cases xs with
  | nil=>simp [Zfd] at hk
  | cons x xs =>
   cases ys with
   | nil=>simp [Zbh] at h
   | cons y ys =>
    simp only [Ziq,Xt,beq_iff_eq,bne_iff_ne,ne_eq] at hf
    obtain ⟨⟨⟨h1,h2⟩,h3⟩,h4⟩:=hf
    simp only [Zfd,Xt] at hk
    simp only [VRs] at hx hy
    obtain ⟨u,us',eu,hx1,hx2⟩:=hx
    obtain ⟨v,vs',ev,hy1,hy2⟩:=hy
    have gu:us[o]?=some u:=by
     have:=congrArg (fun l:List Value=>l[0]?) eu
     simpa using this
    have gv:vs[o]?=some v:=by
     have:=congrArg (fun l:List Value=>l[0]?) ev
     simpa using this
    have eu':us.toList.drop (o+1)=us':=by rw [<-XaM,eu];rfl
    have ev':vs.toList.drop (o+1)=vs':=by rw [<-XaM,ev];rfl
    simp only [Zbh] at h
    split at h
    ·rename_i b1 hb1
     split at h
     ·rename_i b2 hb2
      injection h with h;subst h
      have r1:=Zxa w d hx1 hy1 hb1 hk.1
      have r2:=ZtH w d (us:=us) (vs:=vs) h4 hk.2 (by rw [eu'];exact hx2) (by rw [ev'];exact hy2) hb2
      rw [<-h1] at gu gv
      simp only [Op.eqFields,h2,ne_eq,not_false_eq_true,if_true,Sem.run_bind,Zkc h3 gu,Zkc h3 gv,r1,Result.andThen_ok]
      cases b1
      ·simp
      ·simpa using r2
     ·cases h
    ·cases h
theorem ZDm {t:TypeId} {fs:Array Field} (hu:P.underlying t=some (.struct fs)) (hf:ZoT P t fs=true) {x y:List AVal} {us vs:Array Value} (hx:VRs I β x us.toList) (hy:VRs I β y vs.toList) (hk:Zfd P fs.toList x=true) {b:Bool} (h:Zbh x y=some b) (neg:Bool) {op:BinOp} (hop:op=(if neg then .neq else .eql)) (ox oy:Operand) :
  (do eqGuard op t ox oy (.agg us) (.agg vs);binOp op t (.agg us) (.agg vs):Sem Value).run P w=.ok (.bool (b != neg)) w:=by
 simp only [ZoT,Xt,WH] at hf
 obtain ⟨⟨hf1,hf2⟩,hf3⟩:=hf
 have hfo:P.fieldsOf t=fs:=by simp [Program.fieldsOf,hu]
 have h1:(eqGuard op t ox oy (.agg us) (.agg vs)).run P w=.ok () w:=by
  subst hop
  cases neg <;> simp [eqGuard,hf3]
 have h2:(Op.equal t (.agg us) (.agg vs)).run P w=.ok b w:=by
  show (Op.equalIn (9999+1) t (.agg us) (.agg vs)).run P w=_
  rw [run_equalIn_struct w 9999 t us vs (by rw [hfo];exact hu) hf2,hfo]
  exact ZtH w 9998 hf1 hk (by simpa using hx) (by simpa using hy) h
 subst hop
 cases neg
 ·simp only [Xu,if_false] at h1 ⊢
  simp [h1,h2,binOp]
 ·simp only [if_true] at h1 ⊢
  simp [h1,h2,binOp]
theorem ZwO:∀ {k1 k2:List Nat} {xs:List AVal},ZbC (k1++k2) xs=true->ZbC k1 (xs.take k1.length)=true/\ZbC k2 (xs.drop k1.length)=true
 | [],k2,xs,h=>⟨by simp [ZbC],by simpa using h⟩
 | k::k1,k2,[],h=>by simp [ZbC] at h
 | k::k1,k2,x::xs,h=>by
  simp only [X1,ZbC,Xt] at h
  obtain ⟨h1,h2⟩:=ZwO h.2
  simp only [Xq,Wh,List.drop_succ_cons,ZbC,Xt]
  exact ⟨⟨h.1,h1⟩,h2⟩
theorem ZwB:∀ (n:Nat) {xs ys:List AVal} {b:Bool},Zbh xs ys=some b->∃ b1 b2,Zbh (xs.take n) (ys.take n)=some b1/\Zbh (xs.drop n) (ys.drop n)=some b2/\b=(b1 && b2)
 | 0,xs,ys,b,h=>⟨true,b,by simp [Zbh],by simpa using h,by simp⟩
 | n+1,[],ys,b,h=>by
  cases ys with
  | nil=>simp only [Zbh,Xa] at h;subst h;exact ⟨true,true,by simp [Zbh],by simp [Zbh],rfl⟩
  | cons=>simp [Zbh] at h
 | n+1,x::xs,[],b,h=>by simp [Zbh] at h
 | n+1,x::xs,y::ys,b,h=>by
  simp only [Zbh] at h
  split at h
  ·rename_i b0 h0
   split at h
   ·rename_i c hc
    injection h with h;subst h
    obtain ⟨b1,b2,e1,e2,e3⟩:=ZwB n hc
    refine ⟨b0 && b1,b2,by simp only [Wh,Zbh,h0,e1],by simpa using e2,by rw [e3,Bool.and_assoc]⟩
   ·cases h
  ·cases h
theorem Zsm (w:World) (d:Nat) {us vs:Array Value}:∀ {fs:List Field} {xs ys:List AVal} {o:Nat} {b:Bool},Zij P o fs=true->ZbC (Ze1 P fs) xs=true->VRs I β xs (us.toList.drop o)->VRs I β ys (vs.toList.drop o)->Zbh xs ys=some b->(Op.eqFields (d+2) us vs fs).run P w=.ok b w
 | [],xs,ys,o,b,hf,hk,hx,hy,h=>by
  cases xs with
  | nil =>
   cases ys with
   | nil=>simp only [Zbh,Xa] at h;subst h;simp [Op.eqFields]
   | cons=>simp [Zbh] at h
  | cons=>simp [Ze1,ZbC] at hk
 | f::fs,xs,ys,o,b,hf,hk,hx,hy,h=>by
  simp only [Zij,Xt,beq_iff_eq,bne_iff_ne,ne_eq] at hf
  obtain ⟨⟨h1,h2⟩,hf⟩:=hf
  simp only [Ze1] at hk
  split at hf
  ·rename_i gs hu
   simp only [Xt,WH,beq_iff_eq] at hf
   obtain ⟨⟨⟨f1,f2⟩,f3⟩,f4⟩:=hf
   simp only [hu] at hk
   obtain ⟨k1,k2⟩:=ZwO hk
   rw [XL,X7] at k1 k2
   obtain ⟨b1,b2,e1,e2,rfl⟩:=ZwB gs.size h
   have klen:∀ {ks:List Nat} {zs:List AVal},ZbC ks zs=true->zs.length=ks.length:=by
    intro ks
    induction ks with
    | nil=>intro zs h;cases zs with
     | nil=>rfl
     | cons=>simp [ZbC] at h
    | cons k ks ih=>intro zs h;cases zs with
     | nil=>simp [ZbC] at h
     | cons z zs =>
      simp only [ZbC,Xt] at h
      simp [ih h.2]
   have lx:gs.size<=xs.length:=by
    have:=klen k1
    have e:gs.toList.length=gs.size:=X7
    rw [X9,XL,e] at this
    omega
   have ly:gs.size<=ys.length:=by
    have key:∀ {xs ys:List AVal} {b:Bool},Zbh xs ys=some b->xs.length=ys.length:=by
     intro xs
     induction xs with
     | nil=>intro ys b h;cases ys with
      | nil=>rfl
      | cons=>simp [Zbh] at h
     | cons x xs ih=>intro ys b h;cases ys with
      | nil=>simp [Zbh] at h
      | cons y ys =>
       simp only [Zbh] at h
       split at h
       ·split at h
        ·rename_i hc;simp [ih hc]
        ·cases h
       ·cases h
    have:=key h
    omega
   have part:∀ {zs:List AVal} {ws:Array Value},VRs I β zs (ws.toList.drop o)->gs.size<=zs.length->∃ u,(part f.type ws f.offset).run P w=.ok (.agg u) w/\VRs I β (zs.take gs.size) u.toList:=by
    intro zs ws hz hl
    have hz0:VRs I β (Xr (ws.toList.take o).length AVal.top++zs) ws.toList:=by
     have : VRs I β (Xr (ws.toList.take o).length AVal.top) (ws.toList.take o):=ZdF (by simp) (fun i x v hx hv=>by
      have:=List.getElem?_replicate .. ▸ hx
      split at this
      ·injection this with this;subst this;simp only [VR]
      ·cases this)
     have:=Zcu this hz
     rwa [List.take_append_drop] at this
    by_cases ho:o<=ws.toList.length
    ·have hp:partA (some gs.size) (Xr (ws.toList.take o).length AVal.top++zs) o=some (.agg (zs.take gs.size)):=by
      have e:(ws.toList.take o).length=o:=List.length_take_of_le ho
      simp only [partA,e,XE,List.length_replicate]
      rw [if_pos (Nat.add_le_add_left hl o),List.drop_left' (by simp [e])]
     obtain ⟨u,q1,q2⟩:=Zlr (w:=w) f3 hz0 hp
     simp only [VR] at q2
     obtain ⟨us',rfl,q2⟩:=q2
     exact ⟨us',by rw [h1];exact q1,q2⟩
    ·have : ws.toList.drop o=[]:=List.drop_eq_nil_of_le (by omega)
     rw [this] at hz
     have hzl:zs.length=0:=Zan hz
     have hg:gs.size=0:=by omega
     have hagg:(isAgg f.type).run P w=.ok true w:=by
      unfold isAgg
      rw [Sem.run_bind,run_underlying hu w]
      simp [TypeDesc.isRow]
     have hi:∃ i,P.info? f.type=some i/\i.size=gs.size:=by
      unfold Zeh at f3
      rw [hu] at f3
      cases hi:P.info? f.type with
      | none=>rw [hi] at f3;simp at f3
      | some i=>rw [hi] at f3;simp only [Xa] at f3;exact ⟨i,rfl,f3⟩
     obtain ⟨i,hi1,hi2⟩:=hi
     refine ⟨ws.extract f.offset (f.offset+i.size),by simp [Go.part,hagg,sizeOf,typeInfo,hi1],?_⟩
     have e0:zs=[]:=Xar.1 hzl
     subst e0
     have : (ws.extract f.offset (f.offset+i.size)).toList=[]:=by
      rw [hi2,hg,Wm];simp
     rw [this];simp [VRs]
   obtain ⟨u,pu,vu⟩:=part hx lx
   obtain ⟨v,pv,vv⟩:=part hy ly
   have r1:(Op.equalIn (d+2) f.type (.agg u) (.agg v)).run P w=.ok b1 w:=by
    have hfo:P.fieldsOf f.type=gs:=by simp [Program.fieldsOf,hu]
    rw [show d+2=(d+1)+1 from rfl,run_equalIn_struct w (d+1) f.type u v (by rw [hfo];exact hu) f2,hfo]
    exact ZtH w d (o:=0) f1 (Zi8 k1) (by simpa using vu) (by simpa using vv) e1
   have dx:VRs I β (xs.drop gs.size) (us.toList.drop (o+gs.size)):=by
    rw [<-XaM];exact ZdY hx _
   have dy:VRs I β (ys.drop gs.size) (vs.toList.drop (o+gs.size)):=by
    rw [<-XaM];exact ZdY hy _
   have r2:=Zsm w d (us:=us) (vs:=vs) f4 k2 dx dy e2
   simp only [Op.eqFields,h2,ne_eq,not_false_eq_true,if_true,Sem.run_bind,pu,pv,r1,Result.andThen_ok]
   cases b1
   ·simp
   ·simpa using r2
  ·rename_i hns
   simp only [Xt] at hf
   obtain ⟨h3,h4⟩:=hf
   have hk':ZbC ([(Zev P f.type).getD 3]++Ze1 P fs) xs=true:=by
    cases hd:P.underlying f.type with
    | none=>simpa only [hd] using hk
    | some dd=>cases dd <;> first | simpa only [hd] using hk | exact absurd hd (hns _)
   cases xs with
   | nil=>simp [ZbC] at hk'
   | cons x xs =>
   cases ys with
   | nil=>simp [Zbh] at h
   | cons y ys =>
    simp only [List.singleton_append,ZbC,Xt,beq_iff_eq] at hk'
    have hkt:ZeO P f.type x=true:=by
     have:=Zi8 (P:=P) (fs:=[f]) (xs:=[x]) (by simp [ZbC,hk'.1])
     simpa [Zfd] using this
    simp only [VRs] at hx hy
    obtain ⟨u,us',eu,hx1,hx2⟩:=hx
    obtain ⟨v,vs',ev,hy1,hy2⟩:=hy
    have gu:us[o]?=some u:=by
     have:=congrArg (fun l:List Value=>l[0]?) eu
     simpa using this
    have gv:vs[o]?=some v:=by
     have:=congrArg (fun l:List Value=>l[0]?) ev
     simpa using this
    have eu':us.toList.drop (o+1)=us':=by rw [<-XaM,eu];rfl
    have ev':vs.toList.drop (o+1)=vs':=by rw [<-XaM,ev];rfl
    simp only [Zbh] at h
    split at h
    ·rename_i b1 hb1
     split at h
     ·rename_i b2 hb2
      injection h with h;subst h
      have r1:=Zxa w (d+1) hx1 hy1 hb1 hkt
      have r2:=Zsm w d (us:=us) (vs:=vs) h4 hk'.2 (by rw [eu'];exact hx2) (by rw [ev'];exact hy2) hb2
      rw [<-h1] at gu gv
      simp only [Op.eqFields,h2,ne_eq,not_false_eq_true,if_true,Sem.run_bind,Zkc h3 gu,Zkc h3 gv,r1,Result.andThen_ok]
      cases b1
      ·simp
      ·simpa using r2
     ·cases h
    ·cases h
theorem ZBJ {t:TypeId} {fs:Array Field} (hu:P.underlying t=some (.struct fs)) (hf:ZmK P t fs=true) {x y:List AVal} {us vs:Array Value} (hx:VRs I β x us.toList) (hy:VRs I β y vs.toList) (hk:ZbC (Ze1 P fs.toList) x=true) {b:Bool} (h:Zbh x y=some b) (neg:Bool) {op:BinOp} (hop:op=(if neg then .neq else .eql)) (ox oy:Operand) :
  (do eqGuard op t ox oy (.agg us) (.agg vs);binOp op t (.agg us) (.agg vs):Sem Value).run P w=.ok (.bool (b != neg)) w:=by
 simp only [ZmK,Xt,WH] at hf
 obtain ⟨⟨hf1,hf2⟩,hf3⟩:=hf
 have hfo:P.fieldsOf t=fs:=by simp [Program.fieldsOf,hu]
 have h1:(eqGuard op t ox oy (.agg us) (.agg vs)).run P w=.ok () w:=by
  subst hop
  cases neg <;> simp [eqGuard,hf3]
 have h2:(Op.equal t (.agg us) (.agg vs)).run P w=.ok b w:=by
  show (Op.equalIn (9999+1) t (.agg us) (.agg vs)).run P w=_
  rw [run_equalIn_struct w 9999 t us vs (by rw [hfo];exact hu) hf2,hfo]
  exact Zsm w 9997 hf1 hk (by simpa using hx) (by simpa using hy) h
 subst hop
 cases neg
 ·simp only [Xu,if_false] at h1 ⊢
  simp [h1,h2,binOp]
 ·simp only [if_true] at h1 ⊢
  simp [h1,h2,binOp]
end
end
section
open Go.RowKit
section
variable {P:Program} {base:Nat->Prop} {w0 w w':World} {I0 I I':Imm} {β β':Bmap} {σ σ':Za}
def ZbV:TypeDesc->Option Nat
 | .int _=>some 0
 | .bool=>some 1
 | .string=>some 2
 | _=>none
theorem ZiH {P:Program} {t:TypeId} {kc:Nat} {z:AVal} (h:ZgW P t=some (kc,z)):∃ kt et d,P.underlying t=some (.map kt et)/\P.underlying kt=some d/\ZbV d=some kc/\ZdK P et=some z:=by
 unfold ZgW at h
 split at h
 case h_2=>cases h
 rename_i kt et ht
 split at h
 case h_2=>cases h
 rename_i kc' z' hk hz
 simp only [Xa,Xb] at h
 obtain ⟨rfl,rfl⟩:=h
 unfold Zev at hk
 split at hk
 ·rename_i e;injection hk with hk;subst hk;exact ⟨kt,et,_,ht,e,rfl,hz⟩
 ·rename_i e;injection hk with hk;subst hk;exact ⟨kt,et,_,ht,e,rfl,hz⟩
 ·rename_i e;injection hk with hk;subst hk;exact ⟨kt,et,_,ht,e,rfl,hz⟩
 ·cases hk
theorem Zzw {l l':List UInt8}:((⟨l.toArray⟩:ByteArray) == ⟨l'.toArray⟩)=(l == l'):=by
 rw [beq_toListBytes,Ziy,Ziy]
theorem Zkr {d:TypeDesc} {x y:AVal} {vx vy:Value} {b:Bool} (hd:ZbV d=some (ZaW x)) (h:Zdx x y=some b) (hx:VR I β x vx) (hy:VR I β y vy):Instr.sameNow d vx vy=some b:=by
 unfold Zdx at h
 split at h
 ·rename_i k n k' m
  split at h
  case isFalse=>cases h
  rename_i hk
  subst hk
  injection h with h
  subst h
  simp only [VR] at hx hy
  subst hx hy
  cases d <;> simp [ZbV,ZaW] at hd
  simp [Instr.sameNow]
 ·injection h with h
  subst h
  simp only [VR] at hx hy
  subst hx hy
  cases d <;> simp [ZbV,ZaW] at hd
  simp [Instr.sameNow]
 ·rename_i l l'
  injection h with h
  subst h
  simp only [VR] at hx hy
  rw [hx.1,hy.1]
  cases d <;> simp [ZbV,ZaW] at hd
  simp only [Instr.sameNow,Zzw]
 ·cases h
theorem ZxQ {x y:AVal} {vx vy:Value} (h:Zdx x y=some true) (hx:VR I β x vx) (hy:VR I β y vy):Instr.sameBits 10000 vy vx=true/\vx=vy:=by
 unfold Zdx at h
 split at h
 ·rename_i k n k' m
  split at h
  case isFalse=>cases h
  rename_i hk
  subst hk
  simp only [Xa,beq_iff_eq] at h
  subst h
  simp only [VR] at hx hy
  subst hx hy
  exact ⟨by simp [Instr.sameBits],rfl⟩
 ·simp only [Xa,beq_iff_eq] at h
  subst h
  simp only [VR] at hx hy
  subst hx hy
  exact ⟨by simp [Instr.sameBits],rfl⟩
 ·simp only [Xa,beq_iff_eq] at h
  subst h
  simp only [VR] at hx hy
  rw [hx.1,hy.1]
  exact ⟨by simp only [Instr.sameBits,Zzw,beq_self_eq_true],rfl⟩
 ·cases h
theorem Zfc {d:TypeDesc} {x:AVal} {vx:Value} (hd:ZbV d=some (ZaW x)) (hx:VR I β x vx):∀ (es:List (AVal×AVal)) (arr:List MapEntry) (i:Nat) (r:Option (Nat×AVal)),VRs I β (es.map (·.1)) (arr.map (·.key))->VRs I β (es.map (·.2)) (arr.map (·.val))->Zfy x es i=some r ->
  (r=none/\Instr.findNow d vx arr i=some none) \/
  ∃ j y e p,r=some (i+j,y)/\Instr.findNow d vx arr i=some (some (i+j,e.val))/\arr[j]?=some e/\es[j]?=some p/\p.2=y/\VR I β y e.val/\Zdx x p.1=some true/\VR I β p.1 e.key
 | [],arr,i,r,hk,_,h=>by
  unfold Zfy at h
  injection h with h
  subst h
  simp only [XS,VRs,List.map_eq_nil_iff] at hk
  subst hk
  exact XH ⟨rfl,by simp [Instr.findNow]⟩
 | (k,y)::es,arr,i,r,hk,hv,h=>by
  unfold Zfy at h
  cases arr with
  | nil =>
   simp only [Xw,XS,VRs] at hk
   obtain ⟨_,_,hk,_⟩:=hk
   cases hk
  | cons e arr =>
  simp only [Xw,VRs] at hk hv
  obtain ⟨_,_,ek,k1,k2⟩:=hk
  injection ek with ek1 ek2
  subst ek1 ek2
  obtain ⟨_,_,ev,v1,v2⟩:=hv
  injection ev with ev1 ev2
  subst ev1 ev2
  split at h
  ·rename_i ha
   injection h with h
   subst h
   refine XO ⟨0,y,e,(k,y),rfl,?_,rfl,rfl,rfl,v1,ha,k1⟩
   simp only [Instr.findNow,Zkr hd ha hx k1,Wm]
  ·rename_i ha
   have hn:=Zkr hd ha hx k1
   rcases Zfc hd hx es arr (i+1) r k2 v2 h with ⟨h1,h2⟩ | ⟨j,y',e',p',h1,h2,h3,h4,h5⟩
   ·exact XH ⟨h1,by simp only [Instr.findNow,hn];exact h2⟩
   ·refine XO ⟨j+1,y',e',p',by rw [h1,W2,W6 1 j],?_,by simpa using h3,by simpa using h4,h5⟩
    simp only [Instr.findNow,hn]
    rw [h2,W2,W6 1 j]
  ·cases h
theorem Zc5 {kt:TypeId} {d:TypeDesc} {kc:Nat} (hk:P.underlying kt=some d) (hd:ZbV d=some kc) (e:Bool) (v:Value):(Instr.checkKey e 10000 kt v).run P w=.ok () w:=by
 show (Instr.checkKey e (9999+1) kt v).run P w=_
 unfold Instr.checkKey
 rw [Sem.run_bind,run_underlying hk]
 cases d <;> simp [ZbV] at hd <;> rfl
theorem Zdm {kt:TypeId} {d:TypeDesc} (hk:P.underlying kt=some d) {v:Value} {arr:List MapEntry} {r:Option (Nat×Value)} (h:Instr.findNow d v arr 0=some r):(Instr.findKey kt v arr).run P w=.ok r w:=by
 unfold Instr.findKey
 rw [Sem.run_bind,run_underlying hk]
 simp only [Result.andThen_ok,h,Sem.run_pure]
theorem Zv3 {e:TypeId} {z:AVal} (hz:ZdK P e=some z):∃ v,(zeroValue e).run P w=.ok v w/\VR I β z v:=by
 unfold ZdK at hz
 split at hz
 case h_2=>cases hz
 rename_i i hi
 split at hz
 case h_2=>cases hz
 rename_i v hv
 exact ⟨v,by simp [zeroValue,typeInfo,hi,hv],(Ze0 hz).1⟩
theorem Zex {b:Nat} {arr:Array MapEntry} {clk:Nat} (h:w.heap[b]?=some (.map arr clk)):(getObj b).run P w=.ok (.map arr clk) w:=by simp [getObj,Sem.run,h]
theorem Zhl:VR I β (.tup []) undef:=by simp [VR,VRs,undef]
theorem Zin {x:AVal} {v:Value} (b:Bool) (h:VR I β x v):VR I β (.tup [x,.bool b]) (.tuple #[v,.bool b]):=by
 simp only [VR]
 exact ⟨_,rfl,by simp only [VRs];exact ⟨_,_,rfl,h,_,_,rfl,rfl,rfl⟩⟩
theorem ZC3 (R:Rel base w0 I0 I β σ w) {t kt et:TypeId} (ht:P.underlying t=some (.map kt et)) {d:TypeDesc} (hdk:P.underlying kt=some d) {kc:Nat} (hd:ZbV d=some kc) {z:AVal} (hz:ZdK P et=some z) {ok:Bool} {m k v:AVal} {vm vk:Value} {c:Cls} (hm:VR I β m vm) (hk:VR I β k vk)
  (h:Zer σ kc z ok m k=some (v,σ',c)):σ'=σ/\∃ u,(Instr.lookup t vm vk ok).run P w=.ok u w/\VR I β v u:=by
 obtain ⟨vz,hvz,hzr⟩:=Zv3 (P:=P) (w:=w) (I:=I) (β:=β) hz
 unfold Zer at h
 split at h
 case isFalse=>cases h
 rename_i hkc
 have hd':ZbV d=some (ZaW k):=by rw [hd,hkc]
 split at h
 ·simp only [Xa,Xb] at h
  obtain ⟨rfl,rfl,rfl⟩:=h
  simp only [VR] at hm
  subst hm
  have hf:=Zdm (P:=P) (w:=w) hdk (v:=vk) (arr:=[]) (r:=none) (by simp [Instr.findNow])
  refine ⟨rfl,if ok then .tuple #[vz,.bool false] else vz,?_,?_⟩
  ·simp [Instr.lookup,run_underlying ht,Zc5 hdk hd,hf,hvz]
  ·cases ok
   ·exact hzr
   ·exact Zin false hzr
 ·rename_i b
  simp only [VR] at hm
  obtain ⟨bb,kk,cc,hb,rfl⟩:=hm
  split at h
  ·rename_i es hs
   obtain ⟨b',k',c',arr,clk,e1,e2,e3,e4,_⟩:=R.blk _ _ hs
   rw [hb] at e1
   simp only [Xa,BI.mk.injEq] at e1
   obtain ⟨rfl,rfl,rfl⟩:=e1
   have hg:=Zex (P:=P) e2
   split at h
   ·rename_i j y hf
    simp only [Xa,Xb] at h
    obtain ⟨rfl,rfl,rfl⟩:=h
    rcases Zfc hd' hk es arr.toList 0 _ e3 e4 hf with ⟨h1,_⟩ | ⟨j',y',e,p,h1,h2,_,_,_,h5,_⟩
    ·cases h1
    ·injection h1 with h1
     injection h1 with h1 h1'
     subst h1'
     have hr:=Zdm (P:=P) (w:=w) hdk h2
     refine ⟨rfl,if ok then .tuple #[e.val,.bool true] else e.val,?_,?_⟩
     ·simp [Instr.lookup,run_underlying ht,Zc5 hdk hd,hg,hr]
     ·cases ok
      ·exact h5
      ·exact Zin true h5
   ·rename_i hf
    simp only [Xa,Xb] at h
    obtain ⟨rfl,rfl,rfl⟩:=h
    rcases Zfc hd' hk es arr.toList 0 _ e3 e4 hf with ⟨_,h2⟩ | ⟨j',y',e,p,h1,_⟩
    ·have hr:=Zdm (P:=P) (w:=w) hdk h2
     refine ⟨rfl,if ok then .tuple #[vz,.bool false] else vz,?_,?_⟩
     ·simp [Instr.lookup,run_underlying ht,Zc5 hdk hd,hg,hr,hvz]
     ·cases ok
      ·exact hzr
      ·exact Zin false hzr
    ·cases h1
   ·cases h
  ·rename_i es hs
   obtain ⟨b',k',c',arr,clk,e1,e2,e3,e4,_⟩:=R.blk _ _ hs
   rw [hb] at e1
   simp only [Xa,BI.mk.injEq] at e1
   obtain ⟨rfl,rfl,rfl⟩:=e1
   have hg:=Zex (P:=P) e2
   split at h
   ·rename_i j y hf
    simp only [Xa,Xb] at h
    obtain ⟨rfl,rfl,rfl⟩:=h
    rcases Zfc hd' hk es arr.toList 0 _ e3 e4 hf with ⟨h1,_⟩ | ⟨j',y',e,p,h1,h2,_,_,_,h5,_⟩
    ·cases h1
    ·injection h1 with h1
     injection h1 with h1 h1'
     subst h1'
     have hr:=Zdm (P:=P) (w:=w) hdk h2
     refine ⟨rfl,if ok then .tuple #[e.val,.bool true] else e.val,?_,?_⟩
     ·simp [Instr.lookup,run_underlying ht,Zc5 hdk hd,hg,hr]
     ·cases ok
      ·exact h5
      ·exact Zin true h5
   ·rename_i hf
    simp only [Xa,Xb] at h
    obtain ⟨rfl,rfl,rfl⟩:=h
    rcases Zfc hd' hk es arr.toList 0 _ e3 e4 hf with ⟨_,h2⟩ | ⟨j',y',e,p,h1,_⟩
    ·have hr:=Zdm (P:=P) (w:=w) hdk h2
     refine ⟨rfl,if ok then .tuple #[vz,.bool false] else vz,?_,?_⟩
     ·simp [Instr.lookup,run_underlying ht,Zc5 hdk hd,hg,hr,hvz]
     ·cases ok
      ·exact hzr
      ·exact Zin false hzr
    ·cases h1
   ·cases h
  ·cases h
 ·cases h
theorem Zjj (R:Rel base w0 I0 I β σ w) {t b k c:Nat} {es es':List (AVal×AVal)} (hs:σ[t]?=some (.map es)) (hb:β t 0=some ⟨some b,k,c⟩) {arr':Array MapEntry} {clk':Nat} (hk:VRs I β (es'.map (·.1)) (arr'.toList.map (·.key))) (hv:VRs I β (es'.map (·.2)) (arr'.toList.map (·.val))) (hA:∀ p ∈ es',Zcw p.1=true) (hS:ZfP arr' clk') (hlt:b < w.heap.size) :
  Rel base w0 I0 I β (σ.set t (.map es')) { w with heap:=w.heap.setIfInBounds b (.map arr' clk') } :=
 R.putObj hs (by simp [Zw,hb]) _ (by simp [Zw,hb]) ⟨b,k,c,arr',clk',hb,by rw [WI hlt],hk,hv,hA,hS⟩ rfl
theorem Zfp (arr:Array MapEntry) (i:Nat) (f:MapEntry->MapEntry):(arr.modify i f).toList=arr.toList.modify i f:=by simp
theorem Zj6 {α β:Type} (g:α->β) (f:α->α) (v:β) (hf:∀ x,g (f x)=v):∀ (l:List α) (i:Nat),(l.modify i f).map g=(l.map g).set i v
 | [],i=>by simp
 | x::l,0=>by simp [hf]
 | x::l,i+1=>by simp [Zj6 g f v hf l i]
theorem ZhM {α β:Type} (g:α->β) (f:α->α) (hf:∀ x,g (f x)=g x):∀ (l:List α) (i:Nat),(l.modify i f).map g=l.map g
 | [],i=>by simp
 | x::l,0=>by simp [hf]
 | x::l,i+1=>by simp [ZhM g f hf l i]
theorem Zfr {b:Nat} {arr:Array MapEntry} {clk:Nat} {o':Obj} (h:w.heap[b]?=some (.map arr clk)):(setObj b o').run P w=.ok () { w with heap:=w.heap.setIfInBounds b o' }:=by simp [setObj,Sem.run,h]
theorem Zkt:∀ {xs:List AVal} {vs:List Value} (i:Nat),VRs I β xs vs->VRs I β (xs.eraseIdx i) (vs.eraseIdx i)
 | [],vs,i,h=>by simp only [VRs] at h;subst h;simp [VRs]
 | x::xs,vs,0,h=>by
  simp only [VRs] at h
  obtain ⟨v,vs',rfl,_,h⟩:=h
  exact h
 | x::xs,vs,i+1,h=>by
  simp only [VRs] at h
  obtain ⟨v,vs',rfl,h1,h⟩:=h
  simp only [List.eraseIdx_cons_succ,VRs]
  exact ⟨v,_,rfl,h1,Zkt i h⟩
theorem Zfh {α β:Type} (g:α->β):∀ (l:List α) (i:Nat),(l.eraseIdx i).map g=(l.map g).eraseIdx i
 | [],i=>by simp
 | x::l,0=>by simp
 | x::l,i+1=>by simp [Zfh g l i]
theorem ZAf (R:Rel base w0 I0 I β σ w) {t kt et:TypeId} (ht:P.underlying t=some (.map kt et)) {d:TypeDesc} (hdk:P.underlying kt=some d) {kc:Nat} (hd:ZbV d=some kc) {m k x v:AVal} {vm vk vx:Value} {c:Cls} (hm:VR I β m vm) (hk:VR I β k vk) (hx:VR I β x vx) (hng:∀ t,m=.map t->∀ w es,σ[t]?≠some (.gmap w es))
  (h:ZdN σ kc m k x=some (v,σ',c)):v=.tup []/\∃ w',(Instr.mapUpdate t vm vk vx).run P w=.ok () w'/\Rel base w0 I0 I β σ' w':=by
 unfold ZdN at h
 split at h
 case isFalse=>cases h
 rename_i hkc
 obtain ⟨hkc,hkA,_⟩:=hkc
 have hd':ZbV d=some (ZaW k):=by rw [hd,hkc]
 split at h
 case h_2=>cases h
 rename_i b
 simp only [VR] at hm
 obtain ⟨bb,kk,cc,hb,rfl⟩:=hm
 split at h
 case h_2=>rename_i hs;exact absurd hs (hng _ rfl _ _)
 case h_3=>cases h
 rename_i es hs
 obtain ⟨b',k',c',arr,clk,e1,e2,e3,e4,e5,e6,e7⟩:=R.blk _ _ hs
 have hb0:=hb
 rw [hb] at e1
 simp only [Xa,BI.mk.injEq] at e1
 obtain ⟨rfl,rfl,rfl⟩:=e1
 have hg:=Zex (P:=P) e2
 have hlt:bb < w.heap.size:=(XQ.1 e2).1
 split at h
 ·rename_i j y hf
  simp only [Xa,Xb] at h
  obtain ⟨rfl,rfl,rfl⟩:=h
  rcases Zfc hd' hk es arr.toList 0 _ e3 e4 hf with ⟨h1,_⟩ | ⟨j',y',e,p,h1,h2,h3,h4,_,h5,h6,h7⟩
  ·cases h1
  ·simp only [XK] at h1 h2
   injection h1 with h1
   injection h1 with h1 h1'
   subst h1 h1'
   have hr:=Zdm (P:=P) (w:=w) hdk h2
   obtain ⟨sb,_⟩:=ZxQ h6 hk h7
   have h3':arr[j]?=some e:=by rw [<-Wp];exact h3
   have hst:(Instr.keyThatStays (((arr[j]?).map (·.key)).getD vk) vk).run P w=.ok vk w:=by
    rw [h3']
    simp [Instr.keyThatStays,sb]
   refine ⟨rfl,_,?_,Zjj R hs hb0 (arr':=arr.modify j fun e=>{ e with key:=vk,val:=vx }) (clk':=clk) ?_ ?_ ?_ ?_ hlt⟩
   ·simp only [Instr.mapUpdate,run_underlying ht,Zc5 hdk hd,hg,hr,hst,Sem.run_bind,Result.andThen_ok,Zfr e2]
   ·rw [Zfp,Zj6 (fun x:MapEntry=>x.key) _ vk (fun _=>rfl),Xa9]
    exact ZiA e3 hk j
   ·rw [Zfp,Zj6 (fun x:MapEntry=>x.val) _ vx (fun _=>rfl),Xa9]
    exact ZiA e4 hx j
   ·intro q hq
    rcases We hq with hq | rfl
    ·exact e5 q hq
    ·exact hkA
   ·refine ⟨fun e he=>?_,?_⟩
    ·rw [Zfp] at he
     have hm:e.born ∈ (arr.toList.modify j fun e=>{ e with key:=vk,val:=vx }).map (·.born):=XV.2 ⟨e,he,rfl⟩
     rw [ZhM (fun x:MapEntry=>x.born) (fun e:MapEntry=>{ e with key:=vk,val:=vx }) (fun _=>rfl)] at hm
     obtain ⟨e',he',hb'⟩:=XV.1 hm
     rw [<-hb'];exact e6 e' he'
    ·rw [Zfp,ZhM (fun x:MapEntry=>x.born) (fun e:MapEntry=>{ e with key:=vk,val:=vx }) (fun _=>rfl)]
     exact e7
 ·rename_i hf
  simp only [Xa,Xb] at h
  obtain ⟨rfl,rfl,rfl⟩:=h
  rcases Zfc hd' hk es arr.toList 0 _ e3 e4 hf with ⟨_,h2⟩ | ⟨j',y',e,p,h1,_⟩
  ·have hr:=Zdm (P:=P) (w:=w) hdk h2
   refine ⟨rfl,_,?_,Zjj R hs hb0 (arr':=arr.push { key:=vk,val:=vx,born:=clk }) (clk':=clk+1) ?_ ?_ ?_ ?_ hlt⟩
   ·simp only [Instr.mapUpdate,run_underlying ht,Zc5 hdk hd,hg,hr,Sem.run_bind,Result.andThen_ok,Zfr e2]
   ·rw [Xad,Wl,Wl]
    exact Zcu e3 (by simp only [Xw,XS,VRs];exact ⟨_,_,rfl,hk,rfl⟩)
   ·rw [Xad,Wl,Wl]
    exact Zcu e4 (by simp only [Xw,XS,VRs];exact ⟨_,_,rfl,hx,rfl⟩)
   ·intro q hq
    rcases XG.1 hq with hq | hq
    ·exact e5 q hq
    ·rw [XU] at hq;subst hq;exact hkA
   ·refine ⟨fun e he=>?_,?_⟩
    ·rw [Xad] at he
     rcases XG.1 he with he | he
     ·have:=e6 e he;omega
     ·rw [XU] at he;subst he;exact Nat.lt_succ_self clk
    ·rw [Xad,Wl,WJ]
     refine ⟨e7,by simp,?_⟩
     intro a ha b hb'
     simp only [Xw,XS,XU] at hb'
     subst hb'
     obtain ⟨e',he',rfl⟩:=XV.1 ha
     have:=e6 e' he'
     omega
  ·cases h1
 ·cases h
theorem ZDy (R:Rel base w0 I0 I β σ w) {t kt et:TypeId} (ht:P.underlying t=some (.map kt et)) {d:TypeDesc} (hdk:P.underlying kt=some d) {kc:Nat} (hd:ZbV d=some kc) {m k v:AVal} {vm vk:Value} {c:Cls} (ts:List TypeId) (ty:TypeId) (hm:VR I β m vm) (hk:VR I β k vk) (hng:∀ t,m=.map t->∀ w es,σ[t]?≠some (.gmap w es))
  (h:Zf6 σ kc m k=some (v,σ',c)):∃ w',(Builtin.delete_ (t::ts).toArray ty #[vm,vk]).run P w=.ok (.tuple #[]) w'/\v=.tup []/\Rel base w0 I0 I β σ' w':=by
 unfold Zf6 at h
 split at h
 case isFalse=>cases h
 rename_i hkc
 have hd':ZbV d=some (ZaW k):=by rw [hd,hkc]
 split at h
 ·simp only [Xa,Xb] at h
  obtain ⟨rfl,rfl,rfl⟩:=h
  simp only [VR] at hm
  subst hm
  exact ⟨w,by simp [Builtin.delete_,run_underlying ht,Zc5 hdk hd],rfl,R⟩
 ·rename_i b
  simp only [VR] at hm
  obtain ⟨bb,kk,cc,hb,rfl⟩:=hm
  split at h
  case h_2=>rename_i hs;exact absurd hs (hng _ rfl _ _)
  case h_3=>cases h
  rename_i es hs
  obtain ⟨b',k',c',arr,clk,e1,e2,e3,e4,e5,e6,e7⟩:=R.blk _ _ hs
  have hb0:=hb
  rw [hb] at e1
  simp only [Xa,BI.mk.injEq] at e1
  obtain ⟨rfl,rfl,rfl⟩:=e1
  have hg:=Zex (P:=P) e2
  have hlt:bb < w.heap.size:=(XQ.1 e2).1
  split at h
  ·rename_i j y hf
   simp only [Xa,Xb] at h
   obtain ⟨rfl,rfl,rfl⟩:=h
   rcases Zfc hd' hk es arr.toList 0 _ e3 e4 hf with ⟨h1,_⟩ | ⟨j',y',e,p,h1,h2,h3,h4,_⟩
   ·cases h1
   ·simp only [XK] at h1 h2
    injection h1 with h1
    injection h1 with h1 h1'
    subst h1 h1'
    have hr:=Zdm (P:=P) (w:=w) hdk h2
    have el:(arr.eraseIdxIfInBounds j).toList=arr.toList.eraseIdx j:=by simp
    refine ⟨_,?_,rfl,Zjj R hs hb0 (arr':=arr.eraseIdxIfInBounds j) (clk':=clk) ?_ ?_ ?_ ?_ hlt⟩
    ·simp [Builtin.delete_,run_underlying ht,Zc5 hdk hd,hg,hr,Zfr e2]
    ·rw [el,Zfh,Zfh];exact Zkt j e3
    ·rw [el,Zfh,Zfh];exact Zkt j e4
    ·exact fun q hq=>e5 q (XaE hq)
    ·refine ⟨fun e he=>?_,?_⟩
     ·rw [el] at he;exact e6 e (XaE he)
     ·rw [el,Zfh];exact e7.sublist (List.eraseIdx_sublist _ _)
  ·rename_i hf
   simp only [Xa,Xb] at h
   obtain ⟨rfl,rfl,rfl⟩:=h
   rcases Zfc hd' hk es arr.toList 0 _ e3 e4 hf with ⟨_,h2⟩ | ⟨j',y',e,p,h1,_⟩
   ·have hr:=Zdm (P:=P) (w:=w) hdk h2
    refine ⟨_,?_,rfl,Zjj R hs hb0 (arr':=arr) (clk':=clk) e3 e4 e5 ⟨e6,e7⟩ hlt⟩
    simp [Builtin.delete_,run_underlying ht,Zc5 hdk hd,hg,hr,Zfr e2]
   ·cases h1
  ·cases h
 ·cases h
theorem ZFD (R:Rel base w0 I0 I β σ w) {t kt et:TypeId} (ht:P.underlying t=some (.map kt et)) {m v:AVal} {vm:Value} {c:Cls} (ty:TypeId) (hm:VR I β m vm) (h:Zfo σ m=some (v,σ',c)):σ'=σ/\∃ u,(Builtin.len_ #[t] ty #[vm]).run P w=.ok u w/\VR I β v u:=by
 unfold Zfo at h
 split at h
 ·simp only [Xa,Xb] at h
  obtain ⟨rfl,rfl,rfl⟩:=h
  simp only [VR] at hm
  subst hm
  exact ⟨rfl,goInt 0,by simp [Builtin.len_,run_underlying ht],by simp [VR,goInt]⟩
 ·rename_i b
  simp only [VR] at hm
  obtain ⟨bb,kk,cc,hb,rfl⟩:=hm
  split at h
  ·rename_i es hs
   simp only [Xa,Xb] at h
   obtain ⟨rfl,rfl,rfl⟩:=h
   obtain ⟨b',k',c',arr,clk,e1,e2,e3,_⟩:=R.blk _ _ hs
   rw [hb] at e1
   simp only [Xa,BI.mk.injEq] at e1
   obtain ⟨rfl,rfl,rfl⟩:=e1
   have hg:=Zex (P:=P) e2
   have hl:es.length=arr.size:=by simpa using Zan e3
   exact ⟨rfl,goInt arr.size,by simp [Builtin.len_,run_underlying ht,hg],by simp [VR,goInt,hl]⟩
  ·rename_i es hs
   simp only [Xa,Xb] at h
   obtain ⟨rfl,rfl,rfl⟩:=h
   obtain ⟨b',k',c',arr,clk,e1,e2,e3,_⟩:=R.blk _ _ hs
   rw [hb] at e1
   simp only [Xa,BI.mk.injEq] at e1
   obtain ⟨rfl,rfl,rfl⟩:=e1
   have hg:=Zex (P:=P) e2
   have hl:es.length=arr.size:=by simpa using Zan e3
   exact ⟨rfl,goInt arr.size,by simp [Builtin.len_,run_underlying ht,hg],by simp [VR,goInt,hl]⟩
  ·cases h
 ·cases h
theorem ZBR (R:Rel base w0 I0 I β σ w) (hb:KLt base w0) (t:TypeId) {sq:Nat} (hs:σ[sq]?=some .free) :
  ∃ u w',(Instr.makeMap t none).run P w=.ok u w'/\Post base w0 I0 I β (.map sq) (σ.set sq (.map [])) u w':=by
 obtain ⟨R',hle⟩:=R.newObj hb hs (.map #[] 0) (.map []) 1 1 (by simp [Zw,Bmap.put_same]) rfl (by simp)
  ⟨_,_,_,#[],0,Bmap.put_same β sq 0 _,by simp,by simp [VRs],by simp [VRs],by simp,by simp [ZfP]⟩
 refine ⟨.map (some w.heap.size),_,run_makeMap t w,Post.mk (Imm.le.refl I) hle R' ?_⟩
 simp only [VR]
 exact ⟨_,_,_,Bmap.put_same β sq 0 _,rfl⟩
end
end
section
open Go.RowKit
section
variable {base:Nat->Prop} {w0 w:World} {I0 I:Imm} {β:Bmap} {σ:Za}
theorem ZkD {k:Nat}:∀ {xs:List AVal},(∀ x ∈ xs,x.cells.length=k)->(xs.flatMap AVal.cells).length=xs.length*k
 | [],_=>by simp
 | x::xs,h=>by
  rw [X5,XE,h x (by simp),ZkD (fun y hy=>h y (by simp [hy])),Xq,Nat.succ_mul,W6]
theorem ZBH {k s:Nat} {v:Value} {xs:List AVal} (hk:0 < k) (h:GEnt I β w k v (.inl xs)) (hs:β s 0=none):∃ bi:BI,(∀ b,bi.b=some b↔ZaS v=some b)/\BR I (β.put s 0 bi) w s (.row 0 k xs)/\VR I (β.put s 0 bi) (.sl s 0 0 xs.length) v:=by
 obtain ⟨t1,t2,vs,⟨A,n,c,rfl,h1,h2,h3,h4⟩,t4⟩:=h
 have hn:xs.length=n:=by
  have:=Zan t4
  rw [ZkD t2,h1] at this
  exact Nat.eq_of_mul_eq_mul_right hk this
 subst hn
 by_cases hc:c=0
 ·subst hc
  have h0:xs.length=0:=by omega
  refine ⟨⟨none,k,0⟩,fun b=>by simp [ZaS],⟨_,Bmap.put_same β s 0 _,rfl,hk,by simp,by simp;exact Xar.1 h0,t1,t2,XH ⟨rfl,rfl⟩⟩,?_⟩
  simp only [VR]
  exact ⟨_,Bmap.put_same β s 0 _,by simp [h0],by simp,XO (XH ⟨rfl,rfl,A,by rw [h0]⟩)⟩
 ·rcases h4 with h4 | ⟨g,cur,e,rfl,hg,hs',ht⟩
  ·exact absurd h4 hc
  refine ⟨⟨some g,k,c⟩,fun b=>by simp [ZaS,hc],⟨_,Bmap.put_same β s 0 _,rfl,hk,h3,h2,t1,t2,XO ⟨g,cur,e,rfl,hg,hs',?_⟩⟩,?_⟩
  ·rw [ht]
   exact VRs.mono (Imm.le.refl I) (Bmap.put_le hs) _ _ t4
  ·simp only [VR]
   exact ⟨_,Bmap.put_same β s 0 _,by simpa using h2,h3,XH ⟨g,rfl,by simp⟩⟩
theorem ZB9 {w : World} {kb j : Nat} {es : List (AVal × (List AVal ⊕ AVal))} {q y : AVal} {xs : List AVal} {e : MapEntry} (hj : es[j]? = some (q, .inl xs)) (he : (Zdz w kb)[j]? = some e) :
    (Za0 w kb (es.set j (q, .inr y))).Sublist (Za0 w kb es) /\ ((Za0 w kb es).Nodup -> ∀ g, ZaS e.val = some g -> g ∉ Za0 w kb (es.set j (q, .inr y))) := by
  unfold Za0
  generalize Zdz w kb = l at *
  have key : ∀ (es : List (AVal × (List AVal ⊕ AVal))) (l : List MapEntry) (j : Nat), es[j]? = some (q, .inl xs) -> l[j]? = some e ->
      ((((es.set j (q, .inr y)).zip l).filterMap fun p => match p.1.2 with | .inl _ => ZaS p.2.val | .inr _ => none).Sublist ((es.zip l).filterMap fun p => match p.1.2 with | .inl _ => ZaS p.2.val | .inr _ => none)) /\
      (((es.zip l).filterMap fun p => match p.1.2 with | .inl _ => ZaS p.2.val | .inr _ => none).Nodup -> ∀ g, ZaS e.val = some g -> g ∈ ((es.zip l).filterMap fun p => match p.1.2 with | .inl _ => ZaS p.2.val | .inr _ => none) /\ g ∉ (((es.set j (q, .inr y)).zip l).filterMap fun p => match p.1.2 with | .inl _ => ZaS p.2.val | .inr _ => none)) := by
    intro es
    induction es with
    | nil => intro l j h; simp at h
    | cons x es ih =>
      intro l j h h'
      cases l with
      | nil => simp at h'
      | cons a l =>
        cases j with
        | zero =>
          simp only [XN, Xa] at h h'
          subst h h'
          simp only [W7, Wn, WP]
          cases hc : ZaS a.val with
          | none => exact ⟨XaT _, fun _ g hg => by cases hg⟩
          | some g' =>
            refine ⟨Xa8 _ _, fun hn g hg => ?_⟩
            injection hg with hg; subst hg
            exact ⟨by simp, (Wc.1 hn).1⟩
        | succ j =>
          simp only [XC] at h h'
          obtain ⟨i1, i2⟩ := ih l j h h'
          simp only [W8, Wn, WP]
          generalize (match x.2 with | .inl _ => ZaS a.val | .inr _ => none : Option Nat) = o
          cases o with
          | none => exact ⟨i1, i2⟩
          | some g' =>
            refine ⟨i1.cons_cons _, fun hn g hg => ?_⟩
            obtain ⟨n1, n2⟩ := Wc.1 hn
            obtain ⟨m1, m2⟩ := i2 n2 g hg
            refine ⟨WE _ m1, ?_⟩
            rw [XP]
            rintro (rfl | h)
            . exact n1 m1
            . exact m2 h
  obtain ⟨k1, k2⟩ := key es l j hj he
  refine ⟨k1.cons_cons _, fun hn g hg => ?_⟩
  obtain ⟨n1, n2⟩ := Wc.1 hn
  obtain ⟨m1, m2⟩ := k2 n2 g hg
  rw [XP]
  rintro (rfl | h)
  . exact n1 m1
  . exact m2 h
theorem Rel.take_row (R:Rel base w0 I0 I β σ w) {t s k j:Nat} {es:List (AVal×(List AVal ⊕ AVal))} {q:AVal} {xs:List AVal} (ht:σ[t]?=some (.gmap k es)) (hj:es[j]?=some (q,.inl xs)) (hs:σ[s]?=some .free) :
  ∃ (bi:BI) (kb clk:Nat) (arr:Array MapEntry) (e:MapEntry),(β t 0).bind (·.b)=some kb/\w.heap[kb]?=some (.map arr clk)/\arr.toList[j]?=some e/\VR I (β.put s 0 bi) (.sl s 0 0 xs.length) e.val/\β.le (β.put s 0 bi) /\
   Rel base w0 I0 I (β.put s 0 bi) ((σ.set s (.row 0 k xs)).set t (.gmap k (es.set j (q,.inr (.sl s 0 0 xs.length))))) w:=by
 obtain ⟨kb,k',c',hb,hG⟩:=R.blk t _ ht
 obtain ⟨g0,g1,arr,clk,g2,g3,g4,g5,g6⟩:=hG
 have hlen:es.length=arr.toList.length:=by simpa using Zan g3
 have hjl:j < arr.toList.length:=by have:=(Xf.1 hj).1;omega
 obtain ⟨e,he⟩:∃ e,arr.toList[j]?=some e:=⟨_,Xz hjl⟩
 have hfree:=R.free s 0 hs
 obtain ⟨bi,hbi,hrow,hval⟩:=ZBH (s:=s) g1 (g6 j _ e hj he) hfree
 have hle:β.le (β.put s 0 bi):=Bmap.put_le hfree
 have hne:s≠t:=by rintro rfl;rw [hs] at ht;cases ht
 have htl:t < σ.length:=(Xf.1 ht).1
 have hsl:s < σ.length:=(Xf.1 hs).1
 obtain ⟨b1,b2⟩:=ZB9 (w:=w) (kb:=kb) (q:=q) (y:=.sl s 0 0 xs.length) hj (by rw [Zge g2];exact he)
 have hbt:(β.put s 0 bi) t 0=some ⟨some kb,k',c'⟩:=hle _ _ _ hb
 refine ⟨bi,kb,clk,arr,e,by simp [hb],g2,he,hval,hle,?_⟩
 have look:∀ u x,((σ.set s (.row 0 k xs)).set t (.gmap k (es.set j (q,.inr (.sl s 0 0 xs.length)))))[u]?=some x->(u=t/\x=.gmap k (es.set j (q,.inr (.sl s 0 0 xs.length))))\/(u=s/\x=.row 0 k xs)\/(u≠t/\u≠s/\σ[u]?=some x):=by
  intro u x h
  rcases Zh5 (by simpa using htl) h with ⟨rfl,rfl⟩ | ⟨h1,h⟩
  ·exact XH ⟨rfl,rfl⟩
  ·rcases Zh5 hsl h with ⟨rfl,rfl⟩ | ⟨h2,h⟩
   ·exact XO (XH ⟨rfl,rfl⟩)
   ·exact XO (XO ⟨h1,h2,h⟩)
 have ownT:∀ b,b ∈ Za0 w kb es->Zw w β t (.gmap k es) b:=fun b hm=>⟨kb,by simp [hb],hm⟩
 have own1:∀ b,Zw w (β.put s 0 bi) t (.gmap k (es.set j (q,.inr (.sl s 0 0 xs.length)))) b->b ∈ Za0 w kb (es.set j (q,.inr (.sl s 0 0 xs.length))):=by
  rintro b ⟨kb',h1,h2⟩
  rw [hbt] at h1
  simp only [Wq,Xa] at h1
  subst h1;exact h2
 have own2:∀ b,Zw w (β.put s 0 bi) s (.row 0 k xs) b->ZaS e.val=some b:=by
  intro b h
  simp only [Zw,Bmap.put_same,Wq] at h
  exact (hbi b).1 h
 have mem2:∀ b,ZaS e.val=some b->b ∈ Za0 w kb es:=fun b h=>Zy0 hj (by rw [Zge g2];exact he) h
 have own0:∀ u x b,((σ.set s (.row 0 k xs)).set t (.gmap k (es.set j (q,.inr (.sl s 0 0 xs.length)))))[u]?=some x->Zw w (β.put s 0 bi) u x b->∃ y,(u≠s->σ[u]?=some y/\Zw w β u y b)/\(u=s->Zw w β t (.gmap k es) b):=by
  intro u x b hx ho
  rcases look u x hx with ⟨rfl,rfl⟩ | ⟨rfl,rfl⟩ | ⟨h1,h2,hx'⟩
  ·exact ⟨_,fun _=>⟨ht,ownT b (b1.subset (own1 b ho))⟩,fun h=>absurd h.symm hne⟩
  ·exact ⟨.free,fun h=>absurd rfl h,fun _=>ownT b (mem2 b (own2 b ho))⟩
  ·exact ⟨x,fun _=>⟨hx',by rwa [(R.blk u x hx').owns_eq hle] at ho⟩,fun h=>absurd h h2⟩
 refine ⟨R.below,R.old,R.imm,?_,?_,?_,?_,?_,?_,R.glob,?_⟩
 ·intro u x hx
  rcases look u x hx with ⟨rfl,rfl⟩ | ⟨rfl,rfl⟩ | ⟨h1,h2,hx⟩
  ·refine ⟨kb,k',c',hbt,g0.sublist b1,g1,arr,clk,g2,?_,?_,g5,?_⟩
   ·have hm:(es.set j (q,.inr (.sl s 0 0 xs.length))).map (·.1)=es.map (·.1):=by
     apply Wa
     intro i
     rw [XY,XY,Xv]
     split
     ·rename_i e';subst e'
      rw [hj,if_pos (Xf.1 hj).1];rfl
     ·rfl
    rw [hm];exact VRs.mono (Imm.le.refl I) hle _ _ g3
   ·intro p hp
    rcases We hp with hp | rfl
    ·exact g4 p hp
    ·exact g4 (q,.inl xs) (Xx hj)
   ·intro i p e' hp he'
    rw [Xv] at hp
    split at hp
    ·rename_i e2;subst e2
     split at hp
     ·injection hp with hp;subst hp
      rw [he] at he';injection he' with he';subst he'
      exact hval
     ·cases hp
    ·have:=g6 i p e' hp he'
     obtain ⟨x,q'⟩:=p
     cases q' with
     | inr y=>exact VR.mono (Imm.le.refl I) hle _ _ this
     | inl ys =>
      obtain ⟨t1,t2,vs,t3,t4⟩:=this
      exact ⟨t1,t2,vs,t3,VRs.mono (Imm.le.refl I) hle _ _ t4⟩
  ·exact hrow
  ·exact (R.blk u x hx).keep (Imm.le.refl I) hle (fun _ _=>rfl) (fun _ _=>rfl)
 ·intro u x b hx ho
  obtain ⟨y,h1,h2⟩:=own0 u x b hx ho
  by_cases hu:u=s
  ·exact R.own t _ b ht (h2 hu)
  ·exact R.own u y b (h1 hu).1 (h1 hu).2
 ·intro u x u' x' b hx hx' ho ho'
  obtain ⟨y,h1,h2⟩:=own0 u x b hx ho
  obtain ⟨y',h1',h2'⟩:=own0 u' x' b hx' ho'
  by_cases hu:u=s <;> by_cases hu':u'=s
  ·rw [hu,hu']
  ·exfalso
   have e1:=R.apart _ _ _ _ b ht (h1' hu').1 (h2 hu) (h1' hu').2
   subst e1 hu
   rcases look _ _ hx' with ⟨_,rfl⟩ | ⟨h,_⟩ | ⟨h,_⟩
   ·rcases look _ _ hx with ⟨h,_⟩ | ⟨_,rfl⟩ | ⟨_,h,_⟩
    ·exact hne h
    ·exact b2 g0 b (own2 b ho) (own1 b ho')
    ·exact h rfl
   ·exact hu' h
   ·exact h rfl
  ·exfalso
   have e1:=R.apart _ _ _ _ b ht (h1 hu).1 (h2' hu') (h1 hu).2
   subst e1 hu'
   rcases look _ _ hx with ⟨_,rfl⟩ | ⟨h,_⟩ | ⟨h,_⟩
   ·rcases look _ _ hx' with ⟨h,_⟩ | ⟨_,rfl⟩ | ⟨_,h,_⟩
    ·exact hne h
    ·exact b2 g0 b (own2 b ho') (own1 b ho)
    ·exact h rfl
   ·exact hu h
   ·exact h rfl
  ·exact R.apart u y u' y' b (h1 hu).1 (h1' hu').1 (h1 hu).2 (h1' hu').2
 ·intro u g hu
  simp only [List.length_set] at hu
  rw [Bmap.put_ne (by omega)]
  exact R.fresh u g hu
 ·intro u g hx
  rcases look u _ hx with ⟨_,h⟩ | ⟨_,h⟩ | ⟨_,h2,hx⟩
  ·cases h
  ·cases h
  ·rw [Bmap.put_ne h2];exact R.free u g hx
 ·intro u x g hx hg
  rcases look u _ hx with ⟨rfl,rfl⟩ | ⟨rfl,rfl⟩ | ⟨_,h2,hx⟩
  ·rw [Bmap.put_ne (Ne.symm hne)];exact R.gen u _ g ht hg
  ·simp only [Zc] at hg
   rw [Bmap.put_gen (by omega)];exact R.free u g hs
  ·rw [Bmap.put_ne h2];exact R.gen u x g hx hg
 ·intro u x b hx hsee
  rcases look u _ hx with ⟨rfl,rfl⟩ | ⟨rfl,rfl⟩ | ⟨_,h2,hx⟩
  ·cases hsee
  ·cases hsee
  ·exact R.ro u x b hx (((R.blk u x hx).sees_at hle b).1 hsee)
end
end
section
open Go.RowKit
section
variable {base:Nat->Prop} {w0 w:World} {I0 I:Imm} {β:Bmap} {σ:Za}
def ZbQ (p:(AVal×(List AVal ⊕ AVal))×MapEntry):Option Nat:=match p.1.2 with
 | .inl _=>ZaS p.2.val
 | .inr _=>none
theorem Zgx {kb:Nat} {es:List (AVal×(List AVal ⊕ AVal))}:Za0 w kb es=kb::(es.zip (Zdz w kb)).filterMap ZbQ:=rfl
theorem ZCu {kb j : Nat} {es : List (AVal × (List AVal ⊕ AVal))} {q y : AVal} {xs : List AVal} {e : MapEntry} (hj : es[j]? = some (q, .inr y)) (he : (Zdz w kb)[j]? = some e) (hn : (Za0 w kb es).Nodup) (hg : ∀ g, ZaS e.val = some g -> g ∉ Za0 w kb es) :
    (Za0 w kb (es.set j (q, .inl xs))).Nodup /\ ∀ b ∈ Za0 w kb (es.set j (q, .inl xs)), b ∈ Za0 w kb es \/ ZaS e.val = some b := by
  simp only [Zgx] at hn hg ⊢
  generalize Zdz w kb = l at *
  have key : ∀ (es : List (AVal × (List AVal ⊕ AVal))) (l : List MapEntry) (j : Nat), es[j]? = some (q, .inr y) -> l[j]? = some e -> ((es.zip l).filterMap ZbQ).Nodup -> (∀ g, ZaS e.val = some g -> g ∉ (es.zip l).filterMap ZbQ) ->
      (((es.set j (q, .inl xs)).zip l).filterMap ZbQ).Nodup /\ ∀ b ∈ ((es.set j (q, .inl xs)).zip l).filterMap ZbQ, b ∈ (es.zip l).filterMap ZbQ \/ ZaS e.val = some b := by
    intro es
    induction es with
    | nil => intro l j h; simp at h
    | cons x es ih =>
      intro l j h h' hn hg
      cases l with
      | nil => simp at h'
      | cons a l =>
        cases j with
        | zero =>
          simp only [XN, Xa] at h h'
          subst h h'
          have e1 : ZbQ ((q, XbG y), a) = none := rfl
          have e2 : ZbQ ((q, Sum.inl xs), a) = ZaS a.val := rfl
          simp only [W7, Wn, WP, e1, e2] at hn hg ⊢
          cases hc : ZaS a.val with
          | none => exact ⟨hn, fun b hb => XH hb⟩
          | some g' =>
            refine ⟨Wc.2 ⟨hg g' hc, hn⟩, fun b hb => ?_⟩
            rcases XP.1 hb with rfl | hb
            . exact XO rfl
            . exact XH hb
        | succ j =>
          simp only [XC] at h h'
          simp only [W8, Wn, WP] at hn hg ⊢
          generalize ZbQ (x, a) = o at *
          cases o with
          | none => exact ih l j h h' hn hg
          | some g' =>
            obtain ⟨n1, n2⟩ := Wc.1 hn
            obtain ⟨i1, i2⟩ := ih l j h h' n2 (fun g hc hm => hg g hc (WE _ hm))
            refine ⟨Wc.2 ⟨fun hm => ?_, i1⟩, fun b hb => ?_⟩
            . rcases i2 g' hm with h1 | h1
              . exact n1 h1
              . exact hg g' h1 (by simp)
            . rcases XP.1 hb with rfl | hb
              . exact XH (by simp)
              . rcases i2 b hb with h1 | h1
                . exact XH (WE _ h1)
                . exact XO h1
  obtain ⟨n1, n2⟩ := Wc.1 hn
  obtain ⟨k1, k2⟩ := key es l j hj he n2 (fun g hc hm => hg g hc (WE _ hm))
  refine ⟨Wc.2 ⟨fun hm => ?_, k1⟩, fun b hb => ?_⟩
  . rcases k2 kb hm with h1 | h1
    . exact n1 h1
    . exact hg kb h1 (by simp)
  . rcases XP.1 hb with rfl | hb
    . exact XH (by simp)
    . rcases k2 b hb with h1 | h1
      . exact XH (WE _ h1)
      . exact XO h1
theorem Rel.give_row (R:Rel base w0 I0 I β σ w) {t s k j g n:Nat} {es:List (AVal×(List AVal ⊕ AVal))} {q:AVal} {xs:List AVal} (ht:σ[t]?=some (.gmap k es)) (hj:es[j]?=some (q,.inr (.sl s g 0 n))) (hs:σ[s]?=some (.row g k xs)) (hnx:n<=xs.length) :
  Rel base w0 I0 I β ((σ.set s (.frow g k [])).set t (.gmap k (es.set j (q,.inl (xs.take n))))) w:=by
 obtain ⟨kb,k',c',hb,hG⟩:=R.blk t _ ht
 obtain ⟨g0,g1,arr,clk,g2,g3,g4,g5,g6⟩:=hG
 obtain ⟨bi,r1,r2,r3,r4,r5,r6,r7,r8⟩:=R.blk s _ hs
 have hlen:es.length=arr.toList.length:=by simpa using Zan g3
 have hjl:j < arr.toList.length:=by have:=(Xf.1 hj).1;omega
 obtain ⟨e,he⟩:∃ e,arr.toList[j]?=some e:=⟨_,Xz hjl⟩
 have hv:VR I β (.sl s g 0 n) e.val:=g6 j _ e hj he
 have hne:s≠t:=by rintro rfl;rw [hs] at ht;cases ht
 have htl:t < σ.length:=(Xf.1 ht).1
 have hsl:s < σ.length:=(Xf.1 hs).1
 have hent:GEnt I β w k e.val (.inl (xs.take n))/\∀ b,ZaS e.val=some b->bi.b=some b:=by
  simp only [VR] at hv
  obtain ⟨bi',v1,v2,v3,v4⟩:=hv
  rw [r1] at v1;injection v1 with v1;subst v1
  rcases v4 with ⟨b,hbb,hvv⟩ | ⟨hbn,hc0,A,hvv⟩ | ⟨h0,_⟩
  ·rcases r8 with ⟨h8,_⟩ | ⟨b',us,ty,h8,h9,h10,h11⟩
   ·rw [h8] at hbb;cases hbb
   ·rw [h8] at hbb;injection hbb with hbb;subst hbb
    rw [hvv]
    have h12:VRs I β ((xs.take n).flatMap AVal.cells) (us.toList.take (n*k)):=by
     have:=Zeu h11 (n*k)
     rwa [XaB,Xak (Ww k hnx),Zg4 r7] at this
    have r7':∀ x ∈ xs.take n,x.cells.length=k:=fun x hx=>r7 x (W4 hx)
    refine ⟨⟨Zhu r6 n,r7',_,⟨some ⟨b',0,none⟩,n,bi.cap,by simp,?_,Nat.le_trans hnx r5,r4,XO ⟨b',us,ty,rfl,h9,h10,rfl⟩⟩,h12⟩,fun b hcap=>?_⟩
    ·have:=Zan h12
     rw [<-this,ZkD r7',X9,Xak hnx]
    ·simp only [ZaS,Nat.sub_zero] at hcap
     split at hcap
     ·cases hcap
     ·simp only [X4,Xa] at hcap
      rw [h8,hcap]
  ·have hx0:xs=[]:=Xar.1 (by omega)
   subst hx0
   rw [hvv,List.take_nil]
   exact ⟨⟨by simp [Zac],by simp,[],⟨A,0,0,rfl,by simp,X0 _,by simp,XH rfl⟩,by simp [VRs]⟩,fun b hcap=>by simp [ZaS] at hcap⟩
  ·omega
 have hgo:∀ b,ZaS e.val=some b->Zw w β s (.row g k xs) b:=fun b hc=>by
  simp only [Zw,r1,Wq];exact hent.2 b hc
 have ownT:∀ b,b ∈ Za0 w kb es->Zw w β t (.gmap k es) b:=fun b hm=>⟨kb,by simp [hb],hm⟩
 obtain ⟨b1,b2⟩:=ZCu (w:=w) (kb:=kb) (q:=q) (xs:=xs.take n) hj (by rw [Zge g2];exact he) g0 (fun b hc hm=>hne (R.apart s _ t _ b hs ht (hgo b hc) (ownT b hm)))
 have look:∀ u x,((σ.set s (.frow g k [])).set t (.gmap k (es.set j (q,.inl (xs.take n)))))[u]?=some x->(u=t/\x=.gmap k (es.set j (q,.inl (xs.take n))))\/(u=s/\x=.frow g k [])\/(u≠t/\u≠s/\σ[u]?=some x):=by
  intro u x h
  rcases Zh5 (by simpa using htl) h with ⟨rfl,rfl⟩ | ⟨h1,h⟩
  ·exact XH ⟨rfl,rfl⟩
  ·rcases Zh5 hsl h with ⟨rfl,rfl⟩ | ⟨h2,h⟩
   ·exact XO (XH ⟨rfl,rfl⟩)
   ·exact XO (XO ⟨h1,h2,h⟩)
 have own0:∀ u x b,((σ.set s (.frow g k [])).set t (.gmap k (es.set j (q,.inl (xs.take n)))))[u]?=some x->Zw w β u x b->∃ u' y,σ[u']?=some y/\Zw w β u' y b/\(u'=u\/(u'=s/\u=t))/\u≠s:=by
  intro u x b hx ho
  rcases look u x hx with ⟨rfl,rfl⟩ | ⟨rfl,rfl⟩ | ⟨h1,h2,hx'⟩
  ·obtain ⟨kb',h1,h2⟩:=ho
   rw [hb] at h1
   simp only [Wq,Xa] at h1
   subst h1
   rcases b2 b h2 with h3 | h3
   ·exact ⟨u,_,ht,ownT b h3,XH rfl,Ne.symm hne⟩
   ·exact ⟨s,_,hs,hgo b h3,XO ⟨rfl,rfl⟩,Ne.symm hne⟩
  ·cases ho
  ·exact ⟨u,x,hx',ho,XH rfl,h2⟩
 refine ⟨R.below,R.old,R.imm,?_,?_,?_,fun u g hu=>R.fresh u g (by simpa using hu),?_,?_,R.glob,?_⟩
 ·intro u x hx
  rcases look u x hx with ⟨rfl,rfl⟩ | ⟨rfl,rfl⟩ | ⟨h1,h2,hx⟩
  ·refine ⟨kb,k',c',hb,b1,g1,arr,clk,g2,?_,?_,g5,?_⟩
   ·have hm:(es.set j (q,.inl (xs.take n))).map (·.1)=es.map (·.1):=by
     apply Wa
     intro i
     rw [XY,XY,Xv]
     split
     ·rename_i e';subst e'
      rw [hj,if_pos (Xf.1 hj).1];rfl
     ·rfl
    rw [hm];exact g3
   ·intro p hp
    rcases We hp with hp | rfl
    ·exact g4 p hp
    ·exact g4 (q,.inr (.sl s g 0 n)) (Xx hj)
   ·intro i p e' hp he'
    rw [Xv] at hp
    split at hp
    ·rename_i e2;subst e2
     split at hp
     ·injection hp with hp;subst hp
      rw [he] at he';injection he' with he';subst he'
      exact hent.1
     ·cases hp
    ·exact g6 i p e' hp he'
  ·exact ⟨bi,r1,r2,r3,r4,by simp,by simp [Zac],XH rfl⟩
  ·exact R.blk u x hx
 ·intro u x b hx ho
  obtain ⟨u',y,h1,h2,_⟩:=own0 u x b hx ho
  exact R.own u' y b h1 h2
 ·intro u x u' x' b hx hx' ho ho'
  obtain ⟨v,y,h1,h2,h3,h4⟩:=own0 u x b hx ho
  obtain ⟨v',y',h1',h2',h3',h4'⟩:=own0 u' x' b hx' ho'
  have:=R.apart v y v' y' b h1 h1' h2 h2'
  subst this
  rcases h3 with rfl | ⟨rfl,rfl⟩
  ·rcases h3' with h | ⟨h,h'⟩
   ·exact h
   ·exact absurd h h4
  ·rcases h3' with h | ⟨_,h'⟩
   ·exact absurd h.symm h4'
   ·exact h'.symm
 ·intro u g' hx
  rcases look u _ hx with ⟨_,h⟩ | ⟨_,h⟩ | ⟨_,_,hx⟩
  ·cases h
  ·cases h
  ·exact R.free u g' hx
 ·intro u x g' hx hg
  rcases look u _ hx with ⟨rfl,rfl⟩ | ⟨rfl,rfl⟩ | ⟨_,_,hx⟩
  ·exact R.gen u _ g' ht hg
  ·exact R.gen u _ g' hs hg
  ·exact R.gen u x g' hx hg
 ·intro u x b hx hsee
  rcases look u _ hx with ⟨rfl,rfl⟩ | ⟨rfl,rfl⟩ | ⟨_,_,hx⟩
  ·cases hsee
  ·cases hsee
  ·exact R.ro u x b hx hsee
end
end
section
open Go.RowKit
section
variable {P:Program} {base:Nat->Prop} {w0 w w':World} {I0 I I':Imm} {β β':Bmap} {σ σ':Za}
theorem ZgF {d:TypeDesc} {x:AVal} {vx:Value} (hd:ZbV d=some (ZaW x)) (hx:VR I β x vx):∀ (es:List (AVal×(List AVal ⊕ AVal))) (arr:List MapEntry) (i:Nat) (r:Option (Nat×(List AVal ⊕ AVal))),VRs I β (es.map (·.1)) (arr.map (·.key))->Zdj x es i=some r ->
  (r=none/\Instr.findNow d vx arr i=some none) \/
  ∃ j y e q,r=some (i+j,y)/\Instr.findNow d vx arr i=some (some (i+j,e.val))/\arr[j]?=some e/\es[j]?=some (q,y)/\Zdx x q=some true/\VR I β q e.key
 | [],arr,i,r,hk,h=>by
  unfold Zdj at h
  injection h with h
  subst h
  simp only [XS,VRs,List.map_eq_nil_iff] at hk
  subst hk
  exact XH ⟨rfl,by simp [Instr.findNow]⟩
 | (k,y)::es,arr,i,r,hk,h=>by
  unfold Zdj at h
  cases arr with
  | nil =>
   simp only [Xw,XS,VRs] at hk
   obtain ⟨_,_,hk,_⟩:=hk
   cases hk
  | cons e arr =>
  simp only [Xw,VRs] at hk
  obtain ⟨_,_,ek,k1,k2⟩:=hk
  injection ek with ek1 ek2
  subst ek1 ek2
  split at h
  ·rename_i ha
   injection h with h
   subst h
   refine XO ⟨0,y,e,k,rfl,?_,rfl,rfl,ha,k1⟩
   simp only [Instr.findNow,Zkr hd ha hx k1,Wm]
  ·rename_i ha
   have hn:=Zkr hd ha hx k1
   rcases ZgF hd hx es arr (i+1) r k2 h with ⟨h1,h2⟩ | ⟨j,y',e',q',h1,h2,h3,h4,h5⟩
   ·exact XH ⟨h1,by simp only [Instr.findNow,hn];exact h2⟩
   ·refine XO ⟨j+1,y',e',q',by rw [h1,W2,W6 1 j],?_,by simpa using h3,by simpa using h4,h5⟩
    simp only [Instr.findNow,hn]
    rw [h2,W2,W6 1 j]
  ·cases h
theorem ZFo (R:Rel base w0 I0 I β σ w) {t kt et:TypeId} (ht:P.underlying t=some (.map kt et)) {d:TypeDesc} (hdk:P.underlying kt=some d) {kc:Nat} (hd:ZbV d=some kc) {z:AVal} (hz:ZdK P et=some z) {s:Nat} {m k v:AVal} {vm vk:Value} {c:Cls} (hm:VR I β m vm) (hk:VR I β k vk) (hs:σ[s]?=some .free)
  (h:Zdd σ s kc z m k=some (v,σ',c)):∃ u,(Instr.lookup t vm vk false).run P w=.ok u w/\Post base w0 I0 I β v σ' u w:=by
 obtain ⟨vz,hvz,hzr⟩:=Zv3 (P:=P) (w:=w) (I:=I) (β:=β) hz
 unfold Zdd at h
 split at h
 case isFalse=>cases h
 rename_i hkc
 have hd':ZbV d=some (ZaW k):=by rw [hd,hkc]
 split at h
 case h_2=>cases h
 rename_i b
 simp only [VR] at hm
 obtain ⟨bb,kk,cc,hb,rfl⟩:=hm
 split at h
 case h_2=>cases h
 rename_i wd es ht'
 obtain ⟨kb,k',c',e1,hG⟩:=R.blk _ _ ht'
 rw [hb] at e1
 simp only [Xa,BI.mk.injEq] at e1
 obtain ⟨rfl,rfl,rfl⟩:=e1
 obtain ⟨g0,g1,arr,clk,g2,g3,g4,g5,g6⟩:=hG
 have hg:=Zex (P:=P) g2
 split at h
 ·rename_i j xs hf
  simp only [Xa,Xb] at h
  obtain ⟨rfl,rfl,rfl⟩:=h
  rcases ZgF hd' hk es arr.toList 0 _ g3 hf with ⟨h1,_⟩ | ⟨j',y',e,q,h1,h2,h3,h4,_⟩
  ·cases h1
  ·simp only [XK,Xa,Xb] at h1
   obtain ⟨rfl,rfl⟩:=h1
   have hr:=Zdm (P:=P) (w:=w) hdk h2
   obtain ⟨bi,kb2,clk2,arr2,e2,t1,t2,t3,t4,t5,t6⟩:=R.take_row ht' h4 hs
   rw [hb] at t1
   simp only [Wq,Xa] at t1
   subst t1
   rw [g2] at t2
   simp only [Xa,Obj.map.injEq] at t2
   obtain ⟨rfl,rfl⟩:=t2
   rw [h3] at t3;injection t3 with t3;subst t3
   have hq:(es.getD j (k,.inl xs)).1=q:=by simp [Xn,h4]
   rw [hq]
   refine ⟨e.val,?_,Post.mk (Imm.le.refl I) t5 t6 t4⟩
   simp [Instr.lookup,run_underlying ht,Zc5 hdk hd,hg,hr]
 ·rename_i j y hf
  simp only [Xa,Xb] at h
  obtain ⟨rfl,rfl,rfl⟩:=h
  rcases ZgF hd' hk es arr.toList 0 _ g3 hf with ⟨h1,_⟩ | ⟨j',y',e,q,h1,h2,h3,h4,_⟩
  ·cases h1
  ·simp only [XK,Xa,Xb] at h1
   obtain ⟨rfl,rfl⟩:=h1
   have hr:=Zdm (P:=P) (w:=w) hdk h2
   refine ⟨e.val,?_,Post.here R (g6 _ _ e h4 h3)⟩
   simp [Instr.lookup,run_underlying ht,Zc5 hdk hd,hg,hr]
 ·rename_i hf
  simp only [Xa,Xb] at h
  obtain ⟨rfl,rfl,rfl⟩:=h
  rcases ZgF hd' hk es arr.toList 0 _ g3 hf with ⟨_,h2⟩ | ⟨j',y',e,q,h1,_⟩
  ·have hr:=Zdm (P:=P) (w:=w) hdk h2
   refine ⟨vz,?_,Post.here R hzr⟩
   simp [Instr.lookup,run_underlying ht,Zc5 hdk hd,hg,hr,hvz]
  ·cases h1
 ·cases h
end
end
section
open Go.RowKit
section
variable {P:Program} {base:Nat->Prop} {w0 w w':World} {I0 I I':Imm} {β β':Bmap} {σ σ':Za}
theorem ZDA (R : Rel base w0 I0 I β σ w) (hb : KLt base w0) (t : TypeId) {k : Nat} (hk : 0 < k) {sq : Nat} (hs : σ[sq]? = some .free) :
    ∃ u w', (Instr.makeMap t none).run P w = .ok u w' /\ Post base w0 I0 I β (.map sq) (σ.set sq (.gmap k [])) u w' := by
  have he : ∀ (w : World) (b : Nat), Za0 w b [] = [b] := fun w b => by simp [Za0]
  obtain ⟨R', hle⟩ := R.newObj hb hs (.map #[] 0) (.gmap k []) 1 1 (by
      rintro b ⟨kb, h1, h2⟩
      rw [he] at h2
      simp only [Bmap.put_same, Wq, Xa] at h1
      subst h1
      simpa using h2) rfl (by simp)
    ⟨_, _, _, Bmap.put_same β sq 0 _, by rw [he]; simp, hk, #[], 0, by simp, by simp [VRs], by simp, by simp [ZfP], by simp⟩
  refine ⟨.map (some w.heap.size), _, run_makeMap t w, Post.mk (Imm.le.refl I) hle R' ?_⟩
  simp only [VR]
  exact ⟨_, _, _, Bmap.put_same β sq 0 _, rfl⟩
theorem Rel.regmap (R:Rel base w0 I0 I β σ w) {t k kb:Nat} {es es':List (AVal×(List AVal ⊕ AVal))} (ht:σ[t]?=some (.gmap k es)) (hbt:(β t 0).bind (·.b)=some kb) {o:Obj} (hkm:kb ∈ Za0 w kb es)
  (hG:∃ b k' c,β t 0=some ⟨some b,k',c⟩/\GmapW I β { w with heap:=w.heap.setIfInBounds kb o } k b es') (hsub:∀ b ∈ Za0 { w with heap:=w.heap.setIfInBounds kb o } kb es',b ∈ Za0 w kb es) :
  Rel base w0 I0 I β (σ.set t (.gmap k es')) { w with heap:=w.heap.setIfInBounds kb o }:=by
 have hsl:t < σ.length:=(Xf.1 ht).1
 have ho:=R.own t _ kb ht ⟨kb,hbt,hkm⟩
 have hh:∀ b',b'≠kb->(w.heap.setIfInBounds kb o)[b']?=w.heap[b']?:=by
  intro b' hne
  rw [Wv (fun e=>hne e.symm)]
 have hold:∀ b,Zw { w with heap:=w.heap.setIfInBounds kb o } β t (.gmap k es') b->Zw w β t (.gmap k es) b:=by
  rintro b ⟨kb',h1,h2⟩
  rw [hbt] at h1;injection h1 with h1;subst h1
  exact ⟨kb,hbt,hsub b h2⟩
 refine R.upd (Imm.le.refl I) (Bmap.le.refl β) ⟨rfl,rfl,rfl,by simp,fun k hk=>hh k (by rintro rfl;exact ho.1 hk)⟩ (fun _ _ _=>rfl) ?_ t _ rfl hsl (fun _ _ _=>rfl) ?_ hG ?_ ?_ (by simp)
 ·intro b' o' u h
  have hne:b'≠kb:=by rintro rfl;rw [ho.2 o'] at h;cases h
  rw [<-R.imm b' o' u h]
  simp only [World.cell?,hh b' hne]
 ·intro t' y b' hne hy hb'
  have hbb:b'≠kb:=by rintro rfl;exact hne (R.apart t' y t _ b' hy ht hb' ⟨_,hbt,hkm⟩)
  exact ⟨hh b' hbb,(R.own t' y b' hy hb').2,fun e=>hne (R.apart t' y t _ b' hy ht hb' (hold b' e))⟩
 ·intro b' e
  exact R.own t _ b' ht (hold b' e)
 ·intro g hlt
  exact R.gen t _ g ht hlt
theorem Zyw {kb:Nat} {arr':Array MapEntry} {clk':Nat} (hlt:kb < w.heap.size):Zdz { w with heap:=w.heap.setIfInBounds kb (.map arr' clk') } kb=arr'.toList:=by
 unfold Zdz
 simp only [WI hlt]
theorem ZsG {q y:AVal} {e:MapEntry} {v':MapEntry}:∀ (es:List (AVal×(List AVal ⊕ AVal))) (l:List MapEntry) (j:Nat),l[j]?=some e->(((es.set j (q,.inr y)).zip (l.set j v')).filterMap ZbQ).Sublist ((es.zip l).filterMap ZbQ)
 | [],l,j,h=>by simp
 | x::es,[],j,h=>by simp at h
 | x::es,a::l,0,h=>by
  have e1:ZbQ ((q,XbG y),v')=none:=rfl
  simp only [W7,Wn,WP,e1]
  cases ZbQ (x,a) with
  | none=>exact XaT _
  | some g=>exact Xa8 _ _
 | x::es,a::l,j+1,h=>by
  simp only [XC] at h
  simp only [W8,Wn,WP]
  cases ZbQ (x,a) with
  | none=>exact ZsG es l j h
  | some g=>exact (ZsG es l j h).cons_cons _
theorem ZxS {q y:AVal} {v':MapEntry}:∀ (es:List (AVal×(List AVal ⊕ AVal))) (l:List MapEntry),es.length=l.length->(((es++[(q,(XbG y:List AVal ⊕ AVal))]).zip (l++[v'])).filterMap ZbQ)=((es.zip l).filterMap ZbQ)
 | [],[],_=>rfl
 | [],_::_,h=>by simp at h
 | _::_,[],h=>by simp at h
 | x::es,a::l,h=>by
  simp only [X1,Wn,WP]
  rw [ZxS es l (by simpa using h)]
theorem Zll:∀ (es:List (AVal×(List AVal ⊕ AVal))) (l:List MapEntry) (j:Nat),(((es.eraseIdx j).zip (l.eraseIdx j)).filterMap ZbQ).Sublist ((es.zip l).filterMap ZbQ)
 | [],l,j=>by simp
 | x::es,[],j=>by simp
 | x::es,a::l,0=>by
  simp only [List.eraseIdx_cons_zero,Wn,WP]
  cases ZbQ (x,a) with
  | none=>exact XaT _
  | some g=>exact Xa8 _ _
 | x::es,a::l,j+1=>by
  simp only [List.eraseIdx_cons_succ,Wn,WP]
  cases ZbQ (x,a) with
  | none=>exact Zll es l j
  | some g=>exact (Zll es l j).cons_cons _
theorem GEnt.keep {k kb:Nat} {v:Value} {o:Obj} {p:List AVal ⊕ AVal} (h:GEnt I β w k v p) (hne:∀ xs,p=.inl xs->ZaS v≠some kb):GEnt I β { w with heap:=w.heap.setIfInBounds kb o } k v p:=by
 cases p with
 | inr y=>exact h
 | inl xs =>
  obtain ⟨t1,t2,vs,t3,t4⟩:=h
  refine ⟨t1,t2,vs,t3.keep (fun g hg=>?_),t4⟩
  have : g≠kb:=fun e=>hne xs rfl (by rw [hg,e])
  simp only
  rw [Wv (fun e=>this e.symm)]
theorem Rel.gturn (R:Rel base w0 I0 I β σ w) {b k bb kk cc clk:Nat} {es:List (AVal×(List AVal ⊕ AVal))} {arr:Array MapEntry} (hs:σ[b]?=some (.gmap k es)) (hb:β b 0=some ⟨some bb,kk,cc⟩) (g2:w.heap[bb]?=some (.map arr clk)) {x:AVal} {vx:Value} (hx:VR I β x vx) :
  ∀ (arr':Array MapEntry) (clk':Nat) (es':List (AVal×(List AVal ⊕ AVal))),((es'.zip arr'.toList).filterMap ZbQ).Sublist ((es.zip arr.toList).filterMap ZbQ) ->
   VRs I β (es'.map (·.1)) (arr'.toList.map (·.key))->(∀ p ∈ es',Zcw p.1=true)->ZfP arr' clk' ->
   (∀ (i:Nat) (p:AVal×(List AVal ⊕ AVal)) (e:MapEntry),es'[i]?=some p->arr'.toList[i]?=some e->(p.2=.inr x/\e.val=vx)\/(∃ i':Nat,es[i']?=some p/\arr.toList[i']?=some e)) ->
   Rel base w0 I0 I β (σ.set b (.gmap k es')) { w with heap:=w.heap.setIfInBounds bb (.map arr' clk') }:=by
 obtain ⟨kb,k',c',e1,hG⟩:=R.blk _ _ hs
 rw [hb] at e1
 simp only [Xa,BI.mk.injEq] at e1
 obtain ⟨rfl,rfl,rfl⟩:=e1
 obtain ⟨g0,g1,arr1,clk1,g2',g3,g4,g5,g6⟩:=hG
 rw [g2] at g2'
 simp only [Xa,Obj.map.injEq] at g2'
 obtain ⟨rfl,rfl⟩:=g2'
 have hlt:bb < w.heap.size:=(XQ.1 g2).1
 have hents:=Zge g2
 rw [Zgx,hents] at g0
 obtain ⟨n1,n2⟩:=Wc.1 g0
 have hnk:∀ (i:Nat) (p:AVal×(List AVal ⊕ AVal)) (e:MapEntry),es[i]?=some p->arr.toList[i]?=some e->∀ xs,p.2=.inl xs->ZaS e.val≠some bb:=by
  intro i p e hp he xs hpx hc
  refine n1 (Xax.2 ⟨(p,e),Xx (i:=i) (by rw [XaC];exact ⟨hp,he⟩),?_⟩)
  unfold ZbQ
  simp only [hpx]
  exact hc
 intro arr' clk' es' f1 f2 f3 f4 f5
 have hsub:∀ c ∈ Za0 { w with heap:=w.heap.setIfInBounds bb (.map arr' clk') } bb es',c ∈ Za0 w bb es:=by
  intro c hc
  rw [Zgx,Zyw hlt] at hc
  rw [Zgx,hents]
  rcases XP.1 hc with rfl | hc
  ·simp
  ·exact WE _ (f1.subset hc)
 refine R.regmap hs (by simp [hb]) (by simp [Za0]) ⟨bb,kk,cc,hb,?_,g1,arr',clk',by simp only [WI hlt],f2,f3,f4,?_⟩ hsub
 ·rw [Zgx,Zyw hlt]
  exact Wc.2 ⟨fun h=>n1 (f1.subset h),n2.sublist f1⟩
 ·intro i p e hp he
  rcases f5 i p e hp he with ⟨h1,h2⟩ | ⟨i',h1,h2⟩
  ·rw [h1,h2];exact hx
  ·exact (g6 i' p e h1 h2).keep (hnk i' p e h1 h2)
theorem ZvC (R:Rel base w0 I0 I β σ w) {t kt et:TypeId} (ht:P.underlying t=some (.map kt et)) {d:TypeDesc} (hdk:P.underlying kt=some d) {kc:Nat} (hd:ZbV d=some kc) {b k:Nat} {es:List (AVal×(List AVal ⊕ AVal))} {q x:AVal} {vm vk vx:Value} (hkc:ZaW q=kc) (hkA:Zcw q=true) (hm:VR I β (.map b) vm) (hk:VR I β q vk) (hx:VR I β x vx)
  (hs:σ[b]?=some (.gmap k es)) {es':List (AVal×(List AVal ⊕ AVal))} (h:ZdI q (.inr x) es=some es'):∃ w',(Instr.mapUpdate t vm vk vx).run P w=.ok () w'/\Rel base w0 I0 I β (σ.set b (.gmap k es')) w':=by
 have hd':ZbV d=some (ZaW q):=by rw [hd,hkc]
 simp only [VR] at hm
 obtain ⟨bb,kk,cc,hb,rfl⟩:=hm
 obtain ⟨kb,k',c',e1,hG⟩:=R.blk _ _ hs
 rw [hb] at e1
 simp only [Xa,BI.mk.injEq] at e1
 obtain ⟨rfl,rfl,rfl⟩:=e1
 obtain ⟨g0,g1,arr,clk,g2,g3,g4,g5,g6⟩:=hG
 obtain ⟨s1,s2⟩:=g5
 have hg:=Zex (P:=P) g2
 have hlt:bb < w.heap.size:=(XQ.1 g2).1
 have hlen:es.length=arr.toList.length:=by simpa using Zan g3
 have fin:=R.gturn hs hb g2 hx
 unfold ZdI at h
 split at h
 ·rename_i j y hf
  injection h with h;subst h
  rcases ZgF hd' hk es arr.toList 0 _ g3 hf with ⟨h1,_⟩ | ⟨j',y',e,q',h1,h2,h3,h4,h6,h7⟩
  ·cases h1
  ·simp only [XK,Xa,Xb] at h1 h2
   obtain ⟨rfl,rfl⟩:=h1
   have hr:=Zdm (P:=P) (w:=w) hdk h2
   obtain ⟨sb,_⟩:=ZxQ h6 hk h7
   have h3':arr[j]?=some e:=by rw [<-Wp];exact h3
   have hst:(Instr.keyThatStays (((arr[j]?).map (·.key)).getD vk) vk).run P w=.ok vk w:=by
    rw [h3']
    simp [Instr.keyThatStays,sb]
   have hmod:(arr.modify j fun e=>{ e with key:=vk,val:=vx }).toList=arr.toList.set j { e with key:=vk,val:=vx }:=by
    rw [Zfp]
    apply Wa
    intro i
    rw [List.getElem?_modify,Xv]
    by_cases hij:j=i
    ·subst hij
     have hjl:=(Xf.1 h3).1
     have hjl':j < arr.size:=by simpa using hjl
     have hje:arr[j]=e:=by rw [Array.getElem?_eq_getElem hjl'] at h3';exact XaQ h3'
     simp [hjl',hje]
    ·simp [hij]
   refine ⟨_,?_,fin (arr.modify j fun e=>{ e with key:=vk,val:=vx }) clk _ ?_ ?_ ?_ ?_ ?_⟩
   ·simp only [Instr.mapUpdate,run_underlying ht,Zc5 hdk hd,hg,hr,hst,Sem.run_bind,Result.andThen_ok,Zfr g2]
   ·rw [hmod];exact ZsG es arr.toList j h3
   ·rw [Zfp,Zj6 (fun x:MapEntry=>x.key) _ vk (fun _=>rfl),Xa9]
    exact ZiA g3 hk j
   ·intro p hp
    rcases We hp with hp | rfl
    ·exact g4 p hp
    ·exact hkA
   ·refine ⟨fun e he=>?_,?_⟩
    ·rw [Zfp] at he
     have hm:e.born ∈ (arr.toList.modify j fun e=>{ e with key:=vk,val:=vx }).map (·.born):=XV.2 ⟨e,he,rfl⟩
     rw [ZhM (fun x:MapEntry=>x.born) (fun e:MapEntry=>{ e with key:=vk,val:=vx }) (fun _=>rfl)] at hm
     obtain ⟨e',he',hb'⟩:=XV.1 hm
     rw [<-hb'];exact s1 e' he'
    ·rw [Zfp,ZhM (fun x:MapEntry=>x.born) (fun e:MapEntry=>{ e with key:=vk,val:=vx }) (fun _=>rfl)]
     exact s2
   ·intro i p e' hp he'
    rw [hmod,Xv] at he'
    rw [Xv] at hp
    by_cases hij:j=i
    ·subst hij
     rw [if_pos rfl] at hp he'
     split at hp
     ·injection hp with hp;subst hp
      split at he'
      ·injection he' with he';subst he';exact XH ⟨rfl,rfl⟩
      ·cases he'
     ·cases hp
    ·rw [if_neg hij] at hp he'
     exact XO ⟨i,hp,he'⟩
 ·rename_i hf
  injection h with h;subst h
  rcases ZgF hd' hk es arr.toList 0 _ g3 hf with ⟨_,h2⟩ | ⟨j',y',e,q',h1,_⟩
  ·have hr:=Zdm (P:=P) (w:=w) hdk h2
   refine ⟨_,?_,fin (arr.push { key:=vk,val:=vx,born:=clk }) (clk+1) _ ?_ ?_ ?_ ?_ ?_⟩
   ·simp only [Instr.mapUpdate,run_underlying ht,Zc5 hdk hd,hg,hr,Sem.run_bind,Result.andThen_ok,Zfr g2]
   ·rw [Xad,ZxS es arr.toList hlen]
    exact XaT _
   ·rw [Xad,Wl,Wl]
    exact Zcu g3 (by simp only [Xw,XS,VRs];exact ⟨_,_,rfl,hk,rfl⟩)
   ·intro p hp
    rcases XG.1 hp with hp | hp
    ·exact g4 p hp
    ·rw [XU] at hp;subst hp;exact hkA
   ·refine ⟨fun e he=>?_,?_⟩
    ·rw [Xad] at he
     rcases XG.1 he with he | he
     ·have:=s1 e he;omega
     ·rw [XU] at he;subst he;exact Nat.lt_succ_self clk
    ·rw [Xad,Wl,WJ]
     refine ⟨s2,by simp,?_⟩
     intro a ha b hb'
     simp only [Xw,XS,XU] at hb'
     subst hb'
     obtain ⟨e',he',rfl⟩:=XV.1 ha
     have:=s1 e' he'
     omega
   ·intro i p e' hp he'
    rw [Xad,WT] at he'
    rw [WT] at hp
    by_cases hil:i < es.length
    ·rw [if_pos hil] at hp
     rw [if_pos (by omega)] at he'
     exact XO ⟨i,hp,he'⟩
    ·rw [if_neg hil] at hp
     rw [if_neg (by omega)] at he'
     have h0:i - es.length=0:=by
      have:=(Xf.1 hp).1
      simp only [Xq,List.length_nil] at this
      omega
     rw [h0] at hp
     rw [<-hlen,h0] at he'
     simp only [XN,Xa] at hp he'
     subst hp he'
     exact XH ⟨rfl,rfl⟩
  ·cases h1
 ·cases h
theorem ZwI {q:AVal}:∀ {es:List (AVal×(List AVal ⊕ AVal))} {i j:Nat} {y:List AVal ⊕ AVal},Zdj q es i=some (some (j,y))->∃ j' q',j=i+j'/\es[j']?=some (q',y)
 | [],i,j,y,h=>by simp [Zdj] at h
 | (a,b)::es,i,j,y,h=>by
  simp only [Zdj] at h
  split at h
  ·simp only [Xa,Xb] at h
   obtain ⟨rfl,rfl⟩:=h
   exact ⟨0,a,rfl,rfl⟩
  ·obtain ⟨j',q',e1,e2⟩:=ZwI h
   exact ⟨j'+1,q',by omega,by simpa using e2⟩
  ·cases h
theorem ZC1 (σ:Za) (k:Nat) (x:AVal):Zds σ k x=(.inr x,σ)\/∃ s g n xs,x=.sl s g 0 n/\σ[s]?=some (.row g k xs)/\n<=xs.length/\Zds σ k x=(.inl (xs.take n),σ.set s (.frow g k [])):=by
 unfold Zds
 split
 ·rename_i s g lo n
  split
  ·rename_i g' k1 xs hrow
   split
   ·rename_i hc
    obtain ⟨rfl,rfl,rfl,hn⟩:=hc
    exact XO ⟨s,g',n,xs,rfl,hrow,hn,rfl⟩
   ·exact XH rfl
  ·exact XH rfl
 ·exact XH rfl
theorem ZFe (R:Rel base w0 I0 I β σ w) {t kt et:TypeId} (ht:P.underlying t=some (.map kt et)) {d:TypeDesc} (hdk:P.underlying kt=some d) {kc:Nat} (hd:ZbV d=some kc) {b k:Nat} {es es':List (AVal×(List AVal ⊕ AVal))} {q x:AVal} {vm vk vx:Value} (hkc:ZaW q=kc) (hkA:Zcw q=true) (hm:VR I β (.map b) vm) (hk:VR I β q vk) (hx:VR I β x vx)
  (hs:σ[b]?=some (.gmap k es)) (h:ZdI q (Zds σ k x).1 es=some es'):∃ w',(Instr.mapUpdate t vm vk vx).run P w=.ok () w'/\Rel base w0 I0 I β ((Zds σ k x).2.set b (.gmap k es')) w':=by
 rcases ZC1 σ k x with e | ⟨s,g',n,xs,rfl,hrow,hn,e⟩
 ·rw [e] at h ⊢
  exact ZvC R ht hdk hd hkc hkA hm hk hx hs h
 rw [e] at h ⊢
 simp only at h ⊢
 have hsb:s≠b:=by rintro rfl;rw [hrow] at hs;cases hs
 have hbl:b < σ.length:=(Xf.1 hs).1
 have key:∀ es1,ZdI q (.inr (.sl s g' 0 n)) es=some es1->∀ j,es1[j]?=some (q,.inr (.sl s g' 0 n))->es'=es1.set j (q,.inl (xs.take n))->∃ w',(Instr.mapUpdate t vm vk vx).run P w=.ok () w'/\Rel base w0 I0 I β ((σ.set s (.frow g' k [])).set b (.gmap k es')) w':=by
  intro es1 h1 j hj he
  obtain ⟨w',hw,R'⟩:=ZvC R ht hdk hd hkc hkA hm hk hx hs h1
  have:=R'.give_row (t:=b) (s:=s) (k:=k) (j:=j) (g:=g') (n:=n) (es:=es1) (q:=q) (xs:=xs) (by rw [Xv,if_pos rfl,if_pos hbl]) hj (by rw [Xv,if_neg (fun e=>hsb e.symm)];exact hrow) hn
  rw [List.set_comm _ _ (fun e=>hsb e.symm),Xa1,<-he] at this
  exact ⟨w',hw,this⟩
 unfold ZdI at h key
 split at h
 ·rename_i j y hf
  injection h with h;subst h
  rw [hf] at key
  obtain ⟨j',q',e1,e2⟩:=ZwI hf
  have hj:j < es.length:=by have:=(Xf.1 e2).1;omega
  exact key _ rfl j (by rw [Xv,if_pos rfl,if_pos hj]) (by rw [Xa1])
 ·rename_i hf
  injection h with h;subst h
  rw [hf] at key
  exact key _ rfl es.length (by simp) (by simp)
 ·cases h
theorem Zut {α:Type}:∀ {l:List α} {j i:Nat} {x:α},(l.eraseIdx j)[i]?=some x->l[if i < j then i else i+1]?=some x
 | [],j,i,x,h=>by simp at h
 | a::l,0,i,x,h=>by simpa using h
 | a::l,j+1,0,x,h=>by simpa using h
 | a::l,j+1,i+1,x,h=>by
  have:=Zut (l:=l) (j:=j) (i:=i) (x:=x) (by simpa using h)
  by_cases hij:i < j
  ·rw [if_pos hij] at this;rw [if_pos (by omega)];simpa using this
  ·rw [if_neg hij] at this;rw [if_neg (by omega)];simpa using this
theorem Zxy (R:Rel base w0 I0 I β σ w) {t kt et:TypeId} (ht:P.underlying t=some (.map kt et)) {d:TypeDesc} (hdk:P.underlying kt=some d) {kc:Nat} (hd:ZbV d=some kc) {b k:Nat} {es:List (AVal×(List AVal ⊕ AVal))} {q:AVal} {vm vk:Value} (ts:List TypeId) (ty:TypeId) (hkc:ZaW q=kc) (hm:VR I β (.map b) vm) (hk:VR I β q vk)
  (hs:σ[b]?=some (.gmap k es)) {r:Option (Nat×(List AVal ⊕ AVal))} (h:Zdj q es 0=some r):∃ w',(Builtin.delete_ (t::ts).toArray ty #[vm,vk]).run P w=.ok (.tuple #[]) w'/\Rel base w0 I0 I β (σ.set b (.gmap k (match r with | some (j,_)=>es.eraseIdx j | none=>es))) w':=by
 have hd':ZbV d=some (ZaW q):=by rw [hd,hkc]
 simp only [VR] at hm
 obtain ⟨bb,kk,cc,hb,rfl⟩:=hm
 obtain ⟨kb,k',c',e1,hG⟩:=R.blk _ _ hs
 rw [hb] at e1
 simp only [Xa,BI.mk.injEq] at e1
 obtain ⟨rfl,rfl,rfl⟩:=e1
 obtain ⟨g0,g1,arr,clk,g2,g3,g4,g5,g6⟩:=hG
 have hg:=Zex (P:=P) g2
 have fin:=R.gturn hs hb g2 (x:=.nilp) (vx:=.pointer none) (by simp [VR])
 have hbl:b < σ.length:=(Xf.1 hs).1
 rcases ZgF hd' hk es arr.toList 0 _ g3 h with ⟨rfl,h2⟩ | ⟨j,y,e,q',rfl,h2,h3,h4,h6,h7⟩
 ·have hr:=Zdm (P:=P) (w:=w) hdk h2
  refine ⟨_,?_,fin arr clk es (XaT _) g3 g4 g5 (fun i p e h1 h2=>XO ⟨i,h1,h2⟩)⟩
  simp [Builtin.delete_,run_underlying ht,Zc5 hdk hd,hg,hr,Zfr g2]
 ·simp only [XK] at h2
  have hr:=Zdm (P:=P) (w:=w) hdk h2
  have el:(arr.eraseIdxIfInBounds j).toList=arr.toList.eraseIdx j:=by simp
  simp only [XK]
  refine ⟨_,?_,fin (arr.eraseIdxIfInBounds j) clk (es.eraseIdx j) ?_ ?_ (fun p hp=>g4 p (XaE hp)) ?_ ?_⟩
  ·simp [Builtin.delete_,run_underlying ht,Zc5 hdk hd,hg,hr,Zfr g2]
  ·rw [el];exact Zll es arr.toList j
  ·rw [el,Zfh,Zfh];exact Zkt j g3
  ·refine ⟨fun e he=>?_,?_⟩
   ·rw [el] at he;exact g5.1 e (XaE he)
   ·rw [el,Zfh];exact g5.2.sublist (List.eraseIdx_sublist _ _)
  ·intro i p e' hp he'
   rw [el] at he'
   exact XO ⟨_,Zut hp,Zut he'⟩
theorem ZyE (R:Rel base w0 I0 I β σ w) {t kt et:TypeId} (ht:P.underlying t=some (.map kt et)) {d:TypeDesc} (hdk:P.underlying kt=some d) {kc:Nat} (hd:ZbV d=some kc) {m k x v:AVal} {vm vk vx:Value} {c:Cls} (hm:VR I β m vm) (hk:VR I β k vk) (hx:VR I β x vx)
  (h:ZdN σ kc m k x=some (v,σ',c)):v=.tup []/\∃ w',(Instr.mapUpdate t vm vk vx).run P w=.ok () w'/\Rel base w0 I0 I β σ' w':=by
 by_cases hg:∃ b wd es,m=.map b/\σ[b]?=some (.gmap wd es)
 ·obtain ⟨b,wd,es,rfl,hs⟩:=hg
  unfold ZdN at h
  split at h
  case isFalse=>cases h
  rename_i hkc
  obtain ⟨hkc,hkA,_⟩:=hkc
  simp only [hs] at h
  split at h
  ·rename_i es' he
   simp only [Xa,Xb] at h
   obtain ⟨rfl,rfl,rfl⟩:=h
   exact ⟨rfl,ZFe R ht hdk hd hkc hkA hm hk hx hs he⟩
  ·cases h
 ·exact ZAf R ht hdk hd hm hk hx (fun t e w es hs=>hg ⟨t,w,es,e,hs⟩) h
theorem ZAP (R:Rel base w0 I0 I β σ w) {t kt et:TypeId} (ht:P.underlying t=some (.map kt et)) {d:TypeDesc} (hdk:P.underlying kt=some d) {kc:Nat} (hd:ZbV d=some kc) {m k v:AVal} {vm vk:Value} {c:Cls} (ts:List TypeId) (ty:TypeId) (hm:VR I β m vm) (hk:VR I β k vk)
  (h:Zf6 σ kc m k=some (v,σ',c)):∃ w',(Builtin.delete_ (t::ts).toArray ty #[vm,vk]).run P w=.ok (.tuple #[]) w'/\v=.tup []/\Rel base w0 I0 I β σ' w':=by
 by_cases hg:∃ b wd es,m=.map b/\σ[b]?=some (.gmap wd es)
 ·obtain ⟨b,wd,es,rfl,hs⟩:=hg
  unfold Zf6 at h
  split at h
  case isFalse=>cases h
  rename_i hkc
  simp only [hs] at h
  split at h
  ·rename_i j y he
   simp only [Xa,Xb] at h
   obtain ⟨rfl,rfl,rfl⟩:=h
   obtain ⟨w',h1,h2⟩:=Zxy R ht hdk hd ts ty hkc hm hk hs he
   exact ⟨w',h1,rfl,h2⟩
  ·rename_i he
   simp only [Xa,Xb] at h
   obtain ⟨rfl,rfl,rfl⟩:=h
   obtain ⟨w',h1,h2⟩:=Zxy R ht hdk hd ts ty hkc hm hk hs he
   exact ⟨w',h1,rfl,h2⟩
  ·cases h
 ·exact ZDy R ht hdk hd ts ty hm hk (fun t e w es hs=>hg ⟨t,w,es,e,hs⟩) h
theorem ZyI:∀ {es:List (AVal×(List AVal ⊕ AVal))} {fs:List (AVal×AVal)},Ze8 es=some fs->es.map (·.1)=fs.map (·.1)/\es.length=fs.length/\∀ (i:Nat) (p:AVal×(List AVal ⊕ AVal)),es[i]?=some p->∃ xs,p.2=.inl xs/\fs[i]?=some (p.1,.lst false xs)
 | [],fs,h=>by simp only [Ze8,Xa] at h;subst h;simp
 | (k,.inl xs)::r,fs,h=>by
  simp only [Ze8] at h
  split at h
  ·rename_i l hl
   injection h with h;subst h
   obtain ⟨h1,h2,h3⟩:=ZyI hl
   refine ⟨by simp [h1],by simp [h2],fun i p hp=>?_⟩
   cases i with
   | zero=>simp only [XN,Xa] at hp;subst hp;exact ⟨xs,rfl,rfl⟩
   | succ i=>simp only [XC] at hp ⊢;exact h3 i p hp
  ·cases h
 | (_,.inr _)::_,fs,h=>by simp [Ze8] at h
open Classical in
noncomputable def Imm.addBs (I:Imm) (w:World) (L:List Nat):Imm:=fun b o=>if b ∈ L then w.cell? ⟨b,o,none⟩ else I b o
theorem Rel.melt (R:Rel base w0 I0 I β σ w) {t k:Nat} {es:List (AVal×(List AVal ⊕ AVal))} {fs:List (AVal×AVal)} (ht:σ[t]?=some (.gmap k es)) (hf:Ze8 es=some fs) :
  ∃ I',I.le I'/\Rel base w0 I0 I' β (σ.set t (.map fs)) w:=by
 obtain ⟨kb,k',c',hb,hG⟩:=R.blk t _ ht
 obtain ⟨g0,g1,arr,clk,g2,g3,g4,g5,g6⟩:=hG
 obtain ⟨m1,m2,m3⟩:=ZyI hf
 have hents:=Zge g2
 have hg0:=g0
 rw [Zgx,hents] at g0
 obtain ⟨n1,n2⟩:=Wc.1 g0
 generalize hL:(es.zip arr.toList).filterMap ZbQ=L at *
 have hbs:Za0 w kb es=kb::L:=by rw [Zgx,hents,hL]
 have ownL:∀ b ∈ L,Zw w β t (.gmap k es) b:=fun b hm=>⟨kb,by simp [hb],by rw [hbs];exact WE _ hm⟩
 have ownK:Zw w β t (.gmap k es) kb:=⟨kb,by simp [hb],by rw [hbs];simp⟩
 have hle:I.le (I.addBs w L):=by
  intro b o u h
  unfold Imm.addBs
  by_cases hm:b ∈ L
  ·have:=(R.own t _ b ht (ownL b hm)).2 o
   rw [h] at this;cases this
  ·rw [if_neg hm];exact h
 have hlen:es.length=arr.toList.length:=by simpa using Zan g3
 have htl:t < σ.length:=(Xf.1 ht).1
 have look:∀ u x,(σ.set t (.map fs))[u]?=some x->(u=t/\x=.map fs)\/(u≠t/\σ[u]?=some x):=fun u x h=>Zh5 htl h
 have hnew:∀ (i:Nat) (p:AVal×AVal) (e:MapEntry),fs[i]?=some p->arr.toList[i]?=some e->VR (I.addBs w L) β p.2 e.val:=by
  intro i p e hp he
  have hil:i < es.length:=by rw [m2];exact (Xf.1 hp).1
  obtain ⟨q,hq⟩:∃ q,es[i]?=some q:=⟨_,Xz hil⟩
  obtain ⟨xs,hx1,hx2⟩:=m3 i q hq
  rw [hp] at hx2;injection hx2 with hx2;subst hx2
  have hent:=g6 i q e hq he
  rw [hx1] at hent
  obtain ⟨t1,t2,vs,⟨A,n,c,hv,h1,h2,h3,h4⟩,t4⟩:=hent
  have hn:xs.length=n:=by
   have:=Zan t4
   rw [ZkD t2,h1] at this
   exact Nat.eq_of_mul_eq_mul_right g1 this
  subst hn
  simp only [VR]
  refine ⟨A,c,hv,h2,h3,by simp,?_,t1⟩
  rcases h4 with h4 | ⟨g,cur,e',rfl,hg,hs',htk⟩
  ·exact XH (Xar.1 (by omega))
  ·by_cases hc:c=0
   ·exact XH (Xar.1 (by omega))
   refine XO ⟨g,0,k,rfl,g1,?_⟩
   have hgL:g ∈ L:=by
    rw [<-hL]
    refine Xax.2 ⟨(q,e),Xx (i:=i) (by rw [XaC];exact ⟨hq,he⟩),?_⟩
    unfold ZbQ
    simp only [hx1,hv,ZaS,hc,if_false,X4]
   refine Zht t2 (VRs.mono hle (Bmap.le.refl β) _ _ t4) (fun j u hu=>?_)
   unfold Imm.addBs
   rw [if_pos hgL,XK,Ze2 hg]
   rw [<-htk,X8] at hu
   split at hu
   ·rwa [Wp] at hu
   ·cases hu
 refine ⟨_,hle,R.below,?_,?_,?_,?_,?_,?_,?_,?_,fun b o u h=>hle b o u (R.glob b o u h),?_⟩
 ·intro b o hbase
  unfold Imm.addBs
  rw [if_neg (fun hm=>(R.own t _ b ht (ownL b hm)).1 hbase)]
  exact R.old b o hbase
 ·intro b o u h
  unfold Imm.addBs at h
  split at h
  ·exact h
  ·exact R.imm b o u h
 ·intro u x hx
  rcases look u x hx with ⟨rfl,rfl⟩ | ⟨hne,hx⟩
  ·refine ⟨kb,k',c',arr,clk,hb,g2,?_,?_,?_,g5⟩
   ·rw [<-m1];exact VRs.mono hle (Bmap.le.refl β) _ _ g3
   ·refine ZdF (by simp [<-m2,hlen]) (fun i x v hx hv=>?_)
    rw [XY,XB] at hx hv
    obtain ⟨p,hp,rfl⟩:=hx
    obtain ⟨e,he,rfl⟩:=hv
    exact hnew i p e hp he
   ·intro p hp
    have : p.1 ∈ es.map (·.1):=by rw [m1];exact XV.2 ⟨p,hp,rfl⟩
    obtain ⟨q,hq,e⟩:=XV.1 this
    rw [<-e];exact g4 q hq
  ·exact (R.blk u x hx).keep hle (Bmap.le.refl β) (fun _ _=>rfl) (fun _ _=>rfl)
 ·intro u x b hx ho
  have hIn:∀ (u':Nat) (y:Zq),σ[u']?=some y->Zw w β u' y b->b ∉ L->¬base b/\∀ o,(I.addBs w L) b o=none:=by
   intro u' y hy hoy hnL
   refine ⟨(R.own u' y b hy hoy).1,fun o=>?_⟩
   unfold Imm.addBs
   rw [if_neg hnL]
   exact (R.own u' y b hy hoy).2 o
  rcases look u x hx with ⟨rfl,rfl⟩ | ⟨hne,hx⟩
  ·have hbk:kb=b:=by simpa [Zw,hb] using ho
   subst hbk
   exact hIn u _ ht ownK n1
  ·exact hIn u x hx ho (fun hm=>hne (R.apart u x t _ b hx ht ho (ownL b hm)))
 ·intro u x u' x' b hx hx' ho ho'
  have conv:∀ u x,(σ.set t (.map fs))[u]?=some x->Zw w β u x b->∃ y,σ[u]?=some y/\Zw w β u y b:=by
   intro u x hx ho
   rcases look u x hx with ⟨rfl,rfl⟩ | ⟨hne,hx⟩
   ·have hbk:kb=b:=by simpa [Zw,hb] using ho
    subst hbk
    exact ⟨_,ht,ownK⟩
   ·exact ⟨x,hx,ho⟩
  obtain ⟨y,h1,h2⟩:=conv u x hx ho
  obtain ⟨y',h1',h2'⟩:=conv u' x' hx' ho'
  exact R.apart u y u' y' b h1 h1' h2 h2'
 ·intro u g hu
  exact R.fresh u g (by simpa using hu)
 ·intro u g hx
  rcases look u _ hx with ⟨_,h⟩ | ⟨_,hx⟩
  ·cases h
  ·exact R.free u g hx
 ·intro u x g hx hg
  rcases look u x hx with ⟨rfl,rfl⟩ | ⟨_,hx⟩
  ·exact R.gen u _ g ht hg
  ·exact R.gen u x g hx hg
 ·intro u x b hx hsee
  rcases look u x hx with ⟨rfl,rfl⟩ | ⟨_,hx⟩
  ·cases hsee
  ·exact R.ro u x b hx hsee
end
end
section
open Go.RowKit
section
variable {P:Program} {base:Nat->Prop} {w0 w w':World} {I0 I I':Imm} {β β':Bmap} {σ σ':Za} {tm:Tms}
theorem Zfu {α:Type} {x:Option α} {f:α->AVal×Za×Cls} {y:AVal×Za×Cls} (h:x.map f=some y):∃ a,x=some a/\f a=y:=by simpa [XB] using h
theorem ZBT {t:TypeId} (hu:P.underlying t=some .bool) (p q:Bool) (x y:Operand):(do eqGuard .eql t x y (.bool p) (.bool q);binOp .eql t (.bool p) (.bool q):Sem Value).run P w=.ok (.bool ((p == q) != false)) w:=by
 have h1:(eqGuard .eql t x y (.bool p) (.bool q)).run P w=.ok () w:=by simp [eqGuard]
 simp only [Sem.run_bind,h1,Result.andThen_ok,run_eql_bool w t p q hu]
 cases p <;> cases q <;> rfl
theorem ZAD {t:TypeId} (hu:P.underlying t=some .bool) (p q:Bool) (x y:Operand):(do eqGuard .neq t x y (.bool p) (.bool q);binOp .neq t (.bool p) (.bool q):Sem Value).run P w=.ok (.bool ((p == q) != true)) w:=by
 have h1:(eqGuard .neq t x y (.bool p) (.bool q)).run P w=.ok () w:=by simp [eqGuard]
 have h2:(binOp .neq t (.bool p) (.bool q)).run P w=.ok (.bool (!(p == q))) w:=by
  simp only [binOp,Sem.run_bind,run_equal_bool w t p q hu,Result.andThen_ok,Sem.run_pure]
 simp only [Sem.run_bind,h1,Result.andThen_ok,h2]
 cases p <;> cases q <;> rfl
theorem ZwU {t e:TypeId} (hu:P.underlying t=some (.pointer e)) (p q:Option Addr) (hpq:p=none\/q=none):(Op.equal t (.pointer p) (.pointer q)).run P w=.ok (p.isNone && q.isNone) w:=by
 show (Op.equalIn (9999+1) t (.pointer p) (.pointer q)).run P w=_
 unfold Op.equalIn
 rw [Sem.run_bind,run_underlying hu]
 simp only [Result.andThen_ok]
 rcases hpq with rfl | rfl
 ·cases q <;> simp
 ·cases p <;> simp
theorem Zqb {t e:TypeId} (hu:P.underlying t=some (.pointer e)) (p q:Option Addr) (x y:Operand) (hpq:p=none\/q=none):(do eqGuard .eql t x y (.pointer p) (.pointer q);binOp .eql t (.pointer p) (.pointer q):Sem Value).run P w=.ok (.bool ((p.isNone && q.isNone) != false)) w:=by
 have h1:(eqGuard .eql t x y (.pointer p) (.pointer q)).run P w=.ok () w:=by simp [eqGuard]
 simp only [Sem.run_bind,h1,Result.andThen_ok,binOp,ZwU hu p q hpq,Sem.run_pure]
 simp
theorem Zra {t e:TypeId} (hu:P.underlying t=some (.pointer e)) (p q:Option Addr) (x y:Operand) (hpq:p=none\/q=none):(do eqGuard .neq t x y (.pointer p) (.pointer q);binOp .neq t (.pointer p) (.pointer q):Sem Value).run P w=.ok (.bool ((p.isNone && q.isNone) != true)) w:=by
 have h1:(eqGuard .neq t x y (.pointer p) (.pointer q)).run P w=.ok () w:=by simp [eqGuard]
 simp only [Sem.run_bind,h1,Result.andThen_ok,binOp,ZwU hu p q hpq,Sem.run_pure]
 simp
theorem ZCG {t:TypeId} {ms} (hu:P.underlying t=some (.interface ms)) (neg:Bool) {op:BinOp} (x:Operand) (vy:Value) (hop:op=(if neg then .neq else .eql)):(do eqGuard op t x (.const vy) .nilIface .nilIface;binOp op t .nilIface .nilIface:Sem Value).run P w=.ok (.bool (true != neg)) w:=by
 have h1:(eqGuard op t x (.const vy) .nilIface .nilIface).run P w=.ok () w:=by subst hop;cases neg <;> simp [eqGuard]
 have h2:(Op.equal t .nilIface .nilIface).run P w=.ok true w:=by
  show (Op.equalIn (9999+1) t .nilIface .nilIface).run P w=_
  unfold Op.equalIn
  rw [Sem.run_bind,run_underlying hu]
  simp only [Result.andThen_ok]
  rfl
 subst hop
 cases neg
 ·simp only [Xu,if_false] at h1 ⊢
  simp [h1,h2,binOp]
 ·simp only [if_true] at h1 ⊢
  simp [h1,h2,binOp]
theorem ZE5 {t t1:TypeId} {u:Value} {ms} (hu:P.underlying t=some (.interface ms)) (neg:Bool) {op:BinOp} (x:Operand) (vy:Value) (hop:op=(if neg then .neq else .eql)):(do eqGuard op t x (.const vy) (.iface t1 u) .nilIface;binOp op t (.iface t1 u) .nilIface:Sem Value).run P w=.ok (.bool (false != neg)) w:=by
 have h1:(eqGuard op t x (.const vy) (.iface t1 u) .nilIface).run P w=.ok () w:=by subst hop;cases neg <;> simp [eqGuard]
 have h2:(Op.equal t (.iface t1 u) .nilIface).run P w=.ok false w:=by
  show (Op.equalIn (9999+1) t (.iface t1 u) .nilIface).run P w=_
  unfold Op.equalIn
  rw [Sem.run_bind,run_underlying hu]
  simp only [Result.andThen_ok]
  rfl
 subst hop
 cases neg
 ·simp only [Xu,if_false] at h1 ⊢
  simp [h1,h2,binOp]
 ·simp only [if_true] at h1 ⊢
  simp [h1,h2,binOp]
def OpR (P:Program) (s:Sem Next) (w:World) (base:Nat->Prop) (w0:World) (I0 I:Imm) (β:Bmap) (v:AVal) (σ':Za):Prop :=
 OpOk P s w (Post base w0 I0 I β v σ')\/∃ x,v=.pan x/\OpPan P s w (Post base w0 I0 I β x σ')
theorem OpR.of_call {s:Sem Next} {f:FuncId} {args:Array Value} {v:AVal} (h:s.run P w=.ok (.enter f args) w) (hc:Calls P f args w (fun e w'=>∃ u,Ends v e u/\Post base w0 I0 I β (ZaN v) σ' u w')):OpR P s w base w0 I0 I β v σ':=by
 by_cases hp:∃ x,v=.pan x
 ·obtain ⟨x,rfl⟩:=hp
  exact XO ⟨x,rfl,XO ⟨f,args,w,h,hc.mono fun e w' ⟨u,h1,h2⟩=>⟨u,h1,h2⟩⟩⟩
 ·have hn:∀ x,v≠.pan x:=fun x e=>hp ⟨x,e⟩
  refine XH (XO (XO ⟨f,args,w,h,hc.mono fun e w' ⟨u,h1,h2⟩=>⟨u,?_,by rw [ZfR hn] at h2;exact h2⟩⟩))
  cases v <;> first | exact h1 | exact absurd rfl (hn _)
theorem ZCM {O:Z7} (hO:ZaF P O) {bf:Nat->Bool} {an:Ann} {a:Act} {o:Oper} {own:Nat} {ins:Ins} (x:Operand) (ho:o.op=.move x) (hc:Z9 P an own (.move x)=some ins) (T:TR I β tm a.tmps) (R:Rel base w0 I0 I β σ w) (hb:KLt base w0)
  {sq:Nat} (hsite:nsite ins≠0->σ[sq]?=some .free) {v:AVal} {c:Cls} (h:execI O bf tm σ sq ins=some (v,σ',c)):OpOk P (execOp a.eval o) w (Post base w0 I0 I β v σ'):=by
 rw [show execOp a.eval o=(pure (.value (a.eval x)):Sem Next) by unfold execOp;rw [ho]]
 simp only [Z9] at hc
 simp only [XB] at hc
 obtain ⟨y,hy,rfl⟩:=hc
 simp only [execI,Xa,Xb] at h
 obtain ⟨rfl,rfl,rfl⟩:=h
 exact XH ⟨_,w,rfl,Post.here R (Zah T hy)⟩
theorem ZGd {O:Z7} (hO:ZaF P O) {bf:Nat->Bool} {an:Ann} {a:Act} {o:Oper} {own:Nat} {ins:Ins} (x:Operand) (ho:o.op=.assign x) (hc:Z9 P an own (.assign x)=some ins) (T:TR I β tm a.tmps) (R:Rel base w0 I0 I β σ w) (hb:KLt base w0)
  {sq:Nat} (hsite:nsite ins≠0->σ[sq]?=some .free) {v:AVal} {c:Cls} (h:execI O bf tm σ sq ins=some (v,σ',c)):OpOk P (execOp a.eval o) w (Post base w0 I0 I β v σ'):=by
 rw [show execOp a.eval o=(pure (.value (a.eval x)):Sem Next) by unfold execOp;rw [ho]]
 simp only [Z9] at hc
 simp only [XB] at hc
 obtain ⟨y,hy,rfl⟩:=hc
 simp only [execI,Xa,Xb] at h
 obtain ⟨rfl,rfl,rfl⟩:=h
 exact XH ⟨_,w,rfl,Post.here R (Zah T hy)⟩
theorem ZCj {O:Z7} (hO:ZaF P O) {bf:Nat->Bool} {an:Ann} {a:Act} {o:Oper} {own:Nat} {ins:Ins} (x:Operand) (y:Operand) (z:Operand) (ho:o.op=.pick x y z) (hc:Z9 P an own (.pick x y z)=some ins) (T:TR I β tm a.tmps) (R:Rel base w0 I0 I β σ w) (hb:KLt base w0)
  {sq:Nat} (hsite:nsite ins≠0->σ[sq]?=some .free) {v:AVal} {c:Cls} (h:execI O bf tm σ sq ins=some (v,σ',c)):OpOk P (execOp a.eval o) w (Post base w0 I0 I β v σ'):=by
 rw [show execOp a.eval o=(do pure (.value (if <-asBool (a.eval x) then a.eval y else a.eval z)):Sem Next) by unfold execOp;rw [ho]]
 simp only [Z9] at hc
 split at hc
 ·rename_i c' a' b' hx hy hz
  injection hc with hc;subst hc
  have hx':=Zah T hx
  simp only [execI] at h
  unfold ZfI at h
  split at h
  ·rename_i e
   rw [e] at hx';simp only [VR] at hx'
   simp only [Xa,Xb] at h
   obtain ⟨rfl,rfl,rfl⟩:=h
   exact XH ⟨_,w,by simp [hx',asBool],Post.here R (Zah T hy)⟩
  ·rename_i e
   rw [e] at hx';simp only [VR] at hx'
   simp only [Xa,Xb] at h
   obtain ⟨rfl,rfl,rfl⟩:=h
   exact XH ⟨_,w,by simp [hx',asBool],Post.here R (Zah T hz)⟩
  ·cases h
 ·cases hc
theorem ZCw {O:Z7} (hO:ZaF P O) {bf:Nat->Bool} {an:Ann} {a:Act} {o:Oper} {own:Nat} {ins:Ins} (e:TypeId) (ho:o.op=.alloc e) (hc:Z9 P an own (.alloc e)=some ins) (T:TR I β tm a.tmps) (R:Rel base w0 I0 I β σ w) (hb:KLt base w0)
  {sq:Nat} (hsite:nsite ins≠0->σ[sq]?=some .free) {v:AVal} {c:Cls} (h:execI O bf tm σ sq ins=some (v,σ',c)):OpOk P (execOp a.eval o) w (Post base w0 I0 I β v σ'):=by
 rw [show execOp a.eval o=(do pure (.value (<-Instr.alloc e true (.tuple #[]))):Sem Next) by unfold execOp;rw [ho]]
 simp only [Z9] at hc
 simp only [XB] at hc
 obtain ⟨z,hz,rfl⟩:=hc
 simp only [execI,Xa,Xb] at h
 obtain ⟨rfl,rfl,rfl⟩:=h
 exact OpOk.val (ZDk R hb hz (hsite (by simp [nsite])))
theorem ZFy {O:Z7} (hO:ZaF P O) {bf:Nat->Bool} {an:Ann} {a:Act} {o:Oper} {own:Nat} {ins:Ins} (e:TypeId) (x:Operand) (ho:o.op=.box e x) (hc:Z9 P an own (.box e x)=some ins) (T:TR I β tm a.tmps) (R:Rel base w0 I0 I β σ w) (hb:KLt base w0)
  {sq:Nat} (hsite:nsite ins≠0->σ[sq]?=some .free) {v:AVal} {c:Cls} (h:execI O bf tm σ sq ins=some (v,σ',c)):OpOk P (execOp a.eval o) w (Post base w0 I0 I β v σ'):=by
 rw [show execOp a.eval o=(do pure (.value (<-Instr.box e (a.eval x))):Sem Next) by unfold execOp;rw [ho]]
 simp only [Z9] at hc
 simp only [XB] at hc
 obtain ⟨y,hy,hins⟩:=hc
 by_cases h3:own=3
 ·rw [if_pos h3] at hins
  subst hins
  simp only [execI] at h
  split at h
  ·rename_i e6
   simp only [Xa,Xb] at h
   obtain ⟨rfl,rfl,rfl⟩:=h
   have hv:=Zah T hy
   rw [e6] at hv
   exact OpOk.val (ZDG R hb hv (hsite (by simp [nsite])))
  ·cases h
 rw [if_neg h3] at hins
 by_cases h4:own=4
 ·rw [if_pos h4] at hins
  subst hins
  simp only [execI] at h
  split at h
  ·rename_i e6
   split at h
   ·rename_i hf
    simp only [Xa,Xb] at h
    obtain ⟨rfl,rfl,rfl⟩:=h
    have hv:=Zah T hy
    rw [e6] at hv
    refine OpOk.val (ZA3 R hb hv (hsite (by simp [nsite])) ?_)
    unfold freeAt at hf
    split at hf
    ·assumption
    ·cases hf
   ·cases h
  ·cases h
 rw [if_neg h4] at hins
 subst hins
 simp only [execI] at h
 split at h
 ·cases h
 ·cases h
 ·cases h
 ·rename_i _ hnt _
  simp only [Xa,Xb] at h
  obtain ⟨rfl,rfl,rfl⟩:=h
  exact OpOk.val (ZDu R hb hnt (Zah T hy) (hsite (by simp [nsite])))
theorem ZBo {O:Z7} (hO:ZaF P O) {bf:Nat->Bool} {an:Ann} {a:Act} {o:Oper} {own:Nat} {ins:Ins} (t:TypeId) (parts:Array (Nat×Operand)) (ho:o.op=.build t parts) (hc:Z9 P an own (.build t parts)=some ins) (T:TR I β tm a.tmps) (R:Rel base w0 I0 I β σ w) (hb:KLt base w0)
  {sq:Nat} (hsite:nsite ins≠0->σ[sq]?=some .free) {v:AVal} {c:Cls} (h:execI O bf tm σ sq ins=some (v,σ',c)):OpOk P (execOp a.eval o) w (Post base w0 I0 I β v σ'):=by
 rw [show execOp a.eval o=(do pure (.value (<-Instr.build t (parts.map fun (i,x)=>(i,a.eval x)))):Sem Next) by unfold execOp;rw [ho]]
 simp only [Z9] at hc
 have hc0:Z9 P an own (.build t parts)=some ins:=by simp only [Z9];exact hc
 obtain ⟨zs,ps,rfl⟩:∃ zs ps,ins=.build zs ps:=by
  split at hc
  ·split at hc
   ·simp only [XB] at hc;obtain ⟨ps,_,rfl⟩:=hc;exact ⟨_,_,rfl⟩
   ·cases hc
  ·split at hc
   ·simp only [XB] at hc;obtain ⟨ps,_,rfl⟩:=hc;exact ⟨_,_,rfl⟩
   ·cases hc
  ·cases hc
 simp only [execI] at h
 split at h
 ·rename_i cs hf
  simp only [Xa,Xb] at h
  obtain ⟨rfl,rfl,rfl⟩:=h
  obtain ⟨u,h1,h2⟩:=ZEE (w:=w) T hc0 hf
  exact OpOk.val ⟨u,w,h1,Post.here R h2⟩
 ·cases h
theorem ZEr {O:Z7} (hO:ZaF P O) {bf:Nat->Bool} {an:Ann} {a:Act} {o:Oper} {own:Nat} {ins:Ins} (t:TypeId) (n:Nat) (parts:Array (Nat×Operand)) (ho:o.op=.buildSlice t n parts) (hc:Z9 P an own (.buildSlice t n parts)=some ins) (T:TR I β tm a.tmps) (R:Rel base w0 I0 I β σ w) (hb:KLt base w0)
  {sq:Nat} (hsite:nsite ins≠0->σ[sq]?=some .free) {v:AVal} {c:Cls} (h:execI O bf tm σ sq ins=some (v,σ',c)):OpOk P (execOp a.eval o) w (Post base w0 I0 I β v σ'):=by
 rw [show execOp a.eval o=(do pure (.value (<-Instr.buildSlice t n (parts.map fun (i,x)=>(i,a.eval x)))):Sem Next) by unfold execOp;rw [ho]]
 simp only [Z9] at hc
 split at hc
 ·rename_i k bytes z he
  split at hc
  ·rename_i hn
   simp only [XB] at hc
   obtain ⟨ps,hps,rfl⟩:=hc
   split at h
   ·rename_i ho
    exact OpOk.val (ZAk T R hb he hn hps (hsite (by rw [if_pos ho];simp [nsite])) h)
   ·rename_i ho
    exact OpOk.val (ZDE T R hb he hn hps (fun ho'=>hsite (by rw [if_neg ho];simp [nsite,ho'])) h)
  ·cases hc
 ·cases hc
theorem ZDx {O:Z7} (hO:ZaF P O) {bf:Nat->Bool} {an:Ann} {a:Act} {o:Oper} {own:Nat} {ins:Ins} (t:TypeId) (x:Operand) (ho:o.op=.load t x) (hc:Z9 P an own (.load t x)=some ins) (T:TR I β tm a.tmps) (R:Rel base w0 I0 I β σ w) (hb:KLt base w0)
  {sq:Nat} (hsite:nsite ins≠0->σ[sq]?=some .free) {v:AVal} {c:Cls} (h:execI O bf tm σ sq ins=some (v,σ',c)):OpOk P (execOp a.eval o) w (Post base w0 I0 I β v σ'):=by
 rw [show execOp a.eval o=(do pure (.value (<-Instr.loadAt t (a.eval x))):Sem Next) by unfold execOp;rw [ho]]
 simp only [Z9] at hc
 split at hc
 ·rename_i k y hk hy
  injection hc with hc;subst hc
  simp only [execI] at h
  obtain ⟨u,h1,h2,rfl⟩:=Zxe hk R (Zah T hy) h
  exact OpOk.val ⟨u,w,h1,Post.here R h2⟩
 ·cases hc
theorem ZEd {O:Z7} (hO:ZaF P O) {bf:Nat->Bool} {an:Ann} {a:Act} {o:Oper} {own:Nat} {ins:Ins} (t:TypeId) (x:Operand) (y:Operand) (ho:o.op=.store t x y) (hc:Z9 P an own (.store t x y)=some ins) (T:TR I β tm a.tmps) (R:Rel base w0 I0 I β σ w) (hb:KLt base w0)
  {sq:Nat} (hsite:nsite ins≠0->σ[sq]?=some .free) {v:AVal} {c:Cls} (h:execI O bf tm σ sq ins=some (v,σ',c)):OpOk P (execOp a.eval o) w (Post base w0 I0 I β v σ'):=by
 rw [show execOp a.eval o=(do Instr.storeAt t (a.eval x) (a.eval y);pure .skip:Sem Next) by unfold execOp;rw [ho]]
 simp only [Z9] at hc
 split at hc
 ·rename_i k x' y' hk hx hy
  injection hc with hc;subst hc
  simp only [execI] at h
  exact OpOk.unit (ZBh hk R (Zah T hx) (Zah T hy) h)
 ·cases hc
theorem ZEY {O:Z7} (hO:ZaF P O) {bf:Nat->Bool} {an:Ann} {a:Act} {o:Oper} {own:Nat} {ins:Ins} (x:Operand) (ho:o.op=.nilCheck x) (hc:Z9 P an own (.nilCheck x)=some ins) (T:TR I β tm a.tmps) (R:Rel base w0 I0 I β σ w) (hb:KLt base w0)
  {sq:Nat} (hsite:nsite ins≠0->σ[sq]?=some .free) {v:AVal} {c:Cls} (h:execI O bf tm σ sq ins=some (v,σ',c)):OpOk P (execOp a.eval o) w (Post base w0 I0 I β v σ'):=by
 simp only [Z9] at hc
 simp only [XB] at hc
 obtain ⟨y,hy,rfl⟩:=hc
 have hx:=Zah T hy
 have key:∀ ad,a.eval x=.pointer (some ad)->execOp a.eval o=pure (.value (a.eval x)):=by
  intro ad e
  unfold execOp
  rw [ho]
  simp only [e]
 simp only [execI] at h
 split at h
 ·rename_i t' o' e
  simp only [Xa,Xb] at h
  obtain ⟨rfl,rfl,rfl⟩:=h
  rw [e] at hx
  have hx':=hx
  simp only [VR] at hx'
  obtain ⟨b,k,c',_,hp⟩:=hx'
  rw [key _ hp]
  exact XH ⟨a.eval x,w,rfl,Post.here R hx⟩
 ·rename_i t' g' i' o' e
  simp only [Xa,Xb] at h
  obtain ⟨rfl,rfl,rfl⟩:=h
  rw [e] at hx
  have hx':=hx
  simp only [VR] at hx'
  obtain ⟨b,k,c',_,hp⟩:=hx'
  rw [key _ hp]
  exact XH ⟨a.eval x,w,rfl,Post.here R hx⟩
 ·rename_i cs o' e
  simp only [Xa,Xb] at h
  obtain ⟨rfl,rfl,rfl⟩:=h
  rw [e] at hx
  have hx':=hx
  simp only [VR] at hx'
  obtain ⟨b,off,hp,_⟩:=hx'
  rw [key _ hp]
  exact XH ⟨a.eval x,w,rfl,Post.here R hx⟩
 ·cases h
theorem ZF7 {O : Z7} (hO : ZaF P O) {bf : Nat -> Bool} {an : Ann} {a : Act} {o : Oper} {own : Nat} {ins : Ins} (op : BinOp) (t : TypeId) (x : Operand) (y : Operand) (yt : TypeId) (ho : o.op = .binOp op t x y yt) (hc : Z9 P an own (.binOp op t x y yt) = some ins) (T : TR I β tm a.tmps) (R : Rel base w0 I0 I β σ w) (hb : KLt base w0)
    {sq : Nat} (hsite : nsite ins ≠ 0 -> σ[sq]? = some .free) {v : AVal} {c : Cls} (h : execI O bf tm σ sq ins = some (v, σ', c)) : OpOk P (execOp a.eval o) w (Post base w0 I0 I β v σ') := by
  rw [show execOp a.eval o = (do pure (.value (<- (do eqGuard op t x y (a.eval x) (a.eval y); binOp op t (a.eval x) (a.eval y)))) : Sem Next) by unfold execOp; rw [ho]]
  simp only [Z9] at hc
  split at hc
  . rename_i x' y' hx hy
    have hx' := Zah T hx
    have hy' := Zah T hy
    unfold Zwk at hc
    split at hc
    . injection hc with hc; subst hc
      simp only [execI] at h
      obtain ⟨r, hr, he⟩ := Zfu h
      simp only [Xb] at he
      obtain ⟨rfl, rfl, rfl⟩ := he
      obtain ⟨u, h1, h2⟩ := Zwy (P := P) (w := w) (t := t) x y hx' hy' hr
      exact OpOk.val ⟨u, w, h1, Post.here R h2⟩
    . injection hc with hc; subst hc
      simp only [execI] at h
      obtain ⟨r, hr, he⟩ := Zfu h
      simp only [Xb] at he
      obtain ⟨rfl, rfl, rfl⟩ := he
      obtain ⟨u, h1, h2⟩ := Zwy (P := P) (w := w) (t := t) x y hx' hy' hr
      exact OpOk.val ⟨u, w, h1, Post.here R h2⟩
    . rename_i hu
      split at hc
      all_goals first
        | (cases hc; done)
        | (injection hc with hc; subst hc
           simp only [execI] at h
           split at h
           . rename_i p q e1 e2
             rw [e1] at hx'; rw [e2] at hy'
             simp only [VR] at hx' hy'
             simp only [Xa, Xb] at h
             obtain ⟨rfl, rfl, rfl⟩ := h
             refine OpOk.val ⟨_, w, ?_, Post.here R (by simp only [VR]; rfl)⟩
             rw [hx', hy']
             first | exact ZBT hu p q x y | exact ZAD hu p q x y
           . cases h)
    . rename_i elem hu
      split at hc
      all_goals first
        | (cases hc; done)
        | (injection hc with hc; subst hc
           simp only [execI] at h
           split at h
           . rename_i e1 e2
             rw [e1] at hx'; rw [e2] at hy'
             simp only [VR] at hx' hy'
             simp only [Xa, Xb] at h
             obtain ⟨rfl, rfl, rfl⟩ := h
             refine OpOk.val ⟨_, w, ?_, Post.here R (by simp only [VR]; rfl)⟩
             rw [hx', hy']
             first | exact Zqb hu _ _ x y (by simp) | exact Zra hu _ _ x y (by simp)
           . rename_i t1 o1 e1 e2
             rw [e1] at hx'; rw [e2] at hy'
             simp only [VR] at hx' hy'
             obtain ⟨b, k, c', _, hy'⟩ := hy'
             simp only [Xa, Xb] at h
             obtain ⟨rfl, rfl, rfl⟩ := h
             refine OpOk.val ⟨_, w, ?_, Post.here R (by simp only [VR]; rfl)⟩
             rw [hx', hy']
             first | exact Zqb hu _ _ x y (by simp) | exact Zra hu _ _ x y (by simp)
           . rename_i t1 o1 e1 e2
             rw [e1] at hx'; rw [e2] at hy'
             simp only [VR] at hx' hy'
             obtain ⟨b, k, c', _, hx'⟩ := hx'
             simp only [Xa, Xb] at h
             obtain ⟨rfl, rfl, rfl⟩ := h
             refine OpOk.val ⟨_, w, ?_, Post.here R (by simp only [VR]; rfl)⟩
             rw [hx', hy']
             first | exact Zqb hu _ _ x y (by simp) | exact Zra hu _ _ x y (by simp)
           . cases h)
    . rename_i fs hu
      split at hc
      rotate_left
      . split at hc
        case isFalse => cases hc
        rename_i hfl
        have fin : ∀ (neg : Bool), op = (if neg then .neq else .eql) -> execI O bf tm σ sq (.eqv neg (Ze1 P fs.toList) x' y') = some (v, σ', c) -> OpOk P (do pure (.value (<- (do eqGuard op t x y (a.eval x) (a.eval y); binOp op t (a.eval x) (a.eval y))))) w (Post base w0 I0 I β v σ') := by
          intro neg hop h
          simp only [execI] at h
          split at h
          . rename_i xs ys e1 e2
            rw [e1] at hx'; rw [e2] at hy'
            simp only [VR] at hx' hy'
            obtain ⟨us, hx1, hx2⟩ := hx'
            obtain ⟨vs, hy1, hy2⟩ := hy'
            split at h
            case isFalse => cases h
            rename_i hk
            split at h
            . rename_i b hb'
              simp only [Xa, Xb] at h
              obtain ⟨rfl, rfl, rfl⟩ := h
              refine OpOk.val ⟨_, w, ?_, Post.here R (by simp only [VR]; rfl)⟩
              rw [hx1, hy1]
              exact ZBJ hu hfl hx2 hy2 hk hb' neg hop x y
            . cases h
          . cases h
        split at hc
        . injection hc with hc; subst hc; exact fin false rfl h
        . injection hc with hc; subst hc; exact fin true rfl h
        . cases hc
      rename_i hfl
      have fin : ∀ (neg : Bool), op = (if neg then .neq else .eql) -> execI O bf tm σ sq (.eqv neg (fs.toList.map fun f => (Zev P f.type).getD 3) x' y') = some (v, σ', c) -> OpOk P (do pure (.value (<- (do eqGuard op t x y (a.eval x) (a.eval y); binOp op t (a.eval x) (a.eval y))))) w (Post base w0 I0 I β v σ') := by
        intro neg hop h
        simp only [execI] at h
        split at h
        . rename_i xs ys e1 e2
          rw [e1] at hx'; rw [e2] at hy'
          simp only [VR] at hx' hy'
          obtain ⟨us, hx1, hx2⟩ := hx'
          obtain ⟨vs, hy1, hy2⟩ := hy'
          split at h
          case isFalse => cases h
          rename_i hk
          split at h
          . rename_i b hb'
            simp only [Xa, Xb] at h
            obtain ⟨rfl, rfl, rfl⟩ := h
            refine OpOk.val ⟨_, w, ?_, Post.here R (by simp only [VR]; rfl)⟩
            rw [hx1, hy1]
            exact ZDm hu hfl hx2 hy2 (Zi8 hk) hb' neg hop x y
          . cases h
        . cases h
      split at hc
      . injection hc with hc; subst hc; exact fin false rfl h
      . injection hc with hc; subst hc; exact fin true rfl h
      . cases hc
    . rename_i ms hu
      have fin : ∀ (neg : Bool), y' = .c .nili -> op = (if neg then .neq else .eql) -> execI O bf tm σ sq (.ieq neg x' y') = some (v, σ', c) -> OpOk P (do pure (.value (<- (do eqGuard op t x y (a.eval x) (a.eval y); binOp op t (a.eval x) (a.eval y))))) w (Post base w0 I0 I β v σ') := by
        intro neg hy0 hop h
        subst hy0
        obtain ⟨vy, rfl⟩ : ∃ vy, y = .const vy := by
          cases y with
          | const vy => exact ⟨vy, rfl⟩
          | tmp t => simp [Zar] at hy
          | func f => simp only [Zar] at hy; split at hy <;> simp at hy
          | global g => simp [Zar] at hy
        simp only [Opd.ev, VR] at hy'
        have hms : P.underlying t = some (.interface ms) := hu
        simp only [execI] at h
        rw [show (Opd.c AVal.nili).ev tm = .nili from rfl] at h
        split at h
        . rename_i e1 e2
          rw [e1] at hx'
          simp only [VR] at hx'
          simp only [Xa, Xb] at h
          obtain ⟨rfl, rfl, rfl⟩ := h
          refine OpOk.val ⟨_, w, ?_, Post.here R (by simp only [VR]; rfl)⟩
          rw [hx', hy']
          exact ZCG hms neg x vy hop
        . rename_i e2; cases e2
        . rename_i t1 x1 e1 e2
          rw [e1] at hx'
          simp only [VR] at hx'
          obtain ⟨u, hx', _⟩ := hx'
          simp only [Xa, Xb] at h
          obtain ⟨rfl, rfl, rfl⟩ := h
          refine OpOk.val ⟨_, w, ?_, Post.here R (by simp only [VR]; rfl)⟩
          rw [hx', hy']
          exact ZE5 hms neg x vy hop
        . cases h
      split at hc
      . injection hc with hc; subst hc; exact fin false rfl rfl h
      . injection hc with hc; subst hc; exact fin true rfl rfl h
      . cases hc
    . cases hc
  . cases hc
theorem ZCY {O:Z7} (hO:ZaF P O) {bf:Nat->Bool} {an:Ann} {a:Act} {o:Oper} {own:Nat} {ins:Ins} (op:UnOp) (t:TypeId) (x:Operand) (ho:o.op=.unOp op t x) (hc:Z9 P an own (.unOp op t x)=some ins) (T:TR I β tm a.tmps) (R:Rel base w0 I0 I β σ w) (hb:KLt base w0)
  {sq:Nat} (hsite:nsite ins≠0->σ[sq]?=some .free) {v:AVal} {c:Cls} (h:execI O bf tm σ sq ins=some (v,σ',c)):OpOk P (execOp a.eval o) w (Post base w0 I0 I β v σ'):=by
 rw [show execOp a.eval o=(do pure (.value (<-Op.unary op (a.eval x))):Sem Next) by unfold execOp;rw [ho]]
 simp only [Z9] at hc
 simp only [XB] at hc
 obtain ⟨y,hy,rfl⟩:=hc
 simp only [execI] at h
 obtain ⟨r,hr,he⟩:=Zfu h
 simp only [Xb] at he
 obtain ⟨rfl,rfl,rfl⟩:=he
 obtain ⟨u,h1,h2⟩:=ZAV (P:=P) (w:=w) (Zah T hy) hr
 exact OpOk.val ⟨u,w,h1,Post.here R h2⟩
theorem ZBA {O:Z7} (hO:ZaF P O) {bf:Nat->Bool} {an:Ann} {a:Act} {o:Oper} {own:Nat} {ins:Ins} (src:TypeId) (dst:TypeId) (x:Operand) (ho:o.op=.convert src dst x) (hc:Z9 P an own (.convert src dst x)=some ins) (T:TR I β tm a.tmps) (R:Rel base w0 I0 I β σ w) (hb:KLt base w0)
  {sq:Nat} (hsite:nsite ins≠0->σ[sq]?=some .free) {v:AVal} {c:Cls} (h:execI O bf tm σ sq ins=some (v,σ',c)):OpOk P (execOp a.eval o) w (Post base w0 I0 I β v σ'):=by
 rw [show execOp a.eval o=(do pure (.value (<-convert src dst (a.eval x))):Sem Next) by unfold execOp;rw [ho]]
 simp only [Z9] at hc
 split at hc
 ·rename_i y hy
  have hx:=Zah T hy
  unfold Zvs at hc
  split at hc
  ·rename_i k1 k2 hs hd
   injection hc with hc;subst hc
   simp only [execI] at h
   split at h
   ·rename_i k n e
    rw [e] at hx;simp only [VR] at hx
    simp only [Xa,Xb] at h
    obtain ⟨rfl,rfl,rfl⟩:=h
    refine OpOk.val ⟨.int k2 (k2.wrap n),w,?_,Post.here R (by simp only [VR])⟩
    rw [hx]
    simp [convert,run_underlying hs,run_underlying hd,Conv.intToInt]
   ·cases h
  ·rename_i hs hd
   injection hc with hc;subst hc
   simp only [execI] at h
   split at h
   ·rename_i k n e
    rw [e] at hx;simp only [VR] at hx
    simp only [Xa,Xb] at h
    obtain ⟨rfl,rfl,rfl⟩:=h
    refine OpOk.val ⟨.string (Utf8.encode n),w,?_,Post.here R ?_⟩
    ·rw [hx]
     simp [convert,run_underlying hs,run_underlying hd,Conv.intToString]
    ·simp only [VR]
     refine ⟨by simp,?_⟩
     unfold Utf8.encode
     simp only
     repeat' split
     all_goals simp
   ·cases h
  ·rename_i hs hd
   injection hc with hc;subst hc
   simp only [execI] at h
   split at h
   ·rename_i l e
    rw [e] at hx
    have hx':=hx
    simp only [VR] at hx'
    simp only [Xa,Xb] at h
    obtain ⟨rfl,rfl,rfl⟩:=h
    refine OpOk.val ⟨_,w,?_,Post.here R hx⟩
    rw [hx'.1]
    simp [convert,run_underlying hs,run_underlying hd]
   ·cases h
  ·rename_i e hs hd
   split at hc
   ·rename_i he
    injection hc with hc;subst hc
    simp only [execI] at h
    split at h
    ·rename_i l e'
     rw [e'] at hx
     simp only [VR] at hx
     simp only [Xa,Xb] at h
     obtain ⟨rfl,rfl,rfl⟩:=h
     rw [hx.1]
     exact OpOk.val (ZEG hs hd he R hb hx.2)
    ·cases h
   ·cases hc
  ·rename_i e1 e hs hd
   split at hc
   ·rename_i hsd
    subst hsd
    split at hc
    ·rename_i he
     injection hc with hc;subst hc
     simp only [execI] at h
     split at h
     ·rename_i t' g n ev
      rw [ev] at hx
      split at h
      ·rename_i g' k xs hrow
       split at h
       ·rename_i hcond
        obtain ⟨rfl,hn,h0⟩:=hcond
        simp only [Xa,Xb] at h
        obtain ⟨rfl,rfl,rfl⟩:=h
        obtain ⟨w1,h1,h2⟩:=ZAU hd he R hrow hn h0 hx
        exact OpOk.val ⟨_,w1,h1,h2⟩
       ·cases h
      ·cases h
     ·cases h
    ·cases hc
   ·cases hc
  ·rename_i e hs hd
   split at hc
   ·rename_i he
    injection hc with hc;subst hc
    simp only [execI] at h
    split at h
    ·rename_i xs ts hel
     split at h
     ·rename_i l hl
      simp only [Xa,Xb] at h
      obtain ⟨rfl,rfl,rfl⟩:=h
      by_cases hst:∃ l',y.ev tm=.str l'
      ·obtain ⟨l',e'⟩:=hst
       rw [e'] at hel hx
       simp only [Zo,Xa,Xb] at hel
       obtain ⟨rfl,rfl⟩:=hel
       simp only [VR] at hx
       have hll:l=l':=by
        obtain ⟨ns,e1,e2⟩:=Zlj hl
        subst e2
        have : l'.map Zn=ns.map (AVal.int .u8):=e1
        apply Wa
        intro j
        have hj:=congrArg (fun q:List AVal=>q[j]?) this
        simp only [XY] at hj ⊢
        cases h1:l'[j]? <;> cases h2:ns[j]? <;> simp_all [Zn]
        rename_i b n
        rw [<-hj];simp
       subst hll
       refine OpOk.val ⟨.string ⟨l.toArray⟩,w,?_,Post.here R (by simp only [VR];exact ⟨trivial,hx.2⟩)⟩
       rw [hx.1]
       simp [convert,run_underlying hs,run_underlying hd]
      ·have hrd:=ZnH R (fun l' e'=>hst ⟨l',e'⟩) hel hx
       obtain ⟨h1,h2⟩:=ZzO (P:=P) hs he hd hrd hl
       exact OpOk.val ⟨_,w,h1,Post.here R (by simp only [VR];exact ⟨trivial,h2⟩)⟩
     ·cases h
    ·cases h
   ·cases hc
  ·cases hc
 ·cases hc
theorem ZB0 {O:Z7} (hO:ZaF P O) {bf:Nat->Bool} {an:Ann} {a:Act} {o:Oper} {own:Nat} {ins:Ins} (t:TypeId) (x:Operand) (lo:Option Operand) (hi:Option Operand) (mx:Option Operand) (ho:o.op=.slice t x lo hi mx) (hc:Z9 P an own (.slice t x lo hi mx)=some ins) (T:TR I β tm a.tmps) (R:Rel base w0 I0 I β σ w) (hb:KLt base w0)
  {sq:Nat} (hsite:nsite ins≠0->σ[sq]?=some .free) {v:AVal} {c:Cls} (h:execI O bf tm σ sq ins=some (v,σ',c)):OpOk P (execOp a.eval o) w (Post base w0 I0 I β v σ'):=by
 rw [show execOp a.eval o=(do pure (.value (<-Instr.sliceAt t (a.eval x) (lo.map a.eval) (hi.map a.eval) (mx.map a.eval))):Sem Next) by unfold execOp;rw [ho]]
 simp only [Z9] at hc
 split at hc
 ·rename_i x' lo' hi' mx' hx hlo hhi hmx
  split at hc
  ·rename_i hu
   split at hc
   ·injection hc with hc;subst hc
    have hmx0:mx=none:=by cases mx <;> simp_all [Zgc]
    subst hmx0
    have hx':=Zah T hx
    simp only [execI] at h
    split at h
    ·rename_i s e
     rw [e] at hx';simp only [VR] at hx'
     split at h
     ·cases h
     rename_i hh h1
     split at h
     ·cases h
     rename_i ll h2
     simp only [Xa,Xb] at h
     obtain ⟨rfl,rfl,rfl⟩:=h
     refine OpOk.val ⟨_,w,?_,Post.here R (by simp only [VR];exact ⟨rfl,by simp;omega⟩)⟩
     rw [hx'.1]
     exact ZEI hu hx'.2 (Zie T hlo) (Zie T hhi) h1 h2
    ·cases h
   ·cases hc
  ·rename_i e hu
   split at hc
   ·rename_i k hk
    split at hc
    ·split at hc
     ·cases hc
     ·rename_i hnn
      injection hc with hc;subst hc
      simp only [execI] at h
      obtain ⟨u,h1,h2⟩:=ZFV hu hk R (Zah T hx) (Zie T hlo) (Zie T hhi) (Zie T hmx) (by
       intro e'
       cases hi' with
       | some _=>simp at e'
       | none=>cases mx' with
        | none=>rfl
        | some q=>exact absurd rfl (hnn q rfl)) h
      exact OpOk.val ⟨u,w,h1,h2⟩
    ·cases hc
   ·cases hc
  ·cases hc
 ·cases hc
theorem ZDt {O:Z7} (hO:ZaF P O) {bf:Nat->Bool} {an:Ann} {a:Act} {o:Oper} {own:Nat} {ins:Ins} (s:TypeId) (x:Operand) (i:Nat) (ho:o.op=.fieldAddr s x i) (hc:Z9 P an own (.fieldAddr s x i)=some ins) (T:TR I β tm a.tmps) (R:Rel base w0 I0 I β σ w) (hb:KLt base w0)
  {sq:Nat} (hsite:nsite ins≠0->σ[sq]?=some .free) {v:AVal} {c:Cls} (h:execI O bf tm σ sq ins=some (v,σ',c)):OpOk P (execOp a.eval o) w (Post base w0 I0 I β v σ'):=by
 rw [show execOp a.eval o=(do pure (.value (<-Instr.fieldAt s (a.eval x) i)):Sem Next) by unfold execOp;rw [ho]]
 simp only [Z9] at hc
 split at hc
 ·rename_i fields x' hs hx
  split at hc
  ·rename_i f hf
   split at hc
   ·rename_i k hk
    split at hc
    ·cases hc
    ·rename_i hk0
     injection hc with hc;subst hc
     simp only [execI] at h
     obtain ⟨r,hr,he⟩:=Zfu h
     simp only [Xb] at he
     obtain ⟨rfl,rfl,rfl⟩:=he
     obtain ⟨u,h1,h2⟩:=ZDM (w:=w) hs hf hk hk0 (Zah T hx) hr
     exact OpOk.val ⟨u,w,h1,Post.here R h2⟩
   ·cases hc
  ·cases hc
 ·cases hc
theorem ZBg {O:Z7} (hO:ZaF P O) {bf:Nat->Bool} {an:Ann} {a:Act} {o:Oper} {own:Nat} {ins:Ins} (s:TypeId) (x:Operand) (i:Nat) (ho:o.op=.field s x i) (hc:Z9 P an own (.field s x i)=some ins) (T:TR I β tm a.tmps) (R:Rel base w0 I0 I β σ w) (hb:KLt base w0)
  {sq:Nat} (hsite:nsite ins≠0->σ[sq]?=some .free) {v:AVal} {c:Cls} (h:execI O bf tm σ sq ins=some (v,σ',c)):OpOk P (execOp a.eval o) w (Post base w0 I0 I β v σ'):=by
 rw [show execOp a.eval o=(do pure (.value (<-Instr.field s (a.eval x) i)):Sem Next) by unfold execOp;rw [ho]]
 simp only [Z9] at hc
 split at hc
 ·rename_i fields x' hs hx
  split at hc
  ·rename_i f hf
   simp only [XB] at hc
   obtain ⟨k,hk,rfl⟩:=hc
   have hx':=Zah T hx
   simp only [execI] at h
   split at h
   ·rename_i cs e
    rw [e] at hx';simp only [VR] at hx'
    obtain ⟨us,hus,hv⟩:=hx'
    obtain ⟨r,hr,he⟩:=Zfu h
    simp only [Xb] at he
    obtain ⟨rfl,rfl,rfl⟩:=he
    obtain ⟨u,h1,h2⟩:=Zlr (P:=P) (w:=w) hk hv hr
    refine OpOk.val ⟨u,w,?_,Post.here R h2⟩
    rw [hus]
    simp [Instr.field,run_underlying hs,hf,asAgg,h1]
   ·cases h
  ·cases hc
 ·cases hc
theorem ZEy {O:Z7} (hO:ZaF P O) {bf:Nat->Bool} {an:Ann} {a:Act} {o:Oper} {own:Nat} {ins:Ins} (t:TypeId) (x:Operand) (i:Operand) (ho:o.op=.indexAddr t x i) (hc:Z9 P an own (.indexAddr t x i)=some ins) (T:TR I β tm a.tmps) (R:Rel base w0 I0 I β σ w) (hb:KLt base w0)
  {sq:Nat} (hsite:nsite ins≠0->σ[sq]?=some .free) {v:AVal} {c:Cls} (h:execI O bf tm σ sq ins=some (v,σ',c)):OpOk P (execOp a.eval o) w (Post base w0 I0 I β v σ'):=by
 rw [show execOp a.eval o=(do pure (.value (<-Instr.indexAt t (a.eval x) (a.eval i))):Sem Next) by unfold execOp;rw [ho]]
 simp only [Z9] at hc
 split at hc
 ·rename_i e x' i' hu hx hi
  simp only [XB] at hc
  obtain ⟨k,hk,rfl⟩:=hc
  simp only [execI] at h
  obtain ⟨u,h1,h2,rfl⟩:=ZBs hu hk R (Zah T hx) (Zah T hi) h
  exact OpOk.val ⟨u,w,h1,Post.here R h2⟩
 ·rename_i n e x' i' hu hx hi
  simp only [XB] at hc
  obtain ⟨k,hk,rfl⟩:=hc
  have hi':=Zah T hi
  simp only [execI] at h
  split at h
  ·rename_i kk ii e'
   rw [e'] at hi';simp only [VR] at hi'
   split at h
   ·rename_i hb'
    obtain ⟨r,hr,he⟩:=Zfu h
    simp only [Xb] at he
    obtain ⟨rfl,rfl,rfl⟩:=he
    obtain ⟨u,h1,h2⟩:=ZAF (P:=P) (w:=w) (kk:=kk) hu hk (Zah T hx) hb'.1 hb'.2 hr
    exact OpOk.val ⟨u,w,by rw [hi'];exact h1,Post.here R h2⟩
   ·cases h
  ·cases h
 ·cases hc
theorem ZBY {O:Z7} (hO:ZaF P O) {bf:Nat->Bool} {an:Ann} {a:Act} {o:Oper} {own:Nat} {ins:Ins} (t:TypeId) (x:Operand) (i:Operand) (ho:o.op=.index t x i) (hc:Z9 P an own (.index t x i)=some ins) (T:TR I β tm a.tmps) (R:Rel base w0 I0 I β σ w) (hb:KLt base w0)
  {sq:Nat} (hsite:nsite ins≠0->σ[sq]?=some .free) {v:AVal} {c:Cls} (h:execI O bf tm σ sq ins=some (v,σ',c)):OpOk P (execOp a.eval o) w (Post base w0 I0 I β v σ'):=by
 rw [show execOp a.eval o=(do pure (.value (<-Instr.index t (a.eval x) (a.eval i))):Sem Next) by unfold execOp;rw [ho]]
 simp only [Z9] at hc
 split at hc
 ·rename_i x' i' hu hx hi
  injection hc with hc;subst hc
  have hx':=Zah T hx
  have hi':=Zah T hi
  simp only [execI] at h
  split at h
  ·rename_i s kk ii e1 e2
   rw [e1] at hx';rw [e2] at hi'
   simp only [VR] at hx' hi'
   split at h
   ·rename_i h0
    simp only [XB] at h
    obtain ⟨b,hbb,he⟩:=h
    simp only [Xb] at he
    obtain ⟨rfl,rfl,rfl⟩:=he
    refine OpOk.val ⟨.int .u8 b.toNat,w,?_,Post.here R (by simp only [Zn,VR])⟩
    rw [hx'.1,hi']
    have hg:(⟨s.toArray⟩:ByteArray)[ii.toNat]?=some b:=by
     have hlt:=(Xf.1 hbb).1
     have : ii.toNat < Xaa ⟨s.toArray⟩:=by simpa [Xaa] using hlt
     rw [getElem?_pos (⟨s.toArray⟩:ByteArray) ii.toNat this]
     have:=(Xf.1 hbb).2
     rw [<-this]
     rfl
    simp [Instr.index,asIntOf,run_underlying hu,h0,hg]
   ·cases h
  ·cases h
 ·rename_i n e x' i' hu hx hi
  split at hc
  ·rename_i s k hk hk2
   injection hc with hc;subst hc
   have hx':=Zah T hx
   have hi':=Zah T hi
   simp only [execI] at h
   split at h
   ·rename_i cs kk ii e1 e2
    rw [e1] at hx';rw [e2] at hi'
    simp only [VR] at hx' hi'
    obtain ⟨us,hus,hv⟩:=hx'
    split at h
    ·rename_i hb'
     obtain ⟨r,hr,he⟩:=Zfu h
     simp only [Xb] at he
     obtain ⟨rfl,rfl,rfl⟩:=he
     obtain ⟨u,h1,h2⟩:=Zlr (P:=P) (w:=w) hk hv hr
     obtain ⟨ie,hie,hke⟩:∃ ie,P.info? e=some ie/\ie.size=k:=by
      unfold ZbZ at hk2
      cases hi:P.info? e with
      | none=>simp [hi] at hk2
      | some i=>exact ⟨i,rfl,by simpa [hi] using hk2⟩
     refine OpOk.val ⟨u,w,?_,Post.here R h2⟩
     rw [hus,hi']
     simp [Instr.index,asIntOf,run_underlying hu,hb'.1,hb'.2,sizeOf,typeInfo,hie,hke,h1]
    ·cases h
   ·cases h
  ·cases hc
 ·cases hc
theorem ZBV {O:Z7} (hO:ZaF P O) {bf:Nat->Bool} {an:Ann} {a:Act} {o:Oper} {own:Nat} {ins:Ins} (x:Operand) (i:Nat) (ho:o.op=.extract x i) (hc:Z9 P an own (.extract x i)=some ins) (T:TR I β tm a.tmps) (R:Rel base w0 I0 I β σ w) (hb:KLt base w0)
  {sq:Nat} (hsite:nsite ins≠0->σ[sq]?=some .free) {v:AVal} {c:Cls} (h:execI O bf tm σ sq ins=some (v,σ',c)):OpOk P (execOp a.eval o) w (Post base w0 I0 I β v σ'):=by
 rw [show execOp a.eval o=(do pure (.value (<-Instr.extract (a.eval x) i)):Sem Next) by unfold execOp;rw [ho]]
 simp only [Z9] at hc
 simp only [XB] at hc
 obtain ⟨y,hy,rfl⟩:=hc
 have hx:=Zah T hy
 simp only [execI] at h
 split at h
 ·rename_i vs e
  rw [e] at hx;simp only [VR] at hx
  obtain ⟨us,hus,hv⟩:=hx
  obtain ⟨r,hr,he⟩:=Zfu h
  simp only [Xb] at he
  obtain ⟨rfl,rfl,rfl⟩:=he
  obtain ⟨u,h1,h2⟩:=ZcF hv hr
  have h1':us[i]?=some u:=by simpa using h1
  exact OpOk.val ⟨u,w,by rw [hus];simp [Instr.extract,h1'],Post.here R h2⟩
 ·cases h
theorem ZDP {O:Z7} (hO:ZaF P O) {bf:Nat->Bool} {an:Ann} {a:Act} {o:Oper} {own:Nat} {ins:Ins} (t:TypeId) (l:Operand) (c':Operand) (ho:o.op=.makeSlice t l c') (hc:Z9 P an own (.makeSlice t l c')=some ins) (T:TR I β tm a.tmps) (R:Rel base w0 I0 I β σ w) (hb:KLt base w0)
  {sq:Nat} (hsite:nsite ins≠0->σ[sq]?=some .free) {v:AVal} {c:Cls} (h:execI O bf tm σ sq ins=some (v,σ',c)):OpOk P (execOp a.eval o) w (Post base w0 I0 I β v σ'):=by
 rw [show execOp a.eval o=(do pure (.value (<-Instr.makeSlice t (a.eval l) (a.eval c'))):Sem Next) by unfold execOp;rw [ho]]
 simp only [Z9] at hc
 split at hc
 ·rename_i k bytes z l' c'' he hl hc'
  injection hc with hc;subst hc
  have hl':=Zah T hl
  have hc'':=Zah T hc'
  simp only [execI] at h
  split at h
  ·rename_i li ci e1 e2
   rw [e1] at hl';rw [e2] at hc''
   simp only [VR] at hl' hc''
   split at h
   ·rename_i hcond
    simp only [Xa,Xb] at h
    obtain ⟨rfl,rfl,rfl⟩:=h
    rw [hl',hc'']
    exact OpOk.val (ZEC R hb he hcond.1 hcond.2.1 hcond.2.2.1 hcond.2.2.2.1 (hsite (by simp [nsite])))
   ·cases h
  ·cases h
 ·cases hc
theorem ZB5 {O:Z7} (hO:ZaF P O) {bf:Nat->Bool} {an:Ann} {a:Act} {o:Oper} {own:Nat} {ins:Ins} (fn:Fn) (first:Array Operand) (captured:Array Operand) (ho:o.op=.makeFunc fn first captured) (hc:Z9 P an own (.makeFunc fn first captured)=some ins) (T:TR I β tm a.tmps) (R:Rel base w0 I0 I β σ w) (hb:KLt base w0)
  {sq:Nat} (hsite:nsite ins≠0->σ[sq]?=some .free) {v:AVal} {c:Cls} (h:execI O bf tm σ sq ins=some (v,σ',c)):OpOk P (execOp a.eval o) w (Post base w0 I0 I β v σ'):=by
 rw [show execOp a.eval o=(do pure (.value (<-Instr.makeFunc fn (first.map a.eval) (captured.map a.eval))):Sem Next) by unfold execOp;rw [ho]]
 simp only [Z9] at hc
 cases fn <;> simp only at hc <;> try (cases hc;done)
 rename_i f
 split at hc
 case isFalse=>cases hc
 rename_i hlt
 split at hc
 ·rename_i hf
  simp only [XB] at hc
  obtain ⟨caps,hcaps,rfl⟩:=hc
  simp only [execI,Xa,Xb] at h
  obtain ⟨rfl,rfl,rfl⟩:=h
  have hfe:first=#[]:=by simpa using hf
  subst hfe
  refine OpOk.val ⟨.func (.func f) #[] (captured.map a.eval),w,by simp [Instr.makeFunc],Post.here R ?_⟩
  simp only [VR,if_pos hlt]
  exact ⟨_,_,rfl,rfl,by simpa using Zjv T hcaps⟩
 ·split at hc
  case isFalse=>cases hc
  rename_i hf
  simp only [XB] at hc
  obtain ⟨caps,hcaps,rfl⟩:=hc
  simp only [execI,Xa,Xb] at h
  obtain ⟨rfl,rfl,rfl⟩:=h
  have hfe:captured=#[]:=by simpa using hf
  subst hfe
  refine OpOk.val ⟨.func (.func f) (first.map a.eval) #[],w,by simp [Instr.makeFunc],Post.here R ?_⟩
  have hn:¬(f+1000000 < 1000000):=Nat.not_lt.2 (Nat.le_add_left _ _)
  simp only [VR,if_neg hn,Nat.add_sub_cancel]
  exact ⟨_,_,rfl,rfl,by simpa using Zjv T hcaps⟩
theorem ZB8 {O:Z7} (hO:ZaF P O) {bf:Nat->Bool} {an:Ann} {a:Act} {o:Oper} {own:Nat} {ins:Ins} (t:TypeId) (x:Operand) (ho:o.op=.makeInterface t x) (hc:Z9 P an own (.makeInterface t x)=some ins) (T:TR I β tm a.tmps) (R:Rel base w0 I0 I β σ w) (hb:KLt base w0)
  {sq:Nat} (hsite:nsite ins≠0->σ[sq]?=some .free) {v:AVal} {c:Cls} (h:execI O bf tm σ sq ins=some (v,σ',c)):OpOk P (execOp a.eval o) w (Post base w0 I0 I β v σ'):=by
 rw [show execOp a.eval o=(do pure (.value (<-Instr.makeInterface t (a.eval x))):Sem Next) by unfold execOp;rw [ho]]
 simp only [Z9] at hc
 split at hc
 ·cases hc
 ·rename_i d hd hnd
  simp only [XB] at hc
  obtain ⟨y,hy,rfl⟩:=hc
  have hy':=Zah T hy
  have hrun:∀ u,(Instr.makeInterface t u).run P w=.ok (.iface t u) w:=by
   intro u
   unfold Instr.makeInterface
   rw [Sem.run_bind,run_underlying hnd]
   simp only [Result.andThen_ok]
   cases d <;> first | rfl | exact absurd rfl (hd _)
  simp only [execI] at h
  split at h
  ·cases h
  ·cases h
  ·cases h
  ·simp only [Xa,Xb] at h
   obtain ⟨rfl,rfl,rfl⟩:=h
   exact OpOk.val ⟨_,w,hrun _,Post.here R (by simp only [VR];exact ⟨_,rfl,hy'⟩)⟩
 ·cases hc
theorem ZAc {O:Z7} (hO:ZaF P O) {bf:Nat->Bool} {an:Ann} {a:Act} {o:Oper} {own:Nat} {ins:Ins} (x:Operand) (ho:o.op=.panic x) (hc:Z9 P an own (.panic x)=some ins) (T:TR I β tm a.tmps) (R:Rel base w0 I0 I β σ w) (hb:KLt base w0)
  {sq:Nat} (hsite:nsite ins≠0->σ[sq]?=some .free) {v:AVal} {c:Cls} (h:execI O bf tm σ sq ins=some (v,σ',c)):OpR P (execOp a.eval o) w base w0 I0 I β v σ':=by
 rw [show execOp a.eval o=(do pure (.value (<-Instr.panic (a.eval x))):Sem Next) by unfold execOp;rw [ho]]
 simp only [Z9] at hc
 simp only [XB] at hc
 obtain ⟨y,hy,rfl⟩:=hc
 have hy':=Zah T hy
 simp only [execI] at h
 split at h
 ·rename_i t1 x1 e
  rw [e] at hy'
  simp only [Xa,Xb] at h
  obtain ⟨rfl,rfl,rfl⟩:=h
  refine XO ⟨_,rfl,XH ⟨a.eval x,w,?_,Post.here R hy'⟩⟩
  simp only [VR] at hy'
  obtain ⟨u,hu,_⟩:=hy'
  simp [hu,Instr.panic,goPanic]
 ·cases h
theorem Zz3 {O:Z7} (hO:ZaF P O) {bf:Nat->Bool} {an:Ann} {a:Act} {o:Oper} {own:Nat} {ins:Ins} (t:TypeId) (x:Operand) (ho:o.op=.range t x) (hc:Z9 P an own (.range t x)=some ins) (T:TR I β tm a.tmps) (R:Rel base w0 I0 I β σ w) (hb:KLt base w0)
  {sq:Nat} (hsite:nsite ins≠0->σ[sq]?=some .free) {v:AVal} {c:Cls} (h:execI O bf tm σ sq ins=some (v,σ',c)):OpOk P (execOp a.eval o) w (Post base w0 I0 I β v σ'):=by
 rw [show execOp a.eval o=(do pure (.value (<-Instr.range t (a.eval x))):Sem Next) by unfold execOp;rw [ho]]
 simp only [Z9] at hc
 split at hc
 case h_2=>cases hc
 rename_i ht
 simp only [XB] at hc
 obtain ⟨y,hy,rfl⟩:=hc
 have hy':=Zah T hy
 simp only [execI] at h
 split at h
 case h_2=>cases h
 rename_i l e
 simp only [Xa,Xb] at h
 obtain ⟨rfl,rfl,rfl⟩:=h
 rw [e] at hy'
 simp only [VR] at hy'
 rw [hy'.1]
 exact OpOk.val (ZDW R hb ht (hsite (by simp [nsite])))
theorem ZCi {O:Z7} (hO:ZaF P O) {bf:Nat->Bool} {an:Ann} {a:Act} {o:Oper} {own:Nat} {ins:Ins} (x:Operand) (str:Bool) (ho:o.op=.next x str) (hc:Z9 P an own (.next x str)=some ins) (T:TR I β tm a.tmps) (R:Rel base w0 I0 I β σ w) (hb:KLt base w0)
  {sq:Nat} (hsite:nsite ins≠0->σ[sq]?=some .free) {v:AVal} {c:Cls} (h:execI O bf tm σ sq ins=some (v,σ',c)):OpOk P (execOp a.eval o) w (Post base w0 I0 I β v σ'):=by
 rw [show execOp a.eval o=(do pure (.value (<-Instr.next (a.eval x) str o.type)):Sem Next) by unfold execOp;rw [ho]]
 simp only [Z9] at hc
 cases str
 case false=>cases hc
 simp only [XB] at hc
 obtain ⟨y,hy,rfl⟩:=hc
 have hy':=Zah T hy
 simp only [execI] at h
 split at h
 case h_2=>cases h
 rename_i t e
 rw [e] at hy'
 split at h
 case h_2=>cases h
 rename_i l p hs
 obtain ⟨u,w',h1,h2⟩:=ZES (P:=P) R hs hy' o.type
 split at h
 ·rename_i hp
  rw [if_pos hp] at h2
  simp only [Xa,Xb] at h
  obtain ⟨rfl,rfl,rfl⟩:=h
  exact OpOk.val ⟨u,w',h1,h2⟩
 ·rename_i hp
  rw [if_neg hp] at h2
  simp only [Xa,Xb] at h
  obtain ⟨rfl,rfl,rfl⟩:=h
  exact OpOk.val ⟨u,w',h1,h2⟩
theorem ZAj {O:Z7} (hO:ZaF P O) {bf:Nat->Bool} {an:Ann} {a:Act} {o:Oper} {own:Nat} {ins:Ins} (t:TypeId) (r:Option Operand) (ho:o.op=.makeMap t r) (hc:Z9 P an own (.makeMap t r)=some ins) (T:TR I β tm a.tmps) (R:Rel base w0 I0 I β σ w) (hb:KLt base w0)
  {sq:Nat} (hsite:nsite ins≠0->σ[sq]?=some .free) {v:AVal} {c:Cls} (h:execI O bf tm σ sq ins=some (v,σ',c)):OpOk P (execOp a.eval o) w (Post base w0 I0 I β v σ'):=by
 rw [show execOp a.eval o=(do pure (.value (<-Instr.makeMap t (r.map a.eval))):Sem Next) by unfold execOp;rw [ho]]
 simp only [Z9] at hc
 cases r with
 | some r=>cases hc
 | none =>
  simp only at hc
  split at hc
  ·split at hc
   ·split at hc
    ·injection hc with hc;subst hc
     simp only [execI] at h
     split at h
     case isFalse=>cases h
     rename_i hk
     simp only [Xa,Xb] at h
     obtain ⟨rfl,rfl,rfl⟩:=h
     exact OpOk.val (ZDA R hb t hk (hsite (by simp [nsite])))
    ·cases hc
   ·cases hc
  injection hc with hc;subst hc
  simp only [execI,Xa,Xb] at h
  obtain ⟨rfl,rfl,rfl⟩:=h
  exact OpOk.val (ZBR R hb t (hsite (by simp [nsite])))
theorem ZBa {O:Z7} (hO:ZaF P O) {bf:Nat->Bool} {an:Ann} {a:Act} {o:Oper} {own:Nat} {ins:Ins} (t:TypeId) (x:Operand) (z:Operand) (ok:Bool) (ho:o.op=.lookup t x z ok) (hc:Z9 P an own (.lookup t x z ok)=some ins) (T:TR I β tm a.tmps) (R:Rel base w0 I0 I β σ w) (hb:KLt base w0)
  {sq:Nat} (hsite:nsite ins≠0->σ[sq]?=some .free) {v:AVal} {c:Cls} (h:execI O bf tm σ sq ins=some (v,σ',c)):OpOk P (execOp a.eval o) w (Post base w0 I0 I β v σ'):=by
 rw [show execOp a.eval o=(do pure (.value (<-Instr.lookup t (a.eval x) (a.eval z) ok)):Sem Next) by unfold execOp;rw [ho]]
 simp only [Z9] at hc
 split at hc
 case h_2=>cases hc
 rename_i kc zv m k hmp hm hk
 obtain ⟨kt,et,d,ht,hdk,hd,hz⟩:=ZiH hmp
 split at hc
 ·split at hc
  ·cases hc
  rename_i hok
  have hok':ok=false:=by simpa using hok
  subst hok'
  injection hc with hc;subst hc
  simp only [execI] at h
  obtain ⟨u,h1,h2⟩:=ZFo R ht hdk hd hz (Zah T hm) (Zah T hk) (hsite (by simp [nsite])) h
  exact OpOk.val ⟨u,w,h1,h2⟩
 injection hc with hc;subst hc
 simp only [execI] at h
 obtain ⟨rfl,u,h1,h2⟩:=ZC3 R ht hdk hd hz (Zah T hm) (Zah T hk) h
 exact OpOk.val ⟨u,w,h1,Post.here R h2⟩
theorem ZAX {O:Z7} (hO:ZaF P O) {bf:Nat->Bool} {an:Ann} {a:Act} {o:Oper} {own:Nat} {ins:Ins} (t:TypeId) (x:Operand) (z:Operand) (y:Operand) (ho:o.op=.mapUpdate t x z y) (hc:Z9 P an own (.mapUpdate t x z y)=some ins) (T:TR I β tm a.tmps) (R:Rel base w0 I0 I β σ w) (hb:KLt base w0)
  {sq:Nat} (hsite:nsite ins≠0->σ[sq]?=some .free) {v:AVal} {c:Cls} (h:execI O bf tm σ sq ins=some (v,σ',c)):OpOk P (execOp a.eval o) w (Post base w0 I0 I β v σ'):=by
 rw [show execOp a.eval o=(do Instr.mapUpdate t (a.eval x) (a.eval z) (a.eval y);pure .skip:Sem Next) by unfold execOp;rw [ho]]
 simp only [Z9] at hc
 split at hc
 case h_2=>cases hc
 rename_i kc zv m k vv hmp hm hk hv
 injection hc with hc;subst hc
 simp only [execI] at h
 obtain ⟨kt,et,d,ht,hdk,hd,hz⟩:=ZiH hmp
 obtain ⟨rfl,w',h1,h2⟩:=ZyE R ht hdk hd (Zah T hm) (Zah T hk) (Zah T hv) h
 exact OpOk.unit ⟨w',h1,Post.here h2 Zhl⟩
theorem ZBL {O:Z7} (hO:ZaF P O) {bf:Nat->Bool} {an:Ann} {a:Act} {o:Oper} {own:Nat} {ins:Ins} (t:TypeId) (x:Operand) (z:Operand) (y:Operand) (ho:o.op=.insert t x z y) (hc:Z9 P an own (.insert t x z y)=some ins) (T:TR I β tm a.tmps) (R:Rel base w0 I0 I β σ w) (hb:KLt base w0)
  {sq:Nat} (hsite:nsite ins≠0->σ[sq]?=some .free) {v:AVal} {c:Cls} (h:execI O bf tm σ sq ins=some (v,σ',c)):OpOk P (execOp a.eval o) w (Post base w0 I0 I β v σ'):=by
 rw [show execOp a.eval o=(do Instr.mapUpdate t (a.eval x) (a.eval z) (a.eval y);pure .skip:Sem Next) by unfold execOp;rw [ho]]
 simp only [Z9] at hc
 split at hc
 case h_2=>cases hc
 rename_i kc zv m k vv hmp hm hk hv
 injection hc with hc;subst hc
 simp only [execI] at h
 obtain ⟨kt,et,d,ht,hdk,hd,hz⟩:=ZiH hmp
 obtain ⟨rfl,w',h1,h2⟩:=ZyE R ht hdk hd (Zah T hm) (Zah T hk) (Zah T hv) h
 exact OpOk.unit ⟨w',h1,Post.here h2 Zhl⟩
theorem ZE7 {O:Z7} (hO:ZaF P O) {bf:Nat->Bool} {an:Ann} {a:Act} {o:Oper} {own:Nat} {ins:Ins} (cl:Call) (ho:o.op=.call cl) (hc:Z9 P an own (.call cl)=some ins) (T:TR I β tm a.tmps) (R:Rel base w0 I0 I β σ w) (hb:KLt base w0)
  {sq:Nat} (hsite:nsite ins≠0->σ[sq]?=some .free) {v:AVal} {c:Cls} (h:execI O bf tm σ sq ins=some (v,σ',c)):OpR P (execOp a.eval o) w base w0 I0 I β v σ':=by
 rw [show execOp a.eval o=(do let d <-resolve a.eval cl o.type;invoke d.target d.args:Sem Next) by unfold execOp;rw [ho]]
 simp only [Z9] at hc
 unfold Zyp at hc
 split at hc
 ·cases hc
 rename_i args hargs
 have hav:=Zjv T hargs
 obtain ⟨callee,cargs,ctypes⟩:=cl
 simp only at hc hargs hav
 have hmap:(cargs.toList.map a.eval)=(cargs.map a.eval).toList:=by simp
 split at hc
 ·rename_i f
  injection hc with hc;subst hc
  simp only [execI] at h
  obtain ⟨⟨fn,f1,f2,f3⟩,g2⟩:=Zn8 hO R hb (vs:=cargs.map a.eval) (by rw [<-hmap];exact hav) (fun ho=>hsite (by simp [nsite,ho])) h
  exact OpR.of_call (by simp [resolve,Act.eval,Deferred.ofValue,invoke,Zk5 f1 f2 f3]) g2
 ·rename_i t
  injection hc with hc;subst hc
  simp only [execI] at h
  split at h
  ·rename_i f caps hf
   have hfv:=Zah (x:=.tmp t) T rfl
   rw [hf] at hfv
   simp only [VR] at hfv
   obtain ⟨fs,us,hus,h0,hcaps⟩:=hfv
   by_cases hlt:f < 1000000
   ·simp only [if_pos hlt] at h hus h0
    subst h0
    obtain ⟨⟨fn,f1,f2,f3⟩,g2⟩:=Zn8 hO R hb (vs:=cargs.map a.eval++us) (by rw [Array.toList_append,<-hmap];exact Zcu hav (by simpa using hcaps)) (fun ho=>absurd ho (by decide)) h
    exact OpR.of_call (by simp [resolve,hus,Deferred.ofValue,invoke,Zk5 f1 f2 f3]) g2
   ·simp only [if_neg hlt] at h hus h0
    subst h0
    obtain ⟨⟨fn,f1,f2,f3⟩,g2⟩:=Zn8 hO R hb (vs:=fs++cargs.map a.eval) (by rw [Array.toList_append,<-hmap];exact Zcu (by simpa using hcaps) hav) (fun ho=>absurd ho (by decide)) h
    exact OpR.of_call (by simp [resolve,hus,Deferred.ofValue,invoke,Zk5 f1 f2 f3]) g2
  ·cases h
 ·refine XH ?_
  split at hc
  ·rename_i t u x y hty
   split at hc
   ·rename_i k bytes z he
    obtain ⟨e,i,vz,hu,hi,hik,hib,hvz,hz,hk,hby,hzl⟩:=ZhL he
    obtain ⟨hz1,hz2⟩:=Ze0 (I:=I) (β:=β) hz
    have hzs:vz.cells.size=i.size:=by rw [Zgl (Ze6 hz) hz1,hzl,hik]
    have hargs2:∃ ox oy,cargs=#[ox,oy]/\Zar ox=some x/\Zar oy=some y:=by
     obtain ⟨l⟩:=cargs
     match l,hargs with
     | [],hargs=>simp [Zc7] at hargs
     | [ox],hargs =>
      simp only [Zc7] at hargs
      split at hargs
      ·simp at hargs
      ·cases hargs
     | [ox,oy],hargs =>
      simp only [Zc7] at hargs
      split at hargs
      ·rename_i x1 hx1
       split at hargs
       ·rename_i l2 hl2
        split at hl2
        ·rename_i y1 hy1
         simp only [Xa] at hl2 hargs
         subst hl2
         simp only [XaF,and_true] at hargs
         obtain ⟨rfl,rfl⟩:=hargs
         exact ⟨ox,oy,rfl,hx1,hy1⟩
        ·cases hl2
       ·cases hargs
      ·cases hargs
     | ox::oy::oz::r,hargs=>have:=Zan hav;simp at this
    obtain ⟨ox,oy,rfl,hx,hy⟩:=hargs2
    have htys:ctypes=#[t,u]:=by
     obtain ⟨l⟩:=ctypes
     simpa using hty
    subst htys
    have fin:ZhQ P t u e i vz->Zaj σ sq k bytes (x.ev tm) (y.ev tm)=some (v,σ',c)->OpOk P (do let d <-resolve a.eval { callee:=.builtin .append,args:=#[ox,oy],argTypes:=#[t,u] } o.type;invoke d.target d.args) w (Post base w0 I0 I β v σ'):=by
     intro TT h
     rw [<-hik,<-hib] at h
     have hns:nsite ins≠0:=by
      split at hc
      ·injection hc with hc;subst hc;simp [nsite]
      ·split at hc
       ·injection hc with hc;subst hc;simp [nsite]
       ·cases hc
      ·cases hc
     obtain ⟨vr,w1,h1,h2⟩:=ZBF (ty:=o.type) TT R hb (Zah T hx) (Zah T hy) (hsite hns) h
     exact XH ⟨vr,w1,by simp [resolve,invoke,builtin,h1],h2⟩
    split at hc
    ·rename_i e' hu2
     injection hc with hc;subst hc
     simp only [execI] at h
     exact fin ⟨hu,XH ⟨e',hu2⟩,hi,hvz,hzs,by omega,by omega⟩ h
    ·rename_i hu2
     split at hc
     ·injection hc with hc;subst hc
      simp only [execI] at h
      exact fin ⟨hu,XO hu2,hi,hvz,hzs,by omega,by omega⟩ h
     ·cases hc
    ·cases hc
   ·cases hc
  ·cases hc
 ·refine XH ?_
  split at hc
  ·rename_i t x hty
   have hargs2:∃ ox,cargs=#[ox]/\Zar ox=some x:=by
    obtain ⟨l⟩:=cargs
    match l,hargs with
    | [],hargs=>simp [Zc7] at hargs
    | [ox],hargs =>
     simp only [Zc7] at hargs
     split at hargs
     ·rename_i x1 hx1
      simp only [Xa,XaF,and_true] at hargs
      subst hargs
      exact ⟨ox,rfl,hx1⟩
     ·cases hargs
    | ox::oy::r,hargs =>
     have:=Zan hav
     simp at this
   obtain ⟨ox,rfl,hx⟩:=hargs2
   have htys:ctypes=#[t]:=by
    obtain ⟨l⟩:=ctypes
    simpa using hty
   subst htys
   have hx':=Zah T hx
   split at hc
   ·rename_i e hu
    injection hc with hc;subst hc
    simp only [execI] at h
    split at h
    ·rename_i b xs hh
     rw [hh] at hx';simp only [VR] at hx'
     obtain ⟨A,cap,hv,_⟩:=hx'
     simp only [Xa,Xb] at h
     obtain ⟨rfl,rfl,rfl⟩:=h
     refine XH ⟨.int .i64 xs.length,w,?_,Post.here R (by simp only [VR])⟩
     simp [resolve,invoke,builtin,hv,Builtin.len_,run_underlying hu,goInt]
    ·rename_i t' g lo n hh
     rw [hh] at hx';simp only [VR] at hx'
     obtain ⟨bi,_,hle,_,hv⟩:=hx'
     simp only [Xa,Xb] at h
     obtain ⟨rfl,rfl,rfl⟩:=h
     refine XH ⟨.int .i64 n,w,?_,Post.here R (by simp only [VR])⟩
     rcases hv with ⟨b,_,hv⟩ | ⟨_,hc0,A,hv⟩ | ⟨_,_,hn0,A,hv⟩
     ·simp [resolve,invoke,builtin,hv,Builtin.len_,run_underlying hu,goInt]
     ·have : n=0:=by omega
      subst this
      simp [resolve,invoke,builtin,hv,Builtin.len_,run_underlying hu,goInt]
     ·subst hn0
      simp [resolve,invoke,builtin,hv,Builtin.len_,run_underlying hu,goInt]
    ·cases h
   ·rename_i hu
    injection hc with hc;subst hc
    simp only [execI] at h
    split at h
    ·rename_i l hh
     rw [hh] at hx';simp only [VR] at hx'
     simp only [Xa,Xb] at h
     obtain ⟨rfl,rfl,rfl⟩:=h
     refine XH ⟨.int .i64 l.length,w,?_,Post.here R (by simp only [VR])⟩
     have hsz:Xaa ⟨l.toArray⟩=l.length:=by simp [Xaa]
     simp [resolve,invoke,builtin,hx'.1,Builtin.len_,run_underlying hu,goInt,hsz]
    ·cases h
   ·rename_i kt et hu
    injection hc with hc;subst hc
    simp only [execI] at h
    obtain ⟨rfl,u,h1,h2⟩:=ZFD R hu o.type hx' h
    exact XH ⟨u,w,by simp [resolve,invoke,builtin,h1],Post.here R h2⟩
   ·cases hc
  ·cases hc
 ·refine XH ?_
  split at hc
  ·rename_i t ts x y hty
   split at hc
   case h_2=>cases hc
   rename_i kc zv hmp
   injection hc with hc;subst hc
   obtain ⟨kt,et,d,ht,hdk,hd,hz⟩:=ZiH hmp
   have hargs2:∃ ox oy,cargs=#[ox,oy]/\Zar ox=some x/\Zar oy=some y:=by
    obtain ⟨l⟩:=cargs
    match l,hargs with
    | [],hargs=>simp [Zc7] at hargs
    | [ox],hargs =>
     simp only [Zc7] at hargs
     split at hargs
     ·simp at hargs
     ·cases hargs
    | [ox,oy],hargs =>
     simp only [Zc7] at hargs
     split at hargs
     ·rename_i x1 hx1
      split at hargs
      ·rename_i l2 hl2
       split at hl2
       ·rename_i y1 hy1
        simp only [Xa] at hl2 hargs
        subst hl2
        simp only [XaF,and_true] at hargs
        obtain ⟨rfl,rfl⟩:=hargs
        exact ⟨ox,oy,rfl,hx1,hy1⟩
       ·cases hl2
      ·cases hargs
     ·cases hargs
    | ox::oy::oz::r,hargs=>have:=Zan hav;simp at this
   obtain ⟨ox,oy,rfl,hx,hy⟩:=hargs2
   have htys:ctypes=(t::ts).toArray:=by
    obtain ⟨l⟩:=ctypes
    simpa using hty
   subst htys
   simp only [execI] at h
   obtain ⟨w',h1,rfl,h2⟩:=ZAP R ht hdk hd ts o.type (Zah T hx) (Zah T hy) h
   exact XH ⟨.tuple #[],w',by simp [resolve,invoke,builtin,h1],Post.here h2 Zhl⟩
  ·cases hc
 ·refine XH ?_
  split at hc
  ·rename_i t x hty
   have hargs2:∃ ox,cargs=#[ox]/\Zar ox=some x:=by
    obtain ⟨l⟩:=cargs
    match l,hargs with
    | [],hargs=>simp [Zc7] at hargs
    | [ox],hargs =>
     simp only [Zc7] at hargs
     split at hargs
     ·rename_i x1 hx1
      simp only [Xa,XaF,and_true] at hargs
      subst hargs
      exact ⟨ox,rfl,hx1⟩
     ·cases hargs
    | ox::oy::r,hargs =>
     have:=Zan hav
     simp at this
   obtain ⟨ox,rfl,hx⟩:=hargs2
   have htys:ctypes=#[t]:=by
    obtain ⟨l⟩:=ctypes
    simpa using hty
   subst htys
   split at hc
   ·rename_i k bytes z he
    injection hc with hc;subst hc
    simp only [execI] at h
    obtain ⟨vr,w1,h1,h2⟩:=ZDF (ty:=o.type) R he (Zah T hx) h
    exact XH ⟨vr,w1,by simp [resolve,invoke,builtin,h1],h2⟩
   ·cases hc
  ·cases hc
 ·refine XH ?_
  split at hc
  ·rename_i hl2
   injection hc with hc;subst hc
   simp only [execI] at h
   split at h
   ·rename_i k p k' q hh
    rw [hh] at hav
    simp only [VRs,VR] at hav
    obtain ⟨v1,vs1,e1,rfl,v2,vs2,rfl,rfl,rfl⟩:=hav
    simp only [Xa,Xb] at h
    obtain ⟨rfl,rfl,rfl⟩:=h
    have hca:cargs.map a.eval=#[.int k p,.int k' q]:=by
     apply Xbz
     simpa using e1
    refine XH ⟨_,w,?_,Post.here R (by simp only [VR];rfl)⟩
    simp [resolve,invoke,builtin,hca,Builtin.max_,Builtin.max2]
   ·cases h
  ·cases hc
 ·refine XH ?_
  split at hc
  ·rename_i hl2
   injection hc with hc;subst hc
   simp only [execI] at h
   split at h
   ·rename_i k p k' q hh
    rw [hh] at hav
    simp only [VRs,VR] at hav
    obtain ⟨v1,vs1,e1,rfl,v2,vs2,rfl,rfl,rfl⟩:=hav
    simp only [Xa,Xb] at h
    obtain ⟨rfl,rfl,rfl⟩:=h
    have hca:cargs.map a.eval=#[.int k p,.int k' q]:=by
     apply Xbz
     simpa using e1
    refine XH ⟨_,w,?_,Post.here R (by simp only [VR];rfl)⟩
    simp [resolve,invoke,builtin,hca,Builtin.min_,Builtin.min2]
   ·cases h
  ·cases hc
 ·cases hc
theorem ZCk {O:Z7} (hO:ZaF P O) {bf:Nat->Bool} {an:Ann} {a:Act} {o:Oper} {own:Nat} {ins:Ins} (hc:Z9 P an own o.op=some ins) (T:TR I β tm a.tmps) (R:Rel base w0 I0 I β σ w) (hb:KLt base w0)
  {sq:Nat} (hsite:nsite ins≠0->σ[sq]?=some .free) {v:AVal} {c:Cls} (h:execI O bf tm σ sq ins=some (v,σ',c)):OpR P (execOp a.eval o) w base w0 I0 I β v σ':=by
 cases ho:o.op <;> rw [ho] at hc <;> first
  | exact XH (ZCM hO _ ho hc T R hb hsite h)
  | exact XH (ZGd hO _ ho hc T R hb hsite h)
  | exact XH (ZCj hO _ _ _ ho hc T R hb hsite h)
  | exact XH (ZCw hO _ ho hc T R hb hsite h)
  | exact XH (ZFy hO _ _ ho hc T R hb hsite h)
  | exact XH (ZBo hO _ _ ho hc T R hb hsite h)
  | exact XH (ZEr hO _ _ _ ho hc T R hb hsite h)
  | exact XH (ZDx hO _ _ ho hc T R hb hsite h)
  | exact XH (ZEd hO _ _ _ ho hc T R hb hsite h)
  | exact XH (ZEY hO _ ho hc T R hb hsite h)
  | exact XH (ZF7 hO _ _ _ _ _ ho hc T R hb hsite h)
  | exact XH (ZCY hO _ _ _ ho hc T R hb hsite h)
  | exact XH (ZBA hO _ _ _ ho hc T R hb hsite h)
  | exact XH (ZB0 hO _ _ _ _ _ ho hc T R hb hsite h)
  | exact XH (ZDt hO _ _ _ ho hc T R hb hsite h)
  | exact XH (ZBg hO _ _ _ ho hc T R hb hsite h)
  | exact XH (ZEy hO _ _ _ ho hc T R hb hsite h)
  | exact XH (ZBY hO _ _ _ ho hc T R hb hsite h)
  | exact XH (ZBV hO _ _ ho hc T R hb hsite h)
  | exact XH (ZDP hO _ _ _ ho hc T R hb hsite h)
  | exact XH (ZB5 hO _ _ _ ho hc T R hb hsite h)
  | exact XH (ZB8 hO _ _ ho hc T R hb hsite h)
  | exact ZAc hO _ ho hc T R hb hsite h
  | exact XH (Zz3 hO _ _ ho hc T R hb hsite h)
  | exact XH (ZCi hO _ _ ho hc T R hb hsite h)
  | exact XH (ZAj hO _ _ ho hc T R hb hsite h)
  | exact XH (ZBa hO _ _ _ _ ho hc T R hb hsite h)
  | exact XH (ZAX hO _ _ _ _ ho hc T R hb hsite h)
  | exact XH (ZBL hO _ _ _ _ ho hc T R hb hsite h)
  | exact ZE7 hO _ ho hc T R hb hsite h
  | (simp only [Z9] at hc;cases hc;done)
end
end
section
open Go.RowKit
section
variable {O:Z7} {bf:Nat->Bool} {tm tm':Tms} {σ σ' σ2:Za} {sq:Nat}
theorem Opd.ev_congr {x:Opd} (h:∀ n ∈ x.reads,tget tm n=tget tm' n):x.ev tm=x.ev tm':=by
 cases x with
 | t n=>exact h n (by simp [Opd.reads])
 | c v=>rfl
theorem Zjt {xs:List Opd} (h:∀ n ∈ xs.flatMap Opd.reads,tget tm n=tget tm' n):(xs.map fun x=>x.ev tm)=xs.map fun x=>x.ev tm':=by
 apply WZ
 intro x hx
 exact Opd.ev_congr fun n hn=>h n (WB.2 ⟨x,hx,hn⟩)
theorem ZhX {x:Option Opd} (h:∀ n ∈ Zg8 x,tget tm n=tget tm' n):(x.map fun x=>x.ev tm)=x.map fun x=>x.ev tm':=by
 cases x with
 | none=>rfl
 | some x=>simp only [X4];rw [Opd.ev_congr (x:=x) h]
theorem Zgw {ins:Ins} (h:∀ n ∈ ins.reads,tget tm n=tget tm' n):execI O bf tm σ sq ins=execI O bf tm' σ sq ins:=by
 cases ins with
 | alloc zs=>rfl
 | build zs ps =>
  have : (ps.map fun p=>(p.1,p.2.1,p.2.2.ev tm))=ps.map fun p=>(p.1,p.2.1,p.2.2.ev tm'):=by
   apply WZ
   intro p hp
   rw [Opd.ev_congr (x:=p.2.2) fun n hn=>h n (by simp only [Ins.reads];exact WB.2 ⟨p,hp,hn⟩)]
  simp only [execI,this]
 | bslice own k n z ps =>
  have : (ps.map fun p=>p.2.ev tm)=ps.map fun p=>p.2.ev tm':=by
   apply WZ
   intro p hp
   rw [Opd.ev_congr (x:=p.2) fun n hn=>h n (by simp only [Ins.reads];exact WB.2 ⟨p,hp,hn⟩)]
  simp only [execI,this]
 | rslice k n z ps =>
  have h0:∀ p ∈ ps,p.2.ev tm=p.2.ev tm':=fun p hp=>Opd.ev_congr (x:=p.2) fun n hn=>h n (by simp only [Ins.reads];exact WB.2 ⟨p,hp,hn⟩)
  have h1:(ps.map fun p=>(p.1,p.2.ev tm))=ps.map fun p=>(p.1,p.2.ev tm'):=WZ fun p hp=>by rw [h0 p hp]
  have h2:(ps.all fun p=>(p.2.ev tm).cells.length == k && (p.2.ev tm).cells.all Z1)=ps.all fun p=>(p.2.ev tm').cells.length == k && (p.2.ev tm').cells.all Z1:=by
   rw [Bool.eq_iff_iff,XW,XW]
   exact ⟨fun h p hp=>by rw [<-h0 p hp];exact h p hp,fun h p hp=>by rw [h0 p hp];exact h p hp⟩
  simp only [execI,h1,h2]
 | rng x=>simp only [execI,Opd.ev_congr (x:=x) h]
 | nxt x=>simp only [execI,Opd.ev_congr (x:=x) h]
 | mkmap=>rfl
 | mkgmap k=>rfl
 | glook kc z x y=>simp only [Ins.reads,XG] at h;simp only [execI,Opd.ev_congr (x:=x) fun n hn=>h n (XH hn),Opd.ev_congr (x:=y) fun n hn=>h n (XO hn)]
 | mkbook x=>simp only [execI,Opd.ev_congr (x:=x) h]
 | mkrow x=>simp only [execI,Opd.ev_congr (x:=x) h]
 | mlen x=>simp only [execI,Opd.ev_congr (x:=x) h]
 | look kc z ok x y=>simp only [Ins.reads,XG] at h;simp only [execI,Opd.ev_congr (x:=x) fun n hn=>h n (XH hn),Opd.ev_congr (x:=y) fun n hn=>h n (XO hn)]
 | mdel kc x y=>simp only [Ins.reads,XG] at h;simp only [execI,Opd.ev_congr (x:=x) fun n hn=>h n (XH hn),Opd.ev_congr (x:=y) fun n hn=>h n (XO hn)]
 | mset kc x y z =>
  simp only [Ins.reads,XG] at h
  simp only [execI,Opd.ev_congr (x:=x) fun n hn=>h n (XH (XH hn)),Opd.ev_congr (x:=y) fun n hn=>h n (XH (XO hn)),Opd.ev_congr (x:=z) fun n hn=>h n (XO hn)]
 | mov x=>simp only [execI,Opd.ev_congr (x:=x) h]
 | box x=>simp only [execI,Opd.ev_congr (x:=x) h]
 | un op x=>simp only [execI,Opd.ev_congr (x:=x) h]
 | i2i k x=>simp only [execI,Opd.ev_congr (x:=x) h]
 | i2s x=>simp only [execI,Opd.ev_congr (x:=x) h]
 | clr k z x=>simp only [execI,Opd.ev_congr (x:=x) h]
 | same x=>simp only [execI,Opd.ev_congr (x:=x) h]
 | s2b x=>simp only [execI,Opd.ev_congr (x:=x) h]
 | b2s x=>simp only [execI,Opd.ev_congr (x:=x) h]
 | s2s x=>simp only [execI,Opd.ev_congr (x:=x) h]
 | faddr o x=>simp only [execI,Opd.ev_congr (x:=x) h]
 | field k o x=>simp only [execI,Opd.ev_congr (x:=x) h]
 | ext x i=>simp only [execI,Opd.ev_congr (x:=x) h]
 | len x=>simp only [execI,Opd.ev_congr (x:=x) h]
 | slen x=>simp only [execI,Opd.ev_congr (x:=x) h]
 | nilchk x=>simp only [execI,Opd.ev_congr (x:=x) h]
 | mki t x=>simp only [execI,Opd.ev_congr (x:=x) h]
 | panic x=>simp only [execI,Opd.ev_congr (x:=x) h]
 | ld k x=>simp only [execI,Opd.ev_congr (x:=x) h]
 | pick c a b =>
  simp only [Ins.reads,XG] at h
  simp only [execI,Opd.ev_congr (x:=c) fun n hn=>h n (XH (XH hn)),Opd.ev_congr (x:=a) fun n hn=>h n (XH (XO hn)),Opd.ev_congr (x:=b) fun n hn=>h n (XO hn)]
 | st k x y=>simp only [Ins.reads,XG] at h;simp only [execI,Opd.ev_congr (x:=x) fun n hn=>h n (XH hn),Opd.ev_congr (x:=y) fun n hn=>h n (XO hn)]
 | bin k x y=>simp only [Ins.reads,XG] at h;simp only [execI,Opd.ev_congr (x:=x) fun n hn=>h n (XH hn),Opd.ev_congr (x:=y) fun n hn=>h n (XO hn)]
 | iaddr k x y=>simp only [Ins.reads,XG] at h;simp only [execI,Opd.ev_congr (x:=x) fun n hn=>h n (XH hn),Opd.ev_congr (x:=y) fun n hn=>h n (XO hn)]
 | aaddr k n x y=>simp only [Ins.reads,XG] at h;simp only [execI,Opd.ev_congr (x:=x) fun n hn=>h n (XH hn),Opd.ev_congr (x:=y) fun n hn=>h n (XO hn)]
 | sindex x y=>simp only [Ins.reads,XG] at h;simp only [execI,Opd.ev_congr (x:=x) fun n hn=>h n (XH hn),Opd.ev_congr (x:=y) fun n hn=>h n (XO hn)]
 | aindex s k n x y=>simp only [Ins.reads,XG] at h;simp only [execI,Opd.ev_congr (x:=x) fun n hn=>h n (XH hn),Opd.ev_congr (x:=y) fun n hn=>h n (XO hn)]
 | app k b z x y=>simp only [Ins.reads,XG] at h;simp only [execI,Opd.ev_congr (x:=x) fun n hn=>h n (XH hn),Opd.ev_congr (x:=y) fun n hn=>h n (XO hn)]
 | mkslice k b z x y=>simp only [Ins.reads,XG] at h;simp only [execI,Opd.ev_congr (x:=x) fun n hn=>h n (XH hn),Opd.ev_congr (x:=y) fun n hn=>h n (XO hn)]
 | beq k x y=>simp only [Ins.reads,XG] at h;simp only [execI,Opd.ev_congr (x:=x) fun n hn=>h n (XH hn),Opd.ev_congr (x:=y) fun n hn=>h n (XO hn)]
 | peq k x y=>simp only [Ins.reads,XG] at h;simp only [execI,Opd.ev_congr (x:=x) fun n hn=>h n (XH hn),Opd.ev_congr (x:=y) fun n hn=>h n (XO hn)]
 | eqv k ks x y=>simp only [Ins.reads,XG] at h;simp only [execI,Opd.ev_congr (x:=x) fun n hn=>h n (XH hn),Opd.ev_congr (x:=y) fun n hn=>h n (XO hn)]
 | ieq k x y=>simp only [Ins.reads,XG] at h;simp only [execI,Opd.ev_congr (x:=x) fun n hn=>h n (XH hn),Opd.ev_congr (x:=y) fun n hn=>h n (XO hn)]
 | slice k x lo hi mx =>
  simp only [Ins.reads,XG] at h
  simp only [execI,Opd.ev_congr (x:=x) fun n hn=>h n (XH (XH (XH hn))),ZhX (x:=lo) fun n hn=>h n (XH (XH (XO hn))),ZhX (x:=hi) fun n hn=>h n (XH (XO hn)),ZhX (x:=mx) fun n hn=>h n (XO hn)]
 | sslice x lo hi =>
  simp only [Ins.reads,XG] at h
  simp only [execI,Opd.ev_congr (x:=x) fun n hn=>h n (XH (XH hn)),ZhX (x:=lo) fun n hn=>h n (XH (XO hn)),ZhX (x:=hi) fun n hn=>h n (XO hn)]
 | mm m xs=>simp only [Ins.reads] at h;simp only [execI,Zjt h]
 | call f own vw xs=>simp only [Ins.reads] at h;simp only [execI,Zjt h]
 | mkfn f xs=>simp only [Ins.reads] at h;simp only [execI,Zjt h]
 | callv x xs =>
  simp only [Ins.reads,XG] at h
  simp only [execI,Opd.ev_congr (x:=x) fun n hn=>h n (XH hn),Zjt (xs:=xs) fun n hn=>h n (XO hn)]
def Agree (σ σ2:Za) (ts:List Nat):Prop:=∀ t ∈ ts,σ2[t]?=σ[t]?
theorem Agree.left {ts us:List Nat} (h:Agree σ σ2 (ts++us)):Agree σ σ2 ts:=fun t ht=>h t (by simp [ht])
theorem Agree.right {ts us:List Nat} (h:Agree σ σ2 (ts++us)):Agree σ σ2 us:=fun t ht=>h t (by simp [ht])
theorem Zgm {a:AVal} {xs:List AVal} {ts:List Nat} (h:Zo σ a=some (xs,ts)) (hA:Agree σ σ2 ts):Zo σ2 a=some (xs,ts):=by
 unfold Zo at h ⊢
 split at h
 ·exact h
 ·exact h
 ·rename_i t g lo n
  have ht:t ∈ ts:=by
   split at h
   ·split at h
    ·simp only [Xa,Xb] at h;rw [<-h.2];simp
    ·cases h
   ·split at h
    ·simp only [Xa,Xb] at h;rw [<-h.2];simp
    ·cases h
   ·cases h
  rw [hA t ht]
  exact h
 ·cases h
theorem ZxW {a y:AVal} {ts:List Nat} (h:Zad σ a=some (y,ts)) (hA:Agree σ σ2 ts):Zad σ2 a=some (y,ts):=by
 unfold Zad at h ⊢
 split at h
 case h_2 =>
  split at h
  ·rename_i he
   simp only [Xa,Xb] at h
   obtain ⟨rfl,rfl⟩:=h
   rw [Zgm he hA]
  ·cases h
 all_goals exact h
theorem Zv5:∀ {cs ys:List AVal} {ts:List Nat},Zag σ cs=some (ys,ts)->Agree σ σ2 ts->Zag σ2 cs=some (ys,ts)
 | [],ys,ts,h,_=>h
 | c::cs,ys,ts,h,hA=>by
  simp only [Zag] at h ⊢
  split at h
  ·rename_i h1
   split at h
   ·rename_i h2
    simp only [Xa,Xb] at h
    obtain ⟨rfl,rfl⟩:=h
    rw [ZxW h1 hA.left]
    simp only
    rw [Zv5 h2 hA.right]
   ·cases h
  ·cases h
theorem ZEs {a y:AVal} {ts:List Nat} (h:Zao σ a=some (y,ts)) (hA:Agree σ σ2 ts):Zao σ2 a=some (y,ts):=by
 unfold Zao at h ⊢
 split at h
 ·split at h
  ·rename_i h1
   simp only [Xa,Xb] at h
   obtain ⟨rfl,rfl⟩:=h
   rw [Zv5 h1 hA]
  ·cases h
 ·exact ZxW h hA
theorem ZpR:∀ {cs ys:List AVal} {ts:List Nat},viewAs σ cs=some (ys,ts)->Agree σ σ2 ts->viewAs σ2 cs=some (ys,ts)
 | [],ys,ts,h,_=>h
 | c::cs,ys,ts,h,hA=>by
  simp only [viewAs] at h ⊢
  split at h
  ·rename_i h1
   split at h
   ·rename_i h2
    simp only [Xa,Xb] at h
    obtain ⟨rfl,rfl⟩:=h
    rw [ZEs h1 hA.left]
    simp only
    rw [ZpR h2 hA.right]
   ·cases h
  ·cases h
theorem Zzp {a y:AVal} {ts:List Nat} (h:Zc4 σ a=some (y,ts)) (hA:Agree σ σ2 ts):Zc4 σ2 a=some (y,ts):=by
 unfold Zc4 at h ⊢
 split at h
 case h_2 =>
  split at h
  ·rename_i he
   simp only [Xa,Xb] at h
   obtain ⟨rfl,rfl⟩:=h
   rw [Zgm he hA]
  ·cases h
 all_goals exact h
theorem ZvN:∀ {cs ys:List AVal} {ts:List Nat},ZcX σ cs=some (ys,ts)->Agree σ σ2 ts->ZcX σ2 cs=some (ys,ts)
 | [],ys,ts,h,_=>h
 | c::cs,ys,ts,h,hA=>by
  simp only [ZcX] at h ⊢
  split at h
  ·rename_i h1
   split at h
   ·rename_i h2
    simp only [Xa,Xb] at h
    obtain ⟨rfl,rfl⟩:=h
    rw [Zzp h1 hA.left]
    simp only
    rw [ZvN h2 hA.right]
   ·cases h
  ·cases h
theorem ZBZ {a y:AVal} {ts:List Nat} (h:showA σ a=some (y,ts)) (hA:Agree σ σ2 ts):showA σ2 a=some (y,ts):=by
 unfold showA at h ⊢
 split at h
 ·split at h
  ·rename_i h1
   simp only [Xa,Xb] at h
   obtain ⟨rfl,rfl⟩:=h
   rw [ZvN h1 hA]
  ·cases h
 ·exact Zzp h hA
theorem ZnK:∀ {cs ys:List AVal} {ts:List Nat},showAs σ cs=some (ys,ts)->Agree σ σ2 ts->showAs σ2 cs=some (ys,ts)
 | [],ys,ts,h,_=>h
 | c::cs,ys,ts,h,hA=>by
  simp only [showAs] at h ⊢
  split at h
  ·rename_i h1
   split at h
   ·rename_i h2
    simp only [Xa,Xb] at h
    obtain ⟨rfl,rfl⟩:=h
    rw [ZBZ h1 hA.left]
    simp only
    rw [ZnK h2 hA.right]
   ·cases h
  ·cases h
def Za3 (σ:Za) (s:Nat):Option Zq->Za
 | none=>σ
 | some b=>σ.set s b
def Zez (σ:Za) (ts:List Nat):Prop:=∀ t ∈ ts,∃ x,σ[t]?=some x/\x≠.free
theorem Rowy.nonfree {ts:List Nat} (h:Rowy σ ts):Zez σ ts:=by
 intro t ht
 obtain ⟨g,k,xs,h | h⟩:=h t ht
 ·exact ⟨_,h,by simp⟩
 ·exact ⟨_,h,by simp⟩
theorem ZdM:Zez σ []:=fun t ht=>by simp at ht
theorem ZsA {t:Nat} {x:Zq} (h:σ[t]?=some x) (hx:x≠.free):Zez σ [t]:=fun t' ht=>by
 simp at ht;subst ht;exact ⟨x,h,hx⟩
def Framed (f:Za->Option (AVal×Za×Cls)) (σ:Za) (sq ns:Nat) (v:AVal) (σ':Za) (c:Cls):Prop :=
 ∃ ob,σ'=Za3 σ sq ob/\(ob.isSome=true->ns≠0)/\ob≠some .free/\Zez σ c.rd/\∀ σ2,Agree σ σ2 c.rd->f σ2=some (v,Za3 σ2 sq ob,c)
theorem Framed.pure {f:Za->Option (AVal×Za×Cls)} {v:AVal} {c:Cls} {ns:Nat} (hr:c.rd=[]) (hf:∀ σ2,f σ2=some (v,σ2,c)):Framed f σ sq ns v σ c :=
 ⟨none,rfl,by simp,by simp,by rw [hr];exact ZdM,fun σ2 _=>hf σ2⟩
theorem ZGf {kc:Nat} {z:AVal} {ok:Bool} {m k v:AVal} {c:Cls} {ns:Nat} (h:Zer σ kc z ok m k=some (v,σ',c)):Framed (fun σ=>Zer σ kc z ok m k) σ sq ns v σ' c:=by
 unfold Zer at h
 split at h
 case isFalse=>cases h
 rename_i hk
 split at h
 ·simp only [Xa,Xb] at h
  obtain ⟨rfl,rfl,rfl⟩:=h
  exact Framed.pure rfl fun σ2=>by simp only [Zer];rw [if_pos hk]
 ·rename_i t
  split at h
  ·rename_i es hs
   have hnf:Zez σ [t]:=fun u hu=>by rw [XU] at hu;subst hu;exact ⟨_,hs,by simp⟩
   split at h
   ·rename_i j y hf
    simp only [Xa,Xb] at h
    obtain ⟨rfl,rfl,rfl⟩:=h
    refine ⟨none,rfl,by simp,by simp,hnf,fun σ2 hA=>?_⟩
    have e2:σ2[t]?=some (.map es):=by rw [hA t (by simp)];exact hs
    simp only [Zer,e2,hf,Za3]
    rw [if_pos hk]
   ·rename_i hf
    simp only [Xa,Xb] at h
    obtain ⟨rfl,rfl,rfl⟩:=h
    refine ⟨none,rfl,by simp,by simp,hnf,fun σ2 hA=>?_⟩
    have e2:σ2[t]?=some (.map es):=by rw [hA t (by simp)];exact hs
    simp only [Zer,e2,hf,Za3]
    rw [if_pos hk]
   ·cases h
  ·rename_i es hs
   have hnf:Zez σ [t]:=fun u hu=>by rw [XU] at hu;subst hu;exact ⟨_,hs,by simp⟩
   split at h
   ·rename_i j y hf
    simp only [Xa,Xb] at h
    obtain ⟨rfl,rfl,rfl⟩:=h
    refine ⟨none,rfl,by simp,by simp,hnf,fun σ2 hA=>?_⟩
    have e2:σ2[t]?=some (.rmap es):=by rw [hA t (by simp)];exact hs
    simp only [Zer,e2,hf,Za3]
    rw [if_pos hk]
   ·rename_i hf
    simp only [Xa,Xb] at h
    obtain ⟨rfl,rfl,rfl⟩:=h
    refine ⟨none,rfl,by simp,by simp,hnf,fun σ2 hA=>?_⟩
    have e2:σ2[t]?=some (.rmap es):=by rw [hA t (by simp)];exact hs
    simp only [Zer,e2,hf,Za3]
    rw [if_pos hk]
   ·cases h
  ·cases h
 ·cases h
theorem ZCE {m v:AVal} {c:Cls} {ns:Nat} (h:Zfo σ m=some (v,σ',c)):Framed (fun σ=>Zfo σ m) σ sq ns v σ' c:=by
 unfold Zfo at h
 split at h
 ·simp only [Xa,Xb] at h
  obtain ⟨rfl,rfl,rfl⟩:=h
  exact Framed.pure rfl fun σ2=>rfl
 ·rename_i t
  split at h
  ·rename_i es hs
   simp only [Xa,Xb] at h
   obtain ⟨rfl,rfl,rfl⟩:=h
   refine ⟨none,rfl,by simp,by simp,fun u hu=>by rw [XU] at hu;subst hu;exact ⟨_,hs,by simp⟩,fun σ2 hA=>?_⟩
   have e2:σ2[t]?=some (.map es):=by rw [hA t (by simp)];exact hs
   simp only [Zfo,e2,Za3]
  ·rename_i es hs
   simp only [Xa,Xb] at h
   obtain ⟨rfl,rfl,rfl⟩:=h
   refine ⟨none,rfl,by simp,by simp,fun u hu=>by rw [XU] at hu;subst hu;exact ⟨_,hs,by simp⟩,fun σ2 hA=>?_⟩
   have e2:σ2[t]?=some (.rmap es):=by rw [hA t (by simp)];exact hs
   simp only [Zfo,e2,Za3]
  ·cases h
 ·cases h
theorem ZEQ {k:Option Nat} {a v:AVal} {c:Cls} {ns:Nat} (h:ldA σ k a=some (v,σ',c)):Framed (fun σ=>ldA σ k a) σ sq ns v σ' c:=by
 have h0:=h
 unfold ldA at h
 have fin:∀ t,σ'=σ->c.rd=[t]->(∃ x,σ[t]?=some x/\x≠.free)->(∀ σ2:Za,σ2[t]?=σ[t]?->ldA σ2 k a=(ldA σ k a).map fun p=>(p.1,σ2,p.2.2))->Framed (fun σ=>ldA σ k a) σ sq ns v σ' c:=by
  intro t e1 e2 ⟨x,hx,hne⟩ hf
  subst e1
  refine ⟨none,rfl,by simp,by simp,by rw [e2];exact ZsA hx hne,fun σ2 hA=>?_⟩
  rw [e2] at hA
  simp only
  rw [hf σ2 (hA t (by simp)),h0]
  rfl
 split at h
 ·rename_i t o
  split at h
  ·rename_i cs hs
   split at h
   ·rename_i v' hp
    simp only [Xa,Xb] at h
    obtain ⟨rfl,rfl,rfl⟩:=h
    exact fin t rfl rfl ⟨_,hs,by simp⟩ (fun σ2 h2=>by simp only [ldA,h2,hs,hp,X4])
   ·cases h
  ·cases h
 ·rename_i t g i o
  split at h
  ·rename_i g' kk xs hs
   split at h
   ·rename_i e
    split at h
    ·rename_i x hx
     split at h
     ·rename_i v' hp
      simp only [Xa,Xb] at h
      obtain ⟨rfl,rfl,rfl⟩:=h
      exact fin t rfl rfl ⟨_,hs,by simp⟩ (fun σ2 h2=>by simp only [ldA,h2,hs,e,if_true,hx,hp,X4])
     ·cases h
    ·cases h
   ·cases h
  ·rename_i g' kk xs hs
   split at h
   ·rename_i e
    split at h
    ·rename_i x hx
     split at h
     ·rename_i v' hp
      simp only [Xa,Xb] at h
      obtain ⟨rfl,rfl,rfl⟩:=h
      exact fin t rfl rfl ⟨_,hs,by simp⟩ (fun σ2 h2=>by simp only [ldA,h2,hs,e,if_true,hx,hp,X4])
     ·cases h
    ·cases h
   ·cases h
  ·rename_i g' kk xs hs
   split at h
   ·rename_i e
    split at h
    ·rename_i x hx
     split at h
     ·rename_i v' hp
      simp only [Xa,Xb] at h
      obtain ⟨rfl,rfl,rfl⟩:=h
      exact fin t rfl rfl ⟨_,hs,by simp⟩ (fun σ2 h2=>by simp only [ldA,h2,hs,e,if_true,hx,hp,X4])
     ·cases h
    ·cases h
   ·cases h
  ·cases h
 ·rename_i cs o
  split at h
  ·rename_i v' hp
   simp only [Xa,Xb] at h
   obtain ⟨rfl,rfl,rfl⟩:=h
   exact Framed.pure rfl (fun σ2=>by simp only [ldA,hp])
  ·cases h
 ·cases h
theorem ZCl {k:Nat} {x i v:AVal} {c:Cls} {ns:Nat} (h:ZaG σ k x i=some (v,σ',c)):Framed (fun σ=>ZaG σ k x i) σ sq ns v σ' c:=by
 have h0:=h
 unfold ZaG at h
 split at h
 case h_2=>cases h
 rename_i kk ii
 split at h
 case isFalse=>cases h
 rename_i hi
 split at h
 ·rename_i b xs
  split at h
  ·rename_i y hy
   split at h
   ·rename_i hk
    simp only [Xa,Xb] at h
    obtain ⟨rfl,rfl,rfl⟩:=h
    exact Framed.pure rfl (fun σ2=>by simp only [ZaG,hi,if_true,hy,hk])
   ·cases h
  ·cases h
 ·rename_i t g p n
  split at h
  case isFalse=>cases h
  rename_i hn
  have fin:σ'=σ->c.rd=[t]->(∃ x,σ[t]?=some x/\x≠.free)->Framed (fun σ=>ZaG σ k (.sl t g p n) (.int kk ii)) σ sq ns v σ' c:=by
   intro e1 e2 ⟨x,hx,hne⟩
   subst e1
   refine ⟨none,rfl,by simp,by simp,by rw [e2];exact ZsA hx hne,fun σ2 hA=>?_⟩
   rw [e2] at hA
   have h2:=hA t (by simp)
   simp only [ZaG,hi,if_true,hn] at h0 ⊢
   rw [h2]
   split at h0
   ·split at h0
    ·rename_i hc
     simp only [Xa,Xb] at h0
     obtain ⟨rfl,_,rfl⟩:=h0
     rename_i hs
     simp only [hs,hc,and_self,if_true]
     rfl
    ·cases h0
   ·split at h0
    ·rename_i hc
     simp only [Xa,Xb] at h0
     obtain ⟨rfl,_,rfl⟩:=h0
     rename_i hs
     simp only [hs,hc,and_self,if_true]
     rfl
    ·cases h0
   ·split at h0
    ·rename_i hc
     simp only [Xa,Xb] at h0
     obtain ⟨rfl,_,rfl⟩:=h0
     rename_i hs
     simp only [hs,hc,and_self,if_true]
     rfl
    ·cases h0
   ·cases h0
  split at h
  ·rename_i hs
   split at h
   ·simp only [Xa,Xb] at h
    exact fin h.2.1.symm (by rw [<-h.2.2]) ⟨_,hs,by simp⟩
   ·cases h
  ·rename_i hs
   split at h
   ·simp only [Xa,Xb] at h
    exact fin h.2.1.symm (by rw [<-h.2.2]) ⟨_,hs,by simp⟩
   ·cases h
  ·rename_i hs
   split at h
   ·simp only [Xa,Xb] at h
    exact fin h.2.1.symm (by rw [<-h.2.2]) ⟨_,hs,by simp⟩
   ·cases h
  ·cases h
 ·cases h
end
end
end Go.Proofs.Ytaimaokfbgmoiaa
