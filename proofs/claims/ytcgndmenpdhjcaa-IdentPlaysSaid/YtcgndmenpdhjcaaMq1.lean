/- packed -/
import Derived.Test.YtcgndmenpdhjcaaMq0
import Derived.Laws.StructEq
import Derived.Laws.Small
import Derived.Orders
import Derived.LoopN
set_option linter.unusedSimpArgs false
set_option linter.unusedVariables false
open Option.some renaming injEq→Xa
open Prod.mk renaming injEq→Xb
open List renaming getElem?_eq_some_iff→Xc,getElem?_eq_getElem→Xe,getD_eq_getElem?_getD→Xi,getElem?_set→Xq,mem_append→Xt,mem_of_getElem?→Xv,map_cons→Xy,length_map→Xz,all_eq_true→XB,mem_cons→XC,replicate→XD,length_append→XE,getElem?_cons_zero→XG,flatMap_cons→XI,mem_map→XJ,getElem?_take→XK,map_nil→XO,getD_cons_zero→XP,getElem?_eq_none_iff→XQ,getElem?_cons_succ→XR,getElem?_eq_none→XS,eq_of_mem_replicate→XV,getD_cons_succ→XY,mem_flatMap→X5,take_of_length_le→X6,mem_singleton→X9,getElem?_set_ne→Wd,range→Wi,map_append→Wk,mem_or_eq_of_mem_set→Wl,ext_getElem?→Wv,drop_eq_nil_of_le→Wx,drop_eq_getElem_cons→Wz,getElem_mem→WB,map_map→WC,nodup_append→WD,length_take→WM,all_nil→WW,isEmpty_nil→W1,set_comm→W7,map_congr_left→Xai,isEmpty_iff→Xaj,range'→Xav,drop_drop→Xa4,getElem?_inj→Xa7,contains_nil→Xa8,lookup_cons→Xbd,range'_succ→Xbe,map_set→Xbh
open Option renaming map_eq_some_iff→Xo,map_some→XN,getD_some→WS,getD_none→XaO
open Bool renaming and_eq_true→Xr,false_eq_true→Xw,not_eq_true'→Wn,and_self→Ww,or_eq_true→WJ
open Or renaming inl→Xs,inr→Xu
open Array renaming getElem?_eq_some_iff→Xx,length_toList→XH,getElem?_setIfInBounds_self_of_lt→WP,range→WR,getElem?_modify→W5,toList_push→XaG,toList_append→XaW,ext'→Xa6
open Nat renaming zero_add→XF,le_refl→XM,add_zero→XU,add_mul→X0,mul_le_mul_right→Wa,add_assoc→Wu,lt_or_ge→Xaf,mul_le_mul_left→Xah,add_comm→Xbm
open ByteArray renaming size→WA
open List.cons renaming injEq→XaC
namespace Go.Proofs.Ytcgndmenpdhjcaa
set_option maxHeartbeats 16000000
set_option maxRecDepth 10000
section
open Go.RowKit
section
variable {P:Program} {base:Nat->Prop} {w0 w w':World} {I0 I I':Imm} {β β':Bmap} {σ σ':Za} {tm:Tms}
theorem ZjS {a:Act} (T:TR I β tm a.tmps):∀ {parts:List (Nat×Operand)} {ps:List (Nat×Opd)},Zeh parts=some ps ->
  (parts.map fun (i,x)=>(i,a.eval x))=(ps.map (·.1)).zip (parts.map fun p=>a.eval p.2)/\VRs I β (ps.map fun p=>p.2.ev tm) (parts.map fun p=>a.eval p.2)/\ps.length=parts.length
 | [],ps,h=>by simp only [Zeh,Xa] at h;subst h;exact ⟨rfl,by simp [VRs],rfl⟩
 | (i,x)::r,ps,h=>by
  simp only [Zeh] at h
  split at h
  ·rename_i y ps' hy hps
   injection h with h;subst h
   obtain ⟨h1,h2,h3⟩:=ZjS T hps
   refine ⟨by simp [h1],?_,by simp [h3]⟩
   simp only [Xy,VRs]
   exact ⟨_,_,rfl,Z7 T hy,h2⟩
  ·cases h
theorem ZfD {t:TypeId} {k bytes:Nat} {z:AVal} (h:ZcN P t=some (k,bytes,z)):∃ e i v,P.underlying t=some (.slice e)/\P.info? e=some i/\i.size=k/\i.bytes=bytes/\i.zero=some v/\ZdU v=some z/\0 < k/\0 < bytes/\z.cells.length=k:=by
 unfold ZcN at h
 split at h
 ·rename_i e hu
  split at h
  ·rename_i i z' hi hz
   split at h
   ·rename_i hc
    simp only [Xa,Xb] at h
    obtain ⟨rfl,rfl,rfl⟩:=h
    unfold Zcc at hz
    rw [hi] at hz
    simp only at hz
    split at hz
    ·rename_i v hv
     exact ⟨e,i,v,hu,hi,rfl,rfl,hv,hz,hc.1,hc.2.1,hc.2.2⟩
    ·cases hz
   ·cases h
  ·cases h
 ·cases h
theorem ZtD {k:Nat} {xs:List AVal} {us:Array Value} (hk:∀ x ∈ xs,x.cells.length=k) (hv:VRs I β (xs.flatMap AVal.cells) us.toList) (hI:I.le (I.add w.heap.size us)):LR (I.add w.heap.size us) β k xs w.heap.size 0 :=
 Zfv hk (VRs.mono hI (Bmap.le.refl β) _ _ hv) (fun j u hu=>by simp only [Imm.add,XF,if_true];simpa using hu)
theorem Zz2 {a:Act} (T:TR I β tm a.tmps) (R:Rel base w0 I0 I β σ w) (hb:KLt base w0) {t:TypeId} {n:Nat} {parts:Array (Nat×Operand)} {k bytes:Nat} {z:AVal} {own:Bool} {ps:List (Nat×Opd)} (he:ZcN P t=some (k,bytes,z)) (hn:n*k<=16777216) (hps:Zeh parts.toList=some ps)
  {sq:Nat} (hs:own=true->σ[sq]?=some .free) {O:ZV} {pure':Nat->Bool} {r:AVal} {c:Cls} (h:execI O pure' tm σ sq (.bslice own k n z ps)=some (r,σ',c)) :
  ∃ u w',(Instr.buildSlice t n (parts.map fun (i,x)=>(i,a.eval x))).run P w=.ok u w'/\Post base w0 I0 I β r σ' u w':=by
 obtain ⟨e,i,v,hu,hi,hik,hib,hv,hz,hk,hby,hzl⟩:=ZfD he
 obtain ⟨hz1,hz2⟩:=Zdr (I:=I) (β:=β) hz
 simp only [execI] at h
 split at h
 ·cases h
 rename_i ys ts hview
 split at h
 case isFalse=>cases h
 rename_i hc
 simp only [Xr,XB,beq_iff_eq,decide_eq_true_eq] at hc
 obtain ⟨⟨hy,hidx⟩,_⟩:=hc
 obtain ⟨c1,c2,c3⟩:=ZjS (a:=a) T hps
 obtain ⟨I1,hI1,R1,hal,_,hfz,_,hoth,_⟩:=ZeX ts R
 obtain ⟨v1,v2⟩:=ZjU R1 (hfz (ZgH hview)) (by rw [hal.viewAs];exact hview) (c2.mono hI1 (Bmap.le.refl β) _ _)
 have hyl:(ps.map (·.1)).length=ys.length:=by rw [Zay v1];simp [c3]
 obtain ⟨cells',g1,g2,g3,g4,g5⟩:=Zif (I:=I1) (β:=β) (k:=k) (is:=ps.map (·.1)) (ys:=ys) (vs:=parts.toList.map fun p=>a.eval p.2) (xs:=XD n z) (cells:=(WR (n*k)).map (v.cells[· % v.cells.size]!)) hyl (fun y hy=>Ztq (v2 y hy)) v1 hy
  (by intro j hj;simp only [XJ] at hj;obtain ⟨p,hp,rfl⟩:=hj;simpa using hidx p hp) (by intro x hx;rw [XV hx];exact hzl) (ZhH (Zc6 hz) (hz1.mono hI1 (Bmap.le.refl β) _ _) hzl hk n)
 have hrun:(Instr.buildSlice t n (parts.map fun (i,x)=>(i,a.eval x))).run P w=.ok (.slice (some ⟨w.heap.size,0,none⟩) n n) { w with heap:=w.heap.push (.cells cells' e) }:=by
  have hpl:(parts.map fun (i,x)=>(i,a.eval x)).toList=(ps.map (·.1)).zip (parts.toList.map fun p=>a.eval p.2):=by rw [<-c1];simp
  have hle:¬16777216 < n*i.size:=by rw [hik];omega
  have hle':¬2 ^ 24 < n*k:=by omega
  by_cases hn0:n*k=0
  ·have hr0:WR 0=#[]:=rfl
   have g1':Instr.fill (fun i=>some (i*k,k)) #[] ((ps.map (·.1)).zip (parts.toList.map fun p=>a.eval p.2))=some cells':=by
    rw [hn0,hr0] at g1;simpa using g1
   simp only [Instr.buildSlice,Sem.run_bind,run_underlying hu,Result.andThen_ok,sizeOf,typeInfo,run_program,hi,Sem.run_pure,Sem.run_ite,hik,hn0,hpl]
   simp [hr0,g1',newRow]
  ·simp only [Instr.buildSlice,Sem.run_bind,run_underlying hu,Result.andThen_ok,sizeOf,typeInfo,run_program,hi,Sem.run_pure,Sem.run_ite,hik,hn0,hpl,zeroValue,hv,if_false]
   simp [show ¬16777216 < n*k by omega,hn0,g1,newRow,hv]
 have htree:Z4 (((ps.map (·.1)).zip ys).foldl (fun l p=>l.set p.1 p.2) (XD n z))=true:=by
  have aux:∀ (l:List (Nat×AVal)) (xs:List AVal),(∀ p ∈ l,Zav p.2.cells=true)->Z4 xs=true->Z4 (l.foldl (fun l p=>l.set p.1 p.2) xs)=true:=by
   intro l
   induction l with
   | nil=>intro xs _ h;exact h
   | cons p l ih =>
    intro xs hp hx
    refine ih _ (fun q hq=>hp q (by simp [hq])) ?_
    rw [ZbR] at hx ⊢
    intro x hm
    rcases Wl hm with hm | rfl
    ·exact hx x hm
    ·exact hp p (by simp)
  refine aux _ _ (fun p hp=>v2 p.2 (List.of_mem_zip hp).2) ?_
  rw [ZbR];intro x hx;rw [XV hx];exact hz2
 have hcs:cells'.size=n*k:=by rw [g5];simp
 have hn63:n<=9223372036854775807:=by
  have : n*1<=n*k:=Xah n hk
  omega
 generalize ((ps.map (·.1)).zip ys).foldl (fun l p=>l.set p.1 p.2) (XD n z)=xs at *
 have hxl:xs.length=n:=by rw [g4];simp
 split at h
 ·rename_i ho
  simp only [Xa,Xb] at h
  obtain ⟨rfl,rfl,rfl⟩:=h
  have hs1:(ZT σ ts)[sq]?=some .free:=by
   refine hoth sq _ ?_ (hs ho)
   intro hm
   obtain ⟨g,k',xs',hx | hx⟩:=ZgH hview sq hm <;> (rw [hs ho] at hx;cases hx)
  obtain ⟨R',hle⟩:=R1.newOwn hb hs1 cells' e (.row 0 k xs) k n (Xu ⟨xs,rfl,hk,hn63,by omega,htree,g3,hcs,by rw [X6 (by simp [hcs,hxl])];exact g2⟩)
  refine ⟨_,_,hrun,Post.mk hI1 hle R' ?_⟩
  rw [Zbt]
  exact ⟨_,Bmap.put_same β sq 0 _,XM _,hn63,Xs ⟨_,rfl,rfl⟩⟩
 ·simp only [Xa,Xb] at h
  obtain ⟨rfl,rfl,rfl⟩:=h
  obtain ⟨R',hI⟩:=R1.newImm hb cells' e (0,0)
  refine ⟨_,_,hrun,Post.mk (hI1.trans hI) (Bmap.le.refl β) R' ?_⟩
  simp only [VR]
  refine ⟨some ⟨w.heap.size,0,none⟩,n,by rw [hxl],by omega,hn63,fun _=>hxl.symm,?_,htree⟩
  by_cases hx0:xs=[]
  ·exact Xs hx0
  ·exact Xu ⟨w.heap.size,0,k,rfl,hk,ZtD g3 g2 hI⟩
theorem Zsc {a:Act} (T:TR I β tm a.tmps) (R:Rel base w0 I0 I β σ w) (hb:KLt base w0) {t:TypeId} {n:Nat} {parts:Array (Nat×Operand)} {k bytes:Nat} {z:AVal} {ps:List (Nat×Opd)} (he:ZcN P t=some (k,bytes,z)) (hn:n*k<=16777216) (hps:Zeh parts.toList=some ps)
  {sq:Nat} (hs:σ[sq]?=some .free) {O:ZV} {pure':Nat->Bool} {r:AVal} {c:Cls} (h:execI O pure' tm σ sq (.rslice k n z ps)=some (r,σ',c)) :
  ∃ u w',(Instr.buildSlice t n (parts.map fun (i,x)=>(i,a.eval x))).run P w=.ok u w'/\Post base w0 I0 I β r σ' u w':=by
 obtain ⟨e,i,v,hu,hi,hik,hib,hv,hz,hk,hby,hzl⟩:=ZfD he
 obtain ⟨hz1,hz2⟩:=Zdr (I:=I) (β:=β) hz
 simp only [execI] at h
 split at h
 case isFalse=>cases h
 rename_i hc
 simp only [Xr,XB,beq_iff_eq,decide_eq_true_eq] at hc
 obtain ⟨⟨⟨hy0,hidx⟩,_⟩,hzok⟩:=hc
 obtain ⟨c1,c2,c3⟩:=ZjS (a:=a) T hps
 have hzip:(ps.map (·.1)).zip (ps.map fun p=>p.2.ev tm)=ps.map fun p=>(p.1,p.2.ev tm):=by
  rw [List.zip_map']
 have hy:∀ y ∈ ps.map (fun p=>p.2.ev tm),y.cells.length=k:=by
  intro y hy
  obtain ⟨p,hp,rfl⟩:=XJ.1 hy
  exact (hy0 p hp).1
 have hyok:∀ y ∈ ps.map (fun p=>p.2.ev tm),∀ c ∈ y.cells,Z5 c=true:=by
  intro y hy
  obtain ⟨p,hp,rfl⟩:=XJ.1 hy
  exact (hy0 p hp).2
 have hntop:∀ y ∈ ps.map (fun p=>p.2.ev tm),y≠.top:=by
  intro y hy e
  have:=hyok y hy
  rw [e] at this
  have:=this .top (by simp [AVal.cells])
  cases this
 obtain ⟨cells',g1,g2,g3,g4,g5⟩:=Zif (I:=I) (β:=β) (k:=k) (is:=ps.map (·.1)) (ys:=ps.map fun p=>p.2.ev tm) (vs:=parts.toList.map fun p=>a.eval p.2) (xs:=XD n z) (cells:=(WR (n*k)).map (v.cells[· % v.cells.size]!)) (by simp) hntop c2 hy
  (by intro j hj;simp only [XJ] at hj;obtain ⟨p,hp,rfl⟩:=hj;simpa using hidx p hp) (by intro x hx;rw [XV hx];exact hzl) (ZhH (Zc6 hz) hz1 hzl hk n)
 have hrun:(Instr.buildSlice t n (parts.map fun (i,x)=>(i,a.eval x))).run P w=.ok (.slice (some ⟨w.heap.size,0,none⟩) n n) { w with heap:=w.heap.push (.cells cells' e) }:=by
  have hpl:(parts.map fun (i,x)=>(i,a.eval x)).toList=(ps.map (·.1)).zip (parts.toList.map fun p=>a.eval p.2):=by rw [<-c1];simp
  have hle:¬16777216 < n*i.size:=by rw [hik];omega
  have hle':¬2 ^ 24 < n*k:=by omega
  by_cases hn0:n*k=0
  ·have hr0:WR 0=#[]:=rfl
   have g1':Instr.fill (fun i=>some (i*k,k)) #[] ((ps.map (·.1)).zip (parts.toList.map fun p=>a.eval p.2))=some cells':=by
    rw [hn0,hr0] at g1;simpa using g1
   simp only [Instr.buildSlice,Sem.run_bind,run_underlying hu,Result.andThen_ok,sizeOf,typeInfo,run_program,hi,Sem.run_pure,Sem.run_ite,hik,hn0,hpl]
   simp [hr0,g1',newRow]
  ·simp only [Instr.buildSlice,Sem.run_bind,run_underlying hu,Result.andThen_ok,sizeOf,typeInfo,run_program,hi,Sem.run_pure,Sem.run_ite,hik,hn0,hpl,zeroValue,hv,if_false]
   simp [show ¬16777216 < n*k by omega,hn0,g1,newRow,hv]
 rw [hzip] at g2 g3 g4
 have hall:∀ x ∈ (ps.map fun p=>(p.1,p.2.ev tm)).foldl (fun l p=>l.set p.1 p.2) (XD n z),∀ c ∈ x.cells,Z5 c=true:=by
  have aux:∀ (l:List (Nat×AVal)) (xs:List AVal),(∀ p ∈ l,∀ c ∈ p.2.cells,Z5 c=true)->(∀ x ∈ xs,∀ c ∈ x.cells,Z5 c=true)->∀ x ∈ l.foldl (fun l p=>l.set p.1 p.2) xs,∀ c ∈ x.cells,Z5 c=true:=by
   intro l
   induction l with
   | nil=>intro xs _ h;exact h
   | cons p l ih =>
    intro xs hp hx
    refine ih _ (fun q hq=>hp q (by simp [hq])) ?_
    intro x hm
    rcases Wl hm with hm | rfl
    ·exact hx x hm
    ·exact hp p (by simp)
  refine aux _ _ (fun p hp=>?_) (fun x hx=>by rw [XV hx];exact hzok)
  obtain ⟨q,hq,rfl⟩:=XJ.1 hp
  exact (hy0 q hq).2
 have hcs:cells'.size=n*k:=by rw [g5];simp
 have hn63:n<=9223372036854775807:=by
  have : n*1<=n*k:=Xah n hk
  omega
 generalize (ps.map fun p=>(p.1,p.2.ev tm)).foldl (fun l p=>l.set p.1 p.2) (XD n z)=xs at *
 have hxl:xs.length=n:=by rw [g4];simp
 simp only [Xa,Xb] at h
 obtain ⟨rfl,rfl,rfl⟩:=h
 obtain ⟨R',hle⟩:=R.newObj hb hs (.cells cells' e) (.rrow 0 k xs) k n (by simp [Zh,Bmap.put_same]) rfl (by simp)
  ⟨_,Bmap.put_same β sq 0 _,rfl,hk,hn63,by simp only [hxl];exact XM _,fun x hx=>⟨g3 x hx,hall x hx⟩,w.heap.size,cells',e,rfl,by simp,hcs,by rw [X6 (by simp [hcs,hxl])];exact VRs.mono (Imm.le.refl I) (Bmap.put_le (R.free sq 0 hs)) _ _ g2⟩
 refine ⟨_,_,hrun,Post.mk (Imm.le.refl I) hle R' ?_⟩
 rw [Zbt]
 exact ⟨_,Bmap.put_same β sq 0 _,XM _,hn63,Xs ⟨_,rfl,rfl⟩⟩
theorem ZwM (R:Rel base w0 I0 I β σ w) {t ty:TypeId} {k bytes:Nat} {z:AVal} (he:ZcN P t=some (k,bytes,z)) {x r:AVal} {v:Value} (hx:VR I β x v) {c:Cls} (h:Zt σ k z x=some (r,σ',c)) :
  ∃ u w',(Builtin.clear_ #[t] ty #[v]).run P w=.ok u w'/\Post base w0 I0 I β r σ' u w':=by
 obtain ⟨e,i,vz,hu,hi,hik,hib,hvz,hz,hk,hby,hzl⟩:=ZfD he
 obtain ⟨hz1,hz2⟩:=Zdr (I:=I) (β:=β) hz
 unfold Zt at h
 split at h
 case h_2=>cases h
 rename_i t' g lo n
 split at h
 case h_2=>cases h
 rename_i g' k' xs hs
 split at h
 case isFalse=>cases h
 rename_i hc
 obtain ⟨rfl,rfl,hle,_⟩:=hc
 simp only [Xa,Xb] at h
 obtain ⟨rfl,rfl,rfl⟩:=h
 have Zeu:VR I β (.tup []) (.tuple #[]):=by simp [VR,VRs]
 by_cases hn:n=0
 ·subst hn
  have hsame:σ.set t' (.row g' k' (xs.take lo++XD 0 z++xs.drop (lo+0)))=σ:=by
   have : xs.take lo++XD 0 z++xs.drop (lo+0)=xs:=by simp
   rw [this]
   apply Wv
   intro j
   rw [Xq]
   split
   ·rename_i e;subst e
    split
    ·exact hs.symm
    ·rename_i hlt;rw [XS (by omega)]
   ·rfl
  rw [hsame]
  refine ⟨.tuple #[],w,?_,Post.here R Zeu⟩
  simp only [VR] at hx
  obtain ⟨bi,_,_,_,hv⟩:=hx
  rcases hv with ⟨b,_,rfl⟩ | ⟨_,_,A,rfl⟩ | ⟨_,_,_,A,rfl⟩
  ·simp [Builtin.clear_,run_underlying hu]
  ·cases A <;> simp [Builtin.clear_,run_underlying hu]
  ·cases A <;> simp [Builtin.clear_,run_underlying hu]
 ·obtain ⟨bi,e1,e2,e3,e4,e5,e6,e7,e8⟩:=R.blk _ _ hs
  subst e2
  simp only [VR] at hx
  obtain ⟨bi',f1,f2,f3,f4⟩:=hx
  rw [e1] at f1
  injection f1 with f1
  subst f1
  have hown:∀ b,Zh w β t' (.row g' bi.k xs) b↔bi.b=some b:=by simp [Zh,e1]
  rcases e8 with ⟨_,hz0⟩ | ⟨b,us,ty0,hbb,e8,e9,e10⟩
  ·omega
  have hv0:v=.slice (some ⟨b,lo*bi.k,none⟩) n (bi.cap - lo):=by
   rcases f4 with ⟨b',eb,rfl⟩ | ⟨_,hz0,_⟩ | ⟨_,_,hn0,_⟩
   ·rw [hbb] at eb;injection eb with eb;subst eb;rfl
   ·omega
   ·exact absurd hn0 hn
  subst hv0
  have hrep:=ZhH (I:=I) (β:=β) (Zc6 hz) hz1 hzl hk n
  have hvl:=ZdT (Zc6 hz) hz1
  have hzc:Builtin.zeroCells vz.cells n=(WR (n*bi.k)).map (vz.cells[· % vz.cells.size]!):=by
   unfold Builtin.zeroCells
   rw [hvl,hzl]
  have hlen:((WR (n*bi.k)).map (vz.cells[· % vz.cells.size]!)).toList.length=n*bi.k:=by simp
  have hone:∀ v ∈ ((WR (n*bi.k)).map (vz.cells[· % vz.cells.size]!)).toList,v.oneCell'=true:=ZfX (fun y hy=>by
   obtain ⟨q,hq,hy⟩:=X5.1 hy
   rw [XV hq] at hy
   exact Ziz (Zcf.1 hz2 y hy)) hrep
  have hmul:(lo+n)*bi.k<=us.size:=by rw [e9];exact Wa _ f2
  have hmul2:(lo+n)*bi.k<=xs.length*bi.k:=Wa _ hle
  rw [X0] at hmul hmul2
  have hst:=run_storeCells_at (P:=P) b (lo*bi.k) ty0 _ 0 us w e8 (by rw [hlen];omega) hone
  simp only [XU] at hst
  refine ⟨.tuple #[],_,?_,Post.here (R.write hs (b:=b) (by rw [hown,hbb]) (us.toList.take (lo*bi.k)++((WR (n*bi.k)).map (vz.cells[· % vz.cells.size]!)).toList++us.toList.drop (lo*bi.k+((WR (n*bi.k)).map (vz.cells[· % vz.cells.size]!)).toList.length)).toArray (by simp [Zh,e1,hbb]) ?_ rfl) Zeu⟩
  ·obtain ⟨m,rfl⟩:∃ m,n=m+1:=⟨n - 1,by omega⟩
   simp only [Builtin.clear_,zeroValue,typeInfo,hi,hvz,hzc,run_underlying hu,Sem.run_bind,Sem.run_pure,Result.andThen_ok,List.getElem?_toArray,XG,run_program]
   rw [hst]
   rfl
  ·have hxl:(xs.take lo++XD n z++xs.drop (lo+n)).length=xs.length:=by simp;omega
   refine ⟨bi,e1,rfl,e3,e4,by rw [hxl];exact e5,?_,?_,Xu ⟨b,_,ty0,hbb,setRow_heap w b us _ ty0 (0,0) e8,?_,?_⟩⟩
   ·exact Ze2 (Ze2 (Zf2 e6 lo) (by rw [ZbR];intro x hx;rw [XV hx];exact hz2)) (ZfQ e6 _)
   ·intro q hq
    simp only [Xt] at hq
    rcases hq with (hq | hq) | hq
    ·exact e7 q (List.mem_of_mem_take hq)
    ·rw [XV hq];exact hzl
    ·exact e7 q (List.mem_of_mem_drop hq)
   ·simp only [List.size_toArray,XE,WM,List.length_drop,XH,hlen]
    rw [<-e9];omega
   ·rw [hxl,ZdK,ZdK,<-Zfu e7,<-ZeQ e7]
    have h1:=Zc8 e10 (lo*bi.k)
    have h2:=Zc4 e10 ((lo+n)*bi.k)
    have:=ZbO (ZbO h1 hrep) h2
    refine cast ?_ this
    congr 1
    rw [List.take_take,Nat.min_eq_left (by omega),List.drop_take]
    rw [X0]
    apply Wv
    intro j
    simp only [List.getElem?_append,XK,List.getElem?_drop,XE,WM,XH,hlen]
    repeat' split
    all_goals first | rfl | omega | (congr 1;omega) | (exfalso;omega) | skip
    all_goals (first | (symm;rw [XQ];simp;omega) | (rw [XQ];simp;omega))
theorem Zxn (R:Rel base w0 I0 I β σ w) (hb:KLt base w0) {t:TypeId} (ht:P.underlying t=some .string) {l:List UInt8} {sq:Nat} (hs:σ[sq]?=some .free) :
  ∃ u w',(Instr.range t (.string ⟨l.toArray⟩)).run P w=.ok u w'/\Post base w0 I0 I β (.ref sq 0) (σ.set sq (.siter l 0)) u w':=by
 obtain ⟨R',hle⟩:=R.newObj hb hs (.stringIter ⟨l.toArray⟩ 0) (.siter l 0) 1 1 (by simp [Zh,Bmap.put_same]) rfl (by simp)
  ⟨_,_,_,Bmap.put_same β sq 0 _,by simp⟩
 refine ⟨.pointer (some ⟨w.heap.size,0,none⟩),_,?_,Post.mk (Imm.le.refl I) hle R' ?_⟩
 ·simp [Instr.range,run_underlying ht]
 ·simp only [VR]
  exact ⟨_,_,_,Bmap.put_same β sq 0 _,rfl⟩
theorem Zsu (R:Rel base w0 I0 I β σ w) {t:Nat} {l:List UInt8} {p:Nat} (hs:σ[t]?=some (.siter l p)) {v:Value} (hv:VR I β (.ref t 0) v) (ty:TypeId) :
  ∃ u w',(Instr.next v true ty).run P w=.ok u w'/\(if p < l.length then Post base w0 I0 I β (.tup [.bool true,.int .i64 p,.int .i32 (Zea l p).1]) (σ.set t (.siter l (p+(Zea l p).2))) u w' else Post base w0 I0 I β (.tup [.bool false]) σ u w'):=by
 simp only [VR] at hv
 obtain ⟨b,k,c,hb,rfl⟩:=hv
 obtain ⟨b',k',c',e1,e2⟩:=R.blk _ _ hs
 rw [hb] at e1
 simp only [Xa,BI.mk.injEq] at e1
 obtain ⟨rfl,rfl,rfl⟩:=e1
 have hg:(getObj b).run P w=.ok (.stringIter ⟨l.toArray⟩ p) w:=by simp [getObj,Sem.run,e2]
 have hsz:(ByteArray.mk l.toArray).size=l.length:=by simp [WA]
 have hlt:b < w.heap.size:=(Xx.1 e2).1
 by_cases hp:p < l.length
 ·have hso:∀ o,(setObj b o).run P w=.ok () { w with heap:=w.heap.setIfInBounds b o }:=by intro o;simp [setObj,Sem.run,e2]
  refine ⟨.tuple #[.bool true,goInt p,.int .i32 (Zea l p).1],{ w with heap:=w.heap.setIfInBounds b (.stringIter ⟨l.toArray⟩ (p+(Zea l p).2)) },?_,?_⟩
  ·simp [Instr.next,hg,hsz,hp,hso,Zea]
  ·rw [if_pos hp]
   refine Post.here (R.putObj hs (by simp [Zh,hb]) _ (by simp [Zh,hb]) ⟨b,k,c,hb,?_⟩ rfl) ?_
   ·rw [WP hlt]
   ·simp [VR,VRs,goInt]
 ·refine ⟨.tuple #[.bool false],w,?_,?_⟩
  ·simp [Instr.next,hg,hsz,hp]
  ·rw [if_neg hp]
   refine Post.here R ?_
   simp [VR,VRs]
theorem Zym (R:Rel base w0 I0 I β σ w) (hb:KLt base w0) {t:TypeId} {k bytes:Nat} {z:AVal} (he:ZcN P t=some (k,bytes,z)) {l c:Int} (h0:0<=l) (h1:l<=c) (h2:c<=9223372036854775807) (h3:bytes*c<=140737488355328) {sq:Nat} (hs:σ[sq]?=some .free) :
  ∃ u w',(Instr.makeSlice t (.int .i64 l) (.int .i64 c)).run P w=.ok u w'/\Post base w0 I0 I β (.sl sq 0 0 l.toNat) (σ.set sq (.row 0 k (XD c.toNat z))) u w':=by
 obtain ⟨e,i,v,hu,hi,hik,hib,hv,hz,hk,hby,hzl⟩:=ZfD he
 obtain ⟨hz1,hz2⟩:=Zdr (I:=I) (β:=β) hz
 have wl:IntKind.i64.wrap l=l:=by rw [IntKind.wrap_i64];omega
 have wc:IntKind.i64.wrap c=c:=by rw [IntKind.wrap_i64];omega
 have hc0:¬c < 0:=by omega
 have hbc:¬(281474976710656:Int) < bytes*c:=by omega
 have hl0:¬l < 0:=by omega
 have hlc:¬c < l:=by omega
 have hvl:=ZdT (Zc6 hz) hz1
 have hrep:=ZhH (Zc6 hz) hz1 hzl hk c.toNat
 have husz:((WR (c.toNat*k)).map (v.cells[· % v.cells.size]!)).size=c.toNat*k:=by simp
 obtain ⟨R',hle⟩:=R.newOwn hb hs ((WR (c.toNat*k)).map (v.cells[· % v.cells.size]!)) e (.row 0 k (XD c.toNat z)) k c.toNat (Xu ⟨_,rfl,hk,by omega,by simp,by rw [ZbR];intro x hx;rw [XV hx];exact hz2,by intro x hx;rw [XV hx];exact hzl,husz,by rw [X6 (by simp)];exact hrep⟩)
 refine ⟨.slice (some ⟨w.heap.size,0,none⟩) l.toNat c.toNat,_,?_,Post.mk (Imm.le.refl I) hle R' ?_⟩
 ·by_cases hn0:c.toNat*k=0
  ·have hr0:WR 0=#[]:=rfl
   simp [Instr.makeSlice,run_underlying hu,asInt,asIntOf,typeInfo,hi,hib,wl,wc,sizeOf,hik,hn0,hc0,hbc,hl0,hlc,newRow,hr0]
  ·simp [Instr.makeSlice,run_underlying hu,asInt,asIntOf,typeInfo,hi,hib,wl,wc,sizeOf,hik,hn0,hc0,hbc,hl0,hlc,newRow,zeroValue,hv]
 ·rw [Zbt]
  exact ⟨_,Bmap.put_same β sq 0 _,by simp;omega,by simp;omega,Xs ⟨_,rfl,rfl⟩⟩
theorem Zra {t e:TypeId} (hu:P.underlying t=some (.slice e)) (he:P.underlying e=some (.int .u8)) (R:Rel base w0 I0 I β σ w) {t' g k lo n:Nat} {xs:List AVal} (hs:σ[t']?=some (.row g k xs)) (hn:lo+n<=xs.length) (h0:0 < n) {v:Value} (hx:VR I β (.sl t' g lo n) v) :
  ∃ w',(convert t t v).run P w=.ok v w'/\Post base w0 I0 I β (.lst false ((xs.drop lo).take n)) (σ.set t' (.frow g k xs)) v w':=by
 have hsl:t' < σ.length:=(Xc.1 hs).1
 have hx0:=hx
 simp only [VR] at hx
 obtain ⟨bi,f1,f2,f3,f4⟩:=hx
 obtain ⟨bi',h1,h2,h3,h4,h5,h6,h7,h8⟩:=R.blk _ _ hs
 rw [f1] at h1;injection h1 with h1;subst h1
 rcases f4 with ⟨b,hbb,rfl⟩ | ⟨_,hc,_⟩ | ⟨_,_,hz,_⟩
 ·rcases h8 with ⟨h8,_⟩ | ⟨b',us,ty,eb,h8,h9,h10⟩
  ·rw [hbb] at h8;cases h8
  rw [hbb] at eb;injection eb with eb;subst eb
  have hown:Zh w β t' (.row g k xs) b:=by simp [Zh,f1,hbb]
  have ho:=R.own t' _ b hs hown
  let w':World:=w.freeze ⟨b,us.size,none⟩ 1
  have hhb:w'.heap[b]?=some (.cells us ty (us.size,us.size+1)):=by
   simp only [w',World.freeze,Nat.one_ne_zero,if_false,W5,if_true,h8,XN]
   simp
  have hho:∀ b',b'≠b->w'.heap[b']?=w.heap[b']?:=by
   intro b' hne
   simp only [w',World.freeze,Nat.one_ne_zero,if_false,W5]
   rw [if_neg (fun e=>hne e.symm)]
  have hsz:w'.heap.size=w.heap.size:=by simp [w',World.freeze]
  let I':Imm:=fun b' o=>if b'=b/\o < xs.length*k then us[o]? else I b' o
  have hle:I.le I':=by
   intro b' o u hu
   have : b'≠b:=by rintro rfl;rw [ho.2 o] at hu;cases hu
   simp only [I',this,false_and,if_false]
   exact hu
  have R':Rel base w0 I0 I' β (σ.set t' (.frow g k xs)) w':=by
   refine R.upd hle (Bmap.le.refl β) ⟨rfl,rfl,rfl,by rw [hsz];exact XM _,fun q hq=>hho q (by rintro rfl;exact ho.1 hq)⟩ ?_ ?_ t' _ rfl hsl (fun _ _ _=>rfl) ?_ ?_ (fun b e=>by cases e) (fun g' hg=>R.gen t' _ g' hs (by simpa [Zc] using hg)) (by simp)
   ·intro b' o hb'
    have : b'≠b:=by rintro rfl;exact ho.1 hb'
    simp only [I',this,false_and,if_false]
   ·intro b' o u hu
    simp only [I'] at hu
    split at hu
    ·rename_i hc
     rw [hc.1,ZdL hhb];exact hu
    ·have:=R.imm _ _ _ hu
     have hne:b'≠b:=by rintro rfl;rw [ho.2 o] at hu;cases hu
     rw [<-this]
     simp only [World.cell?,hho b' hne]
   ·intro t'' x b' hne hx hb'
    have hbb':b'≠b:=by rintro rfl;exact hne (R.apart t'' x t' _ b' hx hs hb' hown)
    refine ⟨hho b' hbb',fun o=>?_,by simp [Zh]⟩
    simp only [I',hbb',false_and,if_false]
    exact (R.own t'' x b' hx hb').2 o
   ·refine ⟨bi,f1,h2,h3,h4,h5,h6,Xu ⟨b,hbb,?_⟩⟩
    refine Zfv h7 (VRs.mono hle (Bmap.le.refl β) _ _ h10) (fun j u hu=>?_)
    rw [XK] at hu
    split at hu
    ·rename_i hj
     simp only [I',XF,true_and,hj,if_true]
     simpa using hu
    ·cases hu
  refine ⟨w',?_,Post.mk hle (Bmap.le.refl β) R' (ZiC R' (by rw [Xq,if_pos rfl,if_pos hsl]) hn (hx0.mono hle (Bmap.le.refl β) _ _))⟩
  have hshape:w.shape? b=some (ty,us.size):=by simp [World.shape?,h8]
  simp [convert,run_underlying hu,run_underlying he,markStringish,hshape,w']
 ·omega
 ·omega
end
end
section
open Go.RowKit
section
variable {base:Nat->Prop} {w0 w w':World} {I0 I I':Imm} {β β':Bmap} {σ σ':Za} {ρ:Rho}
def Zd0 (ρ:Rho) (β β':Bmap):Prop:=∀ t g t' g' bi,ρ t g=some (t',g')->β t g=some bi->β' t' g'=some bi
mutual
theorem ZeB (hρ:Zd0 ρ β β'):∀ (x:AVal) (v:Value),VR I β x v->VR I β' (Zp ρ x) v
 | .top,_,h=>by simp only [Zp,VR]
 | .any,_,h=>by simpa only [Zp,VR] using h
 | .int _ _,_,h=>by simpa only [Zp,VR] using h
 | .bool _,_,h=>by simpa only [Zp,VR] using h
 | .str _,_,h=>by simpa only [Zp,VR] using h
 | .nilp,_,h=>by simpa only [Zp,VR] using h
 | .nilm,_,h=>by simpa only [Zp,VR] using h
 | .nili,_,h=>by simpa only [Zp,VR] using h
 | .pan _,_,h=>by simp only [VR] at h
 | .iface t x,_,h=>by
  simp only [Zp,VR] at h ⊢
  obtain ⟨u,h1,h2⟩:=h
  exact ⟨u,h1,ZeB hρ x u h2⟩
 | .ref t o,_,h=>by
  simp only [VR] at h
  obtain ⟨b,k,c,h1,h2⟩:=h
  simp only [Zp]
  split
  ·rename_i t' e
   simp only [VR]
   exact ⟨b,k,c,hρ _ _ _ _ _ e h1,h2⟩
  ·subst h2;simp only [VR];exact ⟨rfl,rfl⟩
 | .map t,_,h=>by
  simp only [VR] at h
  obtain ⟨b,k,c,h1,h2⟩:=h
  simp only [Zp]
  split
  ·rename_i t' e
   simp only [VR]
   exact ⟨b,k,c,hρ _ _ _ _ _ e h1,h2⟩
  ·subst h2;simp only [VR];exact ⟨rfl,rfl⟩
 | .eref t g i o,_,h=>by
  simp only [VR] at h
  obtain ⟨b,k,c,h1,h2⟩:=h
  simp only [Zp]
  split
  ·rename_i t' g' e
   simp only [VR]
   exact ⟨b,k,c,hρ _ _ _ _ _ e h1,h2⟩
  ·subst h2;simp only [VR];exact ⟨rfl,rfl⟩
 | .sl t g lo n,_,h=>by
  simp only [VR] at h
  obtain ⟨bi,h1,h2,h3,h4⟩:=h
  simp only [Zp]
  split
  ·rename_i t' g' e
   simp only [VR]
   exact ⟨bi,hρ _ _ _ _ _ e h1,h2,h3,h4⟩
  ·simp only [VR]
   rcases h4 with ⟨_,_,rfl⟩ | ⟨_,_,_,rfl⟩ | ⟨_,_,_,_,rfl⟩ <;> exact ⟨rfl,rfl⟩
 | .iptr cs o,_,h=>by
  simp only [Zp,VR] at h ⊢
  obtain ⟨b,off,h1,h2,h3⟩:=h
  exact ⟨b,off,h1,CR.of_tree h3 h2,h3⟩
 | .lst x xs,_,h=>by
  simp only [Zp,VR] at h ⊢
  obtain ⟨A,cap,h1,h2,h3,h4,h5,h6⟩:=h
  refine ⟨A,cap,h1,h2,h3,h4,?_,h6⟩
  rcases h5 with h5 | ⟨b,off,k,e,hk,h5⟩
  ·exact Xs h5
  ·exact Xu ⟨b,off,k,e,hk,(LR.tree k xs b off h6 h5).mono (Imm.le.refl I) (ZfW β') _ _ _ _⟩
 | .agg cs,_,h=>by
  simp only [Zp,VR] at h ⊢
  obtain ⟨us,h1,h2⟩:=h
  exact ⟨us,h1,Zdn hρ cs us.toList h2⟩
 | .tup cs,_,h=>by
  simp only [Zp,VR] at h ⊢
  obtain ⟨us,h1,h2⟩:=h
  exact ⟨us,h1,Zdn hρ cs us.toList h2⟩
 | .fn f cs,_,h=>by
  simp only [Zp,VR] at h ⊢
  obtain ⟨fs,us,h1,h0,h2⟩:=h
  exact ⟨fs,us,h1,h0,Zdn hρ cs (fs.toList++us.toList) h2⟩
theorem Zdn (hρ:Zd0 ρ β β'):∀ (xs:List AVal) (vs:List Value),VRs I β xs vs->VRs I β' (ZX ρ xs) vs
 | [],_,h=>by simpa only [ZX,VRs] using h
 | x::xs,_,h=>by
  simp only [ZX,VRs] at h ⊢
  obtain ⟨v,vs',h1,h2,h3⟩:=h
  exact ⟨v,vs',h1,ZeB hρ x v h2,Zdn hρ xs vs' h3⟩
end
theorem Zc9:∀ (xs:List AVal),ZX ρ xs=xs.map (Zp ρ)
 | []=>rfl
 | x::xs=>by simp only [ZX,Xy,Zc9 xs]
def ZcE:Z0->Bool
 | .var _ | .map _ | .siter _ _ | .opq | .book _ _=>true
 | _=>false
theorem Zky (x:AVal):(Zp ρ x).cells=x.cells.map (Zp ρ):=by
 cases x with
 | agg cs=>simp only [Zp,AVal.cells,Zc9]
 | ref t o =>
  show (Zp ρ (.ref t o)).cells=[Zp ρ (.ref t o)]
  simp only [Zp]
  generalize ρ t 0=q
  rcases q with _ | ⟨t',_ | g⟩ <;> rfl
 | eref t g i o =>
  show (Zp ρ (.eref t g i o)).cells=[Zp ρ (.eref t g i o)]
  simp only [Zp]
  generalize ρ t g=q
  rcases q with _ | ⟨t',g'⟩ <;> rfl
 | sl t g i o =>
  show (Zp ρ (.sl t g i o)).cells=[Zp ρ (.sl t g i o)]
  simp only [Zp]
  generalize ρ t g=q
  rcases q with _ | ⟨t',g'⟩ <;> rfl
 | map t =>
  show (Zp ρ (.map t)).cells=[Zp ρ (.map t)]
  simp only [Zp]
  generalize ρ t 0=q
  rcases q with _ | ⟨t',_ | g⟩ <;> rfl
 | _=>simp only [Zp,AVal.cells,Xy,XO]
theorem Zp2 (x:AVal):x.cells.length=(Zp ρ x).cells.length/\(∀ c ∈ (Zp ρ x).cells,∃ c0 ∈ x.cells,c=Zp ρ c0):=by
 rw [Zky]
 exact ⟨by simp,fun c hc=>by obtain ⟨c0,h0,rfl⟩:=XJ.1 hc;exact ⟨c0,h0,rfl⟩⟩
theorem Zp3 {c:AVal} (h:Z5 c=true):Z5 (Zp ρ c)=true:=by
 cases c <;> first
  | (simp [Z5] at h;done)
  | (simp only [Zp];rfl)
  | (simp only [Zp];split <;> rfl)
theorem ZlG:∀ (xs:List AVal),(ZX ρ xs).flatMap AVal.cells=ZX ρ (xs.flatMap AVal.cells)
 | []=>rfl
 | x::xs=>by
  rw [ZX,XI,XI,ZlG xs,Zc9,Zc9,Wk]
  rw [Zky]
theorem ZmW (hρ:Zd0 ρ β β') {t t':Nat} {x:Z0} {g':Nat} (hg:∀ bi,β t (Zc x)=some bi->β' t' g'=some bi) (hv:ZcE x=true->g'=0) (h:BR I β w t x):BR I β' w t' (Zg ρ g' x):=by
 cases x with
 | free=>trivial
 | map es =>
  obtain ⟨b,k,c,arr,clk,h1,h2,h3,h4,h5,h6⟩:=h
  have e:=hv rfl
  subst e
  refine ⟨b,k,c,arr,clk,hg _ h1,h2,?_,?_,?_,h6⟩
  ·rw [WC]
   refine VRs.of_cells (β:=β) ?_ h3
   intro x hx
   obtain ⟨p,hp,rfl⟩:=XJ.1 hx
   have:=h5 p hp
   show Zav p.1.cells=true
   generalize p.1=q at this ⊢
   cases q <;> simp [Zeo] at this <;> rfl
  ·have:=Zdn hρ _ _ h4
   rw [Zc9,WC] at this
   rw [WC]
   exact this
  ·intro p hp
   obtain ⟨q,hq,rfl⟩:=XJ.1 hp
   exact h5 q hq
 | opq =>
  obtain ⟨bi,h⟩:=h
  have e:=hv rfl
  subst e
  exact ⟨bi,hg _ h⟩
 | book n p =>
  obtain ⟨b,k,c,vs,h1,h3,h2⟩:=h
  have e:=hv rfl
  subst e
  have h3':=Zdn hρ _ _ h3
  rw [Zc9,WC] at h3'
  exact ⟨b,k,c,vs,hg _ h1,by rw [WC];exact h3',by rw [WC];exact h2⟩
 | siter l p =>
  obtain ⟨b,k,c,h1,h2⟩:=h
  have e:=hv rfl
  subst e
  exact ⟨b,k,c,hg _ h1,h2⟩
 | rrow g k xs =>
  obtain ⟨bi,h1,h2,h3,h4,h5,h6,b,us,ty,e,h8,h9,h10⟩:=h
  refine ⟨bi,hg _ h1,h2,h3,h4,by rw [Zc9,Xz];exact h5,?_,b,us,ty,e,h8,h9,?_⟩
  ·intro x hx
   rw [Zc9] at hx
   obtain ⟨y,hy,rfl⟩:=XJ.1 hx
   obtain ⟨q1,q2⟩:=Zp2 (ρ:=ρ) y
   refine ⟨by rw [<-q1];exact (h6 y hy).1,fun c hc=>?_⟩
   obtain ⟨c0,hc0,rfl⟩:=q2 c hc
   exact Zp3 ((h6 y hy).2 c0 hc0)
  ·rw [ZlG,show (ZX ρ xs).length=xs.length by rw [Zc9,Xz]]
   exact Zdn hρ _ _ h10
 | var cs =>
  obtain ⟨b,k,c,us,ty,h1,h2,h3⟩:=h
  have e:=hv rfl
  subst e
  exact ⟨b,k,c,us,ty,hg _ h1,h2,Zdn hρ _ _ h3⟩
 | row g k xs =>
  obtain ⟨bi,h1,h2,h3,h4,h5,h6,h7,h8⟩:=h
  refine ⟨bi,hg _ h1,h2,h3,h4,h5,h6,h7,?_⟩
  rcases h8 with h8 | ⟨b,us,ty,e,h8,h9,h10⟩
  ·exact Xs h8
  ·refine Xu ⟨b,us,ty,e,h8,h9,VRs.of_cells (β:=β) ?_ h10⟩
   intro x hx
   have:=Zcf.1 (Zk2 h6) x hx
   cases x <;> simp_all [Zax,AVal.cells,Zav]
 | frow g k xs =>
  obtain ⟨bi,h1,h2,h3,h4,h5,h6,h7⟩:=h
  refine ⟨bi,hg _ h1,h2,h3,h4,h5,h6,?_⟩
  rcases h7 with h7 | ⟨b,e,h7⟩
  ·exact Xs h7
  ·exact Xu ⟨b,e,(LR.tree _ _ _ _ h6 h7).mono (Imm.le.refl I) (ZfW β') _ _ _ _⟩
theorem Zk7 {t t' g':Nat} {x:Z0} (hg:∀ bi,β t (Zc x)=some bi->β' t' g'=some bi) (hv:ZcE x=true->g'=0) (h:BR I β w t x):Zh w β' t' (Zg ρ g' x)=Zh w β t x:=by
 cases x with
 | free=>rfl
 | opq=>rfl
 | book n p =>
  obtain ⟨b,k,c,vs,h1,_⟩:=h
  have e:=hv rfl
  subst e
  have h2:=hg _ h1
  have h1':β t 0=some ⟨some b,k,c⟩:=h1
  funext b';simp [Zh,Zg,h1',h2]
 | map es =>
  obtain ⟨b,k,c,_,_,h1,_⟩:=h
  have e:=hv rfl
  subst e
  have h2:=hg _ h1
  have h1':β t 0=some ⟨some b,k,c⟩:=h1
  funext b';simp [Zh,Zg,h1',h2]
 | siter l p =>
  obtain ⟨b,k,c,h1,_⟩:=h
  have e:=hv rfl
  subst e
  have h2:=hg _ h1
  have h1':β t 0=some ⟨some b,k,c⟩:=h1
  funext b';simp [Zh,Zg,h1',h2]
 | rrow g k xs =>
  obtain ⟨bi,h1,_⟩:=h
  have h2:=hg _ h1
  have h1':β t g=some bi:=h1
  funext b';simp [Zh,Zg,h1',h2]
 | frow=>rfl
 | var cs =>
  obtain ⟨b,k,c,us,ty,h1,_⟩:=h
  have e:=hv rfl
  subst e
  have h2:=hg _ h1
  have h1':β t 0=some ⟨some b,k,c⟩:=h1
  funext b';simp [Zh,Zg,h1',h2]
 | row g k xs =>
  obtain ⟨bi,h1,_⟩:=h
  have h2:=hg _ h1
  have h1':β t g=some bi:=h1
  funext b';simp [Zh,Zg,h1',h2]
theorem ZlJ {g':Nat} {x:Z0} (hv:ZcE x=true->g'=0) (hx:okB x=true):Zc (Zg ρ g' x)=g':=by
 cases x with
 | var cs=>simp [Zg,Zc,hv rfl]
 | row=>rfl
 | frow=>rfl
 | rrow=>rfl
 | map es=>simp [Zg,Zc,hv rfl]
 | siter l p=>simp [Zg,Zc,hv rfl]
 | opq=>simp [Zg,Zc,hv rfl]
 | book n p=>simp [Zg,Zc,hv rfl]
 | free=>simp [okB] at hx
theorem Zjp:∀ {ids:List Nat} {t i j:Nat},Zm t ids i=some j->∃ k,j=i+k/\ids[k]?=some t
 | [],t,i,j,h=>by simp [Zm] at h
 | x::xs,t,i,j,h=>by
  simp only [Zm] at h
  split at h
  ·rename_i e;injection h with h;subst h e;exact ⟨0,by simp,rfl⟩
  ·obtain ⟨k,h1,h2⟩:=Zjp h
   exact ⟨k+1,by omega,by simpa using h2⟩
theorem ZkG {m:Nat} {ids:List Nat}:∀ {ts:List Nat} {j i:Nat},(Ze σ m ids ρ ts j)[i]?=(ts[i]?).map fun t=>Zg ρ (Zk m (j+i) (σ.getD t .free)) (σ.getD t .free)
 | [],j,i=>by simp [Ze]
 | t::ts,j,0=>by simp [Ze]
 | t::ts,j,i+1=>by
  simp only [Ze,XR]
  rw [ZkG (ts:=ts) (j:=j+1) (i:=i)]
  congr 2
  funext t
  rw [show j+1+i=j+(i+1) by omega]
theorem ZhB {m:Nat} {ids:List Nat}:∀ {ts:List Nat} {j:Nat},(Ze σ m ids ρ ts j).length=ts.length
 | [],j=>rfl
 | t::ts,j=>by simp only [Ze,List.length_cons,ZhB]
def ZbF (σ:Za) (m:Nat) (ids:List Nat) (β:Bmap):Bmap:=fun j g=>match ids[j]? with
 | some t=>match σ[t]? with
  | some b=>if okB b then (if g=Zk m j b then β t (Zc b) else if j < m/\g=0 then β t 0 else none) else none
  | none=>none
 | none=>none
theorem ZiJ {m:Nat} {ids:List Nat}:Zd0 (Zd σ m ids) β (ZbF σ m ids β):=by
 intro t g t' g' bi h hb
 unfold Zd at h
 split at h
 ·rename_i j hj
  obtain ⟨k,e,hk⟩:=Zjp hj
  have e':j=k:=by omega
  subst e'
  have fin:∀ b,σ[t]?=some b->okB b=true->(if g=Zc b then some (j,Zk m j b) else (none:Option (Nat×Nat)))=some (t',g')->ZbF σ m ids β t' g'=some bi:=by
   intro b hb' hok h
   by_cases e:g=Zc b
   ·rw [if_pos e] at h
    simp only [Xa,Xb] at h
    obtain ⟨rfl,rfl⟩:=h
    unfold ZbF
    simp only [hk,hb',hok,if_true]
    rw [<-e];exact hb
   ·rw [if_neg e] at h;cases h
  split at h
  ·cases h
  ·rename_i b n1 hb'
   refine fin b hb' ?_ h
   cases b with
   | free=>exact absurd rfl n1
   | map es=>rfl
   | siter=>rfl
   | opq=>rfl
   | book=>rfl
   | rrow=>rfl
   | var=>rfl
   | row=>rfl
   | frow=>rfl
  ·cases h
 ·cases h
theorem Zw3 {m j:Nat} {x:Z0} (h:ZcE x=true):Zk m j x=0:=by cases x <;> simp [ZcE] at h <;> simp [Zk,Zc]
theorem Rel.pick (R:Rel base w0 I0 I β σ w) {K':Nat->Prop} {w1:World} {I1:Imm} {m:Nat} {ids:List Nat} (hnd:ids.Nodup) (h1:KB K' w1 w) (h2:∀ b o,K' b->I b o=I1 b o) (h3:∀ t x b,t ∈ ids->σ[t]?=some x->Zh w β t x b->¬K' b) :
  Rel K' w1 I1 I (ZbF σ m ids β) (Ze σ m ids (Zd σ m ids) ids 0) w:=by
 have look:∀ j x',(Ze σ m ids (Zd σ m ids) ids 0)[j]?=some x'->∃ t,ids[j]?=some t/\(x'=.free/\(∀ g,ZbF σ m ids β j g=none)\/∃ x,σ[t]?=some x/\okB x=true/\x'=Zg (Zd σ m ids) (Zk m j x) x/\ZbF σ m ids β j (Zk m j x)=β t (Zc x)):=by
  intro j x' h
  rw [ZkG,Xo] at h
  obtain ⟨t,ht,h⟩:=h
  simp only [XF] at h
  refine ⟨t,ht,?_⟩
  cases hx:σ[t]? with
  | none =>
   left
   have : σ.getD t .free=.free:=by simp [Xi,hx]
   rw [this] at h
   exact ⟨h.symm,fun g=>by simp [ZbF,ht,hx]⟩
  | some x =>
   have hd:σ.getD t .free=x:=by simp [Xi,hx]
   rw [hd] at h
   by_cases hok:okB x=true
   ·exact Xu ⟨x,rfl,hok,h.symm,by simp [ZbF,ht,hx,hok]⟩
   ·left
    refine ⟨?_,fun g=>by simp [ZbF,ht,hx,hok]⟩
    rw [<-h]
    cases x <;> simp_all [okB,Zg]
 have hvar:∀ (j:Nat) (x:Z0),ZcE x=true->Zk m j x=0:=fun j x h=>Zw3 h
 have hown:∀ j x' b,(Ze σ m ids (Zd σ m ids) ids 0)[j]?=some x'->Zh w (ZbF σ m ids β) j x' b->∃ t x,ids[j]?=some t/\σ[t]?=some x/\Zh w β t x b:=by
  intro j x' b h hb
  obtain ⟨t,ht,⟨rfl,_⟩ | ⟨x,hx,hok,rfl,hβ⟩⟩:=look j x' h
  ·cases hb
  ·rw [Zk7 (fun bi h=>by rw [hβ];exact h) (hvar j x) (R.blk t x hx)] at hb
   exact ⟨t,x,ht,hx,hb⟩
 refine ⟨h1,h2,R.imm,?_,?_,?_,?_,?_,?_,R.glob⟩
 ·intro j x' h
  obtain ⟨t,ht,⟨rfl,_⟩ | ⟨x,hx,hok,rfl,hβ⟩⟩:=look j x' h
  ·trivial
  ·exact ZmW ZiJ (fun bi h=>by rw [hβ];exact h) (hvar j x) (R.blk t x hx)
 ·intro j x' b h hb
  obtain ⟨t,x,ht,hx,hb⟩:=hown j x' b h hb
  exact ⟨h3 t x b (Xv ht) hx hb,(R.own t x b hx hb).2⟩
 ·intro j x j' x' b h h' hb hb'
  obtain ⟨t,y,ht,hy,e⟩:=hown j x b h hb
  obtain ⟨t',y',ht',hy',e'⟩:=hown j' x' b h' hb'
  have:=R.apart t y t' y' b hy hy' e e'
  subst this
  exact (Xa7 (Xc.1 ht).1 hnd).1 (ht.trans ht'.symm)
 ·intro j g h
  rw [ZhB] at h
  unfold ZbF
  rw [XS h]
 ·intro j g h
  obtain ⟨t,ht,⟨_,h⟩ | ⟨x,hx,hok,h,hβ⟩⟩:=look j _ h
  ·exact h g
  ·cases x <;> first | (simp only [okB] at hok;cases hok;done) | (simp only [Zg] at h;cases h;done)
 ·intro j b g h hg
  obtain ⟨t,ht,⟨_,h⟩ | ⟨x,hx,hok,rfl,hβ⟩⟩:=look j _ h
  ·exact h g
  ·rw [ZlJ (hvar j x) hok] at hg
   simp only [ZbF,ht,hx,hok,if_true]
   rw [if_neg (by omega),if_neg (by omega)]
theorem ZeI:∀ (n:Nat) (todo acc:List Nat),acc.Nodup->(Zf σ n todo acc).Nodup/\∃ r,Zf σ n todo acc=acc++r
 | 0,todo,acc,h=>⟨h,[],by simp [Zf]⟩
 | n+1,[],acc,h=>⟨h,[],by simp [Zf]⟩
 | n+1,t::todo,acc,h=>by
  simp only [Zf]
  split
  ·exact ZeI n todo acc h
  ·rename_i hc
   have hnd:(acc++[t]).Nodup:=by
    rw [WD]
    refine ⟨h,by simp,?_⟩
    intro a ha b hb
    simp only [X9] at hb
    subst hb
    rintro rfl
    simp [ha] at hc
   obtain ⟨h1,r,h2⟩:=ZeI n (Zn (σ.getD t .free)++todo) (acc++[t]) hnd
   exact ⟨h1,t::r,by rw [h2];simp⟩
def KeptE (m:Nat) (β β':Bmap):Prop:=∀ t,t < m->∀ bi,β t 0=some bi->β' t 0=some bi
theorem KeptE.refl (m:Nat) (β:Bmap):KeptE m β β:=fun _ _ _ h=>h
theorem KeptE.trans {m:Nat} {a b c:Bmap} (h:KeptE m a b) (h':KeptE m b c):KeptE m a c:=fun t ht bi e=>h' t ht bi (h t ht bi e)
theorem KeptE.of_le {m:Nat} (h:β.le β'):KeptE m β β':=fun t _ bi e=>h t 0 bi e
theorem ZkB (R:Rel base w0 I0 I β σ w) (m:Nat) (roots:List AVal):∃ β',KeptE m β β'/\Rel base w0 I0 I β' (gcA m roots σ).2 w/\Zd0 (Zd σ m (Zl m roots σ)) β β':=by
 obtain ⟨hnd,r,hr⟩:=ZeI (σ:=σ) 1000 (Z3 roots++(Wi m).flatMap fun t=>Zn (σ.getD t .free)) (Wi m) List.nodup_range
 have hids:Zl m roots σ=Wi m++r:=hr
 refine ⟨ZbF σ m (Zl m roots σ) β,?_,R.pick hnd R.below R.old (fun t x b _ hx hb=>(R.own t x b hx hb).1),ZiJ⟩
 intro t ht bi hb
 have h1:(Zl m roots σ)[t]?=some t:=by rw [hids,List.getElem?_append_left (by simpa using ht)];simp [ht]
 unfold ZbF
 simp only [h1]
 cases hx:σ[t]? with
 | none =>
  have : β t 0=none:=R.fresh t 0 (by simpa using hx)
  rw [this] at hb;cases hb
 | some x =>
  simp only
  have hok:okB x=true:=by
   cases x with
   | free=>rw [R.free t 0 hx] at hb;cases hb
   | map es=>rfl
   | siter=>rfl
   | opq=>rfl
   | book=>rfl
   | rrow=>rfl
   | var=>rfl
   | row=>rfl
   | frow=>rfl
  rw [if_pos hok]
  split
  ·rename_i e
   have : Zc x=0:=by
    unfold Zk at e
    by_cases h0:Zc x=0
    ·exact h0
    ·rw [if_pos ⟨ht,h0⟩] at e;cases e
   rw [this];exact hb
  ·rw [if_pos ⟨ht,trivial⟩];exact hb
theorem Zlg:∀ (tm:Tms) (n:Nat),tget ((tm.map (·.1)).zip (ZX ρ (tm.map (·.2)))) n=Zp ρ (tget tm n)
 | [],n=>by simp [tget,Zp]
 | (d,v)::tm,n=>by
  simp only [Xy,ZX,List.zip_cons_cons,tget]
  split
  ·rfl
  ·exact Zlg tm n
theorem Zjc (R:Rel base w0 I0 I β σ w) {tm:Tms} {tmps:Array Value} (T:TR I β tm tmps) (m:Nat):∃ β',KeptE m β β'/\Rel base w0 I0 I β' (gcT m tm σ).2 w/\TR I β' (gcT m tm σ).1 tmps:=by
 obtain ⟨β',h1,h2,h3⟩:=ZkB R m (tm.map (·.2))
 refine ⟨β',h1,h2,fun n=>?_⟩
 show VR I β' (tget ((tm.map (·.1)).zip (ZX _ (tm.map (·.2)))) n) _
 rw [Zlg]
 exact ZeB h3 _ _ (T n)
def Ends (r:AVal) (e:Ending) (u:Value):Prop:=match r with
 | .pan _=>e=.panicked [{ v:=u,recovered:=false }]
 | _=>e=.returned u
def ZaA:AVal->AVal
 | .pan x=>x
 | x=>x
def Zbh (m:Nat) (base:Nat->Prop) (w0:World) (I0 I:Imm) (β:Bmap) (r:AVal) (σ':Za) (u:Value) (w':World):Prop :=
 ∃ I' β',I.le I'/\KeptE m β β'/\Rel base w0 I0 I' β' σ' w'/\VR I' β' (ZaA r) u
theorem Ends.ren {r:AVal} {e:Ending} {u:Value} (h:Ends r e u):Ends (Zp ρ r) e u:=by
 cases r <;> first
  | exact h
  | (simp only [Zp];split <;> exact h)
theorem Zec {r:AVal} (h:∀ x,r≠.pan x):ZaA r=r:=by
 cases r <;> first | rfl | exact absurd rfl (h _)
theorem ZrB {r:AVal} (h:∀ x,r≠.pan x):∀ x,Zp ρ r≠.pan x:=by
 intro x
 cases r <;> first
  | (intro e;simp only [Zp] at e;cases e;done)
  | exact absurd rfl (h _)
  | (simp only [Zp];split <;> simp)
theorem Zi9 (r:AVal):ZaA (Zp ρ r)=Zp ρ (ZaA r)\/∃ x,r=.pan x:=by
 by_cases h:∃ x,r=.pan x
 ·exact Xu h
 ·have h':∀ x,r≠.pan x:=fun x e=>h ⟨x,e⟩
  exact Xs (by rw [Zec (ZrB h'),Zec h'])
theorem Zfr {m:Nat} {r r':AVal} {u:Value} (h:Zbh m base w0 I0 I β r σ u w) (he:Za8 m σ r=some (r',σ')):Zbh m base w0 I0 I β r' σ' u w/\∀ e,Ends r e u->Ends r' e u:=by
 obtain ⟨I1,β1,h1,h2,h3,h4⟩:=h
 obtain ⟨β2,g1,g2,g3⟩:=ZkB h3 m [r]
 unfold Za8 gcA at he
 simp only [ZX,Xa,Xb] at he
 obtain ⟨rfl,rfl⟩:=he
 refine ⟨⟨I1,β2,h1,h2.trans g1,g2,?_⟩,fun e he=>he.ren⟩
 have:=ZeB g3 _ _ h4
 rcases Zi9 (ρ:=Zd σ m (Zl m [r] σ)) r with e | ⟨x,rfl⟩
 ·rw [e];exact this
 ·exact this
theorem Zz5 {m:Nat} {r r':AVal} {h h':Za} {u:Value} (hp:Zbh m base w0 I0 I β r h u w) (he:Zcw m (some (r,h))=some (r',h')):Zbh m base w0 I0 I β r' h' u w/\∀ e,Ends r e u->Ends r' e u:=by
 by_cases hpan:∃ x,r=.pan x
 ·obtain ⟨x,rfl⟩:=hpan
  simp only [Zcw,Xa,Xb] at he
  obtain ⟨rfl,rfl⟩:=he
  exact ⟨hp,fun _ h=>h⟩
 ·have hv0:ZaA r=r:=by cases r <;> first | rfl | exact absurd ⟨_,rfl⟩ hpan
  have hends:∀ e,Ends r e u->e=.returned u:=by
   intro e h
   cases r <;> first | exact h | exact absurd ⟨_,rfl⟩ hpan
  have he':(match viewR h r with
   | some (r',ts)=>match gcA m [r'] (ZT h ts) with
    | ([r''],σ')=>some (r'',σ')
    | _=>none
   | none=>none)=some (r',h'):=by
   cases r <;> first | exact he | exact absurd ⟨_,rfl⟩ hpan
  split at he'
  ·rename_i r1 ts hview
   obtain ⟨I1,β1,h1,h2,h3,h4⟩:=hp
   rw [hv0] at h4
   obtain ⟨I2,k1,k2,k3,_,k5,_,_⟩:=ZeX ts h3
   have hres:=ZvG k2 (k5 (Zvg hview)) (by rw [k3.viewR];exact hview) (h4.mono k1 (Bmap.le.refl β1) _ _)
   have hnp:∀ x,r1≠.pan x:=by rintro x rfl;simp only [VR] at hres
   have hv1:ZaA r1=r1:=by cases r1 <;> first | rfl | exact absurd rfl (hnp _)
   have ho:Za8 m (ZT h ts) r1=some (r',h'):=he'
   obtain ⟨q1,q2⟩:=Zfr (⟨I2,β1,h1.trans k1,h2,k2,by rw [hv1];exact hres.mono (Imm.le.refl I2) (ZfW β1) _ _⟩:Zbh m base w0 I0 I β r1 (ZT h ts) u w) ho
   refine ⟨q1,fun e he=>q2 e ?_⟩
   rw [hends e he]
   cases r1 <;> first | rfl | exact absurd rfl (hnp _)
  ·cases he'
end
end
section
open Go.RowKit
def Zao (P:Program) (O:ZV):Prop:=∀ f args σ r σ',O f args σ=some (r,σ') ->
 (∃ fn,P.funcs[f]?=some fn/\fn.body.isSome=true/\(fn.name == "runtime.NumGoroutine")=false) /\
 ∀ base w0 I0 I β w (vs:Array Value),KLt base w0->Rel base w0 I0 I β σ w->VRs I β args vs.toList ->
  Calls P f vs w (fun e w'=>∃ u,Ends r e u/\Zbh σ.length base w0 I0 I β r σ' u w')
section
variable {P:Program} {base:Nat->Prop} {w0 w w':World} {I0 I I':Imm} {β β':Bmap} {σ σ':Za} {tm:Tms}
theorem ZgN {a:Act} (T:TR I β tm a.tmps):∀ {xs:List Operand} {ys:List Opd},ZbK xs=some ys->VRs I β (ys.map fun y=>y.ev tm) (xs.map a.eval)
 | [],ys,h=>by simp only [ZbK,Xa] at h;subst h;simp [VRs]
 | x::xs,ys,h=>by
  simp only [ZbK] at h
  split at h
  ·rename_i y hy
   split at h
   ·rename_i ys' hys
    injection h with h;subst h
    simp only [Xy,VRs]
    exact ⟨_,_,rfl,Z7 T hy,ZgN T hys⟩
   ·cases h
  ·cases h
theorem ZfA {a:Act} (T:TR I β tm a.tmps) {x:Option Operand} {y:Option Opd} (h:ZdY x=some y):OVR I β (y.map fun y=>y.ev tm) (x.map a.eval):=by
 cases x with
 | none=>simp only [ZdY,Xa] at h;subst h;rfl
 | some x =>
  simp only [ZdY,Xo] at h
  obtain ⟨y',h1,rfl⟩:=h
  exact ⟨_,rfl,Z7 T h1⟩
theorem Zh2 {f:FuncId} {args:Array Value} {fn:Func} (h1:P.funcs[f]?=some fn) (h2:fn.body.isSome=true) (h3:(fn.name == "runtime.NumGoroutine")=false):(callFunc f args).run P w=.ok (.enter f args) w:=by
 have h2':fn.body.isNone=false:=by cases hb:fn.body <;> simp_all
 have h3':¬fn.name = "runtime.NumGoroutine":=by simpa using h3
 have h2'':fn.body≠none:=by cases hb:fn.body <;> simp_all
 simp [callFunc,h1,h2'',h3']
section
variable {ids:List Nat} {sq:Nat} {ρ:Rho}
theorem Zfo {σ0:Za} {t:Nat}:∀ {h:Za} {j:Nat} {σ:Za},(∀ i,i < h.length->ZaH ids sq (j+i)≠t)->(ZaT σ0 ids sq h j σ)[t]?=σ[t]?
 | [],j,σ,_=>rfl
 | b::bs,j,σ,hn=>by
  simp only [ZaT]
  rw [Zfo (fun i hi=>by have:=hn (i+1) (by simp;omega);rwa [show j+(i+1)=j+1+i by omega] at this),Xq,if_neg (by have:=hn 0 (by simp);simpa using this)]
theorem Zke {σ0:Za}:∀ {h:Za} {j i:Nat} {σ:Za} {b:Z0},(∀ i i',i < h.length->i' < h.length->ZaH ids sq (j+i)=ZaH ids sq (j+i')->i=i')->h[i]?=some b->ZaH ids sq (j+i) < σ.length ->
  (ZaT σ0 ids sq h j σ)[ZaH ids sq (j+i)]?=some (Zg (ZaL σ0 ids sq) (Zbn σ0 ids (j+i) b) b)
 | [],j,i,σ,b,_,h,_=>by simp at h
 | b'::bs,j,0,σ,b,hinj,h,hlt=>by
  simp only [XG,Xa] at h
  subst h
  simp only [ZaT,XU] at hlt ⊢
  rw [Zfo,Xq,if_pos rfl,if_pos hlt]
  intro i hi e
  have:=hinj (i+1) 0 (by simp;omega) (by simp) (by rw [show j+(i+1)=j+1+i by omega];simpa using e)
  omega
 | b'::bs,j,i+1,σ,b,hinj,h,hlt=>by
  simp only [XR] at h
  simp only [ZaT]
  rw [show j+(i+1)=j+1+i by omega] at hlt ⊢
  refine Zke (fun a a' ha ha' e=>?_) h (by simpa using hlt)
  have:=hinj (a+1) (a'+1) (by simp;omega) (by simp;omega) (by rw [show j+(a+1)=j+1+a by omega,show j+(a'+1)=j+1+a' by omega];exact e)
  omega
theorem ZlR {σ0:Za}:∀ {h:Za} {j:Nat} {σ:Za},(ZaT σ0 ids sq h j σ).length=σ.length
 | [],j,σ=>rfl
 | b::bs,j,σ=>by simp only [ZaT];rw [ZlR];simp
theorem Zel {σ0:Za}:∀ {h:Za} {j i:Nat} {b:Z0},Za3 σ0 ids h j=true->h[i]?=some b->okB b=true/\(match ids[j+i]? with
  | some t=>ZcT (σ0.getD t .free) b=true/\Zc b<=1
  | none=>Zc b=0)
 | [],j,i,b,_,h=>by simp at h
 | b'::bs,j,0,b,hok,h=>by
  simp only [XG,Xa] at h
  subst h
  simp only [Za3,Xr] at hok
  refine ⟨hok.1.1,?_⟩
  rw [XU]
  have:=hok.1.2
  revert this
  cases ids[j]? with
  | none=>intro h;simpa using h
  | some t=>intro h;simpa using h
 | b'::bs,j,i+1,b,hok,h=>by
  simp only [XR] at h
  simp only [Za3,Xr] at hok
  have:=Zel hok.2 h
  rwa [show j+1+i=j+(i+1) by omega] at this
theorem Zwe {x y:Z0} (hy:ZcE y=true) (h:ZcT x y=true):Zc x=0:=by
 cases x <;> cases y <;> first | rfl | (simp [ZcT] at h;done) | (simp [ZcE] at hy;done)
theorem ZkX {y:Z0} (hy:ZcE y=true):Zc y=0:=by
 cases y <;> first | rfl | (simp [ZcE] at hy;done)
theorem ZdZ:∀ {n sq i:Nat},Z8 σ sq n=true->i < n->σ[sq+i]?=some .free
 | 0,_,_,_,hi=>by omega
 | n+1,sq,0,h,_=>by
  simp only [Z8,Xr] at h
  have:=h.1
  unfold freeAt at this
  split at this
  ·rename_i e;simpa using e
  ·cases this
 | n+1,sq,i+1,h,hi=>by
  simp only [Z8,Xr] at h
  have:=ZdZ (i:=i) h.2 (by omega)
  rwa [show sq+1+i=sq+(i+1) by omega] at this
theorem ZmM {t:Nat}:∀ {ids:List Nat} {i j:Nat},ids.Nodup->ids[j]?=some t->Zm t ids i=some (i+j)
 | [],i,j,_,h=>by simp at h
 | x::xs,i,0,_,h=>by
  simp only [XG,Xa] at h
  simp [Zm,h]
 | x::xs,i,j+1,hn,h=>by
  simp only [XR] at h
  rw [List.nodup_cons] at hn
  have hne:x≠t:=by rintro rfl;exact hn.1 (Xv h)
  simp only [Zm,hne,if_false]
  rw [ZmM hn.2 h]
  congr 1;omega
theorem Zh1 {t:Nat}:∀ {ids:List Nat} {i:Nat},t ∉ ids->Zm t ids i=none
 | [],i,_=>rfl
 | x::xs,i,h=>by
  simp only [XC,not_or] at h
  have hne:x≠t:=fun e=>h.1 e.symm
  simp only [Zm,hne,if_false]
  exact Zh1 h.2
def ZcA (σ:Za) (ids:List Nat) (sq n:Nat) (β β1:Bmap):Bmap:=fun t g=>match Zm t ids 0 with
 | some j=>if g<=Zc (σ.getD t .free) then β t g else if g=Zc (σ.getD t .free)+1 then β1 j 1 else none
 | none=>if sq<=t/\t < sq+n then (if g=0 then β1 (ids.length+(t - sq)) 0 else none) else β t g
theorem Rel.back {Ic:Imm} {βc:Bmap} {h:Za} {n:Nat} (R:Rel base w0 I0 I β σ w) (hb:KLt base w0) (hnd:ids.Nodup) (hok:ids.all (fun t=>okB (σ.getD t .free))=true)
  (Rc:Rel (fun b=>b < w.heap.size/\∀ t ∈ ids,∀ x,σ[t]?=some x->¬Zh w β t x b) w I Ic βc h w') (hI:I.le Ic) (hkept:KeptE ids.length (ZbF σ 0 ids β) βc)
  (h1:h.length<=ids.length+n) (h2:ids.length<=h.length) (h3:Za3 σ ids h 0=true) (h4:Z8 σ sq n=true) :
  ∃ β2,β.le β2/\Rel base w0 I0 Ic β2 (ZaT σ ids sq h 0 σ) w'/\Zd0 (ZaL σ ids sq) βc β2:=by
 have hbw:=R.base_le hb
 have hblk:∀ t,t ∈ ids->∃ x,σ[t]?=some x/\okB x=true/\σ.getD t .free=x/\∃ bi,β t (Zc x)=some bi:=by
  intro t ht
  have h0:=XB.1 hok t ht
  cases hx:σ[t]? with
  | none=>simp [Xi,hx,okB] at h0
  | some x =>
   have hd:σ.getD t .free=x:=by simp [Xi,hx]
   rw [hd] at h0
   refine ⟨x,rfl,h0,hd,?_⟩
   have hB:=R.blk t x hx
   cases x with
   | free=>simp [okB] at h0
   | map es=>obtain ⟨b,k,c,_,_,e,_⟩:=hB;exact ⟨_,e⟩
   | siter l p=>obtain ⟨b,k,c,e,_⟩:=hB;exact ⟨_,e⟩
   | opq=>exact hB
   | book n p=>obtain ⟨b,k,c,vs,e,_⟩:=hB;exact ⟨_,e⟩
   | rrow g k xs=>obtain ⟨bi,e,_⟩:=hB;exact ⟨_,e⟩
   | var cs=>obtain ⟨b,k,c,us,ty,e,_⟩:=hB;exact ⟨_,e⟩
   | row g k xs=>obtain ⟨bi,e,_⟩:=hB;exact ⟨_,e⟩
   | frow g k xs=>obtain ⟨bi,e,_⟩:=hB;exact ⟨_,e⟩
 have hnot:∀ i,i < n->sq+i ∉ ids:=by
  intro i hi hm
  obtain ⟨x,hx,hk,_⟩:=hblk _ hm
  rw [ZdZ h4 hi] at hx
  injection hx with hx;subst hx;simp [okB] at hk
 have tgt_ids:∀ j t,ids[j]?=some t->ZaH ids sq j=t:=by intro j t ht;simp [ZaH,Xi,ht]
 have tgt_new:∀ j,ids.length<=j->ZaH ids sq j=sq+(j - ids.length):=by intro j hj;simp [ZaH,Xi,XS hj]
 have split_j:∀ j,j < h.length->(∃ t,ids[j]?=some t/\t ∈ ids/\ZaH ids sq j=t)\/(ids.length<=j/\ids[j]?=none/\j - ids.length < n/\ZaH ids sq j=sq+(j - ids.length)):=by
  intro j hj
  by_cases hlt:j < ids.length
  ·have e:ids[j]?=some ids[j]:=Xe hlt
   exact Xs ⟨ids[j],e,WB hlt,tgt_ids _ _ e⟩
  ·exact Xu ⟨by omega,XS (by omega),by omega,tgt_new j (by omega)⟩
 have inj:∀ i i',i < h.length->i' < h.length->ZaH ids sq (0+i)=ZaH ids sq (0+i')->i=i':=by
  intro i i' hi hi' e
  rw [XF,XF] at e
  rcases split_j i hi with ⟨t,a1,a2,a3⟩ | ⟨a1,_,a3,a4⟩ <;> rcases split_j i' hi' with ⟨t',b1,b2,b3⟩ | ⟨b1,_,b3,b4⟩
  ·rw [a3,b3] at e;subst e
   exact (Xa7 (Xc.1 a1).1 hnd).1 (a1.trans b1.symm)
  ·rw [a3,b4] at e;subst e;exact absurd a2 (hnot _ b3)
  ·rw [a4,b3] at e;subst e;exact absurd b2 (hnot _ a3)
  ·rw [a4,b4] at e;omega
 have tlt:∀ j,j < h.length->ZaH ids sq j < σ.length:=by
  intro j hj
  rcases split_j j hj with ⟨t,a1,a2,a3⟩ | ⟨a1,_,a3,a4⟩
  ·rw [a3]
   obtain ⟨x,hx,_⟩:=hblk t a2
   exact (Xc.1 hx).1
  ·rw [a4];exact (Xc.1 (ZdZ h4 a3)).1
 have look:∀ t x',(ZaT σ ids sq h 0 σ)[t]?=some x'->(∃ j b,h[j]?=some b/\t=ZaH ids sq j/\x'=Zg (ZaL σ ids sq) (Zbn σ ids j b) b)\/((∀ j,j < h.length->ZaH ids sq j≠t)/\σ[t]?=some x'):=by
  intro t x' hx
  by_cases hex:∃ j,j < h.length/\ZaH ids sq j=t
  ·obtain ⟨j,hj,rfl⟩:=hex
   have:=Zke (σ0:=σ) (σ:=σ) (j:=0) (i:=j) inj (Xe hj) (by rw [XF];exact tlt j hj)
   rw [XF] at this
   rw [this] at hx
   injection hx with hx
   exact Xs ⟨j,h[j],Xe hj,rfl,hx.symm⟩
  ·have hn:∀ j,j < h.length->ZaH ids sq j≠t:=fun j hj e=>hex ⟨j,hj,e⟩
   rw [Zfo (fun i hi=>by rw [XF];exact hn i hi)] at hx
   exact Xu ⟨hn,hx⟩
 have out:∀ t,(∀ j,j < h.length->ZaH ids sq j≠t)->t ∉ ids/\∀ g,ZcA σ ids sq (h.length - ids.length) β βc t g=β t g:=by
  intro t hn
  have h0:t ∉ ids:=by
   intro hm
   obtain ⟨j,hj⟩:=List.mem_iff_getElem?.1 hm
   exact hn j (by have:=(Xc.1 hj).1;omega) (tgt_ids j t hj)
  refine ⟨h0,fun g=>?_⟩
  unfold ZcA
  rw [Zh1 h0]
  simp only
  rw [if_neg]
  rintro ⟨q1,q2⟩
  exact hn (ids.length+(t - sq)) (by omega) (by rw [tgt_new _ (by omega)];omega)
 have atIds:∀ j t,ids[j]?=some t->∀ g,ZcA σ ids sq (h.length - ids.length) β βc t g=if g<=Zc (σ.getD t .free) then β t g else if g=Zc (σ.getD t .free)+1 then βc j 1 else none:=by
  intro j t hj g
  unfold ZcA
  rw [ZmM hnd hj]
  simp only [XF]
 have atNew:∀ i,i < h.length - ids.length->∀ g,ZcA σ ids sq (h.length - ids.length) β βc (sq+i) g=if g=0 then βc (ids.length+i) 0 else none:=by
  intro i hi g
  unfold ZcA
  rw [Zh1 (hnot i (by omega))]
  simp only
  rw [if_pos ⟨by omega,by omega⟩,show sq+i - sq=i by omega]
 have hle:β.le (ZcA σ ids sq (h.length - ids.length) β βc):=by
  intro t g bi e
  by_cases hex:∃ j,j < h.length/\ZaH ids sq j=t
  ·obtain ⟨j,hj,rfl⟩:=hex
   rcases split_j j hj with ⟨t,a1,a2,a3⟩ | ⟨a1,_,a3,a4⟩
   ·rw [a3] at e ⊢
    rw [atIds j t a1]
    obtain ⟨x,hx,_,hd,_⟩:=hblk t a2
    rw [if_pos]
    ·exact e
    ·rcases Xaf (Zc (σ.getD t .free)) g with hlt | hge
     ·rw [hd] at hlt;rw [R.gen t x g hx hlt] at e;cases e
     ·exact hge
   ·rw [a4] at e
    rw [R.free _ g (ZdZ h4 a3)] at e;cases e
  ·rw [(out t fun j hj e=>hex ⟨j,hj,e⟩).2];exact e
 have kept:∀ j t,ids[j]?=some t->∀ bi,βc j 0=some bi->β t (Zc (σ.getD t .free))=some bi:=by
  intro j t hj bi e
  obtain ⟨x,hx,hk,hd,bi0,hb0⟩:=hblk t (Xv hj)
  have hp:ZbF σ 0 ids β j 0=some bi0:=by
   unfold ZbF
   simp only [hj,hx,hk,if_true]
   rw [if_pos (by simp [Zk])];exact hb0
  have:=hkept j (Xc.1 hj).1 bi0 hp
  rw [this] at e;injection e with e;subst e
  rw [hd];exact hb0
 have hρ:Zd0 (ZaL σ ids sq) βc (ZcA σ ids sq (h.length - ids.length) β βc):=by
  intro j g t' g' bi hr hbi
  have hjlt:j < h.length:=by
   rcases Xaf j h.length with hlt | hge
   ·exact hlt
   ·rw [Rc.fresh j g hge] at hbi;cases hbi
  have hj':=Xe hjlt
  obtain ⟨k1,k2⟩:=Zel h3 hj'
  rw [XF] at k2
  have hgen:¬Zc h[j] < g:=fun hlt=>by rw [Rc.gen j _ g hj' hlt] at hbi;cases hbi
  rcases split_j j hjlt with ⟨t,a1,a2,a3⟩ | ⟨a1,a2,a3,a4⟩
  ·simp only [ZaL,a1,Xa,Xb] at hr
   obtain ⟨rfl,rfl⟩:=hr
   rw [a1] at k2
   rw [atIds j _ a1]
   have : g=0\/g=1:=by omega
   rcases this with rfl | rfl
   ·rw [if_pos (by omega)];exact kept j _ a1 bi hbi
   ·rw [if_neg (by omega),if_pos rfl];exact hbi
  ·simp only [ZaL,a2,Xa,Xb] at hr
   obtain ⟨rfl,rfl⟩:=hr
   rw [a2] at k2
   have : g=0:=by simp only at k2;omega
   subst this
   rw [atNew _ (by omega),if_pos rfl,show ids.length+(j - ids.length)=j by omega]
   exact hbi
 have hvar:∀ j b,h[j]?=some b->ZcE b=true->Zbn σ ids j b=0:=by
  intro j b hj e
  have hjlt:=(Xc.1 hj).1
  obtain ⟨k1,k2⟩:=Zel h3 hj
  rw [XF] at k2
  unfold Zbn
  rcases split_j j hjlt with ⟨t,a1,a2,a3⟩ | ⟨a1,a2,a3,a4⟩
  ·rw [a1] at k2 ⊢
   simp only at k2 ⊢
   obtain ⟨x,hx,hk,hd,_⟩:=hblk t a2
   rw [hd] at k2 ⊢
   rw [Zwe e k2.1,ZkX e]
  ·rw [a2];exact ZkX e
 have hβg:∀ j b,h[j]?=some b->∀ bi,βc j (Zc b)=some bi->ZcA σ ids sq (h.length - ids.length) β βc (ZaH ids sq j) (Zbn σ ids j b)=some bi:=by
  intro j b hj bi e
  have hjlt:=(Xc.1 hj).1
  refine hρ j (Zc b) _ _ bi ?_ e
  rcases split_j j hjlt with ⟨t,a1,a2,a3⟩ | ⟨a1,a2,a3,a4⟩
  ·simp only [ZaL,Zbn,a1,a3]
  ·simp only [ZaL,Zbn,a2,a4]
 have hKK:∀ b,base b->b < w.heap.size/\∀ t ∈ ids,∀ x,σ[t]?=some x->¬Zh w β t x b:=by
  intro b hB
  exact ⟨hbw b hB,fun t _ x hx e=>(R.own t x b hx e).1 hB⟩
 have hown:∀ j b,h[j]?=some b->Zh w' (ZcA σ ids sq (h.length - ids.length) β βc) (ZaH ids sq j) (Zg (ZaL σ ids sq) (Zbn σ ids j b) b)=Zh w' βc j b:=fun j b hj =>
  Zk7 (hβg j b hj) (hvar j b hj) (Rc.blk j b hj)
 have oth:∀ t x b,t ∉ ids->σ[t]?=some x->Zh w β t x b->b < w.heap.size/\∀ t ∈ ids,∀ x,σ[t]?=some x->¬Zh w β t x b:=by
  intro t x b hn hx hbb
  refine ⟨(R.blk t x hx).owns_lt hbb,fun t' ht' x' hx' e=>hn ?_⟩
  rw [R.apart t x t' x' b hx hx' hbb e];exact ht'
 have cv:∀ t x b,t ∉ ids->σ[t]?=some x->Zh w' (ZcA σ ids sq (h.length - ids.length) β βc) t x b->Zh w β t x b:=fun t x b hn hx=>((R.blk t x hx).owns_at hle (fun b hbb=>Rc.below.block b (oth t x b hn hx hbb)) b).1
 refine ⟨_,hle,⟨R.below.trans (Rc.below.mono hKK),fun b o hB=>(Rc.old b o (hKK b hB)).trans (R.old b o hB),Rc.imm,?_,?_,?_,?_,?_,?_,Rc.glob⟩,hρ⟩
 ·intro t x' hx
  rcases look t x' hx with ⟨j,b,hj,rfl,rfl⟩ | ⟨hn,hx⟩
  ·exact ZmW hρ (hβg j b hj) (hvar j b hj) (Rc.blk j b hj)
  ·refine (R.blk t x' hx).keep hI hle fun b hbb=>Rc.below.block b (oth t x' b (out t hn).1 hx hbb)
 ·intro t x' b hx hbb
  rcases look t x' hx with ⟨j,b',hj,rfl,rfl⟩ | ⟨hn,hx⟩
  ·rw [hown j b' hj] at hbb
   have:=Rc.own j b' b hj hbb
   exact ⟨fun hB=>this.1 (hKK b hB),this.2⟩
  ·replace hbb:=cv t x' b (out t hn).1 hx hbb
   refine ⟨(R.own t x' b hx hbb).1,fun o=>?_⟩
   rw [Rc.old b o (oth t x' b (out t hn).1 hx hbb)]
   exact (R.own t x' b hx hbb).2 o
 ·intro t x t' x' b hx hx' hbb hbb'
  rcases look t x hx with ⟨j,c,hj,rfl,rfl⟩ | ⟨hn,hx⟩ <;> rcases look t' x' hx' with ⟨j',c',hj',rfl,rfl⟩ | ⟨hn',hx'⟩
  ·rw [hown j c hj] at hbb;rw [hown j' c' hj'] at hbb'
   rw [Rc.apart j c j' c' b hj hj' hbb hbb']
  ·rw [hown j c hj] at hbb;replace hbb':=cv t' x' b (out t' hn').1 hx' hbb'
   exact absurd (oth t' x' b (out t' hn').1 hx' hbb') (Rc.own j c b hj hbb).1
  ·rw [hown j' c' hj'] at hbb';replace hbb:=cv t x b (out t hn).1 hx hbb
   exact absurd (oth t x b (out t hn).1 hx hbb) (Rc.own j' c' b hj' hbb').1
  ·replace hbb:=cv t x b (out t hn).1 hx hbb;replace hbb':=cv t' x' b (out t' hn').1 hx' hbb'
   exact R.apart t x t' x' b hx hx' hbb hbb'
 ·intro t g ht
  rw [ZlR] at ht
  have hn:∀ j,j < h.length->ZaH ids sq j≠t:=fun j hj e=>by have:=tlt j hj;omega
  rw [(out t hn).2];exact R.fresh t g ht
 ·intro t g hx
  rcases look t _ hx with ⟨j,b,hj,rfl,e⟩ | ⟨hn,hx⟩
  ·have:=(Zel h3 hj).1
   cases b <;> first | (simp [okB] at this;done) | (simp only [Zg] at e;cases e;done)
  ·rw [(out t hn).2];exact R.free t g hx
 ·intro t x' g hx hg
  rcases look t _ hx with ⟨j,b,hj,rfl,rfl⟩ | ⟨hn,hx⟩
  ·obtain ⟨k1,k2⟩:=Zel h3 hj
   rw [XF] at k2
   rw [ZlJ (hvar j b hj) k1] at hg
   have hjlt:=(Xc.1 hj).1
   rcases split_j j hjlt with ⟨t,a1,a2,a3⟩ | ⟨a1,a2,a3,a4⟩
   ·rw [a3,atIds j t a1]
    simp only [Zbn,a1] at hg
    rw [if_neg (by omega)]
    split
    ·rename_i e
     exact Rc.gen j b 1 hj (by omega)
    ·rfl
   ·rw [a4,atNew _ (by omega)]
    rw [if_neg (by omega)]
  ·rw [(out t hn).2];exact R.gen t x' g hx hg
end
theorem Rel.after_flat {Ic I1:Imm} {βc:Bmap} {σc:Za} {K':Nat->Prop} (R:Rel base w0 I0 I β σ w) (hb:KLt base w0) (hK:∀ b,b < w.heap.size->K' b) (Rc:Rel K' w I1 Ic βc σc w'):Rel base w0 I0 I β σ w':=by
 have hbw:=R.base_le hb
 refine R.stay (Imm.le.refl I) (Rc.below.mono fun b h=>hK b (hbw b h)) (fun _ _ _=>rfl) (fun b o u h=>?_) (fun t x b h hb'=>⟨Rc.below.block b (hK b ((R.blk t x h).owns_lt hb')),(R.own t x b h hb').2⟩)
 have:=R.imm b o u h
 have hlt:=Zb9 this
 rw [<-this]
 simp only [World.cell?,Rc.below.block b (hK b hlt)]
theorem Zwy {I I':Imm} {β β':Bmap} {r:AVal} {u:Value} (hf:Za2 r=true) (h:VR I β (ZaA r) u):VR I' β' (ZaA r) u:=by
 by_cases hp:∃ x,r=.pan x
 ·obtain ⟨x,rfl⟩:=hp
  simp only [ZaA] at h ⊢
  cases x <;> simp only [Za2,ZaZ,ZaP] at hf <;> first | (cases hf;done) | skip
  case iface t x =>
   simp only [VR] at h ⊢
   obtain ⟨u',h1,h2⟩:=h
   exact ⟨u',h1,Zgo hf h2⟩
 ·have hn:∀ x,r≠.pan x:=fun x e=>hp ⟨x,e⟩
  rw [Zec hn] at h ⊢
  exact ZrY hf h
theorem Zle {I I':Imm} {β β':Bmap} (hI:∀ b o n,I b o=some (.int .u8 n)->I' b o=some (.int .u8 n)):∀ {xs:List AVal} {b off:Nat},xs.all Zjt=true->∀ {k:Nat},LR I β k xs b off->LR I' β' k xs b off
 | [],_,_,_,_,_=>by simp only [LR]
 | x::xs,b,off,hx,k,h=>by
  simp only [List.all_cons,Xr] at hx
  have ih:=fun (h:LR I β k xs b (off+k))=>Zle (β':=β') hI hx.2 h
  have hx1:=hx.1
  unfold Zjt at hx1
  split at hx1
  ·simp only [LR,VR] at h ⊢
   obtain ⟨⟨h0,u,h1,h2⟩,h3⟩:=h
   subst h2
   exact ⟨⟨h0,_,hI _ _ _ h1,rfl⟩,ih h3⟩
  ·cases hx1
theorem ZmT {I I':Imm} {β β':Bmap} (hI:∀ b o n,I b o=some (.int .u8 n)->I' b o=some (.int .u8 n)) {x:AVal} {v:Value} (hf:Zfa x=true) (h:VR I β x v):VR I' β' x v:=by
 unfold Zfa at hf
 split at hf
 ·simp only [VR] at h ⊢
  obtain ⟨A,cap,h1,h2,h3,h4,h5,h6⟩:=h
  refine ⟨A,cap,h1,h2,h3,h4,?_,h6⟩
  rcases h5 with h5 | ⟨b,off,k,e,hk,h5⟩
  ·exact Xs h5
  ·exact Xu ⟨b,off,k,e,hk,Zle hI hf h5⟩
 ·exact Zgo hf h
theorem Zme {I I':Imm} {β β':Bmap} (hI:∀ b o n,I b o=some (.int .u8 n)->I' b o=some (.int .u8 n)) {x:AVal} {v:Value} (hf:ZfR x=true) (h:VR I β x v):VR I' β' x v:=by
 unfold ZfR at hf
 split at hf
 ·rename_i cs
  simp only [VR] at h ⊢
  obtain ⟨us,rfl,h⟩:=h
  exact ⟨us,rfl,Zcj (Zay h) (fun i x v hx hv=>by
   obtain ⟨v',h1,h2⟩:=Zbo h hx
   rw [hv] at h1;injection h1 with h1;subst h1
   exact ZmT hI (XB.1 hf x (Xv hx)) h2)⟩
 ·exact ZmT hI hf h
theorem Zoz {I I':Imm} {β β':Bmap} (hI:∀ b o n,I b o=some (.int .u8 n)->I' b o=some (.int .u8 n)) {x:AVal} {v:Value} (hf:ZfB x=true) (h:VR I β x v):VR I' β' x v:=by
 unfold ZfB at hf
 split at hf
 ·rename_i cs
  simp only [VR] at h ⊢
  obtain ⟨us,rfl,h⟩:=h
  exact ⟨us,rfl,Zcj (Zay h) (fun i x v hx hv=>by
   obtain ⟨v',h1,h2⟩:=Zbo h hx
   rw [hv] at h1;injection h1 with h1;subst h1
   exact Zme hI (XB.1 hf x (Xv hx)) h2)⟩
 ·exact Zme hI hf h
theorem Rel.after_bytes {I1 Ic:Imm} {βc:Bmap} {σc:Za} {K':Nat->Prop} {r:AVal} {u:Value} (R:Rel base w0 I0 I β σ w) (hb:KLt base w0) (hK:∀ b,b < w.heap.size->K' b) (Rc:Rel K' w I1 Ic βc σc w') (h1:I.le I1) (h2:I1.le Ic)
  (hn:∀ b o n,I1 b o=some (.int .u8 n)->I b o=some (.int .u8 n)) (hf:ZfB r=true) (hv:VR Ic βc (ZaA r) u):Post base w0 I0 I β (ZaA r) σ u w':=by
 have hbw:=R.base_le hb
 let J:Imm:=fun b o=>if b < w.heap.size then I b o else Ic b o
 have hle:I.le J:=by
  intro b o u hu
  have hlt:=Zb9 (R.imm b o u hu)
  simp only [J,hlt,if_true];exact hu
 have hJ:∀ b o n,Ic b o=some (.int .u8 n)->J b o=some (.int .u8 n):=by
  intro b o n hu
  by_cases hlt:b < w.heap.size
  ·simp only [J,hlt,if_true]
   rw [Rc.old b o (hK b hlt)] at hu
   exact hn b o n hu
  ·simp only [J,hlt,if_false];exact hu
 have hval:ZaA r=r:=Zec (fun x e=>by subst e;simp [ZfB,ZfR,Zfa,ZaP] at hf)
 rw [hval] at hv ⊢
 refine Post.mk hle (Bmap.le.refl β) (R.stay hle (Rc.below.mono fun b h=>hK b (hbw b h)) ?_ ?_ ?_) (Zoz hJ hf hv)
 ·intro b o hb'
  simp only [J,hbw b hb',if_true]
 ·intro b o u hu
  by_cases hlt:b < w.heap.size
  ·simp only [J,hlt,if_true] at hu
   rw [<-R.imm b o u hu]
   simp only [World.cell?,Rc.below.block b (hK b hlt)]
  ·simp only [J,hlt,if_false] at hu
   exact Rc.imm b o u hu
 ·intro t x b hx hb'
  have hlt:=(R.blk t x hx).owns_lt hb'
  refine ⟨Rc.below.block b (hK b hlt),fun o=>?_⟩
  simp only [J,hlt,if_true]
  exact (R.own t x b hx hb').2 o
theorem Zov {xs:List AVal} (h:xs.all ZaZ=true):(xs.flatMap AVal.cells).all ZaP=true:=by
 rw [XB] at h ⊢
 intro x hx
 obtain ⟨y,hy,hxy⟩:=X5.1 hx
 have:=h y hy
 cases y
 case agg cs=>exact XB.1 this x hxy
 all_goals (simp only [AVal.cells,X9] at hxy;subst hxy;exact this)
theorem Rel.clone {Ic I1:Imm} {βc:Bmap} {K':Nat->Prop} {sq k lo n:Nat} {xs:List AVal} {u:Value} (R:Rel base w0 I0 I β σ w) (hb:KLt base w0) (hK:∀ b,b < w.heap.size->K' b) (Rc:Rel K' w I1 Ic βc [.row 0 k xs] w') (hs:σ[sq]?=some .free) (hf:xs.all ZaZ=true)
  (hv:VR Ic βc (.sl 0 0 lo n) u):Post base w0 I0 I β (.sl sq 0 lo n) (σ.set sq (.row 0 k xs)) u w':=by
 have R':=R.after_flat hb hK Rc
 obtain ⟨bi,h1,h2,h3,h4,h5,h6,h7,h8⟩:=Rc.blk 0 _ rfl
 have hle:β.le (β.put sq 0 bi):=Bmap.put_le (R.free sq 0 hs)
 have hbw:=R.base_le hb
 have hsl:sq < σ.length:=(Xc.1 hs).1
 have hnew:∀ b,bi.b=some b->¬b < w.heap.size:=by
  intro b e hlt
  exact (Rc.own 0 (.row 0 k xs) b rfl (by simp [Zh,h1,e])).1 (hK b hlt)
 have hown:∀ b,Zh w' (β.put sq 0 bi) sq (.row 0 k xs) b->bi.b=some b:=by
  intro b e
  simpa [Zh,Bmap.put_same] using e
 refine Post.mk (Imm.le.refl I) hle (R'.upd (Imm.le.refl I) hle (KB.refl base w') (fun _ _ _=>rfl) R'.imm sq _ rfl hsl (fun t g h=>Bmap.put_ne h) ?_ ?_ ?_ ?_ (by simp)) ?_
 ·intro t x b hne h hb'
  replace hb':=((R.blk t x h).owns_at (Bmap.le.refl β) (fun b hb'=>Rc.below.block b (hK b ((R.blk t x h).owns_lt hb'))) b).1 hb'
  refine ⟨rfl,(R.own t x b h hb').2,fun e=>?_⟩
  exact hnew b (hown b e) ((R.blk t x h).owns_lt hb')
 ·refine ⟨bi,Bmap.put_same β sq 0 _,h2,h3,h4,h5,h6,h7,?_⟩
  rcases h8 with h8 | ⟨b,us,ty,g1,g2,g3,g4⟩
  ·exact Xs h8
  ·exact Xu ⟨b,us,ty,g1,g2,g3,ZkA (Zov hf) g4⟩
 ·intro b e
  have hnb:=hnew b (hown b e)
  refine ⟨fun hB=>hnb (hbw b hB),fun o=>?_⟩
  cases hI:I b o with
  | none=>rfl
  | some v=>exact absurd (Zb9 (R.imm b o v hI)) hnb
 ·intro g hg
  simp only [Zc] at hg
  rw [Bmap.put_gen (by omega)]
  exact R.free sq g hs
 ·simp only [VR] at hv ⊢
  obtain ⟨bi',e,hv⟩:=hv
  rw [h1] at e
  injection e with e;subst e
  exact ⟨bi,Bmap.put_same β sq 0 _,hv⟩
theorem ZjR {O:ZV} (hO:Zao P O) {bf:Nat->Bool} (R:Rel base w0 I0 I β σ w) (hb:KLt base w0) {sq f own:Nat} {view:Bool} {args:List AVal} {vs:Array Value} (hargs:VRs I β args vs.toList) {r:AVal} {c:Cls} (hsite:own=1->σ[sq]?=some .free) (h:ZR O bf σ sq f own view args=some (r,σ',c)) :
  (∃ fn,P.funcs[f]?=some fn/\fn.body.isSome=true/\(fn.name == "runtime.NumGoroutine")=false)/\Calls P f vs w (fun e w'=>∃ u,Ends r e u/\Post base w0 I0 I β (ZaA r) σ' u w'):=by
 unfold ZR at h
 split at h
 ·cases h
 rename_i xs ts hshow
 obtain ⟨I1,hI1,R1,hal,_,hfz,_,_,hnby⟩:=ZeX ts R
 have hxs:VRs I1 β xs vs.toList:=by
  unfold ZbZ at hshow
  split at hshow
  ·simp only [Xa,Xb] at hshow
   obtain ⟨rfl,rfl⟩:=hshow
   exact hargs.mono hI1 (Bmap.le.refl β) _ _
  ·exact Zmu R1 (hfz (ZgA hshow)) (by rw [hal.showAs];exact hshow) (hargs.mono hI1 (Bmap.le.refl β) _ _)
 generalize hσf:ZT σ ts=σf at *
 obtain ⟨hnd,_⟩:=ZeI (σ:=σf) 1000 (Z3 xs) [] List.nodup_nil
 generalize Zf σf 1000 (Z3 xs) []=ids at *
 unfold Zby at h
 split at h
 case isFalse=>cases h
 rename_i hok
 have R2:=R1.pick (K':=fun b=>b < w.heap.size/\∀ t ∈ ids,∀ x,σf[t]?=some x->¬Zh w β t x b) (w1:=w) (I1:=I1) (m:=0) hnd (KB.refl _ w) (fun _ _ _=>rfl) (fun t x b ht hx hb' hk=>hk.2 t ht x hx hb')
 generalize hq:ZaX view ids.length (O f (ZX (Zd σf 0 ids) xs) (Ze σf 0 ids (Zd σf 0 ids) ids 0))=q at h
 cases q with
 | none=>simp only [ZaJ] at h;cases h
 | some q =>
  obtain ⟨r1,h1⟩:=q
  obtain ⟨r0,h0,hcall⟩:∃ r0 h0,O f (ZX (Zd σf 0 ids) xs) (Ze σf 0 ids (Zd σf 0 ids) ids 0)=some (r0,h0):=by
   cases ho:O f (ZX (Zd σf 0 ids) xs) (Ze σf 0 ids (Zd σf 0 ids) ids 0) with
   | none=>rw [ho] at hq;cases view <;> simp [ZaX,Zcw] at hq
   | some q=>exact ⟨q.1,q.2,rfl⟩
  rw [hcall] at hq
  obtain ⟨hfn,hrun⟩:=hO f _ _ r0 h0 hcall
  refine ⟨hfn,(hrun _ w I1 I1 _ w vs (fun b hb=>hb.1) R2 (Zdn ZiJ _ _ hxs)).mono ?_⟩
  rintro e w' ⟨u,he,hp⟩
  rw [ZhB] at hp
  have hp1:Zbh ids.length (fun b=>b < w.heap.size/\∀ t ∈ ids,∀ x,σf[t]?=some x->¬Zh w β t x b) w I1 I1 (ZbF σf 0 ids β) r1 h1 u w'/\Ends r1 e u:=by
   cases view with
   | false =>
    simp only [ZaX,Xw,if_false,Xa,Xb] at hq
    obtain ⟨rfl,rfl⟩:=hq
    exact ⟨hp,he⟩
   | true =>
    simp only [ZaX,if_true] at hq
    obtain ⟨q1,q2⟩:=Zz5 hp hq
    exact ⟨q1,q2 e he⟩
  obtain ⟨⟨I2,β2,hI2,hkept,Rc,hv⟩,he1⟩:=hp1
  simp only [ZaJ] at h
  split at h
  ·rename_i hc
   simp only [Xr,Xaj] at hc
   obtain ⟨rfl,rfl⟩:=hc
   split at h
   ·rename_i hflat
    simp only [Xa,Xb] at h
    obtain ⟨rfl,rfl,rfl⟩:=h
    exact ⟨u,he1,Post.here (R.after_flat hb (fun b hlt=>⟨hlt,by simp⟩) Rc) (Zwy hflat hv)⟩
   split at h
   ·rename_i hap
    unfold ZcH at hap
    simp only [Xr] at hap
    simp only [Xa,Xb] at h
    obtain ⟨rfl,rfl,rfl⟩:=h
    exact ⟨u,he1,R.after_bytes hb (fun b hlt=>⟨hlt,by simp⟩) Rc hI1 hI2 (hnby hap.2) hap.1.2 hv⟩
   ·simp only [Xa,Xb] at h
    obtain ⟨rfl,rfl,rfl⟩:=h
    obtain ⟨β3,g1,g2,g3⟩:=R1.back (sq:=sq) (n:=0) hb hnd hok Rc hI2 hkept (by simp) (by simp) rfl rfl
    have hρ:ZaL σf [] sq=ZaL [] [] sq:=rfl
    refine ⟨u,he1.ren,Post.mk (hI1.trans hI2) g1 g2 ?_⟩
    rw [hρ] at g3
    have:=ZeB g3 _ _ hv
    rcases Zi9 (ρ:=ZaL [] [] sq) r1 with e | ⟨x,rfl⟩
    ·rw [e];exact this
    ·exact this
  ·split at h
   ·rename_i lo n k xs' hcl
    split at hcl
    case isFalse=>cases hcl
    rename_i hid
    simp only [Xaj] at hid
    subst hid
    unfold ZfS at hcl
    split at hcl
    case h_2=>cases hcl
    split at hcl
    case isFalse=>cases hcl
    rename_i hcc
    simp only [Xr,decide_eq_true_eq] at hcc
    simp only [Xa,Xb] at hcl h
    obtain ⟨rfl,rfl,rfl,rfl⟩:=hcl
    obtain ⟨rfl,rfl,rfl⟩:=h
    exact ⟨u,he1,R.clone hb (fun b hlt=>⟨hlt,by simp⟩) Rc (hsite hcc.1) hcc.2 hv⟩
   split at h
   case isFalse=>cases h
   rename_i hc
   simp only [Xr,decide_eq_true_eq] at hc
   obtain ⟨⟨⟨c1,c2⟩,c3⟩,c4⟩:=hc
   simp only [Xa,Xb] at h
   obtain ⟨rfl,rfl,rfl⟩:=h
   obtain ⟨β3,g1,g2,g3⟩:=R1.back hb hnd hok Rc hI2 hkept c1 c2 c3 c4
   refine ⟨u,he1.ren,Post.mk (hI1.trans hI2) g1 g2 ?_⟩
   have:=ZeB g3 _ _ hv
   rcases Zi9 (ρ:=ZaL σf ids sq) r1 with e | ⟨x,rfl⟩
   ·rw [e];exact this
   ·exact this
end
end
section
open Go.RowKit
section
variable {P:Program} {w:World} {I:Imm} {β:Bmap}
theorem Zls {t:TypeId} (hb:ZjZ P t=true) {xs:Array Value} {o:Nat} {v:Value} (h:xs[o]?=some v):(part t xs o).run P w=.ok v w:=by
 unfold ZjZ at hb
 have key:∀ d,P.underlying t=some d->d.isRow=false->(part t xs o).run P w=.ok v w:=by
  intro d hu hd
  have hagg:(isAgg t).run P w=.ok false w:=by
   unfold isAgg
   rw [Sem.run_bind,run_underlying hu w]
   cases d <;> simp_all [TypeDesc.isRow]
  simp [part,hagg,h]
 split at hb
 ·rename_i hu;exact key _ hu rfl
 ·rename_i hu;exact key _ hu rfl
 ·rename_i hu;exact key _ hu rfl
 ·cases hb
theorem ZuI (w:World) {t:TypeId} (d:Nat) {x y:AVal} {u v:Value} {b:Bool} (hx:VR I β x u) (hy:VR I β y v) (h:Zcx x y=some b) (hk:Zdc P t x=true):(Op.equalIn (d+1) t u v).run P w=.ok b w:=by
 unfold Zcx at h
 split at h
 ·rename_i k a k' b'
  split at h
  ·rename_i e;subst e
   injection h with h;subst h
   simp only [VR] at hx hy
   subst hx hy
   cases hd:P.underlying t with
   | none=>simp [Zdc,hd] at hk
   | some dd =>
    cases dd <;> simp [Zdc,hd] at hk
    exact run_equalIn_int w d t _ _ a b' hd
  ·cases h
 ·rename_i a b'
  injection h with h;subst h
  simp only [VR] at hx hy
  subst hx hy
  cases hd:P.underlying t with
  | none=>simp [Zdc,hd] at hk
  | some dd =>
   cases dd <;> simp [Zdc,hd] at hk
   exact run_equalIn_bool' w d t a b' hd
 ·rename_i a b'
  injection h with h;subst h
  simp only [VR] at hx hy
  obtain ⟨rfl,_⟩:=hx
  obtain ⟨rfl,_⟩:=hy
  cases hd:P.underlying t with
  | none=>simp [Zdc,hd] at hk
  | some dd =>
   cases dd <;> simp [Zdc,hd] at hk
   rw [run_equalIn_string w d t _ _ hd,Zfq,Zfq]
 ·cases h
theorem ZmC:∀ {fs:List Field} {xs:List AVal},Zey (fs.map fun f=>(ZdF P f.type).getD 3) xs=true->Zdw P fs xs=true
 | [],[],_=>rfl
 | [],x::xs,h=>by simp [Zey] at h
 | f::fs,[],h=>by simp [Zey] at h
 | f::fs,x::xs,h=>by
  simp only [Xy,Zey,Xr,beq_iff_eq] at h
  simp only [Zdw,Xr]
  refine ⟨?_,ZmC h.2⟩
  have h1:=h.1
  cases hd:P.underlying f.type with
  | none=>simp only [ZdF,hd,XaO] at h1;cases x <;> simp [ZaN] at h1
  | some dd=>cases dd <;> simp only [ZdF,hd,XaO,WS] at h1 <;> cases x <;> first | (simp [Zdc,hd];done) | (simp [ZaN] at h1;done)
theorem ZkT (w:World) (d:Nat) {us vs:Array Value}:∀ {fs:List Field} {xs ys:List AVal} {o:Nat} {b:Bool},Zgn P o fs=true->Zdw P fs xs=true->VRs I β xs (us.toList.drop o)->VRs I β ys (vs.toList.drop o)->ZdB xs ys=some b->(Op.eqFields (d+1) us vs fs).run P w=.ok b w
 | [],xs,ys,o,b,hf,hk,hx,hy,h=>by
  cases xs with
  | nil =>
   cases ys with
   | nil=>simp only [ZdB,Xa] at h;subst h;simp [Op.eqFields]
   | cons=>simp [ZdB] at h
  | cons=>simp [Zdw] at hk
 | f::fs,xs,ys,o,b,hf,hk,hx,hy,h=>by
  cases xs with
  | nil=>simp [Zdw] at hk
  | cons x xs =>
   cases ys with
   | nil=>simp [ZdB] at h
   | cons y ys =>
    simp only [Zgn,Xr,beq_iff_eq,bne_iff_ne,ne_eq] at hf
    obtain ⟨⟨⟨h1,h2⟩,h3⟩,h4⟩:=hf
    simp only [Zdw,Xr] at hk
    simp only [VRs] at hx hy
    obtain ⟨u,us',eu,hx1,hx2⟩:=hx
    obtain ⟨v,vs',ev,hy1,hy2⟩:=hy
    have gu:us[o]?=some u:=by
     have:=congrArg (fun l:List Value=>l[0]?) eu
     simpa using this
    have gv:vs[o]?=some v:=by
     have:=congrArg (fun l:List Value=>l[0]?) ev
     simpa using this
    have eu':us.toList.drop (o+1)=us':=by rw [<-Xa4,eu];rfl
    have ev':vs.toList.drop (o+1)=vs':=by rw [<-Xa4,ev];rfl
    simp only [ZdB] at h
    split at h
    ·rename_i b1 hb1
     split at h
     ·rename_i b2 hb2
      injection h with h;subst h
      have r1:=ZuI w d hx1 hy1 hb1 hk.1
      have r2:=ZkT w d (us:=us) (vs:=vs) h4 hk.2 (by rw [eu'];exact hx2) (by rw [ev'];exact hy2) hb2
      rw [<-h1] at gu gv
      simp only [Op.eqFields,h2,ne_eq,not_false_eq_true,if_true,Sem.run_bind,Zls h3 gu,Zls h3 gv,r1,Result.andThen_ok]
      cases b1
      ·simp
      ·simpa using r2
     ·cases h
    ·cases h
theorem ZzR {t:TypeId} {fs:Array Field} (hu:P.underlying t=some (.struct fs)) (hf:ZhO P t fs=true) {x y:List AVal} {us vs:Array Value} (hx:VRs I β x us.toList) (hy:VRs I β y vs.toList) (hk:Zdw P fs.toList x=true) {b:Bool} (h:ZdB x y=some b) (neg:Bool) {op:BinOp} (hop:op=(if neg then .neq else .eql)) (ox oy:Operand) :
  (do eqGuard op t ox oy (.agg us) (.agg vs);binOp op t (.agg us) (.agg vs):Sem Value).run P w=.ok (.bool (b != neg)) w:=by
 simp only [ZhO,Xr,Wn] at hf
 obtain ⟨⟨hf1,hf2⟩,hf3⟩:=hf
 have hfo:P.fieldsOf t=fs:=by simp [Program.fieldsOf,hu]
 have h1:(eqGuard op t ox oy (.agg us) (.agg vs)).run P w=.ok () w:=by
  subst hop
  cases neg <;> simp [eqGuard,hf3]
 have h2:(Op.equal t (.agg us) (.agg vs)).run P w=.ok b w:=by
  show (Op.equalIn (9999+1) t (.agg us) (.agg vs)).run P w=_
  rw [run_equalIn_struct w 9999 t us vs (by rw [hfo];exact hu) hf2,hfo]
  exact ZkT w 9998 hf1 hk (by simpa using hx) (by simpa using hy) h
 subst hop
 cases neg
 ·simp only [Xw,if_false] at h1 ⊢
  simp [h1,h2,binOp]
 ·simp only [if_true] at h1 ⊢
  simp [h1,h2,binOp]
end
end
section
open Go.RowKit
section
variable {P:Program} {base:Nat->Prop} {w0 w w':World} {I0 I I':Imm} {β β':Bmap} {σ σ':Za}
def Zb4:TypeDesc->Option Nat
 | .int _=>some 0
 | .bool=>some 1
 | .string=>some 2
 | _=>none
theorem Zhx {P:Program} {t:TypeId} {kc:Nat} {z:AVal} (h:ZeA P t=some (kc,z)):∃ kt et d,P.underlying t=some (.map kt et)/\P.underlying kt=some d/\Zb4 d=some kc/\Zcc P et=some z:=by
 unfold ZeA at h
 split at h
 case h_2=>cases h
 rename_i kt et ht
 split at h
 case h_2=>cases h
 rename_i kc' z' hk hz
 simp only [Xa,Xb] at h
 obtain ⟨rfl,rfl⟩:=h
 unfold ZdF at hk
 split at hk
 ·rename_i e;injection hk with hk;subst hk;exact ⟨kt,et,_,ht,e,rfl,hz⟩
 ·rename_i e;injection hk with hk;subst hk;exact ⟨kt,et,_,ht,e,rfl,hz⟩
 ·rename_i e;injection hk with hk;subst hk;exact ⟨kt,et,_,ht,e,rfl,hz⟩
 ·cases hk
theorem ZlO {l l':List UInt8}:((⟨l.toArray⟩:ByteArray) == ⟨l'.toArray⟩)=(l == l'):=by
 rw [beq_toListBytes,Zfq,Zfq]
theorem Zlz {d:TypeDesc} {x y:AVal} {vx vy:Value} {b:Bool} (hd:Zb4 d=some (ZaN x)) (h:Zcx x y=some b) (hx:VR I β x vx) (hy:VR I β y vy):Instr.sameNow d vx vy=some b:=by
 unfold Zcx at h
 split at h
 ·rename_i k n k' m
  split at h
  case isFalse=>cases h
  rename_i hk
  subst hk
  injection h with h
  subst h
  simp only [VR] at hx hy
  subst hx hy
  cases d <;> simp [Zb4,ZaN] at hd
  simp [Instr.sameNow]
 ·injection h with h
  subst h
  simp only [VR] at hx hy
  subst hx hy
  cases d <;> simp [Zb4,ZaN] at hd
  simp [Instr.sameNow]
 ·rename_i l l'
  injection h with h
  subst h
  simp only [VR] at hx hy
  rw [hx.1,hy.1]
  cases d <;> simp [Zb4,ZaN] at hd
  simp only [Instr.sameNow,ZlO]
 ·cases h
theorem Ztw {x y:AVal} {vx vy:Value} (h:Zcx x y=some true) (hx:VR I β x vx) (hy:VR I β y vy):Instr.sameBits 10000 vy vx=true/\vx=vy:=by
 unfold Zcx at h
 split at h
 ·rename_i k n k' m
  split at h
  case isFalse=>cases h
  rename_i hk
  subst hk
  simp only [Xa,beq_iff_eq] at h
  subst h
  simp only [VR] at hx hy
  subst hx hy
  exact ⟨by simp [Instr.sameBits],rfl⟩
 ·simp only [Xa,beq_iff_eq] at h
  subst h
  simp only [VR] at hx hy
  subst hx hy
  exact ⟨by simp [Instr.sameBits],rfl⟩
 ·simp only [Xa,beq_iff_eq] at h
  subst h
  simp only [VR] at hx hy
  rw [hx.1,hy.1]
  exact ⟨by simp only [Instr.sameBits,ZlO,beq_self_eq_true],rfl⟩
 ·cases h
theorem ZdR {d:TypeDesc} {x:AVal} {vx:Value} (hd:Zb4 d=some (ZaN x)) (hx:VR I β x vx):∀ (es:List (AVal×AVal)) (arr:List MapEntry) (i:Nat) (r:Option (Nat×AVal)),VRs I β (es.map (·.1)) (arr.map (·.key))->VRs I β (es.map (·.2)) (arr.map (·.val))->Zdj x es i=some r ->
  (r=none/\Instr.findNow d vx arr i=some none) \/
  ∃ j y e p,r=some (i+j,y)/\Instr.findNow d vx arr i=some (some (i+j,e.val))/\arr[j]?=some e/\es[j]?=some p/\p.2=y/\VR I β y e.val/\Zcx x p.1=some true/\VR I β p.1 e.key
 | [],arr,i,r,hk,_,h=>by
  unfold Zdj at h
  injection h with h
  subst h
  simp only [XO,VRs,List.map_eq_nil_iff] at hk
  subst hk
  exact Xs ⟨rfl,by simp [Instr.findNow]⟩
 | (k,y)::es,arr,i,r,hk,hv,h=>by
  unfold Zdj at h
  cases arr with
  | nil =>
   simp only [Xy,XO,VRs] at hk
   obtain ⟨_,_,hk,_⟩:=hk
   cases hk
  | cons e arr =>
  simp only [Xy,VRs] at hk hv
  obtain ⟨_,_,ek,k1,k2⟩:=hk
  injection ek with ek1 ek2
  subst ek1 ek2
  obtain ⟨_,_,ev,v1,v2⟩:=hv
  injection ev with ev1 ev2
  subst ev1 ev2
  split at h
  ·rename_i ha
   injection h with h
   subst h
   refine Xu ⟨0,y,e,(k,y),rfl,?_,rfl,rfl,rfl,v1,ha,k1⟩
   simp only [Instr.findNow,Zlz hd ha hx k1,XU]
  ·rename_i ha
   have hn:=Zlz hd ha hx k1
   rcases ZdR hd hx es arr (i+1) r k2 v2 h with ⟨h1,h2⟩ | ⟨j,y',e',p',h1,h2,h3,h4,h5⟩
   ·exact Xs ⟨h1,by simp only [Instr.findNow,hn];exact h2⟩
   ·refine Xu ⟨j+1,y',e',p',by rw [h1,Wu,Xbm 1 j],?_,by simpa using h3,by simpa using h4,h5⟩
    simp only [Instr.findNow,hn]
    rw [h2,Wu,Xbm 1 j]
  ·cases h
theorem Zdx {kt:TypeId} {d:TypeDesc} {kc:Nat} (hk:P.underlying kt=some d) (hd:Zb4 d=some kc) (e:Bool) (v:Value):(Instr.checkKey e 10000 kt v).run P w=.ok () w:=by
 show (Instr.checkKey e (9999+1) kt v).run P w=_
 unfold Instr.checkKey
 rw [Sem.run_bind,run_underlying hk]
 cases d <;> simp [Zb4] at hd <;> rfl
theorem Zd8 {kt:TypeId} {d:TypeDesc} (hk:P.underlying kt=some d) {v:Value} {arr:List MapEntry} {r:Option (Nat×Value)} (h:Instr.findNow d v arr 0=some r):(Instr.findKey kt v arr).run P w=.ok r w:=by
 unfold Instr.findKey
 rw [Sem.run_bind,run_underlying hk]
 simp only [Result.andThen_ok,h,Sem.run_pure]
theorem ZwI {e:TypeId} {z:AVal} (hz:Zcc P e=some z):∃ v,(zeroValue e).run P w=.ok v w/\VR I β z v:=by
 unfold Zcc at hz
 split at hz
 case h_2=>cases hz
 rename_i i hi
 split at hz
 case h_2=>cases hz
 rename_i v hv
 exact ⟨v,by simp [zeroValue,typeInfo,hi,hv],(Zdr hz).1⟩
theorem Zf0 {b:Nat} {arr:Array MapEntry} {clk:Nat} (h:w.heap[b]?=some (.map arr clk)):(getObj b).run P w=.ok (.map arr clk) w:=by simp [getObj,Sem.run,h]
theorem Zeu:VR I β (.tup []) undef:=by simp [VR,VRs,undef]
theorem ZiF {x:AVal} {v:Value} (b:Bool) (h:VR I β x v):VR I β (.tup [x,.bool b]) (.tuple #[v,.bool b]):=by
 simp only [VR]
 exact ⟨_,rfl,by simp only [VRs];exact ⟨_,_,rfl,h,_,_,rfl,rfl,rfl⟩⟩
theorem ZsP (R:Rel base w0 I0 I β σ w) {t kt et:TypeId} (ht:P.underlying t=some (.map kt et)) {d:TypeDesc} (hdk:P.underlying kt=some d) {kc:Nat} (hd:Zb4 d=some kc) {z:AVal} (hz:Zcc P et=some z) {ok:Bool} {m k v:AVal} {vm vk:Value} {c:Cls} (hm:VR I β m vm) (hk:VR I β k vk)
  (h:Zcz σ kc z ok m k=some (v,σ',c)):σ'=σ/\∃ u,(Instr.lookup t vm vk ok).run P w=.ok u w/\VR I β v u:=by
 obtain ⟨vz,hvz,hzr⟩:=ZwI (P:=P) (w:=w) (I:=I) (β:=β) hz
 unfold Zcz at h
 split at h
 case isFalse=>cases h
 rename_i hkc
 have hd':Zb4 d=some (ZaN k):=by rw [hd,hkc]
 split at h
 ·simp only [Xa,Xb] at h
  obtain ⟨rfl,rfl,rfl⟩:=h
  simp only [VR] at hm
  subst hm
  have hf:=Zd8 (P:=P) (w:=w) hdk (v:=vk) (arr:=[]) (r:=none) (by simp [Instr.findNow])
  refine ⟨rfl,if ok then .tuple #[vz,.bool false] else vz,?_,?_⟩
  ·simp [Instr.lookup,run_underlying ht,Zdx hdk hd,hf,hvz]
  ·cases ok
   ·exact hzr
   ·exact ZiF false hzr
 ·rename_i b
  simp only [VR] at hm
  obtain ⟨bb,kk,cc,hb,rfl⟩:=hm
  split at h
  case h_2=>cases h
  rename_i es hs
  obtain ⟨b',k',c',arr,clk,e1,e2,e3,e4,_⟩:=R.blk _ _ hs
  rw [hb] at e1
  simp only [Xa,BI.mk.injEq] at e1
  obtain ⟨rfl,rfl,rfl⟩:=e1
  have hg:=Zf0 (P:=P) e2
  split at h
  ·rename_i j y hf
   simp only [Xa,Xb] at h
   obtain ⟨rfl,rfl,rfl⟩:=h
   rcases ZdR hd' hk es arr.toList 0 _ e3 e4 hf with ⟨h1,_⟩ | ⟨j',y',e,p,h1,h2,_,_,_,h5,_⟩
   ·cases h1
   ·injection h1 with h1
    injection h1 with h1 h1'
    subst h1'
    have hr:=Zd8 (P:=P) (w:=w) hdk h2
    refine ⟨rfl,if ok then .tuple #[e.val,.bool true] else e.val,?_,?_⟩
    ·simp [Instr.lookup,run_underlying ht,Zdx hdk hd,hg,hr]
    ·cases ok
     ·exact h5
     ·exact ZiF true h5
  ·rename_i hf
   simp only [Xa,Xb] at h
   obtain ⟨rfl,rfl,rfl⟩:=h
   rcases ZdR hd' hk es arr.toList 0 _ e3 e4 hf with ⟨_,h2⟩ | ⟨j',y',e,p,h1,_⟩
   ·have hr:=Zd8 (P:=P) (w:=w) hdk h2
    refine ⟨rfl,if ok then .tuple #[vz,.bool false] else vz,?_,?_⟩
    ·simp [Instr.lookup,run_underlying ht,Zdx hdk hd,hg,hr,hvz]
    ·cases ok
     ·exact hzr
     ·exact ZiF false hzr
   ·cases h1
  ·cases h
 ·cases h
theorem ZgW (R:Rel base w0 I0 I β σ w) {t b k c:Nat} {es es':List (AVal×AVal)} (hs:σ[t]?=some (.map es)) (hb:β t 0=some ⟨some b,k,c⟩) {arr':Array MapEntry} {clk':Nat} (hk:VRs I β (es'.map (·.1)) (arr'.toList.map (·.key))) (hv:VRs I β (es'.map (·.2)) (arr'.toList.map (·.val))) (hA:∀ p ∈ es',Zeo p.1=true) (hS:Zgz arr' clk') (hlt:b < w.heap.size) :
  Rel base w0 I0 I β (σ.set t (.map es')) { w with heap:=w.heap.setIfInBounds b (.map arr' clk') } :=
 R.putObj hs (by simp [Zh,hb]) _ (by simp [Zh,hb]) ⟨b,k,c,arr',clk',hb,by rw [WP hlt],hk,hv,hA,hS⟩ rfl
theorem Zg0 (arr:Array MapEntry) (i:Nat) (f:MapEntry->MapEntry):(arr.modify i f).toList=arr.toList.modify i f:=by simp
theorem Zi7 {α β:Type} (g:α->β) (f:α->α) (v:β) (hf:∀ x,g (f x)=v):∀ (l:List α) (i:Nat),(l.modify i f).map g=(l.map g).set i v
 | [],i=>by simp
 | x::l,0=>by simp [hf]
 | x::l,i+1=>by simp [Zi7 g f v hf l i]
theorem ZiS {α β:Type} (g:α->β) (f:α->α) (hf:∀ x,g (f x)=g x):∀ (l:List α) (i:Nat),(l.modify i f).map g=l.map g
 | [],i=>by simp
 | x::l,0=>by simp [hf]
 | x::l,i+1=>by simp [ZiS g f hf l i]
theorem Zg1 {b:Nat} {arr:Array MapEntry} {clk:Nat} {o':Obj} (h:w.heap[b]?=some (.map arr clk)):(setObj b o').run P w=.ok () { w with heap:=w.heap.setIfInBounds b o' }:=by simp [setObj,Sem.run,h]
theorem Zim:∀ {xs:List AVal} {vs:List Value} (i:Nat),VRs I β xs vs->VRs I β (xs.eraseIdx i) (vs.eraseIdx i)
 | [],vs,i,h=>by simp only [VRs] at h;subst h;simp [VRs]
 | x::xs,vs,0,h=>by
  simp only [VRs] at h
  obtain ⟨v,vs',rfl,_,h⟩:=h
  exact h
 | x::xs,vs,i+1,h=>by
  simp only [VRs] at h
  obtain ⟨v,vs',rfl,h1,h⟩:=h
  simp only [List.eraseIdx_cons_succ,VRs]
  exact ⟨v,_,rfl,h1,Zim i h⟩
theorem Zez {α β:Type} (g:α->β):∀ (l:List α) (i:Nat),(l.eraseIdx i).map g=(l.map g).eraseIdx i
 | [],i=>by simp
 | x::l,0=>by simp
 | x::l,i+1=>by simp [Zez g l i]
theorem Zk5 (R:Rel base w0 I0 I β σ w) {t kt et:TypeId} (ht:P.underlying t=some (.map kt et)) {d:TypeDesc} (hdk:P.underlying kt=some d) {kc:Nat} (hd:Zb4 d=some kc) {m k x v:AVal} {vm vk vx:Value} {c:Cls} (hm:VR I β m vm) (hk:VR I β k vk) (hx:VR I β x vx)
  (h:ZeZ σ kc m k x=some (v,σ',c)):v=.tup []/\∃ w',(Instr.mapUpdate t vm vk vx).run P w=.ok () w'/\Rel base w0 I0 I β σ' w':=by
 unfold ZeZ at h
 split at h
 case isFalse=>cases h
 rename_i hkc
 obtain ⟨hkc,hkA,_⟩:=hkc
 have hd':Zb4 d=some (ZaN k):=by rw [hd,hkc]
 split at h
 case h_2=>cases h
 rename_i b
 simp only [VR] at hm
 obtain ⟨bb,kk,cc,hb,rfl⟩:=hm
 split at h
 case h_2=>cases h
 rename_i es hs
 obtain ⟨b',k',c',arr,clk,e1,e2,e3,e4,e5,e6,e7⟩:=R.blk _ _ hs
 have hb0:=hb
 rw [hb] at e1
 simp only [Xa,BI.mk.injEq] at e1
 obtain ⟨rfl,rfl,rfl⟩:=e1
 have hg:=Zf0 (P:=P) e2
 have hlt:bb < w.heap.size:=(Xx.1 e2).1
 split at h
 ·rename_i j y hf
  simp only [Xa,Xb] at h
  obtain ⟨rfl,rfl,rfl⟩:=h
  rcases ZdR hd' hk es arr.toList 0 _ e3 e4 hf with ⟨h1,_⟩ | ⟨j',y',e,p,h1,h2,h3,h4,_,h5,h6,h7⟩
  ·cases h1
  ·simp only [XF] at h1 h2
   injection h1 with h1
   injection h1 with h1 h1'
   subst h1 h1'
   have hr:=Zd8 (P:=P) (w:=w) hdk h2
   obtain ⟨sb,_⟩:=Ztw h6 hk h7
   have h3':arr[j]?=some e:=by rw [<-Array.getElem?_toList];exact h3
   have hst:(Instr.keyThatStays (((arr[j]?).map (·.key)).getD vk) vk).run P w=.ok vk w:=by
    rw [h3']
    simp [Instr.keyThatStays,sb]
   refine ⟨rfl,_,?_,ZgW R hs hb0 (arr':=arr.modify j fun e=>{ e with key:=vk,val:=vx }) (clk':=clk) ?_ ?_ ?_ ?_ hlt⟩
   ·simp only [Instr.mapUpdate,run_underlying ht,Zdx hdk hd,hg,hr,hst,Sem.run_bind,Result.andThen_ok,Zg1 e2]
   ·rw [Zg0,Zi7 (fun x:MapEntry=>x.key) _ vk (fun _=>rfl),Xbh]
    exact Zmg e3 hk j
   ·rw [Zg0,Zi7 (fun x:MapEntry=>x.val) _ vx (fun _=>rfl),Xbh]
    exact Zmg e4 hx j
   ·intro q hq
    rcases Wl hq with hq | rfl
    ·exact e5 q hq
    ·exact hkA
   ·refine ⟨fun e he=>?_,?_⟩
    ·rw [Zg0] at he
     have hm:e.born ∈ (arr.toList.modify j fun e=>{ e with key:=vk,val:=vx }).map (·.born):=XJ.2 ⟨e,he,rfl⟩
     rw [ZiS (fun x:MapEntry=>x.born) (fun e:MapEntry=>{ e with key:=vk,val:=vx }) (fun _=>rfl)] at hm
     obtain ⟨e',he',hb'⟩:=XJ.1 hm
     rw [<-hb'];exact e6 e' he'
    ·rw [Zg0,ZiS (fun x:MapEntry=>x.born) (fun e:MapEntry=>{ e with key:=vk,val:=vx }) (fun _=>rfl)]
     exact e7
 ·rename_i hf
  simp only [Xa,Xb] at h
  obtain ⟨rfl,rfl,rfl⟩:=h
  rcases ZdR hd' hk es arr.toList 0 _ e3 e4 hf with ⟨_,h2⟩ | ⟨j',y',e,p,h1,_⟩
  ·have hr:=Zd8 (P:=P) (w:=w) hdk h2
   refine ⟨rfl,_,?_,ZgW R hs hb0 (arr':=arr.push { key:=vk,val:=vx,born:=clk }) (clk':=clk+1) ?_ ?_ ?_ ?_ hlt⟩
   ·simp only [Instr.mapUpdate,run_underlying ht,Zdx hdk hd,hg,hr,Sem.run_bind,Result.andThen_ok,Zg1 e2]
   ·rw [XaG,Wk,Wk]
    exact ZbO e3 (by simp only [Xy,XO,VRs];exact ⟨_,_,rfl,hk,rfl⟩)
   ·rw [XaG,Wk,Wk]
    exact ZbO e4 (by simp only [Xy,XO,VRs];exact ⟨_,_,rfl,hx,rfl⟩)
   ·intro q hq
    rcases Xt.1 hq with hq | hq
    ·exact e5 q hq
    ·rw [X9] at hq;subst hq;exact hkA
   ·refine ⟨fun e he=>?_,?_⟩
    ·rw [XaG] at he
     rcases Xt.1 he with he | he
     ·have:=e6 e he;omega
     ·rw [X9] at he;subst he;exact Nat.lt_succ_self clk
    ·rw [XaG,Wk,WD]
     refine ⟨e7,by simp,?_⟩
     intro a ha b hb'
     simp only [Xy,XO,X9] at hb'
     subst hb'
     obtain ⟨e',he',rfl⟩:=XJ.1 ha
     have:=e6 e' he'
     omega
  ·cases h1
 ·cases h
theorem Ztp (R:Rel base w0 I0 I β σ w) {t kt et:TypeId} (ht:P.underlying t=some (.map kt et)) {d:TypeDesc} (hdk:P.underlying kt=some d) {kc:Nat} (hd:Zb4 d=some kc) {m k v:AVal} {vm vk:Value} {c:Cls} (ts:List TypeId) (ty:TypeId) (hm:VR I β m vm) (hk:VR I β k vk)
  (h:ZdS σ kc m k=some (v,σ',c)):∃ w',(Builtin.delete_ (t::ts).toArray ty #[vm,vk]).run P w=.ok (.tuple #[]) w'/\v=.tup []/\Rel base w0 I0 I β σ' w':=by
 unfold ZdS at h
 split at h
 case isFalse=>cases h
 rename_i hkc
 have hd':Zb4 d=some (ZaN k):=by rw [hd,hkc]
 split at h
 ·simp only [Xa,Xb] at h
  obtain ⟨rfl,rfl,rfl⟩:=h
  simp only [VR] at hm
  subst hm
  exact ⟨w,by simp [Builtin.delete_,run_underlying ht,Zdx hdk hd],rfl,R⟩
 ·rename_i b
  simp only [VR] at hm
  obtain ⟨bb,kk,cc,hb,rfl⟩:=hm
  split at h
  case h_2=>cases h
  rename_i es hs
  obtain ⟨b',k',c',arr,clk,e1,e2,e3,e4,e5,e6,e7⟩:=R.blk _ _ hs
  have hb0:=hb
  rw [hb] at e1
  simp only [Xa,BI.mk.injEq] at e1
  obtain ⟨rfl,rfl,rfl⟩:=e1
  have hg:=Zf0 (P:=P) e2
  have hlt:bb < w.heap.size:=(Xx.1 e2).1
  split at h
  ·rename_i j y hf
   simp only [Xa,Xb] at h
   obtain ⟨rfl,rfl,rfl⟩:=h
   rcases ZdR hd' hk es arr.toList 0 _ e3 e4 hf with ⟨h1,_⟩ | ⟨j',y',e,p,h1,h2,h3,h4,_⟩
   ·cases h1
   ·simp only [XF] at h1 h2
    injection h1 with h1
    injection h1 with h1 h1'
    subst h1 h1'
    have hr:=Zd8 (P:=P) (w:=w) hdk h2
    have el:(arr.eraseIdxIfInBounds j).toList=arr.toList.eraseIdx j:=by simp
    refine ⟨_,?_,rfl,ZgW R hs hb0 (arr':=arr.eraseIdxIfInBounds j) (clk':=clk) ?_ ?_ ?_ ?_ hlt⟩
    ·simp [Builtin.delete_,run_underlying ht,Zdx hdk hd,hg,hr,Zg1 e2]
    ·rw [el,Zez,Zez];exact Zim j e3
    ·rw [el,Zez,Zez];exact Zim j e4
    ·exact fun q hq=>e5 q (List.mem_of_mem_eraseIdx hq)
    ·refine ⟨fun e he=>?_,?_⟩
     ·rw [el] at he;exact e6 e (List.mem_of_mem_eraseIdx he)
     ·rw [el,Zez];exact e7.sublist (List.eraseIdx_sublist _ _)
  ·rename_i hf
   simp only [Xa,Xb] at h
   obtain ⟨rfl,rfl,rfl⟩:=h
   rcases ZdR hd' hk es arr.toList 0 _ e3 e4 hf with ⟨_,h2⟩ | ⟨j',y',e,p,h1,_⟩
   ·have hr:=Zd8 (P:=P) (w:=w) hdk h2
    refine ⟨_,?_,rfl,ZgW R hs hb0 (arr':=arr) (clk':=clk) e3 e4 e5 ⟨e6,e7⟩ hlt⟩
    simp [Builtin.delete_,run_underlying ht,Zdx hdk hd,hg,hr,Zg1 e2]
   ·cases h1
  ·cases h
 ·cases h
theorem ZvE (R:Rel base w0 I0 I β σ w) {t kt et:TypeId} (ht:P.underlying t=some (.map kt et)) {m v:AVal} {vm:Value} {c:Cls} (ty:TypeId) (hm:VR I β m vm) (h:Zdf σ m=some (v,σ',c)):σ'=σ/\∃ u,(Builtin.len_ #[t] ty #[vm]).run P w=.ok u w/\VR I β v u:=by
 unfold Zdf at h
 split at h
 ·simp only [Xa,Xb] at h
  obtain ⟨rfl,rfl,rfl⟩:=h
  simp only [VR] at hm
  subst hm
  exact ⟨rfl,goInt 0,by simp [Builtin.len_,run_underlying ht],by simp [VR,goInt]⟩
 ·rename_i b
  simp only [VR] at hm
  obtain ⟨bb,kk,cc,hb,rfl⟩:=hm
  split at h
  case h_2=>cases h
  rename_i es hs
  simp only [Xa,Xb] at h
  obtain ⟨rfl,rfl,rfl⟩:=h
  obtain ⟨b',k',c',arr,clk,e1,e2,e3,_⟩:=R.blk _ _ hs
  rw [hb] at e1
  simp only [Xa,BI.mk.injEq] at e1
  obtain ⟨rfl,rfl,rfl⟩:=e1
  have hg:=Zf0 (P:=P) e2
  have hl:es.length=arr.size:=by simpa using Zay e3
  exact ⟨rfl,goInt arr.size,by simp [Builtin.len_,run_underlying ht,hg],by simp [VR,goInt,hl]⟩
 ·cases h
theorem Zz1 (R:Rel base w0 I0 I β σ w) (hb:KLt base w0) (t:TypeId) {sq:Nat} (hs:σ[sq]?=some .free) :
  ∃ u w',(Instr.makeMap t none).run P w=.ok u w'/\Post base w0 I0 I β (.map sq) (σ.set sq (.map [])) u w':=by
 obtain ⟨R',hle⟩:=R.newObj hb hs (.map #[] 0) (.map []) 1 1 (by simp [Zh,Bmap.put_same]) rfl (by simp)
  ⟨_,_,_,#[],0,Bmap.put_same β sq 0 _,by simp,by simp [VRs],by simp [VRs],by simp,by simp [Zgz]⟩
 refine ⟨.map (some w.heap.size),_,run_makeMap t w,Post.mk (Imm.le.refl I) hle R' ?_⟩
 simp only [VR]
 exact ⟨_,_,_,Bmap.put_same β sq 0 _,rfl⟩
end
end
section
open Go.RowKit
section
variable {P:Program} {base:Nat->Prop} {w0 w w':World} {I0 I I':Imm} {β β':Bmap} {σ σ':Za} {tm:Tms}
theorem ZdA {α:Type} {x:Option α} {f:α->AVal×Za×Cls} {y:AVal×Za×Cls} (h:x.map f=some y):∃ a,x=some a/\f a=y:=by simpa [Xo] using h
theorem ZrL {t:TypeId} (hu:P.underlying t=some .bool) (p q:Bool) (x y:Operand):(do eqGuard .eql t x y (.bool p) (.bool q);binOp .eql t (.bool p) (.bool q):Sem Value).run P w=.ok (.bool ((p == q) != false)) w:=by
 have h1:(eqGuard .eql t x y (.bool p) (.bool q)).run P w=.ok () w:=by simp [eqGuard]
 simp only [Sem.run_bind,h1,Result.andThen_ok,run_eql_bool w t p q hu]
 cases p <;> cases q <;> rfl
theorem ZyR {t:TypeId} (hu:P.underlying t=some .bool) (p q:Bool) (x y:Operand):(do eqGuard .neq t x y (.bool p) (.bool q);binOp .neq t (.bool p) (.bool q):Sem Value).run P w=.ok (.bool ((p == q) != true)) w:=by
 have h1:(eqGuard .neq t x y (.bool p) (.bool q)).run P w=.ok () w:=by simp [eqGuard]
 have h2:(binOp .neq t (.bool p) (.bool q)).run P w=.ok (.bool (!(p == q))) w:=by
  simp only [binOp,Sem.run_bind,run_equal_bool w t p q hu,Result.andThen_ok,Sem.run_pure]
 simp only [Sem.run_bind,h1,Result.andThen_ok,h2]
 cases p <;> cases q <;> rfl
theorem ZmE {t e:TypeId} (hu:P.underlying t=some (.pointer e)) (p q:Option Addr) (hpq:p=none\/q=none):(Op.equal t (.pointer p) (.pointer q)).run P w=.ok (p.isNone && q.isNone) w:=by
 show (Op.equalIn (9999+1) t (.pointer p) (.pointer q)).run P w=_
 unfold Op.equalIn
 rw [Sem.run_bind,run_underlying hu]
 simp only [Result.andThen_ok]
 rcases hpq with rfl | rfl
 ·cases q <;> simp
 ·cases p <;> simp
theorem ZiL {t e:TypeId} (hu:P.underlying t=some (.pointer e)) (p q:Option Addr) (x y:Operand) (hpq:p=none\/q=none):(do eqGuard .eql t x y (.pointer p) (.pointer q);binOp .eql t (.pointer p) (.pointer q):Sem Value).run P w=.ok (.bool ((p.isNone && q.isNone) != false)) w:=by
 have h1:(eqGuard .eql t x y (.pointer p) (.pointer q)).run P w=.ok () w:=by simp [eqGuard]
 simp only [Sem.run_bind,h1,Result.andThen_ok,binOp,ZmE hu p q hpq,Sem.run_pure]
 simp
theorem Zji {t e:TypeId} (hu:P.underlying t=some (.pointer e)) (p q:Option Addr) (x y:Operand) (hpq:p=none\/q=none):(do eqGuard .neq t x y (.pointer p) (.pointer q);binOp .neq t (.pointer p) (.pointer q):Sem Value).run P w=.ok (.bool ((p.isNone && q.isNone) != true)) w:=by
 have h1:(eqGuard .neq t x y (.pointer p) (.pointer q)).run P w=.ok () w:=by simp [eqGuard]
 simp only [Sem.run_bind,h1,Result.andThen_ok,binOp,ZmE hu p q hpq,Sem.run_pure]
 simp
theorem ZnK {t:TypeId} {ms} (hu:P.underlying t=some (.interface ms)) (neg:Bool) {op:BinOp} (x:Operand) (vy:Value) (hop:op=(if neg then .neq else .eql)):(do eqGuard op t x (.const vy) .nilIface .nilIface;binOp op t .nilIface .nilIface:Sem Value).run P w=.ok (.bool (true != neg)) w:=by
 have h1:(eqGuard op t x (.const vy) .nilIface .nilIface).run P w=.ok () w:=by subst hop;cases neg <;> simp [eqGuard]
 have h2:(Op.equal t .nilIface .nilIface).run P w=.ok true w:=by
  show (Op.equalIn (9999+1) t .nilIface .nilIface).run P w=_
  unfold Op.equalIn
  rw [Sem.run_bind,run_underlying hu]
  simp only [Result.andThen_ok]
  rfl
 subst hop
 cases neg
 ·simp only [Xw,if_false] at h1 ⊢
  simp [h1,h2,binOp]
 ·simp only [if_true] at h1 ⊢
  simp [h1,h2,binOp]
theorem Zr3 {t t1:TypeId} {u:Value} {ms} (hu:P.underlying t=some (.interface ms)) (neg:Bool) {op:BinOp} (x:Operand) (vy:Value) (hop:op=(if neg then .neq else .eql)):(do eqGuard op t x (.const vy) (.iface t1 u) .nilIface;binOp op t (.iface t1 u) .nilIface:Sem Value).run P w=.ok (.bool (false != neg)) w:=by
 have h1:(eqGuard op t x (.const vy) (.iface t1 u) .nilIface).run P w=.ok () w:=by subst hop;cases neg <;> simp [eqGuard]
 have h2:(Op.equal t (.iface t1 u) .nilIface).run P w=.ok false w:=by
  show (Op.equalIn (9999+1) t (.iface t1 u) .nilIface).run P w=_
  unfold Op.equalIn
  rw [Sem.run_bind,run_underlying hu]
  simp only [Result.andThen_ok]
  rfl
 subst hop
 cases neg
 ·simp only [Xw,if_false] at h1 ⊢
  simp [h1,h2,binOp]
 ·simp only [if_true] at h1 ⊢
  simp [h1,h2,binOp]
def OpR (P:Program) (s:Sem Next) (w:World) (base:Nat->Prop) (w0:World) (I0 I:Imm) (β:Bmap) (v:AVal) (σ':Za):Prop :=
 OpOk P s w (Post base w0 I0 I β v σ')\/∃ x,v=.pan x/\OpPan P s w (Post base w0 I0 I β x σ')
theorem OpR.of_call {s:Sem Next} {f:FuncId} {args:Array Value} {v:AVal} (h:s.run P w=.ok (.enter f args) w) (hc:Calls P f args w (fun e w'=>∃ u,Ends v e u/\Post base w0 I0 I β (ZaA v) σ' u w')):OpR P s w base w0 I0 I β v σ':=by
 by_cases hp:∃ x,v=.pan x
 ·obtain ⟨x,rfl⟩:=hp
  exact Xu ⟨x,rfl,Xu ⟨f,args,w,h,hc.mono fun e w' ⟨u,h1,h2⟩=>⟨u,h1,h2⟩⟩⟩
 ·have hn:∀ x,v≠.pan x:=fun x e=>hp ⟨x,e⟩
  refine Xs (Xu (Xu ⟨f,args,w,h,hc.mono fun e w' ⟨u,h1,h2⟩=>⟨u,?_,by rw [Zec hn] at h2;exact h2⟩⟩))
  cases v <;> first | exact h1 | exact absurd rfl (hn _)
theorem Zxw {O:ZV} (hO:Zao P O) {bf:Nat->Bool} {an:Ann} {a:Act} {o:Oper} {own:Nat} {ins:Ins} (x:Operand) (ho:o.op=.move x) (hc:Z1 P an own (.move x)=some ins) (T:TR I β tm a.tmps) (R:Rel base w0 I0 I β σ w) (hb:KLt base w0)
  {sq:Nat} (hsite:nsite ins≠0->σ[sq]?=some .free) {v:AVal} {c:Cls} (h:execI O bf tm σ sq ins=some (v,σ',c)):OpOk P (execOp a.eval o) w (Post base w0 I0 I β v σ'):=by
 rw [show execOp a.eval o=(pure (.value (a.eval x)):Sem Next) by unfold execOp;rw [ho]]
 simp only [Z1] at hc
 simp only [Xo] at hc
 obtain ⟨y,hy,rfl⟩:=hc
 simp only [execI,Xa,Xb] at h
 obtain ⟨rfl,rfl,rfl⟩:=h
 exact Xs ⟨_,w,rfl,Post.here R (Z7 T hy)⟩
theorem Zro {O:ZV} (hO:Zao P O) {bf:Nat->Bool} {an:Ann} {a:Act} {o:Oper} {own:Nat} {ins:Ins} (x:Operand) (ho:o.op=.assign x) (hc:Z1 P an own (.assign x)=some ins) (T:TR I β tm a.tmps) (R:Rel base w0 I0 I β σ w) (hb:KLt base w0)
  {sq:Nat} (hsite:nsite ins≠0->σ[sq]?=some .free) {v:AVal} {c:Cls} (h:execI O bf tm σ sq ins=some (v,σ',c)):OpOk P (execOp a.eval o) w (Post base w0 I0 I β v σ'):=by
 rw [show execOp a.eval o=(pure (.value (a.eval x)):Sem Next) by unfold execOp;rw [ho]]
 simp only [Z1] at hc
 simp only [Xo] at hc
 obtain ⟨y,hy,rfl⟩:=hc
 simp only [execI,Xa,Xb] at h
 obtain ⟨rfl,rfl,rfl⟩:=h
 exact Xs ⟨_,w,rfl,Post.here R (Z7 T hy)⟩
theorem Zol {O:ZV} (hO:Zao P O) {bf:Nat->Bool} {an:Ann} {a:Act} {o:Oper} {own:Nat} {ins:Ins} (x:Operand) (y:Operand) (z:Operand) (ho:o.op=.pick x y z) (hc:Z1 P an own (.pick x y z)=some ins) (T:TR I β tm a.tmps) (R:Rel base w0 I0 I β σ w) (hb:KLt base w0)
  {sq:Nat} (hsite:nsite ins≠0->σ[sq]?=some .free) {v:AVal} {c:Cls} (h:execI O bf tm σ sq ins=some (v,σ',c)):OpOk P (execOp a.eval o) w (Post base w0 I0 I β v σ'):=by
 rw [show execOp a.eval o=(do pure (.value (if <-asBool (a.eval x) then a.eval y else a.eval z)):Sem Next) by unfold execOp;rw [ho]]
 simp only [Z1] at hc
 split at hc
 ·rename_i c' a' b' hx hy hz
  injection hc with hc;subst hc
  have hx':=Z7 T hx
  simp only [execI] at h
  unfold ZdH at h
  split at h
  ·rename_i e
   rw [e] at hx';simp only [VR] at hx'
   simp only [Xa,Xb] at h
   obtain ⟨rfl,rfl,rfl⟩:=h
   exact Xs ⟨_,w,by simp [hx',asBool],Post.here R (Z7 T hy)⟩
  ·rename_i e
   rw [e] at hx';simp only [VR] at hx'
   simp only [Xa,Xb] at h
   obtain ⟨rfl,rfl,rfl⟩:=h
   exact Xs ⟨_,w,by simp [hx',asBool],Post.here R (Z7 T hz)⟩
  ·cases h
 ·cases hc
theorem ZxB {O:ZV} (hO:Zao P O) {bf:Nat->Bool} {an:Ann} {a:Act} {o:Oper} {own:Nat} {ins:Ins} (e:TypeId) (ho:o.op=.alloc e) (hc:Z1 P an own (.alloc e)=some ins) (T:TR I β tm a.tmps) (R:Rel base w0 I0 I β σ w) (hb:KLt base w0)
  {sq:Nat} (hsite:nsite ins≠0->σ[sq]?=some .free) {v:AVal} {c:Cls} (h:execI O bf tm σ sq ins=some (v,σ',c)):OpOk P (execOp a.eval o) w (Post base w0 I0 I β v σ'):=by
 rw [show execOp a.eval o=(do pure (.value (<-Instr.alloc e true (.tuple #[]))):Sem Next) by unfold execOp;rw [ho]]
 simp only [Z1] at hc
 simp only [Xo] at hc
 obtain ⟨z,hz,rfl⟩:=hc
 simp only [execI,Xa,Xb] at h
 obtain ⟨rfl,rfl,rfl⟩:=h
 exact OpOk.val (ZtL R hb hz (hsite (by simp [nsite])))
theorem Zpv {O:ZV} (hO:Zao P O) {bf:Nat->Bool} {an:Ann} {a:Act} {o:Oper} {own:Nat} {ins:Ins} (e:TypeId) (x:Operand) (ho:o.op=.box e x) (hc:Z1 P an own (.box e x)=some ins) (T:TR I β tm a.tmps) (R:Rel base w0 I0 I β σ w) (hb:KLt base w0)
  {sq:Nat} (hsite:nsite ins≠0->σ[sq]?=some .free) {v:AVal} {c:Cls} (h:execI O bf tm σ sq ins=some (v,σ',c)):OpOk P (execOp a.eval o) w (Post base w0 I0 I β v σ'):=by
 rw [show execOp a.eval o=(do pure (.value (<-Instr.box e (a.eval x))):Sem Next) by unfold execOp;rw [ho]]
 simp only [Z1] at hc
 simp only [Xo] at hc
 obtain ⟨y,hy,hins⟩:=hc
 by_cases h3:own=3
 ·rw [if_pos h3] at hins
  subst hins
  simp only [execI] at h
  split at h
  ·rename_i e6
   simp only [Xa,Xb] at h
   obtain ⟨rfl,rfl,rfl⟩:=h
   have hv:=Z7 T hy
   rw [e6] at hv
   exact OpOk.val (Zp1 R hb hv (hsite (by simp [nsite])))
  ·cases h
 rw [if_neg h3] at hins
 by_cases h4:own=4
 ·rw [if_pos h4] at hins
  subst hins
  simp only [execI] at h
  split at h
  ·rename_i e6
   split at h
   ·rename_i hf
    simp only [Xa,Xb] at h
    obtain ⟨rfl,rfl,rfl⟩:=h
    have hv:=Z7 T hy
    rw [e6] at hv
    refine OpOk.val (Zsr R hb hv (hsite (by simp [nsite])) ?_)
    unfold freeAt at hf
    split at hf
    ·assumption
    ·cases hf
   ·cases h
  ·cases h
 rw [if_neg h4] at hins
 subst hins
 simp only [execI] at h
 split at h
 ·cases h
 ·cases h
 ·cases h
 ·rename_i _ hnt _
  simp only [Xa,Xb] at h
  obtain ⟨rfl,rfl,rfl⟩:=h
  exact OpOk.val (Zvu R hb hnt (Z7 T hy) (hsite (by simp [nsite])))
theorem ZtV {O:ZV} (hO:Zao P O) {bf:Nat->Bool} {an:Ann} {a:Act} {o:Oper} {own:Nat} {ins:Ins} (t:TypeId) (parts:Array (Nat×Operand)) (ho:o.op=.build t parts) (hc:Z1 P an own (.build t parts)=some ins) (T:TR I β tm a.tmps) (R:Rel base w0 I0 I β σ w) (hb:KLt base w0)
  {sq:Nat} (hsite:nsite ins≠0->σ[sq]?=some .free) {v:AVal} {c:Cls} (h:execI O bf tm σ sq ins=some (v,σ',c)):OpOk P (execOp a.eval o) w (Post base w0 I0 I β v σ'):=by
 rw [show execOp a.eval o=(do pure (.value (<-Instr.build t (parts.map fun (i,x)=>(i,a.eval x)))):Sem Next) by unfold execOp;rw [ho]]
 simp only [Z1] at hc
 have hc0:Z1 P an own (.build t parts)=some ins:=by simp only [Z1];exact hc
 obtain ⟨zs,ps,rfl⟩:∃ zs ps,ins=.build zs ps:=by
  split at hc
  ·split at hc
   ·simp only [Xo] at hc;obtain ⟨ps,_,rfl⟩:=hc;exact ⟨_,_,rfl⟩
   ·cases hc
  ·split at hc
   ·simp only [Xo] at hc;obtain ⟨ps,_,rfl⟩:=hc;exact ⟨_,_,rfl⟩
   ·cases hc
  ·cases hc
 simp only [execI] at h
 split at h
 ·rename_i cs hf
  simp only [Xa,Xb] at h
  obtain ⟨rfl,rfl,rfl⟩:=h
  obtain ⟨u,h1,h2⟩:=Zus (w:=w) T hc0 hf
  exact OpOk.val ⟨u,w,h1,Post.here R h2⟩
 ·cases h
theorem Zy1 {O:ZV} (hO:Zao P O) {bf:Nat->Bool} {an:Ann} {a:Act} {o:Oper} {own:Nat} {ins:Ins} (t:TypeId) (n:Nat) (parts:Array (Nat×Operand)) (ho:o.op=.buildSlice t n parts) (hc:Z1 P an own (.buildSlice t n parts)=some ins) (T:TR I β tm a.tmps) (R:Rel base w0 I0 I β σ w) (hb:KLt base w0)
  {sq:Nat} (hsite:nsite ins≠0->σ[sq]?=some .free) {v:AVal} {c:Cls} (h:execI O bf tm σ sq ins=some (v,σ',c)):OpOk P (execOp a.eval o) w (Post base w0 I0 I β v σ'):=by
 rw [show execOp a.eval o=(do pure (.value (<-Instr.buildSlice t n (parts.map fun (i,x)=>(i,a.eval x)))):Sem Next) by unfold execOp;rw [ho]]
 simp only [Z1] at hc
 split at hc
 ·rename_i k bytes z he
  split at hc
  ·rename_i hn
   simp only [Xo] at hc
   obtain ⟨ps,hps,rfl⟩:=hc
   split at h
   ·rename_i ho
    exact OpOk.val (Zsc T R hb he hn hps (hsite (by rw [if_pos ho];simp [nsite])) h)
   ·rename_i ho
    exact OpOk.val (Zz2 T R hb he hn hps (fun ho'=>hsite (by rw [if_neg ho];simp [nsite,ho'])) h)
  ·cases hc
 ·cases hc
theorem ZpD {O:ZV} (hO:Zao P O) {bf:Nat->Bool} {an:Ann} {a:Act} {o:Oper} {own:Nat} {ins:Ins} (t:TypeId) (x:Operand) (ho:o.op=.load t x) (hc:Z1 P an own (.load t x)=some ins) (T:TR I β tm a.tmps) (R:Rel base w0 I0 I β σ w) (hb:KLt base w0)
  {sq:Nat} (hsite:nsite ins≠0->σ[sq]?=some .free) {v:AVal} {c:Cls} (h:execI O bf tm σ sq ins=some (v,σ',c)):OpOk P (execOp a.eval o) w (Post base w0 I0 I β v σ'):=by
 rw [show execOp a.eval o=(do pure (.value (<-Instr.loadAt t (a.eval x))):Sem Next) by unfold execOp;rw [ho]]
 simp only [Z1] at hc
 split at hc
 ·rename_i k y hk hy
  injection hc with hc;subst hc
  simp only [execI] at h
  obtain ⟨u,h1,h2,rfl⟩:=Zkc hk R (Z7 T hy) h
  exact OpOk.val ⟨u,w,h1,Post.here R h2⟩
 ·cases hc
theorem ZxZ {O:ZV} (hO:Zao P O) {bf:Nat->Bool} {an:Ann} {a:Act} {o:Oper} {own:Nat} {ins:Ins} (t:TypeId) (x:Operand) (y:Operand) (ho:o.op=.store t x y) (hc:Z1 P an own (.store t x y)=some ins) (T:TR I β tm a.tmps) (R:Rel base w0 I0 I β σ w) (hb:KLt base w0)
  {sq:Nat} (hsite:nsite ins≠0->σ[sq]?=some .free) {v:AVal} {c:Cls} (h:execI O bf tm σ sq ins=some (v,σ',c)):OpOk P (execOp a.eval o) w (Post base w0 I0 I β v σ'):=by
 rw [show execOp a.eval o=(do Instr.storeAt t (a.eval x) (a.eval y);pure .skip:Sem Next) by unfold execOp;rw [ho]]
 simp only [Z1] at hc
 split at hc
 ·rename_i k x' y' hk hx hy
  injection hc with hc;subst hc
  simp only [execI] at h
  exact OpOk.unit (ZtW hk R (Z7 T hx) (Z7 T hy) h)
 ·cases hc
theorem ZvY {O:ZV} (hO:Zao P O) {bf:Nat->Bool} {an:Ann} {a:Act} {o:Oper} {own:Nat} {ins:Ins} (x:Operand) (ho:o.op=.nilCheck x) (hc:Z1 P an own (.nilCheck x)=some ins) (T:TR I β tm a.tmps) (R:Rel base w0 I0 I β σ w) (hb:KLt base w0)
  {sq:Nat} (hsite:nsite ins≠0->σ[sq]?=some .free) {v:AVal} {c:Cls} (h:execI O bf tm σ sq ins=some (v,σ',c)):OpOk P (execOp a.eval o) w (Post base w0 I0 I β v σ'):=by
 simp only [Z1] at hc
 simp only [Xo] at hc
 obtain ⟨y,hy,rfl⟩:=hc
 have hx:=Z7 T hy
 have key:∀ ad,a.eval x=.pointer (some ad)->execOp a.eval o=pure (.value (a.eval x)):=by
  intro ad e
  unfold execOp
  rw [ho]
  simp only [e]
 simp only [execI] at h
 split at h
 ·rename_i t' o' e
  simp only [Xa,Xb] at h
  obtain ⟨rfl,rfl,rfl⟩:=h
  rw [e] at hx
  have hx':=hx
  simp only [VR] at hx'
  obtain ⟨b,k,c',_,hp⟩:=hx'
  rw [key _ hp]
  exact Xs ⟨a.eval x,w,rfl,Post.here R hx⟩
 ·rename_i t' g' i' o' e
  simp only [Xa,Xb] at h
  obtain ⟨rfl,rfl,rfl⟩:=h
  rw [e] at hx
  have hx':=hx
  simp only [VR] at hx'
  obtain ⟨b,k,c',_,hp⟩:=hx'
  rw [key _ hp]
  exact Xs ⟨a.eval x,w,rfl,Post.here R hx⟩
 ·rename_i cs o' e
  simp only [Xa,Xb] at h
  obtain ⟨rfl,rfl,rfl⟩:=h
  rw [e] at hx
  have hx':=hx
  simp only [VR] at hx'
  obtain ⟨b,off,hp,_⟩:=hx'
  rw [key _ hp]
  exact Xs ⟨a.eval x,w,rfl,Post.here R hx⟩
 ·cases h
theorem Zt6 {O : ZV} (hO : Zao P O) {bf : Nat -> Bool} {an : Ann} {a : Act} {o : Oper} {own : Nat} {ins : Ins} (op : BinOp) (t : TypeId) (x : Operand) (y : Operand) (yt : TypeId) (ho : o.op = .binOp op t x y yt) (hc : Z1 P an own (.binOp op t x y yt) = some ins) (T : TR I β tm a.tmps) (R : Rel base w0 I0 I β σ w) (hb : KLt base w0)
    {sq : Nat} (hsite : nsite ins ≠ 0 -> σ[sq]? = some .free) {v : AVal} {c : Cls} (h : execI O bf tm σ sq ins = some (v, σ', c)) : OpOk P (execOp a.eval o) w (Post base w0 I0 I β v σ') := by
  rw [show execOp a.eval o = (do pure (.value (<- (do eqGuard op t x y (a.eval x) (a.eval y); binOp op t (a.eval x) (a.eval y)))) : Sem Next) by unfold execOp; rw [ho]]
  simp only [Z1] at hc
  split at hc
  . rename_i x' y' hx hy
    have hx' := Z7 T hx
    have hy' := Z7 T hy
    unfold ZkJ at hc
    split at hc
    . injection hc with hc; subst hc
      simp only [execI] at h
      obtain ⟨r, hr, he⟩ := ZdA h
      simp only [Xb] at he
      obtain ⟨rfl, rfl, rfl⟩ := he
      obtain ⟨u, h1, h2⟩ := Zl8 (P := P) (w := w) (t := t) x y hx' hy' hr
      exact OpOk.val ⟨u, w, h1, Post.here R h2⟩
    . injection hc with hc; subst hc
      simp only [execI] at h
      obtain ⟨r, hr, he⟩ := ZdA h
      simp only [Xb] at he
      obtain ⟨rfl, rfl, rfl⟩ := he
      obtain ⟨u, h1, h2⟩ := Zl8 (P := P) (w := w) (t := t) x y hx' hy' hr
      exact OpOk.val ⟨u, w, h1, Post.here R h2⟩
    . rename_i hu
      split at hc
      all_goals first
        | (cases hc; done)
        | (injection hc with hc; subst hc
           simp only [execI] at h
           split at h
           . rename_i p q e1 e2
             rw [e1] at hx'; rw [e2] at hy'
             simp only [VR] at hx' hy'
             simp only [Xa, Xb] at h
             obtain ⟨rfl, rfl, rfl⟩ := h
             refine OpOk.val ⟨_, w, ?_, Post.here R (by simp only [VR]; rfl)⟩
             rw [hx', hy']
             first | exact ZrL hu p q x y | exact ZyR hu p q x y
           . cases h)
    . rename_i elem hu
      split at hc
      all_goals first
        | (cases hc; done)
        | (injection hc with hc; subst hc
           simp only [execI] at h
           split at h
           . rename_i e1 e2
             rw [e1] at hx'; rw [e2] at hy'
             simp only [VR] at hx' hy'
             simp only [Xa, Xb] at h
             obtain ⟨rfl, rfl, rfl⟩ := h
             refine OpOk.val ⟨_, w, ?_, Post.here R (by simp only [VR]; rfl)⟩
             rw [hx', hy']
             first | exact ZiL hu _ _ x y (by simp) | exact Zji hu _ _ x y (by simp)
           . rename_i t1 o1 e1 e2
             rw [e1] at hx'; rw [e2] at hy'
             simp only [VR] at hx' hy'
             obtain ⟨b, k, c', _, hy'⟩ := hy'
             simp only [Xa, Xb] at h
             obtain ⟨rfl, rfl, rfl⟩ := h
             refine OpOk.val ⟨_, w, ?_, Post.here R (by simp only [VR]; rfl)⟩
             rw [hx', hy']
             first | exact ZiL hu _ _ x y (by simp) | exact Zji hu _ _ x y (by simp)
           . rename_i t1 o1 e1 e2
             rw [e1] at hx'; rw [e2] at hy'
             simp only [VR] at hx' hy'
             obtain ⟨b, k, c', _, hx'⟩ := hx'
             simp only [Xa, Xb] at h
             obtain ⟨rfl, rfl, rfl⟩ := h
             refine OpOk.val ⟨_, w, ?_, Post.here R (by simp only [VR]; rfl)⟩
             rw [hx', hy']
             first | exact ZiL hu _ _ x y (by simp) | exact Zji hu _ _ x y (by simp)
           . cases h)
    . rename_i fs hu
      split at hc
      case isFalse => cases hc
      rename_i hfl
      have fin : ∀ (neg : Bool), op = (if neg then .neq else .eql) -> execI O bf tm σ sq (.eqv neg (fs.toList.map fun f => (ZdF P f.type).getD 3) x' y') = some (v, σ', c) -> OpOk P (do pure (.value (<- (do eqGuard op t x y (a.eval x) (a.eval y); binOp op t (a.eval x) (a.eval y))))) w (Post base w0 I0 I β v σ') := by
        intro neg hop h
        simp only [execI] at h
        split at h
        . rename_i xs ys e1 e2
          rw [e1] at hx'; rw [e2] at hy'
          simp only [VR] at hx' hy'
          obtain ⟨us, hx1, hx2⟩ := hx'
          obtain ⟨vs, hy1, hy2⟩ := hy'
          split at h
          case isFalse => cases h
          rename_i hk
          split at h
          . rename_i b hb'
            simp only [Xa, Xb] at h
            obtain ⟨rfl, rfl, rfl⟩ := h
            refine OpOk.val ⟨_, w, ?_, Post.here R (by simp only [VR]; rfl)⟩
            rw [hx1, hy1]
            exact ZzR hu hfl hx2 hy2 (ZmC hk) hb' neg hop x y
          . cases h
        . cases h
      split at hc
      . injection hc with hc; subst hc; exact fin false rfl h
      . injection hc with hc; subst hc; exact fin true rfl h
      . cases hc
    . rename_i ms hu
      have fin : ∀ (neg : Bool), y' = .c .nili -> op = (if neg then .neq else .eql) -> execI O bf tm σ sq (.ieq neg x' y') = some (v, σ', c) -> OpOk P (do pure (.value (<- (do eqGuard op t x y (a.eval x) (a.eval y); binOp op t (a.eval x) (a.eval y))))) w (Post base w0 I0 I β v σ') := by
        intro neg hy0 hop h
        subst hy0
        obtain ⟨vy, rfl⟩ : ∃ vy, y = .const vy := by
          cases y with
          | const vy => exact ⟨vy, rfl⟩
          | tmp t => simp [Z6] at hy
          | func f => simp only [Z6] at hy; split at hy <;> simp at hy
          | global g => simp [Z6] at hy
        simp only [Opd.ev, VR] at hy'
        have hms : P.underlying t = some (.interface ms) := hu
        simp only [execI] at h
        rw [show (Opd.c AVal.nili).ev tm = .nili from rfl] at h
        split at h
        . rename_i e1 e2
          rw [e1] at hx'
          simp only [VR] at hx'
          simp only [Xa, Xb] at h
          obtain ⟨rfl, rfl, rfl⟩ := h
          refine OpOk.val ⟨_, w, ?_, Post.here R (by simp only [VR]; rfl)⟩
          rw [hx', hy']
          exact ZnK hms neg x vy hop
        . rename_i e2; cases e2
        . rename_i t1 x1 e1 e2
          rw [e1] at hx'
          simp only [VR] at hx'
          obtain ⟨u, hx', _⟩ := hx'
          simp only [Xa, Xb] at h
          obtain ⟨rfl, rfl, rfl⟩ := h
          refine OpOk.val ⟨_, w, ?_, Post.here R (by simp only [VR]; rfl)⟩
          rw [hx', hy']
          exact Zr3 hms neg x vy hop
        . cases h
      split at hc
      . injection hc with hc; subst hc; exact fin false rfl rfl h
      . injection hc with hc; subst hc; exact fin true rfl rfl h
      . cases hc
    . cases hc
  . cases hc
theorem Zrj {O:ZV} (hO:Zao P O) {bf:Nat->Bool} {an:Ann} {a:Act} {o:Oper} {own:Nat} {ins:Ins} (op:UnOp) (t:TypeId) (x:Operand) (ho:o.op=.unOp op t x) (hc:Z1 P an own (.unOp op t x)=some ins) (T:TR I β tm a.tmps) (R:Rel base w0 I0 I β σ w) (hb:KLt base w0)
  {sq:Nat} (hsite:nsite ins≠0->σ[sq]?=some .free) {v:AVal} {c:Cls} (h:execI O bf tm σ sq ins=some (v,σ',c)):OpOk P (execOp a.eval o) w (Post base w0 I0 I β v σ'):=by
 rw [show execOp a.eval o=(do pure (.value (<-Op.unary op (a.eval x))):Sem Next) by unfold execOp;rw [ho]]
 simp only [Z1] at hc
 simp only [Xo] at hc
 obtain ⟨y,hy,rfl⟩:=hc
 simp only [execI] at h
 obtain ⟨r,hr,he⟩:=ZdA h
 simp only [Xb] at he
 obtain ⟨rfl,rfl,rfl⟩:=he
 obtain ⟨u,h1,h2⟩:=Zry (P:=P) (w:=w) (Z7 T hy) hr
 exact OpOk.val ⟨u,w,h1,Post.here R h2⟩
theorem Zs3 {O:ZV} (hO:Zao P O) {bf:Nat->Bool} {an:Ann} {a:Act} {o:Oper} {own:Nat} {ins:Ins} (src:TypeId) (dst:TypeId) (x:Operand) (ho:o.op=.convert src dst x) (hc:Z1 P an own (.convert src dst x)=some ins) (T:TR I β tm a.tmps) (R:Rel base w0 I0 I β σ w) (hb:KLt base w0)
  {sq:Nat} (hsite:nsite ins≠0->σ[sq]?=some .free) {v:AVal} {c:Cls} (h:execI O bf tm σ sq ins=some (v,σ',c)):OpOk P (execOp a.eval o) w (Post base w0 I0 I β v σ'):=by
 rw [show execOp a.eval o=(do pure (.value (<-convert src dst (a.eval x))):Sem Next) by unfold execOp;rw [ho]]
 simp only [Z1] at hc
 split at hc
 ·rename_i y hy
  have hx:=Z7 T hy
  unfold Zko at hc
  split at hc
  ·rename_i k1 k2 hs hd
   injection hc with hc;subst hc
   simp only [execI] at h
   split at h
   ·rename_i k n e
    rw [e] at hx;simp only [VR] at hx
    simp only [Xa,Xb] at h
    obtain ⟨rfl,rfl,rfl⟩:=h
    refine OpOk.val ⟨.int k2 (k2.wrap n),w,?_,Post.here R (by simp only [VR])⟩
    rw [hx]
    simp [convert,run_underlying hs,run_underlying hd,Conv.intToInt]
   ·cases h
  ·rename_i hs hd
   injection hc with hc;subst hc
   simp only [execI] at h
   split at h
   ·rename_i k n e
    rw [e] at hx;simp only [VR] at hx
    simp only [Xa,Xb] at h
    obtain ⟨rfl,rfl,rfl⟩:=h
    refine OpOk.val ⟨.string (Utf8.encode n),w,?_,Post.here R ?_⟩
    ·rw [hx]
     simp [convert,run_underlying hs,run_underlying hd,Conv.intToString]
    ·simp only [VR]
     refine ⟨by simp,?_⟩
     unfold Utf8.encode
     simp only
     repeat' split
     all_goals simp
   ·cases h
  ·rename_i hs hd
   injection hc with hc;subst hc
   simp only [execI] at h
   split at h
   ·rename_i l e
    rw [e] at hx
    have hx':=hx
    simp only [VR] at hx'
    simp only [Xa,Xb] at h
    obtain ⟨rfl,rfl,rfl⟩:=h
    refine OpOk.val ⟨_,w,?_,Post.here R hx⟩
    rw [hx'.1]
    simp [convert,run_underlying hs,run_underlying hd]
   ·cases h
  ·rename_i e hs hd
   split at hc
   ·rename_i he
    injection hc with hc;subst hc
    simp only [execI] at h
    split at h
    ·rename_i l e'
     rw [e'] at hx
     simp only [VR] at hx
     simp only [Xa,Xb] at h
     obtain ⟨rfl,rfl,rfl⟩:=h
     rw [hx.1]
     exact OpOk.val (Zwg hs hd he R hb hx.2)
    ·cases h
   ·cases hc
  ·rename_i e1 e hs hd
   split at hc
   ·rename_i hsd
    subst hsd
    split at hc
    ·rename_i he
     injection hc with hc;subst hc
     simp only [execI] at h
     split at h
     ·rename_i t' g n ev
      rw [ev] at hx
      split at h
      ·rename_i g' k xs hrow
       split at h
       ·rename_i hcond
        obtain ⟨rfl,hn,h0⟩:=hcond
        simp only [Xa,Xb] at h
        obtain ⟨rfl,rfl,rfl⟩:=h
        obtain ⟨w1,h1,h2⟩:=Zra hd he R hrow hn h0 hx
        exact OpOk.val ⟨_,w1,h1,h2⟩
       ·cases h
      ·cases h
     ·cases h
    ·cases hc
   ·cases hc
  ·rename_i e hs hd
   split at hc
   ·rename_i he
    injection hc with hc;subst hc
    simp only [execI] at h
    split at h
    ·rename_i xs ts hel
     split at h
     ·rename_i l hl
      simp only [Xa,Xb] at h
      obtain ⟨rfl,rfl,rfl⟩:=h
      by_cases hst:∃ l',y.ev tm=.str l'
      ·obtain ⟨l',e'⟩:=hst
       rw [e'] at hel hx
       simp only [Zi,Xa,Xb] at hel
       obtain ⟨rfl,rfl⟩:=hel
       simp only [VR] at hx
       have hll:l=l':=by
        obtain ⟨ns,e1,e2⟩:=Zjh hl
        subst e2
        have : l'.map Zbg=ns.map (AVal.int .u8):=e1
        apply Wv
        intro j
        have hj:=congrArg (fun q:List AVal=>q[j]?) this
        simp only [List.getElem?_map] at hj ⊢
        cases h1:l'[j]? <;> cases h2:ns[j]? <;> simp_all [Zbg]
        rename_i b n
        rw [<-hj];simp
       subst hll
       refine OpOk.val ⟨.string ⟨l.toArray⟩,w,?_,Post.here R (by simp only [VR];exact ⟨trivial,hx.2⟩)⟩
       rw [hx.1]
       simp [convert,run_underlying hs,run_underlying hd]
      ·have hrd:=ZlW R (fun l' e'=>hst ⟨l',e'⟩) hel hx
       obtain ⟨h1,h2⟩:=ZpC (P:=P) hs he hd hrd hl
       exact OpOk.val ⟨_,w,h1,Post.here R (by simp only [VR];exact ⟨trivial,h2⟩)⟩
     ·cases h
    ·cases h
   ·cases hc
  ·cases hc
 ·cases hc
theorem ZxE {O:ZV} (hO:Zao P O) {bf:Nat->Bool} {an:Ann} {a:Act} {o:Oper} {own:Nat} {ins:Ins} (t:TypeId) (x:Operand) (lo:Option Operand) (hi:Option Operand) (mx:Option Operand) (ho:o.op=.slice t x lo hi mx) (hc:Z1 P an own (.slice t x lo hi mx)=some ins) (T:TR I β tm a.tmps) (R:Rel base w0 I0 I β σ w) (hb:KLt base w0)
  {sq:Nat} (hsite:nsite ins≠0->σ[sq]?=some .free) {v:AVal} {c:Cls} (h:execI O bf tm σ sq ins=some (v,σ',c)):OpOk P (execOp a.eval o) w (Post base w0 I0 I β v σ'):=by
 rw [show execOp a.eval o=(do pure (.value (<-Instr.sliceAt t (a.eval x) (lo.map a.eval) (hi.map a.eval) (mx.map a.eval))):Sem Next) by unfold execOp;rw [ho]]
 simp only [Z1] at hc
 split at hc
 ·rename_i x' lo' hi' mx' hx hlo hhi hmx
  split at hc
  ·rename_i hu
   split at hc
   ·injection hc with hc;subst hc
    have hmx0:mx=none:=by cases mx <;> simp_all [ZdY]
    subst hmx0
    have hx':=Z7 T hx
    simp only [execI] at h
    split at h
    ·rename_i s e
     rw [e] at hx';simp only [VR] at hx'
     split at h
     ·cases h
     rename_i hh h1
     split at h
     ·cases h
     rename_i ll h2
     simp only [Xa,Xb] at h
     obtain ⟨rfl,rfl,rfl⟩:=h
     refine OpOk.val ⟨_,w,?_,Post.here R (by simp only [VR];exact ⟨rfl,by simp;omega⟩)⟩
     rw [hx'.1]
     exact ZnO hu hx'.2 (ZfA T hlo) (ZfA T hhi) h1 h2
    ·cases h
   ·cases hc
  ·rename_i e hu
   split at hc
   ·rename_i k hk
    split at hc
    ·split at hc
     ·cases hc
     ·rename_i hnn
      injection hc with hc;subst hc
      simp only [execI] at h
      obtain ⟨u,h1,h2⟩:=ZyV hu hk R (Z7 T hx) (ZfA T hlo) (ZfA T hhi) (ZfA T hmx) (by
       intro e'
       cases hi' with
       | some _=>simp at e'
       | none=>cases mx' with
        | none=>rfl
        | some q=>exact absurd rfl (hnn q rfl)) h
      exact OpOk.val ⟨u,w,h1,h2⟩
    ·cases hc
   ·cases hc
  ·cases hc
 ·cases hc
theorem Zps {O:ZV} (hO:Zao P O) {bf:Nat->Bool} {an:Ann} {a:Act} {o:Oper} {own:Nat} {ins:Ins} (s:TypeId) (x:Operand) (i:Nat) (ho:o.op=.fieldAddr s x i) (hc:Z1 P an own (.fieldAddr s x i)=some ins) (T:TR I β tm a.tmps) (R:Rel base w0 I0 I β σ w) (hb:KLt base w0)
  {sq:Nat} (hsite:nsite ins≠0->σ[sq]?=some .free) {v:AVal} {c:Cls} (h:execI O bf tm σ sq ins=some (v,σ',c)):OpOk P (execOp a.eval o) w (Post base w0 I0 I β v σ'):=by
 rw [show execOp a.eval o=(do pure (.value (<-Instr.fieldAt s (a.eval x) i)):Sem Next) by unfold execOp;rw [ho]]
 simp only [Z1] at hc
 split at hc
 ·rename_i fields x' hs hx
  split at hc
  ·rename_i f hf
   split at hc
   ·rename_i k hk
    split at hc
    ·cases hc
    ·rename_i hk0
     injection hc with hc;subst hc
     simp only [execI] at h
     obtain ⟨r,hr,he⟩:=ZdA h
     simp only [Xb] at he
     obtain ⟨rfl,rfl,rfl⟩:=he
     obtain ⟨u,h1,h2⟩:=ZtF (w:=w) hs hf hk hk0 (Z7 T hx) hr
     exact OpOk.val ⟨u,w,h1,Post.here R h2⟩
   ·cases hc
  ·cases hc
 ·cases hc
theorem Zxh {O:ZV} (hO:Zao P O) {bf:Nat->Bool} {an:Ann} {a:Act} {o:Oper} {own:Nat} {ins:Ins} (s:TypeId) (x:Operand) (i:Nat) (ho:o.op=.field s x i) (hc:Z1 P an own (.field s x i)=some ins) (T:TR I β tm a.tmps) (R:Rel base w0 I0 I β σ w) (hb:KLt base w0)
  {sq:Nat} (hsite:nsite ins≠0->σ[sq]?=some .free) {v:AVal} {c:Cls} (h:execI O bf tm σ sq ins=some (v,σ',c)):OpOk P (execOp a.eval o) w (Post base w0 I0 I β v σ'):=by
 rw [show execOp a.eval o=(do pure (.value (<-Instr.field s (a.eval x) i)):Sem Next) by unfold execOp;rw [ho]]
 simp only [Z1] at hc
 split at hc
 ·rename_i fields x' hs hx
  split at hc
  ·rename_i f hf
   simp only [Xo] at hc
   obtain ⟨k,hk,rfl⟩:=hc
   have hx':=Z7 T hx
   simp only [execI] at h
   split at h
   ·rename_i cs e
    rw [e] at hx';simp only [VR] at hx'
    obtain ⟨us,hus,hv⟩:=hx'
    obtain ⟨r,hr,he⟩:=ZdA h
    simp only [Xb] at he
    obtain ⟨rfl,rfl,rfl⟩:=he
    obtain ⟨u,h1,h2⟩:=Zkm (P:=P) (w:=w) hk hv hr
    refine OpOk.val ⟨u,w,?_,Post.here R h2⟩
    rw [hus]
    simp [Instr.field,run_underlying hs,hf,asAgg,h1]
   ·cases h
  ·cases hc
 ·cases hc
theorem Zp8 {O:ZV} (hO:Zao P O) {bf:Nat->Bool} {an:Ann} {a:Act} {o:Oper} {own:Nat} {ins:Ins} (t:TypeId) (x:Operand) (i:Operand) (ho:o.op=.indexAddr t x i) (hc:Z1 P an own (.indexAddr t x i)=some ins) (T:TR I β tm a.tmps) (R:Rel base w0 I0 I β σ w) (hb:KLt base w0)
  {sq:Nat} (hsite:nsite ins≠0->σ[sq]?=some .free) {v:AVal} {c:Cls} (h:execI O bf tm σ sq ins=some (v,σ',c)):OpOk P (execOp a.eval o) w (Post base w0 I0 I β v σ'):=by
 rw [show execOp a.eval o=(do pure (.value (<-Instr.indexAt t (a.eval x) (a.eval i))):Sem Next) by unfold execOp;rw [ho]]
 simp only [Z1] at hc
 split at hc
 ·rename_i e x' i' hu hx hi
  simp only [Xo] at hc
  obtain ⟨k,hk,rfl⟩:=hc
  simp only [execI] at h
  obtain ⟨u,h1,h2,rfl⟩:=ZuC hu hk R (Z7 T hx) (Z7 T hi) h
  exact OpOk.val ⟨u,w,h1,Post.here R h2⟩
 ·rename_i n e x' i' hu hx hi
  simp only [Xo] at hc
  obtain ⟨k,hk,rfl⟩:=hc
  have hi':=Z7 T hi
  simp only [execI] at h
  split at h
  ·rename_i kk ii e'
   rw [e'] at hi';simp only [VR] at hi'
   split at h
   ·rename_i hb'
    obtain ⟨r,hr,he⟩:=ZdA h
    simp only [Xb] at he
    obtain ⟨rfl,rfl,rfl⟩:=he
    obtain ⟨u,h1,h2⟩:=ZuS (P:=P) (w:=w) (kk:=kk) hu hk (Z7 T hx) hb'.1 hb'.2 hr
    exact OpOk.val ⟨u,w,by rw [hi'];exact h1,Post.here R h2⟩
   ·cases h
  ·cases h
 ·cases hc
theorem ZzD {O:ZV} (hO:Zao P O) {bf:Nat->Bool} {an:Ann} {a:Act} {o:Oper} {own:Nat} {ins:Ins} (t:TypeId) (x:Operand) (i:Operand) (ho:o.op=.index t x i) (hc:Z1 P an own (.index t x i)=some ins) (T:TR I β tm a.tmps) (R:Rel base w0 I0 I β σ w) (hb:KLt base w0)
  {sq:Nat} (hsite:nsite ins≠0->σ[sq]?=some .free) {v:AVal} {c:Cls} (h:execI O bf tm σ sq ins=some (v,σ',c)):OpOk P (execOp a.eval o) w (Post base w0 I0 I β v σ'):=by
 rw [show execOp a.eval o=(do pure (.value (<-Instr.index t (a.eval x) (a.eval i))):Sem Next) by unfold execOp;rw [ho]]
 simp only [Z1] at hc
 split at hc
 ·rename_i x' i' hu hx hi
  injection hc with hc;subst hc
  have hx':=Z7 T hx
  have hi':=Z7 T hi
  simp only [execI] at h
  split at h
  ·rename_i s kk ii e1 e2
   rw [e1] at hx';rw [e2] at hi'
   simp only [VR] at hx' hi'
   split at h
   ·rename_i h0
    simp only [Xo] at h
    obtain ⟨b,hbb,he⟩:=h
    simp only [Xb] at he
    obtain ⟨rfl,rfl,rfl⟩:=he
    refine OpOk.val ⟨.int .u8 b.toNat,w,?_,Post.here R (by simp only [Zbg,VR])⟩
    rw [hx'.1,hi']
    have hg:(⟨s.toArray⟩:ByteArray)[ii.toNat]?=some b:=by
     have hlt:=(Xc.1 hbb).1
     have : ii.toNat < WA ⟨s.toArray⟩:=by simpa [WA] using hlt
     rw [getElem?_pos (⟨s.toArray⟩:ByteArray) ii.toNat this]
     have:=(Xc.1 hbb).2
     rw [<-this]
     rfl
    simp [Instr.index,asIntOf,run_underlying hu,h0,hg]
   ·cases h
  ·cases h
 ·rename_i n e x' i' hu hx hi
  split at hc
  ·rename_i s k hk hk2
   injection hc with hc;subst hc
   have hx':=Z7 T hx
   have hi':=Z7 T hi
   simp only [execI] at h
   split at h
   ·rename_i cs kk ii e1 e2
    rw [e1] at hx';rw [e2] at hi'
    simp only [VR] at hx' hi'
    obtain ⟨us,hus,hv⟩:=hx'
    split at h
    ·rename_i hb'
     obtain ⟨r,hr,he⟩:=ZdA h
     simp only [Xb] at he
     obtain ⟨rfl,rfl,rfl⟩:=he
     obtain ⟨u,h1,h2⟩:=Zkm (P:=P) (w:=w) hk hv hr
     obtain ⟨ie,hie,hke⟩:∃ ie,P.info? e=some ie/\ie.size=k:=by
      unfold Za9 at hk2
      cases hi:P.info? e with
      | none=>simp [hi] at hk2
      | some i=>exact ⟨i,rfl,by simpa [hi] using hk2⟩
     refine OpOk.val ⟨u,w,?_,Post.here R h2⟩
     rw [hus,hi']
     simp [Instr.index,asIntOf,run_underlying hu,hb'.1,hb'.2,sizeOf,typeInfo,hie,hke,h1]
    ·cases h
   ·cases h
  ·cases hc
 ·cases hc
theorem ZxI {O:ZV} (hO:Zao P O) {bf:Nat->Bool} {an:Ann} {a:Act} {o:Oper} {own:Nat} {ins:Ins} (x:Operand) (i:Nat) (ho:o.op=.extract x i) (hc:Z1 P an own (.extract x i)=some ins) (T:TR I β tm a.tmps) (R:Rel base w0 I0 I β σ w) (hb:KLt base w0)
  {sq:Nat} (hsite:nsite ins≠0->σ[sq]?=some .free) {v:AVal} {c:Cls} (h:execI O bf tm σ sq ins=some (v,σ',c)):OpOk P (execOp a.eval o) w (Post base w0 I0 I β v σ'):=by
 rw [show execOp a.eval o=(do pure (.value (<-Instr.extract (a.eval x) i)):Sem Next) by unfold execOp;rw [ho]]
 simp only [Z1] at hc
 simp only [Xo] at hc
 obtain ⟨y,hy,rfl⟩:=hc
 have hx:=Z7 T hy
 simp only [execI] at h
 split at h
 ·rename_i vs e
  rw [e] at hx;simp only [VR] at hx
  obtain ⟨us,hus,hv⟩:=hx
  obtain ⟨r,hr,he⟩:=ZdA h
  simp only [Xb] at he
  obtain ⟨rfl,rfl,rfl⟩:=he
  obtain ⟨u,h1,h2⟩:=Zbo hv hr
  have h1':us[i]?=some u:=by simpa using h1
  exact OpOk.val ⟨u,w,by rw [hus];simp [Instr.extract,h1'],Post.here R h2⟩
 ·cases h
theorem ZtJ {O:ZV} (hO:Zao P O) {bf:Nat->Bool} {an:Ann} {a:Act} {o:Oper} {own:Nat} {ins:Ins} (t:TypeId) (l:Operand) (c':Operand) (ho:o.op=.makeSlice t l c') (hc:Z1 P an own (.makeSlice t l c')=some ins) (T:TR I β tm a.tmps) (R:Rel base w0 I0 I β σ w) (hb:KLt base w0)
  {sq:Nat} (hsite:nsite ins≠0->σ[sq]?=some .free) {v:AVal} {c:Cls} (h:execI O bf tm σ sq ins=some (v,σ',c)):OpOk P (execOp a.eval o) w (Post base w0 I0 I β v σ'):=by
 rw [show execOp a.eval o=(do pure (.value (<-Instr.makeSlice t (a.eval l) (a.eval c'))):Sem Next) by unfold execOp;rw [ho]]
 simp only [Z1] at hc
 split at hc
 ·rename_i k bytes z l' c'' he hl hc'
  injection hc with hc;subst hc
  have hl':=Z7 T hl
  have hc'':=Z7 T hc'
  simp only [execI] at h
  split at h
  ·rename_i li ci e1 e2
   rw [e1] at hl';rw [e2] at hc''
   simp only [VR] at hl' hc''
   split at h
   ·rename_i hcond
    simp only [Xa,Xb] at h
    obtain ⟨rfl,rfl,rfl⟩:=h
    rw [hl',hc'']
    exact OpOk.val (Zym R hb he hcond.1 hcond.2.1 hcond.2.2.1 hcond.2.2.2.1 (hsite (by simp [nsite])))
   ·cases h
  ·cases h
 ·cases hc
theorem ZuE {O:ZV} (hO:Zao P O) {bf:Nat->Bool} {an:Ann} {a:Act} {o:Oper} {own:Nat} {ins:Ins} (fn:Fn) (first:Array Operand) (captured:Array Operand) (ho:o.op=.makeFunc fn first captured) (hc:Z1 P an own (.makeFunc fn first captured)=some ins) (T:TR I β tm a.tmps) (R:Rel base w0 I0 I β σ w) (hb:KLt base w0)
  {sq:Nat} (hsite:nsite ins≠0->σ[sq]?=some .free) {v:AVal} {c:Cls} (h:execI O bf tm σ sq ins=some (v,σ',c)):OpOk P (execOp a.eval o) w (Post base w0 I0 I β v σ'):=by
 rw [show execOp a.eval o=(do pure (.value (<-Instr.makeFunc fn (first.map a.eval) (captured.map a.eval))):Sem Next) by unfold execOp;rw [ho]]
 simp only [Z1] at hc
 cases fn <;> simp only at hc <;> try (cases hc;done)
 rename_i f
 split at hc
 case isFalse=>cases hc
 rename_i hlt
 split at hc
 ·rename_i hf
  simp only [Xo] at hc
  obtain ⟨caps,hcaps,rfl⟩:=hc
  simp only [execI,Xa,Xb] at h
  obtain ⟨rfl,rfl,rfl⟩:=h
  have hfe:first=#[]:=by simpa using hf
  subst hfe
  refine OpOk.val ⟨.func (.func f) #[] (captured.map a.eval),w,by simp [Instr.makeFunc],Post.here R ?_⟩
  simp only [VR,if_pos hlt]
  exact ⟨_,_,rfl,rfl,by simpa using ZgN T hcaps⟩
 ·split at hc
  case isFalse=>cases hc
  rename_i hf
  simp only [Xo] at hc
  obtain ⟨caps,hcaps,rfl⟩:=hc
  simp only [execI,Xa,Xb] at h
  obtain ⟨rfl,rfl,rfl⟩:=h
  have hfe:captured=#[]:=by simpa using hf
  subst hfe
  refine OpOk.val ⟨.func (.func f) (first.map a.eval) #[],w,by simp [Instr.makeFunc],Post.here R ?_⟩
  have hn:¬(f+1000000 < 1000000):=Nat.not_lt.2 (Nat.le_add_left _ _)
  simp only [VR,if_neg hn,Nat.add_sub_cancel]
  exact ⟨_,_,rfl,rfl,by simpa using ZgN T hcaps⟩
theorem ZzZ {O:ZV} (hO:Zao P O) {bf:Nat->Bool} {an:Ann} {a:Act} {o:Oper} {own:Nat} {ins:Ins} (t:TypeId) (x:Operand) (ho:o.op=.makeInterface t x) (hc:Z1 P an own (.makeInterface t x)=some ins) (T:TR I β tm a.tmps) (R:Rel base w0 I0 I β σ w) (hb:KLt base w0)
  {sq:Nat} (hsite:nsite ins≠0->σ[sq]?=some .free) {v:AVal} {c:Cls} (h:execI O bf tm σ sq ins=some (v,σ',c)):OpOk P (execOp a.eval o) w (Post base w0 I0 I β v σ'):=by
 rw [show execOp a.eval o=(do pure (.value (<-Instr.makeInterface t (a.eval x))):Sem Next) by unfold execOp;rw [ho]]
 simp only [Z1] at hc
 split at hc
 ·cases hc
 ·rename_i d hd hnd
  simp only [Xo] at hc
  obtain ⟨y,hy,rfl⟩:=hc
  have hy':=Z7 T hy
  have hrun:∀ u,(Instr.makeInterface t u).run P w=.ok (.iface t u) w:=by
   intro u
   unfold Instr.makeInterface
   rw [Sem.run_bind,run_underlying hnd]
   simp only [Result.andThen_ok]
   cases d <;> first | rfl | exact absurd rfl (hd _)
  simp only [execI] at h
  split at h
  ·cases h
  ·cases h
  ·cases h
  ·simp only [Xa,Xb] at h
   obtain ⟨rfl,rfl,rfl⟩:=h
   exact OpOk.val ⟨_,w,hrun _,Post.here R (by simp only [VR];exact ⟨_,rfl,hy'⟩)⟩
 ·cases hc
theorem Zp4 {O:ZV} (hO:Zao P O) {bf:Nat->Bool} {an:Ann} {a:Act} {o:Oper} {own:Nat} {ins:Ins} (x:Operand) (ho:o.op=.panic x) (hc:Z1 P an own (.panic x)=some ins) (T:TR I β tm a.tmps) (R:Rel base w0 I0 I β σ w) (hb:KLt base w0)
  {sq:Nat} (hsite:nsite ins≠0->σ[sq]?=some .free) {v:AVal} {c:Cls} (h:execI O bf tm σ sq ins=some (v,σ',c)):OpR P (execOp a.eval o) w base w0 I0 I β v σ':=by
 rw [show execOp a.eval o=(do pure (.value (<-Instr.panic (a.eval x))):Sem Next) by unfold execOp;rw [ho]]
 simp only [Z1] at hc
 simp only [Xo] at hc
 obtain ⟨y,hy,rfl⟩:=hc
 have hy':=Z7 T hy
 simp only [execI] at h
 split at h
 ·rename_i t1 x1 e
  rw [e] at hy'
  simp only [Xa,Xb] at h
  obtain ⟨rfl,rfl,rfl⟩:=h
  refine Xu ⟨_,rfl,Xs ⟨a.eval x,w,?_,Post.here R hy'⟩⟩
  simp only [VR] at hy'
  obtain ⟨u,hu,_⟩:=hy'
  simp [hu,Instr.panic,goPanic]
 ·cases h
theorem ZqQ {O:ZV} (hO:Zao P O) {bf:Nat->Bool} {an:Ann} {a:Act} {o:Oper} {own:Nat} {ins:Ins} (t:TypeId) (x:Operand) (ho:o.op=.range t x) (hc:Z1 P an own (.range t x)=some ins) (T:TR I β tm a.tmps) (R:Rel base w0 I0 I β σ w) (hb:KLt base w0)
  {sq:Nat} (hsite:nsite ins≠0->σ[sq]?=some .free) {v:AVal} {c:Cls} (h:execI O bf tm σ sq ins=some (v,σ',c)):OpOk P (execOp a.eval o) w (Post base w0 I0 I β v σ'):=by
 rw [show execOp a.eval o=(do pure (.value (<-Instr.range t (a.eval x))):Sem Next) by unfold execOp;rw [ho]]
 simp only [Z1] at hc
 split at hc
 case h_2=>cases hc
 rename_i ht
 simp only [Xo] at hc
 obtain ⟨y,hy,rfl⟩:=hc
 have hy':=Z7 T hy
 simp only [execI] at h
 split at h
 case h_2=>cases h
 rename_i l e
 simp only [Xa,Xb] at h
 obtain ⟨rfl,rfl,rfl⟩:=h
 rw [e] at hy'
 simp only [VR] at hy'
 rw [hy'.1]
 exact OpOk.val (Zxn R hb ht (hsite (by simp [nsite])))
theorem ZxR {O:ZV} (hO:Zao P O) {bf:Nat->Bool} {an:Ann} {a:Act} {o:Oper} {own:Nat} {ins:Ins} (x:Operand) (str:Bool) (ho:o.op=.next x str) (hc:Z1 P an own (.next x str)=some ins) (T:TR I β tm a.tmps) (R:Rel base w0 I0 I β σ w) (hb:KLt base w0)
  {sq:Nat} (hsite:nsite ins≠0->σ[sq]?=some .free) {v:AVal} {c:Cls} (h:execI O bf tm σ sq ins=some (v,σ',c)):OpOk P (execOp a.eval o) w (Post base w0 I0 I β v σ'):=by
 rw [show execOp a.eval o=(do pure (.value (<-Instr.next (a.eval x) str o.type)):Sem Next) by unfold execOp;rw [ho]]
 simp only [Z1] at hc
 cases str
 case false=>cases hc
 simp only [Xo] at hc
 obtain ⟨y,hy,rfl⟩:=hc
 have hy':=Z7 T hy
 simp only [execI] at h
 split at h
 case h_2=>cases h
 rename_i t e
 rw [e] at hy'
 split at h
 case h_2=>cases h
 rename_i l p hs
 obtain ⟨u,w',h1,h2⟩:=Zsu (P:=P) R hs hy' o.type
 split at h
 ·rename_i hp
  rw [if_pos hp] at h2
  simp only [Xa,Xb] at h
  obtain ⟨rfl,rfl,rfl⟩:=h
  exact OpOk.val ⟨u,w',h1,h2⟩
 ·rename_i hp
  rw [if_neg hp] at h2
  simp only [Xa,Xb] at h
  obtain ⟨rfl,rfl,rfl⟩:=h
  exact OpOk.val ⟨u,w',h1,h2⟩
theorem Zsk {O:ZV} (hO:Zao P O) {bf:Nat->Bool} {an:Ann} {a:Act} {o:Oper} {own:Nat} {ins:Ins} (t:TypeId) (r:Option Operand) (ho:o.op=.makeMap t r) (hc:Z1 P an own (.makeMap t r)=some ins) (T:TR I β tm a.tmps) (R:Rel base w0 I0 I β σ w) (hb:KLt base w0)
  {sq:Nat} (hsite:nsite ins≠0->σ[sq]?=some .free) {v:AVal} {c:Cls} (h:execI O bf tm σ sq ins=some (v,σ',c)):OpOk P (execOp a.eval o) w (Post base w0 I0 I β v σ'):=by
 rw [show execOp a.eval o=(do pure (.value (<-Instr.makeMap t (r.map a.eval))):Sem Next) by unfold execOp;rw [ho]]
 simp only [Z1] at hc
 cases r with
 | some r=>cases hc
 | none =>
  injection hc with hc;subst hc
  simp only [execI,Xa,Xb] at h
  obtain ⟨rfl,rfl,rfl⟩:=h
  exact OpOk.val (Zz1 R hb t (hsite (by simp [nsite])))
theorem Zyf {O:ZV} (hO:Zao P O) {bf:Nat->Bool} {an:Ann} {a:Act} {o:Oper} {own:Nat} {ins:Ins} (t:TypeId) (x:Operand) (z:Operand) (ok:Bool) (ho:o.op=.lookup t x z ok) (hc:Z1 P an own (.lookup t x z ok)=some ins) (T:TR I β tm a.tmps) (R:Rel base w0 I0 I β σ w) (hb:KLt base w0)
  {sq:Nat} (hsite:nsite ins≠0->σ[sq]?=some .free) {v:AVal} {c:Cls} (h:execI O bf tm σ sq ins=some (v,σ',c)):OpOk P (execOp a.eval o) w (Post base w0 I0 I β v σ'):=by
 rw [show execOp a.eval o=(do pure (.value (<-Instr.lookup t (a.eval x) (a.eval z) ok)):Sem Next) by unfold execOp;rw [ho]]
 simp only [Z1] at hc
 split at hc
 case h_2=>cases hc
 rename_i kc zv m k hmp hm hk
 injection hc with hc;subst hc
 simp only [execI] at h
 obtain ⟨kt,et,d,ht,hdk,hd,hz⟩:=Zhx hmp
 obtain ⟨rfl,u,h1,h2⟩:=ZsP R ht hdk hd hz (Z7 T hm) (Z7 T hk) h
 exact OpOk.val ⟨u,w,h1,Post.here R h2⟩
theorem ZqG {O:ZV} (hO:Zao P O) {bf:Nat->Bool} {an:Ann} {a:Act} {o:Oper} {own:Nat} {ins:Ins} (t:TypeId) (x:Operand) (z:Operand) (y:Operand) (ho:o.op=.mapUpdate t x z y) (hc:Z1 P an own (.mapUpdate t x z y)=some ins) (T:TR I β tm a.tmps) (R:Rel base w0 I0 I β σ w) (hb:KLt base w0)
  {sq:Nat} (hsite:nsite ins≠0->σ[sq]?=some .free) {v:AVal} {c:Cls} (h:execI O bf tm σ sq ins=some (v,σ',c)):OpOk P (execOp a.eval o) w (Post base w0 I0 I β v σ'):=by
 rw [show execOp a.eval o=(do Instr.mapUpdate t (a.eval x) (a.eval z) (a.eval y);pure .skip:Sem Next) by unfold execOp;rw [ho]]
 simp only [Z1] at hc
 split at hc
 case h_2=>cases hc
 rename_i kc zv m k vv hmp hm hk hv
 injection hc with hc;subst hc
 simp only [execI] at h
 obtain ⟨kt,et,d,ht,hdk,hd,hz⟩:=Zhx hmp
 obtain ⟨rfl,w',h1,h2⟩:=Zk5 R ht hdk hd (Z7 T hm) (Z7 T hk) (Z7 T hv) h
 exact OpOk.unit ⟨w',h1,Post.here h2 Zeu⟩
theorem ZtE {O:ZV} (hO:Zao P O) {bf:Nat->Bool} {an:Ann} {a:Act} {o:Oper} {own:Nat} {ins:Ins} (t:TypeId) (x:Operand) (z:Operand) (y:Operand) (ho:o.op=.insert t x z y) (hc:Z1 P an own (.insert t x z y)=some ins) (T:TR I β tm a.tmps) (R:Rel base w0 I0 I β σ w) (hb:KLt base w0)
  {sq:Nat} (hsite:nsite ins≠0->σ[sq]?=some .free) {v:AVal} {c:Cls} (h:execI O bf tm σ sq ins=some (v,σ',c)):OpOk P (execOp a.eval o) w (Post base w0 I0 I β v σ'):=by
 rw [show execOp a.eval o=(do Instr.mapUpdate t (a.eval x) (a.eval z) (a.eval y);pure .skip:Sem Next) by unfold execOp;rw [ho]]
 simp only [Z1] at hc
 split at hc
 case h_2=>cases hc
 rename_i kc zv m k vv hmp hm hk hv
 injection hc with hc;subst hc
 simp only [execI] at h
 obtain ⟨kt,et,d,ht,hdk,hd,hz⟩:=Zhx hmp
 obtain ⟨rfl,w',h1,h2⟩:=Zk5 R ht hdk hd (Z7 T hm) (Z7 T hk) (Z7 T hv) h
 exact OpOk.unit ⟨w',h1,Post.here h2 Zeu⟩
theorem ZsJ {O:ZV} (hO:Zao P O) {bf:Nat->Bool} {an:Ann} {a:Act} {o:Oper} {own:Nat} {ins:Ins} (cl:Call) (ho:o.op=.call cl) (hc:Z1 P an own (.call cl)=some ins) (T:TR I β tm a.tmps) (R:Rel base w0 I0 I β σ w) (hb:KLt base w0)
  {sq:Nat} (hsite:nsite ins≠0->σ[sq]?=some .free) {v:AVal} {c:Cls} (h:execI O bf tm σ sq ins=some (v,σ',c)):OpR P (execOp a.eval o) w base w0 I0 I β v σ':=by
 rw [show execOp a.eval o=(do let d <-resolve a.eval cl o.type;invoke d.target d.args:Sem Next) by unfold execOp;rw [ho]]
 simp only [Z1] at hc
 unfold Zm3 at hc
 split at hc
 ·cases hc
 rename_i args hargs
 have hav:=ZgN T hargs
 obtain ⟨callee,cargs,ctypes⟩:=cl
 simp only at hc hargs hav
 have hmap:(cargs.toList.map a.eval)=(cargs.map a.eval).toList:=by simp
 split at hc
 ·rename_i f
  injection hc with hc;subst hc
  simp only [execI] at h
  obtain ⟨⟨fn,f1,f2,f3⟩,g2⟩:=ZjR hO R hb (vs:=cargs.map a.eval) (by rw [<-hmap];exact hav) (fun ho=>hsite (by simp [nsite,ho])) h
  exact OpR.of_call (by simp [resolve,Act.eval,Deferred.ofValue,invoke,Zh2 f1 f2 f3]) g2
 ·rename_i t
  injection hc with hc;subst hc
  simp only [execI] at h
  split at h
  ·rename_i f caps hf
   have hfv:=Z7 (x:=.tmp t) T rfl
   rw [hf] at hfv
   simp only [VR] at hfv
   obtain ⟨fs,us,hus,h0,hcaps⟩:=hfv
   by_cases hlt:f < 1000000
   ·simp only [if_pos hlt] at h hus h0
    subst h0
    obtain ⟨⟨fn,f1,f2,f3⟩,g2⟩:=ZjR hO R hb (vs:=cargs.map a.eval++us) (by rw [XaW,<-hmap];exact ZbO hav (by simpa using hcaps)) (fun ho=>absurd ho (by decide)) h
    exact OpR.of_call (by simp [resolve,hus,Deferred.ofValue,invoke,Zh2 f1 f2 f3]) g2
   ·simp only [if_neg hlt] at h hus h0
    subst h0
    obtain ⟨⟨fn,f1,f2,f3⟩,g2⟩:=ZjR hO R hb (vs:=fs++cargs.map a.eval) (by rw [XaW,<-hmap];exact ZbO (by simpa using hcaps) hav) (fun ho=>absurd ho (by decide)) h
    exact OpR.of_call (by simp [resolve,hus,Deferred.ofValue,invoke,Zh2 f1 f2 f3]) g2
  ·cases h
 ·refine Xs ?_
  split at hc
  ·rename_i t u x y hty
   split at hc
   ·rename_i k bytes z he
    obtain ⟨e,i,vz,hu,hi,hik,hib,hvz,hz,hk,hby,hzl⟩:=ZfD he
    obtain ⟨hz1,hz2⟩:=Zdr (I:=I) (β:=β) hz
    have hzs:vz.cells.size=i.size:=by rw [ZdT (Zc6 hz) hz1,hzl,hik]
    have hargs2:∃ ox oy,cargs=#[ox,oy]/\Z6 ox=some x/\Z6 oy=some y:=by
     obtain ⟨l⟩:=cargs
     match l,hargs with
     | [],hargs=>simp [ZbK] at hargs
     | [ox],hargs =>
      simp only [ZbK] at hargs
      split at hargs
      ·simp at hargs
      ·cases hargs
     | [ox,oy],hargs =>
      simp only [ZbK] at hargs
      split at hargs
      ·rename_i x1 hx1
       split at hargs
       ·rename_i l2 hl2
        split at hl2
        ·rename_i y1 hy1
         simp only [Xa] at hl2 hargs
         subst hl2
         simp only [XaC,and_true] at hargs
         obtain ⟨rfl,rfl⟩:=hargs
         exact ⟨ox,oy,rfl,hx1,hy1⟩
        ·cases hl2
       ·cases hargs
      ·cases hargs
     | ox::oy::oz::r,hargs=>have:=Zay hav;simp at this
    obtain ⟨ox,oy,rfl,hx,hy⟩:=hargs2
    have htys:ctypes=#[t,u]:=by
     obtain ⟨l⟩:=ctypes
     simpa using hty
    subst htys
    have fin:ZfC P t u e i vz->ZaM σ sq k bytes (x.ev tm) (y.ev tm)=some (v,σ',c)->OpOk P (do let d <-resolve a.eval { callee:=.builtin .append,args:=#[ox,oy],argTypes:=#[t,u] } o.type;invoke d.target d.args) w (Post base w0 I0 I β v σ'):=by
     intro TT h
     rw [<-hik,<-hib] at h
     have hns:nsite ins≠0:=by
      split at hc
      ·injection hc with hc;subst hc;simp [nsite]
      ·split at hc
       ·injection hc with hc;subst hc;simp [nsite]
       ·cases hc
      ·cases hc
     obtain ⟨vr,w1,h1,h2⟩:=Zsv (ty:=o.type) TT R hb (Z7 T hx) (Z7 T hy) (hsite hns) h
     exact Xs ⟨vr,w1,by simp [resolve,invoke,builtin,h1],h2⟩
    split at hc
    ·rename_i e' hu2
     injection hc with hc;subst hc
     simp only [execI] at h
     exact fin ⟨hu,Xs ⟨e',hu2⟩,hi,hvz,hzs,by omega,by omega⟩ h
    ·rename_i hu2
     split at hc
     ·injection hc with hc;subst hc
      simp only [execI] at h
      exact fin ⟨hu,Xu hu2,hi,hvz,hzs,by omega,by omega⟩ h
     ·cases hc
    ·cases hc
   ·cases hc
  ·cases hc
 ·refine Xs ?_
  split at hc
  ·rename_i t x hty
   have hargs2:∃ ox,cargs=#[ox]/\Z6 ox=some x:=by
    obtain ⟨l⟩:=cargs
    match l,hargs with
    | [],hargs=>simp [ZbK] at hargs
    | [ox],hargs =>
     simp only [ZbK] at hargs
     split at hargs
     ·rename_i x1 hx1
      simp only [Xa,XaC,and_true] at hargs
      subst hargs
      exact ⟨ox,rfl,hx1⟩
     ·cases hargs
    | ox::oy::r,hargs =>
     have:=Zay hav
     simp at this
   obtain ⟨ox,rfl,hx⟩:=hargs2
   have htys:ctypes=#[t]:=by
    obtain ⟨l⟩:=ctypes
    simpa using hty
   subst htys
   have hx':=Z7 T hx
   split at hc
   ·rename_i e hu
    injection hc with hc;subst hc
    simp only [execI] at h
    split at h
    ·rename_i b xs hh
     rw [hh] at hx';simp only [VR] at hx'
     obtain ⟨A,cap,hv,_⟩:=hx'
     simp only [Xa,Xb] at h
     obtain ⟨rfl,rfl,rfl⟩:=h
     refine Xs ⟨.int .i64 xs.length,w,?_,Post.here R (by simp only [VR])⟩
     simp [resolve,invoke,builtin,hv,Builtin.len_,run_underlying hu,goInt]
    ·rename_i t' g lo n hh
     rw [hh] at hx';simp only [VR] at hx'
     obtain ⟨bi,_,hle,_,hv⟩:=hx'
     simp only [Xa,Xb] at h
     obtain ⟨rfl,rfl,rfl⟩:=h
     refine Xs ⟨.int .i64 n,w,?_,Post.here R (by simp only [VR])⟩
     rcases hv with ⟨b,_,hv⟩ | ⟨_,hc0,A,hv⟩ | ⟨_,_,hn0,A,hv⟩
     ·simp [resolve,invoke,builtin,hv,Builtin.len_,run_underlying hu,goInt]
     ·have : n=0:=by omega
      subst this
      simp [resolve,invoke,builtin,hv,Builtin.len_,run_underlying hu,goInt]
     ·subst hn0
      simp [resolve,invoke,builtin,hv,Builtin.len_,run_underlying hu,goInt]
    ·cases h
   ·rename_i hu
    injection hc with hc;subst hc
    simp only [execI] at h
    split at h
    ·rename_i l hh
     rw [hh] at hx';simp only [VR] at hx'
     simp only [Xa,Xb] at h
     obtain ⟨rfl,rfl,rfl⟩:=h
     refine Xs ⟨.int .i64 l.length,w,?_,Post.here R (by simp only [VR])⟩
     have hsz:WA ⟨l.toArray⟩=l.length:=by simp [WA]
     simp [resolve,invoke,builtin,hx'.1,Builtin.len_,run_underlying hu,goInt,hsz]
    ·cases h
   ·rename_i kt et hu
    injection hc with hc;subst hc
    simp only [execI] at h
    obtain ⟨rfl,u,h1,h2⟩:=ZvE R hu o.type hx' h
    exact Xs ⟨u,w,by simp [resolve,invoke,builtin,h1],Post.here R h2⟩
   ·cases hc
  ·cases hc
 ·refine Xs ?_
  split at hc
  ·rename_i t ts x y hty
   split at hc
   case h_2=>cases hc
   rename_i kc zv hmp
   injection hc with hc;subst hc
   obtain ⟨kt,et,d,ht,hdk,hd,hz⟩:=Zhx hmp
   have hargs2:∃ ox oy,cargs=#[ox,oy]/\Z6 ox=some x/\Z6 oy=some y:=by
    obtain ⟨l⟩:=cargs
    match l,hargs with
    | [],hargs=>simp [ZbK] at hargs
    | [ox],hargs =>
     simp only [ZbK] at hargs
     split at hargs
     ·simp at hargs
     ·cases hargs
    | [ox,oy],hargs =>
     simp only [ZbK] at hargs
     split at hargs
     ·rename_i x1 hx1
      split at hargs
      ·rename_i l2 hl2
       split at hl2
       ·rename_i y1 hy1
        simp only [Xa] at hl2 hargs
        subst hl2
        simp only [XaC,and_true] at hargs
        obtain ⟨rfl,rfl⟩:=hargs
        exact ⟨ox,oy,rfl,hx1,hy1⟩
       ·cases hl2
      ·cases hargs
     ·cases hargs
    | ox::oy::oz::r,hargs=>have:=Zay hav;simp at this
   obtain ⟨ox,oy,rfl,hx,hy⟩:=hargs2
   have htys:ctypes=(t::ts).toArray:=by
    obtain ⟨l⟩:=ctypes
    simpa using hty
   subst htys
   simp only [execI] at h
   obtain ⟨w',h1,rfl,h2⟩:=Ztp R ht hdk hd ts o.type (Z7 T hx) (Z7 T hy) h
   exact Xs ⟨.tuple #[],w',by simp [resolve,invoke,builtin,h1],Post.here h2 Zeu⟩
  ·cases hc
 ·refine Xs ?_
  split at hc
  ·rename_i t x hty
   have hargs2:∃ ox,cargs=#[ox]/\Z6 ox=some x:=by
    obtain ⟨l⟩:=cargs
    match l,hargs with
    | [],hargs=>simp [ZbK] at hargs
    | [ox],hargs =>
     simp only [ZbK] at hargs
     split at hargs
     ·rename_i x1 hx1
      simp only [Xa,XaC,and_true] at hargs
      subst hargs
      exact ⟨ox,rfl,hx1⟩
     ·cases hargs
    | ox::oy::r,hargs =>
     have:=Zay hav
     simp at this
   obtain ⟨ox,rfl,hx⟩:=hargs2
   have htys:ctypes=#[t]:=by
    obtain ⟨l⟩:=ctypes
    simpa using hty
   subst htys
   split at hc
   ·rename_i k bytes z he
    injection hc with hc;subst hc
    simp only [execI] at h
    obtain ⟨vr,w1,h1,h2⟩:=ZwM (ty:=o.type) R he (Z7 T hx) h
    exact Xs ⟨vr,w1,by simp [resolve,invoke,builtin,h1],h2⟩
   ·cases hc
  ·cases hc
 ·refine Xs ?_
  split at hc
  ·rename_i hl2
   injection hc with hc;subst hc
   simp only [execI] at h
   split at h
   ·rename_i k p k' q hh
    rw [hh] at hav
    simp only [VRs,VR] at hav
    obtain ⟨v1,vs1,e1,rfl,v2,vs2,rfl,rfl,rfl⟩:=hav
    simp only [Xa,Xb] at h
    obtain ⟨rfl,rfl,rfl⟩:=h
    have hca:cargs.map a.eval=#[.int k p,.int k' q]:=by
     apply Xa6
     simpa using e1
    refine Xs ⟨_,w,?_,Post.here R (by simp only [VR];rfl)⟩
    simp [resolve,invoke,builtin,hca,Builtin.max_,Builtin.max2]
   ·cases h
  ·cases hc
 ·refine Xs ?_
  split at hc
  ·rename_i hl2
   injection hc with hc;subst hc
   simp only [execI] at h
   split at h
   ·rename_i k p k' q hh
    rw [hh] at hav
    simp only [VRs,VR] at hav
    obtain ⟨v1,vs1,e1,rfl,v2,vs2,rfl,rfl,rfl⟩:=hav
    simp only [Xa,Xb] at h
    obtain ⟨rfl,rfl,rfl⟩:=h
    have hca:cargs.map a.eval=#[.int k p,.int k' q]:=by
     apply Xa6
     simpa using e1
    refine Xs ⟨_,w,?_,Post.here R (by simp only [VR];rfl)⟩
    simp [resolve,invoke,builtin,hca,Builtin.min_,Builtin.min2]
   ·cases h
  ·cases hc
 ·cases hc
theorem ZvR {O:ZV} (hO:Zao P O) {bf:Nat->Bool} {an:Ann} {a:Act} {o:Oper} {own:Nat} {ins:Ins} (hc:Z1 P an own o.op=some ins) (T:TR I β tm a.tmps) (R:Rel base w0 I0 I β σ w) (hb:KLt base w0)
  {sq:Nat} (hsite:nsite ins≠0->σ[sq]?=some .free) {v:AVal} {c:Cls} (h:execI O bf tm σ sq ins=some (v,σ',c)):OpR P (execOp a.eval o) w base w0 I0 I β v σ':=by
 cases ho:o.op <;> rw [ho] at hc <;> first
  | exact Xs (Zxw hO _ ho hc T R hb hsite h)
  | exact Xs (Zro hO _ ho hc T R hb hsite h)
  | exact Xs (Zol hO _ _ _ ho hc T R hb hsite h)
  | exact Xs (ZxB hO _ ho hc T R hb hsite h)
  | exact Xs (Zpv hO _ _ ho hc T R hb hsite h)
  | exact Xs (ZtV hO _ _ ho hc T R hb hsite h)
  | exact Xs (Zy1 hO _ _ _ ho hc T R hb hsite h)
  | exact Xs (ZpD hO _ _ ho hc T R hb hsite h)
  | exact Xs (ZxZ hO _ _ _ ho hc T R hb hsite h)
  | exact Xs (ZvY hO _ ho hc T R hb hsite h)
  | exact Xs (Zt6 hO _ _ _ _ _ ho hc T R hb hsite h)
  | exact Xs (Zrj hO _ _ _ ho hc T R hb hsite h)
  | exact Xs (Zs3 hO _ _ _ ho hc T R hb hsite h)
  | exact Xs (ZxE hO _ _ _ _ _ ho hc T R hb hsite h)
  | exact Xs (Zps hO _ _ _ ho hc T R hb hsite h)
  | exact Xs (Zxh hO _ _ _ ho hc T R hb hsite h)
  | exact Xs (Zp8 hO _ _ _ ho hc T R hb hsite h)
  | exact Xs (ZzD hO _ _ _ ho hc T R hb hsite h)
  | exact Xs (ZxI hO _ _ ho hc T R hb hsite h)
  | exact Xs (ZtJ hO _ _ _ ho hc T R hb hsite h)
  | exact Xs (ZuE hO _ _ _ ho hc T R hb hsite h)
  | exact Xs (ZzZ hO _ _ ho hc T R hb hsite h)
  | exact Zp4 hO _ ho hc T R hb hsite h
  | exact Xs (ZqQ hO _ _ ho hc T R hb hsite h)
  | exact Xs (ZxR hO _ _ ho hc T R hb hsite h)
  | exact Xs (Zsk hO _ _ ho hc T R hb hsite h)
  | exact Xs (Zyf hO _ _ _ _ ho hc T R hb hsite h)
  | exact Xs (ZqG hO _ _ _ _ ho hc T R hb hsite h)
  | exact Xs (ZtE hO _ _ _ _ ho hc T R hb hsite h)
  | exact ZsJ hO _ ho hc T R hb hsite h
  | (simp only [Z1] at hc;cases hc;done)
end
end
section
open Go.RowKit
section
variable {O:ZV} {bf:Nat->Bool} {tm tm':Tms} {σ σ' σ2:Za} {sq:Nat}
theorem Opd.ev_congr {x:Opd} (h:∀ n ∈ x.reads,tget tm n=tget tm' n):x.ev tm=x.ev tm':=by
 cases x with
 | t n=>exact h n (by simp [Opd.reads])
 | c v=>rfl
theorem Zg2 {xs:List Opd} (h:∀ n ∈ xs.flatMap Opd.reads,tget tm n=tget tm' n):(xs.map fun x=>x.ev tm)=xs.map fun x=>x.ev tm':=by
 apply Xai
 intro x hx
 exact Opd.ev_congr fun n hn=>h n (X5.2 ⟨x,hx,hn⟩)
theorem Ze6 {x:Option Opd} (h:∀ n ∈ Zew x,tget tm n=tget tm' n):(x.map fun x=>x.ev tm)=x.map fun x=>x.ev tm':=by
 cases x with
 | none=>rfl
 | some x=>simp only [XN];rw [Opd.ev_congr (x:=x) h]
theorem Zee {ins:Ins} (h:∀ n ∈ ins.reads,tget tm n=tget tm' n):execI O bf tm σ sq ins=execI O bf tm' σ sq ins:=by
 cases ins with
 | alloc zs=>rfl
 | build zs ps =>
  have : (ps.map fun p=>(p.1,p.2.1,p.2.2.ev tm))=ps.map fun p=>(p.1,p.2.1,p.2.2.ev tm'):=by
   apply Xai
   intro p hp
   rw [Opd.ev_congr (x:=p.2.2) fun n hn=>h n (by simp only [Ins.reads];exact X5.2 ⟨p,hp,hn⟩)]
  simp only [execI,this]
 | bslice own k n z ps =>
  have : (ps.map fun p=>p.2.ev tm)=ps.map fun p=>p.2.ev tm':=by
   apply Xai
   intro p hp
   rw [Opd.ev_congr (x:=p.2) fun n hn=>h n (by simp only [Ins.reads];exact X5.2 ⟨p,hp,hn⟩)]
  simp only [execI,this]
 | rslice k n z ps =>
  have h0:∀ p ∈ ps,p.2.ev tm=p.2.ev tm':=fun p hp=>Opd.ev_congr (x:=p.2) fun n hn=>h n (by simp only [Ins.reads];exact X5.2 ⟨p,hp,hn⟩)
  have h1:(ps.map fun p=>(p.1,p.2.ev tm))=ps.map fun p=>(p.1,p.2.ev tm'):=Xai fun p hp=>by rw [h0 p hp]
  have h2:(ps.all fun p=>(p.2.ev tm).cells.length == k && (p.2.ev tm).cells.all Z5)=ps.all fun p=>(p.2.ev tm').cells.length == k && (p.2.ev tm').cells.all Z5:=by
   rw [Bool.eq_iff_iff,XB,XB]
   exact ⟨fun h p hp=>by rw [<-h0 p hp];exact h p hp,fun h p hp=>by rw [h0 p hp];exact h p hp⟩
  simp only [execI,h1,h2]
 | rng x=>simp only [execI,Opd.ev_congr (x:=x) h]
 | nxt x=>simp only [execI,Opd.ev_congr (x:=x) h]
 | mkmap=>rfl
 | mkbook x=>simp only [execI,Opd.ev_congr (x:=x) h]
 | mkrow x=>simp only [execI,Opd.ev_congr (x:=x) h]
 | mlen x=>simp only [execI,Opd.ev_congr (x:=x) h]
 | look kc z ok x y=>simp only [Ins.reads,Xt] at h;simp only [execI,Opd.ev_congr (x:=x) fun n hn=>h n (Xs hn),Opd.ev_congr (x:=y) fun n hn=>h n (Xu hn)]
 | mdel kc x y=>simp only [Ins.reads,Xt] at h;simp only [execI,Opd.ev_congr (x:=x) fun n hn=>h n (Xs hn),Opd.ev_congr (x:=y) fun n hn=>h n (Xu hn)]
 | mset kc x y z =>
  simp only [Ins.reads,Xt] at h
  simp only [execI,Opd.ev_congr (x:=x) fun n hn=>h n (Xs (Xs hn)),Opd.ev_congr (x:=y) fun n hn=>h n (Xs (Xu hn)),Opd.ev_congr (x:=z) fun n hn=>h n (Xu hn)]
 | mov x=>simp only [execI,Opd.ev_congr (x:=x) h]
 | box x=>simp only [execI,Opd.ev_congr (x:=x) h]
 | un op x=>simp only [execI,Opd.ev_congr (x:=x) h]
 | i2i k x=>simp only [execI,Opd.ev_congr (x:=x) h]
 | i2s x=>simp only [execI,Opd.ev_congr (x:=x) h]
 | clr k z x=>simp only [execI,Opd.ev_congr (x:=x) h]
 | same x=>simp only [execI,Opd.ev_congr (x:=x) h]
 | s2b x=>simp only [execI,Opd.ev_congr (x:=x) h]
 | b2s x=>simp only [execI,Opd.ev_congr (x:=x) h]
 | s2s x=>simp only [execI,Opd.ev_congr (x:=x) h]
 | faddr o x=>simp only [execI,Opd.ev_congr (x:=x) h]
 | field k o x=>simp only [execI,Opd.ev_congr (x:=x) h]
 | ext x i=>simp only [execI,Opd.ev_congr (x:=x) h]
 | len x=>simp only [execI,Opd.ev_congr (x:=x) h]
 | slen x=>simp only [execI,Opd.ev_congr (x:=x) h]
 | nilchk x=>simp only [execI,Opd.ev_congr (x:=x) h]
 | mki t x=>simp only [execI,Opd.ev_congr (x:=x) h]
 | panic x=>simp only [execI,Opd.ev_congr (x:=x) h]
 | ld k x=>simp only [execI,Opd.ev_congr (x:=x) h]
 | pick c a b =>
  simp only [Ins.reads,Xt] at h
  simp only [execI,Opd.ev_congr (x:=c) fun n hn=>h n (Xs (Xs hn)),Opd.ev_congr (x:=a) fun n hn=>h n (Xs (Xu hn)),Opd.ev_congr (x:=b) fun n hn=>h n (Xu hn)]
 | st k x y=>simp only [Ins.reads,Xt] at h;simp only [execI,Opd.ev_congr (x:=x) fun n hn=>h n (Xs hn),Opd.ev_congr (x:=y) fun n hn=>h n (Xu hn)]
 | bin k x y=>simp only [Ins.reads,Xt] at h;simp only [execI,Opd.ev_congr (x:=x) fun n hn=>h n (Xs hn),Opd.ev_congr (x:=y) fun n hn=>h n (Xu hn)]
 | iaddr k x y=>simp only [Ins.reads,Xt] at h;simp only [execI,Opd.ev_congr (x:=x) fun n hn=>h n (Xs hn),Opd.ev_congr (x:=y) fun n hn=>h n (Xu hn)]
 | aaddr k n x y=>simp only [Ins.reads,Xt] at h;simp only [execI,Opd.ev_congr (x:=x) fun n hn=>h n (Xs hn),Opd.ev_congr (x:=y) fun n hn=>h n (Xu hn)]
 | sindex x y=>simp only [Ins.reads,Xt] at h;simp only [execI,Opd.ev_congr (x:=x) fun n hn=>h n (Xs hn),Opd.ev_congr (x:=y) fun n hn=>h n (Xu hn)]
 | aindex s k n x y=>simp only [Ins.reads,Xt] at h;simp only [execI,Opd.ev_congr (x:=x) fun n hn=>h n (Xs hn),Opd.ev_congr (x:=y) fun n hn=>h n (Xu hn)]
 | app k b z x y=>simp only [Ins.reads,Xt] at h;simp only [execI,Opd.ev_congr (x:=x) fun n hn=>h n (Xs hn),Opd.ev_congr (x:=y) fun n hn=>h n (Xu hn)]
 | mkslice k b z x y=>simp only [Ins.reads,Xt] at h;simp only [execI,Opd.ev_congr (x:=x) fun n hn=>h n (Xs hn),Opd.ev_congr (x:=y) fun n hn=>h n (Xu hn)]
 | beq k x y=>simp only [Ins.reads,Xt] at h;simp only [execI,Opd.ev_congr (x:=x) fun n hn=>h n (Xs hn),Opd.ev_congr (x:=y) fun n hn=>h n (Xu hn)]
 | peq k x y=>simp only [Ins.reads,Xt] at h;simp only [execI,Opd.ev_congr (x:=x) fun n hn=>h n (Xs hn),Opd.ev_congr (x:=y) fun n hn=>h n (Xu hn)]
 | eqv k ks x y=>simp only [Ins.reads,Xt] at h;simp only [execI,Opd.ev_congr (x:=x) fun n hn=>h n (Xs hn),Opd.ev_congr (x:=y) fun n hn=>h n (Xu hn)]
 | ieq k x y=>simp only [Ins.reads,Xt] at h;simp only [execI,Opd.ev_congr (x:=x) fun n hn=>h n (Xs hn),Opd.ev_congr (x:=y) fun n hn=>h n (Xu hn)]
 | slice k x lo hi mx =>
  simp only [Ins.reads,Xt] at h
  simp only [execI,Opd.ev_congr (x:=x) fun n hn=>h n (Xs (Xs (Xs hn))),Ze6 (x:=lo) fun n hn=>h n (Xs (Xs (Xu hn))),Ze6 (x:=hi) fun n hn=>h n (Xs (Xu hn)),Ze6 (x:=mx) fun n hn=>h n (Xu hn)]
 | sslice x lo hi =>
  simp only [Ins.reads,Xt] at h
  simp only [execI,Opd.ev_congr (x:=x) fun n hn=>h n (Xs (Xs hn)),Ze6 (x:=lo) fun n hn=>h n (Xs (Xu hn)),Ze6 (x:=hi) fun n hn=>h n (Xu hn)]
 | mm m xs=>simp only [Ins.reads] at h;simp only [execI,Zg2 h]
 | call f own vw xs=>simp only [Ins.reads] at h;simp only [execI,Zg2 h]
 | mkfn f xs=>simp only [Ins.reads] at h;simp only [execI,Zg2 h]
 | callv x xs =>
  simp only [Ins.reads,Xt] at h
  simp only [execI,Opd.ev_congr (x:=x) fun n hn=>h n (Xs hn),Zg2 (xs:=xs) fun n hn=>h n (Xu hn)]
def Agree (σ σ2:Za) (ts:List Nat):Prop:=∀ t ∈ ts,σ2[t]?=σ[t]?
theorem Agree.left {ts us:List Nat} (h:Agree σ σ2 (ts++us)):Agree σ σ2 ts:=fun t ht=>h t (by simp [ht])
theorem Agree.right {ts us:List Nat} (h:Agree σ σ2 (ts++us)):Agree σ σ2 us:=fun t ht=>h t (by simp [ht])
theorem Zer {a:AVal} {xs:List AVal} {ts:List Nat} (h:Zi σ a=some (xs,ts)) (hA:Agree σ σ2 ts):Zi σ2 a=some (xs,ts):=by
 unfold Zi at h ⊢
 split at h
 ·exact h
 ·exact h
 ·rename_i t g lo n
  have ht:t ∈ ts:=by
   split at h
   ·split at h
    ·simp only [Xa,Xb] at h;rw [<-h.2];simp
    ·cases h
   ·split at h
    ·simp only [Xa,Xb] at h;rw [<-h.2];simp
    ·cases h
   ·cases h
  rw [hA t ht]
  exact h
 ·cases h
theorem Zll {a y:AVal} {ts:List Nat} (h:Zbj σ a=some (y,ts)) (hA:Agree σ σ2 ts):Zbj σ2 a=some (y,ts):=by
 unfold Zbj at h ⊢
 split at h
 case h_2 =>
  split at h
  ·rename_i he
   simp only [Xa,Xb] at h
   obtain ⟨rfl,rfl⟩:=h
   rw [Zer he hA]
  ·cases h
 all_goals exact h
theorem Zlc:∀ {cs ys:List AVal} {ts:List Nat},ZbH σ cs=some (ys,ts)->Agree σ σ2 ts->ZbH σ2 cs=some (ys,ts)
 | [],ys,ts,h,_=>h
 | c::cs,ys,ts,h,hA=>by
  simp only [ZbH] at h ⊢
  split at h
  ·rename_i h1
   split at h
   ·rename_i h2
    simp only [Xa,Xb] at h
    obtain ⟨rfl,rfl⟩:=h
    rw [Zll h1 hA.left]
    simp only
    rw [Zlc h2 hA.right]
   ·cases h
  ·cases h
theorem Zv2 {a y:AVal} {ts:List Nat} (h:ZbI σ a=some (y,ts)) (hA:Agree σ σ2 ts):ZbI σ2 a=some (y,ts):=by
 unfold ZbI at h ⊢
 split at h
 ·split at h
  ·rename_i h1
   simp only [Xa,Xb] at h
   obtain ⟨rfl,rfl⟩:=h
   rw [Zlc h1 hA]
  ·cases h
 ·exact Zll h hA
theorem ZiP:∀ {cs ys:List AVal} {ts:List Nat},viewAs σ cs=some (ys,ts)->Agree σ σ2 ts->viewAs σ2 cs=some (ys,ts)
 | [],ys,ts,h,_=>h
 | c::cs,ys,ts,h,hA=>by
  simp only [viewAs] at h ⊢
  split at h
  ·rename_i h1
   split at h
   ·rename_i h2
    simp only [Xa,Xb] at h
    obtain ⟨rfl,rfl⟩:=h
    rw [Zv2 h1 hA.left]
    simp only
    rw [ZiP h2 hA.right]
   ·cases h
  ·cases h
theorem Zlq {a y:AVal} {ts:List Nat} (h:ZbV σ a=some (y,ts)) (hA:Agree σ σ2 ts):ZbV σ2 a=some (y,ts):=by
 unfold ZbV at h ⊢
 split at h
 case h_2 =>
  split at h
  ·rename_i he
   simp only [Xa,Xb] at h
   obtain ⟨rfl,rfl⟩:=h
   rw [Zer he hA]
  ·cases h
 all_goals exact h
theorem ZmZ:∀ {cs ys:List AVal} {ts:List Nat},ZbS σ cs=some (ys,ts)->Agree σ σ2 ts->ZbS σ2 cs=some (ys,ts)
 | [],ys,ts,h,_=>h
 | c::cs,ys,ts,h,hA=>by
  simp only [ZbS] at h ⊢
  split at h
  ·rename_i h1
   split at h
   ·rename_i h2
    simp only [Xa,Xb] at h
    obtain ⟨rfl,rfl⟩:=h
    rw [Zlq h1 hA.left]
    simp only
    rw [ZmZ h2 hA.right]
   ·cases h
  ·cases h
theorem Zsw {a y:AVal} {ts:List Nat} (h:showA σ a=some (y,ts)) (hA:Agree σ σ2 ts):showA σ2 a=some (y,ts):=by
 unfold showA at h ⊢
 split at h
 ·split at h
  ·rename_i h1
   simp only [Xa,Xb] at h
   obtain ⟨rfl,rfl⟩:=h
   rw [ZmZ h1 hA]
  ·cases h
 ·exact Zlq h hA
theorem Zid:∀ {cs ys:List AVal} {ts:List Nat},showAs σ cs=some (ys,ts)->Agree σ σ2 ts->showAs σ2 cs=some (ys,ts)
 | [],ys,ts,h,_=>h
 | c::cs,ys,ts,h,hA=>by
  simp only [showAs] at h ⊢
  split at h
  ·rename_i h1
   split at h
   ·rename_i h2
    simp only [Xa,Xb] at h
    obtain ⟨rfl,rfl⟩:=h
    rw [Zsw h1 hA.left]
    simp only
    rw [Zid h2 hA.right]
   ·cases h
  ·cases h
def ZaI (σ:Za) (s:Nat):Option Z0->Za
 | none=>σ
 | some b=>σ.set s b
def Zdh (σ:Za) (ts:List Nat):Prop:=∀ t ∈ ts,∃ x,σ[t]?=some x/\x≠.free
theorem Rowy.nonfree {ts:List Nat} (h:Rowy σ ts):Zdh σ ts:=by
 intro t ht
 obtain ⟨g,k,xs,h | h⟩:=h t ht
 ·exact ⟨_,h,by simp⟩
 ·exact ⟨_,h,by simp⟩
theorem Zca:Zdh σ []:=fun t ht=>by simp at ht
theorem ZjT {t:Nat} {x:Z0} (h:σ[t]?=some x) (hx:x≠.free):Zdh σ [t]:=fun t' ht=>by
 simp at ht;subst ht;exact ⟨x,h,hx⟩
def Framed (f:Za->Option (AVal×Za×Cls)) (σ:Za) (sq ns:Nat) (v:AVal) (σ':Za) (c:Cls):Prop :=
 ∃ ob,σ'=ZaI σ sq ob/\(ob.isSome=true->ns≠0)/\ob≠some .free/\Zdh σ c.rd/\∀ σ2,Agree σ σ2 c.rd->f σ2=some (v,ZaI σ2 sq ob,c)
theorem Framed.pure {f:Za->Option (AVal×Za×Cls)} {v:AVal} {c:Cls} {ns:Nat} (hr:c.rd=[]) (hf:∀ σ2,f σ2=some (v,σ2,c)):Framed f σ sq ns v σ c :=
 ⟨none,rfl,by simp,by simp,by rw [hr];exact Zca,fun σ2 _=>hf σ2⟩
theorem ZpG {kc:Nat} {z:AVal} {ok:Bool} {m k v:AVal} {c:Cls} {ns:Nat} (h:Zcz σ kc z ok m k=some (v,σ',c)):Framed (fun σ=>Zcz σ kc z ok m k) σ sq ns v σ' c:=by
 unfold Zcz at h
 split at h
 case isFalse=>cases h
 rename_i hk
 split at h
 ·simp only [Xa,Xb] at h
  obtain ⟨rfl,rfl,rfl⟩:=h
  exact Framed.pure rfl fun σ2=>by simp only [Zcz];rw [if_pos hk]
 ·rename_i t
  split at h
  case h_2=>cases h
  rename_i es hs
  have hnf:Zdh σ [t]:=fun u hu=>by rw [X9] at hu;subst hu;exact ⟨_,hs,by simp⟩
  split at h
  ·rename_i j y hf
   simp only [Xa,Xb] at h
   obtain ⟨rfl,rfl,rfl⟩:=h
   refine ⟨none,rfl,by simp,by simp,hnf,fun σ2 hA=>?_⟩
   have e2:σ2[t]?=some (.map es):=by rw [hA t (by simp)];exact hs
   simp only [Zcz,e2,hf,ZaI]
   rw [if_pos hk]
  ·rename_i hf
   simp only [Xa,Xb] at h
   obtain ⟨rfl,rfl,rfl⟩:=h
   refine ⟨none,rfl,by simp,by simp,hnf,fun σ2 hA=>?_⟩
   have e2:σ2[t]?=some (.map es):=by rw [hA t (by simp)];exact hs
   simp only [Zcz,e2,hf,ZaI]
   rw [if_pos hk]
  ·cases h
 ·cases h
theorem ZvT {m v:AVal} {c:Cls} {ns:Nat} (h:Zdf σ m=some (v,σ',c)):Framed (fun σ=>Zdf σ m) σ sq ns v σ' c:=by
 unfold Zdf at h
 split at h
 ·simp only [Xa,Xb] at h
  obtain ⟨rfl,rfl,rfl⟩:=h
  exact Framed.pure rfl fun σ2=>rfl
 ·rename_i t
  split at h
  case h_2=>cases h
  rename_i es hs
  simp only [Xa,Xb] at h
  obtain ⟨rfl,rfl,rfl⟩:=h
  refine ⟨none,rfl,by simp,by simp,fun u hu=>by rw [X9] at hu;subst hu;exact ⟨_,hs,by simp⟩,fun σ2 hA=>?_⟩
  have e2:σ2[t]?=some (.map es):=by rw [hA t (by simp)];exact hs
  simp only [Zdf,e2,ZaI]
 ·cases h
theorem ZvL {k:Option Nat} {a v:AVal} {c:Cls} {ns:Nat} (h:ldA σ k a=some (v,σ',c)):Framed (fun σ=>ldA σ k a) σ sq ns v σ' c:=by
 have h0:=h
 unfold ldA at h
 have fin:∀ t,σ'=σ->c.rd=[t]->(∃ x,σ[t]?=some x/\x≠.free)->(∀ σ2:Za,σ2[t]?=σ[t]?->ldA σ2 k a=(ldA σ k a).map fun p=>(p.1,σ2,p.2.2))->Framed (fun σ=>ldA σ k a) σ sq ns v σ' c:=by
  intro t e1 e2 ⟨x,hx,hne⟩ hf
  subst e1
  refine ⟨none,rfl,by simp,by simp,by rw [e2];exact ZjT hx hne,fun σ2 hA=>?_⟩
  rw [e2] at hA
  simp only
  rw [hf σ2 (hA t (by simp)),h0]
  rfl
 split at h
 ·rename_i t o
  split at h
  ·rename_i cs hs
   split at h
   ·rename_i v' hp
    simp only [Xa,Xb] at h
    obtain ⟨rfl,rfl,rfl⟩:=h
    exact fin t rfl rfl ⟨_,hs,by simp⟩ (fun σ2 h2=>by simp only [ldA,h2,hs,hp,XN])
   ·cases h
  ·cases h
 ·rename_i t g i o
  split at h
  ·rename_i g' kk xs hs
   split at h
   ·rename_i e
    split at h
    ·rename_i x hx
     split at h
     ·rename_i v' hp
      simp only [Xa,Xb] at h
      obtain ⟨rfl,rfl,rfl⟩:=h
      exact fin t rfl rfl ⟨_,hs,by simp⟩ (fun σ2 h2=>by simp only [ldA,h2,hs,e,if_true,hx,hp,XN])
     ·cases h
    ·cases h
   ·cases h
  ·rename_i g' kk xs hs
   split at h
   ·rename_i e
    split at h
    ·rename_i x hx
     split at h
     ·rename_i v' hp
      simp only [Xa,Xb] at h
      obtain ⟨rfl,rfl,rfl⟩:=h
      exact fin t rfl rfl ⟨_,hs,by simp⟩ (fun σ2 h2=>by simp only [ldA,h2,hs,e,if_true,hx,hp,XN])
     ·cases h
    ·cases h
   ·cases h
  ·rename_i g' kk xs hs
   split at h
   ·rename_i e
    split at h
    ·rename_i x hx
     split at h
     ·rename_i v' hp
      simp only [Xa,Xb] at h
      obtain ⟨rfl,rfl,rfl⟩:=h
      exact fin t rfl rfl ⟨_,hs,by simp⟩ (fun σ2 h2=>by simp only [ldA,h2,hs,e,if_true,hx,hp,XN])
     ·cases h
    ·cases h
   ·cases h
  ·cases h
 ·rename_i cs o
  split at h
  ·rename_i v' hp
   simp only [Xa,Xb] at h
   obtain ⟨rfl,rfl,rfl⟩:=h
   exact Framed.pure rfl (fun σ2=>by simp only [ldA,hp])
  ·cases h
 ·cases h
theorem ZvN {k:Nat} {x i v:AVal} {c:Cls} {ns:Nat} (h:Zbw σ k x i=some (v,σ',c)):Framed (fun σ=>Zbw σ k x i) σ sq ns v σ' c:=by
 have h0:=h
 unfold Zbw at h
 split at h
 case h_2=>cases h
 rename_i kk ii
 split at h
 case isFalse=>cases h
 rename_i hi
 split at h
 ·rename_i b xs
  split at h
  ·rename_i y hy
   split at h
   ·rename_i hk
    simp only [Xa,Xb] at h
    obtain ⟨rfl,rfl,rfl⟩:=h
    exact Framed.pure rfl (fun σ2=>by simp only [Zbw,hi,if_true,hy,hk])
   ·cases h
  ·cases h
 ·rename_i t g p n
  split at h
  case isFalse=>cases h
  rename_i hn
  have fin:σ'=σ->c.rd=[t]->(∃ x,σ[t]?=some x/\x≠.free)->Framed (fun σ=>Zbw σ k (.sl t g p n) (.int kk ii)) σ sq ns v σ' c:=by
   intro e1 e2 ⟨x,hx,hne⟩
   subst e1
   refine ⟨none,rfl,by simp,by simp,by rw [e2];exact ZjT hx hne,fun σ2 hA=>?_⟩
   rw [e2] at hA
   have h2:=hA t (by simp)
   simp only [Zbw,hi,if_true,hn] at h0 ⊢
   rw [h2]
   split at h0
   ·split at h0
    ·rename_i hc
     simp only [Xa,Xb] at h0
     obtain ⟨rfl,_,rfl⟩:=h0
     rename_i hs
     simp only [hs,hc,and_self,if_true]
     rfl
    ·cases h0
   ·split at h0
    ·rename_i hc
     simp only [Xa,Xb] at h0
     obtain ⟨rfl,_,rfl⟩:=h0
     rename_i hs
     simp only [hs,hc,and_self,if_true]
     rfl
    ·cases h0
   ·split at h0
    ·rename_i hc
     simp only [Xa,Xb] at h0
     obtain ⟨rfl,_,rfl⟩:=h0
     rename_i hs
     simp only [hs,hc,and_self,if_true]
     rfl
    ·cases h0
   ·cases h0
  split at h
  ·rename_i hs
   split at h
   ·simp only [Xa,Xb] at h
    exact fin h.2.1.symm (by rw [<-h.2.2]) ⟨_,hs,by simp⟩
   ·cases h
  ·rename_i hs
   split at h
   ·simp only [Xa,Xb] at h
    exact fin h.2.1.symm (by rw [<-h.2.2]) ⟨_,hs,by simp⟩
   ·cases h
  ·rename_i hs
   split at h
   ·simp only [Xa,Xb] at h
    exact fin h.2.1.symm (by rw [<-h.2.2]) ⟨_,hs,by simp⟩
   ·cases h
  ·cases h
 ·cases h
end
end
section
open Go.RowKit
section
variable {O:ZV} {bf:Nat->Bool} {tm tm':Tms} {σ σ' σ2:Za} {sq:Nat}
theorem Framed.one {f:Za->Option (AVal×Za×Cls)} {v:AVal} {c:Cls} {ns t:Nat} (hr:c.rd=[t]) (hn:∃ x,σ[t]?=some x/\x≠.free) (hf:∀ σ2:Za,σ2[t]?=σ[t]?->f σ2=some (v,σ2,c)):Framed f σ sq ns v σ c:=by
 obtain ⟨x,hx,hne⟩:=hn
 exact ⟨none,rfl,by simp,by simp,by rw [hr];exact ZjT hx hne,fun σ2 hA=>hf σ2 (hA t (by rw [hr];simp))⟩
theorem ZvU {k:Nat} {x v:AVal} {lo hi mx:Option AVal} {c:Cls} {ns:Nat} (h:Zbz σ k x lo hi mx=some (v,σ',c)) (hw:c.wr=[]):Framed (fun σ=>Zbz σ k x lo hi mx) σ sq ns v σ' c:=by
 unfold Zbz at h
 split at h
 ·rename_i b xs
  split at h
  ·cases h
  rename_i m hm
  split at h
  ·cases h
  rename_i h' hh
  split at h
  ·cases h
  rename_i l hl
  split at h
  case isFalse=>cases h
  rename_i hk0
  split at h
  ·rename_i hmx
   simp only [Xa,Xb] at h
   obtain ⟨rfl,rfl,rfl⟩:=h
   exact Framed.pure rfl (fun σ2=>by simp only [Zbz,hm,hh,hl,hk0,if_true,hmx])
  ·rename_i hmx
   simp only [Xa,Xb] at h
   obtain ⟨rfl,rfl,rfl⟩:=h
   exact Framed.pure rfl (fun σ2=>by simp only [Zbz,hm,hh,hl,hk0,if_true,hmx,if_false,Xw])
 ·rename_i t g p n
  split at h
  ·cases h
  rename_i els hels
  have hnf:∃ x,σ[t]?=some x/\x≠.free:=by
   simp only [Zi] at hels
   split at hels
   ·rename_i hs;exact ⟨_,hs,by simp⟩
   ·rename_i hs;exact ⟨_,hs,by simp⟩
   ·cases hels
  have hel2:∀ σ2:Za,σ2[t]?=σ[t]?->Zi σ2 (.sl t g p n)=some els:=by
   intro σ2 h2
   rw [<-hels]
   simp only [Zi,h2]
  split at h
  ·rename_i m0
   split at h
   ·rename_i q1 hq1
    split at h
    ·rename_i q2 hq2
     split at h
     ·rename_i q3 hq3
      simp only [Xa,Xb] at h
      obtain ⟨rfl,rfl,rfl⟩:=h
      exact Framed.one rfl hnf (fun σ2 h2=>by simp only [Zbz,hel2 σ2 h2,hq1,hq2,hq3])
     ·cases h
    ·cases h
   ·rename_i hq0
    split at h
    ·rename_i q1 hq1
     split at h
     ·rename_i q2 hq2
      split at h
      ·rename_i q3 hq3
       simp only [Xa,Xb] at h
       obtain ⟨rfl,rfl,rfl⟩:=h
       exact Framed.one rfl hnf (fun σ2 h2=>by simp only [Zbz,hel2 σ2 h2,hq0,hq1,hq2,hq3])
      ·cases h
     ·cases h
    ·cases h
  ·split at h
   ·rename_i g' k' xs hs
    split at h
    case isFalse=>cases h
    rename_i hkk
    split at h
    ·cases h
    rename_i h' hh
    split at h
    ·cases h
    rename_i l hl
    simp only [Xa,Xb] at h
    obtain ⟨rfl,rfl,rfl⟩:=h
    exact Framed.one rfl hnf (fun σ2 h2=>by simp only [Zbz,hel2 σ2 h2,h2,hs,hkk,if_true,hh,hl])
   ·rename_i g' k' xs hs
    split at h
    case isFalse=>cases h
    rename_i hkk
    split at h
    ·cases h
    rename_i h' hh
    split at h
    ·cases h
    rename_i l hl
    simp only [Xa,Xb] at h
    obtain ⟨rfl,rfl,rfl⟩:=h
    exact Framed.one rfl hnf (fun σ2 h2=>by simp only [Zbz,hel2 σ2 h2,h2,hs,hkk,if_true,hh,hl])
   ·cases h
 ·cases h
theorem ZzA {k bytes:Nat} {x y v:AVal} {c:Cls} (h:Zdg σ sq k bytes x y=some (v,σ',c)):c.any=true:=by
 unfold Zdg at h
 repeat' (split at h)
 all_goals first
  | (cases h;done)
  | (simp only [Xa,Xb] at h;rw [<-h.2.2])
theorem Zw5 {k bytes:Nat} {x y v:AVal} {c:Cls} (h:ZaM σ sq k bytes x y=some (v,σ',c)) (hw:c.wr=[]) (ha:c.any=false):Framed (fun σ=>ZaM σ sq k bytes x y) σ sq 1 v σ' c:=by
 unfold ZaM at h
 split at h
 ·rw [ZzA h] at ha;cases ha
 rename_i ys us he
 split at h
 case isFalse=>cases h
 rename_i hk
 have hnf:=(Zic he).nonfree
 split at h
 ·split at h
  ·rename_i hb
   simp only [Xa,Xb] at h
   obtain ⟨rfl,rfl,rfl⟩:=h
   refine ⟨some (.row 0 k ys),rfl,by simp,by simp,hnf,fun σ2 hA=>?_⟩
   simp only [ZaM,Zer he hA,hk,if_true,hb,ZaI]
  ·cases h
 ·rename_i x0 xs0
  split at h
  ·rename_i hb
   split at h
   ·simp only [Xa,Xb] at h
    obtain ⟨rfl,rfl,rfl⟩:=h
    refine ⟨none,rfl,by simp,by simp,hnf,fun σ2 hA=>?_⟩
    simp only [ZaM,Zer he hA,hk,if_true,ZaI]
    rw [if_pos hb]
   ·rename_i y0 ys0
    simp only [Xa,Xb] at h
    obtain ⟨rfl,rfl,rfl⟩:=h
    refine ⟨some (.row 0 k ((x0::xs0)++(y0::ys0))),rfl,by simp,by simp,hnf,fun σ2 hA=>?_⟩
    simp only [ZaM,Zer he hA,hk,if_true,ZaI]
    rw [if_pos hb]
  ·cases h
 ·split at h
  ·split at h
   ·split at h
    ·simp only [Xa,Xb] at h
     rw [<-h.2.2] at hw;simp at hw
    ·split at h
     ·simp only [Xa,Xb] at h
      rw [<-h.2.2] at hw;simp at hw
     ·cases h
   ·cases h
  ·cases h
 ·cases h
theorem Zms {σ:Za} {vs:List AVal} (h:Zf σ 1000 (Z3 vs) []=[]):Z3 vs=[]:=by
 cases e:Z3 vs with
 | nil=>rfl
 | cons t r =>
  rw [e] at h
  simp only [Zf,Xa8,Xw,if_false,List.nil_append] at h
  obtain ⟨_,r',hr⟩:=ZeI (σ:=σ) 999 (Zn (σ.getD t .free)++r) [t] (by simp)
  rw [hr] at h
  simp at h
theorem ZmQ {f own:Nat} {view:Bool} {args:List AVal} {v:AVal} {c:Cls} {ns:Nat} (hns:own=1->ns≠0) (h:ZR O bf σ sq f own view args=some (v,σ',c)) (hw:c.wr=[]) (ha:c.any=false):Framed (fun σ=>ZR O bf σ sq f own view args) σ sq ns v σ' c:=by
 unfold ZR at h
 split at h
 ·cases h
 rename_i xs ts hs
 have hnf:Zdh σ ts:=by
  unfold ZbZ at hs
  split at hs
  ·simp only [Xa,Xb] at hs
   rw [<-hs.2];exact Zca
  ·exact (ZgA hs).nonfree
 have hag:∀ σ2,Agree σ σ2 ts->ZbZ (bf f) σ2 args=some (xs,ts):=by
  intro σ2 hA
  unfold ZbZ at hs ⊢
  split at hs
  ·rename_i hb;rw [if_pos hb];exact hs
  ·rename_i hb;rw [if_neg hb];exact Zid hs hA
 generalize hids:Zf (ZT σ ts) 1000 (Z3 xs) []=ids at h
 unfold Zby at h
 split at h
 case isFalse=>cases h
 generalize hq:ZaX view ids.length (O f (ZX (Zd (ZT σ ts) 0 ids) xs) (Ze (ZT σ ts) 0 ids (Zd (ZT σ ts) 0 ids) ids 0))=q at h
 cases q with
 | none=>simp only [ZaJ] at h;cases h
 | some q =>
  obtain ⟨r,hp⟩:=q
  simp only [ZaJ] at h
  split at h
  ·rename_i hc
   simp only [Xr,Xaj] at hc
   obtain ⟨rfl,rfl⟩:=hc
   have hrl:=Zms hids
   have hrho:∀ σ:Za,Zd σ 0 []=fun _ _=>none:=fun σ=>by funext t g;simp [Zd,Zm]
   have hall:∀ σ2,Agree σ σ2 ts->ZR O bf σ2 sq f own view args=ZaJ σ2 (ZT σ2 ts) [] ts sq own (some (r,[])):=by
    intro σ2 hA
    unfold ZR
    rw [hag σ2 hA]
    simp only
    rw [hrl]
    have h0:Zf (ZT σ2 ts) 1000 [] []=[]:=rfl
    rw [h0]
    unfold Zby
    simp only [WW,if_true]
    rw [hrho]
    rw [hrho] at hq
    simp only [Ze] at hq ⊢
    rw [hq]
   split at h
   ·rename_i hf
    simp only [Xa,Xb] at h
    obtain ⟨rfl,rfl,rfl⟩:=h
    refine ⟨none,rfl,by simp,by simp,hnf,fun σ2 hA=>?_⟩
    simp only
    rw [hall σ2 hA]
    simp only [ZaJ,W1,Ww,if_true,hf,ZaI]
   split at h
   ·rename_i hf hap
    simp only [Xa,Xb] at h
    obtain ⟨rfl,rfl,rfl⟩:=h
    refine ⟨none,rfl,by simp,by simp,hnf,fun σ2 hA=>?_⟩
    have hap2:ZcH σ2 ts r=true:=by
     unfold ZcH at hap ⊢
     simp only [Xr] at hap ⊢
     refine ⟨hap.1,XB.2 fun t ht=>?_⟩
     have:=XB.1 hap.2 t ht
     unfold Zef at this ⊢
     rw [hA t ht];exact this
    simp only
    rw [hall σ2 hA]
    simp only [ZaJ,W1,Ww,if_true,hf,hap2,ZaI,if_false,Xw]
   ·rename_i hf hap
    simp only [Xa,Xb] at h
    obtain ⟨rfl,rfl,rfl⟩:=h
    simp only at hw
    subst hw
    refine ⟨none,rfl,by simp,by simp,hnf,fun σ2 hA=>?_⟩
    simp only
    rw [hall σ2 hA]
    simp only [ZaJ,W1,Ww,if_true,hf,ZaI,ZT,if_false,Xw,ZcH,W1,Bool.not_true,Bool.false_and]
  ·rename_i hne
   split at h
   ·rename_i lo n k xs' hcl
    have hcl0:=hcl
    split at hcl
    case isFalse=>cases hcl
    rename_i hid
    simp only [Xaj] at hid
    subst hid
    unfold ZfS at hcl
    split at hcl
    case h_2=>cases hcl
    split at hcl
    case isFalse=>cases hcl
    rename_i hcc
    simp only [Xr,decide_eq_true_eq] at hcc
    simp only [Xa,Xb] at hcl h
    obtain ⟨rfl,rfl,rfl,rfl⟩:=hcl
    obtain ⟨rfl,rfl,rfl⟩:=h
    have hrl:=Zms hids
    have hrho:∀ σ:Za,Zd σ 0 []=fun _ _=>none:=fun σ=>by funext t g;simp [Zd,Zm]
    refine ⟨some (.row 0 _ _),rfl,fun _=>hns hcc.1,by simp,hnf,fun σ2 hA=>?_⟩
    simp only
    unfold ZR
    rw [hag σ2 hA]
    simp only
    rw [hrl]
    have h0:Zf (ZT σ2 ts) 1000 [] []=[]:=rfl
    rw [h0]
    unfold Zby
    simp only [WW,if_true]
    rw [hrho]
    rw [hrho] at hq
    simp only [Ze] at hq ⊢
    rw [hq]
    simp only [ZaJ]
    rw [if_neg hne,hcl0]
    rfl
   split at h
   ·simp only [Xa,Xb] at h
    rw [<-h.2.2] at ha;simp at ha
   ·cases h
theorem Zb1 {x:Option AVal} {v:AVal} {c:Cls} (h:x.map (fun r=>(r,σ,({}:Cls)))=some (v,σ',c)):σ'=σ/\c={}/\x=some v:=by
 simp only [Xo,Xb] at h
 obtain ⟨a,h1,rfl,rfl,rfl⟩:=h
 exact ⟨rfl,rfl,h1⟩
theorem ZrX {ins : Ins} {v : AVal} {c : Cls} (h : execI O bf tm σ sq ins = some (v, σ', c)) (hw : c.wr = []) (ha : c.any = false) : Framed (fun σ => execI O bf tm σ sq ins) σ sq (nsite ins) v σ' c := by
  cases ins with
  | alloc zs =>
    simp only [execI, Xa, Xb] at h
    obtain ⟨rfl, rfl, rfl⟩ := h
    exact ⟨some (.var zs), rfl, by simp [nsite], by simp, Zca, fun σ2 _ => rfl⟩
  | box x =>
    simp only [execI] at h
    split at h
    . cases h
    . cases h
    . cases h
    . rename_i hne1 hne2 hne3
      simp only [Xa, Xb] at h
      obtain ⟨rfl, rfl, rfl⟩ := h
      refine ⟨some (.var (x.ev tm).cells), rfl, by simp [nsite], by simp, Zca, fun σ2 _ => ?_⟩
      simp only [execI, ZaI]
  | mkslice k b z x y =>
    simp only [execI] at h
    split at h
    . rename_i l c' e1 e2
      split at h
      . rename_i hc
        simp only [Xa, Xb] at h
        obtain ⟨rfl, rfl, rfl⟩ := h
        refine ⟨some (.row 0 k (XD c'.toNat z)), rfl, by simp [nsite], by simp, Zca, fun σ2 _ => ?_⟩
        simp only [execI, e1, e2, ZaI]
        try rw [if_pos hc]
      . cases h
    . cases h
  | bslice own k n z ps =>
    simp only [execI] at h
    split at h
    . cases h
    rename_i ys ts hv
    split at h
    case isFalse => cases h
    rename_i hc
    split at h
    . rename_i ho
      simp only [Xa, Xb] at h
      obtain ⟨rfl, rfl, rfl⟩ := h
      simp only at hw
      subst hw
      refine ⟨some (.row 0 k (((ps.map (·.1)).zip ys).foldl (fun l p => l.set p.1 p.2) (XD n z))), rfl, by simp [nsite, ho], by simp, Zca, fun σ2 hA => ?_⟩
      simp only [execI, ZiP hv hA, ZaI, ZT]
      rw [if_pos hc, if_pos ho]
    . rename_i ho
      simp only [Xa, Xb] at h
      obtain ⟨rfl, rfl, rfl⟩ := h
      simp only at hw
      subst hw
      refine ⟨none, rfl, by simp, by simp, Zca, fun σ2 hA => ?_⟩
      simp only [execI, ZiP hv hA, ZaI, ZT]
      rw [if_pos hc, if_neg ho]
  | rslice k n z ps =>
    simp only [execI] at h
    split at h
    case isFalse => cases h
    rename_i hc
    simp only [Xa, Xb] at h
    obtain ⟨rfl, rfl, rfl⟩ := h
    refine ⟨some (.rrow 0 k ((ps.map fun p => (p.1, p.2.ev tm)).foldl (fun l p => l.set p.1 p.2) (XD n z))), rfl, by simp [nsite], by simp, Zca, fun σ2 hA => ?_⟩
    simp only [execI, ZaI]
    rw [if_pos hc]
  | rng x =>
    simp only [execI] at h
    split at h
    . rename_i l e
      simp only [Xa, Xb] at h
      obtain ⟨rfl, rfl, rfl⟩ := h
      exact ⟨some (.siter l 0), rfl, by simp [nsite], by simp, Zca, fun σ2 _ => by simp only [execI, e, ZaI]⟩
    . cases h
  | mkmap =>
    simp only [execI, Xa, Xb] at h
    obtain ⟨rfl, rfl, rfl⟩ := h
    exact ⟨some (.map []), rfl, by simp [nsite], by simp, Zca, fun σ2 _ => rfl⟩
  | mkrow x =>
    simp only [execI] at h
    repeat' split at h
    all_goals first
      | (cases h; done)
      | (simp only [Xa, Xb] at h
         obtain ⟨_, _, rfl⟩ := h
         cases ha)
  | mkbook x =>
    simp only [execI] at h
    split at h
    . rename_i e
      simp only [Xa, Xb] at h
      obtain ⟨rfl, rfl, rfl⟩ := h
      exact ⟨some (.book 0 []), rfl, by simp [nsite], by simp, Zca, fun σ2 _ => by simp only [execI, e, ZaI]⟩
    . cases h
  | look kc z ok m k => simp only [execI] at h ⊢; exact ZpG h
  | mlen m => simp only [execI] at h ⊢; exact ZvT h
  | mset kc m k v =>
    simp only [execI] at h
    unfold ZeZ at h
    repeat' (split at h)
    all_goals first
      | (cases h; done)
      | (simp only [Xa, Xb] at h; rw [<- h.2.2] at hw; cases hw)
  | mdel kc m k =>
    simp only [execI] at h ⊢
    unfold ZdS at h
    split at h
    case isFalse => cases h
    rename_i hk
    split at h
    . rename_i e
      simp only [Xa, Xb] at h; obtain ⟨rfl, rfl, rfl⟩ := h
      refine Framed.pure rfl fun σ2 => ?_
      simp only [ZdS, e]
      rw [if_pos hk]
    . repeat' (split at h)
      all_goals first
        | (cases h; done)
        | (simp only [Xa, Xb] at h; rw [<- h.2.2] at hw; cases hw)
    . cases h
  | clr k z x =>
    simp only [execI] at h
    unfold Zt at h
    repeat' (split at h)
    all_goals first
      | (cases h; done)
      | (simp only [Xa, Xb] at h; rw [<- h.2.2] at hw; cases hw)
  | nxt x =>
    simp only [execI] at h
    repeat' (split at h)
    all_goals first
      | (cases h; done)
      | (simp only [Xa, Xb] at h; rw [<- h.2.2] at ha; cases ha)
  | ld k a => simp only [execI] at h ⊢; exact ZvL h
  | st k a x =>
    simp only [execI] at h
    unfold stA at h
    split at h
    . split at h
      . split at h
        . split at h
          . simp only [Xa, Xb] at h; rw [<- h.2.2] at hw; simp at hw
          . cases h
        . cases h
      . split at h
        . split at h
          . split at h
            . split at h
              . split at h
                . cases h
                . split at h
                  . simp only [Xa, Xb] at h; rw [<- h.2.2] at hw; simp at hw
                  . cases h
              . cases h
            . cases h
          . cases h
        . split at h
          . split at h
            . split at h
              . simp only [Xa, Xb] at h; rw [<- h.2.2] at hw; simp at hw
              . cases h
            . cases h
          . cases h
        . cases h
      . cases h
    . cases h
  | slice k x lo hi mx => simp only [execI] at h ⊢; exact ZvU h hw
  | iaddr k x i => simp only [execI] at h ⊢; exact ZvN h
  | app k b z x y => simp only [execI] at h ⊢; exact Zw5 h hw ha
  | b2s x =>
    simp only [execI] at h
    split at h
    . rename_i xs ts he
      split at h
      . rename_i l hl
        simp only [Xa, Xb] at h
        obtain ⟨rfl, rfl, rfl⟩ := h
        refine ⟨none, rfl, by simp, by simp, (Zic he).nonfree, fun σ2 hA => ?_⟩
        simp only [execI, Zer he hA, hl, ZaI]
      . cases h
    . cases h
  | s2s x =>
    simp only [execI] at h
    split at h
    . split at h
      . split at h
        . simp only [Xa, Xb] at h; rw [<- h.2.2] at hw; simp at hw
        . cases h
      . cases h
    . cases h
  | call f own vw xs => simp only [execI] at h ⊢; exact ZmQ (fun ho => by simp [nsite, ho]) h hw ha
  | callv x xs =>
    simp only [execI] at h
    split at h
    . rename_i f caps e
      have := ZmQ (ns := nsite (.callv x xs)) (fun ho => absurd ho (by decide)) h hw ha
      have he : (fun σ => execI O bf tm σ sq (.callv x xs)) = fun σ => ZR O bf σ sq (if f < 1000000 then f else f - 1000000) 4 false (if f < 1000000 then xs.map (·.ev tm) ++ caps else caps ++ xs.map (·.ev tm)) := by funext σ; simp only [execI, e]
      rw [he]; exact this
    . cases h
  | mki t x =>
    simp only [execI] at h
    split at h
    . cases h
    . cases h
    . cases h
    . simp only [Xa, Xb] at h; obtain ⟨rfl, rfl, rfl⟩ := h; exact Framed.pure rfl (fun σ2 => by simp only [execI])
  | panic x =>
    simp only [execI] at h
    split at h
    . rename_i e; simp only [Xa, Xb] at h; obtain ⟨rfl, rfl, rfl⟩ := h; exact Framed.pure rfl (fun σ2 => by simp only [execI, e])
    . cases h
  | eqv neg ks x y =>
    simp only [execI] at h
    split at h
    . rename_i e1 e2
      split at h
      . rename_i e4
        split at h
        . rename_i e3; simp only [Xa, Xb] at h; obtain ⟨rfl, rfl, rfl⟩ := h; exact Framed.pure rfl (fun σ2 => by simp only [execI, e1, e2, e3, e4, if_true])
        . cases h
      . cases h
    . cases h
  | ieq neg x y =>
    simp only [execI] at h
    split at h
    . rename_i e1 e2; simp only [Xa, Xb] at h; obtain ⟨rfl, rfl, rfl⟩ := h; exact Framed.pure rfl (fun σ2 => by simp only [execI, e1, e2])
    . rename_i e1 e2; simp only [Xa, Xb] at h; obtain ⟨rfl, rfl, rfl⟩ := h; exact Framed.pure rfl (fun σ2 => by simp only [execI, e1, e2])
    . rename_i e1 e2; simp only [Xa, Xb] at h; obtain ⟨rfl, rfl, rfl⟩ := h; exact Framed.pure rfl (fun σ2 => by simp only [execI, e1, e2])
    . cases h
  | mov x => simp only [execI, Xa, Xb] at h; obtain ⟨rfl, rfl, rfl⟩ := h; exact Framed.pure rfl (fun σ2 => rfl)
  | mkfn f xs => simp only [execI, Xa, Xb] at h; obtain ⟨rfl, rfl, rfl⟩ := h; exact Framed.pure rfl (fun σ2 => rfl)
  | bin op x y =>
    simp only [execI] at h
    obtain ⟨rfl, rfl, hx⟩ := Zb1 h
    exact Framed.pure rfl (fun σ2 => by simp only [execI, hx, XN])
  | un op x =>
    simp only [execI] at h
    obtain ⟨rfl, rfl, hx⟩ := Zb1 h
    exact Framed.pure rfl (fun σ2 => by simp only [execI, hx, XN])
  | faddr off x =>
    simp only [execI] at h
    obtain ⟨rfl, rfl, hx⟩ := Zb1 h
    exact Framed.pure rfl (fun σ2 => by simp only [execI, hx, XN])
  | pick a b d =>
    simp only [execI] at h
    unfold ZdH at h
    split at h
    . rename_i e; simp only [Xa, Xb] at h; obtain ⟨rfl, rfl, rfl⟩ := h; exact Framed.pure rfl (fun σ2 => by simp only [execI, ZdH, e])
    . rename_i e; simp only [Xa, Xb] at h; obtain ⟨rfl, rfl, rfl⟩ := h; exact Framed.pure rfl (fun σ2 => by simp only [execI, ZdH, e])
    . cases h
  | build zs ps =>
    simp only [execI] at h
    split at h
    . rename_i cs hf
      simp only [Xa, Xb] at h; obtain ⟨rfl, rfl, rfl⟩ := h
      exact Framed.pure rfl (fun σ2 => by simp only [execI, hf])
    . cases h
  | i2i k x =>
    simp only [execI] at h
    split at h
    . rename_i e; simp only [Xa, Xb] at h; obtain ⟨rfl, rfl, rfl⟩ := h; exact Framed.pure rfl (fun σ2 => by simp only [execI, e])
    . cases h
  | i2s x =>
    simp only [execI] at h
    split at h
    . rename_i e; simp only [Xa, Xb] at h; obtain ⟨rfl, rfl, rfl⟩ := h; exact Framed.pure rfl (fun σ2 => by simp only [execI, e])
    . cases h
  | same x =>
    simp only [execI] at h
    split at h
    . rename_i e; simp only [Xa, Xb] at h; obtain ⟨rfl, rfl, rfl⟩ := h; exact Framed.pure rfl (fun σ2 => by simp only [execI, e])
    . cases h
  | s2b x =>
    simp only [execI] at h
    split at h
    . rename_i e; simp only [Xa, Xb] at h; obtain ⟨rfl, rfl, rfl⟩ := h; exact Framed.pure rfl (fun σ2 => by simp only [execI, e])
    . cases h
  | sslice x lo hi =>
    simp only [execI] at h
    split at h
    . rename_i s e
      split at h
      . cases h
      rename_i h1 hh
      split at h
      . cases h
      rename_i l hl
      simp only [Xa, Xb] at h; obtain ⟨rfl, rfl, rfl⟩ := h
      exact Framed.pure rfl (fun σ2 => by simp only [execI, e, hh, hl])
    . cases h
  | field k off x =>
    simp only [execI] at h
    split at h
    . rename_i cs e
      obtain ⟨rfl, rfl, hx⟩ := Zb1 h
      exact Framed.pure rfl (fun σ2 => by simp only [execI, e, hx, XN])
    . cases h
  | aaddr k n x i =>
    simp only [execI] at h
    split at h
    . rename_i e
      split at h
      . rename_i hc
        obtain ⟨rfl, rfl, hx⟩ := Zb1 h
        exact Framed.pure rfl (fun σ2 => by simp only [execI, e]; rw [if_pos hc, hx]; rfl)
      . cases h
    . cases h
  | sindex x i =>
    simp only [execI] at h
    split at h
    . rename_i e1 e2
      split at h
      . rename_i hc
        simp only [Xo, Xb] at h
        obtain ⟨b, hb, rfl, rfl, rfl⟩ := h
        exact Framed.pure rfl (fun σ2 => by simp only [execI, e1, e2]; rw [if_pos hc, hb]; rfl)
      . cases h
    . cases h
  | aindex s k n x i =>
    simp only [execI] at h
    split at h
    . rename_i e1 e2
      split at h
      . rename_i hc
        obtain ⟨rfl, rfl, hx⟩ := Zb1 h
        exact Framed.pure rfl (fun σ2 => by simp only [execI, e1, e2]; rw [if_pos hc, hx]; rfl)
      . cases h
    . cases h
  | ext x i =>
    simp only [execI] at h
    split at h
    . rename_i e
      obtain ⟨rfl, rfl, hx⟩ := Zb1 h
      exact Framed.pure rfl (fun σ2 => by simp only [execI, e, hx, XN])
    . cases h
  | len x =>
    simp only [execI] at h
    split at h
    . rename_i e; simp only [Xa, Xb] at h; obtain ⟨rfl, rfl, rfl⟩ := h; exact Framed.pure rfl (fun σ2 => by simp only [execI, e])
    . rename_i e; simp only [Xa, Xb] at h; obtain ⟨rfl, rfl, rfl⟩ := h; exact Framed.pure rfl (fun σ2 => by simp only [execI, e])
    . cases h
  | slen x =>
    simp only [execI] at h
    split at h
    . rename_i e; simp only [Xa, Xb] at h; obtain ⟨rfl, rfl, rfl⟩ := h; exact Framed.pure rfl (fun σ2 => by simp only [execI, e])
    . cases h
  | mm m xs =>
    simp only [execI] at h
    split at h
    . rename_i e; simp only [Xa, Xb] at h; obtain ⟨rfl, rfl, rfl⟩ := h; exact Framed.pure rfl (fun σ2 => by simp only [execI, e])
    . cases h
  | nilchk x =>
    simp only [execI] at h
    split at h
    . rename_i e; simp only [Xa, Xb] at h; obtain ⟨rfl, rfl, rfl⟩ := h; exact Framed.pure rfl (fun σ2 => by simp only [execI, e])
    . rename_i e; simp only [Xa, Xb] at h; obtain ⟨rfl, rfl, rfl⟩ := h; exact Framed.pure rfl (fun σ2 => by simp only [execI, e])
    . rename_i e; simp only [Xa, Xb] at h; obtain ⟨rfl, rfl, rfl⟩ := h; exact Framed.pure rfl (fun σ2 => by simp only [execI, e])
    . cases h
  | beq neg x y =>
    simp only [execI] at h
    split at h
    . rename_i e1 e2; simp only [Xa, Xb] at h; obtain ⟨rfl, rfl, rfl⟩ := h; exact Framed.pure rfl (fun σ2 => by simp only [execI, e1, e2])
    . cases h
  | peq neg x y =>
    simp only [execI] at h
    split at h
    . rename_i e1 e2; simp only [Xa, Xb] at h; obtain ⟨rfl, rfl, rfl⟩ := h; exact Framed.pure rfl (fun σ2 => by simp only [execI, e1, e2])
    . rename_i e1 e2; simp only [Xa, Xb] at h; obtain ⟨rfl, rfl, rfl⟩ := h; exact Framed.pure rfl (fun σ2 => by simp only [execI, e1, e2])
    . rename_i e1 e2; simp only [Xa, Xb] at h; obtain ⟨rfl, rfl, rfl⟩ := h; exact Framed.pure rfl (fun σ2 => by simp only [execI, e1, e2])
    . cases h
theorem ZsF {ins:Ins} {v:AVal} {c:Cls} (ht:ins.touches=false) (h:execI O bf tm σ sq ins=some (v,σ',c)):c={}/\nsite ins=0:=by
 cases ins <;> simp [Ins.touches] at ht <;> refine ⟨?_,rfl⟩ <;> simp only [execI] at h
 case mov x=>simp only [Xa,Xb] at h;exact h.2.2.symm
 case mkfn f xs=>simp only [Xa,Xb] at h;exact h.2.2.symm
 case bin op x y=>exact (Zb1 h).2.1
 case un op x=>exact (Zb1 h).2.1
 case faddr off x=>exact (Zb1 h).2.1
 case pick c x y =>
  unfold ZdH at h
  split at h
  ·simp only [Xa,Xb] at h;exact h.2.2.symm
  ·simp only [Xa,Xb] at h;exact h.2.2.symm
  ·cases h
 all_goals
  repeat' (split at h)
  all_goals first
   | (cases h;done)
   | (simp only [Xa,Xb] at h;exact h.2.2.symm)
   | exact (Zb1 h).2.1
   | (simp only [Xo,Xb] at h;obtain ⟨_,_,_,_,h⟩:=h;exact h.symm)
theorem Zoo {ins:Ins} {v:AVal} {c:Cls} (ht:ins.touches=false) (h:execI O bf tm σ sq ins=some (v,σ',c)):σ'=σ:=by
 cases ins <;> simp [Ins.touches] at ht <;> simp only [execI] at h
 case mov x=>simp only [Xa,Xb] at h;exact h.2.1.symm
 case mkfn f xs=>simp only [Xa,Xb] at h;exact h.2.1.symm
 case bin op x y=>exact (Zb1 h).1
 case un op x=>exact (Zb1 h).1
 case faddr off x=>exact (Zb1 h).1
 case pick c x y =>
  unfold ZdH at h
  split at h
  ·simp only [Xa,Xb] at h;exact h.2.1.symm
  ·simp only [Xa,Xb] at h;exact h.2.1.symm
  ·cases h
 all_goals
  repeat' (split at h)
  all_goals first
   | (cases h;done)
   | (simp only [Xa,Xb] at h;exact h.2.1.symm)
   | exact (Zb1 h).1
   | (simp only [Xo,Xb] at h;obtain ⟨_,_,_,h,_⟩:=h;exact h.symm)
end
end
section
open Go.RowKit
section
variable {O:ZV} {bf:Nat->Bool} {tm:Tms} {σ σ':Za} {sq s:Nat} {b:Z0}
theorem ZdX:∀ (ts:List Nat) (σ:Za),(ZT σ ts)[s]?=some .free↔σ[s]?=some .free
 | [],σ=>Iff.rfl
 | t::ts,σ=>by
  simp only [ZT]
  split
  ·rename_i g k xs hs
   rw [ZdX ts,Xq]
   split
   ·rename_i e;subst e
    split
    ·simp [hs]
    ·simp [hs]
   ·exact Iff.rfl
  ·exact ZdX ts σ
theorem Zjl {cs:List AVal} {t:Nat}:∀ (ts:List Nat) (σ:Za),σ[t]?=some (.var cs)->(ZT σ ts)[t]?=some (.var cs)
 | [],σ,h=>h
 | u::ts,σ,h=>by
  simp only [ZT]
  split
  ·rename_i g k xs hs
   refine Zjl ts _ ?_
   rw [Xq]
   split
   ·rename_i e;subst e;rw [hs] at h;cases h
   ·exact h
  ·exact Zjl ts σ h
theorem Zi8:∀ (ts:List Nat) (σ:Za),s ∉ ts->ZT (σ.set s b) ts=(ZT σ ts).set s b
 | [],σ,_=>rfl
 | t::ts,σ,h=>by
  simp only [XC,not_or] at h
  have e:(σ.set s b)[t]?=σ[t]?:=by rw [Xq,if_neg h.1]
  simp only [ZT,e]
  split
  ·rw [W7 _ _ h.1,Zi8 ts _ h.2]
  ·exact Zi8 ts σ h.2
theorem Zep {t:Nat} (h:s≠t):(σ.set s b).getD t .free=σ.getD t .free:=by
 rw [Xi,Xi,Xq,if_neg h]
theorem ZiQ:∀ (n:Nat) (todo acc:List Nat),∀ x ∈ acc,x ∈ Zf σ n todo acc
 | 0,_,acc,x,h=>h
 | n+1,[],acc,x,h=>h
 | n+1,t::todo,acc,x,h=>by
  simp only [Zf]
  split
  ·exact ZiQ n todo acc x h
  ·exact ZiQ n _ _ x (by simp [h])
theorem Zj1:∀ (n:Nat) (todo acc:List Nat),s ∉ Zf σ n todo acc->Zf (σ.set s b) n todo acc=Zf σ n todo acc
 | 0,_,acc,_=>rfl
 | n+1,[],acc,_=>rfl
 | n+1,t::todo,acc,h=>by
  simp only [Zf] at h ⊢
  split
  ·rename_i hc;rw [if_pos hc] at h;exact Zj1 n todo acc h
  ·rename_i hc
   rw [if_neg hc] at h
   have hne:s≠t:=by
    rintro rfl
    exact h (ZiQ n _ _ s (by simp))
   rw [Zep hne]
   exact Zj1 n _ _ h
theorem Zvo {m:Nat} {ids:List Nat} (h:s ∉ ids):Zd (σ.set s b) m ids=Zd σ m ids:=by
 funext t g
 unfold Zd
 split
 ·rename_i j hj
  obtain ⟨k,_,hk⟩:=Zjp hj
  have : s≠t:=by rintro rfl;exact h (Xv hk)
  rw [Xq,if_neg this]
 ·rfl
theorem Zlm {m:Nat} {ids:List Nat} {ρ:Rho}:∀ (ts:List Nat) (j:Nat),s ∉ ts->Ze (σ.set s b) m ids ρ ts j=Ze σ m ids ρ ts j
 | [],_,_=>rfl
 | t::ts,j,h=>by
  simp only [XC,not_or] at h
  simp only [Ze,Zep h.1,Zlm ts (j+1) h.2]
theorem Zng {ids:List Nat} (h:s ∉ ids):∀ (hp:Za) (j:Nat),Za3 (σ.set s b) ids hp j=Za3 σ ids hp j
 | [],_=>rfl
 | x::xs,j=>by
  simp only [Za3,Zng h xs (j+1)]
  congr 2
  split
  ·rename_i t ht
   have : s≠t:=by rintro rfl;exact h (Xv ht)
   rw [Zep this]
  ·rfl
theorem Zmc:∀ (n sq:Nat),(∀ i,i < n->sq+i≠s)->Z8 (σ.set s b) sq n=Z8 σ sq n
 | 0,_,_=>rfl
 | n+1,sq,h=>by
  have h0:=h 0 (by omega)
  simp only [Z8,freeAt]
  rw [Xq,if_neg (by intro e;exact h0 (by simpa using e.symm)),Zmc n (sq+1) (fun i hi=>by have:=h (i+1) (by omega);rwa [show sq+1+i=sq+(i+1) by omega])]
theorem ZmR {ids:List Nat} (h:s ∉ ids):ZaL (σ.set s b) ids sq=ZaL σ ids sq:=by
 funext j g
 unfold ZaL
 split
 ·rename_i t ht
  have : s≠t:=by rintro rfl;exact h (Xv ht)
  rw [Zep this]
 ·rfl
theorem ZkD {σ0:Za} {ids:List Nat} (h:s ∉ ids):∀ (hp:Za) (j:Nat) (σ:Za),(∀ i,i < hp.length->ZaH ids sq (j+i)≠s)->ZaT (σ0.set s b) ids sq hp j (σ.set s b)=(ZaT σ0 ids sq hp j σ).set s b
 | [],_,_,_=>rfl
 | x::xs,j,σ,hn=>by
  have h0:=hn 0 (by simp)
  simp only [XU] at h0
  have eg:Zbn (σ0.set s b) ids j x=Zbn σ0 ids j x:=by
   unfold Zbn
   split
   ·rename_i t ht
    have : s≠t:=by rintro rfl;exact h (Xv ht)
    rw [Zep this]
   ·rfl
  simp only [ZaT,ZmR h,eg]
  rw [W7 _ _ (Ne.symm h0)]
  exact ZkD h xs (j+1) _ (fun i hi=>by have:=hn (i+1) (by simp;omega);rwa [show j+1+i=j+(i+1) by omega])
theorem ZlZ:∀ (ids:List Nat),s ∉ ids->Zbx (σ.set s b) ids=Zbx σ ids
 | [],_=>rfl
 | t::ts,h=>by
  simp only [XC,not_or] at h
  simp only [Zbx,Xq,if_neg h.1,ZlZ ts h.2]
theorem ZnE {ρ:Rho} {g:Nat} {x:Z0} (h:okB x=true):Zg ρ g x≠.free:=by
 cases x <;> simp [okB] at h <;> simp [Zg]
theorem ZiD {σ0:Za} {ids:List Nat}:∀ (hp:Za) (j:Nat) (σ:Za),Za3 σ0 ids hp j=true->(ZaT σ0 ids sq hp j σ)[s]?=some .free->σ[s]?=some .free
 | [],_,_,_,h=>h
 | x::xs,j,σ,hk,h=>by
  simp only [Za3,Xr] at hk
  simp only [ZaT] at h
  have:=ZiD xs (j+1) _ hk.2 h
  rw [Xq] at this
  split at this
  ·split at this
   ·injection this with this;exact absurd this (ZnE hk.1.1)
   ·cases this
  ·exact this
theorem ZpM {ts:List Nat} (h:Zdh σ ts) (hs:σ[s]?=some .free):s ∉ ts:=by
 intro hm
 obtain ⟨x,hx,hne⟩:=h s hm
 rw [hs] at hx;injection hx with hx;exact hne hx.symm
theorem Zlo {f own:Nat} {view:Bool} {args:List AVal} {v:AVal} {c:Cls} (h:ZR O bf σ sq f own view args=some (v,σ',c)) (hs':σ'[s]?=some .free) (hne:∀ i,i < own->sq+i≠s) :
  σ[s]?=some .free/\ZR O bf (σ.set s b) sq f own view args=some (v,σ'.set s b,c):=by
 unfold ZR at h
 split at h
 ·cases h
 rename_i xs ts hsh
 have hnf:Zdh σ ts:=by
  unfold ZbZ at hsh
  split at hsh
  ·simp only [Xa,Xb] at hsh
   rw [<-hsh.2];exact Zca
  ·exact (ZgA hsh).nonfree
 have hag:∀ σ2,Agree σ σ2 ts->ZbZ (bf f) σ2 args=some (xs,ts):=by
  intro σ2 hA
  unfold ZbZ at hsh ⊢
  split at hsh
  ·rename_i hb;rw [if_pos hb];exact hsh
  ·rename_i hb;rw [if_neg hb];exact Zid hsh hA
 generalize hids:Zf (ZT σ ts) 1000 (Z3 xs) []=ids at h
 unfold Zby at h
 split at h
 case isFalse=>cases h
 rename_i hall
 generalize hq:ZaX view ids.length (O f (ZX (Zd (ZT σ ts) 0 ids) xs) (Ze (ZT σ ts) 0 ids (Zd (ZT σ ts) 0 ids) ids 0))=q at h
 have key:σ[s]?=some .free->s ∉ ts/\s ∉ ids/\ZR O bf (σ.set s b) sq f own view args=ZaJ (σ.set s b) ((ZT σ ts).set s b) ids ts sq own q:=by
  intro hs
  have n1:=ZpM hnf hs
  have hsf:(ZT σ ts)[s]?=some .free:=(ZdX ts σ).2 hs
  have n2:s ∉ ids:=by
   intro hm
   have:=XB.1 hall s hm
   rw [Xi,hsf] at this
   simp [okB] at this
  refine ⟨n1,n2,?_⟩
  unfold ZR
  rw [hag _ (fun t ht=>by rw [Xq,if_neg (by rintro rfl;exact n1 ht)])]
  simp only
  rw [Zi8 ts σ n1,Zj1 _ _ _ (by rw [hids];exact n2),hids]
  unfold Zby
  have hall2:(ids.all fun t=>okB (((ZT σ ts).set s b).getD t .free))=true:=by
   rw [XB] at hall ⊢
   intro t ht
   rw [Zep (by rintro rfl;exact n2 ht)]
   exact hall t ht
  rw [if_pos hall2,Zvo n2,Zlm ids 0 n2,hq]
 cases q with
 | none=>simp only [ZaJ] at h;cases h
 | some q =>
  obtain ⟨r,hp⟩:=q
  simp only [ZaJ] at h
  split at h
  ·rename_i hc
   split at h
   ·rename_i hf
    simp only [Xa,Xb] at h
    obtain ⟨rfl,rfl,rfl⟩:=h
    obtain ⟨n1,n2,k⟩:=key hs'
    refine ⟨hs',?_⟩
    rw [k]
    simp only [ZaJ,hc,if_true,hf]
   split at h
   ·rename_i hf hap
    simp only [Xa,Xb] at h
    obtain ⟨rfl,rfl,rfl⟩:=h
    obtain ⟨n1,n2,k⟩:=key hs'
    refine ⟨hs',?_⟩
    have hap2:ZcH (σ.set s b) ts r=true:=by
     unfold ZcH at hap ⊢
     simp only [Xr] at hap ⊢
     refine ⟨hap.1,XB.2 fun t ht=>?_⟩
     have:=XB.1 hap.2 t ht
     unfold Zef at this ⊢
     rw [Xq,if_neg (by rintro rfl;exact n1 ht)];exact this
    rw [k]
    simp only [ZaJ,hc,if_true,hf,hap2,if_false,Xw]
   ·rename_i hf hap
    simp only [Xa,Xb] at h
    obtain ⟨rfl,rfl,rfl⟩:=h
    have hs:=(ZdX ts σ).1 hs'
    obtain ⟨n1,n2,k⟩:=key hs
    refine ⟨hs,?_⟩
    have hap2:¬ZcH (σ.set s b) ts r=true:=by
     intro h2
     refine hap ?_
     unfold ZcH at h2 ⊢
     simp only [Xr] at h2 ⊢
     refine ⟨h2.1,XB.2 fun t ht=>?_⟩
     have:=XB.1 h2.2 t ht
     unfold Zef at this ⊢
     rw [Xq,if_neg (by rintro rfl;exact n1 ht)] at this;exact this
    rw [k]
    simp only [ZaJ,hc,if_true,hf,if_neg hap2,if_false,Xw]
  ·rename_i hc
   split at h
   ·rename_i lo n k xs' hcl
    simp only [Xa,Xb] at h
    obtain ⟨rfl,rfl,rfl⟩:=h
    have hown:own=1:=by
     split at hcl
     case isFalse=>cases hcl
     unfold ZfS at hcl
     split at hcl
     case h_2=>cases hcl
     split at hcl
     case isFalse=>cases hcl
     rename_i hcc
     simp only [Xr,decide_eq_true_eq] at hcc
     exact hcc.1
    have hns:sq≠s:=by have:=hne 0 (by omega);simpa using this
    have hs:σ[s]?=some .free:=by rwa [Xq,if_neg hns] at hs'
    obtain ⟨n1,n2,kk⟩:=key hs
    refine ⟨hs,?_⟩
    rw [kk]
    simp only [ZaJ]
    rw [if_neg hc,hcl]
    simp only
    rw [W7 _ _ (Ne.symm hns)]
   split at h
   ·rename_i hcl hcc
    simp only [Xa,Xb] at h
    obtain ⟨rfl,rfl,rfl⟩:=h
    simp only [Xr,decide_eq_true_eq] at hcc
    obtain ⟨⟨⟨c1,c2⟩,c3⟩,c4⟩:=hcc
    have hs:=(ZdX ts σ).1 (ZiD hp 0 _ c3 hs')
    obtain ⟨n1,n2,kk⟩:=key hs
    refine ⟨hs,?_⟩
    rw [kk]
    have htg:∀ i,i < hp.length->ZaH ids sq (0+i)≠s:=by
     intro i hi e
     rw [XF] at e
     unfold ZaH at e
     rw [Xi] at e
     rcases Xaf i ids.length with hl | hl
     ·rw [Xe hl] at e
      simp only [WS] at e
      exact n2 (e ▸ WB hl)
     ·rw [XS hl] at e
      exact hne (i - ids.length) (by omega) e
    simp only [ZaJ]
    rw [if_neg hc,hcl]
    simp only [c1,c2,decide_true,Bool.true_and,Zng n2,c3,Zmc own sq hne,c4,Ww,if_true,ZmR n2,ZkD n2 hp 0 _ htg,ZlZ ids n2]
   ·cases h
theorem ZtM {f own:Nat} {view:Bool} {args:List AVal} {v:AVal} {c:Cls} (h:ZR O bf σ sq f own view args=some (v,σ',c)) (hs:σ'[s]?=some .free):σ[s]?=some .free:=by
 unfold ZR at h
 split at h
 ·cases h
 rename_i xs ts hsh
 unfold Zby at h
 split at h
 case isFalse=>cases h
 generalize Zf (ZT σ ts) 1000 (Z3 xs) []=ids at h
 generalize ZaX view ids.length (O f (ZX (Zd (ZT σ ts) 0 ids) xs) (Ze (ZT σ ts) 0 ids (Zd (ZT σ ts) 0 ids) ids 0))=q at h
 cases q with
 | none=>simp only [ZaJ] at h;cases h
 | some q =>
  obtain ⟨r,hp⟩:=q
  simp only [ZaJ] at h
  split at h
  ·split at h
   ·simp only [Xa,Xb] at h
    rw [h.2.1];exact hs
   split at h
   ·simp only [Xa,Xb] at h
    rw [h.2.1];exact hs
   ·simp only [Xa,Xb] at h
    rw [<-h.2.1] at hs
    exact (ZdX ts σ).1 hs
  ·split at h
   ·simp only [Xa,Xb] at h
    rw [<-h.2.1,Xq] at hs
    split at hs
    ·split at hs <;> simp at hs
    ·exact hs
   split at h
   ·rename_i hcc
    simp only [Xa,Xb] at h
    rw [<-h.2.1] at hs
    simp only [Xr,decide_eq_true_eq] at hcc
    exact (ZdX ts σ).1 (ZiD hp 0 _ hcc.1.2 hs)
   ·cases h
theorem ZiN {t:Nat} {cs:List AVal}:∀ {ids:List Nat},(Zbx σ ids).lookup t=some cs->σ[t]?=some (.var cs)
 | [],h=>by simp [Zbx] at h
 | u::us,h=>by
  simp only [Zbx] at h
  split at h
  ·rename_i cs' hu
   rw [Xbd] at h
   split at h
   ·rename_i e
    injection h with h;subst h
    have : t=u:=by simpa using e
    rw [this];exact hu
   ·exact ZiN h
  ·exact ZiN h
theorem ZgZ {t:Nat} {cs:List AVal}:∀ {ids:List Nat},(Zbx σ ids).lookup t=none->t ∈ ids->σ[t]?≠some (.var cs)
 | u::us,h,hm=>by
  intro hv
  simp only [Zbx] at h
  rcases XC.1 hm with e | hm
  ·subst e
   rw [hv] at h
   simp only [Xbd,beq_self_eq_true] at h
   cases h
  ·split at h
   ·rw [Xbd] at h
    split at h
    ·cases h
    ·exact ZgZ h hm hv
   ·exact ZgZ h hm hv
theorem ZkY {σ0:Za} {ids:List Nat} {t:Nat}:∀ (hp:Za) (j:Nat) (σ:Za),(∀ i x,hp[i]?=some x->ZaH ids sq (j+i)=t->∃ cs,x=.var cs)->(∃ cs,σ[t]?=some (.var cs))->∃ cs,(ZaT σ0 ids sq hp j σ)[t]?=some (.var cs)
 | [],_,_,_,h=>h
 | x::xs,j,σ,hv,⟨cs,h⟩=>by
  simp only [ZaT]
  refine ZkY xs (j+1) _ (fun i y hy e=>hv (i+1) y (by simpa using hy) (by rwa [show j+(i+1)=j+1+i by omega])) ?_
  rw [Xq]
  split
  ·rename_i e
   obtain ⟨cs',rfl⟩:=hv 0 x rfl (by simpa using e)
   split
   ·exact ⟨_,rfl⟩
   ·rename_i hl
    rw [e] at hl
    rw [XS (by omega)] at h;cases h
  ·exact ⟨cs,h⟩
theorem ZqN {f own:Nat} {view:Bool} {args:List AVal} {v:AVal} {c:Cls} (h:ZR O bf σ sq f own view args=some (v,σ',c)) (ha:c.any=true) {t:Nat} {cs:List AVal} (ht:σ[t]?=some (.var cs)) :
  (c.upd.lookup t=none->σ'[t]?=some (.var cs))/\(∀ cs2,c.upd.lookup t=some cs2->σ'[t]?=some (.var cs2)):=by
 unfold ZR at h
 split at h
 ·cases h
 rename_i xs ts hsh
 generalize hids:Zf (ZT σ ts) 1000 (Z3 xs) []=ids at h
 unfold Zby at h
 split at h
 case isFalse=>cases h
 generalize ZaX view ids.length (O f (ZX (Zd (ZT σ ts) 0 ids) xs) (Ze (ZT σ ts) 0 ids (Zd (ZT σ ts) 0 ids) ids 0))=q at h
 cases q with
 | none=>simp only [ZaJ] at h;cases h
 | some q =>
  obtain ⟨r,hp⟩:=q
  simp only [ZaJ] at h
  split at h
  ·split at h
   ·simp only [Xa,Xb] at h
    rw [<-h.2.2] at ha;cases ha
   split at h
   ·simp only [Xa,Xb] at h
    rw [<-h.2.2] at ha;cases ha
   ·simp only [Xa,Xb] at h
    rw [<-h.2.2] at ha;cases ha
  ·split at h
   ·simp only [Xa,Xb] at h
    rw [<-h.2.2] at ha;cases ha
   split at h
   ·rename_i hcc
    simp only [Xa,Xb] at h
    obtain ⟨_,rfl,rfl⟩:=h
    simp only [Xr,decide_eq_true_eq] at hcc
    obtain ⟨⟨⟨c1,c2⟩,c3⟩,c4⟩:=hcc
    have hf:=Zjl ts σ ht
    refine ⟨fun hn=>?_,fun cs2 hc2=>ZiN hc2⟩
    have tgt:∀ i,i < hp.length->ZaH ids sq (0+i)=t->i < ids.length/\ids[i]?=some t:=by
     intro i hi e
     rw [XF] at e
     unfold ZaH at e
     rw [Xi] at e
     rcases Xaf i ids.length with hl | hl
     ·rw [Xe hl] at e ⊢
      simp only [WS] at e
      exact ⟨hl,by rw [e]⟩
     ·rw [XS hl] at e
      simp only [XaO] at e
      have:=ZdZ c4 (i:=i - ids.length) (by omega)
      rw [e,hf] at this;cases this
    by_cases hm:t ∈ ids
    ·exfalso
     obtain ⟨cs3,h3⟩:=ZkY (σ0:=ZT σ ts) (sq:=sq) (ids:=ids) (t:=t) hp 0 (ZT σ ts) (fun i x hx e=>by
      obtain ⟨hl,hi⟩:=tgt i (Xc.1 hx).1 e
      have:=(Zel c3 hx).2
      rw [XF,hi] at this
      simp only at this
      have hk:=this.1
      rw [Xi,hf] at hk
      simp only [WS] at hk
      cases x <;> simp [ZcT] at hk
      exact ⟨_,rfl⟩) ⟨_,hf⟩
     exact ZgZ hn hm h3
    ·rw [Zfo (fun i hi e=>hm (by
      obtain ⟨hl,hi⟩:=tgt i hi e
      exact Xv hi))]
     exact hf
   ·cases h
end
end
section
open Go.RowKit
section
variable {P:Program} {O:ZV} {bf:Nat->Bool} {tm tm1 tm2:Tms} {σ σ' σ1 σ2:Za} {sq:Nat}
theorem Zkt {d:Option Nat} {v:AVal} {n:Nat} (h:d≠some n):tget (tput tm d v) n=tget tm n:=by
 cases d with
 | none=>rfl
 | some d =>
  have : d≠n:=by rintro rfl;exact h rfl
  simp only [tput,Zfk,this,if_false]
theorem ZlQ {a b:Nat} (u v:AVal) (h:a≠b):∀ tm:Tms,tins b v (tins a u tm)=tins a u (tins b v tm)
 | []=>by
  simp only [tins]
  by_cases h1:a < b
  ·have h2:¬b < a:=by omega
   have h3:¬b=a:=by omega
   simp [h1,h2,h3,tins]
  ·have h2:b < a:=by omega
   have h3:¬a=b:=h
   simp [h1,h2,h3,tins]
 | (e,w)::r=>by
  have ih:=ZlQ u v h r
  rcases Nat.lt_trichotomy e a with ha | ha | ha <;> rcases Nat.lt_trichotomy e b with hb | hb | hb
  ·rcases Nat.lt_or_gt_of_ne h with hab | hab
   ·have n1:¬b < a:=by omega
    have n2:¬b=a:=by omega
    simp [tins,ha,hb,hab,n1,n2]
   ·have n1:¬a < b:=by omega
    have n2:¬a=b:=h
    simp [tins,ha,hb,hab,n1,n2]
  ·subst hb
   have n1:¬a < e:=by omega
   have n2:¬a=e:=h
   simp [tins,ha,n1,n2]
  ·have n1:¬a < b:=by omega
   have n2:¬a=b:=h
   have n3:¬e < b:=by omega
   have n4:¬e=b:=by omega
   simp [tins,ha,n1,n2,n3,n4]
  ·subst ha
   have n1:¬b < e:=by omega
   have n2:¬b=e:=fun q=>h q.symm
   simp [tins,hb,n1,n2]
  ·exact absurd (ha.symm.trans hb) h
  ·subst ha
   have n3:¬e < b:=by omega
   have n4:¬e=b:=by omega
   simp [tins,n3,n4]
  ·have n1:¬b < a:=by omega
   have n2:¬b=a:=by omega
   have n3:¬e < a:=by omega
   have n4:¬e=a:=by omega
   simp [tins,hb,n1,n2,n3,n4]
  ·subst hb
   have n3:¬e < a:=by omega
   have n4:¬e=a:=by omega
   simp [tins,n3,n4]
  ·have n1:¬e < a:=by omega
   have n2:¬e=a:=by omega
   have n3:¬e < b:=by omega
   have n4:¬e=b:=by omega
   simp [tins,n1,n2,n3,n4,ih]
theorem ZcV {a b:Option Nat} (u v:AVal) (h:∀ d,a=some d->b≠some d):tput (tput tm a u) b v=tput (tput tm b v) a u:=by
 cases a with
 | none=>cases b <;> rfl
 | some a =>
  cases b with
  | none=>rfl
  | some b =>
   simp only [tput]
   exact ZlQ u v (by rintro rfl;exact h a rfl rfl) tm
theorem Zcm {g:Option (Nat×Bool)} (h:∀ j b,g=some (j,b)->tget tm j=tget tm1 j):Za7 g tm=Za7 g tm1:=by
 cases g with
 | none=>rfl
 | some g=>simp only [Za7];rw [h g.1 g.2 rfl]
theorem Zcr {o:AOp} {j:Nat} {b:Bool} (h:o.guard=some (j,b)):j ∈ o.reads:=by simp [AOp.reads,h]
theorem Zd2 {o:AOp} {n:Nat} (h:n ∈ o.ins.reads):n ∈ o.reads:=by simp [AOp.reads,h]
theorem ZdD {o:AOp} {v:AVal} {c:Cls} (h:ZS O bf o sq tm σ=some (v,tm1,σ1,c)):tm1=tput tm o.dst v/\∀ tm',(∀ n ∈ o.reads,tget tm n=tget tm' n)->ZS O bf o sq tm' σ=some (v,tput tm' o.dst v,σ1,c):=by
 unfold ZS at h
 split at h
 ·cases h
 ·rename_i hw
  simp only [Xa,Xb] at h
  obtain ⟨rfl,rfl,rfl,rfl⟩:=h
  refine ⟨rfl,fun tm' hr=>?_⟩
  simp only [ZS,Zcm (g:=o.guard) (tm:=tm') (tm1:=tm) (fun j b hg=>(hr j (Zcr hg)).symm),hw]
 ·rename_i hw
  split at h
  ·rename_i hf
   split at h
   ·rename_i v' σ'' c' he
    simp only [Xa,Xb] at h
    obtain ⟨rfl,rfl,rfl,rfl⟩:=h
    refine ⟨rfl,fun tm' hr=>?_⟩
    simp only [ZS,Zcm (g:=o.guard) (tm:=tm') (tm1:=tm) (fun j b hg=>(hr j (Zcr hg)).symm),hw]
    rw [if_pos hf,<-Zee (tm:=tm) (tm':=tm') (fun n hn=>hr n (Zd2 hn)),he]
   ·cases h
  ·cases h
theorem Zek {o:AOp} {v:AVal} {c:Cls} (h:ZS O bf o sq tm σ=some (v,tm1,σ1,c)) (hn:Zb3 c=true) :
  ∃ ob,tm1=tput tm o.dst v/\σ1=ZaI σ sq ob/\(ob.isSome=true->nsite o.ins≠0/\freeAt σ sq=true)/\ob≠some .free/\Zdh σ c.rd /\
   ∀ tm' σ2,(∀ n ∈ o.reads,tget tm n=tget tm' n)->Agree σ σ2 c.rd->(nsite o.ins≠0->freeAt σ sq=true->freeAt σ2 sq=true)->ZS O bf o sq tm' σ2=some (v,tput tm' o.dst v,ZaI σ2 sq ob,c):=by
 simp only [Zb3,Xr,Xaj,Wn] at hn
 unfold ZS at h
 split at h
 ·cases h
 ·rename_i hw
  simp only [Xa,Xb] at h
  obtain ⟨rfl,rfl,rfl,rfl⟩:=h
  refine ⟨none,rfl,rfl,by simp,by simp,Zca,fun tm' σ2 hr _ _=>?_⟩
  simp only [ZS,Zcm (g:=o.guard) (tm:=tm') (tm1:=tm) (fun j b hg=>(hr j (Zcr hg)).symm),hw,ZaI]
 ·rename_i hw
  split at h
  ·rename_i hf
   split at h
   ·rename_i v' σ'' c' he
    simp only [Xa,Xb] at h
    obtain ⟨rfl,rfl,rfl,rfl⟩:=h
    obtain ⟨ob,e1,e2,e3,e4,e5⟩:=ZrX he hn.1 hn.2
    refine ⟨ob,rfl,e1,fun ho=>⟨e2 ho,?_⟩,e3,e4,fun tm' σ2 hr hA hfr=>?_⟩
    ·have:=e2 ho
     simpa [this] using hf
    ·have hf2:(nsite o.ins == 0 || freeAt σ2 sq)=true:=by
      by_cases h0:nsite o.ins=0
      ·simp [h0]
      ·simp only [WJ,beq_iff_eq,h0,false_or] at hf ⊢
       exact hfr h0 hf
     simp only [ZS,Zcm (g:=o.guard) (tm:=tm') (tm1:=tm) (fun j b hg=>(hr j (Zcr hg)).symm),hw]
     have e5':execI O bf tm σ2 sq o.ins=some (v',ZaI σ2 sq ob,c'):=e5 σ2 hA
     rw [if_pos hf2,<-Zee (tm:=tm) (tm':=tm') (fun n hn=>hr n (Zd2 hn)),e5']
   ·cases h
  ·cases h
theorem Zdi {s:Nat}:freeAt σ s=true↔σ[s]?=some .free:=by
 unfold freeAt
 split
 ·rename_i h;simp [h]
 ·rename_i h
  constructor
  ·intro h';cases h'
  ·intro h';exact absurd h' h
theorem Zfl {s t:Nat} {ob:Option Z0} (h:ob.isSome=true->s≠t):(ZaI σ s ob)[t]?=σ[t]?:=by
 cases ob with
 | none=>rfl
 | some b=>simp only [ZaI];rw [Xq,if_neg (h rfl)]
theorem Zyx {s t:Nat} {ob oc:Option Z0} (h:ob.isSome=true->oc.isSome=true->s≠t):ZaI (ZaI σ s ob) t oc=ZaI (ZaI σ t oc) s ob:=by
 cases ob with
 | none=>cases oc <;> rfl
 | some b =>
  cases oc with
  | none=>rfl
  | some c=>simp only [ZaI];exact W7 b c (h rfl rfl)
theorem ZrN {x y:AVal} (h:Zh7 x y=true):x=y:=by
 unfold Zh7 at h
 split at h
 all_goals first
  | rfl
  | (cases h;done)
  | (simp only [Xr,decide_eq_true_eq,beq_iff_eq] at h;simp_all;done)
theorem Zgv {o:AOp} {v:AVal} {c:Cls} (hc:ZbT o.ins=true) (h:ZS O bf o sq tm σ=some (v,tm1,σ1,c)) :
  (Za7 o.guard tm=some false/\v=.tup []/\σ1=σ/\c={}) \/
  (Za7 o.guard tm=some true/\(nsite o.ins == 0 || freeAt σ sq)=true/\∃ f own view args,own<=nsite o.ins/\(∀ tm' σ2 v2 σ3 c2,(∀ n ∈ o.reads,tget tm n=tget tm' n)->(nsite o.ins == 0 || freeAt σ2 sq)=true->ZR O bf σ2 sq f own view args=some (v2,σ3,c2)->ZS O bf o sq tm' σ2=some (v2,tput tm' o.dst v2,σ3,c2))/\ZR O bf σ sq f own view args=some (v,σ1,c)):=by
 unfold ZS at h
 split at h
 ·cases h
 ·rename_i hw
  simp only [Xa,Xb] at h
  obtain ⟨rfl,rfl,rfl,rfl⟩:=h
  exact Xs ⟨hw,rfl,rfl,rfl⟩
 ·rename_i hw
  split at h
  ·rename_i hf
   split at h
   ·rename_i v' σ'' c' he
    simp only [Xa,Xb] at h
    obtain ⟨rfl,rfl,rfl,rfl⟩:=h
    refine Xu ⟨hw,hf,?_⟩
    have gen:∀ tm' σ2,(∀ n ∈ o.reads,tget tm n=tget tm' n)->(nsite o.ins == 0 || freeAt σ2 sq)=true->∀ v2 σ3 c2,execI O bf tm σ2 sq o.ins=some (v2,σ3,c2)->ZS O bf o sq tm' σ2=some (v2,tput tm' o.dst v2,σ3,c2):=by
     intro tm' σ2 hr hf2 v2 σ3 c2 he2
     simp only [ZS,Zcm (g:=o.guard) (tm:=tm') (tm1:=tm) (fun j b hg=>(hr j (Zcr hg)).symm),hw]
     rw [if_pos hf2,<-Zee (tm:=tm) (tm':=tm') (fun n hn=>hr n (Zd2 hn)),he2]
    cases hins:o.ins with
    | call f own view args =>
     rw [hins] at he gen
     simp only [execI] at he gen
     refine ⟨f,own,view,args.map (·.ev tm),XM _,fun tm' σ2 v2 σ3 c2 hr hf2 h2=>?_,he⟩
     exact gen tm' σ2 hr hf2 v2 σ3 c2 h2
    | callv x args =>
     rw [hins] at he gen
     simp only [execI] at he
     split at he
     ·rename_i f caps hx
      refine ⟨(if f < 1000000 then f else f - 1000000),4,false,(if f < 1000000 then args.map (·.ev tm)++caps else caps++args.map (·.ev tm)),by simp [nsite],fun tm' σ2 v2 σ3 c2 hr hf2 h2=>?_,he⟩
      refine gen tm' σ2 hr hf2 v2 σ3 c2 ?_
      simp only [execI,hx]
      exact h2
     ·cases he
    | _=>rw [hins] at hc;simp [ZbT] at hc
   ·cases h
  ·cases h
theorem Zof {o:AOp} {v:AVal} {c:Cls} {s:Nat} (hc:ZbT o.ins=true) (h:ZS O bf o sq tm σ=some (v,tm1,σ1,c)) (hs:σ1[s]?=some .free) (hne:∀ i,i < nsite o.ins->sq+i≠s) :
  σ[s]?=some .free/\∀ b tm',(∀ n ∈ o.reads,tget tm n=tget tm' n)->ZS O bf o sq tm' (σ.set s b)=some (v,tput tm' o.dst v,σ1.set s b,c):=by
 have h0:=h
 rcases Zgv hc h with ⟨hw,rfl,rfl,rfl⟩ | ⟨hw,hf,f,own,view,args,ho,gen,hg⟩
 ·refine ⟨hs,fun b tm' hr=>?_⟩
  simp only [ZS,Zcm (g:=o.guard) (tm:=tm') (tm1:=tm) (fun j b hg=>(hr j (Zcr hg)).symm),hw]
 ·obtain ⟨k1,k2⟩:=Zlo (b:=.free) hg hs (fun i hi=>hne i (by omega))
  refine ⟨k1,fun b tm' hr=>gen tm' _ _ _ _ hr ?_ (Zlo (b:=b) hg hs (fun i hi=>hne i (by omega))).2⟩
  by_cases h0:nsite o.ins=0
  ·simp [h0]
  ·simp only [WJ,beq_iff_eq,h0,false_or,Zdi] at hf ⊢
   have:=hne 0 (by omega)
   rw [Xq,if_neg (by intro e;exact this (by simpa using e.symm))]
   exact hf
theorem Zul {o:AOp} {v:AVal} {c:Cls} {s:Nat} (hc:ZbT o.ins=true) (h:ZS O bf o sq tm σ=some (v,tm1,σ1,c)) (hs:σ1[s]?=some .free):σ[s]?=some .free:=by
 rcases Zgv hc h with ⟨hw,rfl,rfl,rfl⟩ | ⟨hw,hf,f,own,view,args,ho,gen,hg⟩
 ·exact hs
 ·exact ZtM hg hs
theorem Zt9 {o:AOp} {v:AVal} {c:Cls} {t:Nat} {cs:List AVal} (hc:ZbT o.ins=true) (h:ZS O bf o sq tm σ=some (v,tm1,σ1,c)) (ha:c.any=true) (ht:σ[t]?=some (.var cs)) :
  (c.upd.lookup t=none->σ1[t]?=some (.var cs))/\(∀ cs2,c.upd.lookup t=some cs2->σ1[t]?=some (.var cs2)):=by
 rcases Zgv hc h with ⟨hw,rfl,rfl,rfl⟩ | ⟨hw,hf,f,own,view,args,ho,gen,hg⟩
 ·cases ha
 ·exact ZqN hg ha ht
theorem Zu3 {σ σ1 : Za} {sq k bytes : Nat} {x y v : AVal} {c : Cls} {t : Nat} {cs : List AVal} (h : ZaM σ sq k bytes x y = some (v, σ1, c)) (hs : sq ≠ t) (ht : σ[t]? = some (.var cs)) : σ1[t]? = some (.var cs) := by
  have key : ∀ (u : Nat) (b : Z0), (u = sq \/ ∃ b0, σ[u]? = some b0 /\ ∀ cs, b0 ≠ .var cs) -> (σ.set u b)[t]? = some (.var cs) := by
    intro u b hu
    rw [Xq, if_neg, ht]
    rintro rfl
    rcases hu with rfl | ⟨b0, h1, h2⟩
    . exact hs rfl
    . rw [ht] at h1; injection h1 with h1; exact h2 _ h1.symm
  unfold ZaM at h
  repeat' split at h
  all_goals first
    | (cases h; done)
    | (unfold Zdg at h
       repeat' split at h
       all_goals first
         | (cases h; done)
         | (simp only [Xa, Xb] at h
            obtain ⟨-, rfl, -⟩ := h
            first
              | exact key _ _ (Xs rfl)
              | exact key _ _ (Xu ⟨_, by assumption, by simp⟩)))
    | (simp only [Xa, Xb] at h
       obtain ⟨-, rfl, -⟩ := h
       first
         | exact ht
         | exact key _ _ (Xs rfl)
         | exact key _ _ (Xu ⟨_, by assumption, by simp⟩))
theorem ZqK {o:AOp} {v:AVal} {c:Cls} {t:Nat} {cs:List AVal} (hc:Zb7 o.ins=true) (h:ZS O bf o sq tm σ=some (v,tm1,σ1,c)) (ht:σ[t]?=some (.var cs)):σ1[t]?=some (.var cs):=by
 unfold ZS at h
 split at h
 ·cases h
 ·simp only [Xa,Xb] at h
  obtain ⟨rfl,rfl,rfl,rfl⟩:=h
  exact ht
 ·split at h
  ·rename_i hf
   split at h
   ·rename_i v' σ'' c' he
    simp only [Xa,Xb] at h
    obtain ⟨rfl,rfl,rfl,rfl⟩:=h
    cases hins:o.ins with
    | app k bytes z x y =>
     rw [hins] at he hf
     simp only [execI] at he
     refine Zu3 he ?_ ht
     rintro rfl
     simp [nsite,freeAt,ht] at hf
    | _=>rw [hins] at hc;simp [Zb7] at hc
   ·cases h
  ·cases h
theorem Zlw {σ σ1 : Za} {sq k bytes : Nat} {x y v : AVal} {c : Cls} {s : Nat} (h : ZaM σ sq k bytes x y = some (v, σ1, c)) (hs : σ1[s]? = some .free) : σ[s]? = some .free := by
  have key : ∀ (u : Nat) (b0 : Z0), b0 ≠ .free -> (σ.set u b0)[s]? = some .free -> σ[s]? = some .free := by
    intro u b0 hb hh
    rw [Xq] at hh
    split at hh
    . split at hh
      . injection hh with hh; exact absurd hh hb
      . cases hh
    . exact hh
  unfold ZaM at h
  repeat' split at h
  all_goals first
    | (cases h; done)
    | (unfold Zdg at h
       repeat' split at h
       all_goals first
         | (cases h; done)
         | (simp only [Xa, Xb] at h
            obtain ⟨-, rfl, -⟩ := h
            exact key _ _ (by simp) hs))
    | (simp only [Xa, Xb] at h
       obtain ⟨-, rfl, -⟩ := h
       first
         | exact hs
         | exact key _ _ (by simp) hs)
theorem ZuF {σ σ1 : Za} {sq k bytes : Nat} {x y v : AVal} {c : Cls} {s : Nat} (ha : c.any = false) (h : ZaM σ sq k bytes x y = some (v, σ1, c)) (hs : σ[s]? = some .free) (hne : sq ≠ s) (b : Z0) : ZaM (σ.set s b) sq k bytes x y = some (v, σ1.set s b, c) := by
  have get : ∀ (t : Nat) (b0 : Z0), σ[t]? = some b0 -> b0 ≠ .free -> (σ.set s b)[t]? = some b0 /\ s ≠ t := by
    intro t b0 h1 h2
    have hst : s ≠ t := by
      rintro rfl
      rw [hs] at h1; injection h1 with h1; exact h2 h1.symm
    exact ⟨by rw [Wd hst]; exact h1, hst⟩
  have hel : ∀ ys us, Zi σ y = some (ys, us) -> Zi (σ.set s b) y = some (ys, us) := by
    intro ys us he
    unfold Zi at he ⊢
    split at he
    . exact he
    . exact he
    . split at he
      . rename_i hr
        rw [(get _ _ hr (by simp)).1]; exact he
      . rename_i hr
        rw [(get _ _ hr (by simp)).1]; exact he
      . cases he
    . cases he
  unfold ZaM at h
  cases he : Zi σ y with
  | none =>
    rw [he] at h
    simp only at h
    unfold Zdg at h
    repeat' split at h
    all_goals first
      | (cases h; done)
      | (simp only [Xa, Xb] at h
         obtain ⟨-, -, rfl⟩ := h
         cases ha)
  | some z =>
    obtain ⟨ys, us⟩ := z
    rw [he] at h
    simp only at h
    unfold ZaM
    rw [hel _ _ he]
    simp only
    split at h
    case isFalse => cases h
    rename_i hk
    rw [if_pos hk]
    split at h
    . split at h
      case isFalse => cases h
      rename_i h1
      simp only [Xa, Xb] at h
      obtain ⟨rfl, rfl, rfl⟩ := h
      simp only [h1, if_true]
      rw [W7 _ _ hne]
    . split at h
      case isFalse => cases h
      rename_i h1
      simp only [h1, and_self, if_true]
      split at h
      . simp only [Xa, Xb] at h
        obtain ⟨rfl, rfl, rfl⟩ := h
        rfl
      . simp only [Xa, Xb] at h
        obtain ⟨rfl, rfl, rfl⟩ := h
        rw [W7 _ _ hne]
    . split at h
      . rename_i hr
        obtain ⟨g1, g2⟩ := get _ _ hr (by simp)
        rw [g1]
        simp only
        split at h
        case isFalse => cases h
        rename_i h1
        rw [if_pos h1]
        split at h
        . rename_i h2
          rw [if_pos h2]
          simp only [Xa, Xb] at h
          obtain ⟨rfl, rfl, rfl⟩ := h
          rw [W7 _ _ g2]
        . rename_i h2
          rw [if_neg h2]
          split at h
          case isFalse => cases h
          rename_i h3
          rw [if_pos h3]
          simp only [Xa, Xb] at h
          obtain ⟨rfl, rfl, rfl⟩ := h
          rw [W7 _ _ g2]
      . cases h
    . cases h
theorem ZhY {o:AOp} {v:AVal} {c:Cls} (hc:Zb7 o.ins=true) (h:ZS O bf o sq tm σ=some (v,tm1,σ1,c)) :
  (Za7 o.guard tm=some false/\v=.tup []/\σ1=σ/\c={})\/(freeAt σ sq=true/\∃ k bytes x y,ZaM σ sq k bytes x y=some (v,σ1,c)/\∀ tm' σ2 v2 σ3 c2,(∀ n ∈ o.reads,tget tm n=tget tm' n)->freeAt σ2 sq=true->ZaM σ2 sq k bytes x y=some (v2,σ3,c2)->ZS O bf o sq tm' σ2=some (v2,tput tm' o.dst v2,σ3,c2)):=by
 unfold ZS at h
 split at h
 ·cases h
 ·rename_i hw
  simp only [Xa,Xb] at h
  obtain ⟨rfl,rfl,rfl,rfl⟩:=h
  exact Xs ⟨hw,rfl,rfl,rfl⟩
 ·rename_i hw
  split at h
  ·rename_i hf
   split at h
   ·rename_i v' σ'' c' he
    simp only [Xa,Xb] at h
    obtain ⟨rfl,rfl,rfl,rfl⟩:=h
    cases hins:o.ins with
    | app k bytes z x y =>
     have he0:=he
     rw [hins] at he hf
     simp only [execI] at he
     refine Xu ⟨by simpa [nsite] using hf,k,bytes,_,_,he,fun tm' σ2 v2 σ3 c2 hr hf2 h2=>?_⟩
     simp only [ZS,Zcm (g:=o.guard) (tm:=tm') (tm1:=tm) (fun j b hg=>(hr j (Zcr hg)).symm),hw]
     rw [if_pos (by rw [hf2];simp),<-Zee (tm:=tm) (tm':=tm') (fun n hn=>hr n (Zd2 hn)),hins]
     simp only [execI,h2]
    | _=>rw [hins] at hc;simp [Zb7] at hc
   ·cases h
  ·cases h
theorem Zh6 {t:Nat} {cs:List AVal}:∀ (ts:List Nat) (σ:Za),σ[t]?=some (.var cs)->(ZT σ ts)[t]?=some (.var cs)
 | [],σ,h=>h
 | u::ts,σ,h=>by
  unfold ZT
  split
  ·rename_i g k xs hu
   refine Zh6 ts _ ?_
   rw [Xq,if_neg,h]
   rintro rfl
   rw [hu] at h;cases h
  ·exact Zh6 ts σ h
theorem ZtZ {σ σ1 : Za} {k : Nat} {a x v : AVal} {c : Cls} {t : Nat} {cs : List AVal} (h : stA σ k a x = some (v, σ1, c)) (hw : c.wr.contains t = false) (ht : σ[t]? = some (.var cs)) : σ1[t]? = some (.var cs) := by
  unfold stA at h
  repeat' split at h
  all_goals first
    | (cases h; done)
    | (simp only [Xa, Xb] at h
       obtain ⟨-, rfl, rfl⟩ := h
       simp only [List.contains_cons, Xa8, Bool.or_false, Bool.or_eq_false_iff, beq_eq_false_iff_ne, ne_eq] at hw
       first
         | (rw [Xq, if_neg (fun e => hw e.symm)]; exact ht)
         | (rw [Xq, if_neg (fun e => hw.1 e.symm)]; exact Zh6 _ _ ht))
theorem ZxN {o:AOp} {v:AVal} {c:Cls} {t:Nat} {cs:List AVal} (hc:Zgm o.ins=true) (hw:c.wr.contains t=false) (h:ZS O bf o sq tm σ=some (v,tm1,σ1,c)) (ht:σ[t]?=some (.var cs)):σ1[t]?=some (.var cs):=by
 unfold ZS at h
 split at h
 ·cases h
 ·simp only [Xa,Xb] at h
  obtain ⟨rfl,rfl,rfl,rfl⟩:=h
  exact ht
 ·split at h
  ·rename_i hf
   split at h
   ·rename_i v' σ'' c' he
    simp only [Xa,Xb] at h
    obtain ⟨rfl,rfl,rfl,rfl⟩:=h
    cases hins:o.ins with
    | st k x y =>
     rw [hins] at he hf
     simp only [execI] at he
     exact ZtZ he hw ht
    | _=>rw [hins] at hc;simp [Zgm] at hc
   ·cases h
  ·cases h
theorem ZiX {o : AOp} {v : AVal} {c ci : Cls} (hl : Zb8 o.ins = true) (h : ZS O bf o sq tm σ = some (v, tm1, σ1, c)) (hg : ZcD c ci = true) :
    ∃ t k off, c.got = [(t, k, off, v)] /\ σ1 = σ /\ tm1 = tput tm o.dst v /\ (∀ tm' σ2, (∀ n ∈ o.reads, tget tm n = tget tm' n) -> (∃ cs, σ2[t]? = some (.var cs) /\ partA k cs off = some v) -> ZS O bf o sq tm' σ2 = some (v, tput tm' o.dst v, σ2, c)) /\ ∃ cs, σ[t]? = some (.var cs) /\ partA k cs off = some v := by
  unfold ZS at h
  split at h
  . cases h
  . simp only [Xa, Xb] at h
    obtain ⟨rfl, rfl, rfl, rfl⟩ := h
    simp [ZcD] at hg
  . rename_i hw
    split at h
    . rename_i hf
      split at h
      . rename_i v' σ'' c' he
        simp only [Xa, Xb] at h
        obtain ⟨rfl, rfl, rfl, rfl⟩ := h
        cases hins : o.ins with
        | ld k a =>
          rw [hins] at he hf
          simp only [execI] at he
          have he0 := he
          unfold ldA at he
          split at he
          . rename_i t off ha
            split at he
            . rename_i cs hcs
              split at he
              . rename_i v2 hp
                simp only [Xa, Xb] at he
                obtain ⟨rfl, rfl, rfl⟩ := he
                refine ⟨t, k, off, rfl, rfl, rfl, fun tm' σ2 hr ⟨cs2, h1, h2⟩ => ?_, cs, hcs, hp⟩
                simp only [ZS, Zcm (g := o.guard) (tm := tm') (tm1 := tm) (fun j b hg => (hr j (Zcr hg)).symm), hw]
                rw [if_pos (by rw [hins]; rfl), <- Zee (tm := tm) (tm' := tm') (fun n hn => hr n (Zd2 hn)), hins]
                simp only [execI, ha, ldA, h1, h2]
              . cases he
            . cases he
          . repeat' split at he
            all_goals first
              | (cases he; done)
              | (simp only [Xa, Xb] at he
                 obtain ⟨rfl, rfl, rfl⟩ := he
                 simp [ZcD] at hg)
          . repeat' split at he
            all_goals first
              | (cases he; done)
              | (simp only [Xa, Xb] at he
                 obtain ⟨rfl, rfl, rfl⟩ := he
                 simp [ZcD] at hg)
          . cases he
        | _ => rw [hins] at hl; simp [Zb8] at hl
      . cases h
    . cases h
theorem ZvW {o:AOp} {v:AVal} {c:Cls} {s:Nat} (hc:ZbT o.ins=true\/(Zb7 o.ins=true/\(!c.any)=true)) (h:ZS O bf o sq tm σ=some (v,tm1,σ1,c)) (hs:σ1[s]?=some .free):σ[s]?=some .free:=by
 rcases hc with hc | ⟨hc,_⟩
 ·exact Zul hc h hs
 ·rcases ZhY hc h with ⟨_,_,rfl,_⟩ | ⟨_,_,_,_,_,ha,_⟩
  ·exact hs
  ·exact Zlw ha hs
theorem Zxe {o:AOp} {v:AVal} {c:Cls} {s:Nat} (hc:ZbT o.ins=true\/(Zb7 o.ins=true/\(!c.any)=true)) (h:ZS O bf o sq tm σ=some (v,tm1,σ1,c)) (hs:σ1[s]?=some .free) (hne:∀ i,i < nsite o.ins->sq+i≠s) :
  σ[s]?=some .free/\∀ b tm',(∀ n ∈ o.reads,tget tm n=tget tm' n)->ZS O bf o sq tm' (σ.set s b)=some (v,tput tm' o.dst v,σ1.set s b,c):=by
 rcases hc with hc | ⟨hc,hany⟩
 ·exact Zof hc h hs hne
 ·have hn:sq≠s:=by
   have : nsite o.ins=1:=by
    cases hins:o.ins with
    | app k bytes z x y=>rfl
    | _=>rw [hins] at hc;simp [Zb7] at hc
   simpa using hne 0 (by omega)
  rcases ZhY hc h with ⟨hw,rfl,rfl,rfl⟩ | ⟨hf,k,bytes,x,y,ha,gen⟩
  ·refine ⟨hs,fun b tm' hr=>?_⟩
   simp only [ZS,Zcm (g:=o.guard) (tm:=tm') (tm1:=tm) (fun j b hg=>(hr j (Zcr hg)).symm),hw]
  ·have h0:=Zlw ha hs
   refine ⟨h0,fun b tm' hr=>gen tm' _ _ _ _ hr ?_ (ZuF (by simpa using hany) ha h0 hn b)⟩
   rw [Zdi] at hf ⊢
   rw [Wd (fun e=>hn e.symm)]
   exact hf
def Frz (σ σ2:Za):Prop:=∀ t:Nat,σ2[t]?=σ[t]?\/∃ (g k:Nat) (xs:List AVal),σ[t]?=some (Z0.row g k xs)/\σ2[t]?=some (Z0.frow g k xs)
theorem Frz.refl (σ:Za):Frz σ σ:=fun _=>Xs rfl
theorem Zgb:∀ (ts:List Nat) (σ:Za),Frz σ (ZT σ ts)
 | [],σ=>Frz.refl σ
 | t::ts,σ=>by
  unfold ZT
  split
  ·rename_i g k xs ht
   intro u
   have ih:=Zgb ts (σ.set t (.frow g k xs)) u
   have htl:t < σ.length:=(Xc.1 ht).1
   by_cases e:u=t
   ·subst e
    have e1:(σ.set u (.frow g k xs))[u]?=some (.frow g k xs):=by simp [htl]
    rw [e1] at ih
    rcases ih with ih | ⟨_,_,_,ih,_⟩
    ·exact Xu ⟨g,k,xs,ht,ih⟩
    ·cases ih
   ·rw [Wd (fun h=>e h.symm)] at ih
    exact ih
  ·exact Zgb ts σ
theorem ZkU {σ σ2 σ' : Za} {k : Option Nat} {a v : AVal} {c : Cls} (hf : Frz σ σ2) (h : ldA σ k a = some (v, σ', c)) : σ' = σ /\ ldA σ2 k a = some (v, σ2, c) := by
  unfold ldA at h ⊢
  split at h
  . rename_i t o
    rcases hf t with e | ⟨_, _, _, e1, _⟩
    . simp only [e]
      repeat' split at h
      all_goals first
        | (cases h; done)
        | (simp only [Xa, Xb] at h
           obtain ⟨rfl, rfl, rfl⟩ := h
           simp_all)
    . rw [e1] at h; cases h
  . rename_i t g i o
    rcases hf t with e | ⟨g1, k1, xs1, e1, e2⟩
    . simp only [e]
      repeat' split at h
      all_goals first
        | (cases h; done)
        | (simp only [Xa, Xb] at h
           obtain ⟨rfl, rfl, rfl⟩ := h
           simp_all)
    . simp only [e1] at h
      simp only [e2]
      repeat' split at h
      all_goals first
        | (cases h; done)
        | (simp only [Xa, Xb] at h
           obtain ⟨rfl, rfl, rfl⟩ := h
           simp_all)
  . repeat' split at h
    all_goals first
      | (cases h; done)
      | (simp only [Xa, Xb] at h
         obtain ⟨rfl, rfl, rfl⟩ := h
         simp_all)
  . cases h
theorem Zk3 {σ σ2 σ' : Za} {k : Nat} {a i v : AVal} {c : Cls} (hf : Frz σ σ2) (h : Zbw σ k a i = some (v, σ', c)) : σ' = σ /\ Zbw σ2 k a i = some (v, σ2, c) := by
  unfold Zbw at h ⊢
  split at h
  . split at h
    . rename_i h0
      rw [if_pos h0]
      split at h
      . repeat' split at h
        all_goals first
          | (cases h; done)
          | (simp only [Xa, Xb] at h
             obtain ⟨rfl, rfl, rfl⟩ := h
             simp_all)
      . rename_i t g p n
        rcases hf t with e | ⟨g1, k1, xs1, e1, e2⟩
        . simp only [e]
          repeat' split at h
          all_goals first
            | (cases h; done)
            | (simp only [Xa, Xb] at h
               obtain ⟨rfl, rfl, rfl⟩ := h
               simp_all)
        . simp only [e1] at h
          simp only [e2]
          repeat' split at h
          all_goals first
            | (cases h; done)
            | (simp only [Xa, Xb] at h
               obtain ⟨rfl, rfl, rfl⟩ := h
               simp_all)
      . cases h
    . cases h
  . cases h
theorem Zr4 {o:AOp} {v:AVal} {c:Cls} (hl:ZgL o.ins=true) (h:ZS O bf o sq tm σ=some (v,tm1,σ1,c)) :
  σ1=σ/\tm1=tput tm o.dst v/\∀ tm' σ2,(∀ n ∈ o.reads,tget tm n=tget tm' n)->Frz σ σ2->ZS O bf o sq tm' σ2=some (v,tput tm' o.dst v,σ2,c):=by
 unfold ZS at h
 split at h
 ·cases h
 ·rename_i hw
  simp only [Xa,Xb] at h
  obtain ⟨rfl,rfl,rfl,rfl⟩:=h
  refine ⟨rfl,rfl,fun tm' σ2 hr _=>?_⟩
  simp only [ZS,Zcm (g:=o.guard) (tm:=tm') (tm1:=tm) (fun j b hg=>(hr j (Zcr hg)).symm),hw]
 ·rename_i hw
  split at h
  ·rename_i hf
   split at h
   ·rename_i v' σ'' c' he
    simp only [Xa,Xb] at h
    obtain ⟨rfl,rfl,rfl,rfl⟩:=h
    cases hins:o.ins with
    | ld k a =>
     rw [hins] at he
     simp only [execI] at he
     have e1:=(ZkU (Frz.refl σ) he).1
     subst e1
     refine ⟨rfl,rfl,fun tm' σ2 hr hz=>?_⟩
     simp only [ZS,Zcm (g:=o.guard) (tm:=tm') (tm1:=tm) (fun j b hg=>(hr j (Zcr hg)).symm),hw]
     rw [if_pos (by rw [hins];rfl),<-Zee (tm:=tm) (tm':=tm') (fun n hn=>hr n (Zd2 hn)),hins]
     simp only [execI,(ZkU hz he).2]
    | iaddr k x i =>
     rw [hins] at he
     simp only [execI] at he
     have e1:=(Zk3 (Frz.refl σ) he).1
     subst e1
     refine ⟨rfl,rfl,fun tm' σ2 hr hz=>?_⟩
     simp only [ZS,Zcm (g:=o.guard) (tm:=tm') (tm1:=tm) (fun j b hg=>(hr j (Zcr hg)).symm),hw]
     rw [if_pos (by rw [hins];rfl),<-Zee (tm:=tm) (tm':=tm') (fun n hn=>hr n (Zd2 hn)),hins]
     simp only [execI,(Zk3 hz he).2]
    | _=>rw [hins] at hl;simp [ZgL] at hl
   ·cases h
  ·cases h
theorem Zrk {o:AOp} {v:AVal} {c:Cls} (hl:Zfw o.ins=true) (h:ZS O bf o sq tm σ=some (v,tm1,σ1,c)):Frz σ σ1:=by
 unfold ZS at h
 split at h
 ·cases h
 ·simp only [Xa,Xb] at h
  obtain ⟨rfl,rfl,rfl,rfl⟩:=h
  exact Frz.refl _
 ·split at h
  ·split at h
   ·rename_i v' σ'' c' he
    simp only [Xa,Xb] at h
    obtain ⟨rfl,rfl,rfl,rfl⟩:=h
    cases hins:o.ins with
    | bslice own k n z parts =>
     rw [hins] at hl he
     simp only [Zfw,Wn] at hl
     subst hl
     simp only [execI] at he
     split at he
     ·cases he
     ·rename_i ys ts hv
      split at he
      ·simp only [Xw,if_false,Xa,Xb] at he
       obtain ⟨_,rfl,_⟩:=he
       exact Zgb ts σ
      ·cases he
    | _=>rw [hins] at hl;simp [Zfw] at hl
   ·cases h
  ·cases h
theorem Zuy {f own:Nat} {view:Bool} {args:List AVal} {v:AVal} {c:Cls} (h:ZR O bf σ sq f own view args=some (v,σ',c)) (ha:c.any=true) {t:Nat} {cs:List AVal} (hn:c.upd.lookup t=none) (hlt:t < sq) (ht:σ'[t]?=some (.var cs)):σ[t]?=some (.var cs):=by
 unfold ZR at h
 split at h
 ·cases h
 rename_i xs ts hsh
 generalize hids:Zf (ZT σ ts) 1000 (Z3 xs) []=ids at h
 unfold Zby at h
 split at h
 case isFalse=>cases h
 generalize ZaX view ids.length (O f (ZX (Zd (ZT σ ts) 0 ids) xs) (Ze (ZT σ ts) 0 ids (Zd (ZT σ ts) 0 ids) ids 0))=q at h
 cases q with
 | none=>simp only [ZaJ] at h;cases h
 | some q =>
  obtain ⟨r,hp⟩:=q
  simp only [ZaJ] at h
  split at h
  ·split at h
   ·simp only [Xa,Xb] at h
    rw [<-h.2.2] at ha;cases ha
   split at h
   ·simp only [Xa,Xb] at h
    rw [<-h.2.2] at ha;cases ha
   ·simp only [Xa,Xb] at h
    rw [<-h.2.2] at ha;cases ha
  ·split at h
   ·simp only [Xa,Xb] at h
    rw [<-h.2.2] at ha;cases ha
   split at h
   ·rename_i hcc
    simp only [Xa,Xb] at h
    obtain ⟨_,rfl,rfl⟩:=h
    have hm:t ∉ ids:=fun hm=>ZgZ hn hm ht
    rw [Zfo (fun i hi e=>by
     rw [XF] at e
     unfold ZaH at e
     rw [Xi] at e
     rcases Xaf i ids.length with hl | hl
     ·rw [Xe hl] at e
      simp only [WS] at e
      exact hm (e ▸ WB hl)
     ·rw [XS hl] at e
      simp only [XaO] at e
      omega)] at ht
    rcases Zgb ts σ t with e | ⟨g1,k1,xs1,e1,e2⟩
    ·rw [<-e];exact ht
    ·rw [e2] at ht;cases ht
   ·cases h
theorem ZsN {o:AOp} {v:AVal} {c:Cls} {t:Nat} {cs:List AVal} (hc:ZbT o.ins=true) (h:ZS O bf o sq tm σ=some (v,tm1,σ1,c)) (ha:c.any=true) (hn:c.upd.lookup t=none) (hlt:t < sq) (ht:σ1[t]?=some (.var cs)):σ[t]?=some (.var cs):=by
 rcases Zgv hc h with ⟨hw,rfl,rfl,rfl⟩ | ⟨hw,hf,f,own,view,args,ho,gen,hg⟩
 ·cases ha
 ·exact Zuy hg ha hn hlt ht
theorem ZrU {σ σ1 : Za} {sq k bytes : Nat} {x y v : AVal} {c : Cls} (h : ZaM σ sq k bytes x y = some (v, σ1, c)) (ha : c.any = false) {t : Nat} (hw : c.wr.contains t = false) (hs : t ≠ sq) : σ1[t]? = σ[t]? := by
  unfold ZaM at h
  split at h
  . unfold Zdg at h
    repeat' split at h
    all_goals first
      | (cases h; done)
      | (simp only [Xa, Xb] at h
         obtain ⟨_, _, rfl⟩ := h
         cases ha)
  . repeat' split at h
    all_goals first
      | (cases h; done)
      | (simp only [Xa, Xb] at h
         obtain ⟨_, rfl, rfl⟩ := h
         first
         | rfl
         | (rw [Wd (fun e => hs e.symm)])
         | (rw [Wd (by rintro rfl; simp at hw)]))
theorem Zmn {oj oi:AOp} {sj si:Nat} {vj vi:AVal} {cj ci:Cls} (hj:ZS O bf oj sj tm σ=some (vj,tm1,σ1,cj)) (hi:ZS O bf oi si tm1 σ1=some (vi,tm2,σ2,ci)) (hap:oj.apartT oi=true)
  (hp:ZbQ oj oi cj ci sj=true) (hs:nsite oj.ins≠0->nsite oi.ins≠0->sj≠si) (hs2:sj+nsite oj.ins<=si):∃ tm1' σ1',ZS O bf oi si tm σ=some (vi,tm1',σ1',ci)/\ZS O bf oj sj tm1' σ1'=some (vj,tm2,σ2,cj):=by
 have hd:(∀ d,oj.dst=some d->d ∉ oi.reads)/\(∀ d,oj.dst=some d->oi.dst≠some d)/\(∀ d,oi.dst=some d->d ∉ oj.reads):=by
  unfold AOp.apartT at hap
  simp only [Xr] at hap
  refine ⟨fun d hd hr=>?_,fun d hd he=>?_,fun d hd hr=>?_⟩
  ·have:=hap.1;rw [hd] at this;simp [hr] at this
  ·have:=hap.1;rw [hd] at this;simp [he] at this
  ·have:=hap.2;rw [hd] at this;simp [hr] at this
 obtain ⟨d1,d2,d3⟩:=hd
 have rdI:∀ v n,n ∈ oi.reads->tget (tput tm oj.dst v) n=tget tm n:=fun v n hn=>Zkt (by intro e;exact d1 n e hn)
 have rdJ:∀ v n,n ∈ oj.reads->tget tm n=tget (tput tm oi.dst v) n:=fun v n hn=>(Zkt (by intro e;exact d3 n e hn)).symm
 unfold ZbQ at hp
 simp only [WJ,Xr] at hp
 have noWr_of:∀ {o:AOp} {c:Cls},Zbv o c=true->Zb3 c=true/\c.rd=[]/\nsite o.ins=0:=by
  intro o c h
  simp only [Zbv,Xr,beq_iff_eq,Xaj] at h
  exact ⟨by simp [Zb3,h.1.2,h.2],h.1.1.2,h.1.1.1⟩
 rcases hp with (((((((hp | hp) | ⟨⟨hp1,hp2⟩,hp3⟩) | ⟨hp1,hp2,hp3⟩) | ⟨⟨⟨hp1,hp2⟩,hp3⟩,hp4⟩) | ⟨⟨hp1,hp2⟩,hp4⟩) | ⟨hp1,hp2⟩) | ⟨⟨⟨hp1,hp2⟩,hp3⟩,hp4⟩) | ⟨⟨⟨⟨hp1,hp2⟩,hp3⟩,hp4⟩,hp5⟩
 ·obtain ⟨w1,w2,w3⟩:=noWr_of hp
  obtain ⟨ob,rfl,rfl,e3,_,_,e6⟩:=Zek hj w1
  have hob:ob=none:=by
   cases ob with
   | none=>rfl
   | some b=>exact absurd w3 (e3 rfl).1
  subst hob
  simp only [ZaI] at hi e6 ⊢
  obtain ⟨rfl,f2⟩:=ZdD hi
  have g1:=f2 tm (rdI vj)
  refine ⟨_,_,g1,?_⟩
  rw [e6 _ σ2 (rdJ vi) (by rw [w2];intro t ht;simp at ht) (fun h=>absurd w3 h),ZcV vi vj (fun d hd he=>d2 d he hd)]
 ·obtain ⟨w1,w2,w3⟩:=noWr_of hp
  obtain ⟨ob,rfl,rfl,e3,_,_,e6⟩:=Zek hi w1
  have hob:ob=none:=by
   cases ob with
   | none=>rfl
   | some b=>exact absurd w3 (e3 rfl).1
  subst hob
  simp only [ZaI] at e6 ⊢
  obtain ⟨rfl,f2⟩:=ZdD hj
  have g1:=e6 tm σ (rdI vj) (by rw [w2];intro t ht;simp at ht) (fun h=>absurd w3 h)
  refine ⟨_,_,g1,?_⟩
  rw [f2 _ (rdJ vi),ZcV vi vj (fun d hd he=>d2 d he hd)]
 ·obtain ⟨ob,rfl,rfl,a3,a4,a5,a6⟩:=Zek hj hp1
  obtain ⟨oc,rfl,rfl,b3,b4,b5,b6⟩:=Zek hi hp2
  have hsne:ob.isSome=true->nsite oi.ins≠0->sj≠si:=fun h1 h2=>hs (a3 h1).1 h2
  have hrdi:∀ t ∈ ci.rd,ob.isSome=true->sj≠t:=by
   intro t ht ho e
   subst e
   rcases hp3 with hp3 | hp3
   ·exact (a3 ho).1 (by simpa using hp3)
   ·simp [ht] at hp3
  have g1:=b6 tm σ (rdI vj) (fun t ht=>(Zfl (hrdi t ht)).symm) (fun h2 hf=>by
   rw [Zdi] at hf ⊢
   rwa [Zfl (fun ho=>hsne ho h2)] at hf)
  refine ⟨_,_,g1,?_⟩
  have hsi:oc.isSome=true->σ[si]?=some .free:=by
   intro ho
   have:=(b3 ho).2
   rw [Zdi,Zfl (fun ho'=>hsne ho' (b3 ho).1)] at this
   exact this
  rw [a6 _ (ZaI σ si oc) (rdJ vi) (fun t ht=>Zfl (fun ho e=>by
   subst e
   obtain ⟨x,hx,hne⟩:=a5 si ht
   rw [hsi ho] at hx;injection hx with hx;exact hne hx.symm)) (fun h1 hf=>by
   rw [Zdi] at hf ⊢
   rwa [Zfl (fun ho=>(hs h1 (b3 ho).1).symm)]),ZcV vi vj (fun d hd he=>d2 d he hd),Zyx (fun h1 h2=>(hs (a3 h2).1 (b3 h1).1).symm)]
 ·obtain ⟨oc,rfl,rfl,b3,b4,b5,b6⟩:=Zek hi hp2
  have hrd:ci.rd=[]:=by simpa using hp3
  obtain ⟨rfl,f2⟩:=ZdD hj
  cases oc with
  | none =>
   simp only [ZaI] at b6 ⊢
   have g1:=b6 tm σ (rdI vj) (by rw [hrd];intro t ht;simp at ht) (fun h1 h2=>by
    rw [Zdi] at h2 ⊢
    exact ZvW hp1 hj h2)
   refine ⟨_,_,g1,?_⟩
   rw [f2 _ (rdJ vi),ZcV vi vj (fun d hd he=>d2 d he hd)]
  | some b =>
   have hfr:=(b3 rfl).2
   rw [Zdi] at hfr
   obtain ⟨k1,k2⟩:=Zxe hp1 hj hfr (fun i hi=>by omega)
   have g1:=b6 tm σ (rdI vj) (by rw [hrd];intro t ht;simp at ht) (fun h1 h2=>by
    rw [Zdi] at h2 ⊢;exact k1)
   refine ⟨_,_,g1,?_⟩
   have:=k2 b (tput tm oi.dst vi) (rdJ vi)
   simp only [ZaI]
   rw [this,ZcV vi vj (fun d hd he=>d2 d he hd)]
 ·obtain ⟨t,k,o,q1,rfl,rfl,q4,q5⟩:=ZiX hp1 hj hp4
  obtain ⟨rfl,f2⟩:=ZdD hi
  have g1:=f2 tm (rdI vj)
  refine ⟨_,_,g1,?_⟩
  obtain ⟨cs,q6,q7⟩:=q5
  obtain ⟨r1,r2⟩:=Zt9 hp2 hi hp3 q6
  have hv:∃ cs,σ2[t]?=some (.var cs)/\partA k cs o=some vj:=by
   unfold ZcD at hp4
   rw [q1] at hp4
   simp only at hp4
   split at hp4
   ·rename_i hl;exact ⟨cs,r1 hl,q7⟩
   ·rename_i cs2 hl
    split at hp4
    ·rename_i u hu
     rw [ZrN hp4] at hu
     exact ⟨cs2,r2 cs2 hl,hu⟩
    ·cases hp4
  rw [q4 _ σ2 (rdJ vi) hv,ZcV vi vj (fun d hd he=>d2 d he hd)]
 ·obtain ⟨t,k,o,q1,rfl,rfl,q4,q5⟩:=ZiX hp1 hj hp4
  obtain ⟨rfl,f2⟩:=ZdD hi
  have g1:=f2 tm (rdI vj)
  refine ⟨_,_,g1,?_⟩
  obtain ⟨cs,q6,q7⟩:=q5
  have hk:σ2[t]?=some (.var cs):=by
   rcases hp2 with hp2 | ⟨hp2,hp3⟩
   ·exact ZqK hp2 hi q6
   ·refine ZxN hp2 ?_ hi q6
    unfold Zjn at hp3
    rw [q1] at hp3
    simpa using hp3
  rw [q4 _ σ2 (rdJ vi) ⟨cs,hk,q7⟩,ZcV vi vj (fun d hd he=>d2 d he hd)]
 ·obtain ⟨rfl,rfl,q⟩:=Zr4 hp1 hj
  obtain ⟨rfl,f2⟩:=ZdD hi
  have g1:=f2 tm (rdI vj)
  refine ⟨_,_,g1,?_⟩
  rw [q _ σ2 (rdJ vi) (Zrk hp2 hi),ZcV vi vj (fun d hd he=>d2 d he hd)]
 ·have hgot:∃ t0 k0 o0 v0,ci.got=[(t0,k0,o0,v0)]/\t0 < sj/\cj.upd.lookup t0=none:=by
   unfold ZjX at hp4
   split at hp4
   ·rename_i t0 k0 o0 v0 hg
    simp only [Xr,decide_eq_true_eq,Option.isNone_iff_eq_none] at hp4
    exact ⟨t0,k0,o0,v0,hg,hp4.1,hp4.2⟩
   ·cases hp4
  obtain ⟨t0,k0,o0,v0,hg,hlt,hnone⟩:=hgot
  have hg0:ZcD ci {}=true:=by
   unfold ZcD
   rw [hg]
   rfl
  obtain ⟨rfl,f2⟩:=ZdD hj
  obtain ⟨t,k,o,q1,rfl,rfl,q4,cs,q6,q7⟩:=ZiX hp2 hi hg0
  rw [hg] at q1
  injection q1 with q1 _
  injection q1 with q1 _
  subst q1
  have hk:=ZsN hp1 hj hp3 hnone hlt q6
  have g1:=q4 tm σ (rdI vj) ⟨cs,hk,q7⟩
  refine ⟨_,_,g1,?_⟩
  rw [f2 _ (rdJ vi),ZcV vi vj (fun d hd he=>d2 d he hd)]
 ·obtain ⟨oc,rfl,rfl,b3,b4,b5,b6⟩:=Zek hi hp3
  have hn0:nsite oi.ins=0:=by simpa using hp4
  have hoc:oc=none:=by
   cases oc with
   | none=>rfl
   | some b=>exact absurd hn0 (b3 rfl).1
  subst hoc
  simp only [ZaI] at b6 ⊢
  obtain ⟨rfl,f2⟩:=ZdD hj
  have far:∀ t ∈ ci.rd,σ[t]?=σ1[t]?:=by
   intro t ht
   have hq:=XB.1 hp5 t ht
   simp only [Xr,Wn,bne_iff_ne,ne_eq] at hq
   rcases ZhY hp1 hj with ⟨_,_,rfl,_⟩ | ⟨_,_,_,_,_,ha,_⟩
   ·rfl
   ·exact (ZrU ha (by simpa using hp2) hq.1 hq.2).symm
  have g1:=b6 tm σ (rdI vj) far (fun h1 _=>absurd hn0 h1)
  refine ⟨_,_,g1,?_⟩
  rw [f2 _ (rdJ vi),ZcV vi vj (fun d hd he=>d2 d he hd)]
inductive ZbU (O:ZV) (bf:Nat->Bool) (ops:List AOp) (L:Nat) (cs:List Cls):List Nat->Tms->Za->Tms->Za->Prop
 | nil {tm:Tms} {σ:Za}:ZbU O bf ops L cs [] tm σ tm σ
 | cons {i:Nat} {l:List Nat} {v:AVal} {tm tm1 tm2:Tms} {σ σ1 σ2:Za}:ZS O bf (ops.getD i default) (L+sitesOf (ops.take i)) tm σ=some (v,tm1,σ1,cs.getD i {})->(∀ x,v≠.pan x)->ZbU O bf ops L cs l tm1 σ1 tm2 σ2->ZbU O bf ops L cs (i::l) tm σ tm2 σ2
theorem ZjY (ops:List AOp) {k:Nat} (h:k < ops.length):sitesOf (ops.take (k+1))=sitesOf (ops.take k)+nsite (ops[k]).ins:=by
 rw [List.take_succ_eq_append_getElem h]
 simp only [sitesOf,Wk,List.sum_append,Xy,XO,List.sum_cons,List.sum_nil,XU]
theorem Zj9 {ops:List AOp} {L:Nat}:∀ (m k:Nat) {cs cs':List Cls} {tm:Tms} {σ:Za} {tm':Tms} {σ':Za},k+m=ops.length->ZY O bf (ops.drop k) (L+sitesOf (ops.take k)) tm σ=some (tm',σ',cs',none)->(∀ j,cs'.getD j {}=cs.getD (k+j) {})->ZbU O bf ops L cs (Xav k m) tm σ tm' σ'
 | 0,k,cs,cs',tm,σ,tm',σ',hk,h,hcs=>by
  rw [Wx (by omega)] at h
  simp only [ZY,Xa,Xb] at h
  obtain ⟨rfl,rfl,rfl,_⟩:=h
  exact ZbU.nil
 | m+1,k,cs,cs',tm,σ,tm',σ',hk,h,hcs=>by
  have hlt:k < ops.length:=by omega
  rw [Wz hlt] at h
  simp only [ZY] at h
  split at h
  ·cases h
  ·simp only [Xa,Xb] at h
   obtain ⟨_,_,_,h⟩:=h
   cases h
  rename_i v tm1 σ1 c hnp h1
  split at h
  ·cases h
  rename_i tm2 σ2 cs2 p h2
  simp only [Xa,Xb] at h
  obtain ⟨rfl,rfl,rfl,rfl⟩:=h
  rw [Xbe]
  have hc0:=hcs 0
  simp only [XP,XU] at hc0
  refine ZbU.cons (v:=v) (tm1:=tm1) (σ1:=σ1) ?_ (fun x e=>?_) (Zj9 m (k+1) (by omega) (cs':=cs2) ?_ (fun j=>?_))
  ·rw [<-hc0]
   simpa [Xi,hlt] using h1
  ·exact hnp x e
  ·rw [ZjY ops hlt,<-Wu];exact h2
  ·have:=hcs (j+1)
   simp only [XY] at this
   rw [this]
   congr 1;omega
theorem ZjF {ops:List AOp} {L:Nat} {cs:List Cls} {i:Nat} {l2:List Nat}:∀ {l1:List Nat} {tm:Tms} {σ:Za} {tm':Tms} {σ':Za},(∀ j ∈ l1,(ops.getD j default).apartT (ops.getD i default)=true/\ZbQ (ops.getD j default) (ops.getD i default) (cs.getD j {}) (cs.getD i {}) (L+sitesOf (ops.take j))=true/\(nsite (ops.getD j default).ins≠0->nsite (ops.getD i default).ins≠0->L+sitesOf (ops.take j)≠L+sitesOf (ops.take i))/\L+sitesOf (ops.take j)+nsite (ops.getD j default).ins<=L+sitesOf (ops.take i)) ->
  ZbU O bf ops L cs (l1++i::l2) tm σ tm' σ'->∃ v tm1 σ1,ZS O bf (ops.getD i default) (L+sitesOf (ops.take i)) tm σ=some (v,tm1,σ1,cs.getD i {})/\(∀ x,v≠.pan x)/\ZbU O bf ops L cs (l1++l2) tm1 σ1 tm' σ'
 | [],tm,σ,tm',σ',_,h=>by
  cases h with
  | cons h1 hn h2=>exact ⟨_,_,_,h1,hn,h2⟩
 | j::l1,tm,σ,tm',σ',hall,h=>by
  cases h with
  | cons h1 hn h2 =>
   obtain ⟨v3,tm3,σ3,h3,hn3,h4⟩:=ZjF (l1:=l1) (fun k hk=>hall k (by simp [hk])) h2
   obtain ⟨p1,p2,p3,p4⟩:=hall j (by simp)
   obtain ⟨tm4,σ4,h5,h6⟩:=Zmn h1 h3 p1 p2 p3 p4
   exact ⟨v3,tm4,σ4,h5,hn3,ZbU.cons h6 hn h4⟩
theorem ZmI {ops:List AOp} {L:Nat} {x:AVal}:∀ (m k:Nat) {cs cs':List Cls} {tm:Tms} {σ:Za} {tm':Tms} {σ':Za},k+m=ops.length->ZY O bf (ops.drop k) (L+sitesOf (ops.take k)) tm σ=some (tm',σ',cs',some x)->(∀ j,cs'.getD j {}=cs.getD (k+j) {}) ->
  ∃ n tmJ σJ tmX,n < m/\cs'.length=n+1/\ZbU O bf ops L cs (Xav k n) tm σ tmJ σJ/\ZS O bf (ops.getD (k+n) default) (L+sitesOf (ops.take (k+n))) tmJ σJ=some (.pan x,tmX,σ',cs.getD (k+n) {})
 | 0,k,cs,cs',tm,σ,tm',σ',hk,h,hcs=>by
  rw [Wx (by omega)] at h
  simp [ZY] at h
 | m+1,k,cs,cs',tm,σ,tm',σ',hk,h,hcs=>by
  have hlt:k < ops.length:=by omega
  rw [Wz hlt] at h
  simp only [ZY] at h
  have hc0:=hcs 0
  have hg:ops.getD k default=ops[k]:=by simp [Xi,hlt]
  split at h
  ·cases h
  ·rename_i y tm1 σ1 c h1
   simp only [Xa,Xb] at h
   obtain ⟨rfl,rfl,rfl,rfl⟩:=h
   simp only [XP,XU] at hc0
   refine ⟨0,tm,σ,tm1,by omega,rfl,ZbU.nil,?_⟩
   rw [XU,<-hc0,hg]
   exact h1
  rename_i v tm1 σ1 c hnp h1
  split at h
  ·cases h
  rename_i tm2 σ2 cs2 p h2
  simp only [Xa,Xb] at h
  obtain ⟨rfl,rfl,rfl,rfl⟩:=h
  simp only [XP,XU] at hc0
  have hnext:ZY O bf (ops.drop (k+1)) (L+sitesOf (ops.take (k+1))) tm1 σ1=some (tm2,σ2,cs2,some x):=by
   rw [ZjY ops hlt,<-Wu]
   exact h2
  obtain ⟨n,tmJ,σJ,tmX,g1,g2,g3,g4⟩:=ZmI m (k+1) (cs:=cs) (by omega) hnext (fun j=>by
   have:=hcs (j+1)
   simp only [XY] at this
   rw [this];congr 1;omega)
  refine ⟨n+1,tmJ,σJ,tmX,by omega,by simp [g2],?_,?_⟩
  ·rw [Xbe]
   refine ZbU.cons (v:=v) (tm1:=tm1) (σ1:=σ1) ?_ (fun x e=>hnp x e) g3
   rw [<-hc0,hg]
   exact h1
  ·rw [show k+(n+1)=k+1+n by omega]
   exact g4
theorem ZzE {o:AOp} {v:AVal} {c:Cls} {tm tm1:Tms} {σ σ1:Za} {sq:Nat} (hq:o.ins.touches=false\/Zb8 o.ins=true) (h:ZS O bf o sq tm σ=some (v,tm1,σ1,c)):σ1=σ:=by
 unfold ZS at h
 split at h
 ·cases h
 ·simp only [Xa,Xb] at h;exact h.2.2.1.symm
 ·split at h
  ·split at h
   ·rename_i he
    simp only [Xa,Xb] at h
    rw [<-h.2.2.1]
    rcases hq with hq | hq
    ·exact Zoo hq he
    ·cases hi:o.ins with
     | ld k a =>
      rw [hi] at he
      simp only [execI] at he
      unfold ldA at he
      repeat' split at he
      all_goals first | (simp only [Xa,Xb] at he;exact he.2.1.symm) | cases he
     | _=>rw [hi] at hq;simp [Zb8] at hq
   ·cases h
  ·cases h
theorem Zm6 {ops:List AOp} {L:Nat} {cs:List Cls} {i:Nat} {x:AVal} {tmX:Tms} {σX:Za}:∀ {l1:List Nat} {tm:Tms} {σ:Za} {tm':Tms} {σ':Za},(∀ j ∈ l1,((ops.getD j default).ins.touches=false\/Zb8 (ops.getD j default).ins=true)/\(ops.getD j default).apartT (ops.getD i default)=true/\ZbQ (ops.getD j default) (ops.getD i default) (cs.getD j {}) (cs.getD i {}) (L+sitesOf (ops.take j))=true/\(nsite (ops.getD j default).ins≠0->nsite (ops.getD i default).ins≠0->L+sitesOf (ops.take j)≠L+sitesOf (ops.take i))/\L+sitesOf (ops.take j)+nsite (ops.getD j default).ins<=L+sitesOf (ops.take i)) ->
  ZbU O bf ops L cs l1 tm σ tm' σ'->ZS O bf (ops.getD i default) (L+sitesOf (ops.take i)) tm' σ'=some (.pan x,tmX,σX,cs.getD i {})->∃ tm1,ZS O bf (ops.getD i default) (L+sitesOf (ops.take i)) tm σ=some (.pan x,tm1,σX,cs.getD i {})
 | [],tm,σ,tm',σ',_,h,hp=>by
  cases h
  exact ⟨_,hp⟩
 | j::l1,tm,σ,tm',σ',hall,h,hp=>by
  cases h with
  | cons h1 hn h2 =>
   obtain ⟨tm3,h3⟩:=Zm6 (l1:=l1) (fun k hk=>hall k (by simp [hk])) h2 hp
   obtain ⟨hq,p1,p2,p3,p4⟩:=hall j (by simp)
   obtain ⟨tm4,σ4,h5,h6⟩:=Zmn h1 h3 p1 p2 p3 p4
   have:=ZzE hq h6
   subst this
   exact ⟨tm4,h5⟩
end
end
end Go.Proofs.Ytcgndmenpdhjcaa
