/- packed -/
import Derived.Test.YteepdofekjheaaaDoorMq2
import Derived.Defers
import Derived.Recover
import Derived.Tactics
import Derived.Test.YteepdofekjheaaaDoorProg
import Derived.Shelf.Unicode.ValidAny
import Derived.Test.YteepdofekjheaaaDoorMq4
import Derived.Test.YteepdofekjheaaaDoorMq3
set_option linter.defProp false
set_option linter.unusedSectionVars false
set_option linter.unusedSimpArgs false
set_option linter.unusedVariables false
open Nat renaming reduceEqDiff→Xa,reduceLT→Xc,reduceAdd→Xe,reduceLeDiff→Xf,reduceBEq→Xg,le_refl→Xx,zero_add→XG,add_zero→XT,reduceSub→WJ,add_eq_zero_iff→Xaf,succ_ne_self→Xav
open Option.some renaming injEq→Xb
open List renaming getD_eq_getElem?_getD→Xh,getElem?_eq_some_iff→Xj,length_append→Xk,append_nil→Xm,getElem?_set_ne→Xn,map_cons→Xo,getElem?_set→Xs,getD_cons_zero→Xu,nil_append→Xw,eq_nil_of_length_eq_zero→Xy,mem_of_getElem?→Xz,map_nil→XA,lookup_nil→XC,all_cons→XD,length_cons→XF,flatMap_cons→XH,getElem?_cons_zero→XI,length_nil→XJ,take_of_length_le→XK,lookup_cons→XL,getD_cons_succ→XN,getElem?_cons_succ→XO,mem_cons→XQ,cons_append→XU,length_map→XW,flatMap_nil→XX,getElem?_set_self→X2,drop_eq_nil_iff→X4,range→X6,map_append→X9,append_assoc→Wa,length_drop→Wb,take_length→Wl,flatten_cons→Wp,all_nil→Wr,ext_getElem?→Wt,isEmpty_cons→Wu,set_cons_zero→WO,set_cons_succ→WP,contains_nil→WY,length→Xae,contains_cons→Xak,range_zero→XaE
open Bool renaming false_eq_true→Xi,and_eq_true→Xl,and_self→Wg,and_true→Xap,or_false→XaN
open Int renaming reduceBEq→Xq,reduceLT→X1
open Or renaming inl→Xr,inr→Xv
open BitVec renaming ofInt→XR
open Option renaming map→Wd,getD_some→WL
open Array renaming getD→WW,replicate→W3
open List.range renaming loop→XaR
namespace Go.Proofs.YteepdofekjheaaaDoor
set_option maxHeartbeats 16000000
set_option maxRecDepth 10000
section
open Go.RowKit
def Zff (m i j:Nat) (rs:List ZcQ) (σ:Za):Option (AVal×Za):=match resA [(3,.ref j 0),(2,.ref i 0)] σ rs with
 | some r=>Zak m σ r
 | none=>none
noncomputable def ZgF (fs:Nat->Option ZQ) (prim:ZcM) (bf:Nat->Bool) (tc:Nat) (c2 c3:Zf) (rs:List ZcQ) (m:Nat) (tm1:Tms) (σ1:Za) (i j:Nat):Option (AVal×Za) :=
 match evC fs prim bf σ1.length c2 tm1 σ1 with
 | some (.ret,_,σ2)=>Zff m i j rs σ2
 | some (.panic (.iface t x),_,σ2)=>if t=tc then match evC fs prim bf σ1.length c3 [(10,x),(1,.ref j 0),(0,.ref i 0)] σ2 with
  | some (.normal,_,σ3)=>Zff m i j rs σ3
  | _=>none
  else none
 | _=>none
noncomputable def Ziq (fs:Nat->Option ZQ) (prim:ZcM) (bf:Nat->Bool) (tc:Nat) (c1 c2 c3:Zf) (rs:List ZcQ) (args:List AVal) (σ:Za):Option (AVal×Za) :=
 match evC fs prim bf σ.length c1 (enterA 0 args []) σ with
 | some (.normal,tm1,σ1)=>match tget tm1 2,tget tm1 3 with
  | .ref i 0,.ref j 0=>if σ.length<=σ1.length/\i < σ1.length/\j < σ1.length then ZgF fs prim bf tc c2 c3 rs σ.length (tput tm1 (some 5) .top) σ1 i j else none
  | _,_=>none
 | _=>none
structure Zlu (P:Program) (f h:FuncId) (ti tc:TypeId) (an1 an2 an3:Ann) (c1 c2 c3:Zf) (rs:List ZcQ):Prop where
 ex:∃ (F H:Func) (b1 b2 b3 b4:Code) (i0 j0 j1 j2 j3 bid:Nat) (t1 t2 t3 t4 t5 t6 t7 t8:TypeId) (p1 p2 p3 p4 p5 p6 p7 p8:String) (a1 a2 a3 a4 a5 a6 a7 a8:Array Edge) (at1 at2:Array TypeId) (ims:Array (String×TypeId)) (k:IntKind),
  P.funcs[f]?=some F/\(F.name == "runtime.NumGoroutine")=false/\F.ntmps=20/\ZeU P F.results.toList=some rs /\
  F.body=some (.seq b1 (.seq (.region i0 #[⟨some 5,.makeFunc (.func h) #[] #[.tmp 2,.tmp 3],t1,p1,a1,none⟩,⟨none,.defer ⟨.value (.tmp 5),#[],at1⟩,t2,p2,a2,none⟩] false) b2)) /\
  ZcR (Za6 P an1 b1)=c1/\ZcR (Za6 P an2 b2)=c2/\an1.nt=20/\an2.nt=20/\an2.keep=[2,3] /\
  P.funcs[h]?=some H/\(H.name == "runtime.NumGoroutine")=false/\H.ntmps=13/\H.results=#[] /\
  H.body=some (.seq (.region j0 #[⟨some 5,.call ⟨.builtin .recover,#[],at2⟩,t3,p3,a3,none⟩] false) (.block bid (.seq (.region j1 #[⟨some 7,.binOp .eql ti (.tmp 5) (.const .nilIface) ti,t4,p4,a4,none⟩] false)
   (.cond (.tmp 7) (.region j2 #[⟨some 2,.assign (.tmp 5),t5,p5,a5,none⟩] false)
    (.seq (.region j3 #[⟨some 8,.typeAssert (.tmp 5) ti tc true,t6,p6,a6,none⟩,⟨some 9,.extract (.tmp 8) 1,t7,p7,a7,none⟩,⟨some 10,.extract (.tmp 8) 0,t8,p8,a8,none⟩] false)
     (.cond (.tmp 9) b3 b4)))))) /\
  ZcR (Za6 P an3 b3)=c3/\an3.nt=13/\P.underlying ti=some (.interface ims)/\P.underlying tc=some (.int k)
section
variable {P:Program} {O:ZX} {bf:Nat->Bool} {base:Nat->Prop} {w0 w:World} {I0 I:Imm} {β:Bmap} {σ:Za}
theorem ZiI {m:Nat} {I':Imm} {β':Bmap} {i:Nat} {v:Value} (hk:KeptE m β β') (hi:i < m) (h:VR I β (.ref i 0) v):VR I' β' (.ref i 0) v:=by
 simp only [VR] at h ⊢
 obtain ⟨b,k,c,h1,h2⟩:=h
 exact ⟨b,k,c,hk i hi _ h1,h2⟩
theorem ZvX {F:Func} {rs:List ZcQ} (hrs:ZeU P F.results.toList=some rs) {m i j:Nat} {tmps:Array Value} {I':Imm} {β':Bmap} {σ' σ2:Za} {w':World} {r:AVal} (hI:I.le I') (hk:KeptE m β β') (R:Rel base w0 I0 I' β' σ2 w') (h2:VR I' β' (.ref i 0) (tmps.getD 2 undef)) (h3:VR I' β' (.ref j 0) (tmps.getD 3 undef)) (h:Zff m i j rs σ2=some (r,σ')) :
  ∃ v,(results F tmps).run P w'=.ok v w'/\∃ u,Ends r (.returned v) u/\Zcd m base w0 I0 I β r σ' u w':=by
 unfold Zff at h
 split at h
 ·rename_i x hx
  have T:TR I' β' [(3,.ref j 0),(2,.ref i 0)] tmps:=by
   intro n
   simp only [tget]
   split
   ·rename_i e;subst e;exact h3
   ·split
    ·rename_i e;subst e;exact h2
    ·simp only [VR]
  obtain ⟨v,q1,q2⟩:=Zsu T R hrs hx
  have hnp:∀ y,x≠.pan y:=by rintro y rfl;simp only [VR] at q2
  obtain ⟨p1,p2⟩:=ZkR (⟨I',β',hI,hk,R,by rw [Zgw hnp];exact q2⟩:Zcd m base w0 I0 I β x σ2 v w') h
  refine ⟨v,q1,v,p2 _ ?_,p1⟩
  cases x <;> first | rfl | exact absurd rfl (hnp _)
 ·cases h
theorem pgs {a:Act} {d:Nat} {u:Value} (h:d < a.tmps.size):(a.put (some d) u).tmps.getD d undef=u:=by
 simp [Act.put,WW,h]
theorem ZiM {m:Sem Value} {u:Value} (h:m.run P w=.ok u w):(do let q <-m;pure (Next.value q):Sem Next).run P w=.ok (.value u) w:=by
 rw [Sem.run_bind,h];rfl
theorem pgn {a:Act} {d j:Nat} {u:Value} (h:d≠j):(a.put (some d) u).tmps.getD j undef=a.tmps.getD j undef:=by
 simp only [Act.put,Array.getD_eq_getD_getElem?]
 rw [Array.getElem?_setIfInBounds_ne h]
theorem ZCK (hm:P.follows .mixedOrders=true) (hO:ZaK P O) {f h:FuncId} {ti tc:TypeId} {an1 an2 an3:Ann} {c1 c2 c3:Zf} {rs:List ZcQ} (D:Zlu P f h ti tc an1 an2 an3 c1 c2 c3 rs) (hb:KLt base w0) (R:Rel base w0 I0 I β σ w)
  {i j m n:Nat} {x:AVal} {v2 v3 v:Value} (h2:VR I β (.ref i 0) v2) (h3:VR I β (.ref j 0) v3) (hv:VR I β x v) {tm':Tms} {σ':Za} (hx:Zad O bf m n c3 [(10,x),(1,.ref j 0),(0,.ref i 0)] σ=some (.normal,tm',σ')) :
  CallsD P h #[v2,v3] (.panicking [{ v:=.iface tc v,recovered:=false }]) w fun e u' w'=>e=.returned (.tuple #[])/\u'=.panicking [{ v:=.iface tc v,recovered:=true }]/\∃ I' β',I.le I'/\KeptE m β β'/\Rel base w0 I0 I' β' σ' w':=by
 obtain ⟨F,H,b1,b2,b3,b4,i0,j0,j1,j2,j3,bid,t1,t2,t3,t4,t5,t6,t7,t8,p1,p2,p3,p4,p5,p6,p7,p8,a1,a2,a3,a4,a5,a6,a7,a8,at1,at2,ims,k,hF,hname,hnt,hrs,hbody,hc1,hc2,hn1,hn2,hk2,hH,hHname,hHn,hHr,hHb,hc3,hn3,hti,htc⟩:=D.ex
 refine callsD_of_wpS hH hHb fun c₀ cs hu=>?_
 apply wpS_seq
 apply wpS_region
 simp [wpOpsS,go_sem,recoverD,hu,hHn,Exit.thenS]
 refine wpS_of_wp ?_
 generalize hT:(#[v2,v3]++(W3 11 undef).setIfInBounds 3 (Value.iface tc v))=T
 have hs:T.size=13:=by rw [<-hT];simp
 have hT0:T.getD 0 undef=v2:=by rw [<-hT];simp [WW]
 have hT1:T.getD 1 undef=v3:=by rw [<-hT];simp [WW]
 have hT5:T.getD 5 undef=.iface tc v:=by rw [<-hT];simp [WW]
 clear hT
 refine wp_block (wp_seq (wp_region_list (ZeW rfl ?_)))
 unfold Oper.wp
 have e1:∀ o:Oper,o.op=.binOp .eql ti (.tmp 5) (.const .nilIface) ti->(execOp ({ tmps:=T,defers:=[] }:Act).eval o).run P w=.ok (.value (.bool false)) w:=by
  intro o ho
  unfold execOp;rw [ho]
  simp only [Act.eval,hT5]
  exact ZiM (Zun (P:=P) (w:=w) (t1:=tc) (u:=v) hti false (op:=.eql) (.tmp 5) .nilIface rfl)
 rw [e1 _ rfl,Oper.upon_value]
 refine wpList_nil ?_
 simp only [Exit.then]
 refine wp_cond_false (by simp only [Act.eval];exact pgs (by simp [hs])) ?_
 refine wp_seq (wp_region_list (ZeW rfl ?_))
 unfold Oper.wp
 generalize hA1:({ tmps:=T,defers:=[] }:Act).put (some 7) (.bool false)=A1
 have hs1:A1.tmps.size=13:=by rw [<-hA1,ZeI];exact hs
 have g1:∀ j,j≠7->A1.tmps.getD j undef=T.getD j undef:=by intro j hj;rw [<-hA1];exact pgn (by omega)
 have hd1:A1.defers=[]:=by rw [<-hA1];rfl
 have e2:∀ o:Oper,o.op=.typeAssert (.tmp 5) ti tc true->(execOp A1.eval o).run P w=.ok (.value (.tuple #[v,.bool true])) w:=by
  intro o ho
  unfold execOp;rw [ho]
  simp only [Act.eval,g1 5 (by omega),hT5]
  refine ZiM ?_
  simp [Instr.typeAssert,underlying,htc]
 rw [e2 _ rfl,Oper.upon_value]
 generalize hA2:A1.put (some 8) (.tuple #[v,.bool true])=A2
 have hs2:A2.tmps.size=13:=by rw [<-hA2,ZeI];exact hs1
 have g2:∀ j,j≠8->A2.tmps.getD j undef=A1.tmps.getD j undef:=by intro j hj;rw [<-hA2];exact pgn (by omega)
 have g28:A2.tmps.getD 8 undef=.tuple #[v,.bool true]:=by rw [<-hA2];exact pgs (by omega)
 have hd2:A2.defers=[]:=by rw [<-hA2];exact hd1
 refine ZeW rfl ?_
 unfold Oper.wp
 have e3:∀ o:Oper,o.op=.extract (.tmp 8) 1->(execOp A2.eval o).run P w=.ok (.value (.bool true)) w:=by
  intro o ho
  unfold execOp;rw [ho]
  simp only [Act.eval,g28]
  refine ZiM ?_
  simp [Instr.extract]
 rw [e3 _ rfl,Oper.upon_value]
 generalize hA3:A2.put (some 9) (.bool true)=A3
 have hs3:A3.tmps.size=13:=by rw [<-hA3,ZeI];exact hs2
 have g3:∀ j,j≠9->A3.tmps.getD j undef=A2.tmps.getD j undef:=by intro j hj;rw [<-hA3];exact pgn (by omega)
 have g39:A3.tmps.getD 9 undef=.bool true:=by rw [<-hA3];exact pgs (by omega)
 have hd3:A3.defers=[]:=by rw [<-hA3];exact hd2
 refine ZeW rfl ?_
 unfold Oper.wp
 have e4:∀ o:Oper,o.op=.extract (.tmp 8) 0->(execOp A3.eval o).run P w=.ok (.value v) w:=by
  intro o ho
  unfold execOp;rw [ho]
  simp only [Act.eval,g3 8 (by omega),g28]
  refine ZiM ?_
  simp [Instr.extract]
 rw [e4 _ rfl,Oper.upon_value]
 generalize hA4:A3.put (some 10) v=A4
 have hs4:A4.tmps.size=13:=by rw [<-hA4,ZeI];exact hs3
 have g4:∀ j,j≠10->A4.tmps.getD j undef=A3.tmps.getD j undef:=by intro j hj;rw [<-hA4];exact pgn (by omega)
 have g410:A4.tmps.getD 10 undef=v:=by rw [<-hA4];exact pgs (by omega)
 have hd4:A4.defers=[]:=by rw [<-hA4];exact hd3
 refine wpList_nil ?_
 simp only [Exit.then]
 refine wp_cond_true (by simp only [Act.eval];rw [g4 9 (by omega),g39]) ?_
 have hst:StF ZbX m an3.nt base w0 I0 I β [(10,x),(1,.ref j 0),(0,.ref i 0)] σ A4 w:=by
  refine ⟨I,β,Imm.le.refl I,KeptE.refl _ β,fun n=>?_,⟨Zfv.2 hd4,by rw [hs4,hn3];omega⟩,R⟩
  simp only [tget]
  split
  ·rename_i e;subst e;rw [g410];exact hv
  ·split
   ·rename_i e;subst e;rw [g4 1 (by omega),g3 1 (by omega),g2 1 (by omega),g1 1 (by omega),hT1];exact h3
   ·split
    ·rename_i e;subst e;rw [g4 0 (by omega),g3 0 (by omega),g2 0 (by omega),g1 0 (by omega),hT0];exact h2
    ·simp only [VR]
 rw [<-hc3,Zel] at hx
 refine ZjZ (dr:=ZbX) (an:=an3) hO (fun n hn=>by simp [ZbX] at hn) hm hb m n rfl hst hx ?_
 intro a' w' ⟨I',β',k1,k2,k3,k4,k5⟩
 simp only [Exit.inBlock,bodyPostS]
 refine ⟨Zfv.1 k4.1,_,rfl,.tuple #[],?_,rfl,rfl,I',k1,β',k2,k5⟩
 simp [results,hHr]
theorem ZNt {f h:FuncId} {ti tc:TypeId} {an1 an2 an3:Ann} {c1 c2 c3:Zf} {rs:List ZcQ} (D:Zlu P f h ti tc an1 an2 an3 c1 c2 c3 rs) {v2 v3:Value} {w:World} :
  CallsD P h #[v2,v3] .returning w fun e u' w'=>e=.returned (.tuple #[])/\u'=.returning/\w'=w:=by
 obtain ⟨F,H,b1,b2,b3,b4,i0,j0,j1,j2,j3,bid,t1,t2,t3,t4,t5,t6,t7,t8,p1,p2,p3,p4,p5,p6,p7,p8,a1,a2,a3,a4,a5,a6,a7,a8,at1,at2,ims,k,hF,hname,hnt,hrs,hbody,hc1,hc2,hn1,hn2,hk2,hH,hHname,hHn,hHr,hHb,hc3,hn3,hti,htc⟩:=D.ex
 refine callsD_of_wpS hH hHb fun c₀ cs hu=>?_
 apply wpS_seq
 apply wpS_region
 simp [wpOpsS,go_sem,recoverD,hu,hHn,Exit.thenS]
 refine wpS_of_wp ?_
 generalize hT:(#[v2,v3]++(W3 11 undef).setIfInBounds 3 Value.nilIface)=T
 have hs:T.size=13:=by rw [<-hT];simp
 have hT5:T.getD 5 undef=.nilIface:=by rw [<-hT];simp [WW]
 clear hT
 refine wp_block (wp_seq (wp_region_list (ZeW rfl ?_)))
 unfold Oper.wp
 have e1:∀ o:Oper,o.op=.binOp .eql ti (.tmp 5) (.const .nilIface) ti->(execOp ({ tmps:=T,defers:=[] }:Act).eval o).run P w=.ok (.value (.bool true)) w:=by
  intro o ho
  unfold execOp;rw [ho]
  simp only [Act.eval,hT5]
  exact ZiM (ZuF (P:=P) (w:=w) hti false (op:=.eql) (.tmp 5) .nilIface rfl)
 rw [e1 _ rfl,Oper.upon_value]
 refine wpList_nil ?_
 simp only [Exit.then]
 refine wp_cond_true (by simp only [Act.eval];exact pgs (by simp [hs])) ?_
 refine wp_region_list (ZeW rfl ?_)
 unfold Oper.wp
 generalize hA1:({ tmps:=T,defers:=[] }:Act).put (some 7) (.bool true)=A1
 have g1:∀ j,j≠7->A1.tmps.getD j undef=T.getD j undef:=by intro j hj;rw [<-hA1];exact pgn (by omega)
 have hd1:A1.defers=[]:=by rw [<-hA1];rfl
 have e2:∀ o:Oper,o.op=.assign (.tmp 5)->(execOp A1.eval o).run P w=.ok (.value .nilIface) w:=by
  intro o ho
  unfold execOp;rw [ho]
  simp [Act.eval,g1 5 (by omega),hT5]
 rw [e2 _ rfl,Oper.upon_value]
 refine wpList_nil ?_
 simp only [Exit.inBlock,bodyPostS]
 refine ⟨hd1,.returning,?_,.tuple #[],?_,rfl,rfl,trivial⟩
 ·cases c₀;simp_all
 ·simp [results,hHr]
end
section
variable {P:Program} {fs:Nat->Option ZQ} {prim:ZcM} {bf:Nat->Bool}
theorem ZDu (hm:P.follows .mixedOrders=true) (hO:∀ n,ZaK P (ZaE fs prim bf n)) {f h:FuncId} {ti tc:TypeId} {an1 an2 an3:Ann} {c1 c2 c3:Zf} {rs:List ZcQ} (D:Zlu P f h ti tc an1 an2 an3 c1 c2 c3 rs)
  {args:List AVal} {σ σ':Za} {r:AVal} (hg:Ziq fs prim bf tc c1 c2 c3 rs args σ=some (r,σ')) :
  (∃ fn,P.funcs[f]?=some fn/\fn.body.isSome=true/\(fn.name == "runtime.NumGoroutine")=false) /\
  ∀ base w0 I0 I β w (vs:Array Value),KLt base w0->Rel base w0 I0 I β σ w->VRs I β args vs.toList ->
   Calls P f vs w (fun e w'=>∃ u,Ends r e u/\Zcd σ.length base w0 I0 I β r σ' u w'):=by
 obtain ⟨F,H,b1,b2,b3,b4,i0,j0,j1,j2,j3,bid,t1,t2,t3,t4,t5,t6,t7,t8,p1,p2,p3,p4,p5,p6,p7,p8,a1,a2,a3,a4,a5,a6,a7,a8,at1,at2,ims,k,hF,hname,hnt,hrs,hbody,hc1,hc2,hn1,hn2,hk2,hH,hHname,hHn,hHr,hHb,hc3,hn3,hti,htc⟩:=D.ex
 refine ⟨⟨F,hF,by rw [hbody];rfl,hname⟩,?_⟩
 intro base w0 I0 I β w vs hb R hargs
 unfold Ziq at hg
 split at hg
 case h_2=>cases hg
 rename_i tm1 σ1 hx1
 split at hg
 case h_2=>cases hg
 rename_i i j hi hj
 split at hg
 case isFalse=>cases hg
 rename_i hlen
 obtain ⟨hl0,hli,hlj⟩:=hlen
 obtain ⟨n1,hx1⟩:=Zby.1 hx1
 rw [<-hc1,Zel] at hx1
 refine calls_of_wp_defers hF hbody ?_
 have T:=ZnD hargs (F.ntmps - vs.size)
 have hst:StF ZbX σ.length an1.nt base w0 I0 I β (enterA 0 args []) σ { tmps:=vs++W3 (F.ntmps - vs.size) undef,defers:=[] } w:=⟨I,β,Imm.le.refl I,KeptE.refl _ β,T,⟨Zfv.2 rfl,by rw [hn1];simp;omega⟩,R⟩
 refine wp_seq ?_
 refine ZjZ (dr:=ZbX) (an:=an1) (hO n1) (fun n hn=>by simp [ZbX] at hn) hm hb σ.length n1 rfl hst hx1 ?_
 rintro A0 w1 ⟨I1,β1,g1,g2,T1,⟨gd,gs⟩,R1⟩
 have gd:=Zfv.1 gd
 rw [hn1] at gs
 simp only [Exit.then]
 refine wp_seq (wp_region_list (ZeW rfl ?_))
 unfold Oper.wp
 have e1:∀ o:Oper,o.op=.makeFunc (.func h) #[] #[.tmp 2,.tmp 3]->(execOp A0.eval o).run P w1=.ok (.value (.func (.func h) #[] #[A0.tmps.getD 2 undef,A0.tmps.getD 3 undef])) w1:=by
  intro o ho
  unfold execOp;rw [ho]
  refine ZiM ?_
  simp [Instr.makeFunc,Act.eval]
 rw [e1 _ rfl,Oper.upon_value]
 generalize hv2:A0.tmps.getD 2 undef=v2
 generalize hv3:A0.tmps.getD 3 undef=v3
 have hr2:VR I1 β1 (.ref i 0) v2:=by rw [<-hv2,<-hi];exact T1 2
 have hr3:VR I1 β1 (.ref j 0) v3:=by rw [<-hv3,<-hj];exact T1 3
 generalize hA1:A0.put (some 5) (.func (.func h) #[] #[v2,v3])=A1
 have hs1:A1.tmps.size=A0.tmps.size:=by rw [<-hA1,ZeI]
 have q1:∀ j,j≠5->A1.tmps.getD j undef=A0.tmps.getD j undef:=by intro j hj;rw [<-hA1];exact pgn (by omega)
 have q5:A1.tmps.getD 5 undef=.func (.func h) #[] #[v2,v3]:=by rw [<-hA1];exact pgs (by omega)
 have hd1:A1.defers=[]:=by rw [<-hA1];exact gd
 refine ZeW rfl ?_
 unfold Oper.wp
 have e2:∀ o:Oper,o.op=.defer ⟨.value (.tmp 5),#[],at1⟩->(execOp A1.eval o).run P w1=.ok (.defer ⟨.fn (.func h) #[v2,v3],#[]⟩) w1:=by
  intro o ho
  unfold execOp;rw [ho]
  simp [resolve,Act.eval,q5,Deferred.ofValue]
 rw [e2 _ rfl,Oper.upon_defer]
 refine wpList_nil ?_
 simp only [Exit.then]
 generalize hd:(⟨.fn (.func h) #[v2,v3],#[]⟩:Deferred)=d
 have hA2:({ A1 with defers:=d::A1.defers }:Act).put none undef={ A1 with defers:=[d] }:=by rw [hd1];rfl
 rw [hA2]
 let dr:Door:=⟨[d],[2,3],fun n=>if n=2 then v2 else v3⟩
 have hdr:dr.ok { A1 with defers:=[d] }:=by
  refine ⟨rfl,fun j hj=>?_⟩
  simp only [dr,XQ,List.not_mem_nil,or_false] at hj
  rcases hj with rfl | rfl
  ·show A1.tmps.getD 2 undef=_;rw [q1 2 (by omega),hv2];rfl
  ·show A1.tmps.getD 3 undef=_;rw [q1 3 (by omega),hv3];rfl
 have T2:TR I1 β1 (tput tm1 (some 5) .top) A1.tmps:=by
  rw [<-hA1]
  exact Zq3 T1 (by simp only [VR]) (fun n hn=>by injection hn with hn;omega)
 unfold ZgF at hg
 have hst2:StF dr σ1.length an2.nt base w0 I0 I1 β1 (tput tm1 (some 5) .top) σ1 { A1 with defers:=[d] } w1:=⟨I1,β1,Imm.le.refl I1,KeptE.refl _ β1,T2,⟨hdr,by rw [hn2];show 20<=A1.tmps.size;omega⟩,R1⟩
 have lift:∀ {I':Imm} {β':Bmap},I1.le I'->KeptE σ1.length β1 β'->I.le I'/\KeptE σ.length β β':=fun h1 h2=>⟨g1.trans h1,g2.trans (fun t ht bi e=>h2 t (by omega) bi e)⟩
 have hinv:∀ w:World,(invoke (.fn (.func h) #[v2,v3]) #[]).run P w=.ok (.enter h #[v2,v3]) w:=fun w=>by
  unfold invoke
  simpa using Zm7 (args:=#[v2,v3]) (w:=w) hH (by rw [hHb];rfl) hHname
 have tm2:∀ {A:Act},dr.ok A->A.tmps.getD 2 undef=v2/\A.tmps.getD 3 undef=v3:=fun hA=>⟨hA.2 2 (by simp [dr]),hA.2 3 (by simp [dr])⟩
 split at hg
 case h_3=>cases hg
 ·rename_i tmx σ2 hx2
  obtain ⟨n2,hx2⟩:=Zby.1 hx2
  rw [<-hc2,Zel] at hx2
  refine ZjZ (dr:=dr) (an:=an2) (hO n2) (fun n hn=>by rw [hk2];exact hn) hm hb σ1.length n2 rfl hst2 hx2 ?_
  rintro A3 w3 ⟨I3,β3,k1,k2,T3,⟨kd,ks⟩,R3⟩
  show Leaves P F A3.tmps _ A3.defers .returning w3
  rw [kd.1]
  show Leaves P F A3.tmps _ [d] .returning w3
  rw [<-hd]
  refine leaves_cons (f:=h) (args:=#[v2,v3]) (by simp) (hinv w3) ?_
  refine (ZNt D).mono ?_
  rintro e u' w' ⟨rfl,rfl,rfl⟩
  simp only [settle,Leaves]
  obtain ⟨l1,l2⟩:=lift k1 k2
  exact ZvX hrs l1 l2 R3 (by rw [(tm2 kd).1];exact ZiI k2 hli hr2) (by rw [(tm2 kd).2];exact ZiI k2 hlj hr3) hg
 ·rename_i t x tmx σ2 hx2
  split at hg
  case isFalse=>cases hg
  rename_i ht
  subst ht
  split at hg
  case h_2=>cases hg
  rename_i tmy σ3 hx3
  obtain ⟨n2,hx2⟩:=Zby.1 hx2
  rw [<-hc2,Zel] at hx2
  obtain ⟨n3,hx3⟩:=Zby.1 hx3
  refine ZjZ (dr:=dr) (an:=an2) (hO n2) (fun n hn=>by rw [hk2];exact hn) hm hb σ1.length n2 rfl hst2 hx2 ?_
  rintro A3 u w3 kd ⟨I3,β3,k1,k2,R3,kv⟩
  simp only [Za4,VR] at kv
  obtain ⟨v,rfl,kv⟩:=kv
  show Leaves P F A3.tmps _ A3.defers (.panicking [{ v:=.iface t v,recovered:=false }]) w3
  rw [kd.1]
  show Leaves P F A3.tmps _ [d] _ w3
  rw [<-hd]
  refine leaves_cons (f:=h) (args:=#[v2,v3]) (by simp) (hinv w3) ?_
  refine (ZCK hm (hO n3) D hb R3 (ZiI k2 hli hr2) (ZiI k2 hlj hr3) kv hx3).mono ?_
  rintro e u' w' ⟨rfl,rfl,I4,β4,m1,m2,R4⟩
  simp only [settle,List.dropWhile,Leaves]
  have k3:=k2.trans m2
  obtain ⟨l1,l2⟩:=lift (k1.trans m1) k3
  exact ZvX hrs l1 l2 R4 (by rw [(tm2 kd).1];exact ZiI k3 hli hr2) (by rw [(tm2 kd).2];exact ZiI k3 hlj hr3) hg
end
section
variable {fs:Nat->Option ZQ} {p p':ZcM} {bf:Nat->Bool}
theorem Zuq (h0:∀ f,p f=none->p' f=none) (h1:∀ f g,p f=some g->p' f=some g\/∀ a σ,g a σ=none):∀ n,OLe (ZaE fs p bf n) (ZaE fs p' bf n)
 | 0=>by intro f a σ r h;simp only [ZaE] at h;cases h
 | n+1=>by
  intro f a σ r h
  rw [ZaE] at h ⊢
  split at h
  ·rename_i g hg
   rcases h1 f g hg with h2 | h2
   ·rw [h2];exact h
   ·rw [h2] at h;cases h
  ·rename_i hg
   rw [h0 f hg]
   split at h
   ·cases h
   ·rename_i fn hfn
    exact ZkZ (fun q hq=>ZdP (Zuq h0 h1 n) (Xx n) hq) h
theorem ZPg (h0:∀ f,p f=none->p' f=none) (h1:∀ f g,p f=some g->p' f=some g\/∀ a σ,g a σ=none):OLe (EV fs p bf) (EV fs p' bf):=by
 intro f a σ r h
 obtain ⟨n,hn⟩:=ZdK.1 h
 exact ZdK.2 ⟨n,Zuq h0 h1 n f a σ r hn⟩
end
end
section
open Go.Shelf
def Zyb:Ren:=⟨fun | 196=>83 | 259=>88 | n=>n,fun | 9=>9 | 4=>4 | 3=>3 | 5=>5 | 12=>12 | 119=>147 | 0=>0 | 46=>78 | 139=>150 | 138=>149 | 53=>107 | n=>n,fun | 3=>1 | 4=>2 | n=>n⟩
theorem ZwL:Go.Proofs.Lays.n196 Tryd.prog Zyb:={ mixed:=by kernel_rfl,f196:=Tryd.func83.trans (congrArg some (by kernel_rfl)),f259:=Tryd.func88.trans (congrArg some (by kernel_rfl)),t0:=Tryd.underlying0,a0:=Tryd.isAgg0,z0:=Tryd.sizeOf0,v0:=Tryd.zeroValue0,t3:=Tryd.underlying3,a3:=Tryd.isAgg3,z3:=Tryd.sizeOf3,v3:=Tryd.zeroValue3,t4:=Tryd.underlying4,a4:=Tryd.isAgg4,z4:=Tryd.sizeOf4,v4:=Tryd.zeroValue4,t5:=Tryd.underlying5,a5:=Tryd.isAgg5,z5:=Tryd.sizeOf5,v5:=Tryd.zeroValue5,t9:=Tryd.underlying9,a9:=Tryd.isAgg9,z9:=Tryd.sizeOf9,v9:=Tryd.zeroValue9,t12:=Tryd.underlying12,a12:=Tryd.isAgg12,z12:=Tryd.sizeOf12,v12:=Tryd.zeroValue12,t46:=Tryd.underlying78,a46:=Tryd.isAgg78,z46:=Tryd.sizeOf78,v46:=Tryd.zeroValue78,t53:=Tryd.underlying107,a53:=Tryd.isAgg107,z53:=Tryd.sizeOf107,v53:=Tryd.zeroValue107,t119:=Tryd.underlying147,a119:=Tryd.isAgg147,z119:=Tryd.sizeOf147,t138:=Tryd.underlying149,a138:=Tryd.isAgg149,z138:=Tryd.sizeOf149,v138:=Tryd.zeroValue149,t139:=Tryd.underlying150,a139:=Tryd.isAgg150,z139:=Tryd.sizeOf150,v139:=Tryd.zeroValue150,g3:=by kernel_rfl,g4:=by kernel_rfl }
end
section
set_option maxRecDepth 100000
theorem Zm0:Tryd.prog.follows .mixedOrders=true:=by kernel_rfl
theorem ZCF:Zvc Tryd.prog 24 1 1 (.int .u8 0) 58:=⟨_,_,_,_,_,_,_,_,_,_,_,rfl,rfl,rfl,by kernel_rfl,rfl,rfl,rfl,rfl,rfl,rfl,rfl,rfl,by kernel_rfl,by kernel_rfl,⟨_,_,_,_,rfl⟩,rfl,by decide⟩
theorem ZtW {α:Type} {d v:α}:∀ {l:List (Nat×α)} {n:Nat},ZeE d l n=v->v=d\/(n,v) ∈ l
 | [],n,h=>Xr h.symm
 | (k,w)::r,n,h=>by
  simp only [ZeE] at h
  split at h
  ·rename_i e;subst e h;exact Xv (by simp)
  ·rcases ZtW h with h | h
   ·exact Xr h
   ·exact Xv (by simp [h])
theorem ZvE:Zmp Tryd.prog PR:=by
 intro f g h args σ r σ' hg
 rcases ZtW h with h | h
 ·cases h
 unfold ZvG at h
 simp only [XQ,Prod.mk.injEq,Xb,List.not_mem_nil,or_false] at h
 rcases h with ⟨rfl,rfl⟩ | h
 ·exact ZzE Zm0 ZCF hg
 rcases h with ⟨rfl,rfl⟩ | h
 ·exact ZyC ⟨Tryd.f83,Tryd.func83,by kernel_rfl,by kernel_rfl⟩ (fun s w hs hT=>Any.utf8_ValidString ZwL s w hs hT) hg
 rcases h with ⟨rfl,rfl⟩ | h
 ·exact ZwD hg
 rcases h with ⟨rfl,rfl⟩ | h
 ·exact ZwD hg
 exact absurd h.2 (by simp)
end
section
def Zb2:Nat:=70368744177664
def Zh6 (args:List AVal) (σ:Za):Option (AVal×Za):=match args,σ with
 | [.ref 0 0,.lst _ ys],[.var [.lst true [],.int .i64 0,.int .i8 _]] =>
  if ys.length<=Zb2/\kOk 1 ys=true then some (.tup [.int .i64 ys.length,.nili],[.var [.sl 1 0 0 ys.length,.int .i64 0,.int .i8 0],.row 0 1 ys]) else none
 | [.ref 0 0,.lst _ ys],[.var [.sl 1 g 0 m,.int .i64 0,.int .i8 _],.row g' 1 xs] =>
  if g=g'/\m=xs.length/\xs.length+ys.length<=Zb2/\kOk 1 ys=true then some (.tup [.int .i64 ys.length,.nili],[.var [.sl 1 (g+1) 0 (xs++ys).length,.int .i64 0,.int .i8 0],.row (g+1) 1 (xs++ys)]) else none
 | _,_=>none
end
section
set_option maxRecDepth 100000
def c1R:Zf :=  (.region [⟨(some 1),(.box (.t 0)),none,[]⟩,⟨(some 2),(.alloc [(.int .i64 0),(.bool false),(.int .i64 0),(.bool false),(.int .i64 0),(.str []),(.lst true []),(.int .i64 0),(.lst true []),(.lst true []),(.lst true []),(.lst true []),(.bool false),(.int .i64 0),(.str []),(.bool false),(.str []),(.lst true []),(.int .i64 0),(.bool false),(.lst true []),(.bool false),(.str []),(.bool false),(.lst true []),(.bool false)]),none,[]⟩,⟨(some 3),(.alloc [(.int .i64 0)]),none,[]⟩] none [3,2,1])
def c2R:Zf:=(.seq (.region [⟨(some 6),(.faddr 1 (.t 1)),none,[]⟩,⟨(some 7),(.ld none (.t 6)),none,[]⟩,⟨(some 8),(.build [(.int .i64 0),(.bool false),(.int .i64 0),(.bool false),(.int .i64 0),(.str []),(.lst true []),(.int .i64 0),(.lst true []),(.lst true []),(.lst true []),(.lst true []),(.bool false),(.int .i64 0),(.str []),(.bool false),(.str []),(.lst true []),(.int .i64 0),(.bool false),(.lst true []),(.bool false),(.str []),(.bool false),(.lst true []),(.bool false),(.lst true [])] [(26,1,(.t 7))]),none,[]⟩,⟨(some 9),(.box (.t 8)),none,[]⟩,⟨(some 4),(.mov (.t 9)),none,[]⟩] none [4,3,2,1]) (.seq (.region [⟨(some 10),(.mov (.t 4)),none,[]⟩,⟨(some 11),(.faddr 0 (.t 1)),none,[]⟩,⟨(some 12),(.ld none (.t 11)),none,[]⟩,⟨(some 13),(.call 19 0 true [(.t 10),(.t 12)]),none,[]⟩] none [4,3,2]) (.seq (.region [⟨(some 14),(.mov (.t 4)),none,[]⟩,⟨(some 15),(.call 20 1 true [(.t 14)]),none,[]⟩] none [4,3,2]) (.seq (.region [⟨(some 16),(.mov (.t 4)),none,[]⟩,⟨(some 17),(.nilchk (.t 16)),none,[]⟩,⟨(some 18),(.faddr 0 (.t 17)),none,[]⟩,⟨(some 19),(.ld (some 26) (.t 18)),none,[]⟩,⟨none,(.st 26 (.t 2) (.t 19)),none,[]⟩,⟨none,(.st 1 (.t 3) (.c (.int .i64 0))),none,[]⟩] none [3,2]) .ret))))
def c3R:Zf:=(.seq (.region [⟨(some 3),(.mov (.t 10)),none,[]⟩] none [3,1,0]) (.region [⟨(some 11),(.build [(.int .i64 0),(.bool false),(.int .i64 0),(.bool false),(.int .i64 0),(.str []),(.lst true []),(.int .i64 0),(.lst true []),(.lst true []),(.lst true []),(.lst true []),(.bool false),(.int .i64 0),(.str []),(.bool false),(.str []),(.lst true []),(.int .i64 0),(.bool false),(.lst true []),(.bool false),(.str []),(.bool false),(.lst true []),(.bool false)] []),none,[]⟩,⟨(some 12),(.mov (.t 3)),none,[]⟩,⟨none,(.st 26 (.t 0) (.t 11)),none,[]⟩,⟨none,(.st 1 (.t 1) (.t 12)),none,[]⟩] none []))
def rsR:List ZcQ:=[(.cell 2 (some 26)),(.cell 3 none)]
def ZBU:Ann:={ nt:=20,lr:=fun _=>[3,2,1] }
def ZJE:Ann:={ ann 9 with nt:=20,keep:=[2,3],cfg:=fun f=>if f=20 then (1,true) else (0,true) }
def ZKs:Ann:={ ann 18 with nt:=13 }
theorem ZI0:Zlu Tryd.prog 9 18 20 25 ZBU ZJE ZKs c1R c2R c3R rsR :=
 ⟨_,_,_,_,_,_,_,_,_,_,_,_,_,_,_,_,_,_,_,_,_,_,_,_,_,_,_,_,_,_,_,_,_,_,_,_,_,_,#[],.i64,rfl,by kernel_rfl,rfl,by kernel_rfl,rfl,by kernel_rfl,by kernel_rfl,rfl,rfl,rfl,rfl,by kernel_rfl,rfl,rfl,rfl,by kernel_rfl,rfl,by kernel_rfl,by kernel_rfl⟩
noncomputable def Ze3:List AVal->Za->Option (AVal×Za):=Ziq FC PR BY 25 c1R c2R c3R rsR
noncomputable def PR1:ZcM:=fun f=>if f=9 then some Ze3 else if f=50 then some Zh6 else PR f
noncomputable abbrev E1:ZX:=EV FC PR1 BY
theorem ZQP:OLe E E1:=by
 refine ZPg (fun f hf=>?_) (fun f g hg=>?_)
 ·unfold PR1
  rw [if_neg (by rintro rfl;revert hf;decide),if_neg (by rintro rfl;revert hf;decide)]
  exact hf
 ·by_cases h1:f=9
  ·subst h1
   have : PR 9=some ZjY:=by rfl
   rw [this] at hg;injection hg with hg;subst hg
   exact Xv fun _ _=>rfl
  by_cases h2:f=50
  ·subst h2
   have : PR 50=some ZjY:=by rfl
   rw [this] at hg;injection hg with hg;subst hg
   exact Xv fun _ _=>rfl
  refine Xr ?_
  unfold PR1
  rw [if_neg h1,if_neg h2]
  exact hg
theorem ZbN {f:Nat} {fn:ZQ} (hp:PR1 f=none) (hf:FC f=some fn) (args:List AVal) (σ:Za):E1 f args σ=Zav σ.length fn (evC FC PR1 BY σ.length fn.body (enterA 0 args []) σ):=ZrX hp hf args σ
theorem Zhu (args:List AVal) (σ:Za):E1 9 args σ=Ze3 args σ:=Ztm (by rfl) args σ
theorem Ztt (args:List AVal) (σ:Za):E1 50 args σ=Zh6 args σ:=Ztm (by rfl) args σ
theorem ZKk {args:List AVal} {σ σ':Za} {r:AVal} (hg:Ze3 args σ=some (r,σ')) :
  (∃ fn,Tryd.prog.funcs[9]?=some fn/\fn.body.isSome=true/\(fn.name == "runtime.NumGoroutine")=false) /\
  ∀ base w0 I0 I β w (vs:Array Value),KLt base w0->Rel base w0 I0 I β σ w->VRs I β args vs.toList ->
   Calls Tryd.prog 9 vs w (fun e w'=>∃ u,Ends r e u/\Zcd σ.length base w0 I0 I β r σ' u w') :=
 ZDu Zm0 (fun n=>by
  have h:ZaE FC PR BY n=ZaE CF PR BY n:=Zp7 CF PR BY n
  rw [h]
  exact ZqU Zm0 ZvE ann BY n) ZI0 hg
end
section
def P0:List AVal:=[.int .i64 0,.bool false,.int .i64 0,.bool false,.int .i64 0,.str [],.lst true [],.int .i64 0,.lst true [],.lst true [],.lst true [],.lst true [],.bool false,.int .i64 0,.str [],.bool false,.str [],.lst true [],.int .i64 0,.bool false,.lst true [],.bool false,.str [],.bool false,.lst true [],.bool false]
def tmR:Tms:=[(3,.ref 2 0),(2,.ref 1 0),(1,.ref 0 0)]
def σR (b:Int) (l:Zc):Za:=[.var [.int .u8 b,.lst false (l.map Zb)],.var P0,.var [.int .i64 0]]
theorem Zri (b:Int) (l:Zc):evC FC PR BY 0 c1R (enterA 0 [.agg [.int .u8 b,.lst false (l.map Zb)]] []) []=some (.normal,tmR,σR b l):=by
 unfold tmR σR P0
 simp -implicitDefEqProofs only [EQA,Xe,Xc,Xa,Xg,↓reduceIte,c1R,AVal.cells]
theorem ZPi (b:Int) (l:Zc) {P1 Q:List AVal} {L:AVal} (h1:P1.length=26) (n1:Zd P1=true) (hQ:Q.length=26) (nQ:Zd Q=true) (oQ:Q.all ZS=true) (nL:ZI L=true)
  (hf:E 19 [.ref 0 0,.int .u8 b] (Zm P0 l)=some (.tup [],Zm P1 l)) (hb:E 20 [.ref 0 0] (Zm P1 l)=some (.tup [],[.var (Q++[L])])) :
  evC FC PR BY 3 c2R (tput tmR (some 5) .top) (σR b l)=some (.ret,[(3,.ref 2 0),(2,.ref 1 0)],[.var [.int .u8 b,.lst false (l.map Zb)],.var Q,.var [.int .i64 0],.var (Q++[L]),.free]):=by
 have hF:=fun (σ:Za) sq (hs:σ[3]?=some (.var (P0++[.lst false (l.map Zb)])))=>Zde (O:=E) (bf:=BY) (f:=19) (rest:=[.int .u8 b]) (by kernel_rfl) rfl (by rfl) (ZaM n1 (by rfl)) rfl rfl hf hs sq
 have hB:=fun (σ:Za) sq (hf:σ[sq]?=some .free) (hs:σ[3]?=some (.var (P1++[.lst false (l.map Zb)])))=>ZEm (own:=1) (O:=E) (bf:=BY) (f:=20) (rest:=[]) (by kernel_rfl) rfl (ZaM n1 (by rfl)) (ZaM nQ (by simp [Zd,nL])) rfl rfl hb hs sq (by simp [Zba,freeAt,hf])
 have b1:=Zac Q hQ
 have b2:=Ze4 Q hQ
 unfold P0 at hF
 simp only [XU,Xw] at hF
 unfold tmR σR P0
 simp -implicitDefEqProofs only [EQA,Zbl,Xe,Xc,Xf,Xa,Xg,↓reduceIte,c2R,AVal.cells,Zau,hF,hB,b1,b2,hQ,oQ]
theorem Zmj (b:Int) (l:Zc) {cs:List AVal} {c:Int} (n1:Zd cs=true)
  (hf:E 19 [.ref 0 0,.int .u8 b] (Zm P0 l)=some (.pan (ZG c),[.var cs])) :
  evC FC PR BY 3 c2R (tput tmR (some 5) .top) (σR b l)=some (.panic (ZG c),[],[.var [.int .u8 b,.lst false (l.map Zb)],.var P0,.var [.int .i64 0],.var cs]):=by
 have hF:=fun (σ:Za) sq (hs:σ[3]?=some (.var (P0++[.lst false (l.map Zb)])))=>ZcS (O:=E) (bf:=BY) (f:=19) (view:=true) (rest:=[.int .u8 b]) (by kernel_rfl) rfl (by rfl) n1 rfl hf hs sq
 unfold P0 at hF
 simp only [XU,Xw] at hF
 unfold tmR σR P0
 simp -implicitDefEqProofs only [EQA,Zbl,Xe,Xc,Xf,Xa,Xg,↓reduceIte,c2R,AVal.cells,Zau,hF]
theorem ZwQ (b:Int) (l:Zc) {P1 cs:List AVal} {c:Int} (h1:P1.length=26) (n1:Zd P1=true) (n2:Zd cs=true)
  (hf:E 19 [.ref 0 0,.int .u8 b] (Zm P0 l)=some (.tup [],Zm P1 l)) (hb:E 20 [.ref 0 0] (Zm P1 l)=some (.pan (ZG c),[.var cs])) :
  evC FC PR BY 3 c2R (tput tmR (some 5) .top) (σR b l)=some (.panic (ZG c),[],[.var [.int .u8 b,.lst false (l.map Zb)],.var P0,.var [.int .i64 0],.var cs,.free]):=by
 have hF:=fun (σ:Za) sq (hs:σ[3]?=some (.var (P0++[.lst false (l.map Zb)])))=>Zde (O:=E) (bf:=BY) (f:=19) (rest:=[.int .u8 b]) (by kernel_rfl) rfl (by rfl) (ZaM n1 (by rfl)) rfl rfl hf hs sq
 have hB:=fun (σ:Za) sq (hf:σ[sq]?=some .free) (hs:σ[3]?=some (.var (P1++[.lst false (l.map Zb)])))=>ZG3 (own:=1) (O:=E) (bf:=BY) (f:=20) (view:=true) (rest:=[]) (by kernel_rfl) rfl (ZaM n1 (by rfl)) n2 rfl hb hs sq (by simp [Zba,freeAt,hf])
 unfold P0 at hF
 simp only [XU,Xw] at hF
 unfold tmR σR P0
 simp -implicitDefEqProofs only [EQA,Zbl,Xe,Xc,Xf,Xa,Xg,↓reduceIte,c2R,AVal.cells,Zau,hF,hB]
theorem ZGA (b c:Int) (l:Zc) (τ:Za):evC FC PR BY 3 c3R [(10,.int .i64 c),(1,.ref 2 0),(0,.ref 1 0)] (.var [.int .u8 b,.lst false (l.map Zb)]::.var P0::.var [.int .i64 0]::τ)=some (.normal,[],.var [.int .u8 b,.lst false (l.map Zb)]::.var P0::.var [.int .i64 c]::τ):=by
 unfold P0
 simp -implicitDefEqProofs only [EQA,Xe,Xc,Xf,Xa,reduceCtorEq,↓reduceIte,c3R,AVal.cells,Zau,ZS]
theorem Zv5 (b c:Int) (l:Zc) {Q:List AVal} (τ:Za) (hQ:Q.length=26) (nQ:Zd Q=true):Zff 0 1 2 rsR (.var [.int .u8 b,.lst false (l.map Zb)]::.var Q::.var [.int .i64 c]::τ)=some (.tup [.agg Q,.int .i64 c],[]):=by
 have h1:resA [(3,.ref 2 0),(2,.ref 1 0)] (.var [.int .u8 b,.lst false (l.map Zb)]::.var Q::.var [.int .i64 c]::τ) rsR=some (.tup [.agg Q,.int .i64 c]):=by
  have h2:Q.take 26=Q:=XK (by omega)
  simp [resA,resAll,resOne,rsR,tget,ldA,partA,hQ,h2]
 unfold Zff
 rw [h1]
 generalize (.var [.int .u8 b,.lst false (l.map Zb)]::.var Q::.var [.int .i64 c]::τ:Za)=σ
 have e1:=Za8 (Zi σ 0 []) Q nQ
 have hr:Zw [AVal.tup [.agg Q,.int .i64 c]]=[]:=by simp [Zw,Z9,e1.2]
 have hi:Zy 0 [AVal.tup [.agg Q,.int .i64 c]] σ=[]:=by
  simp only [Zy,hr,Xw,XaE,XX]
  rfl
 simp [Zak,gcA,hi,Zg,Zr,e1.1,Zq]
theorem Zv7 (b:Int) (l:Zc) {P1 Q:List AVal} {L:AVal} (h1:P1.length=26) (n1:Zd P1=true) (hQ:Q.length=26) (nQ:Zd Q=true) (oQ:Q.all ZS=true) (nL:ZI L=true)
  (hf:E 19 [.ref 0 0,.int .u8 b] (Zm P0 l)=some (.tup [],Zm P1 l)) (hb:E 20 [.ref 0 0] (Zm P1 l)=some (.tup [],[.var (Q++[L])])) :
  Ze3 [.agg [.int .u8 b,.lst false (l.map Zb)]] []=some (.tup [.agg Q,.int .i64 0],[]):=by
 unfold Ze3 Ziq
 show (match evC FC PR BY 0 c1R (enterA 0 [.agg [.int .u8 b,.lst false (l.map Zb)]] []) [] with | some (.normal,tm1,σ1)=>_ | _=>none)=_
 rw [Zri]
 show (if (0:Nat)<=(σR b l).length/\1 < (σR b l).length/\2 < (σR b l).length then ZgF FC PR BY 25 c2R c3R rsR 0 (tput tmR (some 5) .top) (σR b l) 1 2 else none)=_
 rw [if_pos (by simp [σR])]
 unfold ZgF
 rw [show (σR b l).length=3 from rfl,ZPi b l h1 n1 hQ nQ oQ nL hf hb]
 exact Zv5 b 0 l _ hQ nQ
theorem Zg8 (b c:Int) (l:Zc) {τ:Za} (h:evC FC PR BY 3 c2R (tput tmR (some 5) .top) (σR b l)=some (.panic (ZG c),[],.var [.int .u8 b,.lst false (l.map Zb)]::.var P0::.var [.int .i64 0]::τ)) :
  Ze3 [.agg [.int .u8 b,.lst false (l.map Zb)]] []=some (.tup [.agg P0,.int .i64 c],[]):=by
 unfold Ze3 Ziq
 show (match evC FC PR BY 0 c1R (enterA 0 [.agg [.int .u8 b,.lst false (l.map Zb)]] []) [] with | some (.normal,tm1,σ1)=>_ | _=>none)=_
 rw [Zri]
 show (if (0:Nat)<=(σR b l).length/\1 < (σR b l).length/\2 < (σR b l).length then ZgF FC PR BY 25 c2R c3R rsR 0 (tput tmR (some 5) .top) (σR b l) 1 2 else none)=_
 rw [if_pos (by simp [σR])]
 unfold ZgF
 rw [show (σR b l).length=3 from rfl,h]
 show (if (25:Nat)=25 then (match evC FC PR BY 3 c3R [(10,.int .i64 c),(1,.ref 2 0),(0,.ref 1 0)] _ with | some (.normal,_,σ3)=>Zff 0 1 2 rsR σ3 | _=>none) else none)=_
 rw [if_pos rfl,ZGA]
 exact Zv5 b c l _ rfl (by rfl)
end
section
def wn:List AVal:=[.lst true [],.int .i64 0,.int .i8 0]
def wv (r g n:Nat):List AVal:=[.sl r g 0 n,.int .i64 0,.int .i8 0]
def wH (g:Nat) (l:Zc):Za:=[.var (wv 1 g l.length),.row g 1 (l.map Zb)]
theorem ZaD {σ:Za} {sq f own:Nat} {view:Bool} {args:List AVal} {r:AVal×Za×Cls} (h:Zk E BY σ sq f own view args=some r):Zk E1 BY σ sq f own view args=some r:=Zn9 ZQP h
theorem ZhY {O:ZX} {f:Nat} {args args':List AVal} {l l':Zc} {q:AVal} (hq:ZI q=true) (hw:viewR (wH 1 l') q=some (q,[])/\viewR (wH 0 l') q=some (q,[])) (g2:Nat) (hg2:g2<=1) (h:O f (.ref 0 0::args') (wH 0 l)=some (q,wH g2 l')) (hb:BY f=false) (hp:args.all Z5=true) (hn:args.map ZK=args') {σ:Za} {t r g sq own:Nat} (htr:t≠r) (hff:Zba σ sq own=true) (hs:σ[t]?=some (.var (wv r g l.length))) (hr:σ[r]?=some (.row g 1 (l.map Zb))) :
  Zk O BY σ sq f own true (.ref t 0::args)=some (q,(σ.set t (.var (wv r (g+g2) l'.length))).set r (.row (g+g2) 1 (l'.map Zb)),{ any:=true,upd:=[(t,wv r (g+g2) l'.length)] }):=by
 subst hn
 have hw':viewR [.var (wv 1 g2 l'.length),.row g2 1 (l'.map Zb)] q=some (q,[]):=by
  rcases Nat.lt_or_ge g2 1 with e | e
  ·obtain rfl:g2=0:=by omega
   exact hw.2
  ·obtain rfl:g2=1:=by omega
   exact hw.1
 exact Zhc (cs1:=wv 1 0 l.length) (cs2:=wv 1 g2 l'.length) hs hr htr rfl hb hp (fun ρ hρ=>by simp only [wv,Zg,Zr,hρ]) hg2 hff hq h (ZmE true hq hw' rfl hg2 (fun ρ hρ=>by simp only [wv,Zg,Zr,hρ])) (fun ρ hρ=>by simp only [wv,Zg,Zr,hρ])
theorem Zhi {O:ZX} {f:Nat} {args args':List AVal} {l':Zc} {q:AVal} (hq:ZI q=true) (hv:Z2 true 1 (some (q,wH 0 l'))=some (q,wH 0 l')) (h:O f (.ref 0 0::args') [.var wn]=some (q,wH 0 l')) (hb:BY f=false) (hp:args.all Z5=true) (hn:args.map ZK=args') {σ:Za} {t sq:Nat} (hf:σ[sq]?=some .free) (hs:σ[t]?=some (.var wn)) :
  Zk O BY σ sq f 1 true (.ref t 0::args)=some (q,(σ.set t (.var (wv sq 0 l'.length))).set sq (.row 0 1 (l'.map Zb)),{ any:=true,upd:=[(t,wv sq 0 l'.length)] }):=by
 subst hn
 have htl:t < σ.length:=(Xj.1 hs).1
 have hsl:sq < σ.length:=(Xj.1 hf).1
 have hne:sq≠t:=by rintro rfl;rw [hs] at hf;cases hf
 have h1:σ.getD t .free=.var wn:=by simp [Xh,hs]
 have hf0:Zp σ []=σ:=rfl
 have hsh:showAs σ (.ref t 0::args)=some (.ref t 0::args.map ZK,[]):=by
  rw [showAs,show showA σ (.ref t 0)=some (.ref t 0,[]) from rfl,Zef hp]
  rfl
 have href:Zw (.ref t 0::args.map ZK)=[t]:=by
  rw [Zw,Zdz hp];rfl
 have hre:Zt σ 1000 [t] []=[t]:=by
  have e1:([]:List Nat).contains t=false:=rfl
  rw [show (1000:Nat)=998+1+1 from rfl,Zt,e1]
  simp only [Xi,if_false,h1,ZC]
  rfl
 unfold Zk ZbW
 rw [hb]
 simp only [Xi,if_false,hsh,hf0,href,hre]
 unfold ZbM
 have hall:([t].all fun t=>okB (σ.getD t .free))=true:=by simp only [XD,Wr,h1,okB,Xap]
 rw [if_pos hall]
 have hρt:Zi σ 0 [t] t 0=some (0,0):=by simp [Zi,ZO,hs,Zl,ZF]
 have hargs:Zg (Zi σ 0 [t]) (.ref t 0::args.map ZK)=.ref 0 0::args.map ZK:=by
  rw [Zg,ZdD hp]
  simp only [Zr,hρt]
 have hheap:Zq σ 0 [t] (Zi σ 0 [t]) [t] 0=[.var wn]:=by
  simp only [Zq,h1,Zz]
  rfl
 rw [hargs,hheap,h]
 rw [show [t].length=1 from rfl,hv]
 have hk:ZaY σ [t] (wH 0 l') 0=true:=by simp [wH,ZaY,okB,Zb7,Zl,hs]
 have hff:Zba σ sq 1=true:=by simp [Zba,freeAt,hf]
 have hup:Zbd ((σ.set t (.var (wv sq 0 l'.length))).set sq (.row 0 1 (l'.map Zb))) [t]=[(t,wv sq 0 l'.length)]:=by
  have e1:((σ.set t (.var (wv sq 0 l'.length))).set sq (.row 0 1 (l'.map Zb)))[t]?=some (.var (wv sq 0 l'.length)):=by
   rw [Xn hne,X2 htl]
  simp only [Zbd,e1]
 have hlay:Za9 σ [t] sq (wH 0 l') 0 σ=(σ.set t (.var (wv sq 0 l'.length))).set sq (.row 0 1 (l'.map Zb)):=by
  simp [wH,Za9,ZaO,Zca,Zz,Zl,wv,Zg,Zr,ZaC]
 simp only [ZaH,Wu,Bool.false_and,Xi,if_false,hk,hff,hlay,hup,(Z4 _ _ hq).1]
 rfl
theorem Zt6 {O:ZX} {f:Nat} {args args':List AVal} (h:O f (.ref 0 0::args') [.var wn]=some (.tup [],[.var wn])) (hb:BY f=false) (hp:args.all Z5=true) (hn:args.map ZK=args') {σ:Za} {t sq own:Nat} (hff:Zba σ sq own=true) (hs:σ[t]?=some (.var wn)) :
  Zk O BY σ sq f own true (.ref t 0::args)=some (.tup [],σ,{ any:=true,upd:=[(t,wn)] }):=by
 subst hn
 have htl:t < σ.length:=(Xj.1 hs).1
 have h1:σ.getD t .free=.var wn:=by simp [Xh,hs]
 have hf0:Zp σ []=σ:=rfl
 have hsh:showAs σ (.ref t 0::args)=some (.ref t 0::args.map ZK,[]):=by
  rw [showAs,show showA σ (.ref t 0)=some (.ref t 0,[]) from rfl,Zef hp]
  rfl
 have href:Zw (.ref t 0::args.map ZK)=[t]:=by
  rw [Zw,Zdz hp];rfl
 have hre:Zt σ 1000 [t] []=[t]:=by
  have e1:([]:List Nat).contains t=false:=rfl
  rw [show (1000:Nat)=998+1+1 from rfl,Zt,e1]
  simp only [Xi,if_false,h1,ZC]
  rfl
 unfold Zk ZbW
 rw [hb]
 simp only [Xi,if_false,hsh,hf0,href,hre]
 unfold ZbM
 have hall:([t].all fun t=>okB (σ.getD t .free))=true:=by simp only [XD,Wr,h1,okB,Xap]
 rw [if_pos hall]
 have hρt:Zi σ 0 [t] t 0=some (0,0):=by simp [Zi,ZO,hs,Zl,ZF]
 have hargs:Zg (Zi σ 0 [t]) (.ref t 0::args.map ZK)=.ref 0 0::args.map ZK:=by
  rw [Zg,ZdD hp]
  simp only [Zr,hρt]
 have hheap:Zq σ 0 [t] (Zi σ 0 [t]) [t] 0=[.var wn]:=by
  simp only [Zq,h1,Zz]
  rfl
 rw [hargs,hheap,h]
 have hv:Z2 true 1 (some (.tup [],[.var wn]))=some (.tup [],[.var wn]):=rfl
 rw [show [t].length=1 from rfl,hv]
 have hk:ZaY σ [t] [.var wn] 0=true:=by simp [ZaY,okB,Zb7,Zl,hs]
 have hset:σ.set t (.var wn)=σ:=by
  apply Wt
  intro i
  rw [Xs]
  by_cases e:t=i
  ·subst e;rw [if_pos rfl,if_pos htl,hs]
  ·simp [e]
 have hup:Zbd σ [t]=[(t,wn)]:=by simp only [Zbd,hs]
 have hlay:Za9 σ [t] sq [.var wn] 0 σ=σ:=by
  simp only [Za9,ZaO,Zz,Xu]
  exact hset
 simp only [ZaH,Wu,Xi,if_false,hk,hff,hlay,hup,Zr,Zg,XF,XJ,XG,Nat.le_add_right,Xx,decide_true,Wg,if_true]
def wT (n:Nat):AVal:=.tup [.int .i64 (n:Nat),.nili]
theorem ZAL (x:Zc) (hx:x.length<=Zb2):E1 50 [.ref 0 0,.lst false (x.map Zb)] [.var wn]=some (wT x.length,wH 0 x):=by
 rw [Ztt]
 simp only [Zh6,wn,XW,hx,ZcE,and_self,if_true]
 rfl
theorem ZFp (l x:Zc) (hx:l.length+x.length<=Zb2):E1 50 [.ref 0 0,.lst false (x.map Zb)] (wH 0 l)=some (wT x.length,wH 1 (l++x)):=by
 rw [Ztt]
 simp only [Zh6,wH,wv,XW,hx,ZcE,and_self,if_true,X9,Xk]
 rfl
theorem ZtU (x:Zc) (hx:x.length<=Zb2) {σ:Za} {t sq:Nat} (hf:σ[sq]?=some .free) (hs:σ[t]?=some (.var wn)) :
  Zk E1 BY σ sq 50 1 true [.ref t 0,.lst false (x.map Zb)]=some (wT x.length,(σ.set t (.var (wv sq 0 x.length))).set sq (.row 0 1 (x.map Zb)),{ any:=true,upd:=[(t,wv sq 0 x.length)] }) :=
 Zhi (args:=[.lst false (x.map Zb)]) rfl rfl (ZAL x hx) (by kernel_rfl) rfl rfl hf hs
theorem ff1 {σ:Za} {sq:Nat} (hf:σ[sq]?=some .free):Zba σ sq 1=true:=by simp [Zba,freeAt,hf]
theorem Zi5 (l x:Zc) (hx:l.length+x.length<=Zb2) {σ:Za} (t r g:Nat) {sq:Nat} (htr:t≠r) (hf:σ[sq]?=some .free) (hs:σ[t]?=some (.var (wv r g l.length))) (hr:σ[r]?=some (.row g 1 (l.map Zb))) :
  Zk E1 BY σ sq 50 1 true [.ref t 0,.lst false (x.map Zb)]=some (wT x.length,(σ.set t (.var (wv r (g+1) (l++x).length))).set r (.row (g+1) 1 ((l++x).map Zb)),{ any:=true,upd:=[(t,wv r (g+1) (l++x).length)] }) :=
 ZhY (args:=[.lst false (x.map Zb)]) rfl ⟨rfl,rfl⟩ 1 (by omega) (ZFp l x hx) (by kernel_rfl) rfl rfl htr (ff1 hf) hs hr
theorem Zuc (x:Zc) (σ:Za):Zak 1 (.var (wv 1 0 x.length)::.row 0 1 (x.map Zb)::σ) (.tup [])=some (.tup [],wH 0 x):=rfl
theorem Zht (l:Zc) (g:Nat) (σ:Za):Zak 2 (.var (wv 1 (g+1) l.length)::.row (g+1) 1 (l.map Zb)::σ) (.tup [])=some (.tup [],wH 1 l):=by
 simp [Zak,gcA,Zy,Zw,Z9,X6,XaR,ZC,wv,Zt,Zi,ZO,Zq,ZF,Zl,Zz,Zg,Zr,wH]
theorem ZJK (n:Int) (W:Nat) (h1:1<=W) (hW:W<=8):E1 47 [.ref 0 0,.int .i64 n,.int .i64 (W:Nat)] [.var wn]=some (.tup [],wH 0 (beB (Z0 n) W)):=by
 have hw:=Zpd n
 have hP:=fun σ sq own=>ZaD (ZkM σ sq own (Z0 n) W h1 hW)
 have hlen:(beB (Z0 n) W).length<=Zb2:=by rw [Zbt];unfold Zb2;omega
 generalize beB (Z0 n) W=B at *
 have hC:=fun {σ:Za} {t sq:Nat}=>ZtU B hlen (σ:=σ) (t:=t) (sq:=sq)
 have hO:=fun σ=>Zuc B σ
 rw [ZbN (by rfl) ZwG]
 unfold wn at *
 simp -implicitDefEqProofs only [EQA,Xe,Xc,Xa,Xg,reduceCtorEq,↓reduceIte,Zva,Zk0,ZtX,hw,hP,hC,wT,hO,Zaj,Zan,Zam,ZaA,Zaz,Zax,ZaF,Zat]
theorem ZzJ (l:Zc) (n:Int) (W:Nat) (h1:1<=W) (hW:W<=8) (hl:l.length+W<=Zb2):E1 47 [.ref 0 0,.int .i64 n,.int .i64 (W:Nat)] (wH 0 l)=some (.tup [],wH 1 (l++beB (Z0 n) W)):=by
 have hw:=Zpd n
 have hP:=fun σ sq own=>ZaD (ZkM σ sq own (Z0 n) W h1 hW)
 have hlen:l.length+(beB (Z0 n) W).length<=Zb2:=by rw [Zbt];omega
 generalize beB (Z0 n) W=B at *
 have hC:=fun {σ:Za} {sq:Nat}=>Zi5 l B hlen (σ:=σ) 0 1 0 (sq:=sq) (by omega)
 have hO:=fun g σ=>Zht (l++B) g σ
 rw [ZbN (by rfl) ZwG]
 unfold wH at *
 simp -implicitDefEqProofs only [EQA,Xe,Xc,Xa,Xg,reduceCtorEq,↓reduceIte,Zva,Zk0,ZtX,hw,hP,hC,wT,hO,Zaj,Zan,Zam,ZaA,Zaz,Zax,ZaF,Zat]
end
section
theorem Zkg (s:Zc):(ZbQ s).1.length<=65537:=by
 unfold ZbQ
 split
 ·simp
 ·simp [Zbt];omega
theorem Zc9 (s:Zc):(Zaq s).1.length<=65537:=by
 unfold Zaq
 split
 ·exact Zkg s
 ·simp
theorem ZdG (w:Int) (l:List ZB):(ZbE w l).1.length<=268435460:=by
 unfold ZbE Zhg
 generalize (l.map Zdo).flatten=b
 by_cases h:(Zas b.length).2≠0
 ·rw [if_pos h];simp
 ·rw [if_neg h]
  split
  ·simp
  ·rename_i h2
   have h0:(Zap w ((Zas b.length).1++b)).2.2=0:=Classical.byContradiction fun e=>h2 (Xr e)
   have h1:(Zap w ((Zas b.length).1++b)).2.1=((Zas b.length).1++b).length:=Classical.byContradiction fun e=>h2 (Xv (Xr e))
   have:=ZB1 w _ h0
   rw [h1] at this
   exact this
theorem ZNV (s:Zc) (hs:s.length<=9223372036854775807):E1 49 [.ref 0 0,.str s] [.var wn]=some (.tup [],wH 0 (Zaq s).1):=by
 have hP:=fun σ sq own=>ZaD (Zjv σ sq own s hs)
 unfold byT at hP
 have hlen:(Zaq s).1.length<=Zb2:=by have:=Zc9 s;unfold Zb2;omega
 generalize (Zaq s).1=B at *
 generalize (Zaq s).2=C at *
 have hC:=fun {σ:Za} {t sq:Nat}=>ZtU B hlen (σ:=σ) (t:=t) (sq:=sq)
 have hO:=fun σ=>Zuc B σ
 rw [ZbN (by rfl) Zwf]
 unfold wn at *
 simp -implicitDefEqProofs only [EQA,Xe,Xc,Xa,Xg,reduceCtorEq,↓reduceIte,Zto,Znj,ZsF,hP,hC,wT,hO]
theorem ZxM (l:Zc) (s:Zc) (hs:s.length<=9223372036854775807) (hl:l.length+(Zaq s).1.length<=Zb2):E1 49 [.ref 0 0,.str s] (wH 0 l)=some (.tup [],wH 1 (l++(Zaq s).1)):=by
 have hP:=fun σ sq own=>ZaD (Zjv σ sq own s hs)
 unfold byT at hP
 generalize (Zaq s).1=B at *
 generalize (Zaq s).2=C at *
 have hC:=fun {σ:Za} {sq:Nat}=>Zi5 l B hl (σ:=σ) 0 1 0 (sq:=sq) (by omega)
 have hO:=fun g σ=>Zht (l++B) g σ
 rw [ZbN (by rfl) Zwf]
 unfold wH at *
 simp -implicitDefEqProofs only [EQA,Xe,Xc,Xa,Xg,reduceCtorEq,↓reduceIte,Zto,Znj,ZsF,hP,hC,wT,hO]
theorem Zxg (s:Zc) (hs:s.length<=9223372036854775807) {σ:Za} {t sq:Nat} (hf:σ[sq]?=some .free) (hs0:σ[t]?=some (.var wn)) :
  Zk E1 BY σ sq 49 1 true [.ref t 0,.str s]=some (.tup [],(σ.set t (.var (wv sq 0 (Zaq s).1.length))).set sq (.row 0 1 ((Zaq s).1.map Zb)),{ any:=true,upd:=[(t,wv sq 0 (Zaq s).1.length)] }) :=
 Zhi (args:=[.str s]) rfl rfl (ZNV s hs) (by kernel_rfl) rfl rfl hf hs0
theorem Zke (l:Zc) (s:Zc) (hs:s.length<=9223372036854775807) (hl:l.length+(Zaq s).1.length<=Zb2) {σ:Za} (t r g:Nat) {sq:Nat} (htr:t≠r) (hf:σ[sq]?=some .free) (hs0:σ[t]?=some (.var (wv r g l.length))) (hr:σ[r]?=some (.row g 1 (l.map Zb))) :
  Zk E1 BY σ sq 49 1 true [.ref t 0,.str s]=some (.tup [],(σ.set t (.var (wv r (g+1) (l++(Zaq s).1).length))).set r (.row (g+1) 1 ((l++(Zaq s).1).map Zb)),{ any:=true,upd:=[(t,wv r (g+1) (l++(Zaq s).1).length)] }) :=
 ZhY (args:=[.str s]) rfl ⟨rfl,rfl⟩ 1 (by omega) (ZxM l s hs hl) (by kernel_rfl) rfl rfl htr (ff1 hf) hs0 hr
theorem ZLb (l:Zc) (s:Zc) (hs:s.length<=9223372036854775807) (hl:l.length+(ZbQ s).1.length<=Zb2):E1 60 [.ref 0 0,.lst false (s.map Zb)] (wH 0 l)=some (.tup [],wH 1 (l++(ZbQ s).1)):=by
 have hP:=fun σ sq own=>ZaD (Zp9 σ sq own false s hs)
 unfold byT at hP
 generalize (ZbQ s).1=B at *
 generalize (ZbQ s).2=C at *
 have hC:=fun {σ:Za} {sq:Nat}=>Zi5 l B hl (σ:=σ) 0 1 0 (sq:=sq) (by omega)
 have hO:=fun g σ=>Zht (l++B) g σ
 rw [ZbN (by rfl) ZQc]
 unfold wH at *
 simp -implicitDefEqProofs only [EQA,Xe,Xc,Xa,Xg,reduceCtorEq,↓reduceIte,ZAq,Zqh,ZPr,hP,hC,wT,hO]
theorem Zww (l:Zc) (s:Zc) (hs:s.length<=9223372036854775807) (hl:l.length+(ZbQ s).1.length<=Zb2) {σ:Za} (t r g:Nat) {sq:Nat} (htr:t≠r) (hf:σ[sq]?=some .free) (hs0:σ[t]?=some (.var (wv r g l.length))) (hr:σ[r]?=some (.row g 1 (l.map Zb))) :
  Zk E1 BY σ sq 60 1 true [.ref t 0,.lst false (s.map Zb)]=some (.tup [],(σ.set t (.var (wv r (g+1) (l++(ZbQ s).1).length))).set r (.row (g+1) 1 ((l++(ZbQ s).1).map Zb)),{ any:=true,upd:=[(t,wv r (g+1) (l++(ZbQ s).1).length)] }) :=
 ZhY (args:=[.lst false (s.map Zb)]) rfl ⟨rfl,rfl⟩ 1 (by omega) (ZLb l s hs hl) (by kernel_rfl) rfl rfl htr (ff1 hf) hs0 hr
theorem Zx2 (l:Zc) (w:Int) (ps:List ZB) (hp:ps.length<=700000000) (hx:∀ p ∈ ps,ZeT p) (hl:l.length+(ZbE w ps).1.length<=Zb2):E1 48 [.ref 0 0,.int .i64 w,.lst false (ps.map Zu)] (wH 0 l)=some (.tup [],wH 1 (l++(ZbE w ps).1)):=by
 have hP:=fun σ sq own=>ZaD (Zxx σ sq own false w ps hp hx)
 unfold Zhx at hP
 generalize (ZbE w ps).1=B at *
 generalize (ZbE w ps).2=C at *
 have hC:=fun {σ:Za} {sq:Nat}=>Zi5 l B hl (σ:=σ) 0 1 0 (sq:=sq) (by omega)
 have hO:=fun g σ=>Zht (l++B) g σ
 rw [ZbN (by rfl) ZLl]
 unfold wH at *
 simp -implicitDefEqProofs only [EQA,Xe,Xc,Xa,Xg,reduceCtorEq,↓reduceIte,ZM1,ZrA,ZGZ,hP,hC,wT,hO]
theorem Zg6 (l:Zc) (w:Int) (ps:List ZB) (hp:ps.length<=700000000) (hx:∀ p ∈ ps,ZeT p) (hl:l.length+(ZbE w ps).1.length<=Zb2) {σ:Za} (t r g:Nat) {sq:Nat} (htr:t≠r) (hf:σ[sq]?=some .free) (hs0:σ[t]?=some (.var (wv r g l.length))) (hr:σ[r]?=some (.row g 1 (l.map Zb))) :
  Zk E1 BY σ sq 48 1 true [.ref t 0,.int .i64 w,.lst false (ps.map Zu)]=some (.tup [],(σ.set t (.var (wv r (g+1) (l++(ZbE w ps).1).length))).set r (.row (g+1) 1 ((l++(ZbE w ps).1).map Zb)),{ any:=true,upd:=[(t,wv r (g+1) (l++(ZbE w ps).1).length)] }) :=
 ZhY (args:=[.int .i64 w,.lst false (ps.map Zu)]) rfl ⟨rfl,rfl⟩ 1 (by omega) (Zx2 l w ps hp hx hl) (by kernel_rfl) rfl rfl htr (ff1 hf) hs0 hr
theorem Zlv (n:Int) (W:Nat) (h1:1<=W) (hW:W<=8) {m:Int} (hm:((W:Nat):Int)=m) {σ:Za} {t sq:Nat} (hf:σ[sq]?=some .free) (hs0:σ[t]?=some (.var wn)) :
  Zk E1 BY σ sq 47 1 true [.ref t 0,.int .i64 n,.int .i64 m]=some (.tup [],(σ.set t (.var (wv sq 0 (beB (Z0 n) W).length))).set sq (.row 0 1 ((beB (Z0 n) W).map Zb)),{ any:=true,upd:=[(t,wv sq 0 (beB (Z0 n) W).length)] }):=by
 subst hm
 exact Zhi (args:=[.int .i64 n,.int .i64 (W:Nat)]) rfl rfl (ZJK n W h1 hW) (by kernel_rfl) rfl rfl hf hs0
theorem Zgp (l:Zc) (n:Int) (W:Nat) (h1:1<=W) (hW:W<=8) {m:Int} (hm:((W:Nat):Int)=m) (hl:l.length+W<=Zb2) {σ:Za} (t r g:Nat) {sq:Nat} (htr:t≠r) (hf:σ[sq]?=some .free) (hs0:σ[t]?=some (.var (wv r g l.length))) (hr:σ[r]?=some (.row g 1 (l.map Zb))) :
  Zk E1 BY σ sq 47 1 true [.ref t 0,.int .i64 n,.int .i64 m]=some (.tup [],(σ.set t (.var (wv r (g+1) (l++beB (Z0 n) W).length))).set r (.row (g+1) 1 ((l++beB (Z0 n) W).map Zb)),{ any:=true,upd:=[(t,wv r (g+1) (l++beB (Z0 n) W).length)] }):=by
 subst hm
 exact ZhY (args:=[.int .i64 n,.int .i64 (W:Nat)]) rfl ⟨rfl,rfl⟩ 1 (by omega) (ZzJ l n W h1 hW hl) (by kernel_rfl) rfl rfl htr (ff1 hf) hs0 hr
def Zae (b:Bool) (n:Int):Int:=if b then n else 0
theorem Zz4 (b:Bool) (n:Int):E 28 [.bool b,.int .i64 n] []=some (.int .i64 (Zae b n),[]):=by
 rw [Zj (by rfl) ZBJ]
 unfold Zae
 cases b <;> simp -implicitDefEqProofs only [EQA,Xc,Xa,reduceCtorEq,↓reduceIte,Zyg,ZpZ,ZOM]
theorem ZjQ (b:Bool) (n:Int) (σ:Za) (sq own:Nat):Zk E1 BY σ sq 28 own true [.bool b,.int .i64 n]=some (.int .i64 (Zae b n),σ,{}) :=
 ZaD (ZbI (Zz4 b n) (by kernel_rfl) rfl rfl rfl (fun _=>rfl) _ _ _)
end
section
def Zh (p:Zn):List AVal:=[.int .i64 p.type,.bool p.dup,.int .i64 p.qos,.bool p.retain,.int .i64 p.id,.str p.topic,.lst false (p.payload.map Zb),.int .i64 p.code,.lst false (p.codes.map (AVal.int .i64)),.lst false (p.props.map Zu),.lst false (p.subs.map Z6),.lst false (p.filters.map AVal.str),.bool p.clean,.int .i64 p.keep,.str p.client,.bool p.hasWill,.str p.will.topic,.lst false (p.will.data.map Zb),.int .i64 p.will.qos,.bool p.will.retain,.lst false (p.will.props.map Zu),.bool p.hasUser,.str p.user,.bool p.hasPassword,.lst false (p.password.map Zb),.bool p.present]
theorem ZaJ (p:Zn):Zs p=.agg (Zh p):=rfl
theorem ZaT (p:Zn):(Zh p).length=26:=rfl
theorem Zb6 (p:Zn):Z5 (.agg (Zh p))=true:=rfl
theorem Zb8 (p:Zn):ZK (.agg (Zh p))=.agg (Zh p):=rfl
theorem Zbe (p:Zn):(Zh p).take 26=Zh p:=rfl
theorem ZsC (p:Zn):Zw (Zh p)=[]:=by
 have h:=Zsf (Zb6 p)
 rw [Zb8] at h
 simpa [Z9] using h
structure OkW (p:Zn):Prop where
 topic:p.topic.length<=9223372036854775807
 payload:p.payload.length<=1099511627776
 codes:p.codes.length<=1048576
 props:p.props.length<=700000000/\∀ q ∈ p.props,ZeT q
 subs:p.subs.length<=1048576/\∀ s ∈ p.subs,s.filter.length<=9223372036854775807
 filters:p.filters.length<=1048576/\∀ f ∈ p.filters,f.length<=9223372036854775807
 client:p.client.length<=9223372036854775807
 wtopic:p.will.topic.length<=9223372036854775807
 wdata:p.will.data.length<=9223372036854775807
 wprops:p.will.props.length<=700000000/\∀ q ∈ p.will.props,ZeT q
 user:p.user.length<=9223372036854775807
 password:p.password.length<=9223372036854775807
def wO:Option Zc->Za
 | none=>[.var wn]
 | some l=>wH 0 l
theorem Zek {j g:Nat} {l:Zc} {σ:Za} (hj:j≠0) (h0:σ[0]?=some (.var (wv j g l.length))) (h1:σ[j]?=some (.row g 1 (l.map Zb))):Zak 1 σ (.tup [])=some (.tup [],wH 0 l):=by
 have d0:σ.getD 0 .free=.var (wv j g l.length):=by simp [Xh,h0]
 have d1:σ.getD j .free=.row g 1 (l.map Zb):=by simp [Xh,h1]
 have ej:([0]:List Nat).contains j=false:=by simp;omega
 have hrf:Zw (wv j g l.length)=[j]:=rfl
 have hi:Zy 1 [.tup []] σ=[0,j]:=by
  have : Zw [AVal.tup []]=[]:=rfl
  have hR:X6 1=[0]:=rfl
  simp only [Zy,this,Xw,hR,XH,XX,Xm,d0,ZC,hrf]
  rw [show (1000:Nat)=998+1+1 from rfl,Zt,ej]
  simp only [Xi,if_false,d1,ZC,Xw]
  rfl
 have hρ:Zi σ 1 [0,j] j g=some (1,0):=by
  have : ¬(0:Nat)=j:=fun e=>hj e.symm
  simp [Zi,ZO,Zl,ZF,h1,this]
 have hren:Zg (Zi σ 1 [0,j]) (wv j g l.length)=wv 1 0 l.length:=by simp only [wv,Zg,Zr,hρ]
 have ht:Zg (Zi σ 1 [0,j]) [AVal.tup []]=[.tup []]:=rfl
 simp only [Zak,gcA,hi,ht,Zq,d0,d1,ZF,Zl,Zz,hren,wH]
 simp
theorem ZLQ (σ:Za):Zak 1 (.var wn::σ) (.tup [])=some (.tup [],[.var wn]):=rfl
theorem ZFJ (l:Zc) (σ:Za):Zak 2 (.var (wv 1 0 l.length)::.row 0 1 (l.map Zb)::σ) (.tup [])=some (.tup [],wH 0 l):=by
 simp [Zak,gcA,Zy,Zw,Z9,X6,XaR,ZC,wv,Zt,Zi,ZO,Zq,ZF,Zl,Zz,Zg,Zr,wH]
def Zcg (p:Zn):Zc:=if p.code≠0\/p.props≠[] then beB (Z0 p.code) 1++(if p.props≠[] then (ZbE p.type p.props).1 else []) else []
def ZdJ (p:Zn):Option Zc:=if p.code≠0\/p.props≠[] then some (Zcg p) else none
theorem ZeR:Zb2=70368744177664:=rfl
section
variable (p:Zn) (h:OkW p)
include h
theorem Zu8:E1 51 [.ref 0 0,Zs p] [.var wn]=some (.tup [],wO (ZdJ p)):=by
 have l2:=ZdG p.type p.props
 have l1:=Zbt 1 (Z0 p.code)
 have hN:=fun {σ:Za} {t sq:Nat}=>Zlv p.code 1 (by omega) (by omega) (m:=1) rfl (σ:=σ) (t:=t) (sq:=sq)
 have hPr:=fun {σ:Za} {sq:Nat}=>Zg6 (beB (Z0 p.code) 1) p.type p.props h.props.1 h.props.2 (by rw [ZeR];omega) (σ:=σ) 0 2 0 (sq:=sq) (by omega)
 have hO:=fun {j g:Nat} {l:Zc} {σ:Za}=>Zek (j:=j) (g:=g) (l:=l) (σ:=σ)
 have hl:(p.props.map Zu).length=p.props.length:=by simp
 rw [ZaJ]
 have e1:=Zbe p
 have e0:=ZaT p
 have a0:(Zh p)[0]?=some (.int .i64 p.type):=rfl
 have a7:(Zh p)[7]?=some (.int .i64 p.code):=rfl
 have a9:(Zh p)[9]?=some (.lst false (p.props.map Zu)):=rfl
 unfold ZdJ Zcg
 generalize Zh p=P at *
 generalize p.type=ty at *
 generalize p.code=c at *
 generalize p.props=ps at *
 rw [ZbN (by rfl) Zr7]
 by_cases hc:c=0
 ·have b1:(c != 0)=false:=by simp [hc]
  cases ps with
  | nil =>
   rw [if_neg (by simp [hc])]
   unfold wn wO at *
   simp -implicitDefEqProofs only [EQA,Zx,ZN,Zvv,Xe,Xc,Xa,Xg,ZA,unG,reduceCtorEq,decide_eq_true_eq,↓reduceIte,Zd,ZfR,Ze0,ZgE,AVal.cells,a0,a7,a9,b1]
   exact ZLQ []
  | cons q ps =>
   rw [if_pos (by simp)]
   have g0:((((q::ps).map Zu).length:Nat):Int) > 0:=by simp
   rw [if_pos (by simp)]
   generalize (ZbE ty (q::ps)).1=B at *
   generalize (q::ps).map Zu=qs at *
   generalize beB (Z0 c) 1=D at *
   unfold wn wO at *
   simp -implicitDefEqProofs only [EQA,Zx,Xe,Xc,Xa,Xg,ZA,unG,reduceCtorEq,↓reduceIte,Zd,ZfR,Ze0,ZgE,AVal.cells,a0,a7,a9,b1,g0,hN,hPr]
   exact hO (j:=2) (by decide) rfl rfl
 ·have b1:(c != 0)=true:=by simp [hc]
  rw [if_pos (by simp [hc]),if_pos (by simp [hc])]
  cases ps with
  | nil =>
   rw [if_neg (by simp),Xm]
   generalize beB (Z0 c) 1=D at *
   unfold wn wO at *
   simp -implicitDefEqProofs only [EQA,Zx,Xe,Xc,Xa,Xg,ZA,Zal,reduceCtorEq,decide_eq_true_eq,↓reduceIte,Zd,ZfR,Ze0,ZgE,AVal.cells,a0,a7,a9,b1,hN]
   exact hO (j:=2) (by decide) rfl rfl
  | cons q ps =>
   have g0:((((q::ps).map Zu).length:Nat):Int) > 0:=by simp
   rw [if_pos (by simp)]
   generalize (ZbE ty (q::ps)).1=B at *
   generalize (q::ps).map Zu=qs at *
   generalize beB (Z0 c) 1=D at *
   unfold wn wO at *
   simp -implicitDefEqProofs only [EQA,Zx,Xe,Xc,Xa,Xg,ZA,Zal,reduceCtorEq,↓reduceIte,Zd,ZfR,Ze0,ZgE,AVal.cells,a0,a7,a9,b1,g0,hN,hPr]
   exact hO (j:=2) (by decide) rfl rfl
theorem ZMl (l:Zc) (hl:l.length<=1000000000):E1 51 [.ref 0 0,Zs p] (wH 0 l)=some (.tup [],if Zcg p=[] then wH 0 l else wH 1 (l++Zcg p)):=by
 have l2:=ZdG p.type p.props
 have l1:=Zbt 1 (Z0 p.code)
 have hN:=fun {σ:Za} {sq:Nat}=>Zgp l p.code 1 (by omega) (by omega) (m:=1) rfl (by rw [ZeR];omega) (σ:=σ) 0 1 0 (sq:=sq) (by omega)
 have hPr:=fun {σ:Za} {sq:Nat}=>Zg6 (l++beB (Z0 p.code) 1) p.type p.props h.props.1 h.props.2 (by rw [ZeR,Xk];omega) (σ:=σ) 0 1 1 (sq:=sq) (by omega)
 have hl:(p.props.map Zu).length=p.props.length:=by simp
 rw [ZaJ]
 have e1:=Zbe p
 have e0:=ZaT p
 have a0:(Zh p)[0]?=some (.int .i64 p.type):=rfl
 have a7:(Zh p)[7]?=some (.int .i64 p.code):=rfl
 have a9:(Zh p)[9]?=some (.lst false (p.props.map Zu)):=rfl
 obtain ⟨R,hR⟩:∃ R,R=Zcg p:=⟨_,rfl⟩
 rw [<-hR]
 unfold Zcg at hR
 generalize Zh p=P at *
 generalize p.type=ty at *
 generalize p.code=c at *
 generalize p.props=ps at *
 rw [ZbN (by rfl) Zr7]
 by_cases hc:c=0
 ·have b1:(c != 0)=false:=by simp [hc]
  cases ps with
  | nil =>
   rw [if_neg (by simp [hc])] at hR
   subst hR
   rw [if_pos rfl]
   unfold wH at *
   simp -implicitDefEqProofs only [EQA,Zvv,Xe,Xc,Xa,Xg,ZA,unG,reduceCtorEq,decide_eq_true_eq,↓reduceIte,ZfR,Ze0,ZgE,AVal.cells,a0,a7,a9,b1]
   exact ZFJ _ _
  | cons q ps =>
   have g0:((((q::ps).map Zu).length:Nat):Int) > 0:=by simp
   rw [if_pos (by simp),if_pos (by simp)] at hR
   subst hR
   rw [if_neg (by intro e;have:=congrArg Xae e;simp [l1] at this)]
   generalize (ZbE ty (q::ps)).1=B at *
   generalize (q::ps).map Zu=qs at *
   generalize beB (Z0 c) 1=D at *
   rw [<-Wa]
   unfold wH at *
   simp -implicitDefEqProofs only [EQA,Xe,Xc,Xa,Xg,ZA,unG,reduceCtorEq,↓reduceIte,ZfR,Ze0,ZgE,AVal.cells,a0,a7,a9,b1,g0,hN,hPr]
   exact Zht _ 1 _
 ·have b1:(c != 0)=true:=by simp [hc]
  rw [if_pos (by simp [hc])] at hR
  cases ps with
  | nil =>
   rw [if_neg (by simp),Xm] at hR
   subst hR
   rw [if_neg (by intro e;have:=congrArg Xae e;simp [l1] at this)]
   generalize beB (Z0 c) 1=D at *
   unfold wH at *
   simp -implicitDefEqProofs only [EQA,Xe,Xc,Xa,Xg,ZA,Zal,reduceCtorEq,decide_eq_true_eq,↓reduceIte,ZfR,Ze0,ZgE,AVal.cells,a0,a7,a9,b1,hN]
   exact Zht _ 0 _
  | cons q ps =>
   have g0:((((q::ps).map Zu).length:Nat):Int) > 0:=by simp
   rw [if_pos (by simp)] at hR
   subst hR
   rw [if_neg (by intro e;have:=congrArg Xae e;simp [l1] at this)]
   generalize (ZbE ty (q::ps)).1=B at *
   generalize (q::ps).map Zu=qs at *
   generalize beB (Z0 c) 1=D at *
   rw [<-Wa]
   unfold wH at *
   simp -implicitDefEqProofs only [EQA,Xe,Xc,Xa,Xg,ZA,Zal,reduceCtorEq,↓reduceIte,ZfR,Ze0,ZgE,AVal.cells,a0,a7,a9,b1,g0,hN,hPr]
   exact Zht _ 1 _
def ZfM (p:Zn):Nat:=if Zcg p=[] then 0 else 1
theorem ZFh (l:Zc) (hl:l.length<=1000000000) {σ:Za} (t r g:Nat) {sq:Nat} (htr:t≠r) (hf:σ[sq]?=some .free) (hs0:σ[t]?=some (.var (wv r g l.length))) (hr:σ[r]?=some (.row g 1 (l.map Zb))) :
  Zk E1 BY σ sq 51 1 true [.ref t 0,.agg (Zh p)]=some (.tup [],(σ.set t (.var (wv r (g+ZfM p) (l++Zcg p).length))).set r (.row (g+ZfM p) 1 ((l++Zcg p).map Zb)),{ any:=true,upd:=[(t,wv r (g+ZfM p) (l++Zcg p).length)] }):=by
 have hw:=ZMl p h l hl
 have hw':E1 51 [.ref 0 0,Zs p] (wH 0 l)=some (.tup [],wH (ZfM p) (l++Zcg p)):=by
  rw [hw]
  unfold ZfM
  split
  ·rename_i e;rw [e,Xm]
  ·rfl
 exact ZhY (args:=[.agg (Zh p)]) rfl ⟨rfl,rfl⟩ (ZfM p) (by unfold ZfM;split <;> omega) hw' (by kernel_rfl) (by rw [XD,Zb6];rfl) (by rw [Xo,Zb8];rfl) htr (ff1 hf) hs0 hr
def Zb1 (p:Zn):Zc:=beB (Z0 p.id) 2++(ZbE p.type p.props).1
theorem ZA4:E1 52 [.ref 0 0,Zs p] [.var wn]=some (.tup [],wH 0 (Zb1 p)):=by
 have l2:=ZdG p.type p.props
 have l1:=Zbt 2 (Z0 p.id)
 have hN:=fun {σ:Za} {t sq:Nat}=>Zlv p.id 2 (by omega) (by omega) (m:=2) rfl (σ:=σ) (t:=t) (sq:=sq)
 have hPr:=fun {σ:Za} {sq:Nat}=>Zg6 (beB (Z0 p.id) 2) p.type p.props h.props.1 h.props.2 (by rw [ZeR];omega) (σ:=σ) 0 2 0 (sq:=sq) (by omega)
 have hO:=fun {j g:Nat} {l:Zc} {σ:Za}=>Zek (j:=j) (g:=g) (l:=l) (σ:=σ)
 rw [ZaJ]
 have e0:=ZaT p
 have a0:(Zh p)[0]?=some (.int .i64 p.type):=rfl
 have a4:(Zh p)[4]?=some (.int .i64 p.id):=rfl
 have a9:(Zh p)[9]?=some (.lst false (p.props.map Zu)):=rfl
 unfold Zb1
 generalize Zh p=P at *
 generalize p.type=ty at *
 generalize p.id=c at *
 generalize p.props=ps at *
 generalize (ZbE ty ps).1=B at *
 generalize ps.map Zu=qs at *
 generalize beB (Z0 c) 2=D at *
 rw [ZbN (by rfl) ZBv]
 unfold wn at *
 simp -implicitDefEqProofs only [EQA,Zx,Xe,Xc,Xa,Xg,reduceCtorEq,↓reduceIte,Zd,ZPN,Zrz,ZH8,AVal.cells,a0,a4,a9,hN,hPr]
 exact hO (j:=2) (by decide) rfl rfl
theorem ZnE {σ:Za} {t sq:Nat} (hf:σ[sq]?=some .free) (hs0:σ[t]?=some (.var wn)) :
  Zk E1 BY σ sq 52 1 true [.ref t 0,.agg (Zh p)]=some (.tup [],(σ.set t (.var (wv sq 0 (Zb1 p).length))).set sq (.row 0 1 ((Zb1 p).map Zb)),{ any:=true,upd:=[(t,wv sq 0 (Zb1 p).length)] }) :=
 Zhi (args:=[.agg (Zh p)]) rfl rfl (ZA4 p h) (by kernel_rfl) (by rw [XD,Zb6];rfl) (by rw [Xo,Zb8];rfl) hf hs0
end
end
section
theorem ZdS (w:Int) (b:Zc):(Zap w b).2.1<=b.length:=by
 unfold Zap
 split
 ·simp
 ·rename_i h
  split
  ·simp only
   have : ¬(((ZY b).1:Int) > (b.length:Int) - ((ZY b).2.1:Nat)):=fun e=>h (Xv e)
   omega
  ·simp
def Za3:Zn:=⟨0,false,0,false,0,[],[],0,[],[],[],[],false,0,[],false,⟨[],[],0,false,[]⟩,false,[],false,[],false⟩
theorem Zmf (σ:Za):ZaL σ P0=some (Zh Za3,[]):=rfl
theorem ZpS (q:Zn) (ρ:Rho):Zg ρ (Zh q)=Zh q:=by
 have h:=ZsN (ρ:=ρ) (Zb6 q)
 rw [Zb8,Zr] at h
 injection h
theorem Zy2 {Q:List AVal} {q:Zn} (c:Int) (h:∀ σ,ZaL σ Q=some (Zh q,[])):Zbw 0 (some (.tup [.agg Q,.int .i64 c],[]))=some (.tup [Zs q,.int .i64 c],[]):=by
 have h1:viewR [] (.tup [.agg Q,.int .i64 c])=some (.tup [Zs q,.int .i64 c],[]):=by
  rw [viewR,viewAs,ZU,h]
  rfl
 unfold Zbw
 simp only [h1]
 have e1:=ZsC q
 have e2:=ZpS q
 have hi:Zy 0 [AVal.tup [Zs q,.int .i64 c]] []=[]:=by
  have : Zw [AVal.tup [Zs q,.int .i64 c]]=[]:=by simp [Zw,Z9,ZaJ,e1]
  simp only [Zy,this,Xw,XaE,XX]
  rfl
 simp only [Zp,gcA,hi,Zg,Zr,Zq]
 rw [ZaJ,Zr,e2]
def Zjl (b:Int) (l:Zc):Zn×Int :=
 if qoI b < 3 then (if qoI b > 0\/(ZbF b 8 != 0)=false then (match ZeD (qoI b) l with
  | .error e=>(Za3,e)
  | .ok (tp,n,ps,pay)=>({ Za3 with type:=3,dup:=(ZbF b 8 != 0),qos:=qoI b,retain:=(ZbF b 1 != 0),id:=n,topic:=tp,props:=ps,payload:=pay },0))
  else (Za3,130)) else (Za3,129)
theorem ZNK (b:Int) (h3:tyI b=3) (l:Zc) (hl:l.length<=140737488355328):∃ Q,E1 9 [.agg [.int .u8 b,.lst false (l.map Zb)]] []=some (.tup [.agg Q,.int .i64 (Zjl b l).2],[])/\∀ σ,ZaL σ Q=some (Zh (Zjl b l).1,[]):=by
 have hf:=ZDw P0 rfl (by rfl) b l h3
 have hQ:(Zda P0 b).length=26:=rfl
 have hN:Zd (Zda P0 b)=true:=by rfl
 unfold Zjl
 by_cases hq:qoI b < 3
 ·rw [if_pos hq] at hf ⊢
  by_cases hd:qoI b > 0\/(ZbF b 8 != 0)=false
  ·rw [if_pos hd] at hf ⊢
   cases hp:ZeD (qoI b) l with
   | error e =>
    obtain ⟨cs,hn,hb⟩:=ZMW (Zda P0 b) hQ hN (qoI b) rfl rfl l hl hp
    refine ⟨P0,?_,Zmf⟩
    rw [Zhu]
    exact Zg8 b e l (ZwQ b l hQ hN hn hf hb)
   | ok s =>
    obtain ⟨tp,n,ps,pay⟩:=s
    have hb:=ZxY (Zda P0 b) hQ hN (qoI b) rfl rfl rfl (fun r _=>ZdS 3 r) l hl hp
    refine ⟨((((Zda P0 b).set 5 (.str tp)).set 4 (.int .i64 n)).set 9 (.lst false (ps.map Zu))).set 6 (.lst false (pay.map Zb)),?_,fun σ=>rfl⟩
    rw [Zhu]
    exact Zv7 b l hQ hN rfl (by rfl) rfl rfl hf hb
  ·rw [if_neg hd] at hf ⊢
   refine ⟨P0,?_,Zmf⟩
   rw [Zhu]
   exact Zg8 b 130 l (Zmj b l (ZE _ hQ hN _ _) hf)
 ·rw [if_neg hq] at hf ⊢
  refine ⟨P0,?_,Zmf⟩
  rw [Zhu]
  exact Zg8 b 129 l (Zmj b l (ZE _ hQ hN _ _) hf)
end
section
def Zd5 (k:Int) (l:Zc):Except Int (Int×List ZB×Zc):=match idK l with
 | .error c=>.error c
 | .ok (n,r1)=>match ZbY k r1 with
  | .error c=>.error c
  | .ok (ps,r2)=>if r2.length=0 then .error 130 else .ok (n,ps,r2)
def Zcf (P:List AVal) (n:Int) (ps:List ZB):List AVal:=(P.set 4 (.int .i64 n)).set 9 (.lst false (ps.map Zu))
structure QOk (k:Int) (Q:List AVal):Prop where
 len:Q.length=26
 nor:Zd Q=true
 ty:Q[0]?=some (.int .i64 k)
 c8:Q[8]?=some (.lst true [])
 c10:Q[10]?=some (.lst true [])
 c11:Q[11]?=some (.lst true [])
theorem ZdM {k:Int} {P:List AVal} (h:QOk k P) (n:Int) (ps:List ZB):QOk k (Zcf P n ps):=by
 unfold Zcf
 refine ⟨by simp [h.len],ZZ (Zcj _ _) _ (ZZ rfl _ h.nor),?_,?_,?_,?_⟩
 ·rw [Xn (by omega),Xn (by omega)];exact h.ty
 ·rw [Xn (by omega),Xn (by omega)];exact h.c8
 ·rw [Xn (by omega),Xn (by omega)];exact h.c10
 ·rw [Xn (by omega),Xn (by omega)];exact h.c11
theorem ZHQ {f:Nat} {cs:List AVal} (hc:Zd cs=true) (τ:Za) :
  gcT 3 [(1,.fn f [.ref 1 0,.ref 2 0]),(0,.ref 0 0)] (.var cs::.var [.ref 0 0]::.var [.ref 0 0]::τ)=([(1,.fn f [.ref 1 0,.ref 2 0]),(0,.ref 0 0)],[.var cs,.var [.ref 0 0],.var [.ref 0 0]]):=by
 have e2:=fun ρ=>Za8 ρ cs hc
 have hi:Zy 3 [.fn f [.ref 1 0,.ref 2 0],.ref 0 0] (.var cs::.var [.ref 0 0]::.var [.ref 0 0]::τ)=[0,1,2]:=by
  have hR:X6 3=[0,1,2]:=rfl
  simp only [Zy,hR,XH,XX,Xm,Xu,XN,ZC,Zw,Z9,(e2 (fun _ _=>none)).2]
  rfl
 have hρ0:Zi (.var cs::.var [.ref 0 0]::.var [.ref 0 0]::τ) 3 [0,1,2] 0 0=some (0,0):=rfl
 have hρ1:Zi (.var cs::.var [.ref 0 0]::.var [.ref 0 0]::τ) 3 [0,1,2] 1 0=some (1,0):=rfl
 have hρ2:Zi (.var cs::.var [.ref 0 0]::.var [.ref 0 0]::τ) 3 [0,1,2] 2 0=some (2,0):=rfl
 simp only [gcT,gcA,Xo,XA,hi,Zq,Xu,XN,Zz,Zg,Zr,hρ0,hρ1,hρ2,(e2 _).1]
 rfl
theorem ZEl {f:Nat} {cs:List AVal} (hc:Zd cs=true) (τ:Za) :
  gcT 1 [(1,.fn f [.ref 0 0]),(0,.ref 0 0)] (.var cs::τ)=([(1,.fn f [.ref 0 0]),(0,.ref 0 0)],[.var cs]):=by
 have e2:=fun ρ=>Za8 ρ cs hc
 have hi:Zy 1 [.fn f [.ref 0 0],.ref 0 0] (.var cs::τ)=[0]:=by
  have hR:X6 1=[0]:=rfl
  simp only [Zy,hR,XH,XX,Xm,Xu,ZC,Zw,Z9,(e2 (fun _ _=>none)).2]
  rfl
 have hρ0:Zi (.var cs::τ) 1 [0] 0 0=some (0,0):=rfl
 simp only [gcT,gcA,Xo,XA,hi,Zq,Xu,Zz,Zg,Zr,hρ0,(e2 _).1]
 rfl
section
variable (k:Int) (f:Nat) (P:List AVal) (h:QOk k P) (l:Zc) (hl:l.length<=140737488355328)
include h hl
theorem ZtV {n:Int} {ps:List ZB} {r:Zc} (hk:Zd5 k l=.ok (n,ps,r)):E 39 [.ref 0 0,.fn f [.ref 1 0,.ref 2 0]] [.var (P++[.lst false (l.map Zb)]),.var [.ref 0 0],.var [.ref 0 0]]=Zbc 3 [(1,.fn f [.ref 1 0,.ref 2 0]),(0,.ref 0 0)] [.var (Zcf P n ps++[.lst false (r.map Zb)]),.var [.ref 0 0],.var [.ref 0 0]]:=by
 obtain ⟨hP,hN,h0,-,-,-⟩:=h
 unfold Zd5 at hk
 split at hk
 ·cases hk
 rename_i n' r1 hi
 have l1:=Zfo hi
 split at hk
 ·cases hk
 rename_i ps' r2 hp
 split at hk
 ·cases hk
 rename_i hne
 injection hk with hk;injection hk with e1 hk;injection hk with e2 e3;subst e1 e2 e3
 have hI:=fun σ sq hs=>Zf0 P hP hN l hl σ 0 sq hs hi
 have hP4:(P.set 4 (.int .i64 n')).length=26:=by simp [hP]
 have hN4:Zd (P.set 4 (.int .i64 n'))=true:=ZZ rfl 4 hN
 have h04:(P.set 4 (.int .i64 n'))[0]?=some (.int .i64 k):=by rw [Xn (by omega)];exact h0
 unfold Zcf
 generalize P.set 4 (.int .i64 n')=R at *
 have hG:=fun σ sq hs=>Zeq R hP4 hN4 r1 (by omega) σ 0 sq hs (ZdS k r1) hp
 have c1:=Zac R hP4
 have c2:=Zay R hP4
 have c4:=fun L=>(Zaf R hP4 0 (by omega) L).trans h04
 have c3:=fun L=>ZaG R hP4 9 10 (by omega) rfl L (.lst false (ps'.map Zu))
 have hP9:(R.set 9 (.lst false (ps'.map Zu))).length=26:=by simp [hP4]
 have hN9:Zd (R.set 9 (.lst false (ps'.map Zu)))=true:=ZZ (Zcj _ _) 9 hN4
 generalize R.set 9 (.lst false (ps'.map Zu))=S at *
 have d2:=Zay S hP9
 have m1:=Zbm
 have z:((r2.length:Nat):Int) > 0:=by omega
 have z2:(0:Int) < ((r2.length:Nat):Int):=by omega
 have gC:=fun τ=>ZHQ (f:=f) (ZE S hP9 hN9 false (r2.map Zb)) τ
 unfold Zbc
 rw [Zj (by rfl) Zgm]
 simp -implicitDefEqProofs only [EQA,ZH,ZN,Xe,Xc,Xf,Xa,reduceCtorEq,↓reduceIte,Zgd,ZeV,c1,c3,c4,hI,hG,d2,m1,z,gC]
theorem ZNE {e:Int} (hk:Zd5 k l=.error e):∃ cs,Zd cs=true/\E 39 [.ref 0 0,.fn f [.ref 1 0,.ref 2 0]] [.var (P++[.lst false (l.map Zb)]),.var [.ref 0 0],.var [.ref 0 0]]=some (.pan (ZG e),[.var (cs),.var [.ref 0 0],.var [.ref 0 0]]):=by
 obtain ⟨hP,hN,h0,-,-,-⟩:=h
 unfold Zd5 at hk
 split at hk
 ·rename_i c hi
  injection hk with hk;subst hk
  obtain ⟨cs,hn,he⟩:=Zkt P hP hN l hl hi
  have hI:=fun (σ:Za) sq (hs:σ[0]?=some (.var (P++[.lst false (l.map Zb)])))=>ZcS (O:=E) (bf:=BY) (f:=37) (view:=true) (rest:=[]) (by kernel_rfl) rfl (ZE P hP hN _ _) hn rfl he hs sq
  refine ⟨cs,hn,?_⟩
  rw [Zj (by rfl) Zgm]
  simp -implicitDefEqProofs only [EQA,Xe,Xc,reduceCtorEq,↓reduceIte,Zgd,ZeV,hI]
  exact ZkW rfl hn _
 rename_i n' r1 hi
 have l1:=Zfo hi
 have hI:=fun σ sq hs=>Zf0 P hP hN l hl σ 0 sq hs hi
 have hP4:(P.set 4 (.int .i64 n')).length=26:=by simp [hP]
 have hN4:Zd (P.set 4 (.int .i64 n'))=true:=ZZ rfl 4 hN
 have h04:(P.set 4 (.int .i64 n'))[0]?=some (.int .i64 k):=by rw [Xn (by omega)];exact h0
 generalize P.set 4 (.int .i64 n')=R at *
 have c1:=Zac R hP4
 have c2:=Zay R hP4
 have c4:=fun L=>(Zaf R hP4 0 (by omega) L).trans h04
 split at hk
 ·rename_i c hp
  injection hk with hk;subst hk
  have hG:=fun σ sq hs=>ZfQ R hP4 hN4 r1 (by omega) σ 0 sq hs hp
  refine ⟨_,ZE R hP4 hN4 false (r1.map Zb),?_⟩
  rw [Zj (by rfl) Zgm]
  simp -implicitDefEqProofs only [EQA,Xe,Xc,Xa,reduceCtorEq,↓reduceIte,Zgd,ZeV,c4,hI,hG]
  exact ZkW rfl (ZE R hP4 hN4 _ _) _
 rename_i ps' r2 hp
 split at hk
 case isFalse=>cases hk
 rename_i hne
 injection hk with hk;subst hk
 have hG:=fun σ sq hs=>Zeq R hP4 hN4 r1 (by omega) σ 0 sq hs (ZdS k r1) hp
 have c3:=fun L=>ZaG R hP4 9 10 (by omega) rfl L (.lst false (ps'.map Zu))
 have hP9:(R.set 9 (.lst false (ps'.map Zu))).length=26:=by simp [hP4]
 have hN9:Zd (R.set 9 (.lst false (ps'.map Zu)))=true:=ZZ (Zcj _ _) 9 hN4
 generalize R.set 9 (.lst false (ps'.map Zu))=S at *
 have d2:=Zay S hP9
 have m1:=ZbO
 have z:¬((r2.length:Nat):Int) > 0:=by omega
 have z2:¬(0:Int) < ((r2.length:Nat):Int):=by omega
 refine ⟨_,ZE S hP9 hN9 false (r2.map Zb),?_⟩
 rw [Zj (by rfl) Zgm]
 simp -implicitDefEqProofs only [EQA,ZH,Xe,Xc,Xf,Xa,reduceCtorEq,↓reduceIte,Zgd,ZeV,c1,c3,c4,hI,hG,d2,m1,z]
 exact ZkW rfl (ZE S hP9 hN9 _ _) _
theorem Ztb {n:Int} {ps:List ZB} {r:Zc} (hk:Zd5 k l=.ok (n,ps,r)):E 39 [.ref 0 0,.fn f [.ref 0 0]] [.var (P++[.lst false (l.map Zb)])]=Zbc 1 [(1,.fn f [.ref 0 0]),(0,.ref 0 0)] [.var (Zcf P n ps++[.lst false (r.map Zb)])]:=by
 obtain ⟨hP,hN,h0,-,-,-⟩:=h
 unfold Zd5 at hk
 split at hk
 ·cases hk
 rename_i n' r1 hi
 have l1:=Zfo hi
 split at hk
 ·cases hk
 rename_i ps' r2 hp
 split at hk
 ·cases hk
 rename_i hne
 injection hk with hk;injection hk with e1 hk;injection hk with e2 e3;subst e1 e2 e3
 have hI:=fun σ sq hs=>Zf0 P hP hN l hl σ 0 sq hs hi
 have hP4:(P.set 4 (.int .i64 n')).length=26:=by simp [hP]
 have hN4:Zd (P.set 4 (.int .i64 n'))=true:=ZZ rfl 4 hN
 have h04:(P.set 4 (.int .i64 n'))[0]?=some (.int .i64 k):=by rw [Xn (by omega)];exact h0
 unfold Zcf
 generalize P.set 4 (.int .i64 n')=R at *
 have hG:=fun σ sq hs=>Zeq R hP4 hN4 r1 (by omega) σ 0 sq hs (ZdS k r1) hp
 have c1:=Zac R hP4
 have c2:=Zay R hP4
 have c4:=fun L=>(Zaf R hP4 0 (by omega) L).trans h04
 have c3:=fun L=>ZaG R hP4 9 10 (by omega) rfl L (.lst false (ps'.map Zu))
 have hP9:(R.set 9 (.lst false (ps'.map Zu))).length=26:=by simp [hP4]
 have hN9:Zd (R.set 9 (.lst false (ps'.map Zu)))=true:=ZZ (Zcj _ _) 9 hN4
 generalize R.set 9 (.lst false (ps'.map Zu))=S at *
 have d2:=Zay S hP9
 have m1:=Zbm
 have z:((r2.length:Nat):Int) > 0:=by omega
 have z2:(0:Int) < ((r2.length:Nat):Int):=by omega
 have gC:=fun τ=>ZEl (f:=f) (ZE S hP9 hN9 false (r2.map Zb)) τ
 unfold Zbc
 rw [Zj (by rfl) Zgm]
 simp -implicitDefEqProofs only [EQA,ZH,ZN,Xe,Xc,Xf,Xa,reduceCtorEq,↓reduceIte,Zgd,ZeV,c1,c3,c4,hI,hG,d2,m1,z,gC]
theorem ZNq {e:Int} (hk:Zd5 k l=.error e):∃ cs,Zd cs=true/\E 39 [.ref 0 0,.fn f [.ref 0 0]] [.var (P++[.lst false (l.map Zb)])]=some (.pan (ZG e),[.var (cs)]):=by
 obtain ⟨hP,hN,h0,-,-,-⟩:=h
 unfold Zd5 at hk
 split at hk
 ·rename_i c hi
  injection hk with hk;subst hk
  obtain ⟨cs,hn,he⟩:=Zkt P hP hN l hl hi
  have hI:=fun (σ:Za) sq (hs:σ[0]?=some (.var (P++[.lst false (l.map Zb)])))=>ZcS (O:=E) (bf:=BY) (f:=37) (view:=true) (rest:=[]) (by kernel_rfl) rfl (ZE P hP hN _ _) hn rfl he hs sq
  refine ⟨cs,hn,?_⟩
  rw [Zj (by rfl) Zgm]
  simp -implicitDefEqProofs only [EQA,Xc,reduceCtorEq,↓reduceIte,Zgd,ZeV,hI]
  exact Z8 rfl hn
 rename_i n' r1 hi
 have l1:=Zfo hi
 have hI:=fun σ sq hs=>Zf0 P hP hN l hl σ 0 sq hs hi
 have hP4:(P.set 4 (.int .i64 n')).length=26:=by simp [hP]
 have hN4:Zd (P.set 4 (.int .i64 n'))=true:=ZZ rfl 4 hN
 have h04:(P.set 4 (.int .i64 n'))[0]?=some (.int .i64 k):=by rw [Xn (by omega)];exact h0
 generalize P.set 4 (.int .i64 n')=R at *
 have c1:=Zac R hP4
 have c2:=Zay R hP4
 have c4:=fun L=>(Zaf R hP4 0 (by omega) L).trans h04
 split at hk
 ·rename_i c hp
  injection hk with hk;subst hk
  have hG:=fun σ sq hs=>ZfQ R hP4 hN4 r1 (by omega) σ 0 sq hs hp
  refine ⟨_,ZE R hP4 hN4 false (r1.map Zb),?_⟩
  rw [Zj (by rfl) Zgm]
  simp -implicitDefEqProofs only [EQA,Xc,Xa,reduceCtorEq,↓reduceIte,Zgd,ZeV,c4,hI,hG]
  exact Z8 rfl (ZE R hP4 hN4 _ _)
 rename_i ps' r2 hp
 split at hk
 case isFalse=>cases hk
 rename_i hne
 injection hk with hk;subst hk
 have hG:=fun σ sq hs=>Zeq R hP4 hN4 r1 (by omega) σ 0 sq hs (ZdS k r1) hp
 have c3:=fun L=>ZaG R hP4 9 10 (by omega) rfl L (.lst false (ps'.map Zu))
 have hP9:(R.set 9 (.lst false (ps'.map Zu))).length=26:=by simp [hP4]
 have hN9:Zd (R.set 9 (.lst false (ps'.map Zu)))=true:=ZZ (Zcj _ _) 9 hN4
 generalize R.set 9 (.lst false (ps'.map Zu))=S at *
 have d2:=Zay S hP9
 have m1:=ZbO
 have z:¬((r2.length:Nat):Int) > 0:=by omega
 have z2:¬(0:Int) < ((r2.length:Nat):Int):=by omega
 refine ⟨_,ZE S hP9 hN9 false (r2.map Zb),?_⟩
 rw [Zj (by rfl) Zgm]
 simp -implicitDefEqProofs only [EQA,ZH,Xe,Xc,Xf,Xa,reduceCtorEq,↓reduceIte,Zgd,ZeV,c1,c3,c4,hI,hG,d2,m1,z]
 exact Z8 rfl (ZE S hP9 hN9 _ _)
end
end
section
theorem Zu4 {n:Nat} {l r:Zc} {a:Int} (hn:0 < n) (h:ZaS n l=.ok (a,r)):r.length < l.length:=by
 unfold ZaS at h
 split at h
 ·cases h
 ·injection h with h;injection h with _ h;subst h;rw [Wb];omega
theorem ZoR {l r a:Zc} (h:Zaw l=.ok (a,r)):r.length < l.length:=by
 unfold Zaw at h
 split at h
 ·rename_i h0
  injection h with h;injection h with _ h;subst h
  rw [Wb]
  unfold Zai at h0 ⊢
  split at h0
  ·rename_i h1;exact absurd h0 h1
  ·rename_i h1
   rw [if_neg h1]
   split at h0
   ·rename_i h2
    rw [if_pos h2]
    unfold ZaP at h0 ⊢
    split at h0
    ·cases h0
    ·rename_i h3
     rw [if_neg h3]
     simp only
     omega
   ·cases h0
 ·cases h
theorem ZlB {k:Int} {l r:Zc} {a:Int} (h:ZaR k l=.ok (a,r)):r.length < l.length:=by
 unfold ZaR at h
 split at h
 ·rename_i h1
  split at h
  ·injection h with h;injection h with _ h;subst h;exact Zu4 (by omega) h1
  ·cases h
 ·cases h
theorem Zju {l r:Zc} {a:ZbC} (h:ZbH l=.ok (a,r)):r.length < l.length:=by
 unfold ZbH at h
 split at h
 ·cases h
 rename_i f r1 ht
 have l1:=ZoR ht
 split at h
 ·cases h
 rename_i o r2 hn
 have l2:=Zu4 (by omega) hn
 split at h
 case isFalse=>cases h
 split at h
 case isFalse=>cases h
 injection h with h;injection h with _ h;subst h
 omega
section
variable {O:ZX} {bf:Nat->Bool} {f:Nat} {cs cs1 cs2 cs3 xs xs2:List AVal} {w w2:Nat} {q:AVal}
theorem ZMv (hb:bf f=false) (hc:Zd cs=true) (hq:ZI q=true) (hback:∀ ρ:Rho,ρ 1 0=some (1,0)->Zg ρ cs2=cs2) (hO:O f [.ref 0 0] [.var cs]=some (q,[.var cs2,.row 0 w xs])) :
  Zk O bf [.var cs,.free,.free,.free,.free] 1 f 4 false [.ref 0 0]=some (q,[.var cs2,.row 0 w xs,.free,.free,.free],{ any:=true,upd:=[(0,cs2)] }):=by
 have ec:=fun ρ=>Za8 ρ cs hc
 refine Zdn (ids:=[0]) (vs:=[.ref 0 0]) hb rfl (Zfe rfl hc) rfl rfl rfl ?_ hO rfl (by simp) (by simp) rfl rfl (Z4 _ q hq).1 ?_ rfl
 ·show [ZR.var (Zg _ cs)]=_
  rw [(ec _).1]
 ·have hb3:=hback (ZaC [.var cs,.free,.free,.free,.free] [0] 1) rfl
  show [ZR.var (Zg _ cs2),.row 0 w xs,.free,.free,.free]=_
  rw [hb3]
theorem ZGh (hb:bf f=false) (hc:Zd cs=true) (hq:ZI q=true) (hc2:Zd cs2=true) (hO:O f [.ref 0 0] [.var cs]=some (q,[.var cs2])) :
  Zk O bf [.var cs,.free,.free,.free,.free] 1 f 4 false [.ref 0 0]=some (q,[.var cs2,.free,.free,.free,.free],{ any:=true,upd:=[(0,cs2)] }):=by
 have ec:=fun ρ=>Za8 ρ cs hc
 refine Zdn (ids:=[0]) (vs:=[.ref 0 0]) hb rfl (Zfe rfl hc) rfl rfl rfl ?_ hO rfl (by simp) (by simp) rfl rfl (Z4 _ q hq).1 ?_ rfl
 ·show [ZR.var (Zg _ cs)]=_
  rw [(ec _).1]
 ·show [ZR.var (Zg _ cs2),.free,.free,.free,.free]=_
  rw [(Za8 _ cs2 hc2).1]
theorem ZwH {g2:Nat} (hb:bf f=false) (hc:Zw cs=[1]) (hren:∀ ρ:Rho,ρ 1 0=some (1,0)->Zg ρ cs=cs) (hq:ZI q=true) (hg2:g2<=1) (hback:∀ ρ:Rho,ρ 1 g2=some (1,g2)->Zg ρ cs2=cs2) (hO:O f [.ref 0 0] [.var cs,.row 0 w xs]=some (q,[.var cs2,.row g2 w2 xs2])) :
  Zk O bf [.var cs,.row 0 w xs,.free,.free,.free,.free] 2 f 4 false [.ref 0 0]=some (q,[.var cs2,.row g2 w2 xs2,.free,.free,.free,.free],{ any:=true,upd:=[(0,cs2)] }):=by
 refine Zdn (ids:=[0,1]) (vs:=[.ref 0 0]) hb rfl (ZoF (g:=0) (w:=w) (xs:=xs) rfl rfl (by omega) hc) rfl rfl rfl ?_ hO rfl (by simp) (by simp) ?_ rfl (Z4 _ q hq).1 ?_ rfl
 ·have h1:=hren (Zi [.var cs,.row 0 w xs,.free,.free,.free,.free] 0 [0,1]) rfl
  show [ZR.var (Zg _ cs),.row 0 w xs]=_
  rw [h1]
 ·simp [ZaY,okB,Zb7,Zl,hg2]
 ·have hb3:=hback (ZaC [.var cs,.row 0 w xs,.free,.free,.free,.free] [0,1] 2) (by simp [ZaC,Zl])
  show [ZR.var (Zg _ cs2),.row (0+g2) w2 xs2,.free,.free,.free,.free]=_
  rw [hb3,XG]
theorem ZsV {f g:Nat} (hc:Zw cs=[1]) (hg:g<=1) (hren:∀ ρ:Rho,ρ 1 g=some (1,0)->Zg ρ cs=cs1) (τ:Za) :
  gcT 1 [(1,.fn f [.ref 0 0]),(0,.ref 0 0)] (.var cs::.row g w xs::τ)=([(1,.fn f [.ref 0 0]),(0,.ref 0 0)],[.var cs1,.row 0 w xs]):=by
 have hi:Zy 1 [.fn f [.ref 0 0],.ref 0 0] (.var cs::.row g w xs::τ)=[0,1]:=by
  have hR:X6 1=[0]:=rfl
  simp only [Zy,hR,XH,XX,Xm,Xu,ZC,Zw,Z9,hc]
  rfl
 have hρ:Zi (.var cs::.row g w xs::τ) 1 [0,1] 1 g=some (1,0):=by
  simp [Zi,ZO,Zl,ZF]
 have hρ0:Zi (.var cs::.row g w xs::τ) 1 [0,1] 0 0=some (0,0):=rfl
 simp only [gcT,gcA,Xo,XA,hi,Zq,Xu,XN,ZF,Zl,Zz,Zg,Zr,hρ0,hren _ hρ]
 simp
end
section
variable (Q:List AVal) (hQ:Q.length=26) (hN:Zd Q=true) (h10:Q[10]?=some (.lst true []))
include hQ hN
def H1 (Q:List AVal) (n:Nat) (l:Zc) (ys:List AVal):Za:=[.var (Zo Q 10 1 0 n++[.lst false (l.map Zb)]),.row 0 6 ys]
def tmS:Tms:=[(1,.fn 1000040 [.ref 0 0]),(0,.ref 0 0)]
theorem ZwX:∀ (n:Nat) (l:Zc) (xs:List ZbC),l.length<=n->n+xs.length<=1099511627776 ->
  (∀ ts,Za0 ZbH n l=.ok ts->Zbc 1 tmS (H1 Q xs.length l (xs.map Z6))=some (.tup [],H1 Q (xs++ts).length [] ((xs++ts).map Z6))) /\
  (∀ e,Za0 ZbH n l=.error e->∃ (xs':List ZbC) (r:Zc),Zbc 1 tmS (H1 Q xs.length l (xs.map Z6))=some (.pan (ZG e),H1 Q xs'.length r (xs'.map Z6))):=by
 have hk:(10:Nat) < 26:=by omega
 intro n
 induction n with
 | zero =>
  intro l xs hl hx
  have l0:l=[]:=Xy (by omega)
  subst l0
  refine ⟨fun ts h=>?_,fun e h=>by simp [Za0] at h⟩
  have : ts=[]:=by simpa [Za0] using h.symm
  subst this
  rw [Xm]
  have hL:=Zcb Q hQ hN 10 hk xs.length 1 0
  have b2:=Zay _ hL
  have hO:=fun τ=>Zdk (j:=1) (w:=6) (xs:=xs.map Z6) (r:=.tup []) (σ:=.var (Zo Q 10 1 0 xs.length++[.lst false []])::.row 0 6 (xs.map Z6)::τ) rfl (by omega) rfl rfl (ZbG Q hQ hN hk 1 0 xs.length []) (fun ρ h=>ZaZ Q hQ hN hk 1 0 xs.length 1 0 [] ρ h)
  unfold H1 tmS Zbc
  rw [ZL]
  generalize Zo Q 10 1 0 xs.length=R at *
  generalize xs.map Z6=ys at *
  simp -implicitDefEqProofs only [EQA,Zx,Xe,WJ,Xc,Xa,Xg,reduceCtorEq,decide_eq_true_eq,↓reduceIte,Zd,Zld,ZdQ,Zdd,b2]
  exact hO _
 | succ n ih =>
  intro l xs hl hx
  have hL:=Zcb Q hQ hN 10 hk xs.length 1 0
  have b2:=Zay _ hL
  by_cases l0:l.length=0
  ·have l0:l=[]:=Xy l0
   subst l0
   refine ⟨fun ts h=>?_,fun e h=>by simp [Za0] at h⟩
   have : ts=[]:=by simpa [Za0] using h.symm
   subst this
   rw [Xm]
   have hO:=fun τ=>Zdk (j:=1) (w:=6) (xs:=xs.map Z6) (r:=.tup []) (σ:=.var (Zo Q 10 1 0 xs.length++[.lst false []])::.row 0 6 (xs.map Z6)::τ) rfl (by omega) rfl rfl (ZbG Q hQ hN hk 1 0 xs.length []) (fun ρ h=>ZaZ Q hQ hN hk 1 0 xs.length 1 0 [] ρ h)
   unfold H1 tmS Zbc
   rw [ZL]
   generalize Zo Q 10 1 0 xs.length=R at *
   generalize xs.map Z6=ys at *
   simp -implicitDefEqProofs only [EQA,Zx,Xe,WJ,Xc,Xa,Xg,reduceCtorEq,decide_eq_true_eq,↓reduceIte,Zd,Zld,ZdQ,Zdd,b2]
   exact hO _
  ·have z1:((l.length:Nat):Int) > 0:=by omega
   have z2:(0:Int) < ((l.length:Nat):Int):=by omega
   cases ho:ZbH l with
   | error e =>
    refine ⟨fun ts h=>by simp [Za0,l0,ho] at h,fun e' h=>?_⟩
    have : e'=e:=by simpa [Za0,l0,ho] using h.symm
    subst this
    obtain ⟨r,hE⟩:=ZJu Q hQ hN l (by omega) xs ho
    have hC:=ZwH (O:=E) (bf:=BY) (f:=40) (g2:=0) (by kernel_rfl) (ZbG Q hQ hN hk 1 0 xs.length l) (fun ρ h=>ZaZ Q hQ hN hk 1 0 xs.length 1 0 l ρ h) (q:=.pan (ZG e')) rfl (by omega) (fun ρ h=>ZaZ Q hQ hN hk 1 0 xs.length 1 0 r ρ h) hE
    have hO:=fun τ=>Zdk (j:=1) (w:=6) (xs:=xs.map Z6) (r:=.pan (ZG e')) (σ:=.var (Zo Q 10 1 0 xs.length++[.lst false (r.map Zb)])::.row 0 6 (xs.map Z6)::τ) rfl (by omega) rfl rfl (ZbG Q hQ hN hk 1 0 xs.length r) (fun ρ h=>ZaZ Q hQ hN hk 1 0 xs.length 1 0 r ρ h)
    refine ⟨xs,r,?_⟩
    unfold H1 tmS Zbc
    rw [ZL]
    clear hE ih
    generalize Zo Q 10 1 0 xs.length=R at *
    generalize xs.map Z6=ys at *
    generalize ZG e'=ce at *
    simp -implicitDefEqProofs only [EQA,Xe,WJ,Xc,Xa,Xg,reduceCtorEq,↓reduceIte,ZdQ,Zdd,b2,hC,z1]
    exact hO _
   | ok s =>
    obtain ⟨s,r⟩:=s
    have hr:=Zju ho
    have hE:=ZJG Q hQ hN xs (by omega) l (by omega) ho
    have hC:=ZwH (O:=E) (bf:=BY) (f:=40) (g2:=1) (by kernel_rfl) (ZbG Q hQ hN hk 1 0 xs.length l) (fun ρ h=>ZaZ Q hQ hN hk 1 0 xs.length 1 0 l ρ h) (q:=.tup []) rfl (by omega) (fun ρ h=>ZaZ Q hQ hN hk 1 1 (xs.length+1) 1 1 r ρ h) hE
    have hG:=ZsV (f:=1000040) (w:=6) (xs:=(xs++[s]).map Z6) (g:=1) (ZbG Q hQ hN hk 1 1 (xs.length+1) r) (by omega) (fun ρ h=>ZaZ Q hQ hN hk 1 1 (xs.length+1) 1 0 r ρ h)
    have step:Zbc 1 tmS (H1 Q xs.length l (xs.map Z6))=Zbc 1 tmS (H1 Q (xs++[s]).length r ((xs++[s]).map Z6)):=by
     rw [show (xs++[s]).length=xs.length+1 from by simp]
     unfold H1 tmS
     conv=>lhs;unfold Zbc
     conv=>rhs;unfold Zbc
     conv=>lhs;rw [ZL]
     clear hE ih
     generalize Zo Q 10 1 0 xs.length=R at *
     generalize Zo Q 10 1 1 (xs.length+1)=R2 at *
     generalize Zo Q 10 1 0 (xs.length+1)=R3 at *
     generalize xs.map Z6=ys at *
     generalize (xs++[s]).map Z6=zs at *
     simp -implicitDefEqProofs only [EQA,ZN,Xe,WJ,Xc,Xa,Xg,reduceCtorEq,↓reduceIte,ZdQ,Zdd,b2,hC,hG,z1]
    obtain ⟨i1,i2⟩:=ih r (xs++[s]) (by omega) (by simp;omega)
    refine ⟨fun ts h=>?_,fun e h=>?_⟩
    ·rw [step]
     simp only [Za0,l0,ho,if_false] at h
     cases hl2:Za0 ZbH n r with
     | error e=>rw [hl2] at h;cases h
     | ok us =>
      rw [hl2] at h
      injection h with h;subst h
      have:=i1 us hl2
      rw [Wa,List.singleton_append] at this
      exact this
    ·rw [step]
     simp only [Za0,l0,ho,if_false] at h
     cases hl2:Za0 ZbH n r with
     | error e2 =>
      rw [hl2] at h
      injection h with h;subst h
      exact i2 e2 hl2
     | ok us=>rw [hl2] at h;cases h
end
def ZbP {α:Type} (one:Zc->RK α) (k:Int) (l:Zc):Except Int (Int×List ZB×List α):=match Zd5 k l with
 | .error e=>.error e
 | .ok (n,ps,r)=>match Za0 one r.length r with
  | .error e=>.error e
  | .ok ts=>.ok (n,ps,ts)
theorem ZjX {k:Int} {l:Zc} {n:Int} {ps:List ZB} {r:Zc} (h:Zd5 k l=.ok (n,ps,r)):r.length<=l.length/\r.length≠0:=by
 unfold Zd5 at h
 split at h
 ·cases h
 rename_i n' r1 hi
 have l1:=Zfo hi
 split at h
 ·cases h
 rename_i ps' r2 hp
 have l2:=Zhf hp
 split at h
 ·cases h
 rename_i hne
 injection h with h;injection h with e1 h;injection h with e2 e3;subst e1 e2 e3
 exact ⟨by omega,hne⟩
theorem ZmP {α:Type} {one:Zc->RK α} {n:Nat} {l:Zc} (h:l.length=n+1) {s:α} {r:Zc} (ho:one l=.ok (s,r)) (hlen:∀ {l s r},one l=.ok (s,r)->r.length < l.length):Za0 one l.length l=match Za0 one n r with
  | .error e=>.error e
  | .ok t=>.ok (s::t):=by
 rw [h]
 simp only [Za0,h,Xaf,Xav,and_false,if_false,ho]
 all_goals rfl
section
variable {α:Type} {one:Zc->RK α} {g:α->AVal} {f kk:Nat} {k:Int} (hk:kk < 26) (hf:f < 1000000) (hby:BY f=false)
  (hlen:∀ {l s r},one l=.ok (s,r)->r.length < l.length)
  (hT0:∀ Q,QOk k Q->∀ (l:Zc) (s:α) (r:Zc),l.length<=1099511627776->one l=.ok (s,r)->E f [.ref 0 0,.ref 2 0] [.var [.ref 1 0],.var (Q++[.lst false (l.map Zb)]),.var [.ref 1 0]]=some (.tup [],[.var [.ref 1 0],.var (Zo Q kk 3 0 1++[.lst false (r.map Zb)]),.var [.ref 1 0],.row 0 1 [g s]]))
  (hF0:∀ Q,QOk k Q->∀ (l:Zc) (e:Int),l.length<=1099511627776->one l=.error e->∃ r:Zc,E f [.ref 0 0,.ref 2 0] [.var [.ref 1 0],.var (Q++[.lst false (l.map Zb)]),.var [.ref 1 0]]=some (.pan (ZG e),[.var [.ref 1 0],.var (Q++[.lst false (r.map Zb)]),.var [.ref 1 0]]))
  (hT1:∀ Q,QOk k Q->∀ (xs:List α) (l:Zc) (s:α) (r:Zc),l.length<=1099511627776->xs.length<=1099511627776->one l=.ok (s,r)->E f [.ref 0 0,.ref 3 0] [.var [.ref 1 0],.var (Zo Q kk 2 0 xs.length++[.lst false (l.map Zb)]),.row 0 1 (xs.map g),.var [.ref 1 0]]=some (.tup [],[.var [.ref 1 0],.var (Zo Q kk 2 1 (xs.length+1)++[.lst false (r.map Zb)]),.row 1 1 ((xs++[s]).map g),.var [.ref 1 0]]))
  (hF1:∀ Q,QOk k Q->∀ (xs:List α) (l:Zc) (e:Int),l.length<=1099511627776->one l=.error e->∃ r:Zc,E f [.ref 0 0,.ref 3 0] [.var [.ref 1 0],.var (Zo Q kk 2 0 xs.length++[.lst false (l.map Zb)]),.row 0 1 (xs.map g),.var [.ref 1 0]]=some (.pan (ZG e),[.var [.ref 1 0],.var (Zo Q kk 2 0 xs.length++[.lst false (r.map Zb)]),.row 0 1 (xs.map g),.var [.ref 1 0]]))
include hk hf hby hT0
theorem Zw5 {Q:List AVal} (hQ:QOk k Q) {l r:Zc} {s:α} (hl:l.length<=1099511627776) (hl0:l.length≠0) (ho:one l=.ok (s,r)) :
  Zbc 3 [(1,.fn f [.ref 1 0,.ref 2 0]),(0,.ref 0 0)] [.var (Q++[.lst false (l.map Zb)]),.var [.ref 0 0],.var [.ref 0 0]]=Zbc 3 [(1,.fn f [.ref 1 0,.ref 2 0]),(0,.ref 0 0)] (H3 Q kk 1 r [g s]):=by
 have hE:=hT0 Q hQ l s r hl ho
 obtain ⟨hL,hN,-,-,-,-⟩:=hQ
 have z1:((l.length:Nat):Int) > 0:=by omega
 have z2:(0:Int) < ((l.length:Nat):Int):=by omega
 have b2:=Zay _ hL
 have hC:=ZBb (O:=E) (bf:=BY) (cs:=Q++[.lst false (l.map Zb)]) (cs3:=Zo Q kk 3 0 1++[.lst false (r.map Zb)]) hby (ZE Q hL hN false (l.map Zb)) (q:=.tup []) rfl (fun ρ h=>ZaZ Q hL hN hk 3 0 1 3 0 r ρ h) hE
 have hG:=Zuv (f:=f) (w:=1) (xs:=[g s]) (g:=0) (ZbG Q hL hN hk 3 0 1 r) (by omega) (fun ρ h=>ZaZ Q hL hN hk 3 0 1 3 0 r ρ h)
 unfold H3
 conv=>lhs;unfold Zbc
 conv=>rhs;unfold Zbc
 conv=>lhs;rw [ZL]
 clear hE hT0
 generalize Zo Q kk 3 0 1=Q2 at *
 simp -implicitDefEqProofs only [EQA,ZN,Xe,Xc,Xa,Xg,reduceCtorEq,↓reduceIte,ZdQ,Zdd,b2,hC,hG,hf,z1]
omit hT0
include hF0
theorem ZLK {Q:List AVal} (hQ:QOk k Q) {l:Zc} {e:Int} (hl:l.length<=1099511627776) (hl0:l.length≠0) (ho:one l=.error e) :
  ∃ r:Zc,Zbc 3 [(1,.fn f [.ref 1 0,.ref 2 0]),(0,.ref 0 0)] [.var (Q++[.lst false (l.map Zb)]),.var [.ref 0 0],.var [.ref 0 0]]=some (.pan (ZG e),[.var (Q++[.lst false (r.map Zb)]),.var [.ref 0 0],.var [.ref 0 0]]):=by
 obtain ⟨r,hE⟩:=hF0 Q hQ l e hl ho
 obtain ⟨hL,hN,-,-,-,-⟩:=hQ
 have z1:((l.length:Nat):Int) > 0:=by omega
 have z2:(0:Int) < ((l.length:Nat):Int):=by omega
 have b2:=Zay _ hL
 have hC:=Zyn (O:=E) (bf:=BY) (cs:=Q++[.lst false (l.map Zb)]) (cs2:=Q++[.lst false (r.map Zb)]) hby (ZE Q hL hN false (l.map Zb)) (q:=.pan (ZG e)) rfl (ZE Q hL hN false (r.map Zb)) hE
 have hO:=fun τ=>ZkW (r:=.pan (ZG e)) rfl (ZE Q hL hN false (r.map Zb)) τ
 refine ⟨r,?_⟩
 unfold Zbc
 rw [ZL]
 clear hE hF0
 generalize ZG e=ce at *
 simp -implicitDefEqProofs only [EQA,Xe,Xc,Xa,Xg,reduceCtorEq,↓reduceIte,ZdQ,Zdd,b2,hC,hf,z1]
 exact hO _
include hT0 hT1 hF1 hlen
theorem Zpk {P:List AVal} (hP:QOk k P) {l:Zc} (hl:l.length<=1099511627775) {n:Int} {ps:List ZB} {ts:List α} (h:ZbP one k l=.ok (n,ps,ts)) :
  E 39 [.ref 0 0,.fn f [.ref 1 0,.ref 2 0]] [.var (P++[.lst false (l.map Zb)]),.var [.ref 0 0],.var [.ref 0 0]]=some (.tup [],H3 (Zcf P n ps) kk ts.length [] (ts.map g)):=by
 unfold ZbP at h
 split at h
 ·cases h
 rename_i n' ps' r hm
 obtain ⟨l1,l2⟩:=ZjX hm
 split at h
 ·cases h
 rename_i us hu
 injection h with h;injection h with e1 h;injection h with e2 e3;subst e1 e2 e3
 rw [ZtV k f P hP l (by omega) hm]
 have hQ:=ZdM hP n' ps'
 generalize Zcf P n' ps'=Q at *
 obtain ⟨j,hj⟩:∃ j,r.length=j+1:=⟨r.length - 1,by omega⟩
 cases ho:one r with
 | error e =>
  rw [hj] at hu
  simp only [Za0,hj,Xaf,Xav,and_false,if_false,ho] at hu
  cases hu
 | ok sr =>
  obtain ⟨s,r'⟩:=sr
  have hr:=hlen ho
  rw [ZmP hj ho hlen] at hu
  cases hl2:Za0 one j r' with
  | error e=>rw [hl2] at hu;cases hu
  | ok vs =>
   rw [hl2] at hu
   injection hu with hu;subst hu
   rw [Zw5 hk hf hby hT0 hQ (by omega) l2 ho]
   exact (ZuK (g:=g) Q hQ.len hQ.nor hk hf hby hlen (hT1 Q hQ) (hF1 Q hQ) j r' [s] (by omega) (by simp;omega)).1 vs hl2
theorem Zp0 {P:List AVal} (hP:QOk k P) {l:Zc} (hl:l.length<=1099511627775) {e:Int} (h:ZbP one k l=.error e) :
  (∃ cs,Zd cs=true/\E 39 [.ref 0 0,.fn f [.ref 1 0,.ref 2 0]] [.var (P++[.lst false (l.map Zb)]),.var [.ref 0 0],.var [.ref 0 0]]=some (.pan (ZG e),[.var cs,.var [.ref 0 0],.var [.ref 0 0]])) \/
  (∃ (Q:List AVal) (xs:List α) (r:Zc),Q.length=26/\Zd Q=true/\E 39 [.ref 0 0,.fn f [.ref 1 0,.ref 2 0]] [.var (P++[.lst false (l.map Zb)]),.var [.ref 0 0],.var [.ref 0 0]]=some (.pan (ZG e),H3 Q kk xs.length r (xs.map g))):=by
 unfold ZbP at h
 split at h
 ·rename_i c hm
  injection h with h;subst h
  exact Xr (ZNE k f P hP l (by omega) hm)
 rename_i n' ps' r hm
 obtain ⟨l1,l2⟩:=ZjX hm
 rw [ZtV k f P hP l (by omega) hm]
 have hQ:=ZdM hP n' ps'
 generalize Zcf P n' ps'=Q at *
 obtain ⟨j,hj⟩:∃ j,r.length=j+1:=⟨r.length - 1,by omega⟩
 split at h
 case h_2=>cases h
 rename_i c hu
 injection h with h;subst h
 cases ho:one r with
 | error e =>
  have : e=c:=by
   rw [hj] at hu
   simp only [Za0,hj,Xaf,Xav,and_false,if_false,ho] at hu
   injection hu
  subst this
  obtain ⟨r',hr'⟩:=ZLK hk hf hby hF0 hQ (by omega) l2 ho
  exact Xr ⟨_,ZE Q hQ.len hQ.nor false (r'.map Zb),hr'⟩
 | ok sr =>
  obtain ⟨s,r'⟩:=sr
  have hr:=hlen ho
  rw [ZmP hj ho hlen] at hu
  cases hl2:Za0 one j r' with
  | ok vs=>rw [hl2] at hu;cases hu
  | error e2 =>
   rw [hl2] at hu
   injection hu with hu;subst hu
   rw [Zw5 hk hf hby hT0 hQ (by omega) l2 ho]
   obtain ⟨xs',r2,hx⟩:=(ZuK (g:=g) Q hQ.len hQ.nor hk hf hby hlen (hT1 Q hQ) (hF1 Q hQ) j r' [s] (by omega) (by simp;omega)).2 e2 hl2
   exact Xv ⟨Q,xs',r2,hQ.len,hQ.nor,hx⟩
end
section
theorem Zr9 {Q:List AVal} (hQ:QOk 8 Q) {l r:Zc} {s:ZbC} (hl:l.length<=1099511627776) (hl0:l.length≠0) (ho:ZbH l=.ok (s,r)) :
  Zbc 1 tmS [.var (Q++[.lst false (l.map Zb)])]=Zbc 1 tmS (H1 Q 1 r [Z6 s]):=by
 obtain ⟨hL,hN,-,-,h10,-⟩:=hQ
 have hk:(10:Nat) < 26:=by omega
 have hE:=ZAB Q hL hN h10 l (by omega) ho
 unfold Zm at hE
 have z1:((l.length:Nat):Int) > 0:=by omega
 have z2:(0:Int) < ((l.length:Nat):Int):=by omega
 have b2:=Zay _ hL
 have hC:=ZMv (O:=E) (bf:=BY) (f:=40) (cs:=Q++[.lst false (l.map Zb)]) (by kernel_rfl) (ZE Q hL hN false (l.map Zb)) (q:=.tup []) rfl (fun ρ h=>ZaZ Q hL hN hk 1 0 1 1 0 r ρ h) hE
 have hG:=ZsV (f:=1000040) (w:=6) (xs:=[Z6 s]) (g:=0) (ZbG Q hL hN hk 1 0 1 r) (by omega) (fun ρ h=>ZaZ Q hL hN hk 1 0 1 1 0 r ρ h)
 unfold H1 tmS
 conv=>lhs;unfold Zbc
 conv=>rhs;unfold Zbc
 conv=>lhs;rw [ZL]
 clear hE
 generalize Zo Q 10 1 0 1=Q2 at *
 generalize Z6 s=sv at *
 simp -implicitDefEqProofs only [EQA,ZN,Xe,WJ,Xc,Xa,Xg,reduceCtorEq,↓reduceIte,ZdQ,Zdd,b2,hC,hG,z1]
theorem ZN6 {Q:List AVal} (hQ:QOk 8 Q) {l:Zc} {e:Int} (hl:l.length<=1099511627776) (hl0:l.length≠0) (ho:ZbH l=.error e) :
  ∃ cs,Zd cs=true/\Zbc 1 tmS [.var (Q++[.lst false (l.map Zb)])]=some (.pan (ZG e),[.var cs]):=by
 obtain ⟨hL,hN,-,-,h10,-⟩:=hQ
 obtain ⟨cs,hc,hE⟩:=ZMM Q hL hN l (by omega) ho
 unfold Zm at hE
 have z1:((l.length:Nat):Int) > 0:=by omega
 have z2:(0:Int) < ((l.length:Nat):Int):=by omega
 have b2:=Zay _ hL
 have hC:=ZGh (O:=E) (bf:=BY) (f:=40) (cs:=Q++[.lst false (l.map Zb)]) (by kernel_rfl) (ZE Q hL hN false (l.map Zb)) (q:=.pan (ZG e)) rfl hc hE
 have hO:=fun τ=>Z8 (r:=.pan (ZG e)) (σ:=τ) rfl hc
 refine ⟨cs,hc,?_⟩
 unfold Zbc tmS
 rw [ZL]
 clear hE
 generalize ZG e=ce at *
 simp -implicitDefEqProofs only [EQA,Xe,WJ,Xc,Xa,Xg,reduceCtorEq,↓reduceIte,ZdQ,Zdd,b2,hC,z1]
 exact hO _
theorem ZA5 {P:List AVal} (hP:QOk 8 P) {l:Zc} (hl:l.length<=1099511627775) {n:Int} {ps:List ZB} {ts:List ZbC} (h:ZbP ZbH 8 l=.ok (n,ps,ts)) :
  E 39 [.ref 0 0,.fn 1000040 [.ref 0 0]] [.var (P++[.lst false (l.map Zb)])]=some (.tup [],H1 (Zcf P n ps) ts.length [] (ts.map Z6)):=by
 unfold ZbP at h
 split at h
 ·cases h
 rename_i n' ps' r hm
 obtain ⟨l1,l2⟩:=ZjX hm
 split at h
 ·cases h
 rename_i us hu
 injection h with h;injection h with e1 h;injection h with e2 e3;subst e1 e2 e3
 rw [Ztb 8 1000040 P hP l (by omega) hm]
 have hQ:=ZdM hP n' ps'
 generalize Zcf P n' ps'=Q at *
 obtain ⟨j,hj⟩:∃ j,r.length=j+1:=⟨r.length - 1,by omega⟩
 cases ho:ZbH r with
 | error e =>
  rw [hj] at hu
  simp only [Za0,hj,Xaf,Xav,and_false,if_false,ho] at hu
  cases hu
 | ok sr =>
  obtain ⟨s,r'⟩:=sr
  have hr:=Zju ho
  rw [ZmP hj ho Zju] at hu
  cases hl2:Za0 ZbH j r' with
  | error e=>rw [hl2] at hu;cases hu
  | ok vs =>
   rw [hl2] at hu
   injection hu with hu;subst hu
   show Zbc 1 tmS _=_
   rw [Zr9 hQ (by omega) l2 ho]
   exact (ZwX Q hQ.len hQ.nor j r' [s] (by omega) (by simp;omega)).1 vs hl2
theorem ZAz {P:List AVal} (hP:QOk 8 P) {l:Zc} (hl:l.length<=1099511627775) {e:Int} (h:ZbP ZbH 8 l=.error e) :
  (∃ cs,Zd cs=true/\E 39 [.ref 0 0,.fn 1000040 [.ref 0 0]] [.var (P++[.lst false (l.map Zb)])]=some (.pan (ZG e),[.var cs])) \/
  (∃ (Q:List AVal) (xs:List ZbC) (r:Zc),Q.length=26/\Zd Q=true/\E 39 [.ref 0 0,.fn 1000040 [.ref 0 0]] [.var (P++[.lst false (l.map Zb)])]=some (.pan (ZG e),H1 Q xs.length r (xs.map Z6))):=by
 unfold ZbP at h
 split at h
 ·rename_i c hm
  injection h with h;subst h
  exact Xr (ZNq 8 1000040 P hP l (by omega) hm)
 rename_i n' ps' r hm
 obtain ⟨l1,l2⟩:=ZjX hm
 rw [Ztb 8 1000040 P hP l (by omega) hm]
 have hQ:=ZdM hP n' ps'
 generalize Zcf P n' ps'=Q at *
 obtain ⟨j,hj⟩:∃ j,r.length=j+1:=⟨r.length - 1,by omega⟩
 split at h
 case h_2=>cases h
 rename_i c hu
 injection h with h;subst h
 show (∃ cs,Zd cs=true/\Zbc 1 tmS _=_)\/(∃ (Q:List AVal) (xs:List ZbC) (r:Zc),Q.length=26/\Zd Q=true/\Zbc 1 tmS _=_)
 cases ho:ZbH r with
 | error e =>
  have : e=c:=by
   rw [hj] at hu
   simp only [Za0,hj,Xaf,Xav,and_false,if_false,ho] at hu
   injection hu
  subst this
  exact Xr (ZN6 hQ (by omega) l2 ho)
 | ok sr =>
  obtain ⟨s,r'⟩:=sr
  have hr:=Zju ho
  rw [ZmP hj ho Zju] at hu
  cases hl2:Za0 ZbH j r' with
  | ok vs=>rw [hl2] at hu;cases hu
  | error e2 =>
   rw [hl2] at hu
   injection hu with hu;subst hu
   rw [Zr9 hQ (by omega) l2 ho]
   obtain ⟨xs',r2,hx⟩:=(ZwX Q hQ.len hQ.nor j r' [s] (by omega) (by simp;omega)).2 e2 hl2
   exact Xv ⟨Q,xs',r2,hQ.len,hQ.nor,hx⟩
end
end
section
section
variable {O:ZX} {bf:Nat->Bool} {fm f w:Nat} {cs cs2 cs3 ys:List AVal} {x:AVal} {σ:Za}
theorem ZnU (h0:σ[0]?=some (.var cs)) (h1:σ[1]?=some (.var [.ref 0 0])) (h2:σ[2]?=some (.var [.ref 0 0])) (hc:Zw cs=[]):Zt σ 1000 [0,2,1] []=[0,2,1]:=by
 have d0:σ.getD 0 .free=.var cs:=by simp [Xh,h0]
 have d1:σ.getD 1 .free=.var [.ref 0 0]:=by simp [Xh,h1]
 have d2:σ.getD 2 .free=.var [.ref 0 0]:=by simp [Xh,h2]
 rw [show (1000:Nat)=994+1+1+1+1+1+1 from rfl]
 simp only [Zt,d0,d1,d2,ZC,Zw,Z9,hc,Xak,WY,Xm,Xw,XU,XaN,Xi,if_false]
 simp
theorem ZoX (h0:σ[0]?=some (.var cs)) (hc:Zw cs=[]):Zt σ 1000 [0,0] []=[0]:=by
 have d0:σ.getD 0 .free=.var cs:=by simp [Xh,h0]
 rw [show (1000:Nat)=996+1+1+1+1 from rfl]
 simp only [Zt,d0,ZC,hc,Xak,WY,Xm,Xw,XU,XaN,Xi,if_false]
 simp
def hB (cs:List AVal) (b:ZR):Za:=[.var cs,.var [.ref 0 0],.var [.ref 0 0],b]
theorem ZpB (hb:bf fm=false) (hc:Zd cs=true) (hrf:Zw cs2=[3]) (hren:∀ ρ:Rho,ρ 3 0=some (3,0)->Zg ρ cs2=cs2)
  (hO:O fm [.ref 0 0,.fn f [.ref 1 0,.ref 2 0]] [.var cs,.var [.ref 0 0],.var [.ref 0 0]]=some (.tup [],[.var cs2,.var [.ref 0 0],.var [.ref 0 0],.row 0 w ys])) :
  Zk O bf (hB cs .free) 3 fm 1 true [.ref 0 0,.fn f [.ref 2 0,.ref 1 0]]=some (.tup [],hB cs2 (.row 0 w ys),{ any:=true,upd:=[(0,cs2),(2,[.ref 0 0]),(1,[.ref 0 0])] }):=by
 have hv:Z2 true 3 (some (.tup [],[.var cs2,.var [.ref 0 0],.var [.ref 0 0],.row 0 w ys]))=some (.tup [],[.var cs2,.var [.ref 0 0],.var [.ref 0 0],.row 0 w ys]):=ZlR (r:=.tup []) rfl hrf hren []
 have ec:=fun ρ=>Za8 ρ cs hc
 unfold hB
 refine Zdn (ids:=[0,2,1]) (vs:=[.ref 0 0,.fn f [.ref 2 0,.ref 1 0]]) hb rfl (ZnU rfl rfl rfl (ec (fun _ _=>none)).2) rfl rfl rfl ?_ hO hv (by simp) (by simp) rfl rfl rfl ?_ rfl
 ·show [ZR.var (Zg _ cs),.var (Zg _ [.ref 0 0]),.var (Zg _ [.ref 0 0])]=_
  rw [(ec _).1];rfl
 ·have hb3:=hren (ZaC [.var cs,.var [.ref 0 0],.var [.ref 0 0],.free] [0,2,1] 3) rfl
  show [ZR.var (Zg _ cs2),.var (Zg _ [.ref 0 0]),.var (Zg _ [.ref 0 0]),.row 0 w ys]=_
  rw [hb3];rfl
theorem ZqV (hb:bf fm=false) (hc:Zd cs=true) (hc2:Zd cs2=true) (hx:ZI x=true)
  (hO:O fm [.ref 0 0,.fn f [.ref 1 0,.ref 2 0]] [.var cs,.var [.ref 0 0],.var [.ref 0 0]]=some (.pan x,[.var cs2,.var [.ref 0 0],.var [.ref 0 0]])) :
  Zk O bf (hB cs .free) 3 fm 1 true [.ref 0 0,.fn f [.ref 2 0,.ref 1 0]]=some (.pan x,hB cs2 .free,{ any:=true,upd:=[(0,cs2),(2,[.ref 0 0]),(1,[.ref 0 0])] }):=by
 have ec:=fun ρ=>Za8 ρ cs hc
 have hnp:ZI (.pan x)=true:=by simpa only [ZI] using hx
 unfold hB
 refine Zdn (ids:=[0,2,1]) (vs:=[.ref 0 0,.fn f [.ref 2 0,.ref 1 0]]) hb rfl (ZnU rfl rfl rfl (ec (fun _ _=>none)).2) rfl rfl rfl ?_ hO rfl (by simp) (by simp) rfl rfl (Z4 _ _ hnp).1 ?_ rfl
 ·show [ZR.var (Zg _ cs),.var (Zg _ [.ref 0 0]),.var (Zg _ [.ref 0 0])]=_
  rw [(ec _).1];rfl
 ·show [ZR.var (Zg _ cs2),.var (Zg _ [.ref 0 0]),.var (Zg _ [.ref 0 0]),.free]=_
  rw [(Za8 _ cs2 hc2).1];rfl
theorem Zpq (hb:bf fm=false) (hc:Zd cs=true) (hren:∀ ρ:Rho,ρ 3 0=some (3,0)->Zg ρ cs2=cs2) (hx:ZI x=true)
  (hO:O fm [.ref 0 0,.fn f [.ref 1 0,.ref 2 0]] [.var cs,.var [.ref 0 0],.var [.ref 0 0]]=some (.pan x,[.var cs2,.var [.ref 0 0],.var [.ref 0 0],.row 0 w ys])) :
  Zk O bf (hB cs .free) 3 fm 1 true [.ref 0 0,.fn f [.ref 2 0,.ref 1 0]]=some (.pan x,hB cs2 (.row 0 w ys),{ any:=true,upd:=[(0,cs2),(2,[.ref 0 0]),(1,[.ref 0 0])] }):=by
 have ec:=fun ρ=>Za8 ρ cs hc
 have hnp:ZI (.pan x)=true:=by simpa only [ZI] using hx
 unfold hB
 refine Zdn (ids:=[0,2,1]) (vs:=[.ref 0 0,.fn f [.ref 2 0,.ref 1 0]]) hb rfl (ZnU rfl rfl rfl (ec (fun _ _=>none)).2) rfl rfl rfl ?_ hO rfl (by simp) (by simp) rfl rfl (Z4 _ _ hnp).1 ?_ rfl
 ·show [ZR.var (Zg _ cs),.var (Zg _ [.ref 0 0]),.var (Zg _ [.ref 0 0])]=_
  rw [(ec _).1];rfl
 ·have hb3:=hren (ZaC [.var cs,.var [.ref 0 0],.var [.ref 0 0],.free] [0,2,1] 3) rfl
  show [ZR.var (Zg _ cs2),.var (Zg _ [.ref 0 0]),.var (Zg _ [.ref 0 0]),.row 0 w ys]=_
  rw [hb3];rfl
theorem ZOz (hb:bf fm=false) (hc:Zd cs=true) (hrf:Zw cs2=[1]) (hren:∀ ρ:Rho,ρ 1 0=some (1,0)->Zg ρ cs2=cs2) (hback:∀ ρ:Rho,ρ 1 0=some (3,0)->Zg ρ cs2=cs3)
  (hO:O fm [.ref 0 0,.fn f [.ref 0 0]] [.var cs]=some (.tup [],[.var cs2,.row 0 w ys])) :
  Zk O bf (hB cs .free) 3 fm 1 true [.ref 0 0,.fn f [.ref 0 0]]=some (.tup [],hB cs3 (.row 0 w ys),{ any:=true,upd:=[(0,cs3)] }):=by
 have hv:Z2 true 1 (some (.tup [],[.var cs2,.row 0 w ys]))=some (.tup [],[.var cs2,.row 0 w ys]):=Zdk (j:=1) (σ:=[.var cs2,.row 0 w ys]) (r:=.tup []) rfl (by omega) rfl rfl hrf hren
 have ec:=fun ρ=>Za8 ρ cs hc
 unfold hB
 refine Zdn (ids:=[0]) (vs:=[.ref 0 0,.fn f [.ref 0 0]]) hb rfl (ZoX rfl (ec (fun _ _=>none)).2) rfl rfl rfl ?_ hO hv (by simp) (by simp) rfl rfl rfl ?_ rfl
 ·show [ZR.var (Zg _ cs)]=_
  rw [(ec _).1]
 ·have hb3:=hback (ZaC [.var cs,.var [.ref 0 0],.var [.ref 0 0],.free] [0] 3) rfl
  show [ZR.var (Zg _ cs2),.var [.ref 0 0],.var [.ref 0 0],.row 0 w ys]=_
  rw [hb3]
theorem Zx5 (hb:bf fm=false) (hc:Zd cs=true) (hc2:Zd cs2=true) (hx:ZI x=true)
  (hO:O fm [.ref 0 0,.fn f [.ref 0 0]] [.var cs]=some (.pan x,[.var cs2])) :
  Zk O bf (hB cs .free) 3 fm 1 true [.ref 0 0,.fn f [.ref 0 0]]=some (.pan x,hB cs2 .free,{ any:=true,upd:=[(0,cs2)] }):=by
 have ec:=fun ρ=>Za8 ρ cs hc
 have hnp:ZI (.pan x)=true:=by simpa only [ZI] using hx
 unfold hB
 refine Zdn (ids:=[0]) (vs:=[.ref 0 0,.fn f [.ref 0 0]]) hb rfl (ZoX rfl (ec (fun _ _=>none)).2) rfl rfl rfl ?_ hO rfl (by simp) (by simp) rfl rfl (Z4 _ _ hnp).1 ?_ rfl
 ·show [ZR.var (Zg _ cs)]=_
  rw [(ec _).1]
 ·show [ZR.var (Zg _ cs2),.var [.ref 0 0],.var [.ref 0 0],.free]=_
  rw [(Za8 _ cs2 hc2).1]
theorem ZzB (hb:bf fm=false) (hc:Zd cs=true) (hback:∀ ρ:Rho,ρ 1 0=some (3,0)->Zg ρ cs2=cs3) (hx:ZI x=true)
  (hO:O fm [.ref 0 0,.fn f [.ref 0 0]] [.var cs]=some (.pan x,[.var cs2,.row 0 w ys])) :
  Zk O bf (hB cs .free) 3 fm 1 true [.ref 0 0,.fn f [.ref 0 0]]=some (.pan x,hB cs3 (.row 0 w ys),{ any:=true,upd:=[(0,cs3)] }):=by
 have ec:=fun ρ=>Za8 ρ cs hc
 have hnp:ZI (.pan x)=true:=by simpa only [ZI] using hx
 unfold hB
 refine Zdn (ids:=[0]) (vs:=[.ref 0 0,.fn f [.ref 0 0]]) hb rfl (ZoX rfl (ec (fun _ _=>none)).2) rfl rfl rfl ?_ hO rfl (by simp) (by simp) rfl rfl (Z4 _ _ hnp).1 ?_ rfl
 ·show [ZR.var (Zg _ cs)]=_
  rw [(ec _).1]
 ·have hb3:=hback (ZaC [.var cs,.var [.ref 0 0],.var [.ref 0 0],.free] [0] 3) rfl
  show [ZR.var (Zg _ cs2),.var [.ref 0 0],.var [.ref 0 0],.row 0 w ys]=_
  rw [hb3]
end
def ZcB (Q:List AVal) (kk n:Nat) (l:Zc) (w:Nat) (ys:List AVal):Za:=[.var (Zo Q kk 1 0 n++[.lst false (l.map Zb)]),.row 0 w ys]
def ZjA (kk w:Nat) (l:Zc) (P:List AVal) (e:Int):Prop :=
 (∃ cs,Zd cs=true/\E 20 [.ref 0 0] (Zm P l)=some (.pan (ZG e),[.var cs])) \/
 (∃ (Q:List AVal) (n:Nat) (r:Zc) (ys:List AVal),Q.length=26/\Zd Q=true/\E 20 [.ref 0 0] (Zm P l)=some (.pan (ZG e),ZcB Q kk n r w ys))
theorem ZPH (xs:List Zc):kOk 1 (xs.map AVal.str)=true:=by cases xs <;> rfl
theorem ZAQ (xs:List Int):kOk 1 (xs.map (AVal.int .i64))=true:=by cases xs <;> rfl
theorem fT0 {k:Int} (Q:List AVal) (h:QOk k Q) (l s r:Zc) (hl:l.length<=1099511627776) (ho:Zaw l=.ok (s,r)):E 41 [.ref 0 0,.ref 2 0] [.var [.ref 1 0],.var (Q++[.lst false (l.map Zb)]),.var [.ref 1 0]]=some (.tup [],[.var [.ref 1 0],.var (Zo Q 11 3 0 1++[.lst false (r.map Zb)]),.var [.ref 1 0],.row 0 1 [AVal.str s]]) :=
 ZKJ Q h.len h.nor l (by omega) h.c11 ho
theorem fF0 {k:Int} (Q:List AVal) (h:QOk k Q) (l:Zc) (e:Int) (hl:l.length<=1099511627776) (ho:Zaw l=.error e):∃ r:Zc,E 41 [.ref 0 0,.ref 2 0] [.var [.ref 1 0],.var (Q++[.lst false (l.map Zb)]),.var [.ref 1 0]]=some (.pan (ZG e),[.var [.ref 1 0],.var (Q++[.lst false (r.map Zb)]),.var [.ref 1 0]]) :=
 ⟨l,ZPT Q h.len h.nor l (by omega) ho h.c11⟩
theorem fT1 {k:Int} (Q:List AVal) (h:QOk k Q) (xs:List Zc) (l s r:Zc) (hl:l.length<=1099511627776) (hx:xs.length<=1099511627776) (ho:Zaw l=.ok (s,r)):E 41 [.ref 0 0,.ref 3 0] [.var [.ref 1 0],.var (Zo Q 11 2 0 xs.length++[.lst false (l.map Zb)]),.row 0 1 (xs.map AVal.str),.var [.ref 1 0]]=some (.tup [],[.var [.ref 1 0],.var (Zo Q 11 2 1 (xs.length+1)++[.lst false (r.map Zb)]),.row 1 1 ((xs++[s]).map AVal.str),.var [.ref 1 0]]):=by
 have:=Zxw Q h.len h.nor l (by omega) (xs.map AVal.str) (by simp;omega) (ZPH xs) ho
 rw [XW] at this
 rw [X9]
 exact this
theorem fF1 {k:Int} (Q:List AVal) (h:QOk k Q) (xs:List Zc) (l:Zc) (e:Int) (hl:l.length<=1099511627776) (ho:Zaw l=.error e):∃ r:Zc,E 41 [.ref 0 0,.ref 3 0] [.var [.ref 1 0],.var (Zo Q 11 2 0 xs.length++[.lst false (l.map Zb)]),.row 0 1 (xs.map AVal.str),.var [.ref 1 0]]=some (.pan (ZG e),[.var [.ref 1 0],.var (Zo Q 11 2 0 xs.length++[.lst false (r.map Zb)]),.row 0 1 (xs.map AVal.str),.var [.ref 1 0]]):=by
 have:=ZCb Q h.len h.nor l (by omega) (xs.map AVal.str) ho
 rw [XW] at this
 exact ⟨l,this⟩
theorem cT0 {k:Int} (Q:List AVal) (h:QOk k Q) (l:Zc) (s:Int) (r:Zc) (hl:l.length<=1099511627776) (ho:ZaR k l=.ok (s,r)):E 43 [.ref 0 0,.ref 2 0] [.var [.ref 1 0],.var (Q++[.lst false (l.map Zb)]),.var [.ref 1 0]]=some (.tup [],[.var [.ref 1 0],.var (Zo Q 8 3 0 1++[.lst false (r.map Zb)]),.var [.ref 1 0],.row 0 1 [AVal.int .i64 s]]) :=
 ZJx Q h.len h.nor l (by omega) h.c8 k h.ty ho
theorem cF0 {k:Int} (Q:List AVal) (h:QOk k Q) (l:Zc) (e:Int) (hl:l.length<=1099511627776) (ho:ZaR k l=.error e):∃ r:Zc,E 43 [.ref 0 0,.ref 2 0] [.var [.ref 1 0],.var (Q++[.lst false (l.map Zb)]),.var [.ref 1 0]]=some (.pan (ZG e),[.var [.ref 1 0],.var (Q++[.lst false (r.map Zb)]),.var [.ref 1 0]]) :=
 ZKT Q h.len h.nor l (by omega) h.c8 k h.ty ho
theorem cT1 {k:Int} (Q:List AVal) (h:QOk k Q) (xs:List Int) (l:Zc) (s:Int) (r:Zc) (hl:l.length<=1099511627776) (hx:xs.length<=1099511627776) (ho:ZaR k l=.ok (s,r)):E 43 [.ref 0 0,.ref 3 0] [.var [.ref 1 0],.var (Zo Q 8 2 0 xs.length++[.lst false (l.map Zb)]),.row 0 1 (xs.map (AVal.int .i64)),.var [.ref 1 0]]=some (.tup [],[.var [.ref 1 0],.var (Zo Q 8 2 1 (xs.length+1)++[.lst false (r.map Zb)]),.row 1 1 ((xs++[s]).map (AVal.int .i64)),.var [.ref 1 0]]):=by
 have:=ZNO Q h.len h.nor l (by omega) (xs.map (AVal.int .i64)) (by simp;omega) (ZAQ xs) k h.ty ho
 rw [XW] at this
 rw [X9]
 exact this
theorem cF1 {k:Int} (Q:List AVal) (h:QOk k Q) (xs:List Int) (l:Zc) (e:Int) (hl:l.length<=1099511627776) (ho:ZaR k l=.error e):∃ r:Zc,E 43 [.ref 0 0,.ref 3 0] [.var [.ref 1 0],.var (Zo Q 8 2 0 xs.length++[.lst false (l.map Zb)]),.row 0 1 (xs.map (AVal.int .i64)),.var [.ref 1 0]]=some (.pan (ZG e),[.var [.ref 1 0],.var (Zo Q 8 2 0 xs.length++[.lst false (r.map Zb)]),.row 0 1 (xs.map (AVal.int .i64)),.var [.ref 1 0]]):=by
 have:=ZJD Q h.len h.nor l (by omega) (xs.map (AVal.int .i64)) k h.ty ho
 rw [XW] at this
 exact this
section
variable (P:List AVal) (l:Zc) (hl:l.length<=1099511627775)
include hl
theorem ZBT (hP:QOk 10 P) {n:Int} {ps:List ZB} {ts:List Zc} (h:ZbP Zaw 10 l=.ok (n,ps,ts)) :
  E 20 [.ref 0 0] (Zm P l)=some (.tup [],ZcB (Zcf P n ps) 11 ts.length [] 1 (ts.map AVal.str)):=by
 have hk:(11:Nat) < 26:=by omega
 have hE:=Zpk (g:=AVal.str) (kk:=11) (f:=41) (by omega) (by decide) (by kernel_rfl) ZoR fT0 fF0 fT1 fF1 hP hl h
 have hQ:=ZdM hP n ps
 obtain ⟨hL,hN,h0,-,-,-⟩:=hP
 unfold H3 at hE
 generalize Zcf P n ps=Q at *
 have hC:=ZpB (O:=E) (bf:=BY) (fm:=39) (by kernel_rfl) (ZE P hL hN false (l.map Zb)) (ZbG Q hQ.len hQ.nor hk 3 0 ts.length []) (fun ρ h=>ZaZ Q hQ.len hQ.nor hk 3 0 ts.length 3 0 [] ρ h) hE
 have a4:=fun L=>(Zaf P hL 0 (by omega) L).trans h0
 have hR:=Zcb Q hQ.len hQ.nor 11 hk ts.length 3 0
 have b2:=Zay _ hR
 have m1:=Zbm
 have z:=z0b
 have hO:=fun τ=>Zdk (j:=3) (w:=1) (xs:=ts.map AVal.str) (r:=.tup []) (σ:=.var (Zo Q 11 3 0 ts.length++[.lst false []])::.var [.ref 0 0]::.var [.ref 0 0]::.row 0 1 (ts.map AVal.str)::τ) rfl (by omega) rfl rfl (ZbG Q hQ.len hQ.nor hk 3 0 ts.length []) (fun ρ h=>ZaZ Q hQ.len hQ.nor hk 3 0 ts.length 1 0 [] ρ h)
 unfold hB at hC
 simp only [XA] at hC
 unfold Zm ZcB
 clear hE h
 generalize Zo Q 11 3 0 ts.length=R at *
 generalize Zo Q 11 1 0 ts.length=R1 at *
 generalize ts.map AVal.str=ys at *
 rw [Zj (by rfl) Zbs]
 simp -implicitDefEqProofs only [EQA,ZH,Zx,Xe,Xc,Xf,Xa,Xg,↓reduceIte,Zd,Zbq,Zbh,ZeN,a4,b2,hC,m1,Xq,z]
 exact hO _
theorem ZI3 (hP:QOk 10 P) {e:Int} (h:ZbP Zaw 10 l=.error e):ZjA 11 1 l P e:=by
 have hk:(11:Nat) < 26:=by omega
 have hF:=Zp0 (g:=AVal.str) (kk:=11) (f:=41) (by omega) (by decide) (by kernel_rfl) ZoR fT0 fF0 fT1 fF1 hP hl h
 obtain ⟨hL,hN,h0,-,-,-⟩:=hP
 have a4:=fun L=>(Zaf P hL 0 (by omega) L).trans h0
 rcases hF with ⟨cs,hc,hE⟩ | ⟨Q,xs,r,hQ,hQN,hE⟩
 ·have hC:=ZqV (O:=E) (bf:=BY) (fm:=39) (by kernel_rfl) (ZE P hL hN false (l.map Zb)) hc rfl hE
  refine Xr ⟨cs,hc,?_⟩
  unfold hB at hC
  unfold Zm
  clear hE h
  rw [Zj (by rfl) Zbs]
  simp -implicitDefEqProofs only [EQA,ZH,Xe,Xc,Xf,Xa,Xg,↓reduceIte,Zbq,Zbh,a4,hC,Xq]
  exact Z8 rfl hc
 ·unfold H3 at hE
  have hC:=Zpq (O:=E) (bf:=BY) (fm:=39) (by kernel_rfl) (ZE P hL hN false (l.map Zb)) (fun ρ h=>ZaZ Q hQ hQN hk 3 0 xs.length 3 0 r ρ h) rfl hE
  have hO:=fun τ=>Zdk (j:=3) (w:=1) (xs:=xs.map AVal.str) (r:=.pan (ZG e)) (σ:=.var (Zo Q 11 3 0 xs.length++[.lst false (r.map Zb)])::.var [.ref 0 0]::.var [.ref 0 0]::.row 0 1 (xs.map AVal.str)::τ) rfl (by omega) rfl rfl (ZbG Q hQ hQN hk 3 0 xs.length r) (fun ρ h=>ZaZ Q hQ hQN hk 3 0 xs.length 1 0 r ρ h)
  refine Xv ⟨Q,xs.length,r,xs.map AVal.str,hQ,hQN,?_⟩
  unfold hB at hC
  unfold Zm ZcB
  clear hE h
  generalize Zo Q 11 3 0 xs.length=R at *
  generalize Zo Q 11 1 0 xs.length=R1 at *
  generalize xs.map AVal.str=ys at *
  generalize ZG e=ce at *
  rw [Zj (by rfl) Zbs]
  simp -implicitDefEqProofs only [EQA,ZH,Xe,Xc,Xf,Xa,Xg,↓reduceIte,Zbq,Zbh,a4,hC,Xq]
  exact hO _
theorem ZNA (hP:QOk 9 P) {n:Int} {ps:List ZB} {ts:List Int} (h:ZbP (ZaR 9) 9 l=.ok (n,ps,ts)) :
  E 20 [.ref 0 0] (Zm P l)=some (.tup [],ZcB (Zcf P n ps) 8 ts.length [] 1 (ts.map (AVal.int .i64))):=by
 have hk:(8:Nat) < 26:=by omega
 have hE:=Zpk (g:=(AVal.int .i64)) (kk:=8) (f:=43) (by omega) (by decide) (by kernel_rfl) ZlB cT0 cF0 cT1 cF1 hP hl h
 have hQ:=ZdM hP n ps
 obtain ⟨hL,hN,h0,-,-,-⟩:=hP
 unfold H3 at hE
 generalize Zcf P n ps=Q at *
 have hC:=ZpB (O:=E) (bf:=BY) (fm:=39) (by kernel_rfl) (ZE P hL hN false (l.map Zb)) (ZbG Q hQ.len hQ.nor hk 3 0 ts.length []) (fun ρ h=>ZaZ Q hQ.len hQ.nor hk 3 0 ts.length 3 0 [] ρ h) hE
 have a4:=fun L=>(Zaf P hL 0 (by omega) L).trans h0
 have hR:=Zcb Q hQ.len hQ.nor 8 hk ts.length 3 0
 have b2:=Zay _ hR
 have m1:=Zbm
 have z:=z0b
 have hO:=fun τ=>Zdk (j:=3) (w:=1) (xs:=ts.map (AVal.int .i64)) (r:=.tup []) (σ:=.var (Zo Q 8 3 0 ts.length++[.lst false []])::.var [.ref 0 0]::.var [.ref 0 0]::.row 0 1 (ts.map (AVal.int .i64))::τ) rfl (by omega) rfl rfl (ZbG Q hQ.len hQ.nor hk 3 0 ts.length []) (fun ρ h=>ZaZ Q hQ.len hQ.nor hk 3 0 ts.length 1 0 [] ρ h)
 unfold hB at hC
 simp only [XA] at hC
 unfold Zm ZcB
 clear hE h
 generalize Zo Q 8 3 0 ts.length=R at *
 generalize Zo Q 8 1 0 ts.length=R1 at *
 generalize ts.map (AVal.int .i64)=ys at *
 rw [Zj (by rfl) Zbs]
 simp -implicitDefEqProofs only [EQA,ZH,Zx,Xe,Xc,Xf,Xa,Xg,↓reduceIte,Zd,Zbq,Zbh,ZeN,a4,b2,hC,m1,Xq,z]
 exact hO _
theorem ZHj (hP:QOk 9 P) {e:Int} (h:ZbP (ZaR 9) 9 l=.error e):ZjA 8 1 l P e:=by
 have hk:(8:Nat) < 26:=by omega
 have hF:=Zp0 (g:=(AVal.int .i64)) (kk:=8) (f:=43) (by omega) (by decide) (by kernel_rfl) ZlB cT0 cF0 cT1 cF1 hP hl h
 obtain ⟨hL,hN,h0,-,-,-⟩:=hP
 have a4:=fun L=>(Zaf P hL 0 (by omega) L).trans h0
 rcases hF with ⟨cs,hc,hE⟩ | ⟨Q,xs,r,hQ,hQN,hE⟩
 ·have hC:=ZqV (O:=E) (bf:=BY) (fm:=39) (by kernel_rfl) (ZE P hL hN false (l.map Zb)) hc rfl hE
  refine Xr ⟨cs,hc,?_⟩
  unfold hB at hC
  unfold Zm
  clear hE h
  rw [Zj (by rfl) Zbs]
  simp -implicitDefEqProofs only [EQA,ZH,Xe,Xc,Xf,Xa,Xg,↓reduceIte,Zbq,Zbh,a4,hC,Xq]
  exact Z8 rfl hc
 ·unfold H3 at hE
  have hC:=Zpq (O:=E) (bf:=BY) (fm:=39) (by kernel_rfl) (ZE P hL hN false (l.map Zb)) (fun ρ h=>ZaZ Q hQ hQN hk 3 0 xs.length 3 0 r ρ h) rfl hE
  have hO:=fun τ=>Zdk (j:=3) (w:=1) (xs:=xs.map (AVal.int .i64)) (r:=.pan (ZG e)) (σ:=.var (Zo Q 8 3 0 xs.length++[.lst false (r.map Zb)])::.var [.ref 0 0]::.var [.ref 0 0]::.row 0 1 (xs.map (AVal.int .i64))::τ) rfl (by omega) rfl rfl (ZbG Q hQ hQN hk 3 0 xs.length r) (fun ρ h=>ZaZ Q hQ hQN hk 3 0 xs.length 1 0 r ρ h)
  refine Xv ⟨Q,xs.length,r,xs.map (AVal.int .i64),hQ,hQN,?_⟩
  unfold hB at hC
  unfold Zm ZcB
  clear hE h
  generalize Zo Q 8 3 0 xs.length=R at *
  generalize Zo Q 8 1 0 xs.length=R1 at *
  generalize xs.map (AVal.int .i64)=ys at *
  generalize ZG e=ce at *
  rw [Zj (by rfl) Zbs]
  simp -implicitDefEqProofs only [EQA,ZH,Xe,Xc,Xf,Xa,Xg,↓reduceIte,Zbq,Zbh,a4,hC,Xq]
  exact hO _
theorem ZMw (hP:QOk 11 P) {n:Int} {ps:List ZB} {ts:List Int} (h:ZbP (ZaR 11) 11 l=.ok (n,ps,ts)) :
  E 20 [.ref 0 0] (Zm P l)=some (.tup [],ZcB (Zcf P n ps) 8 ts.length [] 1 (ts.map (AVal.int .i64))):=by
 have hk:(8:Nat) < 26:=by omega
 have hE:=Zpk (g:=(AVal.int .i64)) (kk:=8) (f:=43) (by omega) (by decide) (by kernel_rfl) ZlB cT0 cF0 cT1 cF1 hP hl h
 have hQ:=ZdM hP n ps
 obtain ⟨hL,hN,h0,-,-,-⟩:=hP
 unfold H3 at hE
 generalize Zcf P n ps=Q at *
 have hC:=ZpB (O:=E) (bf:=BY) (fm:=39) (by kernel_rfl) (ZE P hL hN false (l.map Zb)) (ZbG Q hQ.len hQ.nor hk 3 0 ts.length []) (fun ρ h=>ZaZ Q hQ.len hQ.nor hk 3 0 ts.length 3 0 [] ρ h) hE
 have a4:=fun L=>(Zaf P hL 0 (by omega) L).trans h0
 have hR:=Zcb Q hQ.len hQ.nor 8 hk ts.length 3 0
 have b2:=Zay _ hR
 have m1:=Zbm
 have z:=z0b
 have hO:=fun τ=>Zdk (j:=3) (w:=1) (xs:=ts.map (AVal.int .i64)) (r:=.tup []) (σ:=.var (Zo Q 8 3 0 ts.length++[.lst false []])::.var [.ref 0 0]::.var [.ref 0 0]::.row 0 1 (ts.map (AVal.int .i64))::τ) rfl (by omega) rfl rfl (ZbG Q hQ.len hQ.nor hk 3 0 ts.length []) (fun ρ h=>ZaZ Q hQ.len hQ.nor hk 3 0 ts.length 1 0 [] ρ h)
 unfold hB at hC
 simp only [XA] at hC
 unfold Zm ZcB
 clear hE h
 generalize Zo Q 8 3 0 ts.length=R at *
 generalize Zo Q 8 1 0 ts.length=R1 at *
 generalize ts.map (AVal.int .i64)=ys at *
 rw [Zj (by rfl) Zbs]
 simp -implicitDefEqProofs only [EQA,ZH,Zx,Xe,Xc,Xf,Xa,Xg,↓reduceIte,Zd,Zbq,Zbh,ZeN,a4,b2,hC,m1,Xq,z]
 exact hO _
theorem ZCr (hP:QOk 11 P) {e:Int} (h:ZbP (ZaR 11) 11 l=.error e):ZjA 8 1 l P e:=by
 have hk:(8:Nat) < 26:=by omega
 have hF:=Zp0 (g:=(AVal.int .i64)) (kk:=8) (f:=43) (by omega) (by decide) (by kernel_rfl) ZlB cT0 cF0 cT1 cF1 hP hl h
 obtain ⟨hL,hN,h0,-,-,-⟩:=hP
 have a4:=fun L=>(Zaf P hL 0 (by omega) L).trans h0
 rcases hF with ⟨cs,hc,hE⟩ | ⟨Q,xs,r,hQ,hQN,hE⟩
 ·have hC:=ZqV (O:=E) (bf:=BY) (fm:=39) (by kernel_rfl) (ZE P hL hN false (l.map Zb)) hc rfl hE
  refine Xr ⟨cs,hc,?_⟩
  unfold hB at hC
  unfold Zm
  clear hE h
  rw [Zj (by rfl) Zbs]
  simp -implicitDefEqProofs only [EQA,ZH,Xe,Xc,Xf,Xa,Xg,↓reduceIte,Zbq,Zbh,a4,hC,Xq]
  exact Z8 rfl hc
 ·unfold H3 at hE
  have hC:=Zpq (O:=E) (bf:=BY) (fm:=39) (by kernel_rfl) (ZE P hL hN false (l.map Zb)) (fun ρ h=>ZaZ Q hQ hQN hk 3 0 xs.length 3 0 r ρ h) rfl hE
  have hO:=fun τ=>Zdk (j:=3) (w:=1) (xs:=xs.map (AVal.int .i64)) (r:=.pan (ZG e)) (σ:=.var (Zo Q 8 3 0 xs.length++[.lst false (r.map Zb)])::.var [.ref 0 0]::.var [.ref 0 0]::.row 0 1 (xs.map (AVal.int .i64))::τ) rfl (by omega) rfl rfl (ZbG Q hQ hQN hk 3 0 xs.length r) (fun ρ h=>ZaZ Q hQ hQN hk 3 0 xs.length 1 0 r ρ h)
  refine Xv ⟨Q,xs.length,r,xs.map (AVal.int .i64),hQ,hQN,?_⟩
  unfold hB at hC
  unfold Zm ZcB
  clear hE h
  generalize Zo Q 8 3 0 xs.length=R at *
  generalize Zo Q 8 1 0 xs.length=R1 at *
  generalize xs.map (AVal.int .i64)=ys at *
  generalize ZG e=ce at *
  rw [Zj (by rfl) Zbs]
  simp -implicitDefEqProofs only [EQA,ZH,Xe,Xc,Xf,Xa,Xg,↓reduceIte,Zbq,Zbh,a4,hC,Xq]
  exact hO _
theorem ZxG (hP:QOk 8 P) {n:Int} {ps:List ZB} {ts:List ZbC} (h:ZbP ZbH 8 l=.ok (n,ps,ts)) :
  E 20 [.ref 0 0] (Zm P l)=some (.tup [],ZcB (Zcf P n ps) 10 ts.length [] 6 (ts.map Z6)):=by
 have hk:(10:Nat) < 26:=by omega
 have hE:=ZA5 hP hl h
 have hQ:=ZdM hP n ps
 obtain ⟨hL,hN,h0,-,-,-⟩:=hP
 unfold H1 at hE
 generalize Zcf P n ps=Q at *
 have hC:=ZOz (O:=E) (bf:=BY) (fm:=39) (by kernel_rfl) (ZE P hL hN false (l.map Zb)) (ZbG Q hQ.len hQ.nor hk 1 0 ts.length []) (fun ρ h=>ZaZ Q hQ.len hQ.nor hk 1 0 ts.length 1 0 [] ρ h) (fun ρ h=>ZaZ Q hQ.len hQ.nor hk 1 0 ts.length 3 0 [] ρ h) hE
 have a4:=fun L=>(Zaf P hL 0 (by omega) L).trans h0
 have hR:=Zcb Q hQ.len hQ.nor 10 hk ts.length 3 0
 have b2:=Zay _ hR
 have m1:=Zbm
 have z:=z0b
 have hO:=fun τ=>Zdk (j:=3) (w:=6) (xs:=ts.map Z6) (r:=.tup []) (σ:=.var (Zo Q 10 3 0 ts.length++[.lst false []])::.var [.ref 0 0]::.var [.ref 0 0]::.row 0 6 (ts.map Z6)::τ) rfl (by omega) rfl rfl (ZbG Q hQ.len hQ.nor hk 3 0 ts.length []) (fun ρ h=>ZaZ Q hQ.len hQ.nor hk 3 0 ts.length 1 0 [] ρ h)
 unfold hB at hC
 simp only [XA] at hC
 unfold Zm ZcB
 clear hE h
 generalize Zo Q 10 3 0 ts.length=R at *
 generalize Zo Q 10 1 0 ts.length=R1 at *
 generalize ts.map Z6=ys at *
 rw [Zj (by rfl) Zbs]
 simp -implicitDefEqProofs only [EQA,ZH,Zx,Xe,Xc,Xf,Xa,Xg,↓reduceIte,Zd,Zbq,Zbh,ZeN,a4,b2,hC,m1,Xq,z]
 exact hO _
theorem ZPP (hP:QOk 8 P) {e:Int} (h:ZbP ZbH 8 l=.error e):ZjA 10 6 l P e:=by
 have hk:(10:Nat) < 26:=by omega
 have hF:=ZAz hP hl h
 obtain ⟨hL,hN,h0,-,-,-⟩:=hP
 have a4:=fun L=>(Zaf P hL 0 (by omega) L).trans h0
 rcases hF with ⟨cs,hc,hE⟩ | ⟨Q,xs,r,hQ,hQN,hE⟩
 ·have hC:=Zx5 (O:=E) (bf:=BY) (fm:=39) (by kernel_rfl) (ZE P hL hN false (l.map Zb)) hc rfl hE
  refine Xr ⟨cs,hc,?_⟩
  unfold hB at hC
  unfold Zm
  clear hE h
  rw [Zj (by rfl) Zbs]
  simp -implicitDefEqProofs only [EQA,ZH,Xe,Xc,Xf,Xa,Xg,↓reduceIte,Zbq,Zbh,a4,hC,Xq]
  exact Z8 rfl hc
 ·unfold H1 at hE
  have hC:=ZzB (O:=E) (bf:=BY) (fm:=39) (by kernel_rfl) (ZE P hL hN false (l.map Zb)) (fun ρ h=>ZaZ Q hQ hQN hk 1 0 xs.length 3 0 r ρ h) rfl hE
  have hO:=fun τ=>Zdk (j:=3) (w:=6) (xs:=xs.map Z6) (r:=.pan (ZG e)) (σ:=.var (Zo Q 10 3 0 xs.length++[.lst false (r.map Zb)])::.var [.ref 0 0]::.var [.ref 0 0]::.row 0 6 (xs.map Z6)::τ) rfl (by omega) rfl rfl (ZbG Q hQ hQN hk 3 0 xs.length r) (fun ρ h=>ZaZ Q hQ hQN hk 3 0 xs.length 1 0 r ρ h)
  refine Xv ⟨Q,xs.length,r,xs.map Z6,hQ,hQN,?_⟩
  unfold hB at hC
  unfold Zm ZcB
  clear hE h
  generalize Zo Q 10 3 0 xs.length=R at *
  generalize Zo Q 10 1 0 xs.length=R1 at *
  generalize xs.map Z6=ys at *
  generalize ZG e=ce at *
  rw [Zj (by rfl) Zbs]
  simp -implicitDefEqProofs only [EQA,ZH,Xe,Xc,Xf,Xa,Xg,↓reduceIte,Zbq,Zbh,a4,hC,Xq]
  exact hO _
end
end
section
section
variable {O:ZX} {bf:Nat->Bool} {σ:Za} {t f sq w:Nat} {rest:List AVal} {cs cs2 cs3 ys:List AVal}
theorem ZMY (hb:bf f=false) (hp:rest.all Z5=true) (hc:Zd cs=true) (hrf:Zw cs2=[1]) (hren:∀ ρ:Rho,ρ 1 0=some (1,0)->Zg ρ cs2=cs2) (hback:∀ ρ:Rho,ρ 1 0=some (sq,0)->Zg ρ cs2=cs3)
  (h:O f (.ref 0 0::rest.map ZK) [.var cs]=some (.tup [],[.var cs2,.row 0 w ys])) (hs:σ[t]?=some (.var cs)) (hff:Zba σ sq 1=true):Zk O bf σ sq f 1 true (.ref t 0::rest)=some (.tup [],(σ.set t (.var cs3)).set sq (.row 0 w ys),{ any:=true,upd:=[(t,cs3)] }):=by
 have hfs:σ[sq]?=some .free:=Zhw (i:=0) hff (by omega)
 have hts:t≠sq:=by rintro rfl;rw [hs] at hfs;cases hfs
 have htl:t < σ.length:=(Xj.1 hs).1
 have hd:σ.getD t .free=.var cs:=by simp [Xh,hs]
 have hsh:showAs σ (.ref t 0::rest)=some (.ref t 0::rest.map ZK,[]):=by
  rw [showAs,show showA σ (.ref t 0)=some (.ref t 0,[]) from rfl,Zef hp]
  rfl
 have href:Zw (.ref t 0::rest.map ZK)=[t]:=by
  rw [Zw,Zdz hp];rfl
 have hρ:Zi σ 0 [t] t 0=some (0,0):=by simp [Zi,ZO,hs,Zl,ZF]
 have hask:Z2 true [t].length (some (.tup [],[.var cs2,.row 0 w ys]))=some (.tup [],[.var cs2,.row 0 w ys]):=Zdk (j:=1) (σ:=[.var cs2,.row 0 w ys]) (r:=.tup []) rfl (by omega) rfl rfl hrf hren
 refine Zdn (ids:=[t]) hb hsh (by rw [href];exact Zfe hs hc) rfl (by simp [hs,okB]) ?_ ?_ h hask (by simp) (by simp) ?_ hff rfl ?_ ?_
 ·rw [Zg,ZdD hp]
  simp only [Zr,hρ]
 ·simp only [Zq,hd,Zz,(Za8 _ cs hc).1]
 ·simp [ZaY,okB,hs,Zb7,Zl]
 ·have hb3:Zg (ZaC σ [t] sq) cs2=cs3:=hback _ (by simp [ZaC])
  simp only [Za9,ZaO,Xu,Zca,Zl,Zz,hb3]
  simp []
 ·have e1:((σ.set t (.var cs3)).set sq (.row 0 w ys))[t]?=some (.var cs3):=by
   rw [Xn (fun e=>hts e.symm),X2 htl]
  simp only [Zbd,e1]
theorem ZGo {x:AVal} {view:Bool} (hb:bf f=false) (hp:rest.all Z5=true) (hc:Zd cs=true) (hback:∀ ρ:Rho,ρ 1 0=some (sq,0)->Zg ρ cs2=cs3) (hx:ZI x=true)
  (h:O f (.ref 0 0::rest.map ZK) [.var cs]=some (.pan x,[.var cs2,.row 0 w ys])) (hs:σ[t]?=some (.var cs)) (hff:Zba σ sq 1=true):Zk O bf σ sq f 1 view (.ref t 0::rest)=some (.pan x,(σ.set t (.var cs3)).set sq (.row 0 w ys),{ any:=true,upd:=[(t,cs3)] }):=by
 have hfs:σ[sq]?=some .free:=Zhw (i:=0) hff (by omega)
 have hts:t≠sq:=by rintro rfl;rw [hs] at hfs;cases hfs
 have htl:t < σ.length:=(Xj.1 hs).1
 have hd:σ.getD t .free=.var cs:=by simp [Xh,hs]
 have hnp:ZI (.pan x)=true:=by simpa only [ZI] using hx
 have hsh:showAs σ (.ref t 0::rest)=some (.ref t 0::rest.map ZK,[]):=by
  rw [showAs,show showA σ (.ref t 0)=some (.ref t 0,[]) from rfl,Zef hp]
  rfl
 have href:Zw (.ref t 0::rest.map ZK)=[t]:=by
  rw [Zw,Zdz hp];rfl
 have hρ:Zi σ 0 [t] t 0=some (0,0):=by simp [Zi,ZO,hs,Zl,ZF]
 have hask:Z2 view [t].length (some (.pan x,[.var cs2,.row 0 w ys]))=some (.pan x,[.var cs2,.row 0 w ys]):=by
  unfold Z2
  split <;> rfl
 refine Zdn (ids:=[t]) hb hsh (by rw [href];exact Zfe hs hc) rfl (by simp [hs,okB]) ?_ ?_ h hask (by simp) (by simp) ?_ hff (Z4 _ _ hnp).1 ?_ ?_
 ·rw [Zg,ZdD hp]
  simp only [Zr,hρ]
 ·simp only [Zq,hd,Zz,(Za8 _ cs hc).1]
 ·simp [ZaY,okB,hs,Zb7,Zl]
 ·have hb3:Zg (ZaC σ [t] sq) cs2=cs3:=hback _ (by simp [ZaC])
  simp only [Za9,ZaO,Xu,Zca,Zl,Zz,hb3]
  simp []
 ·have e1:((σ.set t (.var cs3)).set sq (.row 0 w ys))[t]?=some (.var cs3):=by
   rw [Xn (fun e=>hts e.symm),X2 htl]
  simp only [Zbd,e1]
end
section
variable (b:Int) (l:Zc) {P1 Q:List AVal} {kk n w:Nat} {ys:List AVal} (h1:P1.length=26) (n1:Zd P1=true) (hQ:Q.length=26) (nQ:Zd Q=true) (hk:kk < 26)
include h1 n1 hQ nQ hk
theorem ZKu (oQ:∀ r g m,(Zo Q kk r g m).all ZS=true)
  (hf:E 19 [.ref 0 0,.int .u8 b] (Zm P0 l)=some (.tup [],Zm P1 l)) (hb:E 20 [.ref 0 0] (Zm P1 l)=some (.tup [],ZcB Q kk n [] w ys)) :
  evC FC PR BY 3 c2R (tput tmR (some 5) .top) (σR b l)=some (.ret,[(3,.ref 2 0),(2,.ref 1 0)],[.var [.int .u8 b,.lst false (l.map Zb)],.var (Zo Q kk 4 0 n),.var [.int .i64 0],.var (Zo Q kk 4 0 n++[.lst false []]),.row 0 w ys]):=by
 have hF:=fun (σ:Za) sq (hs:σ[3]?=some (.var (P0++[.lst false (l.map Zb)])))=>Zde (O:=E) (bf:=BY) (f:=19) (rest:=[.int .u8 b]) (by kernel_rfl) rfl (by rfl) (ZaM n1 (by rfl)) rfl rfl hf hs sq
 have hB:=fun (σ:Za) (hs:σ[3]?=some (.var (P1++[.lst false (l.map Zb)]))) (hfr:σ[4]?=some .free)=>ZMY (O:=E) (bf:=BY) (f:=20) (sq:=4) (rest:=[]) (by kernel_rfl) rfl (ZaM n1 (by rfl)) (ZbG Q hQ nQ hk 1 0 n []) (fun ρ h=>ZaZ Q hQ nQ hk 1 0 n 1 0 [] ρ h) (fun ρ h=>ZaZ Q hQ nQ hk 1 0 n 4 0 [] ρ h) hb hs (by simp [Zba,freeAt,hfr])
 have hR:=Zcb Q hQ nQ kk hk n 4 0
 have b1:=Zac _ hR
 have b2:=Ze4 _ hR
 have o2:=oQ 4 0 n
 simp only [XA] at hB
 unfold P0 at hF
 simp only [XU,Xw] at hF
 unfold tmR σR P0
 clear hf hb
 generalize Zo Q kk 4 0 n=R at *
 simp -implicitDefEqProofs only [EQA,Zbl,Xe,Xc,Xf,Xa,Xg,↓reduceIte,c2R,AVal.cells,Zau,hF,hB,b1,b2,hR,o2]
theorem ZAM {c:Int} (hf:E 19 [.ref 0 0,.int .u8 b] (Zm P0 l)=some (.tup [],Zm P1 l)) {r:Zc} (hb:E 20 [.ref 0 0] (Zm P1 l)=some (.pan (ZG c),ZcB Q kk n r w ys)) :
  evC FC PR BY 3 c2R (tput tmR (some 5) .top) (σR b l)=some (.panic (ZG c),[],[.var [.int .u8 b,.lst false (l.map Zb)],.var P0,.var [.int .i64 0],.var (Zo Q kk 4 0 n++[.lst false (r.map Zb)]),.row 0 w ys]):=by
 have hF:=fun (σ:Za) sq (hs:σ[3]?=some (.var (P0++[.lst false (l.map Zb)])))=>Zde (O:=E) (bf:=BY) (f:=19) (rest:=[.int .u8 b]) (by kernel_rfl) rfl (by rfl) (ZaM n1 (by rfl)) rfl rfl hf hs sq
 have hB:=fun (σ:Za) (hs:σ[3]?=some (.var (P1++[.lst false (l.map Zb)]))) (hff:Zba σ 4 1=true)=>ZGo (O:=E) (bf:=BY) (f:=20) (view:=true) (sq:=4) (rest:=[]) (by kernel_rfl) rfl (ZaM n1 (by rfl)) (fun ρ h=>ZaZ Q hQ nQ hk 1 0 n 4 0 r ρ h) rfl hb hs hff
 unfold P0 at hF
 simp only [XU,Xw] at hF
 unfold tmR σR P0
 clear hf hb
 generalize Zo Q kk 4 0 n=R at *
 simp -implicitDefEqProofs only [EQA,Zbl,Xe,Xc,Xf,Xa,Xg,↓reduceIte,c2R,AVal.cells,Zau,hF,hB,Zba]
omit h1 n1
theorem ZGk (c:Int):Zff 0 1 2 rsR (.var [.int .u8 b,.lst false (l.map Zb)]::.var (Zo Q kk 4 0 n)::.var [.int .i64 c]::.var (Zo Q kk 4 0 n++[.lst false []])::.row 0 w ys::[])=some (.tup [.agg (Zo Q kk 0 0 n),.int .i64 c],[.row 0 w ys]):=by
 have hR:=Zcb Q hQ nQ kk hk n 4 0
 have hRf:=Zcz Q hQ nQ kk hk n 4 0
 have hre:=fun ρ h=>ZbV Q hQ nQ kk hk n (r:=4) (g:=0) (r':=0) (g':=0) ρ h
 generalize Zo Q kk 4 0 n=R at *
 have h1:resA [(3,.ref 2 0),(2,.ref 1 0)] (.var [.int .u8 b,.lst false (l.map Zb)]::.var R::.var [.int .i64 c]::.var (R++[.lst false []])::.row 0 w ys::[]) rsR=some (.tup [.agg R,.int .i64 c]):=by
  have h2:R.take 26=R:=XK (by omega)
  simp [resA,resAll,resOne,rsR,tget,ldA,partA,hR,h2]
 unfold Zff
 rw [h1]
 have hr:Zw [AVal.tup [.agg R,.int .i64 c]]=[4]:=by simp [Zw,Z9,hRf]
 have hi:Zy 0 [AVal.tup [.agg R,.int .i64 c]] (.var [.int .u8 b,.lst false (l.map Zb)]::.var R::.var [.int .i64 c]::.var (R++[.lst false []])::.row 0 w ys::[])=[4]:=by
  simp only [Zy,hr,XaE,XX,Xm]
  rfl
 have hρ:Zi (.var [.int .u8 b,.lst false (l.map Zb)]::.var R::.var [.int .i64 c]::.var (R++[.lst false []])::.row 0 w ys::[]) 0 [4] 4 0=some (0,0):=rfl
 simp only [Zak,gcA,hi,Zg,Zr,hre _ hρ,Zq,Xu,XN,ZF,Zl,Zz]
 simp
end
theorem ZGI (b:Int) (l:Zc) {P1 Q:List AVal} {kk n w:Nat} {ys:List AVal} (h1:P1.length=26) (n1:Zd P1=true) (hQ:Q.length=26) (nQ:Zd Q=true) (hk:kk < 26) (oQ:∀ r g m,(Zo Q kk r g m).all ZS=true)
  (hf:E 19 [.ref 0 0,.int .u8 b] (Zm P0 l)=some (.tup [],Zm P1 l)) (hb:E 20 [.ref 0 0] (Zm P1 l)=some (.tup [],ZcB Q kk n [] w ys)) :
  Ze3 [.agg [.int .u8 b,.lst false (l.map Zb)]] []=some (.tup [.agg (Zo Q kk 0 0 n),.int .i64 0],[.row 0 w ys]):=by
 unfold Ze3 Ziq
 show (match evC FC PR BY 0 c1R (enterA 0 [.agg [.int .u8 b,.lst false (l.map Zb)]] []) [] with | some (.normal,tm1,σ1)=>_ | _=>none)=_
 rw [Zri]
 show (if (0:Nat)<=(σR b l).length/\1 < (σR b l).length/\2 < (σR b l).length then ZgF FC PR BY 25 c2R c3R rsR 0 (tput tmR (some 5) .top) (σR b l) 1 2 else none)=_
 rw [if_pos (by simp [σR])]
 unfold ZgF
 rw [show (σR b l).length=3 from rfl,ZKu b l h1 n1 hQ nQ hk oQ hf hb]
 exact ZGk b l hQ nQ hk 0
theorem ZHr {b c:Int} {l:Zc} {Q:List AVal} {q:Zn} {w:Nat} {ys:List AVal} (h:E1 9 [.agg [.int .u8 b,.lst false (l.map Zb)]] []=some (.tup [.agg Q,.int .i64 c],[.row 0 w ys])) (hv:∀ σ:Za,σ[0]?=some (.row 0 w ys)->ZaL σ Q=some (Zh q,[0])) :
  Z2 true 0 (E1 9 [.agg [.int .u8 b,.lst false (l.map Zb)]] [])=some (.tup [Zs q,.int .i64 c],[]):=by
 rw [h]
 show Zbw 0 (some (.tup [.agg Q,.int .i64 c],[.row 0 w ys]))=some (.tup [Zs q,.int .i64 c],[])
 have h1:viewR [.row 0 w ys] (.tup [.agg Q,.int .i64 c])=some (.tup [Zs q,.int .i64 c],[0]):=by
  rw [viewR,viewAs,ZU,hv _ rfl]
  rfl
 unfold Zbw
 simp only [h1]
 have e1:=ZsC q
 have e2:=ZpS q
 have hi:Zy 0 [AVal.tup [Zs q,.int .i64 c]] (Zp [.row 0 w ys] [0])=[]:=by
  have : Zw [AVal.tup [Zs q,.int .i64 c]]=[]:=by simp [Zw,Z9,ZaJ,e1]
  simp only [Zy,this,Xw,XaE,XX]
  rfl
 simp only [gcA,hi,Zg,Zr,Zq]
 rw [ZaJ,Zr,e2]
end
section
def Zos (q:Zn) (m:Int):Zn:={ q with clean:=ZD m 2 != 0,hasWill:=ZD m 4 != 0,hasPassword:=ZD m 64 != 0,hasUser:=ZD m 128 != 0,will:={ q.will with qos:=ZD (Zex m) 3,retain:=ZD m 32 != 0 } }
def headD (q:Zn) (k:Int) (ps:List ZB) (cl:Zc):Zn:={ q with keep:=k,props:=ps,client:=cl }
def Zi2 (b:Bool) (q:Zn) (l:Zc):Except Int (Zn×Zc):=if b=true then (match ZdI l with
 | .error c=>.error c
 | .ok (d,r)=>.ok ({ q with password:=d },r)) else .ok (q,l)
def Ziz (b:Bool) (q:Zn) (l:Zc):Except Int (Zn×Zc):=if b=true then (match Zaw l with
 | .error c=>.error c
 | .ok (d,r)=>.ok ({ q with user:=d },r)) else .ok (q,l)
def ZiJ (b:Bool) (q:Zn) (l:Zc):Except Int (Zn×Zc):=if b=true then (match Zey l with
 | .error c=>.error c
 | .ok (ps,tp,d,r)=>.ok ({ q with will:={ q.will with props:=ps,topic:=tp,data:=d } },r)) else .ok (q,l)
def ZlX (m:Int) (q:Zn) (l:Zc):Except Int (Zn×Zc):=match ZiJ (ZD m 4 != 0) q l with
 | .error c=>.error c
 | .ok (q,l)=>match Ziz (ZD m 128 != 0) q l with
  | .error c=>.error c
  | .ok (q,l)=>Zi2 (ZD m 64 != 0) q l
def Zle (q:Zn) (m:Int) (l:Zc):Except Int (Zn×Zc):=match ZaS 2 l with
 | .error c=>.error c
 | .ok (k,r4)=>match ZbY 1 r4 with
  | .error c=>.error c
  | .ok (ps,r5)=>match Zaw r5 with
   | .error c=>.error c
   | .ok (cl,r6)=>ZlX m (headD (Zos q m) k ps cl) r6
def Zhe (q:Zn) (l:Zc):Except Int (Zn×Zc):=match Zaw l with
 | .error c=>.error c
 | .ok (s,r1)=>if (s == [77,81,84,84])=true then (match ZaS 1 r1 with
  | .error c=>.error c
  | .ok (v,r2)=>if (v == 5)=true then (match ZaS 1 r2 with
   | .error c=>.error c
   | .ok (m,r3)=>if Zid m (ZD (Zex m) 3) (ZD m 4 != 0) (ZD m 32 != 0)=true then Zle q m r3 else .error 129)
   else .error 132)
  else .error 132
structure Is (P:List AVal) (q:Zn):Prop where
 view:∀ σ,ZaL σ P=some (Zh q,[])
 ok:P.all ZS=true
theorem Zn7 {σ:Za} {v y:AVal} {ts:List Nat} (hv:ZP σ v=some (y,ts)):∀ {P ys:List AVal} {k:Nat},ZaL σ P=some (ys,[])->k < P.length->ZaL σ (P.set k v)=some (ys.set k y,ts)
 | [],_,_,_,h=>by simp at h
 | x::P,ys,k,h,hk=>by
  rw [ZaL] at h
  split at h
  ·rename_i y0 t0 h0
   split at h
   ·rename_i ys0 us0 h1
    injection h with h;injection h with h2 h3
    obtain ⟨rfl,rfl⟩:=List.append_eq_nil_iff.1 h3
    subst h2
    cases k with
    | zero =>
     rw [WO,ZaL,hv]
     simp only [h1,Xm]
     rfl
    | succ k =>
     rw [WP,ZaL,h0]
     simp only [Zn7 hv h1 (by simpa using hk)]
     rfl
   ·cases h
  ·cases h
theorem ZqR {v:AVal} (hv:ZS v=true):∀ {P:List AVal} {k:Nat},P.all ZS=true->(P.set k v).all ZS=true
 | [],_,_=>rfl
 | x::P,0,h=>by
  simp only [WO,XD,Xl] at h ⊢
  exact ⟨hv,h.2⟩
 | x::P,k+1,h=>by
  simp only [WP,XD,Xl] at h ⊢
  exact ⟨h.1,ZqR hv h.2⟩
theorem Is.set {P:List AVal} {q q':Zn} (h:Is P q) {k:Nat} {v y:AVal} (hk:k < P.length) (hv:∀ σ,ZP σ v=some (y,[])) (ho:ZS v=true) (hc:(Zh q).set k y=Zh q'):Is (P.set k v) q' :=
 ⟨fun σ=>by rw [Zn7 (hv σ) (h.view σ) hk,hc],ZqR ho h.ok⟩
section
variable {P:List AVal} {q:Zn} (hP:P.length=26) (h:Is P q)
include hP h
theorem ZEz (m:Int):Is (ZbR P m) (Zos q m):=by
 unfold ZbR
 have h1:=h.set (k:=12) (q':={ q with clean:=ZD m 2 != 0 }) (v:=.bool (ZD m 2 != 0)) (by omega) (fun _=>rfl) rfl rfl
 have h2:=h1.set (k:=15) (q':={ q with clean:=ZD m 2 != 0,hasWill:=ZD m 4 != 0 }) (v:=.bool (ZD m 4 != 0)) (by simp [hP]) (fun _=>rfl) rfl rfl
 have h3:=h2.set (k:=23) (q':={ q with clean:=ZD m 2 != 0,hasWill:=ZD m 4 != 0,hasPassword:=ZD m 64 != 0 }) (v:=.bool (ZD m 64 != 0)) (by simp [hP]) (fun _=>rfl) rfl rfl
 have h4:=h3.set (k:=21) (q':={ q with clean:=ZD m 2 != 0,hasWill:=ZD m 4 != 0,hasPassword:=ZD m 64 != 0,hasUser:=ZD m 128 != 0 }) (v:=.bool (ZD m 128 != 0)) (by simp [hP]) (fun _=>rfl) rfl rfl
 have h5:=h4.set (k:=18) (q':={ q with clean:=ZD m 2 != 0,hasWill:=ZD m 4 != 0,hasPassword:=ZD m 64 != 0,hasUser:=ZD m 128 != 0,will:={ q.will with qos:=ZD (Zex m) 3 } }) (v:=.int .i64 (ZD (Zex m) 3)) (by simp [hP]) (fun _=>rfl) rfl rfl
 exact h5.set (k:=19) (v:=.bool (ZD m 32 != 0)) (by simp [hP]) (fun _=>rfl) rfl rfl
theorem Zy4 (k:Int) (ps:List ZB) (cl:Zc):Is (ZjH P k ps cl) (headD q k ps cl):=by
 unfold ZjH
 have h1:=h.set (k:=13) (q':={ q with keep:=k }) (v:=.int .i64 k) (by omega) (fun _=>rfl) rfl rfl
 have h2:=h1.set (k:=9) (q':={ q with keep:=k,props:=ps }) (v:=.lst false (ps.map Zu)) (by simp [hP]) (fun _=>rfl) rfl rfl
 exact h2.set (k:=14) (v:=.str cl) (by simp [hP]) (fun _=>rfl) rfl rfl
theorem ZIY (ps:List ZB) (tp d:Zc):Is (Zin P ps tp d) { q with will:={ q.will with props:=ps,topic:=tp,data:=d } }:=by
 unfold Zin
 have h1:=h.set (k:=20) (q':={ q with will:={ q.will with props:=ps } }) (v:=.lst false (ps.map Zu)) (by omega) (fun _=>rfl) rfl rfl
 have h2:=h1.set (k:=16) (q':={ q with will:={ q.will with props:=ps,topic:=tp } }) (v:=.str tp) (by simp [hP]) (fun _=>rfl) rfl rfl
 exact h2.set (k:=17) (v:=.lst false (d.map Zb)) (by simp [hP]) (fun _=>rfl) rfl rfl
end
def ZhM (x:Except Int KSt) (y:Except Int (Zn×Zc)):Prop:=match x with
 | .error e=>y=.error e
 | .ok (P,l)=>∃ q,y=.ok (q,l)/\P.length=26/\Is P q
section
variable {P:List AVal} {q:Zn} (hP:P.length=26) (h:Is P q) (l:Zc)
include hP h
theorem ZHA (b:Bool):ZhM (Zij b (P,l)) (Zi2 b q l):=by
 unfold Zij Zi2
 cases b
 ·exact ⟨q,rfl,hP,h⟩
 ·rw [if_pos rfl,if_pos rfl]
  cases hd:ZdI l with
  | error c=>exact rfl
  | ok a=>exact ⟨_,rfl,by simp [hP],h.set (by omega) (fun _=>rfl) rfl rfl⟩
theorem ZQY (b:Bool):ZhM (ZhN b (P,l)) (Ziz b q l):=by
 unfold ZhN Ziz
 cases b
 ·exact ⟨q,rfl,hP,h⟩
 ·rw [if_pos rfl,if_pos rfl]
  cases hd:Zaw l with
  | error c=>exact rfl
  | ok a=>exact ⟨_,rfl,by simp [hP],h.set (by omega) (fun _=>rfl) rfl rfl⟩
theorem Zxu (b:Bool):ZhM (ZjE b (P,l)) (ZiJ b q l):=by
 unfold ZjE ZiJ
 cases b
 ·exact ⟨q,rfl,hP,h⟩
 ·rw [if_pos rfl,if_pos rfl]
  cases hd:Zey l with
  | error c=>exact rfl
  | ok a =>
   obtain ⟨ps,tp,d,r⟩:=a
   exact ⟨_,rfl,by simp [Zin,hP],ZIY hP h ps tp d⟩
theorem ZFA (m:Int):ZhM (ZiV m (P,l)) (ZlX m q l):=by
 unfold ZiV ZlX
 have h1:=Zxu hP h l (ZD m 4 != 0)
 cases hw:ZjE (ZD m 4 != 0) (P,l) with
 | error e =>
  rw [hw] at h1
  rw [show ZiJ (ZD m 4 != 0) q l=.error e from h1]
  exact rfl
 | ok s =>
  obtain ⟨P1,l1⟩:=s
  rw [hw] at h1
  obtain ⟨q1,e1,hP1,i1⟩:=h1
  rw [e1]
  simp only
  have h2:=ZQY hP1 i1 l1 (ZD m 128 != 0)
  cases hu:ZhN (ZD m 128 != 0) (P1,l1) with
  | error e =>
   rw [hu] at h2
   rw [show Ziz (ZD m 128 != 0) q1 l1=.error e from h2]
   exact rfl
  | ok s =>
   obtain ⟨P2,l2⟩:=s
   rw [hu] at h2
   obtain ⟨q2,e2,hP2,i2⟩:=h2
   rw [e2]
   exact ZHA hP2 i2 l2 _
theorem ZCw (m:Int):ZhM (Zj2 P m l) (Zle q m l):=by
 unfold Zj2 Zle
 cases h1:ZaS 2 l with
 | error c=>exact rfl
 | ok a =>
 obtain ⟨k,r4⟩:=a
 simp only
 cases h2:ZbY 1 r4 with
 | error c=>exact rfl
 | ok a =>
 obtain ⟨ps,r5⟩:=a
 simp only
 cases h3:Zaw r5 with
 | error c=>exact rfl
 | ok a =>
 obtain ⟨cl,r6⟩:=a
 exact ZFA (by simp [ZjH,ZbR,hP]) (Zy4 (by simp [ZbR,hP]) (ZEz hP h m) k ps cl) r6 m
theorem ZAh:ZhM (ZjJ P l) (Zhe q l):=by
 unfold ZjJ Zhe
 cases h1:Zaw l with
 | error c=>exact rfl
 | ok a =>
 obtain ⟨s,r1⟩:=a
 simp only
 split
 case isFalse=>exact rfl
 cases h2:ZaS 1 r1 with
 | error c=>exact rfl
 | ok a =>
 obtain ⟨v,r2⟩:=a
 simp only
 split
 case isFalse=>exact rfl
 cases h3:ZaS 1 r2 with
 | error c=>exact rfl
 | ok a =>
 obtain ⟨m,r3⟩:=a
 simp only
 split
 case isFalse=>exact rfl
 exact ZCw hP h r3 m
end
def Zdj (x:Except Int (Zn×Zc)):Except Int Zn:=match x with
 | .error e=>.error e
 | .ok (q,r)=>if r.length=0 then .ok q else .error 129
def Zg5 (q:Zn) (l:Zc):Except Int (Zn×Zc):=match Zdm q.type l with
 | .error e=>.error e
 | .ok ((c,ps),r)=>.ok ({ q with code:=c,props:=ps.getD [] },r)
def idQ (q:Zn) (l:Zc):Except Int (Zn×Zc):=match idK l with
 | .error e=>.error e
 | .ok (n,r)=>Zg5 { q with id:=n } r
def Zkc (q:Zn) (l:Zc):Except Int (Zn×Zc):=match ZaS 1 l with
 | .error e=>.error e
 | .ok (f,r)=>if f < 2 then (match ZaR 2 r with
  | .error e=>.error e
  | .ok (c,r2)=>match ZbY 2 r2 with
   | .error e=>.error e
   | .ok (ps,r3)=>.ok ({ q with present:=f == 1,code:=c,props:=ps },r3)) else .error 129
def ZmU (q:Zn) (l:Zc):Except Int Zn:=match ZbP ZbH 8 l with
 | .error e=>.error e
 | .ok (n,ps,ts)=>.ok { q with id:=n,props:=ps,subs:=ts }
def ZlU (q:Zn) (l:Zc):Except Int Zn:=match ZbP Zaw 10 l with
 | .error e=>.error e
 | .ok (n,ps,ts)=>.ok { q with id:=n,props:=ps,filters:=ts }
def Zia (q:Zn) (l:Zc):Except Int Zn:=match ZbP (ZaR q.type) q.type l with
 | .error e=>.error e
 | .ok (n,ps,ts)=>.ok { q with id:=n,props:=ps,codes:=ts }
def Zh2 (t:Int) (l:Zc):Except Int Zn :=
 if t=1 then Zdj (Zhe { Za3 with type:=1 } l)
 else if t=2 then Zdj (Zkc { Za3 with type:=2 } l)
 else if t=4\/t=5\/t=6\/t=7 then Zdj (idQ { Za3 with type:=t } l)
 else if t=8 then ZmU { Za3 with type:=8 } l
 else if t=10 then ZlU { Za3 with type:=10 } l
 else if t=9\/t=11 then Zia { Za3 with type:=t } l
 else if t=14\/t=15 then Zdj (Zg5 { Za3 with type:=t } l)
 else Zdj (.ok ({ Za3 with type:=t },l))
def ZdR (b:Int) (l:Zc):Zn×Int :=
 if tyI b=0 then (Za3,129) else if tyI b=3 then Zjl b l
 else if ZbF b 15=ZeA (tyI b) then (match Zh2 (tyI b) l with
  | .error e=>(Za3,e)
  | .ok q=>(q,0)) else (Za3,129)
def Zd3 (t : Int) (l : Zc) (x : Except Int Zn) : Prop := match x with
  | .ok q => (∃ Q L, Q.length = 26 /\ Zd Q = true /\ ZI L = true /\ Is Q q /\ E 20 [.ref 0 0] (Zm (P0.set 0 (.int .i64 t)) l) = some (.tup [], [.var (Q ++ [L])])) \/
      (∃ Q q0 kk w ys, Q.length = 26 /\ Zd Q = true /\ kk < 26 /\ Is Q q0 /\ (Zh q0).set kk (.lst false ys) = Zh q /\ E 20 [.ref 0 0] (Zm (P0.set 0 (.int .i64 t)) l) = some (.tup [], ZcB Q kk ys.length [] w ys))
  | .error e => (∃ cs, Zd cs = true /\ E 20 [.ref 0 0] (Zm (P0.set 0 (.int .i64 t)) l) = some (.pan (ZG e), [.var cs])) \/
      (∃ Q kk n r w ys, Q.length = 26 /\ Zd Q = true /\ kk < 26 /\ E 20 [.ref 0 0] (Zm (P0.set 0 (.int .i64 t)) l) = some (.pan (ZG e), ZcB Q kk n r w ys))
theorem ZjW {t:Int} {l:Zc} {q:Zn} {Q:List AVal} {r:Zc} (hQ:Q.length=26) (hN:Zd Q=true) (hi:Is Q q) (h:E 20 [.ref 0 0] (Zm (P0.set 0 (.int .i64 t)) l)=some (if r.length=0 then .tup [] else .pan (ZG 129),Zm Q r)):Zd3 t l (Zdj (.ok (q,r))):=by
 unfold Zdj
 simp only
 split at h
 ·rename_i h0
  rw [if_pos h0]
  exact Xr ⟨Q,_,hQ,hN,rfl,hi,h⟩
 ·rename_i h0
  rw [if_neg h0]
  exact Xr ⟨_,ZE Q hQ hN _ _,h⟩
theorem Zks {t:Int} {l:Zc} {kk w:Nat} {e:Int} (hk:kk < 26) (h:ZjA kk w l (P0.set 0 (.int .i64 t)) e):Zd3 t l (.error e):=by
 rcases h with ⟨cs,h1,h2⟩ | ⟨Q,n,r,ys,h1,h2,h3⟩
 ·exact Xr ⟨cs,h1,h2⟩
 ·exact Xv ⟨Q,kk,n,r,w,ys,h1,h2,hk,h3⟩
section
variable (l:Zc) (hl:l.length<=1099511627775)
include hl
theorem hlP:l.length<=140737488355328:=by omega
theorem ZHp:Zd3 1 l (Zdj (Zhe { Za3 with type:=1 } l)):=by
 have hs:=ZAh (P:=P0.set 0 (.int .i64 1)) (q:={ Za3 with type:=1 }) rfl ⟨fun σ=>rfl,rfl⟩ l
 have hr:=ZIm (P0.set 0 (.int .i64 1)) rfl (by rfl) l (hlP l hl) (fun r _=>ZdS 1 r) (fun r _=>ZdS 16 r)
 cases hc:ZjJ (P0.set 0 (.int .i64 1)) l with
 | error e =>
  rw [hc] at hs hr
  rw [show Zhe { Za3 with type:=1 } l=.error e from hs]
  obtain ⟨cs,hn,he⟩:=KRuns.fnF (f:=32) (fn:=ZoM) (by rfl) Zr2 hr
  exact Xr ⟨cs,hn,ZA8 (P0.set 0 (.int .i64 1)) rfl (by rfl) rfl l (hlP l hl) hn he⟩
 | ok s =>
  obtain ⟨Q,r⟩:=s
  rw [hc] at hs hr
  obtain ⟨q,e1,hQ,hi⟩:=hs
  rw [e1]
  have hQN:Zd Q=true:=by obtain ⟨_,_,_,h3,_⟩:=hr;exact h3
  have he:=KRuns.fnT (f:=32) (fn:=ZoM) (by rfl) Zr2 rfl hr
  refine ZjW hQ hQN hi ?_
  by_cases h0:r.length=0
  ·rw [if_pos h0];exact ZJh (P0.set 0 (.int .i64 1)) rfl (by rfl) rfl l (hlP l hl) he hQ hQN h0
  ·rw [if_neg h0];exact ZyV (P0.set 0 (.int .i64 1)) rfl (by rfl) rfl l (hlP l hl) he hQ hQN h0
theorem ZDk:Zd3 2 l (Zdj (Zkc { Za3 with type:=2 } l)):=by
 have hP:(P0.set 0 (.int .i64 2)).length=26:=rfl
 have hN:Zd (P0.set 0 (.int .i64 2))=true:=by rfl
 unfold Zkc
 cases h1:ZaS 1 l with
 | error e=>exact Xr (ZMT _ hP hN rfl l (hlP l hl) h1)
 | ok a =>
 obtain ⟨f,r⟩:=a
 simp only
 split
 case isFalse hf=>exact Xr (ZLH _ hP hN rfl l (hlP l hl) h1 hf)
 rename_i hf
 cases h2:ZaR 2 r with
 | error e=>exact Xr (ZOa _ hP hN rfl l (hlP l hl) h1 hf h2)
 | ok a =>
 obtain ⟨c,r2⟩:=a
 simp only
 cases h3:ZbY 2 r2 with
 | error e=>exact Xr (Zz7 _ hP hN rfl l (hlP l hl) h1 hf h2 h3)
 | ok a =>
 obtain ⟨ps,r3⟩:=a
 exact ZjW (by simp [hP]) (ZZ (Zcj _ _) _ (ZZ rfl _ (ZZ rfl _ hN))) ⟨fun σ=>rfl,rfl⟩ (ZPW _ hP hN rfl l (hlP l hl) h1 hf h2 h3 (ZdS 2 r2))
theorem ZsO {P:List AVal} {q:Zn} (hP:P.length=26) (h:Is P q) (c:Int) (ps:Option (List ZB)):Is (Zeu P c ps) { q with code:=c,props:=ps.getD [] }:=by
 unfold Zeu
 have h1:=h.set (k:=7) (q':={ q with code:=c }) (v:=.int .i64 c) (by omega) (fun _=>rfl) rfl rfl
 cases ps with
 | none=>exact h1.set (k:=9) (v:=.lst true []) (by simp [hP]) (fun _=>rfl) rfl rfl
 | some ps=>exact h1.set (k:=9) (v:=.lst false (ps.map Zu)) (by simp [hP]) (fun _=>rfl) rfl rfl
theorem Ztw (k:Int) (hk:k=14\/k=15):Zd3 k l (Zdj (Zg5 { Za3 with type:=k } l)):=by
 have hP:(P0.set 0 (.int .i64 k)).length=26:=rfl
 have hN:Zd (P0.set 0 (.int .i64 k))=true:=by rfl
 unfold Zg5
 simp only
 cases h1:Zdm k l with
 | error e=>exact Xr (ZBB _ hP hN k hk rfl (fun r _=>ZdS k r) l (hlP l hl) h1)
 | ok a =>
 obtain ⟨⟨c,ps⟩,r⟩:=a
 obtain ⟨i1,i2⟩:=ZkT hP hN c ps
 exact ZjW i1 i2 (ZsO l hl (q:={ Za3 with type:=k }) hP ⟨fun σ=>rfl,rfl⟩ c ps) (ZEn _ hP hN k hk rfl rfl rfl (fun r _=>ZdS k r) l (hlP l hl) h1)
theorem Zmi (k:Int) (hk:k=4\/k=5\/k=6\/k=7):Zd3 k l (Zdj (idQ { Za3 with type:=k } l)):=by
 have hP:(P0.set 0 (.int .i64 k)).length=26:=rfl
 have hN:Zd (P0.set 0 (.int .i64 k))=true:=by rfl
 unfold idQ Zg5
 simp only
 cases h0:idK l with
 | error e=>exact Xr (ZHM _ hP hN k hk rfl l (hlP l hl) h0)
 | ok a =>
 obtain ⟨n,r1⟩:=a
 simp only
 cases h1:Zdm k r1 with
 | error e=>exact Xr (ZNa _ hP hN k hk rfl (fun r _=>ZdS k r) l (hlP l hl) h0 h1)
 | ok a =>
 obtain ⟨⟨c,ps⟩,r⟩:=a
 obtain ⟨i1,i2⟩:=ZkT (P:=(P0.set 0 (.int .i64 k)).set 4 (.int .i64 n)) rfl (by rfl) c ps
 exact ZjW i1 i2 (ZsO l hl (q:={ Za3 with type:=k,id:=n }) rfl ⟨fun σ=>rfl,rfl⟩ c ps) (ZOD _ hP hN k hk rfl rfl rfl (fun r _=>ZdS k r) l (hlP l hl) h0 h1)
theorem Zw6 (k:Int) (hk:k=12\/k=13):Zd3 k l (Zdj (.ok ({ Za3 with type:=k },l))) :=
 ZjW (Q:=P0.set 0 (.int .i64 k)) rfl (by rfl) ⟨fun σ=>rfl,rfl⟩ (ZBz _ rfl (by rfl) k hk rfl l)
theorem Zd2 (k:Int):QOk k (P0.set 0 (.int .i64 k)):=⟨rfl,by rfl,rfl,rfl,rfl,rfl⟩
theorem ZmQ (k:Int) (n:Int) (ps:List ZB):Is (Zcf (P0.set 0 (.int .i64 k)) n ps) { Za3 with type:=k,id:=n,props:=ps }:=⟨fun σ=>rfl,rfl⟩
theorem ZB6:Zd3 8 l (ZmU { Za3 with type:=8 } l):=by
 unfold ZmU
 cases h:ZbP ZbH 8 l with
 | error e=>exact Zks (by omega) (ZPP _ l hl (Zd2 l hl 8) h)
 | ok a =>
 obtain ⟨n,ps,ts⟩:=a
 have hQ:=ZdM (Zd2 l hl 8) n ps
 have:=ZxG _ l hl (Zd2 l hl 8) h
 rw [<-XW (f:=Z6)] at this
 exact Xv ⟨_,_,10,6,ts.map Z6,hQ.len,hQ.nor,by omega,ZmQ l hl 8 n ps,rfl,this⟩
theorem ZQV:Zd3 10 l (ZlU { Za3 with type:=10 } l):=by
 unfold ZlU
 cases h:ZbP Zaw 10 l with
 | error e=>exact Zks (by omega) (ZI3 _ l hl (Zd2 l hl 10) h)
 | ok a =>
 obtain ⟨n,ps,ts⟩:=a
 have hQ:=ZdM (Zd2 l hl 10) n ps
 have:=ZBT _ l hl (Zd2 l hl 10) h
 rw [<-XW (f:=AVal.str)] at this
 exact Xv ⟨_,_,11,1,ts.map AVal.str,hQ.len,hQ.nor,by omega,ZmQ l hl 10 n ps,rfl,this⟩
theorem ZKl:Zd3 9 l (Zia { Za3 with type:=9 } l):=by
 unfold Zia
 simp only
 cases h:ZbP (ZaR 9) 9 l with
 | error e=>exact Zks (by omega) (ZHj _ l hl (Zd2 l hl 9) h)
 | ok a =>
 obtain ⟨n,ps,ts⟩:=a
 have hQ:=ZdM (Zd2 l hl 9) n ps
 have:=ZNA _ l hl (Zd2 l hl 9) h
 rw [<-XW (f:=AVal.int .i64)] at this
 exact Xv ⟨_,_,8,1,ts.map (AVal.int .i64),hQ.len,hQ.nor,by omega,ZmQ l hl 9 n ps,rfl,this⟩
theorem ZEf:Zd3 11 l (Zia { Za3 with type:=11 } l):=by
 unfold Zia
 simp only
 cases h:ZbP (ZaR 11) 11 l with
 | error e=>exact Zks (by omega) (ZCr _ l hl (Zd2 l hl 11) h)
 | ok a =>
 obtain ⟨n,ps,ts⟩:=a
 have hQ:=ZdM (Zd2 l hl 11) n ps
 have:=ZMw _ l hl (Zd2 l hl 11) h
 rw [<-XW (f:=AVal.int .i64)] at this
 exact Xv ⟨_,_,8,1,ts.map (AVal.int .i64),hQ.len,hQ.nor,by omega,ZmQ l hl 11 n ps,rfl,this⟩
theorem ZBk (t:Int) (h1:1<=t/\t<=15) (h3:t≠3):Zd3 t l (Zh2 t l):=by
 have : t=1\/t=2\/t=4\/t=5\/t=6\/t=7\/t=8\/t=9\/t=10\/t=11\/t=12\/t=13\/t=14\/t=15:=by omega
 unfold Zh2
 rcases this with rfl | rfl | rfl | rfl | rfl | rfl | rfl | rfl | rfl | rfl | rfl | rfl | rfl | rfl
 ·exact ZHp l hl
 ·exact ZDk l hl
 ·exact Zmi l hl 4 (by decide)
 ·exact Zmi l hl 5 (by decide)
 ·exact Zmi l hl 6 (by decide)
 ·exact Zmi l hl 7 (by decide)
 ·exact ZB6 l hl
 ·exact ZKl l hl
 ·exact ZQV l hl
 ·exact ZEf l hl
 ·exact Zw6 l hl 12 (by decide)
 ·exact Zw6 l hl 13 (by decide)
 ·exact Ztw l hl 14 (by decide)
 ·exact Ztw l hl 15 (by decide)
end
theorem ZPS (b:Int) (hb:0<=b/\b < 256):0<=tyI b/\tyI b<=15:=by
 have h:∀ n:Nat,n < 256->0<=tyI (n:Int)/\tyI (n:Int)<=15:=by decide +kernel
 have:=h b.toNat (by omega)
 rwa [Int.toNat_of_nonneg hb.1] at this
theorem Zrl {b c:Int} {l:Zc} {Q:List AVal} {q:Zn} (h:E1 9 [.agg [.int .u8 b,.lst false (l.map Zb)]] []=some (.tup [.agg Q,.int .i64 c],[])) (hv:∀ σ,ZaL σ Q=some (Zh q,[])):Z2 true 0 (E1 9 [.agg [.int .u8 b,.lst false (l.map Zb)]] [])=some (.tup [Zs q,.int .i64 c],[]):=by
 rw [h];exact Zy2 c hv
theorem ZzO (b:Int) (hb:0<=b/\b < 256) (l:Zc) (hl:l.length<=1099511627775):Z2 true 0 (E1 9 [.agg [.int .u8 b,.lst false (l.map Zb)]] [])=some (.tup [Zs (ZdR b l).1,.int .i64 (ZdR b l).2],[]):=by
 have hr:=ZPS b hb
 have hF:∀ c,Ze3 [.agg [.int .u8 b,.lst false (l.map Zb)]] []=some (.tup [.agg P0,.int .i64 c],[])->Z2 true 0 (E1 9 [.agg [.int .u8 b,.lst false (l.map Zb)]] [])=some (.tup [Zs Za3,.int .i64 c],[]):=fun c h =>
  Zrl (by rw [Zhu];exact h) Zmf
 unfold ZdR
 by_cases h0:tyI b=0
 ·rw [if_pos h0]
  exact hF 129 (Zg8 b 129 l (Zmj b l (ZE _ rfl (by rfl) _ _) (ZIu P0 rfl (by rfl) b l h0)))
 rw [if_neg h0]
 by_cases h3:tyI b=3
 ·rw [if_pos h3]
  obtain ⟨Q,h,hv⟩:=ZNK b h3 l (by omega)
  exact Zrl h hv
 rw [if_neg h3]
 by_cases hf:ZbF b 15=ZeA (tyI b)
 case neg =>
  rw [if_neg hf]
  exact hF 129 (Zg8 b 129 l (Zmj b l (ZE _ rfl (by rfl) _ _) (ZxS P0 rfl (by rfl) b (tyI b) l rfl h0 h3 hf)))
 rw [if_pos hf]
 have hfi:=ZO7 P0 rfl (by rfl) b (tyI b) l rfl h0 h3 hf
 have hB:=ZBk l hl (tyI b) (by omega) h3
 generalize tyI b=t at *
 have p1:(P0.set 0 (.int .i64 t)).length=26:=rfl
 have p2:Zd (P0.set 0 (.int .i64 t))=true:=by rfl
 cases hx:Zh2 t l with
 | error e =>
  rw [hx] at hB
  rcases hB with ⟨cs,hn,hb⟩ | ⟨Q,kk,n,r,w,ys,hQ,hN,hk,hb⟩
  ·exact hF e (Zg8 b e l (ZwQ b l p1 p2 hn hfi hb))
  ·exact hF e (Zg8 b e l (ZAM b l p1 p2 hQ hN hk hfi hb))
 | ok q =>
  rw [hx] at hB
  rcases hB with ⟨Q,L,hQ,hN,nL,hi,hb⟩ | ⟨Q,q0,kk,w,ys,hQ,hN,hk,hi,hc,hb⟩
  ·exact Zrl (by rw [Zhu];exact Zv7 b l p1 p2 hQ hN hi.ok nL hfi hb) hi.view
  ·refine ZHr (by rw [Zhu];exact ZGI b l p1 p2 hQ hN hk (fun r g m=>ZqR rfl hi.ok) hfi hb) (fun σ hs=>?_)
   have hv:ZP σ (.sl 0 0 0 ys.length)=some (.lst false ys,[0]):=by
    simp [ZP,ZM,hs]
   unfold Zo
   rw [Zn7 hv (hi.view σ) (by omega),hc]
theorem Zn8 (b:Int) (hb:0<=b/\b < 256) (l:Zc) (hl:l.length<=1099511627775) (f:Bool) (σ:Za) (sq own:Nat) :
  Zk E1 BY σ sq 9 own true [.agg [.int .u8 b,.lst f (l.map Zb)]]=some (.tup [Zs (ZdR b l).1,.int .i64 (ZdR b l).2],σ,{}):=by
 rw [Zfj (by kernel_rfl) rfl]
 show ZaH σ σ [] [] sq own (Z2 true 0 (E1 9 [.agg [.int .u8 b,.lst false (l.map Zb)]] []))=_
 rw [ZzO b hb l hl,Zjb _ _ _ _ (by simp only [Zr,Zg,ZaJ,ZpS])]
end
section
def ZiR:Zc:=[77,81,84,84]
theorem ZjM (q:Int):0<=ZD q 3/\ZD q 3<=3:=by
 have h:∀ x:BitVec 64,(x &&& XR 64 3).toNat<=3:=by
  intro x
  rw [BitVec.toNat_and]
  exact Nat.and_le_right
 have h2:=h (XR 64 q)
 unfold ZD
 have h3:IntKind.i64.bits=64:=rfl
 rw [h3,ZaV (by omega) (by omega)]
 omega
def Zrc (p:Zn):Int:=Zae p.clean 2+Zae p.hasWill 4+ZD p.will.qos 3*8+Zae p.will.retain 32+Zae p.hasPassword 64+Zae p.hasUser 128
theorem Zed (b:Bool) (n:Int) (h:0<=n):0<=Zae b n/\Zae b n<=n:=by unfold Zae;split <;> omega
theorem Zcv (n:Int) (h0:0<=n) (h1:n < 9223372036854775808):IntKind.i64.wrap n=n:=by
 obtain ⟨m,rfl⟩:∃ m:Nat,n=m:=⟨n.toNat,by omega⟩
 exact ZaV (by omega) (by omega)
def Zmk (p:Zn):Zc:=((((Zaq ZiR).1++beB (Z0 5) 1)++beB (Z0 (Zrc p)) 1)++beB (Z0 p.keep) 2)++(ZbE 1 p.props).1++(Zaq p.client).1
def Znb (p:Zn):Zc:=if p.hasWill then ((Zmk p++(ZbE 16 p.will.props).1)++(Zaq p.will.topic).1)++(ZbQ p.will.data).1 else Zmk p
def Znl (p:Zn):Zc:=if p.hasUser then Znb p++(Zaq p.user).1 else Znb p
def Zez (p:Zn):Zc:=if p.hasPassword then Znl p++(ZbQ p.password).1 else Znl p
section
variable (p:Zn) (h:OkW p)
include h
theorem ZQv:E1 46 [.ref 0 0,Zs p] [.var wn]=some (.tup [],wH 0 (Zez p)):=by
 have hq:=ZjM p.will.qos
 have m1:=Zed p.clean 2 (by omega)
 have m2:=Zed p.hasWill 4 (by omega)
 have m3:=Zed p.will.retain 32 (by omega)
 have m4:=Zed p.hasPassword 64 (by omega)
 have m5:=Zed p.hasUser 128 (by omega)
 have hm:=fun b n σ sq own=>ZjQ b n σ sq own
 have w1:=Zcv (Zae p.clean 2+Zae p.hasWill 4) (by omega) (by omega)
 have w2:=Zcv (ZD p.will.qos 3*8) (by omega) (by omega)
 have w3:=Zcv (Zae p.clean 2+Zae p.hasWill 4+ZD p.will.qos 3*8) (by omega) (by omega)
 have w4:=Zcv (Zae p.clean 2+Zae p.hasWill 4+ZD p.will.qos 3*8+Zae p.will.retain 32) (by omega) (by omega)
 have w5:=Zcv (Zae p.clean 2+Zae p.hasWill 4+ZD p.will.qos 3*8+Zae p.will.retain 32+Zae p.hasPassword 64) (by omega) (by omega)
 have w6:=Zcv (Zae p.clean 2+Zae p.hasWill 4+ZD p.will.qos 3*8+Zae p.will.retain 32+Zae p.hasPassword 64+Zae p.hasUser 128) (by omega) (by omega)
 have lim:=ZeR
 have t0:=Zc9 ZiR
 have t1:=Zc9 p.client
 have t2:=Zc9 p.will.topic
 have t3:=Zc9 p.user
 have d1:=Zkg p.will.data
 have d2:=Zkg p.password
 have y1:=ZdG 1 p.props
 have y2:=ZdG 16 p.will.props
 have f0:=fun {σ:Za} {t sq:Nat}=>Zxg ZiR (by decide) (σ:=σ) (t:=t) (sq:=sq)
 unfold Zez Znl Znb Zmk Zrc
 have n1:=Zbt 1 (Z0 5)
 generalize (Zaq ZiR).1=l0 at *
 have f1:=fun {σ:Za} {sq:Nat}=>Zgp l0 5 1 (by omega) (by omega) (m:=1) rfl (by omega) (σ:=σ) 0 2 0 (sq:=sq) (by omega)
 generalize beB (Z0 5) 1=D1 at *
 obtain ⟨l1,e1⟩:∃ l1,l0++D1=l1:=⟨_,rfl⟩
 have k1:l1.length=l0.length+D1.length:=by rw [<-e1,Xk]
 simp only [e1] at f1 ⊢
 have n2:=Zbt 1 (Z0 (Zae p.clean 2+Zae p.hasWill 4+ZD p.will.qos 3*8+Zae p.will.retain 32+Zae p.hasPassword 64+Zae p.hasUser 128))
 have f2:=fun {σ:Za} {sq:Nat}=>Zgp l1 (Zae p.clean 2+Zae p.hasWill 4+ZD p.will.qos 3*8+Zae p.will.retain 32+Zae p.hasPassword 64+Zae p.hasUser 128) 1 (by omega) (by omega) (m:=1) rfl (by omega) (σ:=σ) 0 2 1 (sq:=sq) (by omega)
 generalize beB (Z0 (Zae p.clean 2+Zae p.hasWill 4+ZD p.will.qos 3*8+Zae p.will.retain 32+Zae p.hasPassword 64+Zae p.hasUser 128)) 1=D2 at *
 obtain ⟨l2,e2⟩:∃ l2,l1++D2=l2:=⟨_,rfl⟩
 have k2:l2.length=l1.length+D2.length:=by rw [<-e2,Xk]
 simp only [e2] at f2 ⊢
 have n3:=Zbt 2 (Z0 p.keep)
 have f3:=fun {σ:Za} {sq:Nat}=>Zgp l2 p.keep 2 (by omega) (by omega) (m:=2) rfl (by omega) (σ:=σ) 0 2 2 (sq:=sq) (by omega)
 generalize beB (Z0 p.keep) 2=D3 at *
 obtain ⟨l3,e3⟩:∃ l3,l2++D3=l3:=⟨_,rfl⟩
 have k3:l3.length=l2.length+D3.length:=by rw [<-e3,Xk]
 simp only [e3] at f3 ⊢
 have f4:=fun {σ:Za} {sq:Nat}=>Zg6 l3 1 p.props h.props.1 h.props.2 (by omega) (σ:=σ) 0 2 3 (sq:=sq) (by omega)
 generalize (ZbE 1 p.props).1=D4 at *
 obtain ⟨l4,e4⟩:∃ l4,l3++D4=l4:=⟨_,rfl⟩
 have k4:l4.length=l3.length+D4.length:=by rw [<-e4,Xk]
 simp only [e4] at f4 ⊢
 have f5:=fun {σ:Za} {sq:Nat}=>Zke l4 p.client h.client (by omega) (σ:=σ) 0 2 4 (sq:=sq) (by omega)
 generalize (Zaq p.client).1=D5 at *
 obtain ⟨l5,e5⟩:∃ l5,l4++D5=l5:=⟨_,rfl⟩
 have k5:l5.length=l4.length+D5.length:=by rw [<-e5,Xk]
 simp only [e5] at f5 ⊢
 have f6:=fun {σ:Za} {sq:Nat}=>Zg6 l5 16 p.will.props h.wprops.1 h.wprops.2 (by omega) (σ:=σ) 0 2 5 (sq:=sq) (by omega)
 generalize (ZbE 16 p.will.props).1=D6 at *
 obtain ⟨l6,e6⟩:∃ l6,l5++D6=l6:=⟨_,rfl⟩
 have k6:l6.length=l5.length+D6.length:=by rw [<-e6,Xk]
 simp only [e6] at f6 ⊢
 have f7:=fun {σ:Za} {sq:Nat}=>Zke l6 p.will.topic h.wtopic (by omega) (σ:=σ) 0 2 6 (sq:=sq) (by omega)
 generalize (Zaq p.will.topic).1=D7 at *
 obtain ⟨l7,e7⟩:∃ l7,l6++D7=l7:=⟨_,rfl⟩
 have k7:l7.length=l6.length+D7.length:=by rw [<-e7,Xk]
 simp only [e7] at f7 ⊢
 have f8:=fun {σ:Za} {sq:Nat}=>Zww l7 p.will.data h.wdata (by omega) (σ:=σ) 0 2 7 (sq:=sq) (by omega)
 generalize (ZbQ p.will.data).1=D8 at *
 obtain ⟨l8,e8⟩:∃ l8,l7++D8=l8:=⟨_,rfl⟩
 have k8:l8.length=l7.length+D8.length:=by rw [<-e8,Xk]
 simp only [e8] at f8 ⊢
 have hO:=fun {j g:Nat} {l:Zc} {σ:Za}=>Zek (j:=j) (g:=g) (l:=l) (σ:=σ)
 rw [ZaJ]
 have e0:=ZaT p
 have a9:(Zh p)[9]?=some (.lst false (p.props.map Zu)):=rfl
 have a12:(Zh p)[12]?=some (.bool p.clean):=rfl
 have a13:(Zh p)[13]?=some (.int .i64 p.keep):=rfl
 have a14:(Zh p)[14]?=some (.str p.client):=rfl
 have a15:(Zh p)[15]?=some (.bool p.hasWill):=rfl
 have a16:(Zh p)[16]?=some (.str p.will.topic):=rfl
 have a17:(Zh p)[17]?=some (.lst false (p.will.data.map Zb)):=rfl
 have a18:(Zh p)[18]?=some (.int .i64 p.will.qos):=rfl
 have a19:(Zh p)[19]?=some (.bool p.will.retain):=rfl
 have a20:(Zh p)[20]?=some (.lst false (p.will.props.map Zu)):=rfl
 have a21:(Zh p)[21]?=some (.bool p.hasUser):=rfl
 have a22:(Zh p)[22]?=some (.str p.user):=rfl
 have a23:(Zh p)[23]?=some (.bool p.hasPassword):=rfl
 have a24:(Zh p)[24]?=some (.lst false (p.password.map Zb)):=rfl
 have b5:=h.user
 have b6:=h.password
 clear h
 generalize Zh p=P at *
 generalize p.will.qos=wq at *
 generalize p.will.retain=wr at *
 generalize p.will.topic=wt at *
 generalize p.will.data=wd at *
 generalize p.will.props=wp at *
 generalize p.clean=cl at *
 generalize p.keep=kp at *
 generalize p.client=ci at *
 generalize p.props=ps at *
 generalize p.hasWill=hw at *
 generalize p.hasUser=hu at *
 generalize p.hasPassword=hp at *
 generalize p.user=us at *
 generalize p.password=pw at *
 unfold ZD ZiR at *
 rw [ZbN (by rfl) ZOE]
 have fu:=fun (l:Zc) (g:Nat) (hl:l.length<=1000000000) {σ:Za} {sq:Nat}=>Zke l us b5 (by omega) (σ:=σ) 0 2 g (sq:=sq) (by omega)
 have fp:=fun (l:Zc) (g:Nat) (hl:l.length<=1000000000) {σ:Za} {sq:Nat}=>Zww l pw b6 (by omega) (σ:=σ) 0 2 g (sq:=sq) (by omega)
 generalize (Zaq us).1=Du at *
 generalize (ZbQ pw).1=Dp at *
 cases hw <;> cases hu <;> cases hp
 ·simp only [Xi,if_false]
  unfold wn at *
  simp -implicitDefEqProofs only [EQA,Zx,Xe,Xc,Xa,Xg,reduceCtorEq,↓reduceIte,Zd,ZfZ,ZeB,Zgf,AVal.cells,a9,a12,a13,a14,a15,a18,a19,a21,a23,hm,w1,w2,w3,w4,w5,w6,f0,f1,f2,f3,f4,f5,Zaj,Zan,Zam,ZaA,Zaz,Zax,ZaF,Zat,XC]
  exact hO (j:=2) (by decide) rfl rfl
 ·have g1:=fun {σ:Za} {sq:Nat}=>fp l5 5 (by omega) (σ:=σ) (sq:=sq)
  simp only [Xi,if_false,if_true]
  unfold wn at *
  simp -implicitDefEqProofs only [EQA,Zx,Xe,Xc,Xa,Xg,reduceCtorEq,↓reduceIte,Zd,ZfZ,ZeB,Zgf,AVal.cells,a9,a12,a13,a14,a15,a18,a19,a21,a23,a24,hm,w1,w2,w3,w4,w5,w6,f0,f1,f2,f3,f4,f5,g1,Zaj,Zan,Zam,ZaA,Zaz,Zax,ZaF,Zat,XC]
  exact hO (j:=2) (by decide) rfl rfl
 ·have g1:=fun {σ:Za} {sq:Nat}=>fu l5 5 (by omega) (σ:=σ) (sq:=sq)
  simp only [Xi,if_false,if_true]
  unfold wn at *
  simp -implicitDefEqProofs only [EQA,Zx,Xe,Xc,Xa,Xg,reduceCtorEq,↓reduceIte,Zd,ZfZ,ZeB,Zgf,AVal.cells,a9,a12,a13,a14,a15,a18,a19,a21,a22,a23,hm,w1,w2,w3,w4,w5,w6,f0,f1,f2,f3,f4,f5,g1,Zaj,Zan,Zam,ZaA,Zaz,Zax,ZaF,Zat,XC]
  exact hO (j:=2) (by decide) rfl rfl
 ·have g1:=fun {σ:Za} {sq:Nat}=>fu l5 5 (by omega) (σ:=σ) (sq:=sq)
  have g2:=fun {σ:Za} {sq:Nat}=>fp (l5++Du) 6 (by rw [Xk];omega) (σ:=σ) (sq:=sq)
  simp only [Xi,if_false,if_true]
  unfold wn at *
  simp -implicitDefEqProofs only [EQA,Zx,Xe,Xc,Xa,Xg,reduceCtorEq,↓reduceIte,Zd,ZfZ,ZeB,Zgf,AVal.cells,a9,a12,a13,a14,a15,a18,a19,a21,a22,a23,a24,hm,w1,w2,w3,w4,w5,w6,f0,f1,f2,f3,f4,f5,g1,g2,Zaj,Zan,Zam,ZaA,Zaz,Zax,ZaF,Zat,XC]
  exact hO (j:=2) (by decide) rfl rfl
 ·simp only [Xi,if_false,if_true]
  unfold wn at *
  simp -implicitDefEqProofs only [EQA,Zx,Xe,Xc,Xa,Xg,reduceCtorEq,↓reduceIte,Zd,ZfZ,ZeB,Zgf,AVal.cells,a9,a12,a13,a14,a15,a16,a17,a18,a19,a20,a21,a23,hm,w1,w2,w3,w4,w5,w6,f0,f1,f2,f3,f4,f5,f6,f7,f8,Zaj,Zan,Zam,ZaA,Zaz,Zax,ZaF,Zat,XC]
  exact hO (j:=2) (by decide) rfl rfl
 ·have g1:=fun {σ:Za} {sq:Nat}=>fp l8 8 (by omega) (σ:=σ) (sq:=sq)
  simp only [Xi,if_false,if_true]
  unfold wn at *
  simp -implicitDefEqProofs only [EQA,Zx,Xe,Xc,Xa,Xg,reduceCtorEq,↓reduceIte,Zd,ZfZ,ZeB,Zgf,AVal.cells,a9,a12,a13,a14,a15,a16,a17,a18,a19,a20,a21,a23,a24,hm,w1,w2,w3,w4,w5,w6,f0,f1,f2,f3,f4,f5,f6,f7,f8,g1,Zaj,Zan,Zam,ZaA,Zaz,Zax,ZaF,Zat,XC]
  exact hO (j:=2) (by decide) rfl rfl
 ·have g1:=fun {σ:Za} {sq:Nat}=>fu l8 8 (by omega) (σ:=σ) (sq:=sq)
  simp only [Xi,if_false,if_true]
  unfold wn at *
  simp -implicitDefEqProofs only [EQA,Zx,Xe,Xc,Xa,Xg,reduceCtorEq,↓reduceIte,Zd,ZfZ,ZeB,Zgf,AVal.cells,a9,a12,a13,a14,a15,a16,a17,a18,a19,a20,a21,a22,a23,hm,w1,w2,w3,w4,w5,w6,f0,f1,f2,f3,f4,f5,f6,f7,f8,g1,Zaj,Zan,Zam,ZaA,Zaz,Zax,ZaF,Zat,XC]
  exact hO (j:=2) (by decide) rfl rfl
 ·have g1:=fun {σ:Za} {sq:Nat}=>fu l8 8 (by omega) (σ:=σ) (sq:=sq)
  have g2:=fun {σ:Za} {sq:Nat}=>fp (l8++Du) 9 (by rw [Xk];omega) (σ:=σ) (sq:=sq)
  simp only [if_true]
  unfold wn at *
  simp -implicitDefEqProofs only [EQA,Zx,Xe,Xc,Xa,Xg,reduceCtorEq,↓reduceIte,Zd,ZfZ,ZeB,Zgf,AVal.cells,a9,a12,a13,a14,a15,a16,a17,a18,a19,a20,a21,a22,a23,a24,hm,w1,w2,w3,w4,w5,w6,f0,f1,f2,f3,f4,f5,f6,f7,f8,g1,g2,Zaj,Zan,Zam,ZaA,Zaz,Zax,ZaF,Zat,XC]
  exact hO (j:=2) (by decide) rfl rfl
theorem ZAd:(Zez p).length<=1000000000:=by
 have t0:=Zc9 ZiR
 have t1:=Zc9 p.client
 have t2:=Zc9 p.will.topic
 have t3:=Zc9 p.user
 have d1:=Zkg p.will.data
 have d2:=Zkg p.password
 have y1:=ZdG 1 p.props
 have y2:=ZdG 16 p.will.props
 have n1:=Zbt 1 (Z0 5)
 have n2:=Zbt 1 (Z0 (Zrc p))
 have n3:=Zbt 2 (Z0 p.keep)
 unfold Zez Znl Znb Zmk
 cases p.hasWill <;> cases p.hasUser <;> cases p.hasPassword <;> simp only [Xi,if_false,if_true,Xk] <;> omega
theorem ZIC {σ:Za} {t sq:Nat} (hf:σ[sq]?=some .free) (hs0:σ[t]?=some (.var wn)) :
  Zk E1 BY σ sq 46 1 true [.ref t 0,.agg (Zh p)]=some (.tup [],(σ.set t (.var (wv sq 0 (Zez p).length))).set sq (.row 0 1 ((Zez p).map Zb)),{ any:=true,upd:=[(t,wv sq 0 (Zez p).length)] }) :=
 Zhi (args:=[.agg (Zh p)]) rfl rfl (ZQv p h) (by kernel_rfl) (by rw [XD,Zb6];rfl) (by rw [Xo,Zb8];rfl) hf hs0
end
end
section
def ZkU (p:Zn):Zc:=if p.qos > 0 then (Zaq p.topic).1++beB (Z0 p.id) 2 else (Zaq p.topic).1
def Zmw (p:Zn):Zc:=(ZkU p++(ZbE 3 p.props).1)++p.payload
def ZlZ (p:Zn):Zc:=(beB (Z0 (Zae p.present 1)) 1++beB (Z0 p.code) 1)++(ZbE 2 p.props).1
def ZgD (s:ZbC):Int:=ZD s.qos 3+Zae s.noLocal 4+Zae s.asPublished 8+ZD s.handling 3*16
def Zol (s:ZbC):Zc:=(Zaq s.filter).1++beB (Z0 (ZgD s)) 1
def Zd8 (l:List ZbC):Zc:=(l.map Zol).flatten
def Zen (l:List Zc):Zc:=(l.map fun f=>(Zaq f).1).flatten
def Zes (l:List Int):Zc:=(l.map fun c=>beB (Z0 c) 1).flatten
theorem ZEa (p:Zn) (h:OkW p) (hk:p.type=3):E1 25 [.ref 0 0,Zs p] [.var wn]=some (.tup [],wH 0 (Zmw p)):=by
 have lim:=ZeR
 have t1:=Zc9 p.topic
 have y1:=ZdG 3 p.props
 have n1:=Zbt 2 (Z0 p.id)
 have f0:=fun {σ:Za} {t sq:Nat}=>Zxg p.topic h.topic (σ:=σ) (t:=t) (sq:=sq)
 have pl:=h.payload
 unfold Zmw ZkU
 generalize (Zaq p.topic).1=l0 at *
 have f1:=fun {σ:Za} {sq:Nat}=>Zgp l0 p.id 2 (by omega) (by omega) (m:=2) rfl (by omega) (σ:=σ) 0 2 0 (sq:=sq) (by omega)
 generalize beB (Z0 p.id) 2=D1 at *
 have f2:=fun (l:Zc) (g:Nat) (hl:l.length<=1000000000) {σ:Za} {sq:Nat}=>Zg6 l 3 p.props h.props.1 h.props.2 (by omega) (σ:=σ) 0 2 g (sq:=sq) (by omega)
 generalize (ZbE 3 p.props).1=D2 at *
 have f3:=fun (l:Zc) (g:Nat) (hl:l.length<=2000000000) {σ:Za} {sq:Nat}=>Zi5 l p.payload (by omega) (σ:=σ) 0 2 g (sq:=sq) (by omega)
 have hO:=fun {j g:Nat} {l:Zc} {σ:Za}=>Zek (j:=j) (g:=g) (l:=l) (σ:=σ)
 rw [ZaJ]
 have e0:=ZaT p
 have a0:(Zh p)[0]?=some (.int .i64 p.type):=rfl
 have a2:(Zh p)[2]?=some (.int .i64 p.qos):=rfl
 have a4:(Zh p)[4]?=some (.int .i64 p.id):=rfl
 have a5:(Zh p)[5]?=some (.str p.topic):=rfl
 have a6:(Zh p)[6]?=some (.lst false (p.payload.map Zb)):=rfl
 have a9:(Zh p)[9]?=some (.lst false (p.props.map Zu)):=rfl
 rw [hk] at a0
 clear h hk
 generalize Zh p=P at *
 generalize p.qos=q at *
 generalize p.id=c at *
 generalize p.topic=tp at *
 generalize p.payload=pa at *
 generalize p.props=ps at *
 rw [ZbN (by rfl) ZeC]
 by_cases hq:q > 0
 ·rw [if_pos hq]
  have k1:(l0++D1).length=l0.length+D1.length:=Xk
  have k2:(l0++D1++D2).length=l0.length+D1.length+D2.length:=by rw [Xk,k1]
  have g2:=fun {σ:Za} {sq:Nat}=>f2 (l0++D1) 1 (by omega) (σ:=σ) (sq:=sq)
  have g3:=fun {σ:Za} {sq:Nat}=>f3 (l0++D1++D2) 2 (by omega) (σ:=σ) (sq:=sq)
  clear k1 k2 f2 f3
  unfold wn wT at *
  simp -implicitDefEqProofs only [EQA,Zx,Xe,Xc,Xa,Xg,reduceCtorEq,↓reduceIte,Zd,Zej,ZdC,Zeh,AVal.cells,a0,a2,a4,a5,a6,a9,Xq,hq,f0,f1,g2,g3,Zaj,Zan,Zam,ZaA,Zaz,Zax,ZaF,Zat]
  exact hO (j:=2) (by decide) rfl rfl
 ·rw [if_neg hq]
  have k2:(l0++D2).length=l0.length+D2.length:=Xk
  have g2:=fun {σ:Za} {sq:Nat}=>f2 l0 0 (by omega) (σ:=σ) (sq:=sq)
  have g3:=fun {σ:Za} {sq:Nat}=>f3 (l0++D2) 1 (by omega) (σ:=σ) (sq:=sq)
  clear k2 f2 f3
  unfold wn wT at *
  simp -implicitDefEqProofs only [EQA,Zx,Xe,Xc,Xa,Xg,reduceCtorEq,↓reduceIte,Zd,Zej,ZdC,Zeh,AVal.cells,a0,a2,a5,a6,a9,Xq,hq,f0,g2,g3,Zaj,Zan,Zam,ZaA,Zaz,Zax,ZaF,Zat]
  exact hO (j:=2) (by decide) rfl rfl
theorem ZyQ (p:Zn) (h:OkW p) (hk:p.type=1):E1 25 [.ref 0 0,Zs p] [.var wn]=some (.tup [],wH 0 (Zez p)):=by
 have f0:=fun {σ:Za} {t sq:Nat}=>ZIC p h (σ:=σ) (t:=t) (sq:=sq)
 have hO:=fun {j g:Nat} {l:Zc} {σ:Za}=>Zek (j:=j) (g:=g) (l:=l) (σ:=σ)
 rw [ZaJ]
 generalize Zez p=B at *
 have e0:=ZaT p
 have e1:=Zbe p
 have a0:(Zh p)[0]?=some (.int .i64 p.type):=rfl
 rw [hk] at a0
 generalize Zh p=P at *
 rw [ZbN (by rfl) ZeC]
 unfold wn at *
 simp -implicitDefEqProofs only [EQA,Zx,Xe,Xc,Xf,Xa,Xg,reduceCtorEq,↓reduceIte,Zd,Zej,ZdC,Zeh,AVal.cells,a0,e0,e1,f0]
 exact hO (j:=2) (by decide) rfl rfl
theorem ZPU (p:Zn) (h:OkW p) (hk:p.type=2):E1 25 [.ref 0 0,Zs p] [.var wn]=some (.tup [],wH 0 (ZlZ p)):=by
 have lim:=ZeR
 have y1:=ZdG 2 p.props
 have n1:=Zbt 1 (Z0 p.code)
 have n0:=Zbt 1 (Z0 (Zae p.present 1))
 have hm:=fun b n σ sq own=>ZjQ b n σ sq own
 have f0:=fun {σ:Za} {t sq:Nat}=>Zlv (Zae p.present 1) 1 (by omega) (by omega) (m:=1) rfl (σ:=σ) (t:=t) (sq:=sq)
 unfold ZlZ
 generalize beB (Z0 (Zae p.present 1)) 1=l0 at *
 have f1:=fun {σ:Za} {sq:Nat}=>Zgp l0 p.code 1 (by omega) (by omega) (m:=1) rfl (by omega) (σ:=σ) 0 2 0 (sq:=sq) (by omega)
 generalize beB (Z0 p.code) 1=D1 at *
 have k1:(l0++D1).length=l0.length+D1.length:=Xk
 have f2:=fun {σ:Za} {sq:Nat}=>Zg6 (l0++D1) 2 p.props h.props.1 h.props.2 (by omega) (σ:=σ) 0 2 1 (sq:=sq) (by omega)
 generalize (ZbE 2 p.props).1=D2 at *
 have hO:=fun {j g:Nat} {l:Zc} {σ:Za}=>Zek (j:=j) (g:=g) (l:=l) (σ:=σ)
 rw [ZaJ]
 have e0:=ZaT p
 have a0:(Zh p)[0]?=some (.int .i64 p.type):=rfl
 have a7:(Zh p)[7]?=some (.int .i64 p.code):=rfl
 have a9:(Zh p)[9]?=some (.lst false (p.props.map Zu)):=rfl
 have a25:(Zh p)[25]?=some (.bool p.present):=rfl
 rw [hk] at a0
 clear h hk k1
 generalize Zh p=P at *
 generalize p.code=c at *
 generalize p.present=b at *
 generalize p.props=ps at *
 rw [ZbN (by rfl) ZeC]
 unfold wn at *
 simp -implicitDefEqProofs only [EQA,Zx,Xe,Xc,Xa,Xg,reduceCtorEq,↓reduceIte,Zd,Zej,ZdC,Zeh,AVal.cells,a0,a7,a9,a25,Xq,hm,f0,f1,f2]
 exact hO (j:=2) (by decide) rfl rfl
theorem ZD5 (p:Zn) (h:OkW p) (hk:p.type=4\/p.type=5\/p.type=6\/p.type=7):E1 25 [.ref 0 0,Zs p] [.var wn]=some (.tup [],wH 0 (beB (Z0 p.id) 2++Zcg p)):=by
 have n0:=Zbt 2 (Z0 p.id)
 have f0:=fun {σ:Za} {t sq:Nat}=>Zlv p.id 2 (by omega) (by omega) (m:=2) rfl (σ:=σ) (t:=t) (sq:=sq)
 generalize beB (Z0 p.id) 2=l0 at *
 have f1:=fun {σ:Za} {sq:Nat}=>ZFh p h l0 (by omega) (σ:=σ) 0 2 0 (sq:=sq) (by omega)
 have hO:=fun {j g:Nat} {l:Zc} {σ:Za}=>Zek (j:=j) (g:=g) (l:=l) (σ:=σ)
 rw [ZaJ]
 generalize Zcg p=B at *
 generalize ZfM p=g0 at *
 have e0:=ZaT p
 have e1:=Zbe p
 have a0:(Zh p)[0]?=some (.int .i64 p.type):=rfl
 have a4:(Zh p)[4]?=some (.int .i64 p.id):=rfl
 clear h
 generalize Zh p=P at *
 generalize p.id=c at *
 generalize p.type=ty at *
 rw [ZbN (by rfl) ZeC]
 unfold wn at *
 rcases hk with rfl | rfl | rfl | rfl
 all_goals
  simp -implicitDefEqProofs only [EQA,Zx,Xe,Xc,Xf,Xa,Xg,reduceCtorEq,↓reduceIte,Zd,Zej,ZdC,Zeh,AVal.cells,a0,a4,e0,e1,Xq,f0,f1]
  exact hO (j:=2) (by decide) rfl rfl
theorem ZDN (p:Zn) (h:OkW p) (hb:ZdJ p=none) {σ:Za} {t sq:Nat} (hf:σ[sq]?=some .free) (hs0:σ[t]?=some (.var wn)) :
  Zk E1 BY σ sq 51 1 true [.ref t 0,.agg (Zh p)]=some (.tup [],σ,{ any:=true,upd:=[(t,wn)] }):=by
 have:=Zu8 p h
 rw [hb] at this
 exact Zt6 (args:=[.agg (Zh p)]) this (by kernel_rfl) (by rw [XD,Zb6];rfl) (by rw [Xo,Zb8];rfl) (ff1 hf) hs0
theorem ZIL (p:Zn) (h:OkW p) (hb:ZdJ p≠none) {σ:Za} {t sq:Nat} (hf:σ[sq]?=some .free) (hs0:σ[t]?=some (.var wn)) :
  Zk E1 BY σ sq 51 1 true [.ref t 0,.agg (Zh p)]=some (.tup [],(σ.set t (.var (wv sq 0 (Zcg p).length))).set sq (.row 0 1 ((Zcg p).map Zb)),{ any:=true,upd:=[(t,wv sq 0 (Zcg p).length)] }):=by
 have:=Zu8 p h
 unfold ZdJ at this hb
 by_cases hc:p.code≠0\/p.props≠[]
 ·rw [if_pos hc] at this
  exact Zhi (args:=[.agg (Zh p)]) rfl rfl this (by kernel_rfl) (by rw [XD,Zb6];rfl) (by rw [Xo,Zb8];rfl) hf hs0
 ·rw [if_neg hc] at hb;exact absurd rfl hb
theorem ZIx (p:Zn) (h:OkW p) (hk:p.type=14\/p.type=15):E1 25 [.ref 0 0,Zs p] [.var wn]=some (.tup [],wO (ZdJ p)):=by
 have hO:=fun {j g:Nat} {l:Zc} {σ:Za}=>Zek (j:=j) (g:=g) (l:=l) (σ:=σ)
 have e0:=ZaT p
 have e1:=Zbe p
 have a0:(Zh p)[0]?=some (.int .i64 p.type):=rfl
 by_cases hb:ZdJ p=none
 ·have f1:=fun {σ:Za} {t sq:Nat}=>ZDN p h hb (σ:=σ) (t:=t) (sq:=sq)
  rw [hb,ZaJ]
  clear h hb
  generalize Zh p=P at *
  generalize p.type=ty at *
  rw [ZbN (by rfl) ZeC]
  unfold wO wn at *
  rcases hk with rfl | rfl
  all_goals
   simp -implicitDefEqProofs only [EQA,Zx,ZN,Xe,Xc,Xf,Xa,Xg,reduceCtorEq,↓reduceIte,Zd,Zej,ZdC,Zeh,AVal.cells,a0,e0,e1,Xq,f1]
 ·have f1:=fun {σ:Za} {t sq:Nat}=>ZIL p h hb (σ:=σ) (t:=t) (sq:=sq)
  have hr:ZdJ p=some (Zcg p):=by unfold ZdJ at hb ⊢;split at hb <;> simp_all
  rw [hr,ZaJ]
  clear h hb hr
  generalize Zcg p=B at *
  generalize Zh p=P at *
  generalize p.type=ty at *
  rw [ZbN (by rfl) ZeC]
  unfold wO wn at *
  rcases hk with rfl | rfl
  all_goals
   simp -implicitDefEqProofs only [EQA,Zx,Xe,Xc,Xf,Xa,Xg,reduceCtorEq,↓reduceIte,Zd,Zej,ZdC,Zeh,AVal.cells,a0,e0,e1,Xq,f1]
   exact hO (j:=2) (by decide) rfl rfl
theorem ZK5 (p:Zn) (hk:p.type < 1\/p.type=12\/p.type=13\/15 < p.type):E1 25 [.ref 0 0,Zs p] [.var wn]=some (.tup [],[.var wn]):=by
 have e0:=ZaT p
 have a0:(Zh p)[0]?=some (.int .i64 p.type):=rfl
 have b:∀ n:Int,n=1\/n=2\/n=3\/n=4\/n=5\/n=6\/n=7\/n=8\/n=9\/n=10\/n=11\/n=14\/n=15->(p.type == n)=false:=by
  intro n hn
  have : p.type≠n:=by omega
  simpa using this
 have b1:=b 1 (by simp)
 have b2:=b 2 (by simp)
 have b3:=b 3 (by simp)
 have b4:=b 4 (by simp)
 have b5:=b 5 (by simp)
 have b6:=b 6 (by simp)
 have b7:=b 7 (by simp)
 have b8:=b 8 (by simp)
 have b9:=b 9 (by simp)
 have b10:=b 10 (by simp)
 have b11:=b 11 (by simp)
 have b14:=b 14 (by simp)
 have b15:=b 15 (by simp)
 rw [ZaJ]
 generalize Zh p=P at *
 generalize p.type=ty at *
 rw [ZbN (by rfl) ZeC]
 unfold wn at *
 simp -implicitDefEqProofs only [EQA,Zx,ZN,Xe,Xc,Xa,Xg,reduceCtorEq,↓reduceIte,Zd,Zej,ZdC,Zeh,AVal.cells,a0,b1,b2,b3,b4,b5,b6,b7,b8,b9,b10,b11,b14,b15]
end
section
theorem xw1 (c d:Zf) (h:c=d) (m:Nat) (tm:Tms) (σ:Za):evC FC PR1 BY m c tm σ=evC FC PR1 BY m d tm σ:=by rw [h]
def ZtD:=xw1 Zqg Zlj rfl
def Zul:=xw1 ZnZ Zln rfl
def ZtN:=xw1 Zrb Znd rfl
noncomputable def ZlY (m:Nat) (tm:Tms) (σ:Za):Option (AVal×Za):=(Zav m ZiS (Wd (Za7 0) (Wd (Za7 1) (evL FC PR1 BY m [75,74,73,0] Zqg tm σ))))
noncomputable def ZkQ (m:Nat) (tm:Tms) (σ:Za):Option (AVal×Za):=(Zav m ZiS (Wd (Za7 0) (Wd (Za7 3) (evL FC PR1 BY m [110,109,108,0] ZnZ tm σ))))
noncomputable def ZkA (m:Nat) (tm:Tms) (σ:Za):Option (AVal×Za):=(Zav m ZiS (Wd (Za7 0) (Wd (Za7 5) (evL FC PR1 BY m [127,126,125,0] Zrb tm σ))))
theorem ZiG {a b c d:Nat} {x y z:AVal} (hx:ZI x=true) (hy:ZI y=true) (hz:ZI z=true) (r g:Nat) (hr:r≠0) (l:Zc) (σ:Za) (h0:σ[0]?=some (.var (wv r g l.length))) (h1:σ[r]?=some (.row g 1 (l.map Zb))) :
  gcT 1 [(a,x),(b,y),(c,z),(d,.ref 0 0)] σ=([(a,x),(b,y),(c,z),(d,.ref 0 0)],[.var (wv 1 0 l.length),.row 0 1 (l.map Zb)]):=by
 have d0:σ.getD 0 .free=.var (wv r g l.length):=by simp [Xh,h0]
 have d1:σ.getD r .free=.row g 1 (l.map Zb):=by simp [Xh,h1]
 have ej:([0]:List Nat).contains r=false:=by simp;omega
 have hrf:Zw (wv r g l.length)=[r]:=rfl
 have e1:=fun ρ=>Z4 ρ x hx
 have e2:=fun ρ=>Z4 ρ y hy
 have e3:=fun ρ=>Z4 ρ z hz
 have hv:Zw [x,y,z,.ref 0 0]=[0]:=by
  simp only [Zw,(e1 (fun _ _=>none)).2,(e2 (fun _ _=>none)).2,(e3 (fun _ _=>none)).2];rfl
 have hi:Zy 1 [x,y,z,.ref 0 0] σ=[0,r]:=by
  have hR:X6 1=[0]:=rfl
  have e0:([]:List Nat).contains r=false:=rfl
  simp only [Zy,hv,hR,XH,XX,Xm,d0,ZC,hrf]
  rw [show (1000:Nat)=996+1+1+1+1 from rfl]
  simp only [XU,Xw,Zt,ej,d1,ZC,Xm,Xi,if_false]
  have ej0:([0]:List Nat).contains 0=true:=rfl
  have ejr:([0,r]:List Nat).contains r=true:=by simp
  simp []
 have hρ:Zi σ 1 [0,r] r g=some (1,0):=by
  have : ¬(0:Nat)=r:=fun e=>hr e.symm
  simp [Zi,ZO,Zl,ZF,h1,this]
 have hρ0:Zi σ 1 [0,r] 0 0=some (0,0):=by
  simp [Zi,ZO,Zl,ZF,h0]
 have hren:Zg (Zi σ 1 [0,r]) (wv r g l.length)=wv 1 0 l.length:=by simp only [wv,Zg,Zr,hρ]
 simp only [gcT,gcA,hi,Xo,XA,Zq,d0,d1,ZF,Zl,Zz,hren,Zg,(e1 _).1,(e2 _).1,(e3 _).1,Zr,hρ0]
 simp
theorem Zyo (r:List Zc):(Zen r).length<=r.length*65537:=by
 induction r with
 | nil=>simp [Zen]
 | cons x r ih =>
  have:=Zc9 x
  simp only [Zen,Xo,Wp,Xk,XF] at ih ⊢
  omega
theorem ZIR (r:List Int):(Zes r).length<=r.length:=by
 induction r with
 | nil=>simp [Zes]
 | cons x r ih =>
  have:=Zbt 1 (Z0 x)
  simp only [Zes,Xo,Wp,Xk,XF] at ih ⊢
  omega
theorem ZPA (r:List ZbC):(Zd8 r).length<=r.length*65538:=by
 induction r with
 | nil=>simp [Zd8]
 | cons x r ih =>
  have:=Zc9 x.filter
  have:=Zbt 1 (Z0 (ZgD x))
  simp only [Zd8,Xo,Wp,Xk,XF,Zol] at ih ⊢
  omega
theorem ZtF (fs:List Zc) (hn:fs.length<=1048576) (hx:∀ f ∈ fs,f.length<=9223372036854775807):∀ (r:List Zc) (i:Nat) (l:Zc),fs.drop i=r->l.length+r.length*65537<=1000000000000 ->
  ZkQ 1 [(110,.int .i64 i),(109,.int .i64 fs.length),(108,.lst false (fs.map AVal.str)),(0,.ref 0 0)] [.var (wv 1 0 l.length),.row 0 1 (l.map Zb)]=some (.tup [],wH 0 (l++Zen r))
 | [],i,l,h,hl=>by
  have h1:=Zdy h
  have hO:=fun {j g:Nat} {l:Zc} {σ:Za}=>Zek (j:=j) (g:=g) (l:=l) (σ:=σ)
  have e:l++Zen []=l:=by simp [Zen]
  rw [e]
  unfold ZkQ
  rw [ZL]
  simp -implicitDefEqProofs only [EQA,Zx,Xe,Xc,Xa,reduceCtorEq,↓reduceIte,Zd,Zeh,Zln,Zul,h1]
  exact hO (j:=1) (by decide) rfl rfl
 | x::r,i,l,h,hl=>by
  have hx0:x.length<=9223372036854775807:=hx x (Xz (Zah h).1)
  have t1:=Zc9 x
  have lim:=ZeR
  simp only [XF] at hl
  have ih:=ZtF fs hn hx r (i+1) (l++(Zaq x).1) (Zah h).2.1 (by rw [Xk];omega)
  have h1:(i:Int) < fs.length:=by have:=(Zah h).2.2;omega
  have e1:=iad (Zah h).1 AVal.str (k:=1) rfl
  have e3:=ZcI h1 (by omega)
  have f1:=fun {σ:Za} {sq:Nat}=>Zke l x hx0 (by omega) (σ:=σ) 0 1 0 (sq:=sq) (by omega)
  have e:l++Zen (x::r)=l++(Zaq x).1++Zen r:=by simp [Zen]
  rw [e]
  generalize (Zaq x).1=D at *
  have hG:=fun {a b c d:Nat} {i n:Int} {σ:Za} h0 h1=>ZiG (a:=a) (b:=b) (c:=c) (d:=d) (x:=.int .i64 i) (y:=.int .i64 n) (z:=.lst false (fs.map AVal.str)) rfl rfl rfl 1 1 (by omega) (l++D) σ h0 h1
  unfold ZkQ at ih ⊢
  rw [ZL]
  simp -implicitDefEqProofs only [EQA,ZN,Xe,Xc,Xa,Xg,reduceCtorEq,↓reduceIte,Zln,Zul,AVal.cells,h1,e1,e3,f1,hG]
  exact ih
theorem Zwh (fs:List Int) (hn:fs.length<=1048576):∀ (r:List Int) (i:Nat) (l:Zc),fs.drop i=r->l.length+r.length<=1000000000000 ->
  ZkA 1 [(127,.int .i64 i),(126,.int .i64 fs.length),(125,.lst false (fs.map (AVal.int .i64))),(0,.ref 0 0)] [.var (wv 1 0 l.length),.row 0 1 (l.map Zb)]=some (.tup [],wH 0 (l++Zes r))
 | [],i,l,h,hl=>by
  have h1:=Zdy h
  have hO:=fun {j g:Nat} {l:Zc} {σ:Za}=>Zek (j:=j) (g:=g) (l:=l) (σ:=σ)
  have e:l++Zes []=l:=by simp [Zes]
  rw [e]
  unfold ZkA
  rw [ZL]
  simp -implicitDefEqProofs only [EQA,Zx,Xe,Xc,Xa,reduceCtorEq,↓reduceIte,Zd,Zeh,Znd,ZtN,h1]
  exact hO (j:=1) (by decide) rfl rfl
 | x::r,i,l,h,hl=>by
  have t1:=Zbt 1 (Z0 x)
  have lim:=ZeR
  simp only [XF] at hl
  have ih:=Zwh fs hn r (i+1) (l++beB (Z0 x) 1) (Zah h).2.1 (by rw [Xk];omega)
  have h1:(i:Int) < fs.length:=by have:=(Zah h).2.2;omega
  have e1:=iad (Zah h).1 (AVal.int .i64) (k:=1) rfl
  have e3:=ZcI h1 (by omega)
  have f1:=fun {σ:Za} {sq:Nat}=>Zgp l x 1 (by omega) (by omega) (m:=1) rfl (by omega) (σ:=σ) 0 1 0 (sq:=sq) (by omega)
  have e:l++Zes (x::r)=l++beB (Z0 x) 1++Zes r:=by simp [Zes]
  rw [e]
  generalize beB (Z0 x) 1=D at *
  have hG:=fun {a b c d:Nat} {i n:Int} {σ:Za} h0 h1=>ZiG (a:=a) (b:=b) (c:=c) (d:=d) (x:=.int .i64 i) (y:=.int .i64 n) (z:=.lst false (fs.map (AVal.int .i64))) rfl rfl rfl 1 1 (by omega) (l++D) σ h0 h1
  unfold ZkA at ih ⊢
  rw [ZL]
  simp -implicitDefEqProofs only [EQA,ZN,Xe,Xc,Xa,Xg,reduceCtorEq,↓reduceIte,Znd,ZtN,AVal.cells,h1,e1,e3,f1,hG]
  exact ih
theorem Ztp (fs:List ZbC) (hn:fs.length<=1048576) (hx:∀ f ∈ fs,f.filter.length<=9223372036854775807):∀ (r:List ZbC) (i:Nat) (l:Zc),fs.drop i=r->l.length+r.length*65538<=1000000000000 ->
  ZlY 1 [(75,.int .i64 i),(74,.int .i64 fs.length),(73,.lst false (fs.map Z6)),(0,.ref 0 0)] [.var (wv 1 0 l.length),.row 0 1 (l.map Zb)]=some (.tup [],wH 0 (l++Zd8 r))
 | [],i,l,h,hl=>by
  have h1:=Zdy h
  have hO:=fun {j g:Nat} {l:Zc} {σ:Za}=>Zek (j:=j) (g:=g) (l:=l) (σ:=σ)
  have e:l++Zd8 []=l:=by simp [Zd8]
  rw [e]
  unfold ZlY
  rw [ZL]
  simp -implicitDefEqProofs only [EQA,Zx,Xe,Xc,Xa,reduceCtorEq,↓reduceIte,Zd,Zeh,Zlj,ZtD,h1]
  exact hO (j:=1) (by decide) rfl rfl
 | x::r,i,l,h,hl=>by
  have hx0:x.filter.length<=9223372036854775807:=hx x (Xz (Zah h).1)
  have t1:=Zc9 x.filter
  have t2:=Zbt 1 (Z0 (ZgD x))
  have lim:=ZeR
  simp only [XF] at hl
  have ih:=Ztp fs hn hx r (i+1) (l++(Zaq x.filter).1++beB (Z0 (ZgD x)) 1) (Zah h).2.1 (by rw [Xk,Xk];omega)
  have h1:(i:Int) < fs.length:=by have:=(Zah h).2.2;omega
  have e1:=iad (Zah h).1 Z6 (k:=6) rfl
  have e3:=ZcI h1 (by omega)
  have hm:=fun b n σ sq own=>ZjQ b n σ sq own
  have q1:=ZjM x.qos
  have q2:=ZjM x.handling
  have m1:=Zed x.noLocal 4 (by omega)
  have m2:=Zed x.asPublished 8 (by omega)
  have w1:=Zcv (ZD x.qos 3+Zae x.noLocal 4) (by omega) (by omega)
  have w2:=Zcv (ZD x.qos 3+Zae x.noLocal 4+Zae x.asPublished 8) (by omega) (by omega)
  have w3:=Zcv (ZD x.handling 3*16) (by omega) (by omega)
  have w4:=Zcv (ZD x.qos 3+Zae x.noLocal 4+Zae x.asPublished 8+ZD x.handling 3*16) (by omega) (by omega)
  have f1:=fun {σ:Za} {sq:Nat}=>Zke l x.filter hx0 (by omega) (σ:=σ) 0 1 0 (sq:=sq) (by omega)
  have f2:=fun {σ:Za} {sq:Nat}=>Zgp (l++(Zaq x.filter).1) (ZgD x) 1 (by omega) (by omega) (m:=1) rfl (by rw [Xk];omega) (σ:=σ) 0 1 1 (sq:=sq) (by omega)
  have e:l++Zd8 (x::r)=l++(Zaq x.filter).1++beB (Z0 (ZgD x)) 1++Zd8 r:=by simp [Zd8,Zol]
  rw [e]
  generalize (Zaq x.filter).1=D at *
  generalize beB (Z0 (ZgD x)) 1=D2 at *
  have hG:=fun {a b c d:Nat} {i n:Int} {σ:Za} h0 h1=>ZiG (a:=a) (b:=b) (c:=c) (d:=d) (x:=.int .i64 i) (y:=.int .i64 n) (z:=.lst false (fs.map Z6)) rfl rfl rfl 1 2 (by omega) (l++D++D2) σ h0 h1
  unfold ZgD at f2
  unfold ZlY at ih ⊢
  rw [ZL]
  simp only [Z6,AVal.cells] at e1
  unfold ZD at *
  simp -implicitDefEqProofs only [EQA,ZN,Xe,Xc,Xf,Xa,Xg,reduceCtorEq,↓reduceIte,Zlj,ZtD,AVal.cells,h1,e1,e3,hm,w1,w2,w3,w4,f1,f2,hG,Zaj,Zan,Zam,ZaA,Zaz,Zax,ZaF,Zat,XC]
  exact ih
section
variable (p:Zn) (h:OkW p)
include h
theorem Zm4:(Zb1 p).length<=300000000:=by
 have:=ZdG p.type p.props
 have:=Zbt 2 (Z0 p.id)
 unfold Zb1
 rw [Xk];omega
theorem ZCs (hk:p.type=8):E1 25 [.ref 0 0,Zs p] [.var wn]=some (.tup [],wH 0 (Zb1 p++Zd8 p.subs)):=by
 have hh:=Zm4 p h
 have f0:=fun {σ:Za} {t sq:Nat}=>ZnE p h (σ:=σ) (t:=t) (sq:=sq)
 have hx:=h.subs
 have hL:=Ztp p.subs hx.1 hx.2 p.subs 0 (Zb1 p) rfl (by omega)
 have z:((0:Nat):Int)=0:=rfl
 rw [z] at hL
 unfold ZlY at hL
 have hG:=fun {a b c d:Nat} {i n:Int} {r g:Nat} {σ:Za} hr h0 h1=>ZiG (a:=a) (b:=b) (c:=c) (d:=d) (x:=.int .i64 i) (y:=.int .i64 n) (z:=.lst false (p.subs.map Z6)) rfl rfl rfl r g hr (Zb1 p) σ h0 h1
 have hG2:=fun {a b c d:Nat} {i n:Int} {g:Nat} {σ:Za} h0 h1=>hG (a:=a) (b:=b) (c:=c) (d:=d) (i:=i) (n:=n) (r:=2) (g:=g) (σ:=σ) (by omega) h0 h1
 clear hG
 have hn:(p.subs.map Z6).length=p.subs.length:=by simp
 rw [ZaJ]
 generalize Zb1 p=B at *
 have e0:=ZaT p
 have e1:=Zbe p
 have a0:(Zh p)[0]?=some (.int .i64 p.type):=rfl
 have a10:(Zh p)[10]?=some (.lst false (p.subs.map Z6)):=rfl
 rw [hk] at a0
 clear h hk hx
 generalize Zh p=P at *
 generalize p.subs=ss at *
 rw [ZbN (by rfl) ZeC]
 unfold wn at *
 simp -implicitDefEqProofs only [EQA,ZN,Xe,Xc,Xf,Xa,Xg,reduceCtorEq,↓reduceIte,Zej,ZdC,AVal.cells,a0,a10,e0,e1,hn,Xq,f0]
 exact hL
theorem ZJF (hk:p.type=10):E1 25 [.ref 0 0,Zs p] [.var wn]=some (.tup [],wH 0 (Zb1 p++Zen p.filters)):=by
 have hh:=Zm4 p h
 have f0:=fun {σ:Za} {t sq:Nat}=>ZnE p h (σ:=σ) (t:=t) (sq:=sq)
 have hx:=h.filters
 have hL:=ZtF p.filters hx.1 hx.2 p.filters 0 (Zb1 p) rfl (by omega)
 have z:((0:Nat):Int)=0:=rfl
 rw [z] at hL
 unfold ZkQ at hL
 have hG2:=fun {a b c d:Nat} {i n:Int} {g:Nat} {σ:Za} h0 h1=>ZiG (a:=a) (b:=b) (c:=c) (d:=d) (x:=.int .i64 i) (y:=.int .i64 n) (z:=.lst false (p.filters.map AVal.str)) rfl rfl rfl 2 g (by omega) (Zb1 p) σ h0 h1
 have hn:(p.filters.map AVal.str).length=p.filters.length:=by simp
 rw [ZaJ]
 generalize Zb1 p=B at *
 have e0:=ZaT p
 have e1:=Zbe p
 have a0:(Zh p)[0]?=some (.int .i64 p.type):=rfl
 have a11:(Zh p)[11]?=some (.lst false (p.filters.map AVal.str)):=rfl
 rw [hk] at a0
 clear h hk hx
 generalize Zh p=P at *
 generalize p.filters=ss at *
 rw [ZbN (by rfl) ZeC]
 unfold wn at *
 simp -implicitDefEqProofs only [EQA,ZN,Xe,Xc,Xf,Xa,Xg,reduceCtorEq,↓reduceIte,Zej,ZdC,AVal.cells,a0,a11,e0,e1,hn,Xq,f0]
 exact hL
theorem Zy3 (hk:p.type=9\/p.type=11):E1 25 [.ref 0 0,Zs p] [.var wn]=some (.tup [],wH 0 (Zb1 p++Zes p.codes)):=by
 have hh:=Zm4 p h
 have f0:=fun {σ:Za} {t sq:Nat}=>ZnE p h (σ:=σ) (t:=t) (sq:=sq)
 have hx:=h.codes
 have hL:=Zwh p.codes hx p.codes 0 (Zb1 p) rfl (by omega)
 have z:((0:Nat):Int)=0:=rfl
 rw [z] at hL
 unfold ZkA at hL
 have hG2:=fun {a b c d:Nat} {i n:Int} {g:Nat} {σ:Za} h0 h1=>ZiG (a:=a) (b:=b) (c:=c) (d:=d) (x:=.int .i64 i) (y:=.int .i64 n) (z:=.lst false (p.codes.map (AVal.int .i64))) rfl rfl rfl 2 g (by omega) (Zb1 p) σ h0 h1
 have hn:(p.codes.map (AVal.int .i64)).length=p.codes.length:=by simp
 rw [ZaJ]
 generalize Zb1 p=B at *
 have e0:=ZaT p
 have e1:=Zbe p
 have a0:(Zh p)[0]?=some (.int .i64 p.type):=rfl
 have a8:(Zh p)[8]?=some (.lst false (p.codes.map (AVal.int .i64))):=rfl
 clear h hx
 generalize Zh p=P at *
 generalize p.codes=ss at *
 generalize p.type=ty at *
 rw [ZbN (by rfl) ZeC]
 unfold wn at *
 rcases hk with rfl | rfl
 all_goals
  simp -implicitDefEqProofs only [EQA,ZN,Xe,Xc,Xf,Xa,Xg,reduceCtorEq,↓reduceIte,Zej,ZdC,AVal.cells,a0,a8,e0,e1,hn,Xq,f0]
  exact hL
end
end
section
theorem Zsj (a b:List Int) (h:a.length=b.length) (hl:a.length<=9223372036854775807):∀ (r s:List Int) (i:Nat),a.drop i=r->b.drop i=s->ZlE 0 [(13,.int .i64 i),(12,.int .i64 a.length),(1,.lst false (b.map (AVal.int .i64))),(0,.lst false (a.map (AVal.int .i64)))] []=some (.bool (r == s),[])
 | [],s,i,ha,hb=>by
  have hs:s=[]:=by
   subst hb;rw [X4] at ha ⊢;omega
  subst hs
  have h1:=Zdy ha
  unfold ZlE
  rw [ZL]
  simp -implicitDefEqProofs only [EQA,Xc,Xa,reduceCtorEq,↓reduceIte,Zo4,Zx0,Zq2,ZtE,Zk7,h1]
 | x::r,[],i,ha,hb=>by
  have:=(Zah ha).2.2;rw [X4] at hb;omega
 | x::r,y::s,i,ha,hb=>by
  have ih:=Zsj a b h hl r s (i+1) (Zah ha).2.1 (Zah hb).2.1
  have h1:(i:Int) < a.length:=by have:=(Zah ha).2.2;omega
  have e1:=iad (Zah ha).1 (AVal.int .i64) (k:=1) rfl
  have e2:=iad (Zah hb).1 (AVal.int .i64) (k:=1) rfl
  have e3:=ZcI h1 hl
  unfold ZlE at ih ⊢
  rw [ZL]
  simp -implicitDefEqProofs only [EQA,ZH,ZN,Xc,Xa,Xg,reduceCtorEq,↓reduceIte,gcT,gcA,Zy,Zt,Zq,ZC,Zo4,ZtE,Zk7,h1,e1,e2,e3]
  rw [ih]
  by_cases hx:x=y <;> simp [hx]
theorem ZP6 (a b:List Int) (hl:a.length<=9223372036854775807):E 21 [.lst false (a.map (AVal.int .i64)),.lst false (b.map (AVal.int .i64))] []=some (.bool (a == b),[]):=by
 rw [Zj (by rfl) ZFe]
 by_cases h:a.length=b.length
 ·have:=Zsj a b h hl a b 0 rfl rfl
  unfold ZlE at this
  have e:=Zm1 h
  simp -implicitDefEqProofs only [EQA,ZN,Xc,Xa,reduceCtorEq,↓reduceIte,gcT,gcA,Zy,Zt,Zq,ZC,ZuT,Zl4,e]
  exact this
 ·have e:=Zlt h
  simp -implicitDefEqProofs only [EQA,Xc,Xa,reduceCtorEq,↓reduceIte,ZuT,Zl4,Zo4,e,Zm2 h]
theorem ZCG (σ:Za) (sq own:Nat) (view:Bool) (a b:List Int) (hl:a.length<=9223372036854775807):Zk E BY σ sq 21 own view [.lst false (a.map (AVal.int .i64)),.lst false (b.map (AVal.int .i64))]=some (.bool (a == b),σ,{}) :=
 ZcU (ZP6 a b hl) (by kernel_rfl) (by simp -implicitDefEqProofs only [Zdb,ZbJ,eq_self]) (by simp -implicitDefEqProofs only [ZH,ZbJ,eq_self]) rfl (fun _=>rfl) _ _ _ _
theorem ZvQ (a b:List Zc) (h:a.length=b.length) (hl:a.length<=9223372036854775807):∀ (r s:List Zc) (i:Nat),a.drop i=r->b.drop i=s->Zkq 0 [(13,.int .i64 i),(12,.int .i64 a.length),(1,.lst false (b.map AVal.str)),(0,.lst false (a.map AVal.str))] []=some (.bool (r == s),[])
 | [],s,i,ha,hb=>by
  have hs:s=[]:=by
   subst hb;rw [X4] at ha ⊢;omega
  subst hs
  have h1:=Zdy ha
  unfold Zkq
  rw [ZL]
  simp -implicitDefEqProofs only [EQA,Xc,Xa,reduceCtorEq,↓reduceIte,Zop,ZKX,ZpG,Zsi,Zmn,h1]
 | x::r,[],i,ha,hb=>by
  have:=(Zah ha).2.2;rw [X4] at hb;omega
 | x::r,y::s,i,ha,hb=>by
  have ih:=ZvQ a b h hl r s (i+1) (Zah ha).2.1 (Zah hb).2.1
  have h1:(i:Int) < a.length:=by have:=(Zah ha).2.2;omega
  have e1:=iad (Zah ha).1 AVal.str (k:=1) rfl
  have e2:=iad (Zah hb).1 AVal.str (k:=1) rfl
  have e3:=ZcI h1 hl
  unfold Zkq at ih ⊢
  rw [ZL]
  simp -implicitDefEqProofs only [EQA,ZH,ZN,Xc,Xa,Xg,ZgL,reduceCtorEq,↓reduceIte,gcT,gcA,Zy,Zt,Zq,ZC,Zop,Zsi,Zmn,h1,e1,e2,e3]
  rw [ih]
  by_cases hx:x=y <;> simp [hx]
theorem ZKO (a b:List Zc) (hl:a.length<=9223372036854775807):E 23 [.lst false (a.map AVal.str),.lst false (b.map AVal.str)] []=some (.bool (a == b),[]):=by
 rw [Zj (by rfl) ZLw]
 by_cases h:a.length=b.length
 ·have:=ZvQ a b h hl a b 0 rfl rfl
  unfold Zkq at this
  have e:=Zm1 h
  simp -implicitDefEqProofs only [EQA,ZN,Xc,Xa,reduceCtorEq,↓reduceIte,gcT,gcA,Zy,Zt,Zq,ZC,Ztx,ZkD,e]
  exact this
 ·have e:=Zlt h
  simp -implicitDefEqProofs only [EQA,Xc,Xa,reduceCtorEq,↓reduceIte,Ztx,ZkD,Zop,e,Zm2 h]
theorem ZQd (σ:Za) (sq own:Nat) (view:Bool) (a b:List Zc) (hl:a.length<=9223372036854775807):Zk E BY σ sq 23 own view [.lst false (a.map AVal.str),.lst false (b.map AVal.str)]=some (.bool (a == b),σ,{}) :=
 ZcU (ZKO a b hl) (by kernel_rfl) (by simp -implicitDefEqProofs only [Zdb,ZbJ,eq_self]) (by simp -implicitDefEqProofs only [ZH,ZbJ,eq_self]) rfl (fun _=>rfl) _ _ _ _
theorem ZvJ (a b:List ZbC) (h:a.length=b.length) (hl:a.length<=9223372036854775807):∀ (r s:List ZbC) (i:Nat),a.drop i=r->b.drop i=s->Zly 0 [(13,.int .i64 i),(12,.int .i64 a.length),(1,.lst false (b.map Z6)),(0,.lst false (a.map Z6))] []=some (.bool (r == s),[])
 | [],s,i,ha,hb=>by
  have hs:s=[]:=by
   subst hb;rw [X4] at ha ⊢;omega
  subst hs
  have h1:=Zdy ha
  unfold Zly
  rw [ZL]
  simp -implicitDefEqProofs only [EQA,Xc,Xa,reduceCtorEq,↓reduceIte,Zqs,ZQs,Zox,ZtH,ZmR,h1]
 | x::r,[],i,ha,hb=>by
  have:=(Zah ha).2.2;rw [X4] at hb;omega
 | x::r,y::s,i,ha,hb=>by
  have ih:=ZvJ a b h hl r s (i+1) (Zah ha).2.1 (Zah hb).2.1
  have h1:(i:Int) < a.length:=by have:=(Zah ha).2.2;omega
  have e1:=iad (Zah ha).1 Z6 (k:=6) rfl
  have e2:=iad (Zah hb).1 Z6 (k:=6) rfl
  have e3:=ZcI h1 hl
  unfold Zly at ih ⊢
  rw [ZL]
  obtain ⟨f1,q1,n1,a1,d1,i1⟩:=x
  obtain ⟨f2,q2,n2,a2,d2,i2⟩:=y
  simp only [Z6,AVal.cells] at e1 e2
  have kd:ZfN [2,0,1,1,0,0] [AVal.str f1,.int .i64 q1,.bool n1,.bool a1,.int .i64 d1,.int .i64 i1]=true:=rfl
  have ke:Zfl [AVal.str f1,.int .i64 q1,.bool n1,.bool a1,.int .i64 d1,.int .i64 i1] [AVal.str f2,.int .i64 q2,.bool n2,.bool a2,.int .i64 d2,.int .i64 i2]=some (f1 == f2 && (q1 == q2 && (n1 == n2 && (a1 == a2 && (d1 == d2 && (i1 == i2 && true)))))):=rfl
  have kd2:ZfN [2,0,1,1,0,0] [AVal.str f2,.int .i64 q2,.bool n2,.bool a2,.int .i64 d2,.int .i64 i2]=true:=rfl
  simp -implicitDefEqProofs only [EQA,ZN,Xe,Xc,Xf,Xa,Xg,reduceCtorEq,↓reduceIte,gcT,gcA,Zy,Zt,Zq,ZC,Zqs,ZtH,ZmR,h1,e1,e2,e3,kd,ke]
  rw [ih]
  have hb:((⟨f1,q1,n1,a1,d1,i1⟩:ZbC) == ⟨f2,q2,n2,a2,d2,i2⟩)=(f1 == f2 && (q1 == q2 && (n1 == n2 && (a1 == a2 && (d1 == d2 && (i1 == i2)))))):=by
   rw [Bool.eq_iff_iff];simp
  rw [List.cons_beq_cons,hb]
  cases f1 == f2 <;> cases q1 == q2 <;> cases n1 == n2 <;> cases a1 == a2 <;> cases d1 == d2 <;> cases i1 == i2 <;> rfl
theorem ZEZ (a b:List ZbC) (hl:a.length<=9223372036854775807):E 22 [.lst false (a.map Z6),.lst false (b.map Z6)] []=some (.bool (a == b),[]):=by
 rw [Zj (by rfl) ZCQ]
 by_cases h:a.length=b.length
 ·have:=ZvJ a b h hl a b 0 rfl rfl
  unfold Zly at this
  have e:=Zm1 h
  simp -implicitDefEqProofs only [EQA,ZN,Xc,Xa,reduceCtorEq,↓reduceIte,gcT,gcA,Zy,Zt,Zq,ZC,Ztn,ZmI,e]
  exact this
 ·have e:=Zlt h
  simp -implicitDefEqProofs only [EQA,Xc,Xa,reduceCtorEq,↓reduceIte,Ztn,ZmI,Zqs,e,Zm2 h]
theorem ZMF (σ:Za) (sq own:Nat) (view:Bool) (a b:List ZbC) (hl:a.length<=9223372036854775807):Zk E BY σ sq 22 own view [.lst false (a.map Z6),.lst false (b.map Z6)]=some (.bool (a == b),σ,{}) :=
 ZcU (ZEZ a b hl) (by kernel_rfl) (by simp -implicitDefEqProofs only [Zdb,ZbJ,eq_self]) (by simp -implicitDefEqProofs only [ZH,ZbJ,eq_self]) rfl (fun _=>rfl) _ _ _ _
def Zd7 (a b:Zn):Bool :=
 ((((((((((((a.codes == b.codes && a.subs == b.subs && a.filters == b.filters && a.props == b.props && a.will.props == b.will.props)
  && (a.payload == b.payload && a.password == b.password && a.will.data == b.will.data))
  && (a.will.topic == b.will.topic && a.will.qos == b.will.qos && a.will.retain == b.will.retain))
  && (a.dup == b.dup && a.retain == b.retain && a.clean == b.clean && a.hasWill == b.hasWill && a.hasUser == b.hasUser && a.hasPassword == b.hasPassword && a.present == b.present))
  && a.type == b.type) && a.qos == b.qos) && a.id == b.id) && a.topic == b.topic) && a.code == b.code) && a.keep == b.keep) && a.client == b.client) && a.user == b.user)
theorem Zw7 (a b:Zn):Zd7 a b=true↔a=b:=by
 obtain ⟨a1,a2,a3,a4,a5,a6,a7,a8,a9,a10,a11,a12,a13,a14,a15,a16,⟨a17,a18,a19,a20,a21⟩,a22,a23,a24,a25,a26⟩:=a
 obtain ⟨b1,b2,b3,b4,b5,b6,b7,b8,b9,b10,b11,b12,b13,b14,b15,b16,⟨b17,b18,b19,b20,b21⟩,b22,b23,b24,b25,b26⟩:=b
 simp only [Zd7,Xl,beq_iff_eq,Zn.mk.injEq,Ztz.mk.injEq]
 constructor
 ·rintro ⟨⟨⟨⟨⟨⟨⟨⟨⟨⟨⟨⟨⟨⟨⟨h1,h2⟩,h3⟩,h4⟩,h5⟩,⟨⟨h6,h7⟩,h8⟩⟩,⟨⟨h9,h10⟩,h11⟩⟩,⟨⟨⟨⟨⟨⟨h12,h13⟩,h14⟩,h15⟩,h16⟩,h17⟩,h18⟩⟩,h19⟩,h20⟩,h21⟩,h22⟩,h23⟩,h24⟩,h25⟩,h26⟩
  simp only [h1,h2,h3,h4,h5,h6,h7,h8,h9,h10,h11,h12,h13,h14,h15,h16,h17,h18,h19,h20,h21,h22,h23,h24,h25,h26,and_self]
 ·rintro ⟨h1,h2,h3,h4,h5,h6,h7,h8,h9,h10,h11,h12,h13,h14,h15,h16,⟨h17,h18,h19,h20,h21⟩,h22,h23,h24,h25,h26⟩
  simp only [h1,h2,h3,h4,h5,h6,h7,h8,h9,h10,h11,h12,h13,h14,h15,h16,h17,h18,h19,h20,h21,h22,h23,h24,h25,h26,and_self]
structure OkL (p:Zn):Prop where
 codes:p.codes.length<=9223372036854775807
 props:p.props.length<=9223372036854775807
 subs:p.subs.length<=9223372036854775807
 filters:p.filters.length<=9223372036854775807
 wprops:p.will.props.length<=9223372036854775807
theorem ZPF (a b:Zn) (h:OkL a):E 10 [Zs a,Zs b] []=some (.bool (Zd7 a b),[]):=by
 have h1:=fun σ sq own view=>ZCG σ sq own view a.codes b.codes h.codes
 have h2:=fun σ sq own view=>ZMF σ sq own view a.subs b.subs h.subs
 have h3:=fun σ sq own view=>ZQd σ sq own view a.filters b.filters h.filters
 have h4:=fun σ sq own view=>Zm8 σ sq own view a.props b.props h.props
 have h5:=fun σ sq own view=>Zm8 σ sq own view a.will.props b.will.props h.wprops
 rw [Zj (by rfl) ZEu]
 unfold Zs Zd7
 simp -implicitDefEqProofs only [EQA,ZN,Zdq,Zp4,Xe,Xc,Xa,Xg,ZgL,ZA,Zal,unG,reduceCtorEq,ZM,ite_self,↓reduceIte,ZM6,Zpf,ZFQ,AVal.cells,h1,h2,h3,h4,h5]
theorem ZpP (σ:Za) (sq own:Nat) (view:Bool) (a b:Zn) (h:OkL a):Zk E BY σ sq 10 own view [Zs a,Zs b]=some (.bool (Zd7 a b),σ,{}) :=
 ZcU (ZPF a b h) (by kernel_rfl) rfl rfl rfl (fun _=>rfl) _ _ _ _
end
section
def ZkY:Zf:=(.seq (.region [oI 2 (.mov (.c (.lst true [])))] none [0]) (.seq (.region [oM 3 0,oI 4 (.nilchk (.t 3)),oF 5 0 4,oL 6 5,oM 7 0,oI 8 (.nilchk (.t 7)),oF 9 1 8,oL 10 9,oI 11 (.slice 1 (.t 6) (some (.t 10)) none none),oM 2 11] (some [(3,7)]) [2]) .ret))
def Zq6:ZQ:=⟨[(.tmp 2)],ZkY⟩
theorem Zxo:FC 27=some Zq6:=by kernel_rfl
theorem ZrW:Zq6.body=ZkY:=rfl
theorem ZwZ:Zq6.res=[(.tmp 2)]:=rfl
end
section
theorem ZOG {σ:Za} {t g k n:Nat} {xs:List AVal} (hs:σ[t]?=some (.row g k xs)) (hn:n=xs.length):Zbj σ k (.sl t g 0 n) (some (.int .i64 0)) none none=some (.sl t g 0 n,σ,{ rd:=[t] }):=by
 subst hn
 have he:ZM σ (.sl t g 0 xs.length)=some ((xs.drop 0).take xs.length,[t]):=by simp [ZM,hs]
 simp [Zbj,he,hs,Zbg,Zc7]
theorem ZH5 (σ:Za) (k:Nat):Zbj σ k (.lst true []) (some (.int .i64 0)) none none=some (.lst true [],σ,{}):=by
 simp [Zbj,Zbg,Zc7]
theorem ZQl (l:Zc):E 27 [.ref 0 0] (wH 0 l)=some (.sl 1 0 0 l.length,wH 0 l):=by
 have h1:((l.map Zb).length)=l.length:=by simp
 rw [Zj (by rfl) Zxo]
 unfold wH wv
 have hS:=fun (σ:Za) (hs:σ[1]?=some (.row 0 1 (l.map Zb)))=>ZOG (n:=l.length) hs h1.symm
 simp -implicitDefEqProofs only [EQA,Xe,Xc,Xa,Xg,reduceCtorEq,↓reduceIte,ZrW,ZkY,ZwZ,hS]
 simp [Zak,gcA,Zy,Zt,Zw,Z9,ZC,Zi,ZO,Zl,ZF,Zq,Zg,Zr,Zz,X6,XaR]
theorem ZQf:E 27 [.ref 0 0] [.var wn]=some (.lst true [],[.var wn]):=by
 rw [Zj (by rfl) Zxo]
 unfold wn
 simp -implicitDefEqProofs only [EQA,Zx,ZN,Xc,Xa,Xg,reduceCtorEq,↓reduceIte,Zd,ZrW,ZkY,ZwZ,ZH5]
theorem ZzV (l:Zc):Z2 true 2 (some (.sl 1 0 0 l.length,wH 0 l))=some (.lst false (l.map Zb),[.var (wv 1 0 l.length),.frow 0 1 (l.map Zb)]):=by
 have e1:(0:Nat)+l.length<=(l.map Zb).length:=by simp
 have e2:((l.map Zb).drop 0).take l.length=l.map Zb:=by
  rw [List.drop_zero,<-XW (f:=Zb),Wl]
 simp only [Z2,if_true,Zbw,viewR,ZU,ZP,ZM,wH,XO,XI,e1,e2,and_self,Zp,WP,WO]
 simp [gcA,Zy,Zw,Z9,X6,XaR,ZC,wv,Zt,Zi,ZO,Zq,ZF,Zl,Zz,Zg,Zr]
theorem ZCP (l:Zc) {σ:Za} (t r g:Nat) {sq:Nat} (htr:t≠r) (hs:σ[t]?=some (.var (wv r g l.length))) (hr:σ[r]?=some (.row g 1 (l.map Zb))) :
  Zk E1 BY σ sq 27 0 true [.ref t 0]=some (.lst false (l.map Zb),(σ.set t (.var (wv r g l.length))).set r (.frow g 1 (l.map Zb)),{ any:=true,upd:=[(t,wv r g l.length)] }):=by
 refine ZaD ?_
 have hrf:Zw (wv r g l.length)=[r]:=rfl
 have htl:t < σ.length:=(Xj.1 hs).1
 have hrl:r < σ.length:=(Xj.1 hr).1
 have h1:σ.getD t .free=.var (wv r g l.length):=by simp [Xh,hs]
 have h2:σ.getD r .free=.row g 1 (l.map Zb):=by simp [Xh,hr]
 have hf0:Zp σ []=σ:=rfl
 have hsh:showAs σ [.ref t 0]=some ([.ref t 0],[]):=rfl
 have href:Zw [AVal.ref t 0]=[t]:=rfl
 have hup:Zbd ((σ.set t (.var (wv r g l.length))).set r (.frow g 1 (l.map Zb))) [t,r]=[(t,wv r g l.length)]:=by
  have e1:((σ.set t (.var (wv r g l.length))).set r (.frow g 1 (l.map Zb)))[t]?=some (.var (wv r g l.length)):=by
   rw [Xn (fun e=>htr e.symm),X2 htl]
  have e2:((σ.set t (.var (wv r g l.length))).set r (.frow g 1 (l.map Zb)))[r]?=some (.frow g 1 (l.map Zb)):=by
   rw [X2 (by simpa using hrl)]
  simp only [Zbd,e1,e2]
 unfold Zk ZbW
 rw [show BY 27=false by kernel_rfl]
 simp only [Xi,if_false,hsh,hf0,href,ZoF hs hr htr hrf]
 unfold ZbM
 have hall:([t,r].all fun t=>okB (σ.getD t .free))=true:=by simp only [XD,Wr,h1,h2,okB,Xap]
 rw [if_pos hall]
 have hρt:Zi σ 0 [t,r] t 0=some (0,0):=by simp [Zi,ZO,hs,Zl,ZF]
 have hρr:Zi σ 0 [t,r] r g=some (1,0):=by simp [Zi,ZO,hr,Zl,ZF,htr]
 have hargs:Zg (Zi σ 0 [t,r]) [.ref t 0]=[.ref 0 0]:=by simp only [Zg,Zr,hρt]
 have hren:Zg (Zi σ 0 [t,r]) (wv r g l.length)=wv 1 0 l.length:=by simp only [wv,Zg,Zr,hρr]
 have hheap:Zq σ 0 [t,r] (Zi σ 0 [t,r]) [t,r] 0=wH 0 l:=by
  simp only [Zq,h1,h2,ZF,Zl,Zz,hren,wH]
  simp
 rw [hargs,hheap,ZQl l,show [t,r].length=2 from rfl,ZzV l]
 have hk:ZaY σ [t,r] [.var (wv 1 0 l.length),.frow 0 1 (l.map Zb)] 0=true:=by simp [ZaY,okB,Zb7,Zl,hs,hr]
 have hff:Zba σ sq 0=true:=by simp [Zba]
 have hb3:Zg (ZaC σ [t,r] sq) (wv 1 0 l.length)=wv r g l.length:=by
  have : ZaC σ [t,r] sq 1 0=some (r,g):=by simp only [ZaC,XO,XI,h2,Zl];rfl
  simp only [wv,Zg,Zr,this]
 simp only [ZaH,Wu,Xi,if_false,XF,XJ,XG,Xe,XT,Xx,decide_true,hk,hff,Wg,if_true,Za9,ZaO,Xu,XN,Zca,XI,XO,h2,Zl,Zz,Zr,hb3,hup]
theorem ZI1 {σ:Za} {t sq:Nat} (hs:σ[t]?=some (.var wn)):Zk E1 BY σ sq 27 0 true [.ref t 0]=some (.lst false [],σ,{ any:=true,upd:=[(t,wn)] }):=by
 refine ZaD ?_
 have htl:t < σ.length:=(Xj.1 hs).1
 have h1:σ.getD t .free=.var wn:=by simp [Xh,hs]
 have hf0:Zp σ []=σ:=rfl
 have hsh:showAs σ [.ref t 0]=some ([.ref t 0],[]):=rfl
 have href:Zw [AVal.ref t 0]=[t]:=rfl
 have hre:Zt σ 1000 [t] []=[t]:=by
  have e1:([]:List Nat).contains t=false:=rfl
  rw [show (1000:Nat)=998+1+1 from rfl,Zt,e1]
  simp only [Xi,if_false,h1,ZC]
  rfl
 unfold Zk ZbW
 rw [show BY 27=false by kernel_rfl]
 simp only [Xi,if_false,hsh,hf0,href,hre]
 unfold ZbM
 have hall:([t].all fun t=>okB (σ.getD t .free))=true:=by simp only [XD,Wr,h1,okB,Xap]
 rw [if_pos hall]
 have hρt:Zi σ 0 [t] t 0=some (0,0):=by simp [Zi,ZO,hs,Zl,ZF]
 have hargs:Zg (Zi σ 0 [t]) [.ref t 0]=[.ref 0 0]:=by simp only [Zg,Zr,hρt]
 have hheap:Zq σ 0 [t] (Zi σ 0 [t]) [t] 0=[.var wn]:=by
  simp only [Zq,h1,Zz]
  rfl
 rw [hargs,hheap,ZQf]
 have hv:Z2 true 1 (some (.lst true [],[.var wn]))=some (.lst false [],[.var wn]):=rfl
 rw [show [t].length=1 from rfl,hv]
 have hk:ZaY σ [t] [.var wn] 0=true:=by simp [ZaY,okB,Zb7,Zl,hs]
 have hset:σ.set t (.var wn)=σ:=by
  apply Wt
  intro i
  rw [Xs]
  by_cases e:t=i
  ·subst e;rw [if_pos rfl,if_pos htl,hs]
  ·simp [e]
 have hup:Zbd σ [t]=[(t,wn)]:=by simp only [Zbd,hs]
 have hff:Zba σ sq 0=true:=by simp [Zba]
 have hlay:Za9 σ [t] sq [.var wn] 0 σ=σ:=by
  simp only [Za9,ZaO,Zz,Xu]
  exact hset
 simp only [ZaH,Wu,Xi,if_false,hk,hff,hlay,hup,Zr,XF,XJ,XG,XT,Xx,decide_true,Wg,if_true]
theorem Zut (σ:Za) (sq own:Nat) (f:Bool) (a:Zc) (h:a.length<=140737488355328):Zk E BY σ sq 15 own true [.lst f [.lst false (a.map Zb)]]=some (.lst false (a.map Zb),σ,{}):=by
 have:=Zhl σ sq own f a [] (by simp) (by simpa using h)
 simpa [ZW] using this
theorem Zzh {p:Zn} {l:Zc} (h:E1 25 [.ref 0 0,Zs p] [.var wn]=some (.tup [],wH 0 l)) {σ:Za} {t sq:Nat} (hf:σ[sq]?=some .free) (hs0:σ[t]?=some (.var wn)) :
  Zk E1 BY σ sq 25 1 true [.ref t 0,.agg (Zh p)]=some (.tup [],(σ.set t (.var (wv sq 0 l.length))).set sq (.row 0 1 (l.map Zb)),{ any:=true,upd:=[(t,wv sq 0 l.length)] }) :=
 Zhi (args:=[.agg (Zh p)]) rfl rfl h (by kernel_rfl) (by rw [XD,Zb6];rfl) (by rw [Xo,Zb8];rfl) hf hs0
theorem ZFw {p:Zn} (h:E1 25 [.ref 0 0,Zs p] [.var wn]=some (.tup [],[.var wn])) {σ:Za} {t sq:Nat} (hf:σ[sq]?=some .free) (hs0:σ[t]?=some (.var wn)) :
  Zk E1 BY σ sq 25 1 true [.ref t 0,.agg (Zh p)]=some (.tup [],σ,{ any:=true,upd:=[(t,wn)] }) :=
 Zt6 (args:=[.agg (Zh p)]) h (by kernel_rfl) (by rw [XD,Zb6];rfl) (by rw [Xo,Zb8];rfl) (ff1 hf) hs0
def orU (a b:Int):Int:=IntKind.u8.wrap (XR IntKind.u8.bits a ||| XR IntKind.u8.bits b).toNat
def Zip (t:Int):Int:=orU (IntKind.u8.wrap (IntKind.i64.wrap (t*2 ^ min (Int.toNat 4) IntKind.i64.bits))) (ZeA t)
def ZoO (p:Zn):Int:=IntKind.u8.wrap (Zae p.dup 8+ZD p.qos 3*2+Zae p.retain 1)
def Zcw (p:Zn):Int:=if p.type=3 then orU (Zip 3) (ZoO p) else Zip p.type
theorem ZOA (m:Nat) (h:m < 256):IntKind.u8.wrap (m:Int)=m:=by
 unfold IntKind.wrap IntKind.signed IntKind.bits
 simp
 omega
theorem Zv1 (a b:Int):0<=orU a b/\orU a b < 256:=by
 have h:∀ x y:BitVec 8,(x ||| y).toNat < 256:=fun x y=>(x ||| y).isLt
 have h2:=h (XR 8 a) (XR 8 b)
 unfold orU
 rw [show IntKind.u8.bits=8 from rfl,ZOA _ h2]
 omega
theorem ZqA (p:Zn):0<=Zcw p/\Zcw p < 256:=by
 unfold Zcw
 split
 ·exact Zv1 _ _
 ·exact Zv1 _ _
theorem ZsB (B:Zc):(Zas (B.length:Nat)).2=0↔B.length<=268435455:=by
 unfold Zas
 split
 ·simp only []
  constructor
  ·intro h;simp at h
  ·intro h;omega
 ·simp only [true_iff]
  omega
def Zfz (first:Int) (B:Zc) (c:Int) (s:Bool):AVal :=
 if B.length<=268435455/\c=0/\s=true then .tup [.agg [.int .u8 first,.lst false (B.map Zb)],.int .i64 0] else .tup [.agg [.int .u8 0,.lst true []],.int .i64 129]
section
variable (p q:Zn) (c:Int)
theorem ZOF (B:Zc) (hb:E1 25 [.ref 0 0,Zs p] [.var wn]=some (.tup [],wH 0 B)) (hB:B.length<=140737488355328)
  (hr:∀ σ sq own,Zk E1 BY σ sq 9 own true [.agg [.int .u8 (Zcw p),.lst false (B.map Zb)]]=some (.tup [Zs q,.int .i64 c],σ,{})) (hq:OkL q) :
  E1 13 [Zs p] []=some (Zfz (Zcw p) B c (Zd7 q p),[]):=by
 have fb:=fun {σ:Za} {t sq:Nat}=>Zzh hb (σ:=σ) (t:=t) (sq:=sq)
 have fB:=fun {σ:Za} {sq:Nat}=>ZCP B 2 3 0 (by omega) (σ:=σ) (sq:=sq)
 have fj:=fun σ sq own f=>ZaD (Zut σ sq own f B hB)
 have ff:=fun σ sq own=>ZaD (Zmy p.type σ sq own)
 have fm:=fun b n σ sq own=>ZjQ b n σ sq own
 have fv:=fun σ sq own=>ZaD (ZgB σ sq own (B.length:Nat))
 have fs:=fun σ sq own=>ZaD (ZpP σ sq own true q p hq)
 have hn:(B.map Zb).length=B.length:=by simp
 unfold Zfz
 generalize Zd7 q p=s at *
 rw [ZaJ] at *
 rw [ZaJ] at *
 have e0:=ZaT p
 have e1:=Zbe p
 have a0:(Zh p)[0]?=some (.int .i64 p.type):=rfl
 have a1:(Zh p)[1]?=some (.bool p.dup):=rfl
 have a2:(Zh p)[2]?=some (.int .i64 p.qos):=rfl
 have a3:(Zh p)[3]?=some (.bool p.retain):=rfl
 have d0:=ZaT q
 have d1:=Zbe q
 have oq:(Zh q).all ZS=true:=rfl
 have m1:=Zed p.dup 8 (by omega)
 have m2:=Zed p.retain 1 (by omega)
 have m3:=ZjM p.qos
 have w2:=Zcv (ZD p.qos 3*2) (by omega) (by omega)
 have w3:=Zcv (Zae p.dup 8+ZD p.qos 3*2) (by omega) (by omega)
 have w4:=Zcv (Zae p.dup 8+ZD p.qos 3*2+Zae p.retain 1) (by omega) (by omega)
 clear m1 m2 m3
 unfold Zcw at hr ⊢
 have hv:=ZsB B
 unfold ZeO at fv
 generalize (Zas (B.length:Nat)).1=V at *
 generalize (Zas (B.length:Nat)).2=v at *
 by_cases h3:p.type=3
 ·rw [if_pos h3] at hr ⊢
  rw [h3] at ff a0
  unfold Zip ZoO orU ZD at *
  clear h3
  generalize Zh p=P at *
  generalize Zh q=Q at *
  generalize p.dup=pd at *
  generalize p.qos=pq at *
  generalize p.retain=pr at *
  unfold wn at *
  rw [ZbN (by rfl) ZmY]
  by_cases v0:v=0
  ·have hL:=hv.1 v0
   subst v0
   by_cases c0:c=0
   ·subst c0
    cases s
    ·rw [if_neg (by simp)]
     simp -implicitDefEqProofs only [EQA,Zbl,Zx,Xe,Xc,Xf,Xa,Xg,ZaN,unA,ZA,unG,↓reduceIte,Zd,ZcO,ZcA,ZcV,AVal.cells,a0,a1,a2,a3,e0,e1,d0,d1,oq,Zau,fb,fB,fj,ff,fm,fv,fs,hr,hn,w2,w3,w4,X1,viewAs,ZU,ZP,Zp,Zaj,Zan,Zam,ZaA,Zaz,Zax,ZaF,Zat,XL,XC,bne_self_eq_false]
    ·rw [if_pos ⟨hL,rfl,rfl⟩]
     simp -implicitDefEqProofs only [EQA,Zbl,Zx,Xe,Xc,Xf,Xa,Xg,ZaN,unA,ZA,unG,↓reduceIte,Zd,ZcO,ZcA,ZcV,AVal.cells,a0,a1,a2,a3,e0,e1,d0,d1,oq,Zau,fb,fB,fj,ff,fm,fv,fs,hr,hn,w2,w3,w4,X1,viewAs,ZU,ZP,Zp,Zaj,Zan,Zam,ZaA,Zaz,Zax,ZaF,Zat,XL,XC,bne_self_eq_false]
   ·have c1:(c != 0)=true:=by simpa using c0
    rw [if_neg (fun h=>c0 h.2.1)]
    simp -implicitDefEqProofs only [EQA,Zbl,Zx,Xe,Xc,Xf,Xa,Xg,ZaN,ZA,Zal,unG,reduceCtorEq,↓reduceIte,Zd,ZcO,ZcA,ZcV,AVal.cells,a0,a1,a2,a3,e0,e1,d0,oq,Zau,fb,fB,fj,ff,fm,fv,hr,hn,w2,w3,w4,c1,X1,viewAs,ZU,ZP,Zp,Zaj,Zan,Zam,ZaA,Zaz,Zax,ZaF,Zat,XL,XC,bne_self_eq_false]
  ·have v1:(v != 0)=true:=by simpa using v0
   rw [if_neg (fun h=>v0 (hv.2 h.1))]
   simp -implicitDefEqProofs only [EQA,Zbl,Zx,Xe,Xc,Xf,Xa,Xg,ZaN,ZA,Zal,reduceCtorEq,↓reduceIte,Zd,ZcO,ZcA,ZcV,AVal.cells,a0,a1,a2,a3,e0,e1,d0,oq,Zau,fb,fB,fj,ff,fm,fv,hr,hn,w2,w3,w4,v1,X1,viewAs,ZU,ZP,Zp,Zaj,Zan,Zam,ZaA,Zaz,Zax,ZaF,Zat,XL,XC]
 ·rw [if_neg h3] at hr ⊢
  have h3b:(p.type == 3)=false:=by simpa using h3
  unfold Zip orU at *
  clear h3
  generalize Zh p=P at *
  generalize Zh q=Q at *
  generalize p.dup=pd at *
  generalize p.qos=pq at *
  generalize p.retain=pr at *
  generalize p.type=ty at *
  unfold wn at *
  rw [ZbN (by rfl) ZmY]
  by_cases v0:v=0
  ·have hL:=hv.1 v0
   subst v0
   by_cases c0:c=0
   ·subst c0
    cases s
    ·rw [if_neg (by simp)]
     simp -implicitDefEqProofs only [EQA,Zbl,Zx,Xe,Xc,Xf,Xa,Xg,ZaN,unA,ZA,unG,↓reduceIte,Zd,ZcO,ZcA,ZcV,AVal.cells,a0,e0,e1,d0,d1,oq,Zau,fb,fB,fj,ff,fv,fs,hr,hn,h3b,X1,viewAs,ZU,ZP,Zp,Zaj,Zan,Zam,ZaA,Zaz,Zax,ZaF,Zat,XL,XC,bne_self_eq_false]
    ·rw [if_pos ⟨hL,rfl,rfl⟩]
     simp -implicitDefEqProofs only [EQA,Zbl,Zx,Xe,Xc,Xf,Xa,Xg,ZaN,unA,ZA,unG,↓reduceIte,Zd,ZcO,ZcA,ZcV,AVal.cells,a0,e0,e1,d0,d1,oq,Zau,fb,fB,fj,ff,fv,fs,hr,hn,h3b,X1,viewAs,ZU,ZP,Zp,Zaj,Zan,Zam,ZaA,Zaz,Zax,ZaF,Zat,XL,XC,bne_self_eq_false]
   ·have c1:(c != 0)=true:=by simpa using c0
    rw [if_neg (fun h=>c0 h.2.1)]
    simp -implicitDefEqProofs only [EQA,Zbl,Zx,Xe,Xc,Xf,Xa,Xg,ZaN,ZA,Zal,unG,reduceCtorEq,↓reduceIte,Zd,ZcO,ZcA,ZcV,AVal.cells,a0,e0,e1,d0,oq,Zau,fb,fB,fj,ff,fv,hr,hn,h3b,c1,X1,viewAs,ZU,ZP,Zp,Zaj,Zan,Zam,ZaA,Zaz,Zax,ZaF,Zat,XL,XC,bne_self_eq_false]
  ·have v1:(v != 0)=true:=by simpa using v0
   rw [if_neg (fun h=>v0 (hv.2 h.1))]
   simp -implicitDefEqProofs only [EQA,Zbl,Zx,Xe,Xc,Xf,Xa,Xg,ZaN,ZA,Zal,reduceCtorEq,↓reduceIte,Zd,ZcO,ZcA,ZcV,AVal.cells,a0,e0,e1,d0,oq,Zau,fb,fB,fj,ff,fv,hr,hn,h3b,v1,X1,viewAs,ZU,ZP,Zp,Zaj,Zan,Zam,ZaA,Zaz,Zax,ZaF,Zat,XL,XC]
theorem ZDI (hb:E1 25 [.ref 0 0,Zs p] [.var wn]=some (.tup [],[.var wn]))
  (hr:∀ σ sq own,Zk E1 BY σ sq 9 own true [.agg [.int .u8 (Zcw p),.lst false (([]:Zc).map Zb)]]=some (.tup [Zs q,.int .i64 c],σ,{})) (hq:OkL q) :
  E1 13 [Zs p] []=some (Zfz (Zcw p) [] c (Zd7 q p),[]):=by
 have fb:=fun {σ:Za} {t sq:Nat}=>ZFw hb (σ:=σ) (t:=t) (sq:=sq)
 have fB:=fun {σ:Za} {sq:Nat}=>ZI1 (σ:=σ) (t:=2) (sq:=sq)
 have fj:=fun σ sq own f=>ZaD (Zut σ sq own f [] (by decide))
 have ff:=fun σ sq own=>ZaD (Zmy p.type σ sq own)
 have fm:=fun b n σ sq own=>ZjQ b n σ sq own
 have fv:=fun σ sq own=>ZaD (ZgB σ sq own (([]:Zc).length:Nat))
 have fs:=fun σ sq own=>ZaD (ZpP σ sq own true q p hq)
 have hn:(([]:Zc).map Zb).length=([]:Zc).length:=by simp
 unfold Zfz
 generalize Zd7 q p=s at *
 rw [ZaJ] at *
 rw [ZaJ] at *
 have e0:=ZaT p
 have e1:=Zbe p
 have a0:(Zh p)[0]?=some (.int .i64 p.type):=rfl
 have a1:(Zh p)[1]?=some (.bool p.dup):=rfl
 have a2:(Zh p)[2]?=some (.int .i64 p.qos):=rfl
 have a3:(Zh p)[3]?=some (.bool p.retain):=rfl
 have d0:=ZaT q
 have d1:=Zbe q
 have oq:(Zh q).all ZS=true:=rfl
 have m1:=Zed p.dup 8 (by omega)
 have m2:=Zed p.retain 1 (by omega)
 have m3:=ZjM p.qos
 have w2:=Zcv (ZD p.qos 3*2) (by omega) (by omega)
 have w3:=Zcv (Zae p.dup 8+ZD p.qos 3*2) (by omega) (by omega)
 have w4:=Zcv (Zae p.dup 8+ZD p.qos 3*2+Zae p.retain 1) (by omega) (by omega)
 clear m1 m2 m3
 unfold Zcw at hr ⊢
 have hv:=ZsB []
 unfold ZeO at fv
 generalize (Zas (([]:Zc).length:Nat)).1=V at *
 generalize (Zas (([]:Zc).length:Nat)).2=v at *
 simp only [XA,XJ] at fj hr fv hn hv
 by_cases h3:p.type=3
 ·rw [if_pos h3] at hr ⊢
  rw [h3] at ff a0
  unfold Zip ZoO orU ZD at *
  clear h3
  generalize Zh p=P at *
  generalize Zh q=Q at *
  generalize p.dup=pd at *
  generalize p.qos=pq at *
  generalize p.retain=pr at *
  unfold wn at *
  rw [ZbN (by rfl) ZmY]
  by_cases v0:v=0
  ·have hL:=hv.1 v0
   subst v0
   by_cases c0:c=0
   ·subst c0
    cases s
    ·rw [if_neg (by simp)]
     simp -implicitDefEqProofs only [EQA,Zbl,Zx,Xe,Xc,Xf,Xa,Xg,ZaN,unA,ZA,unG,↓reduceIte,Zd,ZcO,ZcA,ZcV,AVal.cells,a0,a1,a2,a3,e0,e1,d0,d1,oq,Zau,fb,fB,fj,ff,fm,fv,fs,hr,w2,w3,w4,X1,viewAs,ZU,ZP,Zp,Zaj,Zan,Zam,ZaA,Zaz,Zax,ZaF,Zat,XL,XC,bne_self_eq_false]
    ·rw [if_pos ⟨by decide,rfl,rfl⟩]
     simp -implicitDefEqProofs only [EQA,Zbl,Zx,Xe,Xc,Xf,Xa,Xg,ZaN,unA,ZA,unG,↓reduceIte,Zd,ZcO,ZcA,ZcV,AVal.cells,a0,a1,a2,a3,e0,e1,d0,d1,oq,Zau,fb,fB,fj,ff,fm,fv,fs,hr,w2,w3,w4,X1,viewAs,ZU,ZP,Zp,Zaj,Zan,Zam,ZaA,Zaz,Zax,ZaF,Zat,XL,XC,bne_self_eq_false]
   ·have c1:(c != 0)=true:=by simpa using c0
    rw [if_neg (fun h=>c0 h.2.1)]
    simp -implicitDefEqProofs only [EQA,Zbl,Zx,Xe,Xc,Xf,Xa,Xg,ZaN,ZA,Zal,unG,reduceCtorEq,↓reduceIte,Zd,ZcO,ZcA,ZcV,AVal.cells,a0,a1,a2,a3,e0,e1,d0,oq,Zau,fb,fB,fj,ff,fm,fv,hr,w2,w3,w4,c1,X1,viewAs,ZU,ZP,Zp,Zaj,Zan,Zam,ZaA,Zaz,Zax,ZaF,Zat,XL,XC,bne_self_eq_false]
  ·have v1:(v != 0)=true:=by simpa using v0
   rw [if_neg (fun h=>v0 (hv.2 (by decide)))]
   simp -implicitDefEqProofs only [EQA,Zbl,Zx,Xe,Xc,Xf,Xa,Xg,ZaN,ZA,Zal,reduceCtorEq,↓reduceIte,Zd,ZcO,ZcA,ZcV,AVal.cells,a0,a1,a2,a3,e0,e1,d0,oq,Zau,fb,fB,fj,ff,fm,fv,hr,w2,w3,w4,v1,X1,viewAs,ZU,ZP,Zp,Zaj,Zan,Zam,ZaA,Zaz,Zax,ZaF,Zat,XL,XC]
 ·rw [if_neg h3] at hr ⊢
  have h3b:(p.type == 3)=false:=by simpa using h3
  unfold Zip orU at *
  clear h3
  generalize Zh p=P at *
  generalize Zh q=Q at *
  generalize p.dup=pd at *
  generalize p.qos=pq at *
  generalize p.retain=pr at *
  generalize p.type=ty at *
  unfold wn at *
  rw [ZbN (by rfl) ZmY]
  by_cases v0:v=0
  ·have hL:=hv.1 v0
   subst v0
   by_cases c0:c=0
   ·subst c0
    cases s
    ·rw [if_neg (by simp)]
     simp -implicitDefEqProofs only [EQA,Zbl,Zx,Xe,Xc,Xf,Xa,Xg,ZaN,unA,ZA,unG,↓reduceIte,Zd,ZcO,ZcA,ZcV,AVal.cells,a0,e0,e1,d0,d1,oq,Zau,fb,fB,fj,ff,fv,fs,hr,h3b,X1,viewAs,ZU,ZP,Zp,Zaj,Zan,Zam,ZaA,Zaz,Zax,ZaF,Zat,XL,XC,bne_self_eq_false]
    ·rw [if_pos ⟨by decide,rfl,rfl⟩]
     simp -implicitDefEqProofs only [EQA,Zbl,Zx,Xe,Xc,Xf,Xa,Xg,ZaN,unA,ZA,unG,↓reduceIte,Zd,ZcO,ZcA,ZcV,AVal.cells,a0,e0,e1,d0,d1,oq,Zau,fb,fB,fj,ff,fv,fs,hr,h3b,X1,viewAs,ZU,ZP,Zp,Zaj,Zan,Zam,ZaA,Zaz,Zax,ZaF,Zat,XL,XC,bne_self_eq_false]
   ·have c1:(c != 0)=true:=by simpa using c0
    rw [if_neg (fun h=>c0 h.2.1)]
    simp -implicitDefEqProofs only [EQA,Zbl,Zx,Xe,Xc,Xf,Xa,Xg,ZaN,ZA,Zal,unG,reduceCtorEq,↓reduceIte,Zd,ZcO,ZcA,ZcV,AVal.cells,a0,e0,e1,d0,oq,Zau,fb,fB,fj,ff,fv,hr,h3b,c1,X1,viewAs,ZU,ZP,Zp,Zaj,Zan,Zam,ZaA,Zaz,Zax,ZaF,Zat,XL,XC,bne_self_eq_false]
  ·have v1:(v != 0)=true:=by simpa using v0
   rw [if_neg (fun h=>v0 (hv.2 (by decide)))]
   simp -implicitDefEqProofs only [EQA,Zbl,Zx,Xe,Xc,Xf,Xa,Xg,ZaN,ZA,Zal,reduceCtorEq,↓reduceIte,Zd,ZcO,ZcA,ZcV,AVal.cells,a0,e0,e1,d0,oq,Zau,fb,fB,fj,ff,fv,hr,h3b,v1,X1,viewAs,ZU,ZP,Zp,Zaj,Zan,Zam,ZaA,Zaz,Zax,ZaF,Zat,XL,XC]
end
end
section
def Zm5 (x:UInt8) (B:Zc):AVal:=.tup [.agg [Zb x,.lst false (B.map Zb)],.int .i64 0]
def Zmu:AVal:=.tup [.agg [.int .u8 0,.lst false []],.int .i64 129]
theorem ZAC {args:List AVal} {p:Zn} {x:UInt8} {B:Zc} (h:E1 13 [Zs p] []=some (Zfz x.toNat B 0 true,[])) (hB:B.length<=268435455) (hp:args.all Z5=true) (hn:args.map ZK=[Zs p]) (σ:Za) (sq own:Nat) :
  Zk E1 BY σ sq 13 own true args=some (Zm5 x B,σ,{}):=by
 unfold Zfz at h
 rw [if_pos ⟨hB,rfl,rfl⟩] at h
 exact ZbI h (by kernel_rfl) hp hn rfl (fun _=>rfl) σ sq own
theorem ZIK {args:List AVal} {p:Zn} {x c:Int} {B:Zc} {s:Bool} (h:E1 13 [Zs p] []=some (Zfz x B c s,[])) (hB:¬(B.length<=268435455/\c=0/\s=true)) (hp:args.all Z5=true) (hn:args.map ZK=[Zs p]) (σ:Za) (sq own:Nat) :
  Zk E1 BY σ sq 13 own true args=some (Zmu,σ,{}):=by
 unfold Zfz at h
 rw [if_neg hB] at h
 exact ZbI h (by kernel_rfl) hp hn rfl (fun _=>rfl) σ sq own
def ZbS (x:UInt8) (B:Zc):Zc:=x::((Zas B.length).1++B)
theorem ZO3 (σ:Za) (sq own:Nat) (f:Bool) (x:UInt8) (b c:Zc) (h:1+b.length+c.length<=140737488355328):Zk E BY σ sq 15 own true [.lst f [.lst false [Zb x],.lst false (b.map Zb),.lst false (c.map Zb)]]=some (.lst false ((x::(b++c)).map Zb),σ,{}):=by
 have:=Zhl σ sq own f [x] [b,c] (by simp) (by simp;omega)
 simpa only [Xo,XA,ZW,Wp,List.flatten_nil,Xm,XU,Xw] using this
theorem ZLr (p:Zn) (x:UInt8) (B:Zc) (hB:B.length<=268435455) (hF:∀ σ sq own,Zk E1 BY σ sq 13 own true [.agg (Zh p)]=some (Zm5 x B,σ,{})) :
  E1 5 [Zs p] []=some (.tup [.lst false ((ZbS x B).map Zb),.int .i64 0],[]):=by
 have hv:=ZgK (B.length:Nat)
 have fv:=fun σ sq own=>ZaD (ZgB σ sq own (B.length:Nat))
 have fj:=fun σ sq own f=>ZaD (ZO3 σ sq own f x (Zas (B.length:Nat)).1 B (by omega))
 have hn:(B.map Zb).length=B.length:=by simp
 rw [ZaJ]
 have e0:=ZaT p
 have e1:=Zbe p
 unfold ZbS
 unfold ZeO at fv
 unfold Zm5 at hF
 generalize (Zas (B.length:Nat)).1=V at *
 generalize (Zas (B.length:Nat)).2=c at *
 generalize Zh p=P at *
 generalize (x::(V++B)).map Zb=R at *
 generalize hBB:B.map Zb=BB at *
 have bx:Zb x=.int .u8 (x.toNat:Nat):=rfl
 simp only [bx] at fj hF
 rw [ZbN (by rfl) Zsz]
 simp -implicitDefEqProofs only [EQA,Zx,Xe,Xc,Xf,Xa,Xg,↓reduceIte,Zd,ZwO,Zml,Zu3,AVal.cells,e0,e1,hF,fv,fj,hn,bne_self_eq_false,viewAs,ZU,ZP,Zp]
theorem ZKo (p:Zn) (hF:∀ σ sq own,Zk E1 BY σ sq 13 own true [.agg (Zh p)]=some (Zmu,σ,{})) :
  E1 5 [Zs p] []=some (.tup [.lst true [],.int .i64 129],[]):=by
 rw [ZaJ]
 have e0:=ZaT p
 have e1:=Zbe p
 unfold Zmu at hF
 generalize Zh p=P at *
 rw [ZbN (by rfl) Zsz]
 simp -implicitDefEqProofs only [EQA,Zx,Xe,Xc,Xf,Xa,Xg,↓reduceIte,Zd,ZwO,Zml,Zu3,AVal.cells,e0,e1,hF,Int.reduceBNe]
end
section
def ZjF (p:Zn):Option Zc :=
 if p.type=1 then some (Zez p) else if p.type=2 then some (ZlZ p) else if p.type=3 then some (Zmw p)
 else if p.type=4\/p.type=5\/p.type=6\/p.type=7 then some (beB (Z0 p.id) 2++Zcg p)
 else if p.type=8 then some (Zb1 p++Zd8 p.subs) else if p.type=10 then some (Zb1 p++Zen p.filters)
 else if p.type=9\/p.type=11 then some (Zb1 p++Zes p.codes)
 else if p.type=14\/p.type=15 then ZdJ p else none
def Zcu (p:Zn):Zc:=(ZjF p).getD []
theorem ZOs (p:Zn) (h:OkW p):E1 25 [.ref 0 0,Zs p] [.var wn]=some (.tup [],wO (ZjF p)):=by
 unfold ZjF
 by_cases h1:p.type=1
 ·rw [if_pos h1];exact ZyQ p h h1
 rw [if_neg h1]
 by_cases h2:p.type=2
 ·rw [if_pos h2];exact ZPU p h h2
 rw [if_neg h2]
 by_cases h3:p.type=3
 ·rw [if_pos h3];exact ZEa p h h3
 rw [if_neg h3]
 by_cases h4:p.type=4\/p.type=5\/p.type=6\/p.type=7
 ·rw [if_pos h4];exact ZD5 p h h4
 rw [if_neg h4]
 by_cases h8:p.type=8
 ·rw [if_pos h8];exact ZCs p h h8
 rw [if_neg h8]
 by_cases h10:p.type=10
 ·rw [if_pos h10];exact ZJF p h h10
 rw [if_neg h10]
 by_cases h9:p.type=9\/p.type=11
 ·rw [if_pos h9];exact Zy3 p h h9
 rw [if_neg h9]
 by_cases h14:p.type=14\/p.type=15
 ·rw [if_pos h14];exact ZIx p h h14
 rw [if_neg h14]
 exact ZK5 p (by omega)
theorem ZA3 (p:Zn):(Zcg p).length<=300000000:=by
 have h1:=Zbt 1 (Z0 p.code)
 have h2:=ZdG p.type p.props
 unfold Zcg
 repeat' split
 all_goals simp only [Xk,XJ]
 all_goals omega
theorem ZCR (p:Zn) (h:OkW p) (hp:p.payload.length<=1000000):(Zcu p).length<=1000000000000:=by
 have a1:=ZAd p h
 have a2:=ZA3 p
 have a3:=Zbt 2 (Z0 p.id)
 have a4:=Zbt 1 (Z0 p.code)
 have a5:=Zbt 1 (Z0 (Zae p.present 1))
 have a6:=ZdG 2 p.props
 have a7:=ZdG 3 p.props
 have a8:=Zc9 p.topic
 have a9:=Zm4 p h
 have b1:=ZPA p.subs
 have b2:=Zyo p.filters
 have b3:=ZIR p.codes
 have c1:=h.subs.1
 have c2:=h.filters.1
 have c3:=h.codes
 have a10:(ZkU p).length<=70000:=by
  unfold ZkU
  split
  ·rw [Xk];omega
  ·omega
 have a11:((ZdJ p).getD []).length<=300000000:=by
  unfold ZdJ
  split
  ·simpa using a2
  ·simp
 unfold Zcu ZjF
 generalize ZdJ p=ro at *
 repeat' split
 all_goals try simp only [WL,Option.getD_none,Xk,XJ,ZlZ,Zmw]
 all_goals omega
theorem Zhd {w:Int} {b:Zc} {l:List ZB} {r:Zc} (h:ZbY w b=.ok (l,r)):l.length<=268435455:=by
 unfold ZbY at h
 split at h
 ·injection h with h
  injection h with h1 h2
  rw [<-h1];exact ZAm w b
 ·cases h
theorem Zwq {α:Type} {one:Zc->RK α}:∀ {n:Nat} {l:Zc} {ts:List α},Za0 one n l=.ok ts->ts.length<=n
 | 0,l,ts,h=>by
  unfold Za0 at h
  split at h
  ·injection h with h;subst h;simp
  ·cases h
 | n+1,l,ts,h=>by
  unfold Za0 at h
  split at h
  ·injection h with h;subst h;simp
  ·split at h
   ·cases h
   ·split at h
    ·cases h
    ·rename_i t ht
     injection h with h;subst h
     have:=Zwq ht
     simp;omega
theorem ZpY {α:Type} {one:Zc->RK α} {k:Int} {l:Zc} {n:Int} {ps:List ZB} {ts:List α} (h:ZbP one k l=.ok (n,ps,ts)):ps.length<=268435455/\ts.length<=l.length:=by
 unfold ZbP at h
 split at h
 ·cases h
 rename_i n' ps' r hm
 have l1:=ZjX hm
 split at h
 ·cases h
 rename_i us hu
 injection h with h;injection h with e1 h;injection h with e2 e3;subst e1 e2 e3
 have:=Zwq hu
 refine ⟨?_,by omega⟩
 unfold Zd5 at hm
 split at hm
 ·cases hm
 split at hm
 ·cases hm
 rename_i hp
 split at hm
 ·cases hm
 injection hm with hm;injection hm with _ hm;injection hm with e _;subst e
 exact Zhd hp
theorem ZOb {k:Int} {l:Zc} {c:Int} {ps:Option (List ZB)} {r:Zc} (h:Zdm k l=.ok ((c,ps),r)):(ps.getD []).length<=268435455:=by
 unfold Zdm at h
 split at h
 ·injection h with h;injection h with h _;injection h with _ h;subst h;simp
 split at h
 ·cases h
 split at h
 ·injection h with h;injection h with h _;injection h with _ h;subst h;simp
 split at h
 ·cases h
 rename_i hp
 injection h with h;injection h with h _;injection h with _ h;subst h
 exact Zhd hp
theorem ZcY:OkL Za3:=⟨by simp [Za3],by simp [Za3],by simp [Za3],by simp [Za3],by simp [Za3]⟩
theorem Zs6 {q q':Zn} {l r:Zc} (h:OkL q) (e:Zg5 q l=.ok (q',r)):OkL q':=by
 unfold Zg5 at e
 split at e
 ·cases e
 rename_i c ps r' hr
 injection e with e;injection e with e _;subst e
 have:=ZOb hr
 exact ⟨h.codes,by simp only;omega,h.subs,h.filters,h.wprops⟩
theorem ZHc {q q':Zn} {l r:Zc} (h:OkL q) (e:idQ q l=.ok (q',r)):OkL q':=by
 unfold idQ at e
 split at e
 ·cases e
 rename_i n r1 _
 exact Zs6 (q:={ q with id:=n }) ⟨h.codes,h.props,h.subs,h.filters,h.wprops⟩ e
theorem ZF2 {q q':Zn} {l r:Zc} (h:OkL q) (e:Zkc q l=.ok (q',r)):OkL q':=by
 unfold Zkc at e
 split at e
 ·cases e
 split at e
 case isFalse=>cases e
 split at e
 ·cases e
 split at e
 ·cases e
 rename_i hp
 injection e with e;injection e with e _;subst e
 have:=Zhd hp
 exact ⟨h.codes,by simp only;omega,h.subs,h.filters,h.wprops⟩
theorem ZFE {b:Bool} {q q':Zn} {l r:Zc} (h:OkL q) (e:Zi2 b q l=.ok (q',r)):OkL q':=by
 unfold Zi2 at e
 split at e
 ·split at e
  ·cases e
  ·injection e with e;injection e with e _;subst e;exact ⟨h.codes,h.props,h.subs,h.filters,h.wprops⟩
 ·injection e with e;injection e with e _;subst e;exact h
theorem ZLC {b:Bool} {q q':Zn} {l r:Zc} (h:OkL q) (e:Ziz b q l=.ok (q',r)):OkL q':=by
 unfold Ziz at e
 split at e
 ·split at e
  ·cases e
  ·injection e with e;injection e with e _;subst e;exact ⟨h.codes,h.props,h.subs,h.filters,h.wprops⟩
 ·injection e with e;injection e with e _;subst e;exact h
theorem ZHR {b:Bool} {q q':Zn} {l r:Zc} (h:OkL q) (e:ZiJ b q l=.ok (q',r)):OkL q':=by
 unfold ZiJ at e
 split at e
 ·split at e
  ·cases e
  ·rename_i ps tp d r' hw
   injection e with e;injection e with e _;subst e
   refine ⟨h.codes,h.props,h.subs,h.filters,?_⟩
   unfold Zey at hw
   split at hw
   ·cases hw
   rename_i hp
   split at hw
   ·cases hw
   split at hw
   ·cases hw
   injection hw with hw;injection hw with e1 _;subst e1
   have:=Zhd hp
   simp only;omega
 ·injection e with e;injection e with e _;subst e;exact h
theorem ZQh {q:Zn} (h:OkL q) (m k:Int) {ps:List ZB} (cl:Zc) (hp:ps.length<=268435455):OkL (headD (Zos q m) k ps cl):=⟨h.codes,Nat.le_trans hp (by decide),h.subs,h.filters,h.wprops⟩
theorem ZLP {q q':Zn} {l r:Zc} (h:OkL q) (e:Zhe q l=.ok (q',r)):OkL q':=by
 unfold Zhe at e
 split at e
 ·cases e
 split at e
 case isFalse=>cases e
 split at e
 ·cases e
 split at e
 case isFalse=>cases e
 split at e
 ·cases e
 split at e
 case isFalse=>cases e
 unfold Zle at e
 split at e
 ·cases e
 split at e
 ·cases e
 rename_i hp
 split at e
 ·cases e
 unfold ZlX at e
 split at e
 ·cases e
 rename_i hw
 split at e
 ·cases e
 rename_i hu
 exact ZFE (ZLC (ZHR (ZQh h _ _ _ (Zhd hp)) hw) hu) e
theorem Zj4 {x:Except Int (Zn×Zc)} (h:∀ q r,x=.ok (q,r)->OkL q) {q:Zn} (e:Zdj x=.ok q):OkL q:=by
 unfold Zdj at e
 split at e
 ·cases e
 rename_i q' r'
 split at e
 ·injection e with e;subst e;exact h _ _ rfl
 ·cases e
theorem ZB7 {t:Int} {l:Zc} (hl:l.length<=9223372036854775807) {q:Zn} (e:Zh2 t l=.ok q):OkL q:=by
 have h0:∀ k:Int,OkL { Za3 with type:=k }:=fun k=>⟨ZcY.codes,ZcY.props,ZcY.subs,ZcY.filters,ZcY.wprops⟩
 unfold Zh2 at e
 split at e
 ·exact Zj4 (fun _ _ h=>ZLP (h0 1) h) e
 split at e
 ·exact Zj4 (fun _ _ h=>ZF2 (h0 2) h) e
 split at e
 ·exact Zj4 (fun _ _ h=>ZHc (h0 t) h) e
 split at e
 ·unfold ZmU at e
  split at e
  ·cases e
  rename_i hm
  injection e with e;subst e
  have:=ZpY hm
  exact ⟨(h0 8).codes,by simp only;omega,by simp only;omega,(h0 8).filters,(h0 8).wprops⟩
 split at e
 ·unfold ZlU at e
  split at e
  ·cases e
  rename_i hm
  injection e with e;subst e
  have:=ZpY hm
  exact ⟨(h0 8).codes,by simp only;omega,(h0 8).subs,by simp only;omega,(h0 8).wprops⟩
 split at e
 ·unfold Zia at e
  split at e
  ·cases e
  rename_i hm
  injection e with e;subst e
  have:=ZpY hm
  exact ⟨by simp only;omega,by simp only;omega,(h0 8).subs,(h0 8).filters,(h0 8).wprops⟩
 split at e
 ·exact Zj4 (fun _ _ h=>Zs6 (h0 t) h) e
 ·exact Zj4 (fun q r h=>by injection h with h;injection h with h _;subst h;exact h0 t) e
theorem ZEF {qos:Int} {l:Zc} {tp:Zc} {n:Int} {ps:List ZB} {q:Zc} (e:ZeD qos l=.ok (tp,n,ps,q)):ps.length<=268435455:=by
 unfold ZeD at e
 split at e
 ·cases e
 split at e
 ·split at e
  ·cases e
  split at e
  ·cases e
  rename_i hp
  injection e with e;injection e with _ e;injection e with _ e;injection e with e _;subst e
  exact Zhd hp
 ·split at e
  ·cases e
  rename_i hp
  injection e with e;injection e with _ e;injection e with _ e;injection e with e _;subst e
  exact Zhd hp
theorem Zt4 (b:Int) (l:Zc) (hl:l.length<=9223372036854775807):OkL (ZdR b l).1:=by
 unfold ZdR
 split
 ·exact ZcY
 split
 ·unfold Zjl
  split
  ·split
   ·split
    ·exact ZcY
    ·rename_i h
     have:=ZEF h
     exact ⟨ZcY.codes,by simp only;omega,ZcY.subs,ZcY.filters,ZcY.wprops⟩
   ·exact ZcY
  ·exact ZcY
 split
 ·split
  ·exact ZcY
  ·rename_i h
   exact ZB7 hl h
 ·exact ZcY
theorem Zux (p:Zn) (h:OkW p) (hp:p.payload.length<=1000000):E1 13 [Zs p] []=some (Zfz (Zcw p) (Zcu p) (ZdR (Zcw p) (Zcu p)).2 (Zd7 (ZdR (Zcw p) (Zcu p)).1 p),[]):=by
 have hb:=ZOs p h
 have hl:=ZCR p h hp
 have hw:=ZqA p
 unfold Zcu at hl ⊢
 cases hB:ZjF p with
 | none =>
  rw [hB] at hb
  exact ZDI p _ _ hb (fun σ sq own=>Zn8 _ hw [] (by decide) false σ sq own) (Zt4 _ _ (by decide))
 | some B =>
  rw [hB] at hb hl
  simp only [WL] at hl ⊢
  exact ZOF p _ _ B hb (by omega) (fun σ sq own=>Zn8 _ hw B (by omega) false σ sq own) (Zt4 _ _ (by omega))
def ZbA (p:Zn):Prop:=(Zcu p).length<=268435455/\ZdR (Zcw p) (Zcu p)=(p,0)
instance (p:Zn):Decidable (ZbA p):=inferInstanceAs (Decidable (_/\_))
def Zg3 (p:Zn):UInt8:=UInt8.ofNat (Zcw p).toNat
theorem Zu6 (p:Zn):((Zg3 p).toNat:Int)=Zcw p:=by
 have:=ZqA p
 unfold Zg3
 rw [UInt8.toNat_ofNat']
 omega
section
variable (p:Zn) (h:OkW p) (hp:p.payload.length<=1000000)
include h hp
theorem ZwI:ZbA p↔((Zcu p).length<=268435455/\(ZdR (Zcw p) (Zcu p)).2=0/\Zd7 (ZdR (Zcw p) (Zcu p)).1 p=true):=by
 unfold ZbA
 rw [Zw7]
 constructor
 ·rintro ⟨h1,h2⟩
  rw [h2];exact ⟨h1,rfl,rfl⟩
 ·rintro ⟨h1,h2,h3⟩
  exact ⟨h1,Prod.ext h3 h2⟩
theorem ZyG (hg:ZbA p) (args:List AVal) (ha:args.all Z5=true) (hn:args.map ZK=[Zs p]) (σ:Za) (sq own:Nat):Zk E1 BY σ sq 13 own true args=some (Zm5 (Zg3 p) (Zcu p),σ,{}):=by
 have hF:=Zux p h hp
 obtain ⟨h1,h2,h3⟩:=(ZwI p h hp).1 hg
 rw [h2,h3,<-Zu6 p] at hF
 exact ZAC (by rw [hF]) h1 ha hn σ sq own
theorem ZGJ (hg:¬ZbA p) (args:List AVal) (ha:args.all Z5=true) (hn:args.map ZK=[Zs p]) (σ:Za) (sq own:Nat):Zk E1 BY σ sq 13 own true args=some (Zmu,σ,{}) :=
 ZIK (Zux p h hp) (fun e=>hg ((ZwI p h hp).2 e)) ha hn σ sq own
theorem Zl7 (p:Zn):([AVal.agg (Zh p)].all Z5=true)/\[AVal.agg (Zh p)].map ZK=[Zs p]:=⟨by rw [XD,Zb6];rfl,by rw [Xo,Zb8];rfl⟩
def ZV (p:Zn):Zc:=ZbS (Zg3 p) (Zcu p)
theorem ZfP (hg:ZbA p) (args:List AVal) (ha:args.all Z5=true) (hn:args.map ZK=[Zs p]) (σ:Za) (sq own:Nat):Zk E1 BY σ sq 5 own true args=some (.tup [.lst false ((ZV p).map Zb),.int .i64 0],σ,{}) :=
 ZbI (ZLr p (Zg3 p) (Zcu p) hg.1 fun σ sq own=>ZyG p h hp hg _ (Zl7 p h hp p).1 (Zl7 p h hp p).2 σ sq own) (by kernel_rfl) ha hn rfl (fun _=>rfl) σ sq own
theorem Zrk (hg:¬ZbA p) (args:List AVal) (ha:args.all Z5=true) (hn:args.map ZK=[Zs p]) (σ:Za) (sq own:Nat):Zk E1 BY σ sq 5 own true args=some (.tup [.lst false [],.int .i64 129],σ,{}) :=
 ZbI (ZKo p fun σ sq own=>ZGJ p h hp hg _ (Zl7 p h hp p).1 (Zl7 p h hp p).2 σ sq own) (by kernel_rfl) ha hn rfl (fun _=>rfl) σ sq own
end
end
section
theorem ZlL (f:UInt8) (B:Zc):ZbS f B=f::((Zas (B.length:Int)).1++B):=by
 unfold ZbS;simp
theorem ZL8 (n:Nat) (h:n < 268435456):0 < (Zas (n:Int)).1.length:=by
 have h2:=ZsX n [] h
 rcases Nat.eq_zero_or_pos (Zas (n:Int)).1.length with h0 | h0
 ·have : (Zas (n:Int)).1=[]:=List.length_eq_zero_iff.1 h0
  rw [this] at h2
  simp [ZY,gvA] at h2
 ·exact h0
theorem ZQi (most:Int) (f:UInt8) (B r:Zc) (hB:B.length<=268435455):hdF most (ZbS f B++r)=if ((ZbS f B).length:Int) > most then .stop 149 else .one f B (ZbS f B).length:=by
 have hv:=ZL8 B.length (by omega)
 have hg:=ZsX B.length (B++r) (by omega)
 have hlen:(ZbS f B).length=1+(Zas (B.length:Int)).1.length+B.length:=by rw [ZlL];simp;omega
 have hd:(ZbS f B++r).drop 1=(Zas (B.length:Int)).1++(B++r):=by rw [ZlL];simp
 unfold hdF
 rw [if_neg (show ¬(ZbS f B++r).length < 2 by rw [Xk];omega),hd,hg]
 simp only
 rw [if_neg (by decide),if_neg (by decide),<-hlen]
 by_cases hm:((ZbS f B).length:Int) > most
 ·rw [if_pos hm,if_pos hm]
 ·rw [if_neg hm,if_neg hm,if_neg (show ¬(ZbS f B++r).length < (ZbS f B).length by rw [Xk];omega)]
  have ht:(ZbS f B++r).take (ZbS f B).length=ZbS f B:=by rw [List.take_append_of_le_length (Xx _),Wl]
  have hb:(ZbS f B).drop (1+(Zas (B.length:Int)).1.length)=B:=by
   rw [ZlL,Nat.add_comm,List.drop_succ_cons]
   simp
  rw [ht,hb]
  congr 1
def Zhs (most:Int):List (UInt8×Zc)->List (UInt8×Zc)×Bool
 | []=>([],true)
 | x::l=>if ((ZbS x.1 x.2).length:Int) > most then ([],false) else (x::(Zhs most l).1,(Zhs most l).2)
theorem Zsh (most:Int):∀ l:List (UInt8×Zc),(∀ x ∈ l,x.2.length<=268435455)->(Zv most (l.flatMap fun x=>ZbS x.1 x.2)).1=(Zhs most l).1/\(Zv most (l.flatMap fun x=>ZbS x.1 x.2)).2.2=(if (Zhs most l).2 then 0 else 149)
 | [],_=>by rw [XX,ZhQ];exact ⟨rfl,rfl⟩
 | x::l,h=>by
  have ih:=Zsh most l fun y hy=>h y (by simp [hy])
  have hx:=h x (by simp)
  have hf:=ZQi most x.1 x.2 (l.flatMap fun x=>ZbS x.1 x.2) hx
  rw [XH]
  unfold Zhs
  by_cases hm:((ZbS x.1 x.2).length:Int) > most
  ·rw [if_pos hm] at hf ⊢
   rw [Zni hf (by decide)]
   exact ⟨rfl,rfl⟩
  ·rw [if_neg hm] at hf ⊢
   rw [Zkz hf,List.drop_left]
   simp only
   exact ⟨by rw [ih.1],ih.2⟩
end
section
def Zqt:=xw1 Zim Zjk rfl
def ZcZ (p:Zn):UInt8×Zc:=(Zg3 p,Zcu p)
theorem Zwv (ps:List Zn) (hg:∀ p ∈ ps,ZbA p/\OkL p) (hl:ps.length<=9223372036854775807):∀ (r:List Zn) (i:Nat),ps.drop i=r->i<=ps.length ->
  evL FC PR1 BY 0 [19,17,8] Zim [(19,.int .i64 (i:Int)),(17,.lst false (ps.map fun p=>frP (ZcZ p))),(8,.sl 0 0 0 ps.length)] [.row 0 26 (ps.map Zs)] =
   some (.exit 4,[(110,.bool false),(19,.int .i64 (ps.length:Int)),(17,.lst false (ps.map fun p=>frP (ZcZ p))),(8,.sl 0 0 0 ps.length)],[.row 0 26 (ps.map Zs)])
 | [],i,hi,hle=>by
  have : ps.length<=i:=X4.1 hi
  obtain rfl:i=ps.length:=by omega
  have h0:¬(ps.length:Int) < (ps.length:Int):=by omega
  have hL:(ps.map fun p=>frP (ZcZ p)).length=ps.length:=by simp
  generalize (ps.map fun p=>frP (ZcZ p))=F at *
  generalize ps.map Zs=W at *
  rw [ZL]
  simp -implicitDefEqProofs only [EQA,Xc,Xa,↓reduceIte,Zjk,Zqt,h0,hL]
 | p::r,i,hi,hle=>by
  obtain ⟨g1,d1,l1⟩:=Zah hi
  obtain ⟨hgd,hok⟩:=hg p (Xz g1)
  have h0:(i:Int) < (ps.length:Int):=by omega
  have hw:=ZcI (i:=i) h0 hl
  have ih:=Zwv ps hg hl r (i+1) d1 (by omega)
  have ha:=fun σ kk=>iad g1 (fun p=>frP (ZcZ p)) (k:=2) rfl σ false kk
  have hR:=fun σ sq own=>Zn8 (Zcw p) (ZqA p) (Zcu p) (by have:=hgd.1;omega) false σ sq own
  rw [hgd.2,ZaJ,<-Zu6] at hR
  have hS:=fun σ sq own=>ZaD (ZpP σ sq own true p p hok)
  rw [show Zd7 p p=true from (Zw7 p p).2 rfl,ZaJ] at hS
  have hn:=fun σ sq own=>ZaD (ZcC σ sq own 0)
  have hL:(ps.map fun p=>frP (ZcZ p)).length=ps.length:=by simp
  have hWi:(ps.map Zs)[i]?=some (.agg (Zh p)):=by rw [List.getElem?_map,g1];rfl
  have l2:=ZaT p
  have t2:=Zbe p
  have o2:(Zh p).all ZS=true:=rfl
  have hia:∀ {σ:Za} (hs:σ[0]?=some (.row 0 26 (ps.map Zs))),Zcn σ 26 (.sl 0 0 0 ps.length) (.int .i64 (i:Int))=some (.eref 0 0 i 0,σ,{ rd:=[0] }):=by
   intro σ hs
   simp [Zcn,hs,l1]
  have hcell:(frP (ZcZ p)).cells=[.int .u8 ((Zg3 p).toNat:Int),.lst false ((Zcu p).map Zb)]:=rfl
  simp only [hcell] at ha
  generalize (ps.map fun p=>frP (ZcZ p))=F at *
  generalize ps.map Zs=W at *
  generalize (Zcu p).map Zb=B at *
  generalize Zh p=Q at *
  rw [ZL]
  simp -implicitDefEqProofs only [EQA,ZN,ZaI,Xe,Xc,Xf,Xa,Xg,unA,ZA,unG,↓reduceIte,gcT,gcA,Zy,Zt,Zi,Zq,ZO,Zl,ZF,Zz,ZC,Zjk,Zqt,h0,hw,ha,hR,hS,hn,hL,hWi,l2,t2,o2,hia,AVal.cells,bne_self_eq_false]
  all_goals exact ih
end
section
end
section
def ZpC:Zf:=(.seq (.region [oI 1 (.box (.t 0)),oI 2 (.alloc [(.int .i64 0),(.bool false),(.int .i64 0),(.bool false),(.int .i64 0),(.str []),(.lst true []),(.int .i64 0),(.lst true []),(.lst true []),(.lst true []),(.lst true []),(.bool false),(.int .i64 0),(.str []),(.bool false),(.str []),(.lst true []),(.int .i64 0),(.bool false),(.lst true []),(.bool false),(.str []),(.bool false),(.lst true []),(.bool false)])] none [2,1]) (.seq (.seq (.region [oF 3 10 1,oL 4 3,oI 5 (.len (.t 4)),oI 6 (.bin .gtr (.t 5) (.c (.int .i64 8)))] none [6,2,1]) (.cond (.t 6) (.region [oF 7 10 1,oL 8 7,oI 9 (.slice 6 (.t 8) none (some (.c (.int .i64 8))) none),oF 10 10 1,oN (.st 1 (.t 10) (.t 9))] none [2,1]) .skip)) (.seq (.seq (.region [oF 11 11 1,oL 12 11,oI 13 (.len (.t 12)),oI 14 (.bin .gtr (.t 13) (.c (.int .i64 8)))] none [14,2,1]) (.cond (.t 14) (.region [oF 15 11 1,oL 16 15,oI 17 (.slice 1 (.t 16) none (some (.c (.int .i64 8))) none),oF 18 11 1,oN (.st 1 (.t 18) (.t 17))] none [2,1]) .skip)) (.seq (.seq (.region [oF 19 8 1,oL 20 19,oI 21 (.len (.t 20)),oI 22 (.bin .gtr (.t 21) (.c (.int .i64 8)))] none [22,2,1]) (.cond (.t 22) (.region [oF 23 8 1,oL 24 23,oI 25 (.slice 1 (.t 24) none (some (.c (.int .i64 8))) none),oF 26 8 1,oN (.st 1 (.t 26) (.t 25))] none [2,1]) .skip)) (.seq (.seq (.region [oF 27 9 1,oL 28 27,oI 29 (.len (.t 28)),oI 30 (.bin .gtr (.t 29) (.c (.int .i64 12)))] none [30,2,1]) (.cond (.t 30) (.region [oF 31 9 1,oL 32 31,oI 33 (.slice 5 (.t 32) none (some (.c (.int .i64 12))) none),oF 34 9 1,oN (.st 1 (.t 34) (.t 33))] none [2,1]) .skip)) (.seq (.seq (.region [oF 35 16 1,oF 36 4 35,oL 37 36,oI 38 (.len (.t 37)),oI 39 (.bin .gtr (.t 38) (.c (.int .i64 12)))] none [39,2,1]) (.cond (.t 39) (.region [oF 40 16 1,oF 41 4 40,oL 42 41,oI 43 (.slice 5 (.t 42) none (some (.c (.int .i64 12))) none),oF 44 16 1,oF 45 4 44,oN (.st 1 (.t 45) (.t 43))] none [2,1]) .skip)) (.seq (.region [oF 46 6 1,oL 47 46,oI 48 (.call 12 0 true [(.t 47),(.c (.int .i64 600))]),oF 49 24 1,oL 50 49,oI 51 (.call 12 0 true [(.t 50),(.c (.int .i64 100))]),oF 52 16 1,oF 53 1 52,oL 54 53,oI 55 (.call 12 0 true [(.t 54),(.c (.int .i64 100))]),oF 56 6 1,oN (.st 1 (.t 56) (.t 48)),oF 57 24 1,oN (.st 1 (.t 57) (.t 51)),oF 58 16 1,oF 59 1 58,oN (.st 1 (.t 59) (.t 55))] (some [(1,4),(2,4),(1,8),(2,8),(4,8),(5,8)]) [2,1]) (.seq (.region [oI 60 (.ld (some 26) (.t 1)),oN (.st 26 (.t 2) (.t 60))] none [2]) .ret))))))))
def ZoQ:ZQ:=⟨[(.cell 2 (some 26))],ZpC⟩
theorem ZAc:FC 4=some ZoQ:=by kernel_rfl
theorem ZGb:ZoQ.body=ZpC:=rfl
theorem ZBP:ZoQ.res=[(.cell 2 (some 26))]:=rfl
end
section
def p7:Zn:={ Za3 with type:=4,id:=7,code:=16 }
def b7:Zc:=[0,7,16]
end
end Go.Proofs.YteepdofekjheaaaDoor
