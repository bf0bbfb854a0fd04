/- packed -/
import Derived.Test.YtbjflkbenobjjaaDoorMs1
import Derived.Laws.Small
import Derived.Orders
import Derived.LoopN
set_option linter.unusedSimpArgs false
set_option linter.unusedVariables false
open Option.some renaming injEq→Xa
open Prod.mk renaming injEq→Xb
open List renaming getElem?_eq_some_iff→Xc,getD_eq_getElem?_getD→Xd,getElem?_set→Xj,mem_append→Xl,getElem?_eq_getElem→Xm,mem_of_getElem?→Xn,mem_map→Xq,getElem?_set_ne→Xs,mem_cons→Xv,replicate→Xy,getElem?_cons_zero→XB,all_eq_true→XF,getElem?_set_self→XJ,getD_cons_zero→XK,contains_cons→XL,mem_singleton→XM,getElem?_eq_none→XO,mem_filter→X1,contains_nil→X4,getD_cons_succ→X6,getElem?_append_left→Wa,mem_flatMap→Wc,pairwise_cons→Wf,getElem?_append_right→Ws,all_nil→Ww,pairwise_append→WI,drop_eq_nil_of_le→WQ,mem_range→WR,map_congr_left→W3,set_comm→W5,isEmpty_iff→Xaa,isEmpty_nil→Xab,drop_eq_getElem_cons→Xan,getElem_mem→XaA,lookup_cons→XaU,range'→XaW,range'_succ→XbB
open Bool renaming false_eq_true→Xf,and_eq_true→Xh,not_eq_true'→Wb,and_self→Wh,or_eq_true→WM,or_false→Xae,true_or→Xak,or_eq_false_iff→XaQ,or_true→XbF
open Option renaming map_eq_some_iff→Xi,map_some→XQ,getD_some→Wy,getD_none→XaT
open Or renaming inl→Xk,inr→Xp
open Array renaming getElem?_eq_some_iff→Xu,length_toList→XR,getD_eq_getD_getElem?→WU,getD→Xa7,ext'→XbI
open Nat renaming zero_add→Xw,le_refl→XI,add_zero→Wo,add_assoc→WC,sub_self→Xaf,lt_or_ge→Xav
open List.cons renaming injEq→WD
open ByteArray renaming size→WP
namespace Go.Proofs.YtbjflkbenobjjaaDoor
set_option maxHeartbeats 16000000
set_option maxRecDepth 10000
section
open Go.RowKit
section
variable {P:Program} {base:Nat->Prop} {w0 w w':World} {I0 I I':Imm} {β β':Bmap} {σ σ':Za} {tm:Tms}
theorem Zem {α:Type} {x:Option α} {f:α->AVal×Za×Cls} {y:AVal×Za×Cls} (h:x.map f=some y):∃ a,x=some a/\f a=y:=by simpa [Xi] using h
theorem ZEL {t:TypeId} (hu:P.underlying t=some .bool) (p q:Bool) (x y:Operand):(do eqGuard .eql t x y (.bool p) (.bool q);binOp .eql t (.bool p) (.bool q):Sem Value).run P w=.ok (.bool ((p == q) != false)) w:=by
 have h1:(eqGuard .eql t x y (.bool p) (.bool q)).run P w=.ok () w:=by simp [eqGuard]
 simp only [Sem.run_bind,h1,Result.andThen_ok,run_eql_bool w t p q hu]
 cases p <;> cases q <;> rfl
theorem ZtV {t:TypeId} (hu:P.underlying t=some .bool) (p q:Bool) (x y:Operand):(do eqGuard .neq t x y (.bool p) (.bool q);binOp .neq t (.bool p) (.bool q):Sem Value).run P w=.ok (.bool ((p == q) != true)) w:=by
 have h1:(eqGuard .neq t x y (.bool p) (.bool q)).run P w=.ok () w:=by simp [eqGuard]
 have h2:(binOp .neq t (.bool p) (.bool q)).run P w=.ok (.bool (!(p == q))) w:=by
  simp only [binOp,Sem.run_bind,run_equal_bool w t p q hu,Result.andThen_ok,Sem.run_pure]
 simp only [Sem.run_bind,h1,Result.andThen_ok,h2]
 cases p <;> cases q <;> rfl
theorem Zop {t e:TypeId} (hu:P.underlying t=some (.pointer e)) (p q:Option Addr) (hpq:p=none\/q=none):(Op.equal t (.pointer p) (.pointer q)).run P w=.ok (p.isNone && q.isNone) w:=by
 show (Op.equalIn (9999+1) t (.pointer p) (.pointer q)).run P w=_
 unfold Op.equalIn
 rw [Sem.run_bind,run_underlying hu]
 simp only [Result.andThen_ok]
 rcases hpq with rfl | rfl
 ·cases q <;> simp
 ·cases p <;> simp
theorem Zhf {t e:TypeId} (hu:P.underlying t=some (.pointer e)) (p q:Option Addr) (x y:Operand) (hpq:p=none\/q=none):(do eqGuard .eql t x y (.pointer p) (.pointer q);binOp .eql t (.pointer p) (.pointer q):Sem Value).run P w=.ok (.bool ((p.isNone && q.isNone) != false)) w:=by
 have h1:(eqGuard .eql t x y (.pointer p) (.pointer q)).run P w=.ok () w:=by simp [eqGuard]
 simp only [Sem.run_bind,h1,Result.andThen_ok,binOp,Zop hu p q hpq,Sem.run_pure]
 simp
theorem ZgM {t e:TypeId} (hu:P.underlying t=some (.pointer e)) (p q:Option Addr) (x y:Operand) (hpq:p=none\/q=none):(do eqGuard .neq t x y (.pointer p) (.pointer q);binOp .neq t (.pointer p) (.pointer q):Sem Value).run P w=.ok (.bool ((p.isNone && q.isNone) != true)) w:=by
 have h1:(eqGuard .neq t x y (.pointer p) (.pointer q)).run P w=.ok () w:=by simp [eqGuard]
 simp only [Sem.run_bind,h1,Result.andThen_ok,binOp,Zop hu p q hpq,Sem.run_pure]
 simp
theorem ZuH {t:TypeId} {ms} (hu:P.underlying t=some (.interface ms)) (neg:Bool) {op:BinOp} (x:Operand) (vy:Value) (hop:op=(if neg then .neq else .eql)):(do eqGuard op t x (.const vy) .nilIface .nilIface;binOp op t .nilIface .nilIface:Sem Value).run P w=.ok (.bool (true != neg)) w:=by
 have h1:(eqGuard op t x (.const vy) .nilIface .nilIface).run P w=.ok () w:=by subst hop;cases neg <;> simp [eqGuard]
 have h2:(Op.equal t .nilIface .nilIface).run P w=.ok true w:=by
  show (Op.equalIn (9999+1) t .nilIface .nilIface).run P w=_
  unfold Op.equalIn
  rw [Sem.run_bind,run_underlying hu]
  simp only [Result.andThen_ok]
  rfl
 subst hop
 cases neg
 ·simp only [Xf,if_false] at h1 ⊢
  simp [h1,h2,binOp]
 ·simp only [if_true] at h1 ⊢
  simp [h1,h2,binOp]
theorem ZGH {t t1:TypeId} {u:Value} {ms} (hu:P.underlying t=some (.interface ms)) (neg:Bool) {op:BinOp} (x:Operand) (vy:Value) (hop:op=(if neg then .neq else .eql)):(do eqGuard op t x (.const vy) (.iface t1 u) .nilIface;binOp op t (.iface t1 u) .nilIface:Sem Value).run P w=.ok (.bool (false != neg)) w:=by
 have h1:(eqGuard op t x (.const vy) (.iface t1 u) .nilIface).run P w=.ok () w:=by subst hop;cases neg <;> simp [eqGuard]
 have h2:(Op.equal t (.iface t1 u) .nilIface).run P w=.ok false w:=by
  show (Op.equalIn (9999+1) t (.iface t1 u) .nilIface).run P w=_
  unfold Op.equalIn
  rw [Sem.run_bind,run_underlying hu]
  simp only [Result.andThen_ok]
  rfl
 subst hop
 cases neg
 ·simp only [Xf,if_false] at h1 ⊢
  simp [h1,h2,binOp]
 ·simp only [if_true] at h1 ⊢
  simp [h1,h2,binOp]
def OpR (P:Program) (s:Sem Next) (w:World) (base:Nat->Prop) (w0:World) (I0 I:Imm) (β:Bmap) (v:AVal) (σ':Za):Prop :=
 OpOk P s w (Post base w0 I0 I β v σ')\/∃ x,v=.pan x/\OpPan P s w (Post base w0 I0 I β x σ')
theorem OpR.of_call {s:Sem Next} {f:FuncId} {args:Array Value} {v:AVal} (h:s.run P w=.ok (.enter f args) w) (hc:Calls P f args w (fun e w'=>∃ u,Ends v e u/\Post base w0 I0 I β (Zad v) σ' u w')):OpR P s w base w0 I0 I β v σ':=by
 by_cases hp:∃ x,v=.pan x
 ·obtain ⟨x,rfl⟩:=hp
  exact Xp ⟨x,rfl,Xp ⟨f,args,w,h,hc.mono fun e w' ⟨u,h1,h2⟩=>⟨u,h1,h2⟩⟩⟩
 ·have hn:∀ x,v≠.pan x:=fun x e=>hp ⟨x,e⟩
  refine Xk (Xp (Xp ⟨f,args,w,h,hc.mono fun e w' ⟨u,h1,h2⟩=>⟨u,?_,by rw [Ze5 hn] at h2;exact h2⟩⟩))
  cases v <;> first | exact h1 | exact absurd rfl (hn _)
theorem Zx8 {O:Zz} (hO:Z1 P O) {bf:Nat->Bool} {an:Ann} {a:Act} {o:Oper} {own:Nat} {ins:Ins} (x:Operand) (ho:o.op=.move x) (hc:ZC P an own (.move x)=some ins) (T:TR I β tm a.tmps) (R:Rel base w0 I0 I β σ w) (hb:KLt base w0)
  {sq:Nat} (hsite:nsite ins≠0->σ[sq]?=some .free) {v:AVal} {c:Cls} (h:execI O bf tm σ sq ins=some (v,σ',c)):OpOk P (execOp a.eval o) w (Post base w0 I0 I β v σ'):=by
 rw [show execOp a.eval o=(pure (.value (a.eval x)):Sem Next) by unfold execOp;rw [ho]]
 simp only [ZC] at hc
 simp only [Xi] at hc
 obtain ⟨y,hy,rfl⟩:=hc
 simp only [execI,Xa,Xb] at h
 obtain ⟨rfl,rfl,rfl⟩:=h
 exact Xk ⟨_,w,rfl,Post.here R (ZJ T hy)⟩
theorem ZDv {O:Zz} (hO:Z1 P O) {bf:Nat->Bool} {an:Ann} {a:Act} {o:Oper} {own:Nat} {ins:Ins} (x:Operand) (ho:o.op=.assign x) (hc:ZC P an own (.assign x)=some ins) (T:TR I β tm a.tmps) (R:Rel base w0 I0 I β σ w) (hb:KLt base w0)
  {sq:Nat} (hsite:nsite ins≠0->σ[sq]?=some .free) {v:AVal} {c:Cls} (h:execI O bf tm σ sq ins=some (v,σ',c)):OpOk P (execOp a.eval o) w (Post base w0 I0 I β v σ'):=by
 rw [show execOp a.eval o=(pure (.value (a.eval x)):Sem Next) by unfold execOp;rw [ho]]
 simp only [ZC] at hc
 simp only [Xi] at hc
 obtain ⟨y,hy,rfl⟩:=hc
 simp only [execI,Xa,Xb] at h
 obtain ⟨rfl,rfl,rfl⟩:=h
 exact Xk ⟨_,w,rfl,Post.here R (ZJ T hy)⟩
theorem ZHt {O:Zz} (hO:Z1 P O) {bf:Nat->Bool} {an:Ann} {a:Act} {o:Oper} {own:Nat} {ins:Ins} (x:Operand) (y:Operand) (z:Operand) (ho:o.op=.pick x y z) (hc:ZC P an own (.pick x y z)=some ins) (T:TR I β tm a.tmps) (R:Rel base w0 I0 I β σ w) (hb:KLt base w0)
  {sq:Nat} (hsite:nsite ins≠0->σ[sq]?=some .free) {v:AVal} {c:Cls} (h:execI O bf tm σ sq ins=some (v,σ',c)):OpOk P (execOp a.eval o) w (Post base w0 I0 I β v σ'):=by
 rw [show execOp a.eval o=(do pure (.value (if <-asBool (a.eval x) then a.eval y else a.eval z)):Sem Next) by unfold execOp;rw [ho]]
 simp only [ZC] at hc
 split at hc
 ·rename_i c' a' b' hx hy hz
  injection hc with hc;subst hc
  have hx':=ZJ T hx
  simp only [execI] at h
  unfold Zep at h
  split at h
  ·rename_i e
   rw [e] at hx';simp only [VR] at hx'
   simp only [Xa,Xb] at h
   obtain ⟨rfl,rfl,rfl⟩:=h
   exact Xk ⟨_,w,by simp [hx',asBool],Post.here R (ZJ T hy)⟩
  ·rename_i e
   rw [e] at hx';simp only [VR] at hx'
   simp only [Xa,Xb] at h
   obtain ⟨rfl,rfl,rfl⟩:=h
   exact Xk ⟨_,w,by simp [hx',asBool],Post.here R (ZJ T hz)⟩
  ·cases h
 ·cases hc
theorem ZEj {O:Zz} (hO:Z1 P O) {bf:Nat->Bool} {an:Ann} {a:Act} {o:Oper} {own:Nat} {ins:Ins} (e:TypeId) (ho:o.op=.alloc e) (hc:ZC P an own (.alloc e)=some ins) (T:TR I β tm a.tmps) (R:Rel base w0 I0 I β σ w) (hb:KLt base w0)
  {sq:Nat} (hsite:nsite ins≠0->σ[sq]?=some .free) {v:AVal} {c:Cls} (h:execI O bf tm σ sq ins=some (v,σ',c)):OpOk P (execOp a.eval o) w (Post base w0 I0 I β v σ'):=by
 rw [show execOp a.eval o=(do pure (.value (<-Instr.alloc e true (.tuple #[]))):Sem Next) by unfold execOp;rw [ho]]
 simp only [ZC] at hc
 simp only [Xi] at hc
 obtain ⟨z,hz,rfl⟩:=hc
 simp only [execI,Xa,Xb] at h
 obtain ⟨rfl,rfl,rfl⟩:=h
 exact OpOk.val (ZHb R hb hz (hsite (by simp [nsite])))
theorem Zy3 {O:Zz} (hO:Z1 P O) {bf:Nat->Bool} {an:Ann} {a:Act} {o:Oper} {own:Nat} {ins:Ins} (e:TypeId) (x:Operand) (ho:o.op=.box e x) (hc:ZC P an own (.box e x)=some ins) (T:TR I β tm a.tmps) (R:Rel base w0 I0 I β σ w) (hb:KLt base w0)
  {sq:Nat} (hsite:nsite ins≠0->σ[sq]?=some .free) {v:AVal} {c:Cls} (h:execI O bf tm σ sq ins=some (v,σ',c)):OpOk P (execOp a.eval o) w (Post base w0 I0 I β v σ'):=by
 rw [show execOp a.eval o=(do pure (.value (<-Instr.box e (a.eval x))):Sem Next) by unfold execOp;rw [ho]]
 simp only [ZC] at hc
 simp only [Xi] at hc
 obtain ⟨y,hy,hins⟩:=hc
 by_cases h3:own=3
 ·rw [if_pos h3] at hins
  subst hins
  simp only [execI] at h
  split at h
  ·rename_i e6
   simp only [Xa,Xb] at h
   obtain ⟨rfl,rfl,rfl⟩:=h
   have hv:=ZJ T hy
   rw [e6] at hv
   exact OpOk.val (ZwF R hb hv (hsite (by simp [nsite])))
  ·cases h
 rw [if_neg h3] at hins
 by_cases h4:own=4\/own=6
 ·rw [if_pos h4] at hins
  subst hins
  simp only [execI] at h
  split at h
  ·rename_i e6
   split at h
   ·rename_i hf
    simp only [Xa,Xb] at h
    obtain ⟨rfl,rfl,rfl⟩:=h
    have hv:=ZJ T hy
    rw [e6] at hv
    refine OpOk.val (Zsg R hb hv _ (hsite (by simp [nsite])) ?_)
    unfold freeAt at hf
    split at hf
    ·assumption
    ·cases hf
   ·cases h
  ·cases h
 rw [if_neg h4] at hins
 subst hins
 simp only [execI] at h
 split at h
 ·cases h
 ·cases h
 ·cases h
 ·rename_i _ hnt _
  simp only [Xa,Xb] at h
  obtain ⟨rfl,rfl,rfl⟩:=h
  exact OpOk.val (ZAz R hb hnt (ZJ T hy) (hsite (by simp [nsite])))
theorem ZIX {O:Zz} (hO:Z1 P O) {bf:Nat->Bool} {an:Ann} {a:Act} {o:Oper} {own:Nat} {ins:Ins} (t:TypeId) (parts:Array (Nat×Operand)) (ho:o.op=.build t parts) (hc:ZC P an own (.build t parts)=some ins) (T:TR I β tm a.tmps) (R:Rel base w0 I0 I β σ w) (hb:KLt base w0)
  {sq:Nat} (hsite:nsite ins≠0->σ[sq]?=some .free) {v:AVal} {c:Cls} (h:execI O bf tm σ sq ins=some (v,σ',c)):OpOk P (execOp a.eval o) w (Post base w0 I0 I β v σ'):=by
 rw [show execOp a.eval o=(do pure (.value (<-Instr.build t (parts.map fun (i,x)=>(i,a.eval x)))):Sem Next) by unfold execOp;rw [ho]]
 simp only [ZC] at hc
 have hc0:ZC P an own (.build t parts)=some ins:=by simp only [ZC];exact hc
 obtain ⟨zs,ps,rfl⟩:∃ zs ps,ins=.build zs ps:=by
  split at hc
  ·split at hc
   ·simp only [Xi] at hc;obtain ⟨ps,_,rfl⟩:=hc;exact ⟨_,_,rfl⟩
   ·cases hc
  ·split at hc
   ·simp only [Xi] at hc;obtain ⟨ps,_,rfl⟩:=hc;exact ⟨_,_,rfl⟩
   ·cases hc
  ·cases hc
 simp only [execI] at h
 split at h
 ·rename_i cs hf
  simp only [Xa,Xb] at h
  obtain ⟨rfl,rfl,rfl⟩:=h
  obtain ⟨u,h1,h2⟩:=ZtD (w:=w) T hc0 hf
  exact OpOk.val ⟨u,w,h1,Post.here R h2⟩
 ·cases h
theorem ZEK {O:Zz} (hO:Z1 P O) {bf:Nat->Bool} {an:Ann} {a:Act} {o:Oper} {own:Nat} {ins:Ins} (t:TypeId) (n:Nat) (parts:Array (Nat×Operand)) (ho:o.op=.buildSlice t n parts) (hc:ZC P an own (.buildSlice t n parts)=some ins) (T:TR I β tm a.tmps) (R:Rel base w0 I0 I β σ w) (hb:KLt base w0)
  {sq:Nat} (hsite:nsite ins≠0->σ[sq]?=some .free) {v:AVal} {c:Cls} (h:execI O bf tm σ sq ins=some (v,σ',c)):OpOk P (execOp a.eval o) w (Post base w0 I0 I β v σ'):=by
 rw [show execOp a.eval o=(do pure (.value (<-Instr.buildSlice t n (parts.map fun (i,x)=>(i,a.eval x)))):Sem Next) by unfold execOp;rw [ho]]
 simp only [ZC] at hc
 split at hc
 ·rename_i k bytes z he
  split at hc
  ·rename_i hn
   simp only [Xi] at hc
   obtain ⟨ps,hps,rfl⟩:=hc
   split at h
   ·rename_i ho
    exact OpOk.val (Zzh T R hb he hn hps (hsite (by rw [if_pos ho];simp [nsite])) h)
   ·rename_i ho
    exact OpOk.val (ZBB T R hb he hn hps (fun ho'=>hsite (by rw [if_neg ho];simp [nsite,ho'])) h)
  ·cases hc
 ·cases hc
theorem Zsm {O:Zz} (hO:Z1 P O) {bf:Nat->Bool} {an:Ann} {a:Act} {o:Oper} {own:Nat} {ins:Ins} (t:TypeId) (x:Operand) (ho:o.op=.load t x) (hc:ZC P an own (.load t x)=some ins) (T:TR I β tm a.tmps) (R:Rel base w0 I0 I β σ w) (hb:KLt base w0)
  {sq:Nat} (hsite:nsite ins≠0->σ[sq]?=some .free) {v:AVal} {c:Cls} (h:execI O bf tm σ sq ins=some (v,σ',c)):OpOk P (execOp a.eval o) w (Post base w0 I0 I β v σ'):=by
 rw [show execOp a.eval o=(do pure (.value (<-Instr.loadAt t (a.eval x))):Sem Next) by unfold execOp;rw [ho]]
 simp only [ZC] at hc
 split at hc
 ·rename_i k y hk hy
  injection hc with hc;subst hc
  simp only [execI] at h
  obtain ⟨u,h1,h2,rfl⟩:=ZpG hk R (ZJ T hy) h
  exact OpOk.val ⟨u,w,h1,Post.here R h2⟩
 ·cases hc
theorem ZFh {O:Zz} (hO:Z1 P O) {bf:Nat->Bool} {an:Ann} {a:Act} {o:Oper} {own:Nat} {ins:Ins} (t:TypeId) (x:Operand) (y:Operand) (ho:o.op=.store t x y) (hc:ZC P an own (.store t x y)=some ins) (T:TR I β tm a.tmps) (R:Rel base w0 I0 I β σ w) (hb:KLt base w0)
  {sq:Nat} (hsite:nsite ins≠0->σ[sq]?=some .free) {v:AVal} {c:Cls} (h:execI O bf tm σ sq ins=some (v,σ',c)):OpOk P (execOp a.eval o) w (Post base w0 I0 I β v σ'):=by
 rw [show execOp a.eval o=(do Instr.storeAt t (a.eval x) (a.eval y);pure .skip:Sem Next) by unfold execOp;rw [ho]]
 simp only [ZC] at hc
 split at hc
 ·rename_i k x' y' hk hx hy
  injection hc with hc;subst hc
  simp only [execI] at h
  exact OpOk.unit (Zt7 hk R (ZJ T hx) (ZJ T hy) h)
 ·cases hc
theorem Zsq {O:Zz} (hO:Z1 P O) {bf:Nat->Bool} {an:Ann} {a:Act} {o:Oper} {own:Nat} {ins:Ins} (x:Operand) (ho:o.op=.nilCheck x) (hc:ZC P an own (.nilCheck x)=some ins) (T:TR I β tm a.tmps) (R:Rel base w0 I0 I β σ w) (hb:KLt base w0)
  {sq:Nat} (hsite:nsite ins≠0->σ[sq]?=some .free) {v:AVal} {c:Cls} (h:execI O bf tm σ sq ins=some (v,σ',c)):OpOk P (execOp a.eval o) w (Post base w0 I0 I β v σ'):=by
 simp only [ZC] at hc
 simp only [Xi] at hc
 obtain ⟨y,hy,rfl⟩:=hc
 have hx:=ZJ T hy
 have key:∀ ad,a.eval x=.pointer (some ad)->execOp a.eval o=pure (.value (a.eval x)):=by
  intro ad e
  unfold execOp
  rw [ho]
  simp only [e]
 simp only [execI] at h
 split at h
 ·rename_i t' o' e
  simp only [Xa,Xb] at h
  obtain ⟨rfl,rfl,rfl⟩:=h
  rw [e] at hx
  have hx':=hx
  simp only [VR] at hx'
  obtain ⟨b,k,c',_,hp⟩:=hx'
  rw [key _ hp]
  exact Xk ⟨a.eval x,w,rfl,Post.here R hx⟩
 ·rename_i t' g' i' o' e
  simp only [Xa,Xb] at h
  obtain ⟨rfl,rfl,rfl⟩:=h
  rw [e] at hx
  have hx':=hx
  simp only [VR] at hx'
  obtain ⟨b,k,c',_,hp⟩:=hx'
  rw [key _ hp]
  exact Xk ⟨a.eval x,w,rfl,Post.here R hx⟩
 ·rename_i cs o' e
  simp only [Xa,Xb] at h
  obtain ⟨rfl,rfl,rfl⟩:=h
  rw [e] at hx
  have hx':=hx
  simp only [VR] at hx'
  obtain ⟨b,off,hp,_⟩:=hx'
  rw [key _ hp]
  exact Xk ⟨a.eval x,w,rfl,Post.here R hx⟩
 ·rename_i t' j' o' e
  simp only [Xa,Xb] at h
  obtain ⟨rfl,rfl,rfl⟩:=h
  rw [e] at hx
  have hx':=hx
  simp only [VR] at hx'
  obtain ⟨b,k,c',_,hp⟩:=hx'
  rw [key _ hp]
  exact Xk ⟨a.eval x,w,rfl,Post.here R hx⟩
 ·cases h
theorem ZAX {O : Zz} (hO : Z1 P O) {bf : Nat -> Bool} {an : Ann} {a : Act} {o : Oper} {own : Nat} {ins : Ins} (op : BinOp) (t : TypeId) (x : Operand) (y : Operand) (yt : TypeId) (ho : o.op = .binOp op t x y yt) (hc : ZC P an own (.binOp op t x y yt) = some ins) (T : TR I β tm a.tmps) (R : Rel base w0 I0 I β σ w) (hb : KLt base w0)
    {sq : Nat} (hsite : nsite ins ≠ 0 -> σ[sq]? = some .free) {v : AVal} {c : Cls} (h : execI O bf tm σ sq ins = some (v, σ', c)) : OpOk P (execOp a.eval o) w (Post base w0 I0 I β v σ') := by
  rw [show execOp a.eval o = (do pure (.value (<- (do eqGuard op t x y (a.eval x) (a.eval y); binOp op t (a.eval x) (a.eval y)))) : Sem Next) by unfold execOp; rw [ho]]
  simp only [ZC] at hc
  split at hc
  . rename_i x' y' hx hy
    have hx' := ZJ T hx
    have hy' := ZJ T hy
    unfold ZoB at hc
    split at hc
    . injection hc with hc; subst hc
      simp only [execI] at h
      obtain ⟨r, hr, he⟩ := Zem h
      simp only [Xb] at he
      obtain ⟨rfl, rfl, rfl⟩ := he
      obtain ⟨u, h1, h2⟩ := ZrA (P := P) (w := w) (t := t) x y hx' hy' hr
      exact OpOk.val ⟨u, w, h1, Post.here R h2⟩
    . injection hc with hc; subst hc
      simp only [execI] at h
      obtain ⟨r, hr, he⟩ := Zem h
      simp only [Xb] at he
      obtain ⟨rfl, rfl, rfl⟩ := he
      obtain ⟨u, h1, h2⟩ := ZrA (P := P) (w := w) (t := t) x y hx' hy' hr
      exact OpOk.val ⟨u, w, h1, Post.here R h2⟩
    . rename_i hu
      split at hc
      all_goals first
        | (cases hc; done)
        | (injection hc with hc; subst hc
           simp only [execI] at h
           split at h
           . rename_i p q e1 e2
             rw [e1] at hx'; rw [e2] at hy'
             simp only [VR] at hx' hy'
             simp only [Xa, Xb] at h
             obtain ⟨rfl, rfl, rfl⟩ := h
             refine OpOk.val ⟨_, w, ?_, Post.here R (by simp only [VR]; rfl)⟩
             rw [hx', hy']
             first | exact ZEL hu p q x y | exact ZtV hu p q x y
           . cases h)
    . rename_i elem hu
      split at hc
      all_goals first
        | (cases hc; done)
        | (injection hc with hc; subst hc
           simp only [execI] at h
           split at h
           . rename_i e1 e2
             rw [e1] at hx'; rw [e2] at hy'
             simp only [VR] at hx' hy'
             simp only [Xa, Xb] at h
             obtain ⟨rfl, rfl, rfl⟩ := h
             refine OpOk.val ⟨_, w, ?_, Post.here R (by simp only [VR]; rfl)⟩
             rw [hx', hy']
             first | exact Zhf hu _ _ x y (by simp) | exact ZgM hu _ _ x y (by simp)
           . rename_i t1 o1 e1 e2
             rw [e1] at hx'; rw [e2] at hy'
             simp only [VR] at hx' hy'
             obtain ⟨b, k, c', _, hy'⟩ := hy'
             simp only [Xa, Xb] at h
             obtain ⟨rfl, rfl, rfl⟩ := h
             refine OpOk.val ⟨_, w, ?_, Post.here R (by simp only [VR]; rfl)⟩
             rw [hx', hy']
             first | exact Zhf hu _ _ x y (by simp) | exact ZgM hu _ _ x y (by simp)
           . rename_i t1 o1 e1 e2
             rw [e1] at hx'; rw [e2] at hy'
             simp only [VR] at hx' hy'
             obtain ⟨b, k, c', _, hx'⟩ := hx'
             simp only [Xa, Xb] at h
             obtain ⟨rfl, rfl, rfl⟩ := h
             refine OpOk.val ⟨_, w, ?_, Post.here R (by simp only [VR]; rfl)⟩
             rw [hx', hy']
             first | exact Zhf hu _ _ x y (by simp) | exact ZgM hu _ _ x y (by simp)
           . rename_i t1 j1 o1 e1 e2
             rw [e1] at hx'; rw [e2] at hy'
             simp only [VR] at hx' hy'
             obtain ⟨b, k, c', _, hy'⟩ := hy'
             simp only [Xa, Xb] at h
             obtain ⟨rfl, rfl, rfl⟩ := h
             refine OpOk.val ⟨_, w, ?_, Post.here R (by simp only [VR]; rfl)⟩
             rw [hx', hy']
             first | exact Zhf hu _ _ x y (by simp) | exact ZgM hu _ _ x y (by simp)
           . rename_i t1 j1 o1 e1 e2
             rw [e1] at hx'; rw [e2] at hy'
             simp only [VR] at hx' hy'
             obtain ⟨b, k, c', _, hx'⟩ := hx'
             simp only [Xa, Xb] at h
             obtain ⟨rfl, rfl, rfl⟩ := h
             refine OpOk.val ⟨_, w, ?_, Post.here R (by simp only [VR]; rfl)⟩
             rw [hx', hy']
             first | exact Zhf hu _ _ x y (by simp) | exact ZgM hu _ _ x y (by simp)
           . cases h)
    . rename_i fs hu
      split at hc
      case isFalse => cases hc
      rename_i hfl
      have fin : ∀ (neg : Bool), op = (if neg then .neq else .eql) -> execI O bf tm σ sq (.eqv neg (fs.toList.map fun f => (Zel P f.type).getD 3) x' y') = some (v, σ', c) -> OpOk P (do pure (.value (<- (do eqGuard op t x y (a.eval x) (a.eval y); binOp op t (a.eval x) (a.eval y))))) w (Post base w0 I0 I β v σ') := by
        intro neg hop h
        simp only [execI] at h
        split at h
        . rename_i xs ys e1 e2
          rw [e1] at hx'; rw [e2] at hy'
          simp only [VR] at hx' hy'
          obtain ⟨us, hx1, hx2⟩ := hx'
          obtain ⟨vs, hy1, hy2⟩ := hy'
          split at h
          case isFalse => cases h
          rename_i hk
          split at h
          . rename_i b hb'
            simp only [Xa, Xb] at h
            obtain ⟨rfl, rfl, rfl⟩ := h
            refine OpOk.val ⟨_, w, ?_, Post.here R (by simp only [VR]; rfl)⟩
            rw [hx1, hy1]
            exact Zsw hu hfl hx2 hy2 (Zqs hk) hb' neg hop x y
          . cases h
        . cases h
      split at hc
      . injection hc with hc; subst hc; exact fin false rfl h
      . injection hc with hc; subst hc; exact fin true rfl h
      . cases hc
    . rename_i ms hu
      have fin : ∀ (neg : Bool), y' = .c .nili -> op = (if neg then .neq else .eql) -> execI O bf tm σ sq (.ieq neg x' y') = some (v, σ', c) -> OpOk P (do pure (.value (<- (do eqGuard op t x y (a.eval x) (a.eval y); binOp op t (a.eval x) (a.eval y))))) w (Post base w0 I0 I β v σ') := by
        intro neg hy0 hop h
        subst hy0
        obtain ⟨vy, rfl⟩ : ∃ vy, y = .const vy := by
          cases y with
          | const vy => exact ⟨vy, rfl⟩
          | tmp t => simp [ZL] at hy
          | func f => simp only [ZL] at hy; split at hy <;> simp at hy
          | global g => simp [ZL] at hy
        simp only [Opd.ev, VR] at hy'
        have hms : P.underlying t = some (.interface ms) := hu
        simp only [execI] at h
        rw [show (Opd.c AVal.nili).ev tm = .nili from rfl] at h
        split at h
        . rename_i e1 e2
          rw [e1] at hx'
          simp only [VR] at hx'
          simp only [Xa, Xb] at h
          obtain ⟨rfl, rfl, rfl⟩ := h
          refine OpOk.val ⟨_, w, ?_, Post.here R (by simp only [VR]; rfl)⟩
          rw [hx', hy']
          exact ZuH hms neg x vy hop
        . rename_i e2; cases e2
        . rename_i t1 x1 e1 e2
          rw [e1] at hx'
          simp only [VR] at hx'
          obtain ⟨u, hx', _⟩ := hx'
          simp only [Xa, Xb] at h
          obtain ⟨rfl, rfl, rfl⟩ := h
          refine OpOk.val ⟨_, w, ?_, Post.here R (by simp only [VR]; rfl)⟩
          rw [hx', hy']
          exact ZGH hms neg x vy hop
        . cases h
      split at hc
      . injection hc with hc; subst hc; exact fin false rfl rfl h
      . injection hc with hc; subst hc; exact fin true rfl rfl h
      . cases hc
    . cases hc
  . cases hc
theorem Zvv {O:Zz} (hO:Z1 P O) {bf:Nat->Bool} {an:Ann} {a:Act} {o:Oper} {own:Nat} {ins:Ins} (op:UnOp) (t:TypeId) (x:Operand) (ho:o.op=.unOp op t x) (hc:ZC P an own (.unOp op t x)=some ins) (T:TR I β tm a.tmps) (R:Rel base w0 I0 I β σ w) (hb:KLt base w0)
  {sq:Nat} (hsite:nsite ins≠0->σ[sq]?=some .free) {v:AVal} {c:Cls} (h:execI O bf tm σ sq ins=some (v,σ',c)):OpOk P (execOp a.eval o) w (Post base w0 I0 I β v σ'):=by
 rw [show execOp a.eval o=(do pure (.value (<-Op.unary op (a.eval x))):Sem Next) by unfold execOp;rw [ho]]
 simp only [ZC] at hc
 simp only [Xi] at hc
 obtain ⟨y,hy,rfl⟩:=hc
 simp only [execI] at h
 obtain ⟨r,hr,he⟩:=Zem h
 simp only [Xb] at he
 obtain ⟨rfl,rfl,rfl⟩:=he
 obtain ⟨u,h1,h2⟩:=ZI2 (P:=P) (w:=w) (ZJ T hy) hr
 exact OpOk.val ⟨u,w,h1,Post.here R h2⟩
theorem Zs7 {O:Zz} (hO:Z1 P O) {bf:Nat->Bool} {an:Ann} {a:Act} {o:Oper} {own:Nat} {ins:Ins} (src:TypeId) (dst:TypeId) (x:Operand) (ho:o.op=.convert src dst x) (hc:ZC P an own (.convert src dst x)=some ins) (T:TR I β tm a.tmps) (R:Rel base w0 I0 I β σ w) (hb:KLt base w0)
  {sq:Nat} (hsite:nsite ins≠0->σ[sq]?=some .free) {v:AVal} {c:Cls} (h:execI O bf tm σ sq ins=some (v,σ',c)):OpOk P (execOp a.eval o) w (Post base w0 I0 I β v σ'):=by
 rw [show execOp a.eval o=(do pure (.value (<-convert src dst (a.eval x))):Sem Next) by unfold execOp;rw [ho]]
 simp only [ZC] at hc
 split at hc
 ·rename_i y hy
  have hx:=ZJ T hy
  unfold Zr9 at hc
  split at hc
  ·rename_i k1 k2 hs hd
   injection hc with hc;subst hc
   simp only [execI] at h
   split at h
   ·rename_i k n e
    rw [e] at hx;simp only [VR] at hx
    simp only [Xa,Xb] at h
    obtain ⟨rfl,rfl,rfl⟩:=h
    refine OpOk.val ⟨.int k2 (k2.wrap n),w,?_,Post.here R (by simp only [VR])⟩
    rw [hx]
    simp [convert,run_underlying hs,run_underlying hd,Conv.intToInt]
   ·cases h
  ·rename_i hs hd
   injection hc with hc;subst hc
   simp only [execI] at h
   split at h
   ·rename_i k n e
    rw [e] at hx;simp only [VR] at hx
    simp only [Xa,Xb] at h
    obtain ⟨rfl,rfl,rfl⟩:=h
    refine OpOk.val ⟨.string (Utf8.encode n),w,?_,Post.here R ?_⟩
    ·rw [hx]
     simp [convert,run_underlying hs,run_underlying hd,Conv.intToString]
    ·simp only [VR]
     refine ⟨by simp,?_⟩
     unfold Utf8.encode
     simp only
     repeat' split
     all_goals simp
   ·cases h
  ·rename_i hs hd
   injection hc with hc;subst hc
   simp only [execI] at h
   split at h
   ·rename_i l e
    rw [e] at hx
    have hx':=hx
    simp only [VR] at hx'
    simp only [Xa,Xb] at h
    obtain ⟨rfl,rfl,rfl⟩:=h
    refine OpOk.val ⟨_,w,?_,Post.here R hx⟩
    rw [hx'.1]
    simp [convert,run_underlying hs,run_underlying hd]
   ·cases h
  ·rename_i e hs hd
   split at hc
   ·rename_i he
    injection hc with hc;subst hc
    simp only [execI] at h
    split at h
    ·rename_i l e'
     rw [e'] at hx
     simp only [VR] at hx
     simp only [Xa,Xb] at h
     obtain ⟨rfl,rfl,rfl⟩:=h
     rw [hx.1]
     exact OpOk.val (Ztm hs hd he R hb hx.2)
    ·cases h
   ·cases hc
  ·rename_i e1 e hs hd
   split at hc
   ·rename_i hsd
    subst hsd
    split at hc
    ·rename_i he
     injection hc with hc;subst hc
     simp only [execI] at h
     split at h
     ·rename_i t' g n ev
      rw [ev] at hx
      split at h
      ·rename_i g' k xs hrow
       split at h
       ·rename_i hcond
        obtain ⟨rfl,hn,h0⟩:=hcond
        simp only [Xa,Xb] at h
        obtain ⟨rfl,rfl,rfl⟩:=h
        obtain ⟨w1,h1,h2⟩:=ZFJ hd he R hrow hn h0 hx
        exact OpOk.val ⟨_,w1,h1,h2⟩
       ·cases h
      ·cases h
     ·cases h
    ·cases hc
   ·cases hc
  ·rename_i e hs hd
   split at hc
   ·rename_i he
    injection hc with hc;subst hc
    simp only [execI] at h
    split at h
    ·rename_i xs ts hel
     split at h
     ·rename_i l hl
      simp only [Xa,Xb] at h
      obtain ⟨rfl,rfl,rfl⟩:=h
      by_cases hst:∃ l',y.ev tm=.str l'
      ·obtain ⟨l',e'⟩:=hst
       rw [e'] at hel hx
       simp only [Zaf,Xa,Xb] at hel
       obtain ⟨rfl,rfl⟩:=hel
       simp only [VR] at hx
       have hll:l=l':=by
        obtain ⟨ns,e1,e2⟩:=Zmi hl
        subst e2
        have : l'.map ZaG=ns.map (AVal.int .u8):=e1
        apply List.ext_getElem?
        intro j
        have hj:=congrArg (fun q:List AVal=>q[j]?) this
        simp only [List.getElem?_map] at hj ⊢
        cases h1:l'[j]? <;> cases h2:ns[j]? <;> simp_all [ZaG]
        rename_i b n
        rw [<-hj];simp
       subst hll
       refine OpOk.val ⟨.string ⟨l.toArray⟩,w,?_,Post.here R (by simp only [VR];exact ⟨trivial,hx.2⟩)⟩
       rw [hx.1]
       simp [convert,run_underlying hs,run_underlying hd]
      ·have hrd:=ZpD R (fun l' e'=>hst ⟨l',e'⟩) hel hx
       obtain ⟨h1,h2⟩:=Zwh (P:=P) hs he hd hrd hl
       exact OpOk.val ⟨_,w,h1,Post.here R (by simp only [VR];exact ⟨trivial,h2⟩)⟩
     ·cases h
    ·cases h
   ·cases hc
  ·cases hc
 ·cases hc
theorem Zth {O:Zz} (hO:Z1 P O) {bf:Nat->Bool} {an:Ann} {a:Act} {o:Oper} {own:Nat} {ins:Ins} (t:TypeId) (x:Operand) (lo:Option Operand) (hi:Option Operand) (mx:Option Operand) (ho:o.op=.slice t x lo hi mx) (hc:ZC P an own (.slice t x lo hi mx)=some ins) (T:TR I β tm a.tmps) (R:Rel base w0 I0 I β σ w) (hb:KLt base w0)
  {sq:Nat} (hsite:nsite ins≠0->σ[sq]?=some .free) {v:AVal} {c:Cls} (h:execI O bf tm σ sq ins=some (v,σ',c)):OpOk P (execOp a.eval o) w (Post base w0 I0 I β v σ'):=by
 rw [show execOp a.eval o=(do pure (.value (<-Instr.sliceAt t (a.eval x) (lo.map a.eval) (hi.map a.eval) (mx.map a.eval))):Sem Next) by unfold execOp;rw [ho]]
 simp only [ZC] at hc
 split at hc
 ·rename_i x' lo' hi' mx' hx hlo hhi hmx
  split at hc
  ·rename_i hu
   split at hc
   ·injection hc with hc;subst hc
    have hmx0:mx=none:=by cases mx <;> simp_all [Ze1]
    subst hmx0
    have hx':=ZJ T hx
    simp only [execI] at h
    split at h
    ·rename_i s e
     rw [e] at hx';simp only [VR] at hx'
     split at h
     ·cases h
     rename_i hh h1
     split at h
     ·cases h
     rename_i ll h2
     simp only [Xa,Xb] at h
     obtain ⟨rfl,rfl,rfl⟩:=h
     refine OpOk.val ⟨_,w,?_,Post.here R (by simp only [VR];exact ⟨rfl,by simp;omega⟩)⟩
     rw [hx'.1]
     exact ZIl hu hx'.2 (Zgw T hlo) (Zgw T hhi) h1 h2
    ·cases h
   ·cases hc
  ·rename_i e hu
   split at hc
   ·rename_i k hk
    split at hc
    ·split at hc
     ·cases hc
     ·rename_i hnn
      injection hc with hc;subst hc
      simp only [execI] at h
      obtain ⟨u,h1,h2⟩:=Zty hu hk R (ZJ T hx) (Zgw T hlo) (Zgw T hhi) (Zgw T hmx) (by
       intro e'
       cases hi' with
       | some _=>simp at e'
       | none=>cases mx' with
        | none=>rfl
        | some q=>exact absurd rfl (hnn q rfl)) h
      exact OpOk.val ⟨u,w,h1,h2⟩
    ·cases hc
   ·cases hc
  ·cases hc
 ·cases hc
theorem ZHe {O:Zz} (hO:Z1 P O) {bf:Nat->Bool} {an:Ann} {a:Act} {o:Oper} {own:Nat} {ins:Ins} (s:TypeId) (x:Operand) (i:Nat) (ho:o.op=.fieldAddr s x i) (hc:ZC P an own (.fieldAddr s x i)=some ins) (T:TR I β tm a.tmps) (R:Rel base w0 I0 I β σ w) (hb:KLt base w0)
  {sq:Nat} (hsite:nsite ins≠0->σ[sq]?=some .free) {v:AVal} {c:Cls} (h:execI O bf tm σ sq ins=some (v,σ',c)):OpOk P (execOp a.eval o) w (Post base w0 I0 I β v σ'):=by
 rw [show execOp a.eval o=(do pure (.value (<-Instr.fieldAt s (a.eval x) i)):Sem Next) by unfold execOp;rw [ho]]
 simp only [ZC] at hc
 split at hc
 ·rename_i fields x' hs hx
  split at hc
  ·rename_i f hf
   split at hc
   ·rename_i k hk
    split at hc
    ·cases hc
    ·rename_i hk0
     injection hc with hc;subst hc
     simp only [execI] at h
     obtain ⟨r,hr,he⟩:=Zem h
     simp only [Xb] at he
     obtain ⟨rfl,rfl,rfl⟩:=he
     obtain ⟨u,h1,h2⟩:=ZsL (w:=w) hs hf hk hk0 (ZJ T hx) hr
     exact OpOk.val ⟨u,w,h1,Post.here R h2⟩
   ·cases hc
  ·cases hc
 ·cases hc
theorem ZwY {O:Zz} (hO:Z1 P O) {bf:Nat->Bool} {an:Ann} {a:Act} {o:Oper} {own:Nat} {ins:Ins} (s:TypeId) (x:Operand) (i:Nat) (ho:o.op=.field s x i) (hc:ZC P an own (.field s x i)=some ins) (T:TR I β tm a.tmps) (R:Rel base w0 I0 I β σ w) (hb:KLt base w0)
  {sq:Nat} (hsite:nsite ins≠0->σ[sq]?=some .free) {v:AVal} {c:Cls} (h:execI O bf tm σ sq ins=some (v,σ',c)):OpOk P (execOp a.eval o) w (Post base w0 I0 I β v σ'):=by
 rw [show execOp a.eval o=(do pure (.value (<-Instr.field s (a.eval x) i)):Sem Next) by unfold execOp;rw [ho]]
 simp only [ZC] at hc
 split at hc
 ·rename_i fields x' hs hx
  split at hc
  ·rename_i f hf
   simp only [Xi] at hc
   obtain ⟨k,hk,rfl⟩:=hc
   have hx':=ZJ T hx
   simp only [execI] at h
   split at h
   ·rename_i cs e
    rw [e] at hx';simp only [VR] at hx'
    obtain ⟨us,hus,hv⟩:=hx'
    obtain ⟨r,hr,he⟩:=Zem h
    simp only [Xb] at he
    obtain ⟨rfl,rfl,rfl⟩:=he
    obtain ⟨u,h1,h2⟩:=ZrJ (P:=P) (w:=w) hk hv hr
    refine OpOk.val ⟨u,w,?_,Post.here R h2⟩
    rw [hus]
    simp [Instr.field,run_underlying hs,hf,asAgg,h1]
   ·cases h
  ·cases hc
 ·cases hc
theorem Zu0 {O:Zz} (hO:Z1 P O) {bf:Nat->Bool} {an:Ann} {a:Act} {o:Oper} {own:Nat} {ins:Ins} (t:TypeId) (x:Operand) (i:Operand) (ho:o.op=.indexAddr t x i) (hc:ZC P an own (.indexAddr t x i)=some ins) (T:TR I β tm a.tmps) (R:Rel base w0 I0 I β σ w) (hb:KLt base w0)
  {sq:Nat} (hsite:nsite ins≠0->σ[sq]?=some .free) {v:AVal} {c:Cls} (h:execI O bf tm σ sq ins=some (v,σ',c)):OpOk P (execOp a.eval o) w (Post base w0 I0 I β v σ'):=by
 rw [show execOp a.eval o=(do pure (.value (<-Instr.indexAt t (a.eval x) (a.eval i))):Sem Next) by unfold execOp;rw [ho]]
 simp only [ZC] at hc
 split at hc
 ·rename_i e x' i' hu hx hi
  simp only [Xi] at hc
  obtain ⟨k,hk,rfl⟩:=hc
  simp only [execI] at h
  obtain ⟨u,h1,h2,rfl⟩:=ZEQ hu hk R (ZJ T hx) (ZJ T hi) h
  exact OpOk.val ⟨u,w,h1,Post.here R h2⟩
 ·rename_i n e x' i' hu hx hi
  simp only [Xi] at hc
  obtain ⟨k,hk,rfl⟩:=hc
  have hi':=ZJ T hi
  simp only [execI] at h
  split at h
  ·rename_i kk ii e'
   rw [e'] at hi';simp only [VR] at hi'
   split at h
   ·rename_i hb'
    obtain ⟨r,hr,he⟩:=Zem h
    simp only [Xb] at he
    obtain ⟨rfl,rfl,rfl⟩:=he
    obtain ⟨u,h1,h2⟩:=ZCS (P:=P) (w:=w) (kk:=kk) hu hk (ZJ T hx) hb'.1 hb'.2 hr
    exact OpOk.val ⟨u,w,by rw [hi'];exact h1,Post.here R h2⟩
   ·cases h
  ·cases h
 ·cases hc
theorem ZtL {O:Zz} (hO:Z1 P O) {bf:Nat->Bool} {an:Ann} {a:Act} {o:Oper} {own:Nat} {ins:Ins} (t:TypeId) (x:Operand) (i:Operand) (ho:o.op=.index t x i) (hc:ZC P an own (.index t x i)=some ins) (T:TR I β tm a.tmps) (R:Rel base w0 I0 I β σ w) (hb:KLt base w0)
  {sq:Nat} (hsite:nsite ins≠0->σ[sq]?=some .free) {v:AVal} {c:Cls} (h:execI O bf tm σ sq ins=some (v,σ',c)):OpOk P (execOp a.eval o) w (Post base w0 I0 I β v σ'):=by
 rw [show execOp a.eval o=(do pure (.value (<-Instr.index t (a.eval x) (a.eval i))):Sem Next) by unfold execOp;rw [ho]]
 simp only [ZC] at hc
 split at hc
 ·rename_i x' i' hu hx hi
  injection hc with hc;subst hc
  have hx':=ZJ T hx
  have hi':=ZJ T hi
  simp only [execI] at h
  split at h
  ·rename_i s kk ii e1 e2
   rw [e1] at hx';rw [e2] at hi'
   simp only [VR] at hx' hi'
   split at h
   ·rename_i h0
    simp only [Xi] at h
    obtain ⟨b,hbb,he⟩:=h
    simp only [Xb] at he
    obtain ⟨rfl,rfl,rfl⟩:=he
    refine OpOk.val ⟨.int .u8 b.toNat,w,?_,Post.here R (by simp only [ZaG,VR])⟩
    rw [hx'.1,hi']
    have hg:(⟨s.toArray⟩:ByteArray)[ii.toNat]?=some b:=by
     have hlt:=(Xc.1 hbb).1
     have : ii.toNat < WP ⟨s.toArray⟩:=by simpa [WP] using hlt
     rw [getElem?_pos (⟨s.toArray⟩:ByteArray) ii.toNat this]
     have:=(Xc.1 hbb).2
     rw [<-this]
     rfl
    simp [Instr.index,asIntOf,run_underlying hu,h0,hg]
   ·cases h
  ·cases h
 ·rename_i n e x' i' hu hx hi
  split at hc
  ·rename_i s k hk hk2
   injection hc with hc;subst hc
   have hx':=ZJ T hx
   have hi':=ZJ T hi
   simp only [execI] at h
   split at h
   ·rename_i cs kk ii e1 e2
    rw [e1] at hx';rw [e2] at hi'
    simp only [VR] at hx' hi'
    obtain ⟨us,hus,hv⟩:=hx'
    split at h
    ·rename_i hb'
     obtain ⟨r,hr,he⟩:=Zem h
     simp only [Xb] at he
     obtain ⟨rfl,rfl,rfl⟩:=he
     obtain ⟨u,h1,h2⟩:=ZrJ (P:=P) (w:=w) hk hv hr
     obtain ⟨ie,hie,hke⟩:∃ ie,P.info? e=some ie/\ie.size=k:=by
      unfold Za7 at hk2
      cases hi:P.info? e with
      | none=>simp [hi] at hk2
      | some i=>exact ⟨i,rfl,by simpa [hi] using hk2⟩
     refine OpOk.val ⟨u,w,?_,Post.here R h2⟩
     rw [hus,hi']
     simp [Instr.index,asIntOf,run_underlying hu,hb'.1,hb'.2,sizeOf,typeInfo,hie,hke,h1]
    ·cases h
   ·cases h
  ·cases hc
 ·cases hc
theorem ZCr {O:Zz} (hO:Z1 P O) {bf:Nat->Bool} {an:Ann} {a:Act} {o:Oper} {own:Nat} {ins:Ins} (x:Operand) (i:Nat) (ho:o.op=.extract x i) (hc:ZC P an own (.extract x i)=some ins) (T:TR I β tm a.tmps) (R:Rel base w0 I0 I β σ w) (hb:KLt base w0)
  {sq:Nat} (hsite:nsite ins≠0->σ[sq]?=some .free) {v:AVal} {c:Cls} (h:execI O bf tm σ sq ins=some (v,σ',c)):OpOk P (execOp a.eval o) w (Post base w0 I0 I β v σ'):=by
 rw [show execOp a.eval o=(do pure (.value (<-Instr.extract (a.eval x) i)):Sem Next) by unfold execOp;rw [ho]]
 simp only [ZC] at hc
 simp only [Xi] at hc
 obtain ⟨y,hy,rfl⟩:=hc
 have hx:=ZJ T hy
 simp only [execI] at h
 split at h
 ·rename_i vs e
  rw [e] at hx;simp only [VR] at hx
  obtain ⟨us,hus,hv⟩:=hx
  obtain ⟨r,hr,he⟩:=Zem h
  simp only [Xb] at he
  obtain ⟨rfl,rfl,rfl⟩:=he
  obtain ⟨u,h1,h2⟩:=Zbr hv hr
  have h1':us[i]?=some u:=by simpa using h1
  exact OpOk.val ⟨u,w,by rw [hus];simp [Instr.extract,h1'],Post.here R h2⟩
 ·cases h
theorem ZAI {O:Zz} (hO:Z1 P O) {bf:Nat->Bool} {an:Ann} {a:Act} {o:Oper} {own:Nat} {ins:Ins} (t:TypeId) (l:Operand) (c':Operand) (ho:o.op=.makeSlice t l c') (hc:ZC P an own (.makeSlice t l c')=some ins) (T:TR I β tm a.tmps) (R:Rel base w0 I0 I β σ w) (hb:KLt base w0)
  {sq:Nat} (hsite:nsite ins≠0->σ[sq]?=some .free) {v:AVal} {c:Cls} (h:execI O bf tm σ sq ins=some (v,σ',c)):OpOk P (execOp a.eval o) w (Post base w0 I0 I β v σ'):=by
 rw [show execOp a.eval o=(do pure (.value (<-Instr.makeSlice t (a.eval l) (a.eval c'))):Sem Next) by unfold execOp;rw [ho]]
 simp only [ZC] at hc
 split at hc
 ·rename_i k bytes z l' c'' he hl hc'
  injection hc with hc;subst hc
  have hl':=ZJ T hl
  have hc'':=ZJ T hc'
  simp only [execI] at h
  split at h
  ·rename_i li ci e1 e2
   rw [e1] at hl';rw [e2] at hc''
   simp only [VR] at hl' hc''
   split at h
   ·rename_i hcond
    simp only [Xa,Xb] at h
    obtain ⟨rfl,rfl,rfl⟩:=h
    rw [hl',hc'']
    exact OpOk.val (ZAn R hb he hcond.1 hcond.2.1 hcond.2.2.1 hcond.2.2.2.1 (hsite (by simp [nsite])))
   ·cases h
  ·cases h
 ·cases hc
theorem Zvb {O:Zz} (hO:Z1 P O) {bf:Nat->Bool} {an:Ann} {a:Act} {o:Oper} {own:Nat} {ins:Ins} (fn:Fn) (first:Array Operand) (captured:Array Operand) (ho:o.op=.makeFunc fn first captured) (hc:ZC P an own (.makeFunc fn first captured)=some ins) (T:TR I β tm a.tmps) (R:Rel base w0 I0 I β σ w) (hb:KLt base w0)
  {sq:Nat} (hsite:nsite ins≠0->σ[sq]?=some .free) {v:AVal} {c:Cls} (h:execI O bf tm σ sq ins=some (v,σ',c)):OpOk P (execOp a.eval o) w (Post base w0 I0 I β v σ'):=by
 rw [show execOp a.eval o=(do pure (.value (<-Instr.makeFunc fn (first.map a.eval) (captured.map a.eval))):Sem Next) by unfold execOp;rw [ho]]
 simp only [ZC] at hc
 cases fn <;> simp only at hc <;> try (cases hc;done)
 rename_i f
 split at hc
 case isFalse=>cases hc
 rename_i hlt
 split at hc
 ·rename_i hf
  simp only [Xi] at hc
  obtain ⟨caps,hcaps,rfl⟩:=hc
  simp only [execI,Xa,Xb] at h
  obtain ⟨rfl,rfl,rfl⟩:=h
  have hfe:first=#[]:=by simpa using hf
  subst hfe
  refine OpOk.val ⟨.func (.func f) #[] (captured.map a.eval),w,by simp [Instr.makeFunc],Post.here R ?_⟩
  simp only [VR,if_pos hlt]
  exact ⟨_,_,rfl,rfl,by simpa using ZiD T hcaps⟩
 ·split at hc
  case isFalse=>cases hc
  rename_i hf
  simp only [Xi] at hc
  obtain ⟨caps,hcaps,rfl⟩:=hc
  simp only [execI,Xa,Xb] at h
  obtain ⟨rfl,rfl,rfl⟩:=h
  have hfe:captured=#[]:=by simpa using hf
  subst hfe
  refine OpOk.val ⟨.func (.func f) (first.map a.eval) #[],w,by simp [Instr.makeFunc],Post.here R ?_⟩
  have hn:¬(f+1000000 < 1000000):=Nat.not_lt.2 (Nat.le_add_left _ _)
  simp only [VR,if_neg hn,Nat.add_sub_cancel]
  exact ⟨_,_,rfl,rfl,by simpa using ZiD T hcaps⟩
theorem ZCH {O:Zz} (hO:Z1 P O) {bf:Nat->Bool} {an:Ann} {a:Act} {o:Oper} {own:Nat} {ins:Ins} (t:TypeId) (x:Operand) (ho:o.op=.makeInterface t x) (hc:ZC P an own (.makeInterface t x)=some ins) (T:TR I β tm a.tmps) (R:Rel base w0 I0 I β σ w) (hb:KLt base w0)
  {sq:Nat} (hsite:nsite ins≠0->σ[sq]?=some .free) {v:AVal} {c:Cls} (h:execI O bf tm σ sq ins=some (v,σ',c)):OpOk P (execOp a.eval o) w (Post base w0 I0 I β v σ'):=by
 rw [show execOp a.eval o=(do pure (.value (<-Instr.makeInterface t (a.eval x))):Sem Next) by unfold execOp;rw [ho]]
 simp only [ZC] at hc
 split at hc
 ·cases hc
 ·rename_i d hd hnd
  simp only [Xi] at hc
  obtain ⟨y,hy,rfl⟩:=hc
  have hy':=ZJ T hy
  have hrun:∀ u,(Instr.makeInterface t u).run P w=.ok (.iface t u) w:=by
   intro u
   unfold Instr.makeInterface
   rw [Sem.run_bind,run_underlying hnd]
   simp only [Result.andThen_ok]
   cases d <;> first | rfl | exact absurd rfl (hd _)
  simp only [execI] at h
  split at h
  ·cases h
  ·cases h
  ·cases h
  ·simp only [Xa,Xb] at h
   obtain ⟨rfl,rfl,rfl⟩:=h
   exact OpOk.val ⟨_,w,hrun _,Post.here R (by simp only [VR];exact ⟨_,rfl,hy'⟩)⟩
 ·cases hc
theorem Zvk {O:Zz} (hO:Z1 P O) {bf:Nat->Bool} {an:Ann} {a:Act} {o:Oper} {own:Nat} {ins:Ins} (x:Operand) (ho:o.op=.panic x) (hc:ZC P an own (.panic x)=some ins) (T:TR I β tm a.tmps) (R:Rel base w0 I0 I β σ w) (hb:KLt base w0)
  {sq:Nat} (hsite:nsite ins≠0->σ[sq]?=some .free) {v:AVal} {c:Cls} (h:execI O bf tm σ sq ins=some (v,σ',c)):OpR P (execOp a.eval o) w base w0 I0 I β v σ':=by
 rw [show execOp a.eval o=(do pure (.value (<-Instr.panic (a.eval x))):Sem Next) by unfold execOp;rw [ho]]
 simp only [ZC] at hc
 simp only [Xi] at hc
 obtain ⟨y,hy,rfl⟩:=hc
 have hy':=ZJ T hy
 simp only [execI] at h
 split at h
 ·rename_i t1 x1 e
  rw [e] at hy'
  simp only [Xa,Xb] at h
  obtain ⟨rfl,rfl,rfl⟩:=h
  refine Xp ⟨_,rfl,Xk ⟨a.eval x,w,?_,Post.here R hy'⟩⟩
  simp only [VR] at hy'
  obtain ⟨u,hu,_⟩:=hy'
  simp [hu,Instr.panic,goPanic]
 ·cases h
theorem ZDR {O:Zz} (hO:Z1 P O) {bf:Nat->Bool} {an:Ann} {a:Act} {o:Oper} {own:Nat} {ins:Ins} (t:TypeId) (x:Operand) (ho:o.op=.range t x) (hc:ZC P an own (.range t x)=some ins) (T:TR I β tm a.tmps) (R:Rel base w0 I0 I β σ w) (hb:KLt base w0)
  {sq:Nat} (hsite:nsite ins≠0->σ[sq]?=some .free) {v:AVal} {c:Cls} (h:execI O bf tm σ sq ins=some (v,σ',c)):OpOk P (execOp a.eval o) w (Post base w0 I0 I β v σ'):=by
 rw [show execOp a.eval o=(do pure (.value (<-Instr.range t (a.eval x))):Sem Next) by unfold execOp;rw [ho]]
 simp only [ZC] at hc
 split at hc
 case h_2=>cases hc
 rename_i ht
 simp only [Xi] at hc
 obtain ⟨y,hy,rfl⟩:=hc
 have hy':=ZJ T hy
 simp only [execI] at h
 split at h
 case h_2=>cases h
 rename_i l e
 simp only [Xa,Xb] at h
 obtain ⟨rfl,rfl,rfl⟩:=h
 rw [e] at hy'
 simp only [VR] at hy'
 rw [hy'.1]
 exact OpOk.val (Zw3 R hb ht (hsite (by simp [nsite])))
theorem ZAf {O:Zz} (hO:Z1 P O) {bf:Nat->Bool} {an:Ann} {a:Act} {o:Oper} {own:Nat} {ins:Ins} (x:Operand) (str:Bool) (ho:o.op=.next x str) (hc:ZC P an own (.next x str)=some ins) (T:TR I β tm a.tmps) (R:Rel base w0 I0 I β σ w) (hb:KLt base w0)
  {sq:Nat} (hsite:nsite ins≠0->σ[sq]?=some .free) {v:AVal} {c:Cls} (h:execI O bf tm σ sq ins=some (v,σ',c)):OpOk P (execOp a.eval o) w (Post base w0 I0 I β v σ'):=by
 rw [show execOp a.eval o=(do pure (.value (<-Instr.next (a.eval x) str o.type)):Sem Next) by unfold execOp;rw [ho]]
 simp only [ZC] at hc
 cases str
 case false=>cases hc
 simp only [Xi] at hc
 obtain ⟨y,hy,rfl⟩:=hc
 have hy':=ZJ T hy
 simp only [execI] at h
 split at h
 case h_2=>cases h
 rename_i t e
 rw [e] at hy'
 split at h
 case h_2=>cases h
 rename_i l p hs
 obtain ⟨u,w',h1,h2⟩:=ZvO (P:=P) R hs hy' o.type
 split at h
 ·rename_i hp
  rw [if_pos hp] at h2
  simp only [Xa,Xb] at h
  obtain ⟨rfl,rfl,rfl⟩:=h
  exact OpOk.val ⟨u,w',h1,h2⟩
 ·rename_i hp
  rw [if_neg hp] at h2
  simp only [Xa,Xb] at h
  obtain ⟨rfl,rfl,rfl⟩:=h
  exact OpOk.val ⟨u,w',h1,h2⟩
theorem ZIT {O:Zz} (hO:Z1 P O) {bf:Nat->Bool} {an:Ann} {a:Act} {o:Oper} {own:Nat} {ins:Ins} (t:TypeId) (r:Option Operand) (ho:o.op=.makeMap t r) (hc:ZC P an own (.makeMap t r)=some ins) (T:TR I β tm a.tmps) (R:Rel base w0 I0 I β σ w) (hb:KLt base w0)
  {sq:Nat} (hsite:nsite ins≠0->σ[sq]?=some .free) {v:AVal} {c:Cls} (h:execI O bf tm σ sq ins=some (v,σ',c)):OpOk P (execOp a.eval o) w (Post base w0 I0 I β v σ'):=by
 rw [show execOp a.eval o=(do pure (.value (<-Instr.makeMap t (r.map a.eval))):Sem Next) by unfold execOp;rw [ho]]
 simp only [ZC] at hc
 cases r with
 | some r=>cases hc
 | none =>
  simp only at hc
  split at hc
  ·split at hc
   ·split at hc
    ·injection hc with hc;subst hc
     simp only [execI] at h
     split at h
     case isFalse=>cases h
     rename_i hk
     simp only [Xa,Xb] at h
     obtain ⟨rfl,rfl,rfl⟩:=h
     exact OpOk.val (ZH8 R hb t hk (hsite (by simp [nsite])))
    ·cases hc
   ·cases hc
  injection hc with hc;subst hc
  simp only [execI,Xa,Xb] at h
  obtain ⟨rfl,rfl,rfl⟩:=h
  exact OpOk.val (ZDS R hb t (hsite (by simp [nsite])))
theorem Zwv {O:Zz} (hO:Z1 P O) {bf:Nat->Bool} {an:Ann} {a:Act} {o:Oper} {own:Nat} {ins:Ins} (t:TypeId) (x:Operand) (z:Operand) (ok:Bool) (ho:o.op=.lookup t x z ok) (hc:ZC P an own (.lookup t x z ok)=some ins) (T:TR I β tm a.tmps) (R:Rel base w0 I0 I β σ w) (hb:KLt base w0)
  {sq:Nat} (hsite:nsite ins≠0->σ[sq]?=some .free) {v:AVal} {c:Cls} (h:execI O bf tm σ sq ins=some (v,σ',c)):OpOk P (execOp a.eval o) w (Post base w0 I0 I β v σ'):=by
 rw [show execOp a.eval o=(do pure (.value (<-Instr.lookup t (a.eval x) (a.eval z) ok)):Sem Next) by unfold execOp;rw [ho]]
 simp only [ZC] at hc
 split at hc
 case h_2=>cases hc
 rename_i kc zv m k hmp hm hk
 obtain ⟨kt,et,d,ht,hdk,hd,hz⟩:=ZiZ hmp
 split at hc
 ·split at hc
  ·cases hc
  rename_i hok
  have hok':ok=false:=by simpa using hok
  subst hok'
  injection hc with hc;subst hc
  simp only [execI] at h
  obtain ⟨u,h1,h2⟩:=ZvQ R ht hdk hd hz (ZJ T hm) (ZJ T hk) (hsite (by simp [nsite])) h
  exact OpOk.val ⟨u,w,h1,h2⟩
 injection hc with hc;subst hc
 simp only [execI] at h
 obtain ⟨rfl,u,h1,h2⟩:=ZAA R ht hdk hd hz (ZJ T hm) (ZJ T hk) h
 exact OpOk.val ⟨u,w,h1,Post.here R h2⟩
theorem ZHd {O:Zz} (hO:Z1 P O) {bf:Nat->Bool} {an:Ann} {a:Act} {o:Oper} {own:Nat} {ins:Ins} (t:TypeId) (x:Operand) (z:Operand) (y:Operand) (ho:o.op=.mapUpdate t x z y) (hc:ZC P an own (.mapUpdate t x z y)=some ins) (T:TR I β tm a.tmps) (R:Rel base w0 I0 I β σ w) (hb:KLt base w0)
  {sq:Nat} (hsite:nsite ins≠0->σ[sq]?=some .free) {v:AVal} {c:Cls} (h:execI O bf tm σ sq ins=some (v,σ',c)):OpOk P (execOp a.eval o) w (Post base w0 I0 I β v σ'):=by
 rw [show execOp a.eval o=(do Instr.mapUpdate t (a.eval x) (a.eval z) (a.eval y);pure .skip:Sem Next) by unfold execOp;rw [ho]]
 simp only [ZC] at hc
 split at hc
 case h_2=>cases hc
 rename_i kc zv m k vv hmp hm hk hv
 injection hc with hc;subst hc
 simp only [execI] at h
 obtain ⟨kt,et,d,ht,hdk,hd,hz⟩:=ZiZ hmp
 obtain ⟨rfl,w',β',h1,hle,h2⟩:=ZoZ R ht hdk hd (ZJ T hm) (ZJ T hk) (ZJ T hv) h
 exact OpOk.unit ⟨w',h1,Post.mk (Imm.le.refl I) hle h2 Zge⟩
theorem Zz6 {O:Zz} (hO:Z1 P O) {bf:Nat->Bool} {an:Ann} {a:Act} {o:Oper} {own:Nat} {ins:Ins} (t:TypeId) (x:Operand) (z:Operand) (y:Operand) (ho:o.op=.insert t x z y) (hc:ZC P an own (.insert t x z y)=some ins) (T:TR I β tm a.tmps) (R:Rel base w0 I0 I β σ w) (hb:KLt base w0)
  {sq:Nat} (hsite:nsite ins≠0->σ[sq]?=some .free) {v:AVal} {c:Cls} (h:execI O bf tm σ sq ins=some (v,σ',c)):OpOk P (execOp a.eval o) w (Post base w0 I0 I β v σ'):=by
 rw [show execOp a.eval o=(do Instr.mapUpdate t (a.eval x) (a.eval z) (a.eval y);pure .skip:Sem Next) by unfold execOp;rw [ho]]
 simp only [ZC] at hc
 split at hc
 case h_2=>cases hc
 rename_i kc zv m k vv hmp hm hk hv
 injection hc with hc;subst hc
 simp only [execI] at h
 obtain ⟨kt,et,d,ht,hdk,hd,hz⟩:=ZiZ hmp
 obtain ⟨rfl,w',β',h1,hle,h2⟩:=ZoZ R ht hdk hd (ZJ T hm) (ZJ T hk) (ZJ T hv) h
 exact OpOk.unit ⟨w',h1,Post.mk (Imm.le.refl I) hle h2 Zge⟩
theorem ZtH {O:Zz} (hO:Z1 P O) {bf:Nat->Bool} {an:Ann} {a:Act} {o:Oper} {own:Nat} {ins:Ins} (cl:Call) (ho:o.op=.call cl) (hc:ZC P an own (.call cl)=some ins) (T:TR I β tm a.tmps) (R:Rel base w0 I0 I β σ w) (hb:KLt base w0)
  {sq:Nat} (hsite:nsite ins≠0->σ[sq]?=some .free) {v:AVal} {c:Cls} (h:execI O bf tm σ sq ins=some (v,σ',c)):OpR P (execOp a.eval o) w base w0 I0 I β v σ':=by
 rw [show execOp a.eval o=(do let d <-resolve a.eval cl o.type;invoke d.target d.args:Sem Next) by unfold execOp;rw [ho]]
 simp only [ZC] at hc
 unfold ZqZ at hc
 split at hc
 ·cases hc
 rename_i args hargs
 have hav:=ZiD T hargs
 obtain ⟨callee,cargs,ctypes⟩:=cl
 simp only at hc hargs hav
 have hmap:(cargs.toList.map a.eval)=(cargs.map a.eval).toList:=by simp
 split at hc
 ·rename_i f
  injection hc with hc;subst hc
  simp only [execI] at h
  obtain ⟨⟨fn,f1,f2,f3⟩,g2⟩:=Zkc hO R hb (vs:=cargs.map a.eval) (by rw [<-hmap];exact hav) (fun ho=>hsite (by simp [nsite,ho])) h
  exact OpR.of_call (by simp [resolve,Act.eval,Deferred.ofValue,invoke,ZkU f1 f2 f3]) g2
 ·rename_i t
  injection hc with hc;subst hc
  simp only [execI] at h
  split at h
  ·rename_i f caps hf
   have hfv:=ZJ (x:=.tmp t) T rfl
   rw [hf] at hfv
   simp only [VR] at hfv
   obtain ⟨fs,us,hus,h0,hcaps⟩:=hfv
   by_cases hlt:f < 1000000
   ·simp only [if_pos hlt] at h hus h0
    subst h0
    obtain ⟨⟨fn,f1,f2,f3⟩,g2⟩:=Zkc hO R hb (vs:=cargs.map a.eval++us) (by rw [Array.toList_append,<-hmap];exact Zbm hav (by simpa using hcaps)) (fun ho=>absurd ho (by decide)) h
    exact OpR.of_call (by simp [resolve,hus,Deferred.ofValue,invoke,ZkU f1 f2 f3]) g2
   ·simp only [if_neg hlt] at h hus h0
    subst h0
    obtain ⟨⟨fn,f1,f2,f3⟩,g2⟩:=Zkc hO R hb (vs:=fs++cargs.map a.eval) (by rw [Array.toList_append,<-hmap];exact Zbm (by simpa using hcaps) hav) (fun ho=>absurd ho (by decide)) h
    exact OpR.of_call (by simp [resolve,hus,Deferred.ofValue,invoke,ZkU f1 f2 f3]) g2
  ·cases h
 ·refine Xk ?_
  split at hc
  ·rename_i t u x y hty
   split at hc
   ·rename_i k bytes z he
    obtain ⟨e,i,vz,hu,hi,hik,hib,hvz,hz,hk,hby,hzl⟩:=ZgK he
    obtain ⟨hz1,hz2⟩:=Zd0 (I:=I) (β:=β) hz
    have hzs:vz.cells.size=i.size:=by rw [ZeZ (ZdS hz) hz1,hzl,hik]
    have hargs2:∃ ox oy,cargs=#[ox,oy]/\ZL ox=some x/\ZL oy=some y:=by
     obtain ⟨l⟩:=cargs
     match l,hargs with
     | [],hargs=>simp [ZbX] at hargs
     | [ox],hargs =>
      simp only [ZbX] at hargs
      split at hargs
      ·simp at hargs
      ·cases hargs
     | [ox,oy],hargs =>
      simp only [ZbX] at hargs
      split at hargs
      ·rename_i x1 hx1
       split at hargs
       ·rename_i l2 hl2
        split at hl2
        ·rename_i y1 hy1
         simp only [Xa] at hl2 hargs
         subst hl2
         simp only [WD,and_true] at hargs
         obtain ⟨rfl,rfl⟩:=hargs
         exact ⟨ox,oy,rfl,hx1,hy1⟩
        ·cases hl2
       ·cases hargs
      ·cases hargs
     | ox::oy::oz::r,hargs=>have:=ZQ hav;simp at this
    obtain ⟨ox,oy,rfl,hx,hy⟩:=hargs2
    have htys:ctypes=#[t,u]:=by
     obtain ⟨l⟩:=ctypes
     simpa using hty
    subst htys
    have fin:ZfW P t u e i vz->Zay σ sq k bytes (x.ev tm) (y.ev tm)=some (v,σ',c)->OpOk P (do let d <-resolve a.eval { callee:=.builtin .append,args:=#[ox,oy],argTypes:=#[t,u] } o.type;invoke d.target d.args) w (Post base w0 I0 I β v σ'):=by
     intro TT h
     rw [<-hik,<-hib] at h
     have hns:nsite ins≠0:=by
      split at hc
      ·injection hc with hc;subst hc;simp [nsite]
      ·split at hc
       ·injection hc with hc;subst hc;simp [nsite]
       ·cases hc
      ·cases hc
     obtain ⟨vr,w1,h1,h2⟩:=Zwc (ty:=o.type) TT R hb (ZJ T hx) (ZJ T hy) (hsite hns) h
     exact Xk ⟨vr,w1,by simp [resolve,invoke,builtin,h1],h2⟩
    split at hc
    ·rename_i e' hu2
     injection hc with hc;subst hc
     simp only [execI] at h
     exact fin ⟨hu,Xk ⟨e',hu2⟩,hi,hvz,hzs,by omega,by omega⟩ h
    ·rename_i hu2
     split at hc
     ·injection hc with hc;subst hc
      simp only [execI] at h
      exact fin ⟨hu,Xp hu2,hi,hvz,hzs,by omega,by omega⟩ h
     ·cases hc
    ·cases hc
   ·cases hc
  ·cases hc
 ·refine Xk ?_
  split at hc
  ·rename_i t x hty
   have hargs2:∃ ox,cargs=#[ox]/\ZL ox=some x:=by
    obtain ⟨l⟩:=cargs
    match l,hargs with
    | [],hargs=>simp [ZbX] at hargs
    | [ox],hargs =>
     simp only [ZbX] at hargs
     split at hargs
     ·rename_i x1 hx1
      simp only [Xa,WD,and_true] at hargs
      subst hargs
      exact ⟨ox,rfl,hx1⟩
     ·cases hargs
    | ox::oy::r,hargs =>
     have:=ZQ hav
     simp at this
   obtain ⟨ox,rfl,hx⟩:=hargs2
   have htys:ctypes=#[t]:=by
    obtain ⟨l⟩:=ctypes
    simpa using hty
   subst htys
   have hx':=ZJ T hx
   split at hc
   ·rename_i e hu
    injection hc with hc;subst hc
    simp only [execI] at h
    split at h
    ·rename_i b xs hh
     rw [hh] at hx';simp only [VR] at hx'
     obtain ⟨A,cap,hv,_⟩:=hx'
     simp only [Xa,Xb] at h
     obtain ⟨rfl,rfl,rfl⟩:=h
     refine Xk ⟨.int .i64 xs.length,w,?_,Post.here R (by simp only [VR])⟩
     simp [resolve,invoke,builtin,hv,Builtin.len_,run_underlying hu,goInt]
    ·rename_i t' g lo n hh
     rw [hh] at hx';simp only [VR] at hx'
     obtain ⟨bi,_,hle,_,hv⟩:=hx'
     simp only [Xa,Xb] at h
     obtain ⟨rfl,rfl,rfl⟩:=h
     refine Xk ⟨.int .i64 n,w,?_,Post.here R (by simp only [VR])⟩
     rcases hv with ⟨b,_,hv⟩ | ⟨_,hc0,A,hv⟩ | ⟨_,_,hn0,A,hv⟩
     ·simp [resolve,invoke,builtin,hv,Builtin.len_,run_underlying hu,goInt]
     ·have : n=0:=by omega
      subst this
      simp [resolve,invoke,builtin,hv,Builtin.len_,run_underlying hu,goInt]
     ·subst hn0
      simp [resolve,invoke,builtin,hv,Builtin.len_,run_underlying hu,goInt]
    ·cases h
   ·rename_i hu
    injection hc with hc;subst hc
    simp only [execI] at h
    split at h
    ·rename_i l hh
     rw [hh] at hx';simp only [VR] at hx'
     simp only [Xa,Xb] at h
     obtain ⟨rfl,rfl,rfl⟩:=h
     refine Xk ⟨.int .i64 l.length,w,?_,Post.here R (by simp only [VR])⟩
     have hsz:WP ⟨l.toArray⟩=l.length:=by simp [WP]
     simp [resolve,invoke,builtin,hx'.1,Builtin.len_,run_underlying hu,goInt,hsz]
    ·cases h
   ·rename_i kt et hu
    injection hc with hc;subst hc
    simp only [execI] at h
    obtain ⟨rfl,u,h1,h2⟩:=ZCq R hu o.type hx' h
    exact Xk ⟨u,w,by simp [resolve,invoke,builtin,h1],Post.here R h2⟩
   ·cases hc
  ·cases hc
 ·refine Xk ?_
  split at hc
  ·rename_i t ts x y hty
   split at hc
   case h_2=>cases hc
   rename_i kc zv hmp
   injection hc with hc;subst hc
   obtain ⟨kt,et,d,ht,hdk,hd,hz⟩:=ZiZ hmp
   have hargs2:∃ ox oy,cargs=#[ox,oy]/\ZL ox=some x/\ZL oy=some y:=by
    obtain ⟨l⟩:=cargs
    match l,hargs with
    | [],hargs=>simp [ZbX] at hargs
    | [ox],hargs =>
     simp only [ZbX] at hargs
     split at hargs
     ·simp at hargs
     ·cases hargs
    | [ox,oy],hargs =>
     simp only [ZbX] at hargs
     split at hargs
     ·rename_i x1 hx1
      split at hargs
      ·rename_i l2 hl2
       split at hl2
       ·rename_i y1 hy1
        simp only [Xa] at hl2 hargs
        subst hl2
        simp only [WD,and_true] at hargs
        obtain ⟨rfl,rfl⟩:=hargs
        exact ⟨ox,oy,rfl,hx1,hy1⟩
       ·cases hl2
      ·cases hargs
     ·cases hargs
    | ox::oy::oz::r,hargs=>have:=ZQ hav;simp at this
   obtain ⟨ox,oy,rfl,hx,hy⟩:=hargs2
   have htys:ctypes=(t::ts).toArray:=by
    obtain ⟨l⟩:=ctypes
    simpa using hty
   subst htys
   simp only [execI] at h
   obtain ⟨w',h1,rfl,h2⟩:=ZFr R ht hdk hd ts o.type (ZJ T hx) (ZJ T hy) h
   exact Xk ⟨.tuple #[],w',by simp [resolve,invoke,builtin,h1],Post.here h2 Zge⟩
  ·cases hc
 ·refine Xk ?_
  split at hc
  ·rename_i t x hty
   have hargs2:∃ ox,cargs=#[ox]/\ZL ox=some x:=by
    obtain ⟨l⟩:=cargs
    match l,hargs with
    | [],hargs=>simp [ZbX] at hargs
    | [ox],hargs =>
     simp only [ZbX] at hargs
     split at hargs
     ·rename_i x1 hx1
      simp only [Xa,WD,and_true] at hargs
      subst hargs
      exact ⟨ox,rfl,hx1⟩
     ·cases hargs
    | ox::oy::r,hargs =>
     have:=ZQ hav
     simp at this
   obtain ⟨ox,rfl,hx⟩:=hargs2
   have htys:ctypes=#[t]:=by
    obtain ⟨l⟩:=ctypes
    simpa using hty
   subst htys
   split at hc
   ·rename_i k bytes z he
    injection hc with hc;subst hc
    simp only [execI] at h
    obtain ⟨vr,w1,h1,h2⟩:=ZuN (ty:=o.type) R he (ZJ T hx) h
    exact Xk ⟨vr,w1,by simp [resolve,invoke,builtin,h1],h2⟩
   ·cases hc
  ·cases hc
 ·refine Xk ?_
  split at hc
  ·rename_i hl2
   injection hc with hc;subst hc
   simp only [execI] at h
   split at h
   ·rename_i k p k' q hh
    rw [hh] at hav
    simp only [VRs,VR] at hav
    obtain ⟨v1,vs1,e1,rfl,v2,vs2,rfl,rfl,rfl⟩:=hav
    simp only [Xa,Xb] at h
    obtain ⟨rfl,rfl,rfl⟩:=h
    have hca:cargs.map a.eval=#[.int k p,.int k' q]:=by
     apply XbI
     simpa using e1
    refine Xk ⟨_,w,?_,Post.here R (by simp only [VR];rfl)⟩
    simp [resolve,invoke,builtin,hca,Builtin.max_,Builtin.max2]
   ·cases h
  ·cases hc
 ·refine Xk ?_
  split at hc
  ·rename_i hl2
   injection hc with hc;subst hc
   simp only [execI] at h
   split at h
   ·rename_i k p k' q hh
    rw [hh] at hav
    simp only [VRs,VR] at hav
    obtain ⟨v1,vs1,e1,rfl,v2,vs2,rfl,rfl,rfl⟩:=hav
    simp only [Xa,Xb] at h
    obtain ⟨rfl,rfl,rfl⟩:=h
    have hca:cargs.map a.eval=#[.int k p,.int k' q]:=by
     apply XbI
     simpa using e1
    refine Xk ⟨_,w,?_,Post.here R (by simp only [VR];rfl)⟩
    simp [resolve,invoke,builtin,hca,Builtin.min_,Builtin.min2]
   ·cases h
  ·cases hc
 ·cases hc
theorem ZH4 {O:Zz} (hO:Z1 P O) {bf:Nat->Bool} {an:Ann} {a:Act} {o:Oper} {own:Nat} {ins:Ins} (hc:ZC P an own o.op=some ins) (T:TR I β tm a.tmps) (R:Rel base w0 I0 I β σ w) (hb:KLt base w0)
  {sq:Nat} (hsite:nsite ins≠0->σ[sq]?=some .free) {v:AVal} {c:Cls} (h:execI O bf tm σ sq ins=some (v,σ',c)):OpR P (execOp a.eval o) w base w0 I0 I β v σ':=by
 cases ho:o.op <;> rw [ho] at hc <;> first
  | exact Xk (Zx8 hO _ ho hc T R hb hsite h)
  | exact Xk (ZDv hO _ ho hc T R hb hsite h)
  | exact Xk (ZHt hO _ _ _ ho hc T R hb hsite h)
  | exact Xk (ZEj hO _ ho hc T R hb hsite h)
  | exact Xk (Zy3 hO _ _ ho hc T R hb hsite h)
  | exact Xk (ZIX hO _ _ ho hc T R hb hsite h)
  | exact Xk (ZEK hO _ _ _ ho hc T R hb hsite h)
  | exact Xk (Zsm hO _ _ ho hc T R hb hsite h)
  | exact Xk (ZFh hO _ _ _ ho hc T R hb hsite h)
  | exact Xk (Zsq hO _ ho hc T R hb hsite h)
  | exact Xk (ZAX hO _ _ _ _ _ ho hc T R hb hsite h)
  | exact Xk (Zvv hO _ _ _ ho hc T R hb hsite h)
  | exact Xk (Zs7 hO _ _ _ ho hc T R hb hsite h)
  | exact Xk (Zth hO _ _ _ _ _ ho hc T R hb hsite h)
  | exact Xk (ZHe hO _ _ _ ho hc T R hb hsite h)
  | exact Xk (ZwY hO _ _ _ ho hc T R hb hsite h)
  | exact Xk (Zu0 hO _ _ _ ho hc T R hb hsite h)
  | exact Xk (ZtL hO _ _ _ ho hc T R hb hsite h)
  | exact Xk (ZCr hO _ _ ho hc T R hb hsite h)
  | exact Xk (ZAI hO _ _ _ ho hc T R hb hsite h)
  | exact Xk (Zvb hO _ _ _ ho hc T R hb hsite h)
  | exact Xk (ZCH hO _ _ ho hc T R hb hsite h)
  | exact Zvk hO _ ho hc T R hb hsite h
  | exact Xk (ZDR hO _ _ ho hc T R hb hsite h)
  | exact Xk (ZAf hO _ _ ho hc T R hb hsite h)
  | exact Xk (ZIT hO _ _ ho hc T R hb hsite h)
  | exact Xk (Zwv hO _ _ _ _ ho hc T R hb hsite h)
  | exact Xk (ZHd hO _ _ _ _ ho hc T R hb hsite h)
  | exact Xk (Zz6 hO _ _ _ _ ho hc T R hb hsite h)
  | exact ZtH hO _ ho hc T R hb hsite h
  | (simp only [ZC] at hc;cases hc;done)
end
end
section
open Go.RowKit
section
variable {O:Zz} {bf:Nat->Bool} {tm tm':Tms} {σ σ' σ2:Za} {sq:Nat}
theorem Opd.ev_congr {x:Opd} (h:∀ n ∈ x.reads,tget tm n=tget tm' n):x.ev tm=x.ev tm':=by
 cases x with
 | t n=>exact h n (by simp [Opd.reads])
 | c v=>rfl
theorem ZiP {xs:List Opd} (h:∀ n ∈ xs.flatMap Opd.reads,tget tm n=tget tm' n):(xs.map fun x=>x.ev tm)=xs.map fun x=>x.ev tm':=by
 apply W3
 intro x hx
 exact Opd.ev_congr fun n hn=>h n (Wc.2 ⟨x,hx,hn⟩)
theorem Zgx {x:Option Opd} (h:∀ n ∈ ZfH x,tget tm n=tget tm' n):(x.map fun x=>x.ev tm)=x.map fun x=>x.ev tm':=by
 cases x with
 | none=>rfl
 | some x=>simp only [XQ];rw [Opd.ev_congr (x:=x) h]
theorem ZeF {ins:Ins} (h:∀ n ∈ ins.reads,tget tm n=tget tm' n):execI O bf tm σ sq ins=execI O bf tm' σ sq ins:=by
 cases ins with
 | alloc zs=>rfl
 | build zs ps =>
  have : (ps.map fun p=>(p.1,p.2.1,p.2.2.ev tm))=ps.map fun p=>(p.1,p.2.1,p.2.2.ev tm'):=by
   apply W3
   intro p hp
   rw [Opd.ev_congr (x:=p.2.2) fun n hn=>h n (by simp only [Ins.reads];exact Wc.2 ⟨p,hp,hn⟩)]
  simp only [execI,this]
 | bslice own k n z ps =>
  have : (ps.map fun p=>p.2.ev tm)=ps.map fun p=>p.2.ev tm':=by
   apply W3
   intro p hp
   rw [Opd.ev_congr (x:=p.2) fun n hn=>h n (by simp only [Ins.reads];exact Wc.2 ⟨p,hp,hn⟩)]
  simp only [execI,this]
 | rslice k n z ps =>
  have h0:∀ p ∈ ps,p.2.ev tm=p.2.ev tm':=fun p hp=>Opd.ev_congr (x:=p.2) fun n hn=>h n (by simp only [Ins.reads];exact Wc.2 ⟨p,hp,hn⟩)
  have h1:(ps.map fun p=>(p.1,p.2.ev tm))=ps.map fun p=>(p.1,p.2.ev tm'):=W3 fun p hp=>by rw [h0 p hp]
  have h2:(ps.all fun p=>(p.2.ev tm).cells.length == k && (p.2.ev tm).cells.all ZI)=ps.all fun p=>(p.2.ev tm').cells.length == k && (p.2.ev tm').cells.all ZI:=by
   rw [Bool.eq_iff_iff,XF,XF]
   exact ⟨fun h p hp=>by rw [<-h0 p hp];exact h p hp,fun h p hp=>by rw [h0 p hp];exact h p hp⟩
  simp only [execI,h1,h2]
 | rng x=>simp only [execI,Opd.ev_congr (x:=x) h]
 | nxt x=>simp only [execI,Opd.ev_congr (x:=x) h]
 | mkmap=>rfl
 | mkgmap k=>rfl
 | glook kc z x y=>simp only [Ins.reads,Xl] at h;simp only [execI,Opd.ev_congr (x:=x) fun n hn=>h n (Xk hn),Opd.ev_congr (x:=y) fun n hn=>h n (Xp hn)]
 | mkbook x=>simp only [execI,Opd.ev_congr (x:=x) h]
 | mkrow x k=>simp only [execI,Opd.ev_congr (x:=x) h]
 | mlen x=>simp only [execI,Opd.ev_congr (x:=x) h]
 | look kc z ok x y=>simp only [Ins.reads,Xl] at h;simp only [execI,Opd.ev_congr (x:=x) fun n hn=>h n (Xk hn),Opd.ev_congr (x:=y) fun n hn=>h n (Xp hn)]
 | mdel kc x y=>simp only [Ins.reads,Xl] at h;simp only [execI,Opd.ev_congr (x:=x) fun n hn=>h n (Xk hn),Opd.ev_congr (x:=y) fun n hn=>h n (Xp hn)]
 | mset kc x y z =>
  simp only [Ins.reads,Xl] at h
  simp only [execI,Opd.ev_congr (x:=x) fun n hn=>h n (Xk (Xk hn)),Opd.ev_congr (x:=y) fun n hn=>h n (Xk (Xp hn)),Opd.ev_congr (x:=z) fun n hn=>h n (Xp hn)]
 | mov x=>simp only [execI,Opd.ev_congr (x:=x) h]
 | box x=>simp only [execI,Opd.ev_congr (x:=x) h]
 | un op x=>simp only [execI,Opd.ev_congr (x:=x) h]
 | i2i k x=>simp only [execI,Opd.ev_congr (x:=x) h]
 | i2s x=>simp only [execI,Opd.ev_congr (x:=x) h]
 | clr k z x=>simp only [execI,Opd.ev_congr (x:=x) h]
 | same x=>simp only [execI,Opd.ev_congr (x:=x) h]
 | s2b x=>simp only [execI,Opd.ev_congr (x:=x) h]
 | b2s x=>simp only [execI,Opd.ev_congr (x:=x) h]
 | s2s x=>simp only [execI,Opd.ev_congr (x:=x) h]
 | faddr o x=>simp only [execI,Opd.ev_congr (x:=x) h]
 | field k o x=>simp only [execI,Opd.ev_congr (x:=x) h]
 | ext x i=>simp only [execI,Opd.ev_congr (x:=x) h]
 | len x=>simp only [execI,Opd.ev_congr (x:=x) h]
 | slen x=>simp only [execI,Opd.ev_congr (x:=x) h]
 | nilchk x=>simp only [execI,Opd.ev_congr (x:=x) h]
 | mki t x=>simp only [execI,Opd.ev_congr (x:=x) h]
 | panic x=>simp only [execI,Opd.ev_congr (x:=x) h]
 | ld k x=>simp only [execI,Opd.ev_congr (x:=x) h]
 | pick c a b =>
  simp only [Ins.reads,Xl] at h
  simp only [execI,Opd.ev_congr (x:=c) fun n hn=>h n (Xk (Xk hn)),Opd.ev_congr (x:=a) fun n hn=>h n (Xk (Xp hn)),Opd.ev_congr (x:=b) fun n hn=>h n (Xp hn)]
 | st k x y=>simp only [Ins.reads,Xl] at h;simp only [execI,Opd.ev_congr (x:=x) fun n hn=>h n (Xk hn),Opd.ev_congr (x:=y) fun n hn=>h n (Xp hn)]
 | bin k x y=>simp only [Ins.reads,Xl] at h;simp only [execI,Opd.ev_congr (x:=x) fun n hn=>h n (Xk hn),Opd.ev_congr (x:=y) fun n hn=>h n (Xp hn)]
 | iaddr k x y=>simp only [Ins.reads,Xl] at h;simp only [execI,Opd.ev_congr (x:=x) fun n hn=>h n (Xk hn),Opd.ev_congr (x:=y) fun n hn=>h n (Xp hn)]
 | aaddr k n x y=>simp only [Ins.reads,Xl] at h;simp only [execI,Opd.ev_congr (x:=x) fun n hn=>h n (Xk hn),Opd.ev_congr (x:=y) fun n hn=>h n (Xp hn)]
 | sindex x y=>simp only [Ins.reads,Xl] at h;simp only [execI,Opd.ev_congr (x:=x) fun n hn=>h n (Xk hn),Opd.ev_congr (x:=y) fun n hn=>h n (Xp hn)]
 | aindex s k n x y=>simp only [Ins.reads,Xl] at h;simp only [execI,Opd.ev_congr (x:=x) fun n hn=>h n (Xk hn),Opd.ev_congr (x:=y) fun n hn=>h n (Xp hn)]
 | app k b z x y=>simp only [Ins.reads,Xl] at h;simp only [execI,Opd.ev_congr (x:=x) fun n hn=>h n (Xk hn),Opd.ev_congr (x:=y) fun n hn=>h n (Xp hn)]
 | mkslice k b z x y=>simp only [Ins.reads,Xl] at h;simp only [execI,Opd.ev_congr (x:=x) fun n hn=>h n (Xk hn),Opd.ev_congr (x:=y) fun n hn=>h n (Xp hn)]
 | beq k x y=>simp only [Ins.reads,Xl] at h;simp only [execI,Opd.ev_congr (x:=x) fun n hn=>h n (Xk hn),Opd.ev_congr (x:=y) fun n hn=>h n (Xp hn)]
 | peq k x y=>simp only [Ins.reads,Xl] at h;simp only [execI,Opd.ev_congr (x:=x) fun n hn=>h n (Xk hn),Opd.ev_congr (x:=y) fun n hn=>h n (Xp hn)]
 | eqv k ks x y=>simp only [Ins.reads,Xl] at h;simp only [execI,Opd.ev_congr (x:=x) fun n hn=>h n (Xk hn),Opd.ev_congr (x:=y) fun n hn=>h n (Xp hn)]
 | ieq k x y=>simp only [Ins.reads,Xl] at h;simp only [execI,Opd.ev_congr (x:=x) fun n hn=>h n (Xk hn),Opd.ev_congr (x:=y) fun n hn=>h n (Xp hn)]
 | slice k x lo hi mx =>
  simp only [Ins.reads,Xl] at h
  simp only [execI,Opd.ev_congr (x:=x) fun n hn=>h n (Xk (Xk (Xk hn))),Zgx (x:=lo) fun n hn=>h n (Xk (Xk (Xp hn))),Zgx (x:=hi) fun n hn=>h n (Xk (Xp hn)),Zgx (x:=mx) fun n hn=>h n (Xp hn)]
 | sslice x lo hi =>
  simp only [Ins.reads,Xl] at h
  simp only [execI,Opd.ev_congr (x:=x) fun n hn=>h n (Xk (Xk hn)),Zgx (x:=lo) fun n hn=>h n (Xk (Xp hn)),Zgx (x:=hi) fun n hn=>h n (Xp hn)]
 | mm m xs=>simp only [Ins.reads] at h;simp only [execI,ZiP h]
 | call f own vw xs=>simp only [Ins.reads] at h;simp only [execI,ZiP h]
 | mkfn f xs=>simp only [Ins.reads] at h;simp only [execI,ZiP h]
 | callv x xs =>
  simp only [Ins.reads,Xl] at h
  simp only [execI,Opd.ev_congr (x:=x) fun n hn=>h n (Xk hn),ZiP (xs:=xs) fun n hn=>h n (Xp hn)]
def Agree (σ σ2:Za) (ts:List Nat):Prop:=∀ t ∈ ts,σ2[t]?=σ[t]?
theorem Agree.left {ts us:List Nat} (h:Agree σ σ2 (ts++us)):Agree σ σ2 ts:=fun t ht=>h t (by simp [ht])
theorem Agree.right {ts us:List Nat} (h:Agree σ σ2 (ts++us)):Agree σ σ2 us:=fun t ht=>h t (by simp [ht])
theorem ZfX {a:AVal} {xs:List AVal} {ts:List Nat} (h:Zaf σ a=some (xs,ts)) (hA:Agree σ σ2 ts):Zaf σ2 a=some (xs,ts):=by
 unfold Zaf at h ⊢
 split at h
 ·exact h
 ·exact h
 ·rename_i t g lo n
  have ht:t ∈ ts:=by
   split at h
   ·split at h
    ·simp only [Xa,Xb] at h;rw [<-h.2];simp
    ·cases h
   ·split at h
    ·simp only [Xa,Xb] at h;rw [<-h.2];simp
    ·cases h
   ·cases h
  rw [hA t ht]
  exact h
 ·cases h
theorem Zqx {a y:AVal} {ts:List Nat} (h:ZaT σ a=some (y,ts)) (hA:Agree σ σ2 ts):ZaT σ2 a=some (y,ts):=by
 unfold ZaT at h ⊢
 split at h
 case h_2 =>
  split at h
  ·rename_i he
   simp only [Xa,Xb] at h
   obtain ⟨rfl,rfl⟩:=h
   rw [ZfX he hA]
  ·cases h
 all_goals exact h
theorem ZqW:∀ {cs ys:List AVal} {ts:List Nat},ZbQ σ cs=some (ys,ts)->Agree σ σ2 ts->ZbQ σ2 cs=some (ys,ts)
 | [],ys,ts,h,_=>h
 | c::cs,ys,ts,h,hA=>by
  simp only [ZbQ] at h ⊢
  split at h
  ·rename_i h1
   split at h
   ·rename_i h2
    simp only [Xa,Xb] at h
    obtain ⟨rfl,rfl⟩:=h
    rw [Zqx h1 hA.left]
    simp only
    rw [ZqW h2 hA.right]
   ·cases h
  ·cases h
theorem Zz7 {a y:AVal} {ts:List Nat} (h:ZbH σ a=some (y,ts)) (hA:Agree σ σ2 ts):ZbH σ2 a=some (y,ts):=by
 unfold ZbH at h ⊢
 split at h
 ·split at h
  ·rename_i h1
   simp only [Xa,Xb] at h
   obtain ⟨rfl,rfl⟩:=h
   rw [ZqW h1 hA]
  ·cases h
 ·exact Zqx h hA
theorem Zjs:∀ {cs ys:List AVal} {ts:List Nat},viewAs σ cs=some (ys,ts)->Agree σ σ2 ts->viewAs σ2 cs=some (ys,ts)
 | [],ys,ts,h,_=>h
 | c::cs,ys,ts,h,hA=>by
  simp only [viewAs] at h ⊢
  split at h
  ·rename_i h1
   split at h
   ·rename_i h2
    simp only [Xa,Xb] at h
    obtain ⟨rfl,rfl⟩:=h
    rw [Zz7 h1 hA.left]
    simp only
    rw [Zjs h2 hA.right]
   ·cases h
  ·cases h
theorem Zpu {a y:AVal} {ts:List Nat} (h:Zch σ a=some (y,ts)) (hA:Agree σ σ2 ts):Zch σ2 a=some (y,ts):=by
 unfold Zch at h ⊢
 split at h
 case h_2 =>
  split at h
  ·rename_i he
   simp only [Xa,Xb] at h
   obtain ⟨rfl,rfl⟩:=h
   rw [ZfX he hA]
  ·cases h
 all_goals exact h
theorem Zq8:∀ {cs ys:List AVal} {ts:List Nat},Zb3 σ cs=some (ys,ts)->Agree σ σ2 ts->Zb3 σ2 cs=some (ys,ts)
 | [],ys,ts,h,_=>h
 | c::cs,ys,ts,h,hA=>by
  simp only [Zb3] at h ⊢
  split at h
  ·rename_i h1
   split at h
   ·rename_i h2
    simp only [Xa,Xb] at h
    obtain ⟨rfl,rfl⟩:=h
    rw [Zpu h1 hA.left]
    simp only
    rw [Zq8 h2 hA.right]
   ·cases h
  ·cases h
theorem ZzT {a y:AVal} {ts:List Nat} (h:showA σ a=some (y,ts)) (hA:Agree σ σ2 ts):showA σ2 a=some (y,ts):=by
 unfold showA at h ⊢
 split at h
 ·split at h
  ·rename_i h1
   simp only [Xa,Xb] at h
   obtain ⟨rfl,rfl⟩:=h
   rw [Zq8 h1 hA]
  ·cases h
 ·exact Zpu h hA
theorem ZjS:∀ {cs ys:List AVal} {ts:List Nat},showAs σ cs=some (ys,ts)->Agree σ σ2 ts->showAs σ2 cs=some (ys,ts)
 | [],ys,ts,h,_=>h
 | c::cs,ys,ts,h,hA=>by
  simp only [showAs] at h ⊢
  split at h
  ·rename_i h1
   split at h
   ·rename_i h2
    simp only [Xa,Xb] at h
    obtain ⟨rfl,rfl⟩:=h
    rw [ZzT h1 hA.left]
    simp only
    rw [ZjS h2 hA.right]
   ·cases h
  ·cases h
def Zaa (σ:Za) (s:Nat):Option Zg->Za
 | none=>σ
 | some b=>σ.set s b
def Zdj (σ:Za) (ts:List Nat):Prop:=∀ t ∈ ts,∃ x,σ[t]?=some x/\x≠.free
theorem Rowy.nonfree {ts:List Nat} (h:Rowy σ ts):Zdj σ ts:=by
 intro t ht
 obtain ⟨g,k,xs,h | h⟩:=h t ht
 ·exact ⟨_,h,by simp⟩
 ·exact ⟨_,h,by simp⟩
theorem Zct:Zdj σ []:=fun t ht=>by simp at ht
theorem Zkp {t:Nat} {x:Zg} (h:σ[t]?=some x) (hx:x≠.free):Zdj σ [t]:=fun t' ht=>by
 simp at ht;subst ht;exact ⟨x,h,hx⟩
def Framed (f:Za->Option (AVal×Za×Cls)) (σ:Za) (sq ns:Nat) (v:AVal) (σ':Za) (c:Cls):Prop :=
 ∃ ob,σ'=Zaa σ sq ob/\(ob.isSome=true->ns≠0)/\ob≠some .free/\Zdj σ c.rd/\∀ σ2,Agree σ σ2 c.rd->f σ2=some (v,Zaa σ2 sq ob,c)
theorem Framed.pure {f:Za->Option (AVal×Za×Cls)} {v:AVal} {c:Cls} {ns:Nat} (hr:c.rd=[]) (hf:∀ σ2,f σ2=some (v,σ2,c)):Framed f σ sq ns v σ c :=
 ⟨none,rfl,by simp,by simp,by rw [hr];exact Zct,fun σ2 _=>hf σ2⟩
theorem Ze4 {t:Nat} (h:σ2[t]?=σ[t]?):Z2 σ2 t=Z2 σ t:=by unfold Z2;rw [h]
theorem Zg1 {t:Nat} {ns:ZD} (h:Z2 σ t=some ns):∃ x,σ[t]?=some x/\x≠.free:=by
 unfold Z2 at h
 split at h
 ·rename_i e;exact ⟨_,e,by simp⟩
 ·rename_i e;exact ⟨_,e,by simp⟩
 ·cases h
theorem ZB7 {kc:Nat} {z:AVal} {ok:Bool} {m k v:AVal} {c:Cls} {ns:Nat} (h:ZbS σ kc z ok m k=some (v,σ',c)):Framed (fun σ=>ZbS σ kc z ok m k) σ sq ns v σ' c:=by
 unfold ZbS at h
 split at h
 case isFalse=>cases h
 rename_i hk
 split at h
 ·simp only [Xa,Xb] at h
  obtain ⟨rfl,rfl,rfl⟩:=h
  exact Framed.pure rfl fun σ2=>by simp only [ZbS];rw [if_pos hk]
 ·rename_i t j nx
  split at h
  case h_2=>cases h
  rename_i ns hns
  obtain ⟨x,hx,hxf⟩:=Zg1 hns
  have hnf:Zdj σ [t]:=fun u hu=>by rw [XM] at hu;subst hu;exact ⟨x,hx,hxf⟩
  split at h
  case h_2=>cases h
  rename_i nd hj
  split at h
  ·rename_i y hf
   simp only [Xa,Xb] at h
   obtain ⟨rfl,rfl,rfl⟩:=h
   refine ⟨none,rfl,by simp,by simp,hnf,fun σ2 hA=>?_⟩
   have e2:=Ze4 (hA t (by simp))
   simp only [ZbS,e2,hns,hj,hf,Zaa]
   rw [if_pos hk]
  ·rename_i hf
   simp only [Xa,Xb] at h
   obtain ⟨rfl,rfl,rfl⟩:=h
   refine ⟨none,rfl,by simp,by simp,hnf,fun σ2 hA=>?_⟩
   have e2:=Ze4 (hA t (by simp))
   simp only [ZbS,e2,hns,hj,hf,Zaa]
   rw [if_pos hk]
  ·cases h
 ·rename_i t
  split at h
  ·rename_i es hs
   have hnf:Zdj σ [t]:=fun u hu=>by rw [XM] at hu;subst hu;exact ⟨_,hs,by simp⟩
   split at h
   ·rename_i j y hf
    simp only [Xa,Xb] at h
    obtain ⟨rfl,rfl,rfl⟩:=h
    refine ⟨none,rfl,by simp,by simp,hnf,fun σ2 hA=>?_⟩
    have e2:σ2[t]?=some (.map es):=by rw [hA t (by simp)];exact hs
    simp only [ZbS,e2,hf,Zaa]
    rw [if_pos hk]
   ·rename_i hf
    simp only [Xa,Xb] at h
    obtain ⟨rfl,rfl,rfl⟩:=h
    refine ⟨none,rfl,by simp,by simp,hnf,fun σ2 hA=>?_⟩
    have e2:σ2[t]?=some (.map es):=by rw [hA t (by simp)];exact hs
    simp only [ZbS,e2,hf,Zaa]
    rw [if_pos hk]
   ·cases h
  ·rename_i es hs
   have hnf:Zdj σ [t]:=fun u hu=>by rw [XM] at hu;subst hu;exact ⟨_,hs,by simp⟩
   split at h
   ·rename_i j y hf
    simp only [Xa,Xb] at h
    obtain ⟨rfl,rfl,rfl⟩:=h
    refine ⟨none,rfl,by simp,by simp,hnf,fun σ2 hA=>?_⟩
    have e2:σ2[t]?=some (.rmap es):=by rw [hA t (by simp)];exact hs
    simp only [ZbS,e2,hf,Zaa]
    rw [if_pos hk]
   ·rename_i hf
    simp only [Xa,Xb] at h
    obtain ⟨rfl,rfl,rfl⟩:=h
    refine ⟨none,rfl,by simp,by simp,hnf,fun σ2 hA=>?_⟩
    have e2:σ2[t]?=some (.rmap es):=by rw [hA t (by simp)];exact hs
    simp only [ZbS,e2,hf,Zaa]
    rw [if_pos hk]
   ·cases h
  ·cases h
 ·cases h
theorem ZFm {m v:AVal} {c:Cls} {ns:Nat} (h:Zea σ m=some (v,σ',c)):Framed (fun σ=>Zea σ m) σ sq ns v σ' c:=by
 unfold Zea at h
 split at h
 ·simp only [Xa,Xb] at h
  obtain ⟨rfl,rfl,rfl⟩:=h
  exact Framed.pure rfl fun σ2=>rfl
 ·rename_i t j nx
  split at h
  case h_2=>cases h
  rename_i ns hns
  obtain ⟨x,hx,hxf⟩:=Zg1 hns
  split at h
  case h_2=>cases h
  rename_i nd hj
  simp only [Xa,Xb] at h
  obtain ⟨rfl,rfl,rfl⟩:=h
  refine ⟨none,rfl,by simp,by simp,fun u hu=>by rw [XM] at hu;subst hu;exact ⟨x,hx,hxf⟩,fun σ2 hA=>?_⟩
  have e2:=Ze4 (hA t (by simp))
  simp only [Zea,e2,hns,hj,Zaa]
 ·rename_i t
  split at h
  ·rename_i es hs
   simp only [Xa,Xb] at h
   obtain ⟨rfl,rfl,rfl⟩:=h
   refine ⟨none,rfl,by simp,by simp,fun u hu=>by rw [XM] at hu;subst hu;exact ⟨_,hs,by simp⟩,fun σ2 hA=>?_⟩
   have e2:σ2[t]?=some (.map es):=by rw [hA t (by simp)];exact hs
   simp only [Zea,e2,Zaa]
  ·rename_i es hs
   simp only [Xa,Xb] at h
   obtain ⟨rfl,rfl,rfl⟩:=h
   refine ⟨none,rfl,by simp,by simp,fun u hu=>by rw [XM] at hu;subst hu;exact ⟨_,hs,by simp⟩,fun σ2 hA=>?_⟩
   have e2:σ2[t]?=some (.rmap es):=by rw [hA t (by simp)];exact hs
   simp only [Zea,e2,Zaa]
  ·cases h
 ·cases h
theorem ZzH {k:Option Nat} {a v:AVal} {c:Cls} {ns:Nat} (h:ldA σ k a=some (v,σ',c)):Framed (fun σ=>ldA σ k a) σ sq ns v σ' c:=by
 have h0:=h
 unfold ldA at h
 have fin:∀ t,σ'=σ->c.rd=[t]->(∃ x,σ[t]?=some x/\x≠.free)->(∀ σ2:Za,σ2[t]?=σ[t]?->ldA σ2 k a=(ldA σ k a).map fun p=>(p.1,σ2,p.2.2))->Framed (fun σ=>ldA σ k a) σ sq ns v σ' c:=by
  intro t e1 e2 ⟨x,hx,hne⟩ hf
  subst e1
  refine ⟨none,rfl,by simp,by simp,by rw [e2];exact Zkp hx hne,fun σ2 hA=>?_⟩
  rw [e2] at hA
  simp only
  rw [hf σ2 (hA t (by simp)),h0]
  rfl
 split at h
 ·rename_i t o
  split at h
  ·rename_i cs hs
   split at h
   ·rename_i v' hp
    simp only [Xa,Xb] at h
    obtain ⟨rfl,rfl,rfl⟩:=h
    exact fin t rfl rfl ⟨_,hs,by simp⟩ (fun σ2 h2=>by simp only [ldA,h2,hs,hp,XQ])
   ·cases h
  ·cases h
 ·rename_i t g i o
  split at h
  ·rename_i g' kk xs hs
   split at h
   ·rename_i e
    split at h
    ·rename_i x hx
     split at h
     ·rename_i v' hp
      simp only [Xa,Xb] at h
      obtain ⟨rfl,rfl,rfl⟩:=h
      exact fin t rfl rfl ⟨_,hs,by simp⟩ (fun σ2 h2=>by simp only [ldA,h2,hs,e,if_true,hx,hp,XQ])
     ·cases h
    ·cases h
   ·cases h
  ·rename_i g' kk xs hs
   split at h
   ·rename_i e
    split at h
    ·rename_i x hx
     split at h
     ·rename_i v' hp
      simp only [Xa,Xb] at h
      obtain ⟨rfl,rfl,rfl⟩:=h
      exact fin t rfl rfl ⟨_,hs,by simp⟩ (fun σ2 h2=>by simp only [ldA,h2,hs,e,if_true,hx,hp,XQ])
     ·cases h
    ·cases h
   ·cases h
  ·rename_i g' kk xs hs
   split at h
   ·rename_i e
    split at h
    ·rename_i x hx
     split at h
     ·rename_i v' hp
      simp only [Xa,Xb] at h
      obtain ⟨rfl,rfl,rfl⟩:=h
      exact fin t rfl rfl ⟨_,hs,by simp⟩ (fun σ2 h2=>by simp only [ldA,h2,hs,e,if_true,hx,hp,XQ])
     ·cases h
    ·cases h
   ·cases h
  ·cases h
 ·rename_i cs o
  split at h
  ·rename_i v' hp
   simp only [Xa,Xb] at h
   obtain ⟨rfl,rfl,rfl⟩:=h
   exact Framed.pure rfl (fun σ2=>by simp only [ldA,hp])
  ·cases h
 ·rename_i t j o
  split at h
  ·rename_i ns hns
   split at h
   ·rename_i nd hj
    split at h
    ·rename_i ho
     simp only [Xa,Xb] at h
     obtain ⟨rfl,rfl,rfl⟩:=h
     exact fin t rfl rfl (Zg1 hns) (fun σ2 h2=>by simp only [ldA,Ze4 h2,hns,hj,ho,if_true,XQ])
    ·cases h
   ·cases h
  ·cases h
 ·cases h
theorem ZCw {k:Nat} {x i v:AVal} {c:Cls} {ns:Nat} (h:ZbG σ k x i=some (v,σ',c)):Framed (fun σ=>ZbG σ k x i) σ sq ns v σ' c:=by
 have h0:=h
 unfold ZbG at h
 split at h
 case h_2=>cases h
 rename_i kk ii
 split at h
 case isFalse=>cases h
 rename_i hi
 split at h
 ·rename_i b xs
  split at h
  ·rename_i y hy
   split at h
   ·rename_i hk
    simp only [Xa,Xb] at h
    obtain ⟨rfl,rfl,rfl⟩:=h
    exact Framed.pure rfl (fun σ2=>by simp only [ZbG,hi,if_true,hy,hk])
   ·cases h
  ·cases h
 ·rename_i t g p n
  split at h
  case isFalse=>cases h
  rename_i hn
  have fin:σ'=σ->c.rd=[t]->(∃ x,σ[t]?=some x/\x≠.free)->Framed (fun σ=>ZbG σ k (.sl t g p n) (.int kk ii)) σ sq ns v σ' c:=by
   intro e1 e2 ⟨x,hx,hne⟩
   subst e1
   refine ⟨none,rfl,by simp,by simp,by rw [e2];exact Zkp hx hne,fun σ2 hA=>?_⟩
   rw [e2] at hA
   have h2:=hA t (by simp)
   simp only [ZbG,hi,if_true,hn] at h0 ⊢
   rw [h2]
   split at h0
   ·split at h0
    ·rename_i hc
     simp only [Xa,Xb] at h0
     obtain ⟨rfl,_,rfl⟩:=h0
     rename_i hs
     simp only [hc,and_self,if_true]
     rfl
    ·cases h0
   ·split at h0
    ·rename_i hc
     simp only [Xa,Xb] at h0
     obtain ⟨rfl,_,rfl⟩:=h0
     rename_i hs
     simp only [hc,and_self,if_true]
     rfl
    ·cases h0
   ·split at h0
    ·rename_i hc
     simp only [Xa,Xb] at h0
     obtain ⟨rfl,_,rfl⟩:=h0
     rename_i hs
     simp only [hc,and_self,if_true]
     rfl
    ·cases h0
   ·cases h0
  split at h
  ·rename_i hs
   split at h
   ·simp only [Xa,Xb] at h
    exact fin h.2.1.symm (by rw [<-h.2.2]) ⟨_,hs,by simp⟩
   ·cases h
  ·rename_i hs
   split at h
   ·simp only [Xa,Xb] at h
    exact fin h.2.1.symm (by rw [<-h.2.2]) ⟨_,hs,by simp⟩
   ·cases h
  ·rename_i hs
   split at h
   ·simp only [Xa,Xb] at h
    exact fin h.2.1.symm (by rw [<-h.2.2]) ⟨_,hs,by simp⟩
   ·cases h
  ·cases h
 ·cases h
end
end
section
open Go.RowKit
section
variable {O:Zz} {bf:Nat->Bool} {tm tm':Tms} {σ σ' σ2:Za} {sq:Nat}
theorem Framed.one {f:Za->Option (AVal×Za×Cls)} {v:AVal} {c:Cls} {ns t:Nat} (hr:c.rd=[t]) (hn:∃ x,σ[t]?=some x/\x≠.free) (hf:∀ σ2:Za,σ2[t]?=σ[t]?->f σ2=some (v,σ2,c)):Framed f σ sq ns v σ c:=by
 obtain ⟨x,hx,hne⟩:=hn
 exact ⟨none,rfl,by simp,by simp,by rw [hr];exact Zkp hx hne,fun σ2 hA=>hf σ2 (hA t (by rw [hr];simp))⟩
theorem ZyC {k:Nat} {x v:AVal} {lo hi mx:Option AVal} {c:Cls} {ns:Nat} (h:ZbC σ k x lo hi mx=some (v,σ',c)) (hw:c.wr=[]):Framed (fun σ=>ZbC σ k x lo hi mx) σ sq ns v σ' c:=by
 unfold ZbC at h
 split at h
 ·rename_i b xs
  split at h
  ·cases h
  rename_i m hm
  split at h
  ·cases h
  rename_i h' hh
  split at h
  ·cases h
  rename_i l hl
  split at h
  case isFalse=>cases h
  rename_i hk0
  split at h
  ·rename_i hmx
   simp only [Xa,Xb] at h
   obtain ⟨rfl,rfl,rfl⟩:=h
   exact Framed.pure rfl (fun σ2=>by simp only [ZbC,hm,hh,hl,hk0,if_true,hmx])
  ·rename_i hmx
   simp only [Xa,Xb] at h
   obtain ⟨rfl,rfl,rfl⟩:=h
   exact Framed.pure rfl (fun σ2=>by simp only [ZbC,hm,hh,hl,hk0,if_true,hmx,if_false,Xf])
 ·rename_i t g p n
  split at h
  ·cases h
  rename_i els hels
  have hnf:∃ x,σ[t]?=some x/\x≠.free:=by
   simp only [Zaf] at hels
   split at hels
   ·rename_i hs;exact ⟨_,hs,by simp⟩
   ·rename_i hs;exact ⟨_,hs,by simp⟩
   ·cases hels
  have hel2:∀ σ2:Za,σ2[t]?=σ[t]?->Zaf σ2 (.sl t g p n)=some els:=by
   intro σ2 h2
   rw [<-hels]
   simp only [Zaf,h2]
  split at h
  ·rename_i m0
   split at h
   ·rename_i q1 hq1
    split at h
    ·rename_i q2 hq2
     split at h
     ·rename_i q3 hq3
      simp only [Xa,Xb] at h
      obtain ⟨rfl,rfl,rfl⟩:=h
      exact Framed.one rfl hnf (fun σ2 h2=>by simp only [ZbC,hel2 σ2 h2,hq1,hq2,hq3])
     ·cases h
    ·cases h
   ·rename_i hq0
    split at h
    ·rename_i q1 hq1
     split at h
     ·rename_i q2 hq2
      split at h
      ·rename_i q3 hq3
       simp only [Xa,Xb] at h
       obtain ⟨rfl,rfl,rfl⟩:=h
       exact Framed.one rfl hnf (fun σ2 h2=>by simp only [ZbC,hel2 σ2 h2,hq0,hq1,hq2,hq3])
      ·cases h
     ·cases h
    ·cases h
  ·split at h
   ·rename_i g' k' xs hs
    split at h
    case isFalse=>cases h
    rename_i hkk
    split at h
    ·cases h
    rename_i h' hh
    split at h
    ·cases h
    rename_i l hl
    simp only [Xa,Xb] at h
    obtain ⟨rfl,rfl,rfl⟩:=h
    exact Framed.one rfl hnf (fun σ2 h2=>by simp only [ZbC,hel2 σ2 h2,h2,hs,hkk,if_true,hh,hl])
   ·rename_i g' k' xs hs
    split at h
    case isFalse=>cases h
    rename_i hkk
    split at h
    ·cases h
    rename_i h' hh
    split at h
    ·cases h
    rename_i l hl
    simp only [Xa,Xb] at h
    obtain ⟨rfl,rfl,rfl⟩:=h
    exact Framed.one rfl hnf (fun σ2 h2=>by simp only [ZbC,hel2 σ2 h2,h2,hs,hkk,if_true,hh,hl])
   ·cases h
 ·cases h
theorem Zxv {k bytes:Nat} {x y v:AVal} {c:Cls} (h:ZdO σ sq k bytes x y=some (v,σ',c)):c.any=true:=by
 unfold ZdO at h
 repeat' (split at h)
 all_goals first
  | (cases h;done)
  | (simp only [Xa,Xb] at h;rw [<-h.2.2])
theorem ZI0 {k bytes:Nat} {x y v:AVal} {c:Cls} (h:Zay σ sq k bytes x y=some (v,σ',c)) (hw:c.wr=[]) (ha:c.any=false):Framed (fun σ=>Zay σ sq k bytes x y) σ sq 1 v σ' c:=by
 unfold Zay at h
 split at h
 ·rw [Zxv h] at ha;cases ha
 rename_i ys us he
 split at h
 case isFalse=>cases h
 rename_i hk
 have hnf:=(ZmC he).nonfree
 split at h
 ·split at h
  ·rename_i hb
   simp only [Xa,Xb] at h
   obtain ⟨rfl,rfl,rfl⟩:=h
   refine ⟨some (.row 0 k ys),rfl,by simp,by simp,hnf,fun σ2 hA=>?_⟩
   simp only [Zay,ZfX he hA,hk,if_true,hb,Zaa]
  ·cases h
 ·rename_i x0 xs0
  split at h
  ·rename_i hb
   split at h
   ·simp only [Xa,Xb] at h
    obtain ⟨rfl,rfl,rfl⟩:=h
    refine ⟨none,rfl,by simp,by simp,hnf,fun σ2 hA=>?_⟩
    simp only [Zay,ZfX he hA,hk,if_true,Zaa]
    rw [if_pos hb]
   ·rename_i y0 ys0
    simp only [Xa,Xb] at h
    obtain ⟨rfl,rfl,rfl⟩:=h
    refine ⟨some (.row 0 k ((x0::xs0)++(y0::ys0))),rfl,by simp,by simp,hnf,fun σ2 hA=>?_⟩
    simp only [Zay,ZfX he hA,hk,if_true,Zaa]
    rw [if_pos hb]
  ·cases h
 ·split at h
  ·split at h
   ·split at h
    ·simp only [Xa,Xb] at h
     rw [<-h.2.2] at hw;simp at hw
    ·split at h
     ·simp only [Xa,Xb] at h
      rw [<-h.2.2] at hw;simp at hw
     ·cases h
   ·cases h
  ·split at h
   ·simp only [Xa,Xb] at h
    rw [<-h.2.2] at hw;simp at hw
   ·cases h
  ·cases h
 ·cases h
theorem ZqY {σ:Za} {vs:List AVal} (h:Zj σ 1000 (Zu vs) []=[]):Zu vs=[]:=by
 cases e:Zu vs with
 | nil=>rfl
 | cons t r =>
  rw [e] at h
  simp only [Zj,X4,Xf,if_false,List.nil_append] at h
  obtain ⟨_,r',hr⟩:=Zfo (σ:=σ) 999 (Zt (σ.getD t .free)++r) [t] (by simp)
  rw [hr] at h
  simp at h
theorem Zpb {f own:Nat} {view:Bool} {args:List AVal} {v:AVal} {c:Cls} {ns:Nat} (hns:own=1->ns≠0) (h:Zr O bf σ sq f own view args=some (v,σ',c)) (hw:c.wr=[]) (ha:c.any=false):Framed (fun σ=>Zr O bf σ sq f own view args) σ sq ns v σ' c:=by
 unfold Zr at h
 split at h
 ·cases h
 rename_i xs ts hs
 have hnf:Zdj σ ts:=by
  unfold Zbt at hs
  split at hs
  ·simp only [Xa,Xb] at hs
   rw [<-hs.2];exact Zct
  ·exact (Zi4 hs).nonfree
 have hag:∀ σ2,Agree σ σ2 ts->Zbt (bf f) σ2 args=some (xs,ts):=by
  intro σ2 hA
  unfold Zbt at hs ⊢
  split at hs
  ·rename_i hb;rw [if_pos hb];exact hs
  ·rename_i hb;rw [if_neg hb];exact ZjS hs hA
 generalize hids:Zj (Zo σ ts) 1000 (Zu xs) []=ids at h
 unfold ZaS at h
 split at h
 case isFalse=>cases h
 generalize hq:Z4 view ids.length (O f (Zp (Zd (Zo σ ts) 0 ids) xs) (Zi (Zo σ ts) 0 ids (Zd (Zo σ ts) 0 ids) ids 0))=q at h
 cases q with
 | none=>simp only [Z9] at h;cases h
 | some q =>
  obtain ⟨r,hp⟩:=q
  simp only [Z9] at h
  split at h
  ·rename_i hc
   simp only [Xh,Xaa] at hc
   obtain ⟨rfl,rfl⟩:=hc
   have hrl:=ZqY hids
   have hrho:∀ σ:Za,Zd σ 0 []=fun _ _=>none:=fun σ=>by funext t g;simp [Zd,Zw]
   have hall:∀ σ2,Agree σ σ2 ts->Zr O bf σ2 sq f own view args=Z9 σ2 (Zo σ2 ts) [] ts sq own (some (r,[])):=by
    intro σ2 hA
    unfold Zr
    rw [hag σ2 hA]
    simp only
    rw [hrl]
    have h0:Zj (Zo σ2 ts) 1000 [] []=[]:=rfl
    rw [h0]
    unfold ZaS
    simp only [Ww,if_true]
    rw [hrho]
    rw [hrho] at hq
    simp only [Zi] at hq ⊢
    rw [hq]
   split at h
   ·rename_i hf
    simp only [Xa,Xb] at h
    obtain ⟨rfl,rfl,rfl⟩:=h
    refine ⟨none,rfl,by simp,by simp,hnf,fun σ2 hA=>?_⟩
    simp only
    rw [hall σ2 hA]
    simp only [Z9,Xab,Wh,if_true,hf,Zaa]
   split at h
   ·rename_i hf hap
    simp only [Xa,Xb] at h
    obtain ⟨rfl,rfl,rfl⟩:=h
    refine ⟨none,rfl,by simp,by simp,hnf,fun σ2 hA=>?_⟩
    have hap2:ZdE σ2 ts r=true:=by
     unfold ZdE at hap ⊢
     simp only [Xh] at hap ⊢
     refine ⟨hap.1,XF.2 fun t ht=>?_⟩
     have:=XF.1 hap.2 t ht
     unfold Ze7 at this ⊢
     rw [hA t ht];exact this
    simp only
    rw [hall σ2 hA]
    simp only [Z9,Xab,Wh,if_true,hf,hap2,Zaa,if_false,Xf]
   ·rename_i hf hap
    simp only [Xa,Xb] at h
    obtain ⟨rfl,rfl,rfl⟩:=h
    simp only at hw
    subst hw
    refine ⟨none,rfl,by simp,by simp,hnf,fun σ2 hA=>?_⟩
    simp only
    rw [hall σ2 hA]
    simp only [Z9,Xab,Wh,if_true,hf,Zaa,Zo,if_false,Xf,ZdE,Xab,Bool.not_true,Bool.false_and]
  ·rename_i hne
   split at h
   ·rename_i lo n k xs' hcl
    have hcl0:=hcl
    split at hcl
    case isFalse=>cases hcl
    rename_i hid
    simp only [Xaa] at hid
    subst hid
    unfold ZeJ at hcl
    split at hcl
    case h_2=>cases hcl
    split at hcl
    case isFalse=>cases hcl
    rename_i hcc
    simp only [Xh,decide_eq_true_eq] at hcc
    simp only [Xa,Xb] at hcl h
    obtain ⟨rfl,rfl,rfl,rfl⟩:=hcl
    obtain ⟨rfl,rfl,rfl⟩:=h
    have hrl:=ZqY hids
    have hrho:∀ σ:Za,Zd σ 0 []=fun _ _=>none:=fun σ=>by funext t g;simp [Zd,Zw]
    refine ⟨some (.row 0 _ _),rfl,fun _=>hns hcc.1,by simp,hnf,fun σ2 hA=>?_⟩
    simp only
    unfold Zr
    rw [hag σ2 hA]
    simp only
    rw [hrl]
    have h0:Zj (Zo σ2 ts) 1000 [] []=[]:=rfl
    rw [h0]
    unfold ZaS
    simp only [Ww,if_true]
    rw [hrho]
    rw [hrho] at hq
    simp only [Zi] at hq ⊢
    rw [hq]
    simp only [Z9]
    rw [if_neg hne,hcl0]
    rfl
   split at h
   ·simp only [Xa,Xb] at h
    rw [<-h.2.2] at ha;simp at ha
   ·cases h
theorem Zcb {x:Option AVal} {v:AVal} {c:Cls} (h:x.map (fun r=>(r,σ,({}:Cls)))=some (v,σ',c)):σ'=σ/\c={}/\x=some v:=by
 simp only [Xi,Xb] at h
 obtain ⟨a,h1,rfl,rfl,rfl⟩:=h
 exact ⟨rfl,rfl,h1⟩
theorem ZC2 {ins : Ins} {v : AVal} {c : Cls} (h : execI O bf tm σ sq ins = some (v, σ', c)) (hw : c.wr = []) (ha : c.any = false) : Framed (fun σ => execI O bf tm σ sq ins) σ sq (nsite ins) v σ' c := by
  cases ins with
  | alloc zs =>
    simp only [execI, Xa, Xb] at h
    obtain ⟨rfl, rfl, rfl⟩ := h
    exact ⟨some (.var zs), rfl, by simp [nsite], by simp, Zct, fun σ2 _ => rfl⟩
  | box x =>
    simp only [execI] at h
    split at h
    . cases h
    . cases h
    . cases h
    . rename_i hne1 hne2 hne3
      simp only [Xa, Xb] at h
      obtain ⟨rfl, rfl, rfl⟩ := h
      refine ⟨some (.var (x.ev tm).cells), rfl, by simp [nsite], by simp, Zct, fun σ2 _ => ?_⟩
      simp only [execI, Zaa]
  | mkslice k b z x y =>
    simp only [execI] at h
    split at h
    . rename_i l c' e1 e2
      split at h
      . rename_i hc
        simp only [Xa, Xb] at h
        obtain ⟨rfl, rfl, rfl⟩ := h
        refine ⟨some (.row 0 k (Xy c'.toNat z)), rfl, by simp [nsite], by simp, Zct, fun σ2 _ => ?_⟩
        simp only [execI, e1, e2, Zaa]
        try rw [if_pos hc]
      . cases h
    . cases h
  | bslice own k n z ps =>
    simp only [execI] at h
    split at h
    . cases h
    rename_i ys ts hv
    split at h
    case isFalse => cases h
    rename_i hc
    split at h
    . rename_i ho
      simp only [Xa, Xb] at h
      obtain ⟨rfl, rfl, rfl⟩ := h
      simp only at hw
      subst hw
      refine ⟨some (.row 0 k (((ps.map (·.1)).zip ys).foldl (fun l p => l.set p.1 p.2) (Xy n z))), rfl, by simp [nsite, ho], by simp, Zct, fun σ2 hA => ?_⟩
      simp only [execI, Zjs hv hA, Zaa, Zo]
      rw [if_pos hc, if_pos ho]
    . rename_i ho
      simp only [Xa, Xb] at h
      obtain ⟨rfl, rfl, rfl⟩ := h
      simp only at hw
      subst hw
      refine ⟨none, rfl, by simp, by simp, Zct, fun σ2 hA => ?_⟩
      simp only [execI, Zjs hv hA, Zaa, Zo]
      rw [if_pos hc, if_neg ho]
  | rslice k n z ps =>
    simp only [execI] at h
    split at h
    case isFalse => cases h
    rename_i hc
    simp only [Xa, Xb] at h
    obtain ⟨rfl, rfl, rfl⟩ := h
    refine ⟨some (.rrow 0 k ((ps.map fun p => (p.1, p.2.ev tm)).foldl (fun l p => l.set p.1 p.2) (Xy n z))), rfl, by simp [nsite], by simp, Zct, fun σ2 hA => ?_⟩
    simp only [execI, Zaa]
    rw [if_pos hc]
  | rng x =>
    simp only [execI] at h
    split at h
    . rename_i l e
      simp only [Xa, Xb] at h
      obtain ⟨rfl, rfl, rfl⟩ := h
      exact ⟨some (.siter l 0), rfl, by simp [nsite], by simp, Zct, fun σ2 _ => by simp only [execI, e, Zaa]⟩
    . cases h
  | mkmap =>
    simp only [execI, Xa, Xb] at h
    obtain ⟨rfl, rfl, rfl⟩ := h
    exact ⟨some (.map []), rfl, by simp [nsite], by simp, Zct, fun σ2 _ => rfl⟩
  | mkrow x k =>
    simp only [execI] at h
    repeat' split at h
    all_goals first
      | (cases h; done)
      | (simp only [Xa, Xb] at h
         obtain ⟨_, _, rfl⟩ := h
         cases ha)
  | mkbook x =>
    simp only [execI] at h
    split at h
    . rename_i e
      simp only [Xa, Xb] at h
      obtain ⟨rfl, rfl, rfl⟩ := h
      exact ⟨some (.book 0 []), rfl, by simp [nsite], by simp, Zct, fun σ2 _ => by simp only [execI, e, Zaa]⟩
    . cases h
  | look kc z ok m k => simp only [execI] at h ⊢; exact ZB7 h
  | mlen m => simp only [execI] at h ⊢; exact ZFm h
  | mkgmap k =>
    simp only [execI] at h
    split at h
    case isFalse => cases h
    rename_i hk
    simp only [Xa, Xb] at h
    obtain ⟨rfl, rfl, rfl⟩ := h
    exact ⟨some (.gmap k []), rfl, by simp [nsite], by simp, Zct, fun σ2 _ => by simp only [execI]; rw [if_pos hk]; rfl⟩
  | glook kc z m k =>
    simp only [execI] at h
    unfold ZeE at h
    repeat' (split at h)
    all_goals first
      | (cases h; done)
      | (simp only [Xa, Xb] at h; rw [<- h.2.2] at hw; cases hw)
  | mset kc m k v =>
    simp only [execI] at h
    unfold ZcW at h
    repeat' (split at h)
    all_goals first
      | (cases h; done)
      | (simp only [Xa, Xb] at h; rw [<- h.2.2] at hw; cases hw)
  | mdel kc m k =>
    simp only [execI] at h ⊢
    unfold Ze0 at h
    split at h
    case isFalse => cases h
    rename_i hk
    split at h
    . rename_i e
      simp only [Xa, Xb] at h; obtain ⟨rfl, rfl, rfl⟩ := h
      refine Framed.pure rfl fun σ2 => ?_
      simp only [Ze0, e]
      rw [if_pos hk]
    . repeat' (split at h)
      all_goals first
        | (cases h; done)
        | (simp only [Xa, Xb] at h; rw [<- h.2.2] at hw; cases hw)
    . repeat' (split at h)
      all_goals first
        | (cases h; done)
        | (simp only [Xa, Xb] at h; rw [<- h.2.2] at hw; cases hw)
    . cases h
  | clr k z x =>
    simp only [execI] at h
    unfold ZhQ at h
    repeat' (split at h)
    all_goals first
      | (cases h; done)
      | (simp only [Xa, Xb] at h; rw [<- h.2.2] at hw; cases hw)
  | nxt x =>
    simp only [execI] at h
    repeat' (split at h)
    all_goals first
      | (cases h; done)
      | (simp only [Xa, Xb] at h; rw [<- h.2.2] at ha; cases ha)
  | ld k a => simp only [execI] at h ⊢; exact ZzH h
  | st k a x =>
    simp only [execI] at h
    unfold stA at h
    split at h
    . split at h
      . split at h
        . split at h
          . simp only [Xa, Xb] at h; rw [<- h.2.2] at hw; simp at hw
          . cases h
        . cases h
      . split at h
        . split at h
          . split at h
            . split at h
              . split at h
                . cases h
                . split at h
                  . simp only [Xa, Xb] at h; rw [<- h.2.2] at hw; simp at hw
                  . cases h
              . cases h
            . cases h
          . cases h
        . split at h
          . split at h
            . split at h
              . simp only [Xa, Xb] at h; rw [<- h.2.2] at hw; simp at hw
              . cases h
            . cases h
          . cases h
        . cases h
      . cases h
    . cases h
  | slice k x lo hi mx => simp only [execI] at h ⊢; exact ZyC h hw
  | iaddr k x i => simp only [execI] at h ⊢; exact ZCw h
  | app k b z x y => simp only [execI] at h ⊢; exact ZI0 h hw ha
  | b2s x =>
    simp only [execI] at h
    split at h
    . rename_i xs ts he
      split at h
      . rename_i l hl
        simp only [Xa, Xb] at h
        obtain ⟨rfl, rfl, rfl⟩ := h
        refine ⟨none, rfl, by simp, by simp, (ZmC he).nonfree, fun σ2 hA => ?_⟩
        simp only [execI, ZfX he hA, hl, Zaa]
      . cases h
    . cases h
  | s2s x =>
    simp only [execI] at h
    split at h
    . split at h
      . split at h
        . simp only [Xa, Xb] at h; rw [<- h.2.2] at hw; simp at hw
        . cases h
      . cases h
    . cases h
  | call f own vw xs => simp only [execI] at h ⊢; exact Zpb (fun ho => by simp [nsite, ho]) h hw ha
  | callv x xs =>
    simp only [execI] at h
    split at h
    . rename_i f caps e
      have := Zpb (ns := nsite (.callv x xs)) (fun ho => absurd ho (by decide)) h hw ha
      have he : (fun σ => execI O bf tm σ sq (.callv x xs)) = fun σ => Zr O bf σ sq (if f < 1000000 then f else f - 1000000) 4 false (if f < 1000000 then xs.map (·.ev tm) ++ caps else caps ++ xs.map (·.ev tm)) := by funext σ; simp only [execI, e]
      rw [he]; exact this
    . cases h
  | mki t x =>
    simp only [execI] at h
    split at h
    . cases h
    . cases h
    . cases h
    . simp only [Xa, Xb] at h; obtain ⟨rfl, rfl, rfl⟩ := h; exact Framed.pure rfl (fun σ2 => by simp only [execI])
  | panic x =>
    simp only [execI] at h
    split at h
    . rename_i e; simp only [Xa, Xb] at h; obtain ⟨rfl, rfl, rfl⟩ := h; exact Framed.pure rfl (fun σ2 => by simp only [execI, e])
    . cases h
  | eqv neg ks x y =>
    simp only [execI] at h
    split at h
    . rename_i e1 e2
      split at h
      . rename_i e4
        split at h
        . rename_i e3; simp only [Xa, Xb] at h; obtain ⟨rfl, rfl, rfl⟩ := h; exact Framed.pure rfl (fun σ2 => by simp only [execI, e1, e2, e3, e4, if_true])
        . cases h
      . cases h
    . cases h
  | ieq neg x y =>
    simp only [execI] at h
    split at h
    . rename_i e1 e2; simp only [Xa, Xb] at h; obtain ⟨rfl, rfl, rfl⟩ := h; exact Framed.pure rfl (fun σ2 => by simp only [execI, e1, e2])
    . rename_i e1 e2; simp only [Xa, Xb] at h; obtain ⟨rfl, rfl, rfl⟩ := h; exact Framed.pure rfl (fun σ2 => by simp only [execI, e1, e2])
    . rename_i e1 e2; simp only [Xa, Xb] at h; obtain ⟨rfl, rfl, rfl⟩ := h; exact Framed.pure rfl (fun σ2 => by simp only [execI, e1, e2])
    . cases h
  | mov x => simp only [execI, Xa, Xb] at h; obtain ⟨rfl, rfl, rfl⟩ := h; exact Framed.pure rfl (fun σ2 => rfl)
  | mkfn f xs => simp only [execI, Xa, Xb] at h; obtain ⟨rfl, rfl, rfl⟩ := h; exact Framed.pure rfl (fun σ2 => rfl)
  | bin op x y =>
    simp only [execI] at h
    obtain ⟨rfl, rfl, hx⟩ := Zcb h
    exact Framed.pure rfl (fun σ2 => by simp only [execI, hx, XQ])
  | un op x =>
    simp only [execI] at h
    obtain ⟨rfl, rfl, hx⟩ := Zcb h
    exact Framed.pure rfl (fun σ2 => by simp only [execI, hx, XQ])
  | faddr off x =>
    simp only [execI] at h
    obtain ⟨rfl, rfl, hx⟩ := Zcb h
    exact Framed.pure rfl (fun σ2 => by simp only [execI, hx, XQ])
  | pick a b d =>
    simp only [execI] at h
    unfold Zep at h
    split at h
    . rename_i e; simp only [Xa, Xb] at h; obtain ⟨rfl, rfl, rfl⟩ := h; exact Framed.pure rfl (fun σ2 => by simp only [execI, Zep, e])
    . rename_i e; simp only [Xa, Xb] at h; obtain ⟨rfl, rfl, rfl⟩ := h; exact Framed.pure rfl (fun σ2 => by simp only [execI, Zep, e])
    . cases h
  | build zs ps =>
    simp only [execI] at h
    split at h
    . rename_i cs hf
      simp only [Xa, Xb] at h; obtain ⟨rfl, rfl, rfl⟩ := h
      exact Framed.pure rfl (fun σ2 => by simp only [execI, hf])
    . cases h
  | i2i k x =>
    simp only [execI] at h
    split at h
    . rename_i e; simp only [Xa, Xb] at h; obtain ⟨rfl, rfl, rfl⟩ := h; exact Framed.pure rfl (fun σ2 => by simp only [execI, e])
    . cases h
  | i2s x =>
    simp only [execI] at h
    split at h
    . rename_i e; simp only [Xa, Xb] at h; obtain ⟨rfl, rfl, rfl⟩ := h; exact Framed.pure rfl (fun σ2 => by simp only [execI, e])
    . cases h
  | same x =>
    simp only [execI] at h
    split at h
    . rename_i e; simp only [Xa, Xb] at h; obtain ⟨rfl, rfl, rfl⟩ := h; exact Framed.pure rfl (fun σ2 => by simp only [execI, e])
    . cases h
  | s2b x =>
    simp only [execI] at h
    split at h
    . rename_i e; simp only [Xa, Xb] at h; obtain ⟨rfl, rfl, rfl⟩ := h; exact Framed.pure rfl (fun σ2 => by simp only [execI, e])
    . cases h
  | sslice x lo hi =>
    simp only [execI] at h
    split at h
    . rename_i s e
      split at h
      . cases h
      rename_i h1 hh
      split at h
      . cases h
      rename_i l hl
      simp only [Xa, Xb] at h; obtain ⟨rfl, rfl, rfl⟩ := h
      exact Framed.pure rfl (fun σ2 => by simp only [execI, e, hh, hl])
    . cases h
  | field k off x =>
    simp only [execI] at h
    split at h
    . rename_i cs e
      obtain ⟨rfl, rfl, hx⟩ := Zcb h
      exact Framed.pure rfl (fun σ2 => by simp only [execI, e, hx, XQ])
    . cases h
  | aaddr k n x i =>
    simp only [execI] at h
    split at h
    . rename_i e
      split at h
      . rename_i hc
        obtain ⟨rfl, rfl, hx⟩ := Zcb h
        exact Framed.pure rfl (fun σ2 => by simp only [execI, e]; rw [if_pos hc, hx]; rfl)
      . cases h
    . cases h
  | sindex x i =>
    simp only [execI] at h
    split at h
    . rename_i e1 e2
      split at h
      . rename_i hc
        simp only [Xi, Xb] at h
        obtain ⟨b, hb, rfl, rfl, rfl⟩ := h
        exact Framed.pure rfl (fun σ2 => by simp only [execI, e1, e2]; rw [if_pos hc, hb]; rfl)
      . cases h
    . cases h
  | aindex s k n x i =>
    simp only [execI] at h
    split at h
    . rename_i e1 e2
      split at h
      . rename_i hc
        obtain ⟨rfl, rfl, hx⟩ := Zcb h
        exact Framed.pure rfl (fun σ2 => by simp only [execI, e1, e2]; rw [if_pos hc, hx]; rfl)
      . cases h
    . cases h
  | ext x i =>
    simp only [execI] at h
    split at h
    . rename_i e
      obtain ⟨rfl, rfl, hx⟩ := Zcb h
      exact Framed.pure rfl (fun σ2 => by simp only [execI, e, hx, XQ])
    . cases h
  | len x =>
    simp only [execI] at h
    split at h
    . rename_i e; simp only [Xa, Xb] at h; obtain ⟨rfl, rfl, rfl⟩ := h; exact Framed.pure rfl (fun σ2 => by simp only [execI, e])
    . rename_i e; simp only [Xa, Xb] at h; obtain ⟨rfl, rfl, rfl⟩ := h; exact Framed.pure rfl (fun σ2 => by simp only [execI, e])
    . cases h
  | slen x =>
    simp only [execI] at h
    split at h
    . rename_i e; simp only [Xa, Xb] at h; obtain ⟨rfl, rfl, rfl⟩ := h; exact Framed.pure rfl (fun σ2 => by simp only [execI, e])
    . cases h
  | mm m xs =>
    simp only [execI] at h
    split at h
    . rename_i e; simp only [Xa, Xb] at h; obtain ⟨rfl, rfl, rfl⟩ := h; exact Framed.pure rfl (fun σ2 => by simp only [execI, e])
    . cases h
  | nilchk x =>
    simp only [execI] at h
    split at h
    . rename_i e; simp only [Xa, Xb] at h; obtain ⟨rfl, rfl, rfl⟩ := h; exact Framed.pure rfl (fun σ2 => by simp only [execI, e])
    . rename_i e; simp only [Xa, Xb] at h; obtain ⟨rfl, rfl, rfl⟩ := h; exact Framed.pure rfl (fun σ2 => by simp only [execI, e])
    . rename_i e; simp only [Xa, Xb] at h; obtain ⟨rfl, rfl, rfl⟩ := h; exact Framed.pure rfl (fun σ2 => by simp only [execI, e])
    . rename_i e; simp only [Xa, Xb] at h; obtain ⟨rfl, rfl, rfl⟩ := h; exact Framed.pure rfl (fun σ2 => by simp only [execI, e])
    . cases h
  | beq neg x y =>
    simp only [execI] at h
    split at h
    . rename_i e1 e2; simp only [Xa, Xb] at h; obtain ⟨rfl, rfl, rfl⟩ := h; exact Framed.pure rfl (fun σ2 => by simp only [execI, e1, e2])
    . cases h
  | peq neg x y =>
    simp only [execI] at h
    split at h
    . rename_i e1 e2; simp only [Xa, Xb] at h; obtain ⟨rfl, rfl, rfl⟩ := h; exact Framed.pure rfl (fun σ2 => by simp only [execI, e1, e2])
    . rename_i e1 e2; simp only [Xa, Xb] at h; obtain ⟨rfl, rfl, rfl⟩ := h; exact Framed.pure rfl (fun σ2 => by simp only [execI, e1, e2])
    . rename_i e1 e2; simp only [Xa, Xb] at h; obtain ⟨rfl, rfl, rfl⟩ := h; exact Framed.pure rfl (fun σ2 => by simp only [execI, e1, e2])
    . rename_i e1 e2; simp only [Xa, Xb] at h; obtain ⟨rfl, rfl, rfl⟩ := h; exact Framed.pure rfl (fun σ2 => by simp only [execI, e1, e2])
    . rename_i e1 e2; simp only [Xa, Xb] at h; obtain ⟨rfl, rfl, rfl⟩ := h; exact Framed.pure rfl (fun σ2 => by simp only [execI, e1, e2])
    . cases h
theorem Zvs {ins:Ins} {v:AVal} {c:Cls} (ht:ins.touches=false) (h:execI O bf tm σ sq ins=some (v,σ',c)):c={}/\nsite ins=0:=by
 cases ins <;> simp [Ins.touches] at ht <;> refine ⟨?_,rfl⟩ <;> simp only [execI] at h
 case mov x=>simp only [Xa,Xb] at h;exact h.2.2.symm
 case mkfn f xs=>simp only [Xa,Xb] at h;exact h.2.2.symm
 case bin op x y=>exact (Zcb h).2.1
 case un op x=>exact (Zcb h).2.1
 case faddr off x=>exact (Zcb h).2.1
 case pick c x y =>
  unfold Zep at h
  split at h
  ·simp only [Xa,Xb] at h;exact h.2.2.symm
  ·simp only [Xa,Xb] at h;exact h.2.2.symm
  ·cases h
 all_goals
  repeat' (split at h)
  all_goals first
   | (cases h;done)
   | (simp only [Xa,Xb] at h;exact h.2.2.symm)
   | exact (Zcb h).2.1
   | (simp only [Xi,Xb] at h;obtain ⟨_,_,_,_,h⟩:=h;exact h.symm)
theorem ZHU {ins:Ins} {v:AVal} {c:Cls} (ht:ins.touches=false) (h:execI O bf tm σ sq ins=some (v,σ',c)):σ'=σ:=by
 cases ins <;> simp [Ins.touches] at ht <;> simp only [execI] at h
 case mov x=>simp only [Xa,Xb] at h;exact h.2.1.symm
 case mkfn f xs=>simp only [Xa,Xb] at h;exact h.2.1.symm
 case bin op x y=>exact (Zcb h).1
 case un op x=>exact (Zcb h).1
 case faddr off x=>exact (Zcb h).1
 case pick c x y =>
  unfold Zep at h
  split at h
  ·simp only [Xa,Xb] at h;exact h.2.1.symm
  ·simp only [Xa,Xb] at h;exact h.2.1.symm
  ·cases h
 all_goals
  repeat' (split at h)
  all_goals first
   | (cases h;done)
   | (simp only [Xa,Xb] at h;exact h.2.1.symm)
   | exact (Zcb h).1
   | (simp only [Xi,Xb] at h;obtain ⟨_,_,_,h,_⟩:=h;exact h.symm)
end
end
section
open Go.RowKit
section
variable {O:Zz} {bf:Nat->Bool} {tm:Tms} {σ σ':Za} {sq s:Nat} {b:Zg}
theorem ZeU:∀ (ts:List Nat) (σ:Za),(Zo σ ts)[s]?=some .free↔σ[s]?=some .free
 | [],σ=>Iff.rfl
 | t::ts,σ=>by
  simp only [Zo]
  split
  ·rename_i g k xs hs
   rw [ZeU ts,Xj]
   split
   ·rename_i e;subst e
    split
    ·simp [hs]
    ·simp [hs]
   ·exact Iff.rfl
  ·exact ZeU ts σ
theorem ZjZ {cs:List AVal} {t:Nat}:∀ (ts:List Nat) (σ:Za),σ[t]?=some (.var cs)->(Zo σ ts)[t]?=some (.var cs)
 | [],σ,h=>h
 | u::ts,σ,h=>by
  simp only [Zo]
  split
  ·rename_i g k xs hs
   refine ZjZ ts _ ?_
   rw [Xj]
   split
   ·rename_i e;subst e;rw [hs] at h;cases h
   ·exact h
  ·exact ZjZ ts σ h
theorem ZkM:∀ (ts:List Nat) (σ:Za),s ∉ ts->Zo (σ.set s b) ts=(Zo σ ts).set s b
 | [],σ,_=>rfl
 | t::ts,σ,h=>by
  simp only [Xv,not_or] at h
  have e:(σ.set s b)[t]?=σ[t]?:=by rw [Xj,if_neg h.1]
  simp only [Zo,e]
  split
  ·rw [W5 _ _ h.1,ZkM ts _ h.2]
  ·exact ZkM ts σ h.2
theorem Zfw {t:Nat} (h:s≠t):(σ.set s b).getD t .free=σ.getD t .free:=by
 rw [Xd,Xd,Xj,if_neg h]
theorem ZkY:∀ (n:Nat) (todo acc:List Nat),∀ x ∈ acc,x ∈ Zj σ n todo acc
 | 0,_,acc,x,h=>h
 | n+1,[],acc,x,h=>h
 | n+1,t::todo,acc,x,h=>by
  simp only [Zj]
  split
  ·exact ZkY n todo acc x h
  ·exact ZkY n _ _ x (by simp [h])
theorem Zky:∀ (n:Nat) (todo acc:List Nat),s ∉ Zj σ n todo acc->Zj (σ.set s b) n todo acc=Zj σ n todo acc
 | 0,_,acc,_=>rfl
 | n+1,[],acc,_=>rfl
 | n+1,t::todo,acc,h=>by
  simp only [Zj] at h ⊢
  split
  ·rename_i hc;rw [if_pos hc] at h;exact Zky n todo acc h
  ·rename_i hc
   rw [if_neg hc] at h
   have hne:s≠t:=by
    rintro rfl
    exact h (ZkY n _ _ s (by simp))
   rw [Zfw hne]
   exact Zky n _ _ h
theorem ZAu {m:Nat} {ids:List Nat} (h:s ∉ ids):Zd (σ.set s b) m ids=Zd σ m ids:=by
 funext t g
 unfold Zd
 split
 ·rename_i j hj
  obtain ⟨k,_,hk⟩:=ZjD hj
  have : s≠t:=by rintro rfl;exact h (Xn hk)
  rw [Xj,if_neg this]
 ·rfl
theorem Zrd {m:Nat} {ids:List Nat} {ρ:Rho}:∀ (ts:List Nat) (j:Nat),s ∉ ts->Zi (σ.set s b) m ids ρ ts j=Zi σ m ids ρ ts j
 | [],_,_=>rfl
 | t::ts,j,h=>by
  simp only [Xv,not_or] at h
  simp only [Zi,Zfw h.1,Zrd ts (j+1) h.2]
theorem Znh {ids:List Nat} (h:s ∉ ids):∀ (hp:Za) (j:Nat),Z5 (σ.set s b) ids hp j=Z5 σ ids hp j
 | [],_=>rfl
 | x::xs,j=>by
  simp only [Z5,Znh h xs (j+1)]
  congr 2
  split
  ·rename_i t ht
   have : s≠t:=by rintro rfl;exact h (Xn ht)
   rw [Zfw this]
  ·rfl
theorem ZoT:∀ (n sq:Nat),(∀ i,i < n->sq+i≠s)->Zac (σ.set s b) sq n=Zac σ sq n
 | 0,_,_=>rfl
 | n+1,sq,h=>by
  have h0:=h 0 (by omega)
  simp only [Zac,freeAt]
  rw [Xj,if_neg (by intro e;exact h0 (by simpa using e.symm)),ZoT n (sq+1) (fun i hi=>by have:=h (i+1) (by omega);rwa [show sq+1+i=sq+(i+1) by omega])]
theorem ZrB {ids:List Nat} (h:s ∉ ids):Zah (σ.set s b) ids sq=Zah σ ids sq:=by
 funext j g
 unfold Zah
 split
 ·rename_i t ht
  have : s≠t:=by rintro rfl;exact h (Xn ht)
  rw [Zfw this]
 ·rfl
theorem Znb {σ0:Za} {ids:List Nat} (h:s ∉ ids):∀ (hp:Za) (j:Nat) (σ:Za),(∀ i,i < hp.length->ZO ids sq (j+i)≠s)->ZY (σ0.set s b) ids sq hp j (σ.set s b)=(ZY σ0 ids sq hp j σ).set s b
 | [],_,_,_=>rfl
 | x::xs,j,σ,hn=>by
  have h0:=hn 0 (by simp)
  simp only [Wo] at h0
  have eg:ZaF (σ0.set s b) ids j x=ZaF σ0 ids j x:=by
   unfold ZaF
   split
   ·rename_i t ht
    have : s≠t:=by rintro rfl;exact h (Xn ht)
    rw [Zfw this]
   ·rfl
  simp only [ZY,ZrB h,eg]
  rw [W5 _ _ (Ne.symm h0)]
  exact Znb h xs (j+1) _ (fun i hi=>by have:=hn (i+1) (by simp;omega);rwa [show j+1+i=j+(i+1) by omega])
theorem Zm7:∀ (ids:List Nat),s ∉ ids->ZaI (σ.set s b) ids=ZaI σ ids
 | [],_=>rfl
 | t::ts,h=>by
  simp only [Xv,not_or] at h
  simp only [ZaI,Xj,if_neg h.1,Zm7 ts h.2]
theorem ZA1 {ρ:Rho} {g:Nat} {x:Zg} (h:okB x=true):Zl ρ g x≠.free:=by
 cases x <;> simp [okB] at h <;> simp [Zl]
theorem ZkN {σ0:Za} {ids:List Nat}:∀ (hp:Za) (j:Nat) (σ:Za),Z5 σ0 ids hp j=true->(ZY σ0 ids sq hp j σ)[s]?=some .free->σ[s]?=some .free
 | [],_,_,_,h=>h
 | x::xs,j,σ,hk,h=>by
  simp only [Z5,Xh] at hk
  simp only [ZY] at h
  have:=ZkN xs (j+1) _ hk.2 h
  rw [Xj] at this
  split at this
  ·split at this
   ·injection this with this;exact absurd this (ZA1 hk.1.1)
   ·cases this
  ·exact this
theorem Zsh {ts:List Nat} (h:Zdj σ ts) (hs:σ[s]?=some .free):s ∉ ts:=by
 intro hm
 obtain ⟨x,hx,hne⟩:=h s hm
 rw [hs] at hx;injection hx with hx;exact hne hx.symm
theorem ZpP {f own:Nat} {view:Bool} {args:List AVal} {v:AVal} {c:Cls} (h:Zr O bf σ sq f own view args=some (v,σ',c)) (hs':σ'[s]?=some .free) (hne:∀ i,i < own->sq+i≠s) :
  σ[s]?=some .free/\Zr O bf (σ.set s b) sq f own view args=some (v,σ'.set s b,c):=by
 unfold Zr at h
 split at h
 ·cases h
 rename_i xs ts hsh
 have hnf:Zdj σ ts:=by
  unfold Zbt at hsh
  split at hsh
  ·simp only [Xa,Xb] at hsh
   rw [<-hsh.2];exact Zct
  ·exact (Zi4 hsh).nonfree
 have hag:∀ σ2,Agree σ σ2 ts->Zbt (bf f) σ2 args=some (xs,ts):=by
  intro σ2 hA
  unfold Zbt at hsh ⊢
  split at hsh
  ·rename_i hb;rw [if_pos hb];exact hsh
  ·rename_i hb;rw [if_neg hb];exact ZjS hsh hA
 generalize hids:Zj (Zo σ ts) 1000 (Zu xs) []=ids at h
 unfold ZaS at h
 split at h
 case isFalse=>cases h
 rename_i hall
 generalize hq:Z4 view ids.length (O f (Zp (Zd (Zo σ ts) 0 ids) xs) (Zi (Zo σ ts) 0 ids (Zd (Zo σ ts) 0 ids) ids 0))=q at h
 have key:σ[s]?=some .free->s ∉ ts/\s ∉ ids/\Zr O bf (σ.set s b) sq f own view args=Z9 (σ.set s b) ((Zo σ ts).set s b) ids ts sq own q:=by
  intro hs
  have n1:=Zsh hnf hs
  have hsf:(Zo σ ts)[s]?=some .free:=(ZeU ts σ).2 hs
  have n2:s ∉ ids:=by
   intro hm
   have:=XF.1 hall s hm
   rw [Xd,hsf] at this
   simp [okB] at this
  refine ⟨n1,n2,?_⟩
  unfold Zr
  rw [hag _ (fun t ht=>by rw [Xj,if_neg (by rintro rfl;exact n1 ht)])]
  simp only
  rw [ZkM ts σ n1,Zky _ _ _ (by rw [hids];exact n2),hids]
  unfold ZaS
  have hall2:(ids.all fun t=>okB (((Zo σ ts).set s b).getD t .free))=true:=by
   rw [XF] at hall ⊢
   intro t ht
   rw [Zfw (by rintro rfl;exact n2 ht)]
   exact hall t ht
  rw [if_pos hall2,ZAu n2,Zrd ids 0 n2,hq]
 cases q with
 | none=>simp only [Z9] at h;cases h
 | some q =>
  obtain ⟨r,hp⟩:=q
  simp only [Z9] at h
  split at h
  ·rename_i hc
   split at h
   ·rename_i hf
    simp only [Xa,Xb] at h
    obtain ⟨rfl,rfl,rfl⟩:=h
    obtain ⟨n1,n2,k⟩:=key hs'
    refine ⟨hs',?_⟩
    rw [k]
    simp only [Z9,hc,if_true,hf]
   split at h
   ·rename_i hf hap
    simp only [Xa,Xb] at h
    obtain ⟨rfl,rfl,rfl⟩:=h
    obtain ⟨n1,n2,k⟩:=key hs'
    refine ⟨hs',?_⟩
    have hap2:ZdE (σ.set s b) ts r=true:=by
     unfold ZdE at hap ⊢
     simp only [Xh] at hap ⊢
     refine ⟨hap.1,XF.2 fun t ht=>?_⟩
     have:=XF.1 hap.2 t ht
     unfold Ze7 at this ⊢
     rw [Xj,if_neg (by rintro rfl;exact n1 ht)];exact this
    rw [k]
    simp only [Z9,hc,if_true,hf,hap2,if_false,Xf]
   ·rename_i hf hap
    simp only [Xa,Xb] at h
    obtain ⟨rfl,rfl,rfl⟩:=h
    have hs:=(ZeU ts σ).1 hs'
    obtain ⟨n1,n2,k⟩:=key hs
    refine ⟨hs,?_⟩
    have hap2:¬ZdE (σ.set s b) ts r=true:=by
     intro h2
     refine hap ?_
     unfold ZdE at h2 ⊢
     simp only [Xh] at h2 ⊢
     refine ⟨h2.1,XF.2 fun t ht=>?_⟩
     have:=XF.1 h2.2 t ht
     unfold Ze7 at this ⊢
     rw [Xj,if_neg (by rintro rfl;exact n1 ht)] at this;exact this
    rw [k]
    simp only [Z9,hc,if_true,hf,if_neg hap2,if_false,Xf]
  ·rename_i hc
   split at h
   ·rename_i lo n k xs' hcl
    simp only [Xa,Xb] at h
    obtain ⟨rfl,rfl,rfl⟩:=h
    have hown:own=1:=by
     split at hcl
     case isFalse=>cases hcl
     unfold ZeJ at hcl
     split at hcl
     case h_2=>cases hcl
     split at hcl
     case isFalse=>cases hcl
     rename_i hcc
     simp only [Xh,decide_eq_true_eq] at hcc
     exact hcc.1
    have hns:sq≠s:=by have:=hne 0 (by omega);simpa using this
    have hs:σ[s]?=some .free:=by rwa [Xj,if_neg hns] at hs'
    obtain ⟨n1,n2,kk⟩:=key hs
    refine ⟨hs,?_⟩
    rw [kk]
    simp only [Z9]
    rw [if_neg hc,hcl]
    simp only
    rw [W5 _ _ (Ne.symm hns)]
   split at h
   ·rename_i hcl hcc
    simp only [Xa,Xb] at h
    obtain ⟨rfl,rfl,rfl⟩:=h
    simp only [Xh,decide_eq_true_eq] at hcc
    obtain ⟨⟨⟨c1,c2⟩,c3⟩,c4⟩:=hcc
    have hs:=(ZeU ts σ).1 (ZkN hp 0 _ c3 hs')
    obtain ⟨n1,n2,kk⟩:=key hs
    refine ⟨hs,?_⟩
    rw [kk]
    have htg:∀ i,i < hp.length->ZO ids sq (0+i)≠s:=by
     intro i hi e
     rw [Xw] at e
     unfold ZO at e
     rw [Xd] at e
     rcases Xav i ids.length with hl | hl
     ·rw [Xm hl] at e
      simp only [Wy] at e
      exact n2 (e ▸ XaA hl)
     ·rw [XO hl] at e
      exact hne (i - ids.length) (by omega) e
    simp only [Z9]
    rw [if_neg hc,hcl]
    simp only [c1,c2,decide_true,Znh n2,c3,ZoT own sq hne,c4,Wh,if_true,ZrB n2,Znb n2 hp 0 _ htg,Zm7 ids n2]
   ·cases h
theorem ZEs {f own:Nat} {view:Bool} {args:List AVal} {v:AVal} {c:Cls} (h:Zr O bf σ sq f own view args=some (v,σ',c)) (hs:σ'[s]?=some .free):σ[s]?=some .free:=by
 unfold Zr at h
 split at h
 ·cases h
 rename_i xs ts hsh
 unfold ZaS at h
 split at h
 case isFalse=>cases h
 generalize Zj (Zo σ ts) 1000 (Zu xs) []=ids at h
 generalize Z4 view ids.length (O f (Zp (Zd (Zo σ ts) 0 ids) xs) (Zi (Zo σ ts) 0 ids (Zd (Zo σ ts) 0 ids) ids 0))=q at h
 cases q with
 | none=>simp only [Z9] at h;cases h
 | some q =>
  obtain ⟨r,hp⟩:=q
  simp only [Z9] at h
  split at h
  ·split at h
   ·simp only [Xa,Xb] at h
    rw [h.2.1];exact hs
   split at h
   ·simp only [Xa,Xb] at h
    rw [h.2.1];exact hs
   ·simp only [Xa,Xb] at h
    rw [<-h.2.1] at hs
    exact (ZeU ts σ).1 hs
  ·split at h
   ·simp only [Xa,Xb] at h
    rw [<-h.2.1,Xj] at hs
    split at hs
    ·split at hs <;> simp at hs
    ·exact hs
   split at h
   ·rename_i hcc
    simp only [Xa,Xb] at h
    rw [<-h.2.1] at hs
    simp only [Xh,decide_eq_true_eq] at hcc
    exact (ZeU ts σ).1 (ZkN hp 0 _ hcc.1.2 hs)
   ·cases h
theorem Zk3 {t:Nat} {cs:List AVal}:∀ {ids:List Nat},(ZaI σ ids).lookup t=some cs->σ[t]?=some (.var cs)
 | [],h=>by simp [ZaI] at h
 | u::us,h=>by
  simp only [ZaI] at h
  split at h
  ·rename_i cs' hu
   rw [XaU] at h
   split at h
   ·rename_i e
    injection h with h;subst h
    have : t=u:=by simpa using e
    rw [this];exact hu
   ·exact Zk3 h
  ·exact Zk3 h
theorem Zie {t:Nat} {cs:List AVal}:∀ {ids:List Nat},(ZaI σ ids).lookup t=none->t ∈ ids->σ[t]?≠some (.var cs)
 | u::us,h,hm=>by
  intro hv
  simp only [ZaI] at h
  rcases Xv.1 hm with e | hm
  ·subst e
   rw [hv] at h
   simp only [XaU,beq_self_eq_true] at h
   cases h
  ·split at h
   ·rw [XaU] at h
    split at h
    ·cases h
    ·exact Zie h hm hv
   ·exact Zie h hm hv
theorem Zrs {σ0:Za} {ids:List Nat} {t:Nat}:∀ (hp:Za) (j:Nat) (σ:Za),(∀ i x,hp[i]?=some x->ZO ids sq (j+i)=t->∃ cs,x=.var cs)->(∃ cs,σ[t]?=some (.var cs))->∃ cs,(ZY σ0 ids sq hp j σ)[t]?=some (.var cs)
 | [],_,_,_,h=>h
 | x::xs,j,σ,hv,⟨cs,h⟩=>by
  simp only [ZY]
  refine Zrs xs (j+1) _ (fun i y hy e=>hv (i+1) y (by simpa using hy) (by rwa [show j+(i+1)=j+1+i by omega])) ?_
  rw [Xj]
  split
  ·rename_i e
   obtain ⟨cs',rfl⟩:=hv 0 x rfl (by simpa using e)
   split
   ·exact ⟨_,rfl⟩
   ·rename_i hl
    rw [e] at hl
    rw [XO (by omega)] at h;cases h
  ·exact ⟨cs,h⟩
theorem Zv2 {f own:Nat} {view:Bool} {args:List AVal} {v:AVal} {c:Cls} (h:Zr O bf σ sq f own view args=some (v,σ',c)) (ha:c.any=true) {t:Nat} {cs:List AVal} (ht:σ[t]?=some (.var cs)) :
  (c.upd.lookup t=none->σ'[t]?=some (.var cs))/\(∀ cs2,c.upd.lookup t=some cs2->σ'[t]?=some (.var cs2)):=by
 unfold Zr at h
 split at h
 ·cases h
 rename_i xs ts hsh
 generalize hids:Zj (Zo σ ts) 1000 (Zu xs) []=ids at h
 unfold ZaS at h
 split at h
 case isFalse=>cases h
 generalize Z4 view ids.length (O f (Zp (Zd (Zo σ ts) 0 ids) xs) (Zi (Zo σ ts) 0 ids (Zd (Zo σ ts) 0 ids) ids 0))=q at h
 cases q with
 | none=>simp only [Z9] at h;cases h
 | some q =>
  obtain ⟨r,hp⟩:=q
  simp only [Z9] at h
  split at h
  ·split at h
   ·simp only [Xa,Xb] at h
    rw [<-h.2.2] at ha;cases ha
   split at h
   ·simp only [Xa,Xb] at h
    rw [<-h.2.2] at ha;cases ha
   ·simp only [Xa,Xb] at h
    rw [<-h.2.2] at ha;cases ha
  ·split at h
   ·simp only [Xa,Xb] at h
    rw [<-h.2.2] at ha;cases ha
   split at h
   ·rename_i hcc
    simp only [Xa,Xb] at h
    obtain ⟨_,rfl,rfl⟩:=h
    simp only [Xh,decide_eq_true_eq] at hcc
    obtain ⟨⟨⟨c1,c2⟩,c3⟩,c4⟩:=hcc
    have hf:=ZjZ ts σ ht
    refine ⟨fun hn=>?_,fun cs2 hc2=>Zk3 hc2⟩
    have tgt:∀ i,i < hp.length->ZO ids sq (0+i)=t->i < ids.length/\ids[i]?=some t:=by
     intro i hi e
     rw [Xw] at e
     unfold ZO at e
     rw [Xd] at e
     rcases Xav i ids.length with hl | hl
     ·rw [Xm hl] at e ⊢
      simp only [Wy] at e
      exact ⟨hl,by rw [e]⟩
     ·rw [XO hl] at e
      simp only [XaT] at e
      have:=Zei c4 (i:=i - ids.length) (by omega)
      rw [e,hf] at this;cases this
    by_cases hm:t ∈ ids
    ·exfalso
     obtain ⟨cs3,h3⟩:=Zrs (σ0:=Zo σ ts) (sq:=sq) (ids:=ids) (t:=t) hp 0 (Zo σ ts) (fun i x hx e=>by
      obtain ⟨hl,hi⟩:=tgt i (Xc.1 hx).1 e
      have:=(ZdB c3 hx).2
      rw [Xw,hi] at this
      simp only at this
      have hk:=this.1
      rw [Xd,hf] at hk
      simp only [Wy] at hk
      cases x <;> simp [Za6] at hk
      exact ⟨_,rfl⟩) ⟨_,hf⟩
     exact Zie hn hm h3
    ·rw [ZgV (fun i hi e=>hm (by
      obtain ⟨hl,hi⟩:=tgt i hi e
      exact Xn hi))]
     exact hf
   ·cases h
theorem Zro {σ0:Za} {ids:List Nat} {sq t n:Nat}:∀ (h:Za) (j:Nat) (σ:Za),(∀ i x,h[i]?=some x->ZO ids sq (j+i)=t->∃ ms:ZD,(x=.arena ms\/x=.rarena ms)/\n<=ms.length)->(∃ ms,Z2 σ t=some ms/\n<=ms.length)->∃ ms,Z2 (ZY σ0 ids sq h j σ) t=some ms/\n<=ms.length
 | [],j,σ,_,h0=>h0
 | b::bs,j,σ,hx,h0=>by
  simp only [ZY]
  refine Zro bs (j+1) _ (fun i x hi e=>hx (i+1) x (by simpa using hi) (by rwa [show j+(i+1)=j+1+i by omega])) ?_
  obtain ⟨ms0,h1,h2⟩:=h0
  by_cases e:ZO ids sq j=t
  ·obtain ⟨ms,h3,h4⟩:=hx 0 b rfl (by simpa using e)
   have ht:t < σ.length:=by
    obtain ⟨x,hx,_⟩:=Zg1 h1
    exact (Xc.1 hx).1
   refine ⟨ms,?_,h4⟩
   rw [e]
   unfold Z2
   rw [XJ ht]
   rcases h3 with rfl | rfl <;> rfl
  ·exact ⟨ms0,by rw [Ze4 (σ:=σ) (by rw [Xs e])];exact h1,h2⟩
theorem Zjp {t:Nat}:∀ (ts:List Nat) (σ:Za),Z2 (Zo σ ts) t=Z2 σ t
 | [],σ=>rfl
 | u::ts,σ=>by
  unfold Zo
  split
  ·rename_i g k xs hu
   rw [Zjp ts]
   by_cases e:u=t
   ·subst e
    unfold Z2
    rw [XJ (Xc.1 hu).1,hu]
   ·exact Ze4 (by rw [Xs e])
  ·exact Zjp ts σ
theorem Zwg {f own:Nat} {view:Bool} {args:List AVal} {v:AVal} {c:Cls} (h:Zr O bf σ sq f own view args=some (v,σ',c)) (ha:c.any=true) {t:Nat} {ns:ZD} (ht:Z2 σ t=some ns):∃ ms,Z2 σ' t=some ms/\ns.length<=ms.length:=by
 unfold Zr at h
 split at h
 ·cases h
 rename_i xs ts hsh
 generalize hids:Zj (Zo σ ts) 1000 (Zu xs) []=ids at h
 unfold ZaS at h
 split at h
 case isFalse=>cases h
 generalize Z4 view ids.length (O f (Zp (Zd (Zo σ ts) 0 ids) xs) (Zi (Zo σ ts) 0 ids (Zd (Zo σ ts) 0 ids) ids 0))=q at h
 cases q with
 | none=>simp only [Z9] at h;cases h
 | some q =>
  obtain ⟨r,hp⟩:=q
  simp only [Z9] at h
  split at h
  ·split at h
   ·simp only [Xa,Xb] at h
    rw [<-h.2.2] at ha;cases ha
   split at h
   ·simp only [Xa,Xb] at h
    rw [<-h.2.2] at ha;cases ha
   ·simp only [Xa,Xb] at h
    rw [<-h.2.2] at ha;cases ha
  ·split at h
   ·simp only [Xa,Xb] at h
    rw [<-h.2.2] at ha;cases ha
   split at h
   ·rename_i hcc
    simp only [Xa,Xb] at h
    obtain ⟨_,rfl,rfl⟩:=h
    simp only [Xh,decide_eq_true_eq] at hcc
    obtain ⟨⟨⟨c1,c2⟩,c3⟩,c4⟩:=hcc
    have hfn:Z2 (Zo σ ts) t=some ns:=by rw [Zjp];exact ht
    obtain ⟨x0,hx0,hx0f⟩:=Zg1 hfn
    refine Zro hp 0 (Zo σ ts) (fun i x hx e=>?_) ⟨ns,hfn,XI _⟩
    have hi:=(Xc.1 hx).1
    have k2:=(ZdB c3 hx).2
    rw [Xw] at e k2
    unfold ZO at e
    rw [Xd] at e
    rcases Xav i ids.length with hl | hl
    ·rw [Xm hl] at e k2
     simp only [Wy] at e k2
     rw [e,Xd,hx0] at k2
     simp only [Wy] at k2
     unfold Z2 at hfn
     rw [hx0] at hfn
     have k3:=k2.1
     cases x0 <;> simp at hfn
     ·subst hfn
      cases x <;> simp [Za6] at k3
      exact ⟨_,Xk rfl,k3⟩
     ·subst hfn
      cases x <;> simp [Za6] at k3
      exact ⟨_,Xp rfl,by omega⟩
    ·rw [XO hl] at e
     simp only [XaT] at e
     have:=Zei c4 (i:=i - ids.length) (by omega)
     rw [e,hx0] at this
     injection this with this
     exact absurd this hx0f
   ·cases h
end
end
section
open Go.RowKit
section
variable {P:Program} {O:Zz} {bf:Nat->Bool} {tm tm1 tm2:Tms} {σ σ' σ1 σ2:Za} {sq:Nat}
theorem ZpR {d:Option Nat} {v:AVal} {n:Nat} (h:d≠some n):tget (tput tm d v) n=tget tm n:=by
 cases d with
 | none=>rfl
 | some d =>
  have : d≠n:=by rintro rfl;exact h rfl
  simp only [tput,Zhl,this,if_false]
theorem ZnV {a b:Nat} (u v:AVal) (h:a≠b):∀ tm:Tms,tins b v (tins a u tm)=tins a u (tins b v tm)
 | []=>by
  simp only [tins]
  by_cases h1:a < b
  ·have h2:¬b < a:=by omega
   have h3:¬b=a:=by omega
   simp [h1,h2,h3]
  ·have h2:b < a:=by omega
   have h3:¬a=b:=h
   simp [h1,h2,h3]
 | (e,w)::r=>by
  have ih:=ZnV u v h r
  rcases Nat.lt_trichotomy e a with ha | ha | ha <;> rcases Nat.lt_trichotomy e b with hb | hb | hb
  ·rcases Nat.lt_or_gt_of_ne h with hab | hab
   ·have n1:¬b < a:=by omega
    have n2:¬b=a:=by omega
    simp [tins,ha,hb,hab,n1,n2]
   ·have n1:¬a < b:=by omega
    have n2:¬a=b:=h
    simp [tins,ha,hb,hab,n1,n2]
  ·subst hb
   have n1:¬a < e:=by omega
   have n2:¬a=e:=h
   simp [tins,ha,n1,n2]
  ·have n1:¬a < b:=by omega
   have n2:¬a=b:=h
   have n3:¬e < b:=by omega
   have n4:¬e=b:=by omega
   simp [tins,ha,n1,n2,n3,n4]
  ·subst ha
   have n1:¬b < e:=by omega
   have n2:¬b=e:=fun q=>h q.symm
   simp [tins,hb,n1,n2]
  ·exact absurd (ha.symm.trans hb) h
  ·subst ha
   have n3:¬e < b:=by omega
   have n4:¬e=b:=by omega
   simp [tins,n3,n4]
  ·have n1:¬b < a:=by omega
   have n2:¬b=a:=by omega
   have n3:¬e < a:=by omega
   have n4:¬e=a:=by omega
   simp [tins,hb,n1,n2,n3,n4]
  ·subst hb
   have n3:¬e < a:=by omega
   have n4:¬e=a:=by omega
   simp [tins,n3,n4]
  ·have n1:¬e < a:=by omega
   have n2:¬e=a:=by omega
   have n3:¬e < b:=by omega
   have n4:¬e=b:=by omega
   simp [tins,n1,n2,n3,n4,ih]
theorem Zdc {a b:Option Nat} (u v:AVal) (h:∀ d,a=some d->b≠some d):tput (tput tm a u) b v=tput (tput tm b v) a u:=by
 cases a with
 | none=>cases b <;> rfl
 | some a =>
  cases b with
  | none=>rfl
  | some b =>
   simp only [tput]
   exact ZnV u v (by rintro rfl;exact h a rfl rfl) tm
theorem ZcA {g:Option (Nat×Bool)} (h:∀ j b,g=some (j,b)->tget tm j=tget tm1 j):Za3 g tm=Za3 g tm1:=by
 cases g with
 | none=>rfl
 | some g=>simp only [Za3];rw [h g.1 g.2 rfl]
theorem ZcB {o:AOp} {j:Nat} {b:Bool} (h:o.guard=some (j,b)):j ∈ o.reads:=by simp [AOp.reads,h]
theorem Zeq {o:AOp} {n:Nat} (h:n ∈ o.ins.reads):n ∈ o.reads:=by simp [AOp.reads,h]
theorem Zd1 {o:AOp} {v:AVal} {c:Cls} (h:Zs O bf o sq tm σ=some (v,tm1,σ1,c)):tm1=tput tm o.dst v/\∀ tm',(∀ n ∈ o.reads,tget tm n=tget tm' n)->Zs O bf o sq tm' σ=some (v,tput tm' o.dst v,σ1,c):=by
 unfold Zs at h
 split at h
 ·cases h
 ·rename_i hw
  simp only [Xa,Xb] at h
  obtain ⟨rfl,rfl,rfl,rfl⟩:=h
  refine ⟨rfl,fun tm' hr=>?_⟩
  simp only [Zs,ZcA (g:=o.guard) (tm:=tm') (tm1:=tm) (fun j b hg=>(hr j (ZcB hg)).symm),hw]
 ·rename_i hw
  split at h
  ·rename_i hf
   split at h
   ·rename_i v' σ'' c' he
    simp only [Xa,Xb] at h
    obtain ⟨rfl,rfl,rfl,rfl⟩:=h
    refine ⟨rfl,fun tm' hr=>?_⟩
    simp only [Zs,ZcA (g:=o.guard) (tm:=tm') (tm1:=tm) (fun j b hg=>(hr j (ZcB hg)).symm),hw]
    rw [if_pos hf,<-ZeF (tm:=tm) (tm':=tm') (fun n hn=>hr n (Zeq hn)),he]
   ·cases h
  ·cases h
theorem Zfk {o:AOp} {v:AVal} {c:Cls} (h:Zs O bf o sq tm σ=some (v,tm1,σ1,c)) (hn:Zcr c=true) :
  ∃ ob,tm1=tput tm o.dst v/\σ1=Zaa σ sq ob/\(ob.isSome=true->nsite o.ins≠0/\freeAt σ sq=true)/\ob≠some .free/\Zdj σ c.rd /\
   ∀ tm' σ2,(∀ n ∈ o.reads,tget tm n=tget tm' n)->Agree σ σ2 c.rd->(nsite o.ins≠0->freeAt σ sq=true->freeAt σ2 sq=true)->Zs O bf o sq tm' σ2=some (v,tput tm' o.dst v,Zaa σ2 sq ob,c):=by
 simp only [Zcr,Xh,Xaa,Wb] at hn
 unfold Zs at h
 split at h
 ·cases h
 ·rename_i hw
  simp only [Xa,Xb] at h
  obtain ⟨rfl,rfl,rfl,rfl⟩:=h
  refine ⟨none,rfl,rfl,by simp,by simp,Zct,fun tm' σ2 hr _ _=>?_⟩
  simp only [Zs,ZcA (g:=o.guard) (tm:=tm') (tm1:=tm) (fun j b hg=>(hr j (ZcB hg)).symm),hw,Zaa]
 ·rename_i hw
  split at h
  ·rename_i hf
   split at h
   ·rename_i v' σ'' c' he
    simp only [Xa,Xb] at h
    obtain ⟨rfl,rfl,rfl,rfl⟩:=h
    obtain ⟨ob,e1,e2,e3,e4,e5⟩:=ZC2 he hn.1 hn.2
    refine ⟨ob,rfl,e1,fun ho=>⟨e2 ho,?_⟩,e3,e4,fun tm' σ2 hr hA hfr=>?_⟩
    ·have:=e2 ho
     simpa [this] using hf
    ·have hf2:(nsite o.ins == 0 || freeAt σ2 sq)=true:=by
      by_cases h0:nsite o.ins=0
      ·simp [h0]
      ·simp only [WM,beq_iff_eq,h0,false_or] at hf ⊢
       exact hfr h0 hf
     simp only [Zs,ZcA (g:=o.guard) (tm:=tm') (tm1:=tm) (fun j b hg=>(hr j (ZcB hg)).symm),hw]
     have e5':execI O bf tm σ2 sq o.ins=some (v',Zaa σ2 sq ob,c'):=e5 σ2 hA
     rw [if_pos hf2,<-ZeF (tm:=tm) (tm':=tm') (fun n hn=>hr n (Zeq hn)),e5']
   ·cases h
  ·cases h
theorem Zdr {s:Nat}:freeAt σ s=true↔σ[s]?=some .free:=by
 unfold freeAt
 split
 ·rename_i h;simp [h]
 ·rename_i h
  constructor
  ·intro h';cases h'
  ·intro h';exact absurd h' h
theorem ZgE {s t:Nat} {ob:Option Zg} (h:ob.isSome=true->s≠t):(Zaa σ s ob)[t]?=σ[t]?:=by
 cases ob with
 | none=>rfl
 | some b=>simp only [Zaa];rw [Xj,if_neg (h rfl)]
theorem ZBO {s t:Nat} {ob oc:Option Zg} (h:ob.isSome=true->oc.isSome=true->s≠t):Zaa (Zaa σ s ob) t oc=Zaa (Zaa σ t oc) s ob:=by
 cases ob with
 | none=>cases oc <;> rfl
 | some b =>
  cases oc with
  | none=>rfl
  | some c=>simp only [Zaa];exact W5 b c (h rfl rfl)
theorem ZsO {x y:AVal} (h:ZfR x y=true):x=y:=by
 unfold ZfR at h
 split at h
 all_goals first
  | rfl
  | (cases h;done)
  | (simp only [Xh,decide_eq_true_eq,beq_iff_eq] at h;simp_all;done)
theorem Zg4 {o:AOp} {v:AVal} {c:Cls} (hc:ZaM o.ins=true) (h:Zs O bf o sq tm σ=some (v,tm1,σ1,c)) :
  (Za3 o.guard tm=some false/\v=.tup []/\σ1=σ/\c={}) \/
  (Za3 o.guard tm=some true/\(nsite o.ins == 0 || freeAt σ sq)=true/\∃ f own view args,own<=nsite o.ins/\(∀ tm' σ2 v2 σ3 c2,(∀ n ∈ o.reads,tget tm n=tget tm' n)->(nsite o.ins == 0 || freeAt σ2 sq)=true->Zr O bf σ2 sq f own view args=some (v2,σ3,c2)->Zs O bf o sq tm' σ2=some (v2,tput tm' o.dst v2,σ3,c2))/\Zr O bf σ sq f own view args=some (v,σ1,c)):=by
 unfold Zs at h
 split at h
 ·cases h
 ·rename_i hw
  simp only [Xa,Xb] at h
  obtain ⟨rfl,rfl,rfl,rfl⟩:=h
  exact Xk ⟨hw,rfl,rfl,rfl⟩
 ·rename_i hw
  split at h
  ·rename_i hf
   split at h
   ·rename_i v' σ'' c' he
    simp only [Xa,Xb] at h
    obtain ⟨rfl,rfl,rfl,rfl⟩:=h
    refine Xp ⟨hw,hf,?_⟩
    have gen:∀ tm' σ2,(∀ n ∈ o.reads,tget tm n=tget tm' n)->(nsite o.ins == 0 || freeAt σ2 sq)=true->∀ v2 σ3 c2,execI O bf tm σ2 sq o.ins=some (v2,σ3,c2)->Zs O bf o sq tm' σ2=some (v2,tput tm' o.dst v2,σ3,c2):=by
     intro tm' σ2 hr hf2 v2 σ3 c2 he2
     simp only [Zs,ZcA (g:=o.guard) (tm:=tm') (tm1:=tm) (fun j b hg=>(hr j (ZcB hg)).symm),hw]
     rw [if_pos hf2,<-ZeF (tm:=tm) (tm':=tm') (fun n hn=>hr n (Zeq hn)),he2]
    cases hins:o.ins with
    | call f own view args =>
     rw [hins] at he gen
     simp only [execI] at he gen
     refine ⟨f,own,view,args.map (·.ev tm),XI _,fun tm' σ2 v2 σ3 c2 hr hf2 h2=>?_,he⟩
     exact gen tm' σ2 hr hf2 v2 σ3 c2 h2
    | callv x args =>
     rw [hins] at he gen
     simp only [execI] at he
     split at he
     ·rename_i f caps hx
      refine ⟨(if f < 1000000 then f else f - 1000000),4,false,(if f < 1000000 then args.map (·.ev tm)++caps else caps++args.map (·.ev tm)),by simp [nsite],fun tm' σ2 v2 σ3 c2 hr hf2 h2=>?_,he⟩
      refine gen tm' σ2 hr hf2 v2 σ3 c2 ?_
      simp only [execI,hx]
      exact h2
     ·cases he
    | _=>rw [hins] at hc;simp [ZaM] at hc
   ·cases h
  ·cases h
theorem ZAR {o:AOp} {v:AVal} {c:Cls} {s:Nat} (hc:ZaM o.ins=true) (h:Zs O bf o sq tm σ=some (v,tm1,σ1,c)) (hs:σ1[s]?=some .free) (hne:∀ i,i < nsite o.ins->sq+i≠s) :
  σ[s]?=some .free/\∀ b tm',(∀ n ∈ o.reads,tget tm n=tget tm' n)->Zs O bf o sq tm' (σ.set s b)=some (v,tput tm' o.dst v,σ1.set s b,c):=by
 have h0:=h
 rcases Zg4 hc h with ⟨hw,rfl,rfl,rfl⟩ | ⟨hw,hf,f,own,view,args,ho,gen,hg⟩
 ·refine ⟨hs,fun b tm' hr=>?_⟩
  simp only [Zs,ZcA (g:=o.guard) (tm:=tm') (tm1:=tm) (fun j b hg=>(hr j (ZcB hg)).symm),hw]
 ·obtain ⟨k1,k2⟩:=ZpP (b:=.free) hg hs (fun i hi=>hne i (by omega))
  refine ⟨k1,fun b tm' hr=>gen tm' _ _ _ _ hr ?_ (ZpP (b:=b) hg hs (fun i hi=>hne i (by omega))).2⟩
  by_cases h0:nsite o.ins=0
  ·simp [h0]
  ·simp only [WM,beq_iff_eq,h0,false_or,Zdr] at hf ⊢
   have:=hne 0 (by omega)
   rw [Xj,if_neg (by intro e;exact this (by simpa using e.symm))]
   exact hf
theorem Zuj {o:AOp} {v:AVal} {c:Cls} {s:Nat} (hc:ZaM o.ins=true) (h:Zs O bf o sq tm σ=some (v,tm1,σ1,c)) (hs:σ1[s]?=some .free):σ[s]?=some .free:=by
 rcases Zg4 hc h with ⟨hw,rfl,rfl,rfl⟩ | ⟨hw,hf,f,own,view,args,ho,gen,hg⟩
 ·exact hs
 ·exact ZEs hg hs
theorem ZCE {o:AOp} {v:AVal} {c:Cls} {t:Nat} {cs:List AVal} (hc:ZaM o.ins=true) (h:Zs O bf o sq tm σ=some (v,tm1,σ1,c)) (ha:c.any=true) (ht:σ[t]?=some (.var cs)) :
  (c.upd.lookup t=none->σ1[t]?=some (.var cs))/\(∀ cs2,c.upd.lookup t=some cs2->σ1[t]?=some (.var cs2)):=by
 rcases Zg4 hc h with ⟨hw,rfl,rfl,rfl⟩ | ⟨hw,hf,f,own,view,args,ho,gen,hg⟩
 ·cases ha
 ·exact Zv2 hg ha ht
theorem ZwR {o:AOp} {v:AVal} {c:Cls} {t:Nat} {ns:ZD} (hc:ZaM o.ins=true) (h:Zs O bf o sq tm σ=some (v,tm1,σ1,c)) (ha:c.any=true) (ht:Z2 σ t=some ns):∃ ms,Z2 σ1 t=some ms/\ns.length<=ms.length:=by
 rcases Zg4 hc h with ⟨hw,rfl,rfl,rfl⟩ | ⟨hw,hf,f,own,view,args,ho,gen,hg⟩
 ·cases ha
 ·exact Zwg hg ha ht
theorem ZsS {σ σ1 : Za} {sq k bytes : Nat} {x y v : AVal} {c : Cls} {t : Nat} {cs : List AVal} (h : Zay σ sq k bytes x y = some (v, σ1, c)) (hs : sq ≠ t) (ht : σ[t]? = some (.var cs)) : σ1[t]? = some (.var cs) := by
  have key : ∀ (u : Nat) (b : Zg), (u = sq \/ ∃ b0, σ[u]? = some b0 /\ ∀ cs, b0 ≠ .var cs) -> (σ.set u b)[t]? = some (.var cs) := by
    intro u b hu
    rw [Xj, if_neg, ht]
    rintro rfl
    rcases hu with rfl | ⟨b0, h1, h2⟩
    . exact hs rfl
    . rw [ht] at h1; injection h1 with h1; exact h2 _ h1.symm
  unfold Zay at h
  repeat' split at h
  all_goals first
    | (cases h; done)
    | (unfold ZdO at h
       repeat' split at h
       all_goals first
         | (cases h; done)
         | (simp only [Xa, Xb] at h
            obtain ⟨-, rfl, -⟩ := h
            first
              | exact key _ _ (Xk rfl)
              | exact key _ _ (Xp ⟨_, by assumption, by simp⟩)))
    | (simp only [Xa, Xb] at h
       obtain ⟨-, rfl, -⟩ := h
       first
         | exact ht
         | exact key _ _ (Xk rfl)
         | exact key _ _ (Xp ⟨_, by assumption, by simp⟩))
theorem Zwp {o:AOp} {v:AVal} {c:Cls} {t:Nat} {cs:List AVal} (hc:Zbi o.ins=true) (h:Zs O bf o sq tm σ=some (v,tm1,σ1,c)) (ht:σ[t]?=some (.var cs)):σ1[t]?=some (.var cs):=by
 unfold Zs at h
 split at h
 ·cases h
 ·simp only [Xa,Xb] at h
  obtain ⟨rfl,rfl,rfl,rfl⟩:=h
  exact ht
 ·split at h
  ·rename_i hf
   split at h
   ·rename_i v' σ'' c' he
    simp only [Xa,Xb] at h
    obtain ⟨rfl,rfl,rfl,rfl⟩:=h
    cases hins:o.ins with
    | app k bytes z x y =>
     rw [hins] at he hf
     simp only [execI] at he
     refine ZsS he ?_ ht
     rintro rfl
     simp [nsite,freeAt,ht] at hf
    | _=>rw [hins] at hc;simp [Zbi] at hc
   ·cases h
  ·cases h
theorem ZnP {σ σ1 : Za} {sq k bytes : Nat} {x y v : AVal} {c : Cls} {s : Nat} (h : Zay σ sq k bytes x y = some (v, σ1, c)) (hs : σ1[s]? = some .free) : σ[s]? = some .free := by
  have key : ∀ (u : Nat) (b0 : Zg), b0 ≠ .free -> (σ.set u b0)[s]? = some .free -> σ[s]? = some .free := by
    intro u b0 hb hh
    rw [Xj] at hh
    split at hh
    . split at hh
      . injection hh with hh; exact absurd hh hb
      . cases hh
    . exact hh
  unfold Zay at h
  repeat' split at h
  all_goals first
    | (cases h; done)
    | (unfold ZdO at h
       repeat' split at h
       all_goals first
         | (cases h; done)
         | (simp only [Xa, Xb] at h
            obtain ⟨-, rfl, -⟩ := h
            exact key _ _ (by simp) hs))
    | (simp only [Xa, Xb] at h
       obtain ⟨-, rfl, -⟩ := h
       first
         | exact hs
         | exact key _ _ (by simp) hs)
theorem Zwe {σ σ1 : Za} {sq k bytes : Nat} {x y v : AVal} {c : Cls} {s : Nat} (ha : c.any = false) (h : Zay σ sq k bytes x y = some (v, σ1, c)) (hs : σ[s]? = some .free) (hne : sq ≠ s) (b : Zg) : Zay (σ.set s b) sq k bytes x y = some (v, σ1.set s b, c) := by
  have get : ∀ (t : Nat) (b0 : Zg), σ[t]? = some b0 -> b0 ≠ .free -> (σ.set s b)[t]? = some b0 /\ s ≠ t := by
    intro t b0 h1 h2
    have hst : s ≠ t := by
      rintro rfl
      rw [hs] at h1; injection h1 with h1; exact h2 h1.symm
    exact ⟨by rw [Xs hst]; exact h1, hst⟩
  have hel : ∀ ys us, Zaf σ y = some (ys, us) -> Zaf (σ.set s b) y = some (ys, us) := by
    intro ys us he
    unfold Zaf at he ⊢
    split at he
    . exact he
    . exact he
    . split at he
      . rename_i hr
        rw [(get _ _ hr (by simp)).1]; exact he
      . rename_i hr
        rw [(get _ _ hr (by simp)).1]; exact he
      . cases he
    . cases he
  unfold Zay at h
  cases he : Zaf σ y with
  | none =>
    rw [he] at h
    simp only at h
    unfold ZdO at h
    repeat' split at h
    all_goals first
      | (cases h; done)
      | (simp only [Xa, Xb] at h
         obtain ⟨-, -, rfl⟩ := h
         cases ha)
  | some z =>
    obtain ⟨ys, us⟩ := z
    rw [he] at h
    simp only at h
    unfold Zay
    rw [hel _ _ he]
    simp only
    split at h
    case isFalse => cases h
    rename_i hk
    rw [if_pos hk]
    split at h
    . split at h
      case isFalse => cases h
      rename_i h1
      simp only [Xa, Xb] at h
      obtain ⟨rfl, rfl, rfl⟩ := h
      simp only [h1, if_true]
      rw [W5 _ _ hne]
    . split at h
      case isFalse => cases h
      rename_i h1
      simp only [h1, and_self, if_true]
      split at h
      . simp only [Xa, Xb] at h
        obtain ⟨rfl, rfl, rfl⟩ := h
        rfl
      . simp only [Xa, Xb] at h
        obtain ⟨rfl, rfl, rfl⟩ := h
        rw [W5 _ _ hne]
    . split at h
      . rename_i hr
        obtain ⟨g1, g2⟩ := get _ _ hr (by simp)
        rw [g1]
        simp only
        split at h
        case isFalse => cases h
        rename_i h1
        rw [if_pos h1]
        split at h
        . rename_i h2
          rw [if_pos h2]
          simp only [Xa, Xb] at h
          obtain ⟨rfl, rfl, rfl⟩ := h
          rw [W5 _ _ g2]
        . rename_i h2
          rw [if_neg h2]
          split at h
          case isFalse => cases h
          rename_i h3
          rw [if_pos h3]
          simp only [Xa, Xb] at h
          obtain ⟨rfl, rfl, rfl⟩ := h
          rw [W5 _ _ g2]
      . rename_i hr
        obtain ⟨g1, g2⟩ := get _ _ hr (by simp)
        rw [g1]
        simp only
        split at h
        case isFalse => cases h
        rename_i h1
        rw [if_pos h1]
        simp only [Xa, Xb] at h
        obtain ⟨rfl, rfl, rfl⟩ := h
        rw [W5 _ _ g2]
      . cases h
    . cases h
theorem ZjW {o:AOp} {v:AVal} {c:Cls} (hc:Zbi o.ins=true) (h:Zs O bf o sq tm σ=some (v,tm1,σ1,c)) :
  (Za3 o.guard tm=some false/\v=.tup []/\σ1=σ/\c={})\/(freeAt σ sq=true/\∃ k bytes x y,Zay σ sq k bytes x y=some (v,σ1,c)/\∀ tm' σ2 v2 σ3 c2,(∀ n ∈ o.reads,tget tm n=tget tm' n)->freeAt σ2 sq=true->Zay σ2 sq k bytes x y=some (v2,σ3,c2)->Zs O bf o sq tm' σ2=some (v2,tput tm' o.dst v2,σ3,c2)):=by
 unfold Zs at h
 split at h
 ·cases h
 ·rename_i hw
  simp only [Xa,Xb] at h
  obtain ⟨rfl,rfl,rfl,rfl⟩:=h
  exact Xk ⟨hw,rfl,rfl,rfl⟩
 ·rename_i hw
  split at h
  ·rename_i hf
   split at h
   ·rename_i v' σ'' c' he
    simp only [Xa,Xb] at h
    obtain ⟨rfl,rfl,rfl,rfl⟩:=h
    cases hins:o.ins with
    | app k bytes z x y =>
     have he0:=he
     rw [hins] at he hf
     simp only [execI] at he
     refine Xp ⟨by simpa [nsite] using hf,k,bytes,_,_,he,fun tm' σ2 v2 σ3 c2 hr hf2 h2=>?_⟩
     simp only [Zs,ZcA (g:=o.guard) (tm:=tm') (tm1:=tm) (fun j b hg=>(hr j (ZcB hg)).symm),hw]
     rw [if_pos (by rw [hf2];simp),<-ZeF (tm:=tm) (tm':=tm') (fun n hn=>hr n (Zeq hn)),hins]
     simp only [execI,h2]
    | _=>rw [hins] at hc;simp [Zbi] at hc
   ·cases h
  ·cases h
theorem ZmF {t:Nat} {cs:List AVal}:∀ (ts:List Nat) (σ:Za),σ[t]?=some (.var cs)->(Zo σ ts)[t]?=some (.var cs)
 | [],σ,h=>h
 | u::ts,σ,h=>by
  unfold Zo
  split
  ·rename_i g k xs hu
   refine ZmF ts _ ?_
   rw [Xj,if_neg,h]
   rintro rfl
   rw [hu] at h;cases h
  ·exact ZmF ts σ h
theorem Zs4 {σ σ1 : Za} {k : Nat} {a x v : AVal} {c : Cls} {t : Nat} {cs : List AVal} (h : stA σ k a x = some (v, σ1, c)) (hw : c.wr.contains t = false) (ht : σ[t]? = some (.var cs)) : σ1[t]? = some (.var cs) := by
  unfold stA at h
  repeat' split at h
  all_goals first
    | (cases h; done)
    | (simp only [Xa, Xb] at h
       obtain ⟨-, rfl, rfl⟩ := h
       simp only [XL, X4, Xae, XaQ, beq_eq_false_iff_ne, ne_eq] at hw
       first
         | (rw [Xj, if_neg (fun e => hw e.symm)]; exact ht)
         | (rw [Xj, if_neg (fun e => hw.1 e.symm)]; exact ZmF _ _ ht))
theorem ZIf {σ σ1 : Za} {s kc : Nat} {z m k v : AVal} {c : Cls} {t : Nat} {cs : List AVal} (hs : σ[s]? = some .free) (h : ZeE σ s kc z m k = some (v, σ1, c)) (hw : c.wr.contains t = false) (ht : σ[t]? = some (.var cs)) : σ1[t]? = some (.var cs) := by
  have hne : t ≠ s := by rintro rfl; rw [hs] at ht; cases ht
  unfold ZeE at h
  repeat' split at h
  all_goals first
    | (cases h; done)
    | (simp only [Xa, Xb] at h
       obtain ⟨-, rfl, rfl⟩ := h
       simp only [XL, X4, Xae, beq_eq_false_iff_ne, ne_eq] at hw
       first
         | exact ht
         | (rw [Xj, if_neg (fun e => hw e.symm), Xj, if_neg (fun e => hne e.symm)]; exact ht))
theorem ZJf {σ σ1 : Za} {s kc : Nat} {z m k v : AVal} {c : Cls} {t : Nat} (h : ZeE σ s kc z m k = some (v, σ1, c)) (hw : c.wr.contains t = false) (hne : t ≠ s) : σ1[t]? = σ[t]? := by
  unfold ZeE at h
  repeat' split at h
  all_goals first
    | (cases h; done)
    | (simp only [Xa, Xb] at h
       obtain ⟨-, rfl, rfl⟩ := h
       simp only [XL, X4, Xae, beq_eq_false_iff_ne, ne_eq] at hw
       first
         | rfl
         | (rw [Xj, if_neg (fun e => hw e.symm), Xj, if_neg (fun e => hne e.symm)]))
theorem Zjz {t:Nat}:∀ (ts:List Nat) (σ:Za),ts.contains t=false->(Zo σ ts)[t]?=σ[t]?
 | [],σ,_=>rfl
 | u::ts,σ,h=>by
  simp only [XL,XaQ,beq_eq_false_iff_ne,ne_eq] at h
  unfold Zo
  split
  ·rw [Zjz ts _ h.2,Xj,if_neg (fun e=>h.1 e.symm)]
  ·exact Zjz ts _ h.2
theorem Zs9 {σ σ1 : Za} {k : Nat} {a x v : AVal} {c : Cls} {t : Nat} (h : stA σ k a x = some (v, σ1, c)) (hw : c.wr.contains t = false) : σ1[t]? = σ[t]? := by
  unfold stA at h
  repeat' split at h
  all_goals first
    | (cases h; done)
    | (simp only [Xa, Xb] at h
       obtain ⟨-, rfl, rfl⟩ := h
       simp only [XL, X4, Xae, XaQ, beq_eq_false_iff_ne, ne_eq] at hw
       first
         | (rw [Xj, if_neg (fun e => hw e.symm)])
         | (rw [Xj, if_neg (fun e => hw.1 e.symm)]; exact Zjz _ _ hw.2))
theorem ZA9 {o:AOp} {v:AVal} {c:Cls} {t:Nat} (hc:Zb1 o.ins=true) (h:Zs O bf o sq tm σ=some (v,tm1,σ1,c)) (hw:c.wr.contains t=false) (hne:t≠sq):σ1[t]?=σ[t]?:=by
 unfold Zs at h
 split at h
 ·cases h
 ·simp only [Xa,Xb] at h
  obtain ⟨rfl,rfl,rfl,rfl⟩:=h
  rfl
 ·split at h
  ·split at h
   ·rename_i v' σ'' c' he
    simp only [Xa,Xb] at h
    obtain ⟨rfl,rfl,rfl,rfl⟩:=h
    cases hins:o.ins with
    | st k x y =>
     rw [hins] at he
     simp only [execI] at he
     exact Zs9 he hw
    | glook kc z m k =>
     rw [hins] at he
     simp only [execI] at he
     exact ZJf he hw hne
    | _=>rw [hins] at hc;simp [Zb1] at hc
   ·cases h
  ·cases h
theorem ZEe {o:AOp} {v:AVal} {c:Cls} {t:Nat} {cs:List AVal} (hc:Zb1 o.ins=true) (hw:c.wr.contains t=false) (h:Zs O bf o sq tm σ=some (v,tm1,σ1,c)) (ht:σ[t]?=some (.var cs)):σ1[t]?=some (.var cs):=by
 unfold Zs at h
 split at h
 ·cases h
 ·simp only [Xa,Xb] at h
  obtain ⟨rfl,rfl,rfl,rfl⟩:=h
  exact ht
 ·split at h
  ·rename_i hf
   split at h
   ·rename_i v' σ'' c' he
    simp only [Xa,Xb] at h
    obtain ⟨rfl,rfl,rfl,rfl⟩:=h
    cases hins:o.ins with
    | st k x y =>
     rw [hins] at he hf
     simp only [execI] at he
     exact Zs4 he hw ht
    | glook kc z m k =>
     rw [hins] at he hf
     simp only [execI] at he
     exact ZIf (by simpa [nsite,Zdr] using hf) he hw ht
    | _=>rw [hins] at hc;simp [Zb1] at hc
   ·cases h
  ·cases h
theorem Zk2 {o : AOp} {v : AVal} {c ci : Cls} (hl : ZaW o.ins = true) (h : Zs O bf o sq tm σ = some (v, tm1, σ1, c)) (hg : Zby c ci = true) :
    ∃ t k off, c.got = [(t, k, off, v)] /\ σ1 = σ /\ tm1 = tput tm o.dst v /\ (∀ tm' σ2, (∀ n ∈ o.reads, tget tm n = tget tm' n) -> (∃ cs, σ2[t]? = some (.var cs) /\ partA k cs off = some v) -> Zs O bf o sq tm' σ2 = some (v, tput tm' o.dst v, σ2, c)) /\ ∃ cs, σ[t]? = some (.var cs) /\ partA k cs off = some v := by
  unfold Zs at h
  split at h
  . cases h
  . simp only [Xa, Xb] at h
    obtain ⟨rfl, rfl, rfl, rfl⟩ := h
    simp [Zby] at hg
  . rename_i hw
    split at h
    . rename_i hf
      split at h
      . rename_i v' σ'' c' he
        simp only [Xa, Xb] at h
        obtain ⟨rfl, rfl, rfl, rfl⟩ := h
        cases hins : o.ins with
        | ld k a =>
          rw [hins] at he hf
          simp only [execI] at he
          have he0 := he
          unfold ldA at he
          split at he
          . rename_i t off ha
            split at he
            . rename_i cs hcs
              split at he
              . rename_i v2 hp
                simp only [Xa, Xb] at he
                obtain ⟨rfl, rfl, rfl⟩ := he
                refine ⟨t, k, off, rfl, rfl, rfl, fun tm' σ2 hr ⟨cs2, h1, h2⟩ => ?_, cs, hcs, hp⟩
                simp only [Zs, ZcA (g := o.guard) (tm := tm') (tm1 := tm) (fun j b hg => (hr j (ZcB hg)).symm), hw]
                rw [if_pos (by rw [hins]; rfl), <- ZeF (tm := tm) (tm' := tm') (fun n hn => hr n (Zeq hn)), hins]
                simp only [execI, ha, ldA, h1, h2]
              . cases he
            . cases he
          . repeat' split at he
            all_goals first
              | (cases he; done)
              | (simp only [Xa, Xb] at he
                 obtain ⟨rfl, rfl, rfl⟩ := he
                 simp [Zby] at hg)
          . repeat' split at he
            all_goals first
              | (cases he; done)
              | (simp only [Xa, Xb] at he
                 obtain ⟨rfl, rfl, rfl⟩ := he
                 simp [Zby] at hg)
          . repeat' split at he
            all_goals first
              | (cases he; done)
              | (simp only [Xa, Xb] at he
                 obtain ⟨rfl, rfl, rfl⟩ := he
                 simp [Zby] at hg)
          . cases he
        | _ => rw [hins] at hl; simp [ZaW] at hl
      . cases h
    . cases h
theorem ZEY {o : AOp} {v : AVal} {c : Cls} (hl : ZaW o.ins = true) (h : Zs O bf o sq tm σ = some (v, tm1, σ1, c)) (hg : c.nd = true) :
    ∃ t j ns, Z2 σ t = some ns /\ j < ns.length /\ σ1 = σ /\ tm1 = tput tm o.dst v /\ (∀ tm' σ2, (∀ n ∈ o.reads, tget tm n = tget tm' n) -> (∃ ms, Z2 σ2 t = some ms /\ ns.length <= ms.length) -> Zs O bf o sq tm' σ2 = some (v, tput tm' o.dst v, σ2, c)) := by
  unfold Zs at h
  split at h
  . cases h
  . simp only [Xa, Xb] at h
    obtain ⟨rfl, rfl, rfl, rfl⟩ := h
    cases hg
  . rename_i hw
    split at h
    . rename_i hf
      split at h
      . rename_i v' σ'' c' he
        simp only [Xa, Xb] at h
        obtain ⟨rfl, rfl, rfl, rfl⟩ := h
        cases hins : o.ins with
        | ld k a =>
          rw [hins] at he hf
          simp only [execI] at he
          have he0 := he
          unfold ldA at he
          split at he
          case h_4 =>
            rename_i t j off ha
            split at he
            . rename_i ns hns
              split at he
              . rename_i nd hj
                split at he
                . rename_i ho
                  simp only [Xa, Xb] at he
                  obtain ⟨rfl, rfl, rfl⟩ := he
                  have hjl := (Xc.1 hj).1
                  refine ⟨t, j, ns, hns, hjl, rfl, rfl, fun tm' σ2 hr ⟨ms, h1, h2⟩ => ?_⟩
                  obtain ⟨nd2, hj2⟩ : ∃ nd2, ms[j]? = some nd2 := ⟨_, Xm (by omega)⟩
                  simp only [Zs, ZcA (g := o.guard) (tm := tm') (tm1 := tm) (fun j b hg => (hr j (ZcB hg)).symm), hw]
                  rw [if_pos (by rw [hins]; rfl), <- ZeF (tm := tm) (tm' := tm') (fun n hn => hr n (Zeq hn)), hins]
                  simp only [execI, ha, ldA, h1, hj2, ho, if_true]
                . cases he
              . cases he
            . cases he
          all_goals
            repeat' split at he
            all_goals first
              | (cases he; done)
              | (simp only [Xa, Xb] at he
                 obtain ⟨rfl, rfl, rfl⟩ := he
                 cases hg)
        | _ => rw [hins] at hl; simp [ZaW] at hl
      . cases h
    . cases h
theorem Zuf {o:AOp} {v:AVal} {c:Cls} {s:Nat} (hc:ZaM o.ins=true\/(Zbi o.ins=true/\(!c.any)=true)) (h:Zs O bf o sq tm σ=some (v,tm1,σ1,c)) (hs:σ1[s]?=some .free):σ[s]?=some .free:=by
 rcases hc with hc | ⟨hc,_⟩
 ·exact Zuj hc h hs
 ·rcases ZjW hc h with ⟨_,_,rfl,_⟩ | ⟨_,_,_,_,_,ha,_⟩
  ·exact hs
  ·exact ZnP ha hs
theorem ZAD {o:AOp} {v:AVal} {c:Cls} {s:Nat} (hc:ZaM o.ins=true\/(Zbi o.ins=true/\(!c.any)=true)) (h:Zs O bf o sq tm σ=some (v,tm1,σ1,c)) (hs:σ1[s]?=some .free) (hne:∀ i,i < nsite o.ins->sq+i≠s) :
  σ[s]?=some .free/\∀ b tm',(∀ n ∈ o.reads,tget tm n=tget tm' n)->Zs O bf o sq tm' (σ.set s b)=some (v,tput tm' o.dst v,σ1.set s b,c):=by
 rcases hc with hc | ⟨hc,hany⟩
 ·exact ZAR hc h hs hne
 ·have hn:sq≠s:=by
   have : nsite o.ins=1:=by
    cases hins:o.ins with
    | app k bytes z x y=>rfl
    | _=>rw [hins] at hc;simp [Zbi] at hc
   simpa using hne 0 (by omega)
  rcases ZjW hc h with ⟨hw,rfl,rfl,rfl⟩ | ⟨hf,k,bytes,x,y,ha,gen⟩
  ·refine ⟨hs,fun b tm' hr=>?_⟩
   simp only [Zs,ZcA (g:=o.guard) (tm:=tm') (tm1:=tm) (fun j b hg=>(hr j (ZcB hg)).symm),hw]
  ·have h0:=ZnP ha hs
   refine ⟨h0,fun b tm' hr=>gen tm' _ _ _ _ hr ?_ (Zwe (by simpa using hany) ha h0 hn b)⟩
   rw [Zdr] at hf ⊢
   rw [Xs (fun e=>hn e.symm)]
   exact hf
def Frz (σ σ2:Za):Prop:=∀ t:Nat,σ2[t]?=σ[t]?\/∃ (g k:Nat) (xs:List AVal),σ[t]?=some (Zg.row g k xs)/\σ2[t]?=some (Zg.frow g k xs)
theorem Frz.refl (σ:Za):Frz σ σ:=fun _=>Xk rfl
theorem ZhB:∀ (ts:List Nat) (σ:Za),Frz σ (Zo σ ts)
 | [],σ=>Frz.refl σ
 | t::ts,σ=>by
  unfold Zo
  split
  ·rename_i g k xs ht
   intro u
   have ih:=ZhB ts (σ.set t (.frow g k xs)) u
   have htl:t < σ.length:=(Xc.1 ht).1
   by_cases e:u=t
   ·subst e
    have e1:(σ.set u (.frow g k xs))[u]?=some (.frow g k xs):=by simp [htl]
    rw [e1] at ih
    rcases ih with ih | ⟨_,_,_,ih,_⟩
    ·exact Xp ⟨g,k,xs,ht,ih⟩
    ·cases ih
   ·rw [Xs (fun h=>e h.symm)] at ih
    exact ih
  ·exact ZhB ts σ
theorem ZqK {σ σ2 σ' : Za} {k : Option Nat} {a v : AVal} {c : Cls} (hf : Frz σ σ2) (h : ldA σ k a = some (v, σ', c)) : σ' = σ /\ ldA σ2 k a = some (v, σ2, c) := by
  unfold ldA at h ⊢
  split at h
  . rename_i t o
    rcases hf t with e | ⟨_, _, _, e1, _⟩
    . simp only [e]
      repeat' split at h
      all_goals first
        | (cases h; done)
        | (simp only [Xa, Xb] at h
           obtain ⟨rfl, rfl, rfl⟩ := h
           simp_all)
    . rw [e1] at h; cases h
  . rename_i t g i o
    rcases hf t with e | ⟨g1, k1, xs1, e1, e2⟩
    . simp only [e]
      repeat' split at h
      all_goals first
        | (cases h; done)
        | (simp only [Xa, Xb] at h
           obtain ⟨rfl, rfl, rfl⟩ := h
           simp_all)
    . simp only [e1] at h
      simp only [e2]
      repeat' split at h
      all_goals first
        | (cases h; done)
        | (simp only [Xa, Xb] at h
           obtain ⟨rfl, rfl, rfl⟩ := h
           simp_all)
  . repeat' split at h
    all_goals first
      | (cases h; done)
      | (simp only [Xa, Xb] at h
         obtain ⟨rfl, rfl, rfl⟩ := h
         simp_all)
  . rename_i t j o
    have e : Z2 σ2 t = Z2 σ t := by
      rcases hf t with e | ⟨g1, k1, xs1, e1, e2⟩
      . exact Ze4 e
      . unfold Z2; rw [e1, e2]
    rw [e]
    repeat' split at h
    all_goals first
      | (cases h; done)
      | (simp only [Xa, Xb] at h
         obtain ⟨rfl, rfl, rfl⟩ := h
         simp_all)
  . cases h
theorem Zoa {σ σ2 σ' : Za} {k : Nat} {a i v : AVal} {c : Cls} (hf : Frz σ σ2) (h : ZbG σ k a i = some (v, σ', c)) : σ' = σ /\ ZbG σ2 k a i = some (v, σ2, c) := by
  unfold ZbG at h ⊢
  split at h
  . split at h
    . rename_i h0
      rw [if_pos h0]
      split at h
      . repeat' split at h
        all_goals first
          | (cases h; done)
          | (simp only [Xa, Xb] at h
             obtain ⟨rfl, rfl, rfl⟩ := h
             simp_all)
      . rename_i t g p n
        rcases hf t with e | ⟨g1, k1, xs1, e1, e2⟩
        . simp only [e]
          repeat' split at h
          all_goals first
            | (cases h; done)
            | (simp only [Xa, Xb] at h
               obtain ⟨rfl, rfl, rfl⟩ := h
               simp_all)
        . simp only [e1] at h
          simp only [e2]
          repeat' split at h
          all_goals first
            | (cases h; done)
            | (simp only [Xa, Xb] at h
               obtain ⟨rfl, rfl, rfl⟩ := h
               simp_all)
      . cases h
    . cases h
  . cases h
theorem Zz1 {o:AOp} {v:AVal} {c:Cls} (hl:Zc3 o.ins=true) (h:Zs O bf o sq tm σ=some (v,tm1,σ1,c)) :
  σ1=σ/\tm1=tput tm o.dst v/\∀ tm' σ2,(∀ n ∈ o.reads,tget tm n=tget tm' n)->Frz σ σ2->Zs O bf o sq tm' σ2=some (v,tput tm' o.dst v,σ2,c):=by
 unfold Zs at h
 split at h
 ·cases h
 ·rename_i hw
  simp only [Xa,Xb] at h
  obtain ⟨rfl,rfl,rfl,rfl⟩:=h
  refine ⟨rfl,rfl,fun tm' σ2 hr _=>?_⟩
  simp only [Zs,ZcA (g:=o.guard) (tm:=tm') (tm1:=tm) (fun j b hg=>(hr j (ZcB hg)).symm),hw]
 ·rename_i hw
  split at h
  ·rename_i hf
   split at h
   ·rename_i v' σ'' c' he
    simp only [Xa,Xb] at h
    obtain ⟨rfl,rfl,rfl,rfl⟩:=h
    cases hins:o.ins with
    | ld k a =>
     rw [hins] at he
     simp only [execI] at he
     have e1:=(ZqK (Frz.refl σ) he).1
     subst e1
     refine ⟨rfl,rfl,fun tm' σ2 hr hz=>?_⟩
     simp only [Zs,ZcA (g:=o.guard) (tm:=tm') (tm1:=tm) (fun j b hg=>(hr j (ZcB hg)).symm),hw]
     rw [if_pos (by rw [hins];rfl),<-ZeF (tm:=tm) (tm':=tm') (fun n hn=>hr n (Zeq hn)),hins]
     simp only [execI,(ZqK hz he).2]
    | iaddr k x i =>
     rw [hins] at he
     simp only [execI] at he
     have e1:=(Zoa (Frz.refl σ) he).1
     subst e1
     refine ⟨rfl,rfl,fun tm' σ2 hr hz=>?_⟩
     simp only [Zs,ZcA (g:=o.guard) (tm:=tm') (tm1:=tm) (fun j b hg=>(hr j (ZcB hg)).symm),hw]
     rw [if_pos (by rw [hins];rfl),<-ZeF (tm:=tm) (tm':=tm') (fun n hn=>hr n (Zeq hn)),hins]
     simp only [execI,(Zoa hz he).2]
    | _=>rw [hins] at hl;simp [Zc3] at hl
   ·cases h
  ·cases h
theorem ZCK {o:AOp} {v:AVal} {c:Cls} (hl:ZcE o.ins=true) (h:Zs O bf o sq tm σ=some (v,tm1,σ1,c)):Frz σ σ1:=by
 unfold Zs at h
 split at h
 ·cases h
 ·simp only [Xa,Xb] at h
  obtain ⟨rfl,rfl,rfl,rfl⟩:=h
  exact Frz.refl _
 ·split at h
  ·split at h
   ·rename_i v' σ'' c' he
    simp only [Xa,Xb] at h
    obtain ⟨rfl,rfl,rfl,rfl⟩:=h
    cases hins:o.ins with
    | bslice own k n z parts =>
     rw [hins] at hl he
     simp only [ZcE,Wb] at hl
     subst hl
     simp only [execI] at he
     split at he
     ·cases he
     ·rename_i ys ts hv
      split at he
      ·simp only [Xf,if_false,Xa,Xb] at he
       obtain ⟨_,rfl,_⟩:=he
       exact ZhB ts σ
      ·cases he
    | _=>rw [hins] at hl;simp [ZcE] at hl
   ·cases h
  ·cases h
theorem ZBz {f own:Nat} {view:Bool} {args:List AVal} {v:AVal} {c:Cls} (h:Zr O bf σ sq f own view args=some (v,σ',c)) (ha:c.any=true) {t:Nat} {cs:List AVal} (hn:c.upd.lookup t=none) (hlt:t < sq) (ht:σ'[t]?=some (.var cs)):σ[t]?=some (.var cs):=by
 unfold Zr at h
 split at h
 ·cases h
 rename_i xs ts hsh
 generalize hids:Zj (Zo σ ts) 1000 (Zu xs) []=ids at h
 unfold ZaS at h
 split at h
 case isFalse=>cases h
 generalize Z4 view ids.length (O f (Zp (Zd (Zo σ ts) 0 ids) xs) (Zi (Zo σ ts) 0 ids (Zd (Zo σ ts) 0 ids) ids 0))=q at h
 cases q with
 | none=>simp only [Z9] at h;cases h
 | some q =>
  obtain ⟨r,hp⟩:=q
  simp only [Z9] at h
  split at h
  ·split at h
   ·simp only [Xa,Xb] at h
    rw [<-h.2.2] at ha;cases ha
   split at h
   ·simp only [Xa,Xb] at h
    rw [<-h.2.2] at ha;cases ha
   ·simp only [Xa,Xb] at h
    rw [<-h.2.2] at ha;cases ha
  ·split at h
   ·simp only [Xa,Xb] at h
    rw [<-h.2.2] at ha;cases ha
   split at h
   ·rename_i hcc
    simp only [Xa,Xb] at h
    obtain ⟨_,rfl,rfl⟩:=h
    have hm:t ∉ ids:=fun hm=>Zie hn hm ht
    rw [ZgV (fun i hi e=>by
     rw [Xw] at e
     unfold ZO at e
     rw [Xd] at e
     rcases Xav i ids.length with hl | hl
     ·rw [Xm hl] at e
      simp only [Wy] at e
      exact hm (e ▸ XaA hl)
     ·rw [XO hl] at e
      simp only [XaT] at e
      omega)] at ht
    rcases ZhB ts σ t with e | ⟨g1,k1,xs1,e1,e2⟩
    ·rw [<-e];exact ht
    ·rw [e2] at ht;cases ht
   ·cases h
theorem Zyu {o:AOp} {v:AVal} {c:Cls} {t:Nat} {cs:List AVal} (hc:ZaM o.ins=true) (h:Zs O bf o sq tm σ=some (v,tm1,σ1,c)) (ha:c.any=true) (hn:c.upd.lookup t=none) (hlt:t < sq) (ht:σ1[t]?=some (.var cs)):σ[t]?=some (.var cs):=by
 rcases Zg4 hc h with ⟨hw,rfl,rfl,rfl⟩ | ⟨hw,hf,f,own,view,args,ho,gen,hg⟩
 ·cases ha
 ·exact ZBz hg ha hn hlt ht
theorem ZtM {σ σ1 : Za} {sq k bytes : Nat} {x y v : AVal} {c : Cls} (h : Zay σ sq k bytes x y = some (v, σ1, c)) (ha : c.any = false) {t : Nat} (hw : c.wr.contains t = false) (hs : t ≠ sq) : σ1[t]? = σ[t]? := by
  unfold Zay at h
  split at h
  . unfold ZdO at h
    repeat' split at h
    all_goals first
      | (cases h; done)
      | (simp only [Xa, Xb] at h
         obtain ⟨_, _, rfl⟩ := h
         cases ha)
  . repeat' split at h
    all_goals first
      | (cases h; done)
      | (simp only [Xa, Xb] at h
         obtain ⟨_, rfl, rfl⟩ := h
         first
         | rfl
         | (rw [Xs (fun e => hs e.symm)])
         | (rw [Xs (by rintro rfl; simp at hw)]))
theorem Zm9 {oj oi:AOp} {sj si:Nat} {vj vi:AVal} {cj ci:Cls} (hj:Zs O bf oj sj tm σ=some (vj,tm1,σ1,cj)) (hi:Zs O bf oi si tm1 σ1=some (vi,tm2,σ2,ci)) (hap:oj.apartT oi=true)
  (hp:ZbP oj oi cj ci sj=true) (hs:nsite oj.ins≠0->nsite oi.ins≠0->sj≠si) (hs2:sj+nsite oj.ins<=si):∃ tm1' σ1',Zs O bf oi si tm σ=some (vi,tm1',σ1',ci)/\Zs O bf oj sj tm1' σ1'=some (vj,tm2,σ2,cj):=by
 have hd:(∀ d,oj.dst=some d->d ∉ oi.reads)/\(∀ d,oj.dst=some d->oi.dst≠some d)/\(∀ d,oi.dst=some d->d ∉ oj.reads):=by
  unfold AOp.apartT at hap
  simp only [Xh] at hap
  refine ⟨fun d hd hr=>?_,fun d hd he=>?_,fun d hd hr=>?_⟩
  ·have:=hap.1;rw [hd] at this;simp [hr] at this
  ·have:=hap.1;rw [hd] at this;simp [he] at this
  ·have:=hap.2;rw [hd] at this;simp [hr] at this
 obtain ⟨d1,d2,d3⟩:=hd
 have rdI:∀ v n,n ∈ oi.reads->tget (tput tm oj.dst v) n=tget tm n:=fun v n hn=>ZpR (by intro e;exact d1 n e hn)
 have rdJ:∀ v n,n ∈ oj.reads->tget tm n=tget (tput tm oi.dst v) n:=fun v n hn=>(ZpR (by intro e;exact d3 n e hn)).symm
 unfold ZbP at hp
 simp only [WM,Xh] at hp
 have noWr_of:∀ {o:AOp} {c:Cls},ZbB o c=true->Zcr c=true/\c.rd=[]/\nsite o.ins=0:=by
  intro o c h
  simp only [ZbB,Xh,beq_iff_eq,Xaa] at h
  exact ⟨by simp [Zcr,h.1.2,h.2],h.1.1.2,h.1.1.1⟩
 rcases hp with ((((((((hp | hp) | ⟨⟨hp1,hp2⟩,hp3⟩) | ⟨hp1,hp2,hp3⟩) | ⟨⟨⟨hp1,hp2⟩,hp3⟩,hp4⟩) | ⟨⟨hp1,hp2⟩,hp4⟩) | ⟨hp1,hp2⟩) | ⟨⟨⟨hp1,hp2⟩,hp3⟩,hp4⟩) | ⟨⟨⟨hp1,hp3⟩,hp4⟩,hp5⟩) | ⟨⟨⟨hp1,hp2⟩,hp3⟩,hp4⟩
 ·obtain ⟨w1,w2,w3⟩:=noWr_of hp
  obtain ⟨ob,rfl,rfl,e3,_,_,e6⟩:=Zfk hj w1
  have hob:ob=none:=by
   cases ob with
   | none=>rfl
   | some b=>exact absurd w3 (e3 rfl).1
  subst hob
  simp only [Zaa] at hi e6 ⊢
  obtain ⟨rfl,f2⟩:=Zd1 hi
  have g1:=f2 tm (rdI vj)
  refine ⟨_,_,g1,?_⟩
  rw [e6 _ σ2 (rdJ vi) (by rw [w2];intro t ht;simp at ht) (fun h=>absurd w3 h),Zdc vi vj (fun d hd he=>d2 d he hd)]
 ·obtain ⟨w1,w2,w3⟩:=noWr_of hp
  obtain ⟨ob,rfl,rfl,e3,_,_,e6⟩:=Zfk hi w1
  have hob:ob=none:=by
   cases ob with
   | none=>rfl
   | some b=>exact absurd w3 (e3 rfl).1
  subst hob
  simp only [Zaa] at e6 ⊢
  obtain ⟨rfl,f2⟩:=Zd1 hj
  have g1:=e6 tm σ (rdI vj) (by rw [w2];intro t ht;simp at ht) (fun h=>absurd w3 h)
  refine ⟨_,_,g1,?_⟩
  rw [f2 _ (rdJ vi),Zdc vi vj (fun d hd he=>d2 d he hd)]
 ·obtain ⟨ob,rfl,rfl,a3,a4,a5,a6⟩:=Zfk hj hp1
  obtain ⟨oc,rfl,rfl,b3,b4,b5,b6⟩:=Zfk hi hp2
  have hsne:ob.isSome=true->nsite oi.ins≠0->sj≠si:=fun h1 h2=>hs (a3 h1).1 h2
  have hrdi:∀ t ∈ ci.rd,ob.isSome=true->sj≠t:=by
   intro t ht ho e
   subst e
   rcases hp3 with hp3 | hp3
   ·exact (a3 ho).1 (by simpa using hp3)
   ·simp [ht] at hp3
  have g1:=b6 tm σ (rdI vj) (fun t ht=>(ZgE (hrdi t ht)).symm) (fun h2 hf=>by
   rw [Zdr] at hf ⊢
   rwa [ZgE (fun ho=>hsne ho h2)] at hf)
  refine ⟨_,_,g1,?_⟩
  have hsi:oc.isSome=true->σ[si]?=some .free:=by
   intro ho
   have:=(b3 ho).2
   rw [Zdr,ZgE (fun ho'=>hsne ho' (b3 ho).1)] at this
   exact this
  rw [a6 _ (Zaa σ si oc) (rdJ vi) (fun t ht=>ZgE (fun ho e=>by
   subst e
   obtain ⟨x,hx,hne⟩:=a5 si ht
   rw [hsi ho] at hx;injection hx with hx;exact hne hx.symm)) (fun h1 hf=>by
   rw [Zdr] at hf ⊢
   rwa [ZgE (fun ho=>(hs h1 (b3 ho).1).symm)]),Zdc vi vj (fun d hd he=>d2 d he hd),ZBO (fun h1 h2=>(hs (a3 h2).1 (b3 h1).1).symm)]
 ·obtain ⟨oc,rfl,rfl,b3,b4,b5,b6⟩:=Zfk hi hp2
  have hrd:ci.rd=[]:=by simpa using hp3
  obtain ⟨rfl,f2⟩:=Zd1 hj
  cases oc with
  | none =>
   simp only [Zaa] at b6 ⊢
   have g1:=b6 tm σ (rdI vj) (by rw [hrd];intro t ht;simp at ht) (fun h1 h2=>by
    rw [Zdr] at h2 ⊢
    exact Zuf hp1 hj h2)
   refine ⟨_,_,g1,?_⟩
   rw [f2 _ (rdJ vi),Zdc vi vj (fun d hd he=>d2 d he hd)]
  | some b =>
   have hfr:=(b3 rfl).2
   rw [Zdr] at hfr
   obtain ⟨k1,k2⟩:=ZAD hp1 hj hfr (fun i hi=>by omega)
   have g1:=b6 tm σ (rdI vj) (by rw [hrd];intro t ht;simp at ht) (fun h1 h2=>by
    rw [Zdr] at h2 ⊢;exact k1)
   refine ⟨_,_,g1,?_⟩
   have:=k2 b (tput tm oi.dst vi) (rdJ vi)
   simp only [Zaa]
   rw [this,Zdc vi vj (fun d hd he=>d2 d he hd)]
 ·obtain ⟨t,k,o,q1,rfl,rfl,q4,q5⟩:=Zk2 hp1 hj hp4
  obtain ⟨rfl,f2⟩:=Zd1 hi
  have g1:=f2 tm (rdI vj)
  refine ⟨_,_,g1,?_⟩
  obtain ⟨cs,q6,q7⟩:=q5
  obtain ⟨r1,r2⟩:=ZCE hp2 hi hp3 q6
  have hv:∃ cs,σ2[t]?=some (.var cs)/\partA k cs o=some vj:=by
   unfold Zby at hp4
   rw [q1] at hp4
   simp only at hp4
   split at hp4
   ·rename_i hl;exact ⟨cs,r1 hl,q7⟩
   ·rename_i cs2 hl
    split at hp4
    ·rename_i u hu
     rw [ZsO hp4] at hu
     exact ⟨cs2,r2 cs2 hl,hu⟩
    ·cases hp4
  rw [q4 _ σ2 (rdJ vi) hv,Zdc vi vj (fun d hd he=>d2 d he hd)]
 ·obtain ⟨t,k,o,q1,rfl,rfl,q4,q5⟩:=Zk2 hp1 hj hp4
  obtain ⟨rfl,f2⟩:=Zd1 hi
  have g1:=f2 tm (rdI vj)
  refine ⟨_,_,g1,?_⟩
  obtain ⟨cs,q6,q7⟩:=q5
  have hk:σ2[t]?=some (.var cs):=by
   rcases hp2 with hp2 | ⟨hp2,hp3⟩
   ·exact Zwp hp2 hi q6
   ·refine ZEe hp2 ?_ hi q6
    unfold Zdi at hp3
    rw [q1] at hp3
    simpa using hp3
  rw [q4 _ σ2 (rdJ vi) ⟨cs,hk,q7⟩,Zdc vi vj (fun d hd he=>d2 d he hd)]
 ·obtain ⟨rfl,rfl,q⟩:=Zz1 hp1 hj
  obtain ⟨rfl,f2⟩:=Zd1 hi
  have g1:=f2 tm (rdI vj)
  refine ⟨_,_,g1,?_⟩
  rw [q _ σ2 (rdJ vi) (ZCK hp2 hi),Zdc vi vj (fun d hd he=>d2 d he hd)]
 ·have hgot:∃ t0 k0 o0 v0,ci.got=[(t0,k0,o0,v0)]/\t0 < sj/\cj.upd.lookup t0=none:=by
   unfold Zda at hp4
   split at hp4
   ·rename_i t0 k0 o0 v0 hg
    simp only [Xh,decide_eq_true_eq,Option.isNone_iff_eq_none] at hp4
    exact ⟨t0,k0,o0,v0,hg,hp4.1,hp4.2⟩
   ·cases hp4
  obtain ⟨t0,k0,o0,v0,hg,hlt,hnone⟩:=hgot
  have hg0:Zby ci {}=true:=by
   unfold Zby
   rw [hg]
   rfl
  obtain ⟨rfl,f2⟩:=Zd1 hj
  obtain ⟨t,k,o,q1,rfl,rfl,q4,cs,q6,q7⟩:=Zk2 hp2 hi hg0
  rw [hg] at q1
  injection q1 with q1 _
  injection q1 with q1 _
  subst q1
  have hk:=Zyu hp1 hj hp3 hnone hlt q6
  have g1:=q4 tm σ (rdI vj) ⟨cs,hk,q7⟩
  refine ⟨_,_,g1,?_⟩
  rw [f2 _ (rdJ vi),Zdc vi vj (fun d hd he=>d2 d he hd)]
 ·obtain ⟨oc,rfl,rfl,b3,b4,b5,b6⟩:=Zfk hi hp3
  have hn0:nsite oi.ins=0:=by simpa using hp4
  have hoc:oc=none:=by
   cases oc with
   | none=>rfl
   | some b=>exact absurd hn0 (b3 rfl).1
  subst hoc
  simp only [Zaa] at b6 ⊢
  obtain ⟨rfl,f2⟩:=Zd1 hj
  have far:∀ t ∈ ci.rd,σ[t]?=σ1[t]?:=by
   intro t ht
   have hq:=XF.1 hp5 t ht
   simp only [Xh,Wb,bne_iff_ne,ne_eq] at hq
   rcases hp1 with ⟨hp1,hp2⟩ | hp1
   ·rcases ZjW hp1 hj with ⟨_,_,rfl,_⟩ | ⟨_,_,_,_,_,ha,_⟩
    ·rfl
    ·exact (ZtM ha (by simpa using hp2) hq.1 hq.2).symm
   ·exact (ZA9 hp1 hj hq.1 hq.2).symm
  have g1:=b6 tm σ (rdI vj) far (fun h1 _=>absurd hn0 h1)
  refine ⟨_,_,g1,?_⟩
  rw [f2 _ (rdJ vi),Zdc vi vj (fun d hd he=>d2 d he hd)]
 ·obtain ⟨t,j,ns,q1,q2,rfl,rfl,q4⟩:=ZEY hp1 hj hp4
  obtain ⟨rfl,f2⟩:=Zd1 hi
  have g1:=f2 tm (rdI vj)
  refine ⟨_,_,g1,?_⟩
  rw [q4 _ σ2 (rdJ vi) (ZwR hp2 hi hp3 q1),Zdc vi vj (fun d hd he=>d2 d he hd)]
inductive Zb2 (O:Zz) (bf:Nat->Bool) (ops:List AOp) (L:Nat) (cs:List Cls):List Nat->Tms->Za->Tms->Za->Prop
 | nil {tm:Tms} {σ:Za}:Zb2 O bf ops L cs [] tm σ tm σ
 | cons {i:Nat} {l:List Nat} {v:AVal} {tm tm1 tm2:Tms} {σ σ1 σ2:Za}:Zs O bf (ops.getD i default) (L+sitesOf (ops.take i)) tm σ=some (v,tm1,σ1,cs.getD i {})->(∀ x,v≠.pan x)->Zb2 O bf ops L cs l tm1 σ1 tm2 σ2->Zb2 O bf ops L cs (i::l) tm σ tm2 σ2
theorem ZkR (ops:List AOp) {k:Nat} (h:k < ops.length):sitesOf (ops.take (k+1))=sitesOf (ops.take k)+nsite (ops[k]).ins:=by
 rw [List.take_succ_eq_append_getElem h]
 simp only [sitesOf,List.map_append,List.sum_append,List.map_cons,List.map_nil,List.sum_cons,List.sum_nil,Wo]
theorem Zqe {ops:List AOp} {L:Nat}:∀ (m k:Nat) {cs cs':List Cls} {tm:Tms} {σ:Za} {tm':Tms} {σ':Za},k+m=ops.length->ZA O bf (ops.drop k) (L+sitesOf (ops.take k)) tm σ=some (tm',σ',cs',none)->(∀ j,cs'.getD j {}=cs.getD (k+j) {})->Zb2 O bf ops L cs (XaW k m) tm σ tm' σ'
 | 0,k,cs,cs',tm,σ,tm',σ',hk,h,hcs=>by
  rw [WQ (by omega)] at h
  simp only [ZA,Xa,Xb] at h
  obtain ⟨rfl,rfl,rfl,_⟩:=h
  exact Zb2.nil
 | m+1,k,cs,cs',tm,σ,tm',σ',hk,h,hcs=>by
  have hlt:k < ops.length:=by omega
  rw [Xan hlt] at h
  simp only [ZA] at h
  split at h
  ·cases h
  ·simp only [Xa,Xb] at h
   obtain ⟨_,_,_,h⟩:=h
   cases h
  rename_i v tm1 σ1 c hnp h1
  split at h
  ·cases h
  rename_i tm2 σ2 cs2 p h2
  simp only [Xa,Xb] at h
  obtain ⟨rfl,rfl,rfl,rfl⟩:=h
  rw [XbB]
  have hc0:=hcs 0
  simp only [XK,Wo] at hc0
  refine Zb2.cons (v:=v) (tm1:=tm1) (σ1:=σ1) ?_ (fun x e=>?_) (Zqe m (k+1) (by omega) (cs':=cs2) ?_ (fun j=>?_))
  ·rw [<-hc0]
   simpa [Xd,hlt] using h1
  ·exact hnp x e
  ·rw [ZkR ops hlt,<-WC];exact h2
  ·have:=hcs (j+1)
   simp only [X6] at this
   rw [this]
   congr 1;omega
theorem ZlR {ops:List AOp} {L:Nat} {cs:List Cls} {i:Nat} {l2:List Nat}:∀ {l1:List Nat} {tm:Tms} {σ:Za} {tm':Tms} {σ':Za},(∀ j ∈ l1,(ops.getD j default).apartT (ops.getD i default)=true/\ZbP (ops.getD j default) (ops.getD i default) (cs.getD j {}) (cs.getD i {}) (L+sitesOf (ops.take j))=true/\(nsite (ops.getD j default).ins≠0->nsite (ops.getD i default).ins≠0->L+sitesOf (ops.take j)≠L+sitesOf (ops.take i))/\L+sitesOf (ops.take j)+nsite (ops.getD j default).ins<=L+sitesOf (ops.take i)) ->
  Zb2 O bf ops L cs (l1++i::l2) tm σ tm' σ'->∃ v tm1 σ1,Zs O bf (ops.getD i default) (L+sitesOf (ops.take i)) tm σ=some (v,tm1,σ1,cs.getD i {})/\(∀ x,v≠.pan x)/\Zb2 O bf ops L cs (l1++l2) tm1 σ1 tm' σ'
 | [],tm,σ,tm',σ',_,h=>by
  cases h with
  | cons h1 hn h2=>exact ⟨_,_,_,h1,hn,h2⟩
 | j::l1,tm,σ,tm',σ',hall,h=>by
  cases h with
  | cons h1 hn h2 =>
   obtain ⟨v3,tm3,σ3,h3,hn3,h4⟩:=ZlR (l1:=l1) (fun k hk=>hall k (by simp [hk])) h2
   obtain ⟨p1,p2,p3,p4⟩:=hall j (by simp)
   obtain ⟨tm4,σ4,h5,h6⟩:=Zm9 h1 h3 p1 p2 p3 p4
   exact ⟨v3,tm4,σ4,h5,hn3,Zb2.cons h6 hn h4⟩
theorem Zrl {ops:List AOp} {L:Nat} {x:AVal}:∀ (m k:Nat) {cs cs':List Cls} {tm:Tms} {σ:Za} {tm':Tms} {σ':Za},k+m=ops.length->ZA O bf (ops.drop k) (L+sitesOf (ops.take k)) tm σ=some (tm',σ',cs',some x)->(∀ j,cs'.getD j {}=cs.getD (k+j) {}) ->
  ∃ n tmJ σJ tmX,n < m/\cs'.length=n+1/\Zb2 O bf ops L cs (XaW k n) tm σ tmJ σJ/\Zs O bf (ops.getD (k+n) default) (L+sitesOf (ops.take (k+n))) tmJ σJ=some (.pan x,tmX,σ',cs.getD (k+n) {})
 | 0,k,cs,cs',tm,σ,tm',σ',hk,h,hcs=>by
  rw [WQ (by omega)] at h
  simp [ZA] at h
 | m+1,k,cs,cs',tm,σ,tm',σ',hk,h,hcs=>by
  have hlt:k < ops.length:=by omega
  rw [Xan hlt] at h
  simp only [ZA] at h
  have hc0:=hcs 0
  have hg:ops.getD k default=ops[k]:=by simp [Xd,hlt]
  split at h
  ·cases h
  ·rename_i y tm1 σ1 c h1
   simp only [Xa,Xb] at h
   obtain ⟨rfl,rfl,rfl,rfl⟩:=h
   simp only [XK,Wo] at hc0
   refine ⟨0,tm,σ,tm1,by omega,rfl,Zb2.nil,?_⟩
   rw [Wo,<-hc0,hg]
   exact h1
  rename_i v tm1 σ1 c hnp h1
  split at h
  ·cases h
  rename_i tm2 σ2 cs2 p h2
  simp only [Xa,Xb] at h
  obtain ⟨rfl,rfl,rfl,rfl⟩:=h
  simp only [XK,Wo] at hc0
  have hnext:ZA O bf (ops.drop (k+1)) (L+sitesOf (ops.take (k+1))) tm1 σ1=some (tm2,σ2,cs2,some x):=by
   rw [ZkR ops hlt,<-WC]
   exact h2
  obtain ⟨n,tmJ,σJ,tmX,g1,g2,g3,g4⟩:=Zrl m (k+1) (cs:=cs) (by omega) hnext (fun j=>by
   have:=hcs (j+1)
   simp only [X6] at this
   rw [this];congr 1;omega)
  refine ⟨n+1,tmJ,σJ,tmX,by omega,by simp [g2],?_,?_⟩
  ·rw [XbB]
   refine Zb2.cons (v:=v) (tm1:=tm1) (σ1:=σ1) ?_ (fun x e=>hnp x e) g3
   rw [<-hc0,hg]
   exact h1
  ·rw [show k+(n+1)=k+1+n by omega]
   exact g4
theorem ZA5 {o:AOp} {v:AVal} {c:Cls} {tm tm1:Tms} {σ σ1:Za} {sq:Nat} (hq:o.ins.touches=false\/ZaW o.ins=true) (h:Zs O bf o sq tm σ=some (v,tm1,σ1,c)):σ1=σ:=by
 unfold Zs at h
 split at h
 ·cases h
 ·simp only [Xa,Xb] at h;exact h.2.2.1.symm
 ·split at h
  ·split at h
   ·rename_i he
    simp only [Xa,Xb] at h
    rw [<-h.2.2.1]
    rcases hq with hq | hq
    ·exact ZHU hq he
    ·cases hi:o.ins with
     | ld k a =>
      rw [hi] at he
      simp only [execI] at he
      unfold ldA at he
      repeat' split at he
      all_goals first | (simp only [Xa,Xb] at he;exact he.2.1.symm) | cases he
     | _=>rw [hi] at hq;simp [ZaW] at hq
   ·cases h
  ·cases h
theorem Zn1 {ops:List AOp} {L:Nat} {cs:List Cls} {i:Nat} {x:AVal} {tmX:Tms} {σX:Za}:∀ {l1:List Nat} {tm:Tms} {σ:Za} {tm':Tms} {σ':Za},(∀ j ∈ l1,((ops.getD j default).ins.touches=false\/ZaW (ops.getD j default).ins=true)/\(ops.getD j default).apartT (ops.getD i default)=true/\ZbP (ops.getD j default) (ops.getD i default) (cs.getD j {}) (cs.getD i {}) (L+sitesOf (ops.take j))=true/\(nsite (ops.getD j default).ins≠0->nsite (ops.getD i default).ins≠0->L+sitesOf (ops.take j)≠L+sitesOf (ops.take i))/\L+sitesOf (ops.take j)+nsite (ops.getD j default).ins<=L+sitesOf (ops.take i)) ->
  Zb2 O bf ops L cs l1 tm σ tm' σ'->Zs O bf (ops.getD i default) (L+sitesOf (ops.take i)) tm' σ'=some (.pan x,tmX,σX,cs.getD i {})->∃ tm1,Zs O bf (ops.getD i default) (L+sitesOf (ops.take i)) tm σ=some (.pan x,tm1,σX,cs.getD i {})
 | [],tm,σ,tm',σ',_,h,hp=>by
  cases h
  exact ⟨_,hp⟩
 | j::l1,tm,σ,tm',σ',hall,h,hp=>by
  cases h with
  | cons h1 hn h2 =>
   obtain ⟨tm3,h3⟩:=Zn1 (l1:=l1) (fun k hk=>hall k (by simp [hk])) h2 hp
   obtain ⟨hq,p1,p2,p3,p4⟩:=hall j (by simp)
   obtain ⟨tm4,σ4,h5,h6⟩:=Zm9 h1 h3 p1 p2 p3 p4
   have:=ZA5 hq h6
   subst this
   exact ⟨tm4,h5⟩
end
end
section
open Go.RowKit
section
variable {P:Program} {O:Zz} {bf:Nat->Bool} {an:Ann} {base:Nat->Prop} {w0:World} {I0:Imm}
structure Door where
 D:List Deferred
 K:List Nat
 X:Nat->Value
def Door.ok (dr:Door) (a:Act):Prop:=a.defers=dr.D/\∀ j ∈ dr.K,a.tmps.getD j undef=dr.X j
def ZfB:Door:=⟨[],[],fun _=>undef⟩
theorem ZmP {a:Act}:ZfB.ok a↔a.defers=[]:=by simp [Door.ok,ZfB]
def StR (dr:Door) (nt:Nat) (base:Nat->Prop) (w0:World) (I0 I:Imm) (β:Bmap) (tm:Tms) (σ:Za) (a:Act) (w:World):Prop :=
 ∃ I' β',I.le I'/\β.le β'/\TR I' β' tm a.tmps/\(dr.ok a/\nt<=a.tmps.size)/\Rel base w0 I0 I' β' σ w
variable {dr:Door}
theorem StR.trans {nt:Nat} {I I1:Imm} {β β1:Bmap} {tm:Tms} {σ:Za} {a:Act} {w:World} (hI:I.le I1) (hβ:β.le β1) (h:StR dr nt base w0 I0 I1 β1 tm σ a w):StR dr nt base w0 I0 I β tm σ a w:=by
 obtain ⟨I',β',h1,h2,h3⟩:=h
 exact ⟨I',β',hI.trans h1,hβ.trans h2,h3⟩
theorem Post.trans {I I1:Imm} {β β1:Bmap} {x:AVal} {σ:Za} {u:Value} {w:World} (hI:I.le I1) (hβ:β.le β1) (h:Post base w0 I0 I1 β1 x σ u w):Post base w0 I0 I β x σ u w:=by
 obtain ⟨I',β',h1,h2,h3⟩:=h
 exact ⟨I',β',hI.trans h1,hβ.trans h2,h3⟩
theorem ZrO {I:Imm} {β:Bmap} {tm:Tms} {a:Act} {v:AVal} {u:Value} (T:TR I β tm a.tmps) (hv:VR I β v u) {d:Option Nat} (hd:∀ n,d=some n->n < a.tmps.size):TR I β (tput tm d v) (a.put d u).tmps:=by
 cases d with
 | none=>exact T
 | some d=>exact T.put hv (hd d rfl)
theorem Zno (a:Act) (d:Option Nat) (u:Value):(a.put d u).defers=a.defers:=by cases d <;> rfl
theorem Zi2 {a:Act} {d:Option Nat} {u:Value} (h:dr.ok a) (hd:∀ n,d=some n->n ∉ dr.K):dr.ok (a.put d u):=by
 refine ⟨(Zno a d u).trans h.1,fun j hj=>?_⟩
 rw [<-h.2 j hj]
 cases d with
 | none=>rfl
 | some n =>
  have hne:n≠j:=by rintro rfl;exact hd n rfl hj
  simp only [Act.put,WU]
  rw [Array.getElem?_setIfInBounds_ne hne]
theorem ZdU (a:Act) (d:Option Nat) (u:Value):(a.put d u).tmps.size=a.tmps.size:=by cases d <;> simp [Act.put]
theorem Zr4 {I:Imm} {β:Bmap} {tm:Tms} {a:Act} (T:TR I β tm a.tmps) {ops:Array Oper} {o:Oper} {g:Option (Nat×Bool)} (hg:ZhU ops o.guard=some g) {b:Bool} (h:Za3 g tm=some b):Region.wanted o (yielded ops a.tmps)=b:=by
 unfold ZhU at hg
 unfold Region.wanted
 split at hg
 ·rename_i e
  injection hg with hg;subst hg
  simp only [Za3,Xa] at h
  subst h
  rw [e]
 ·rename_i j want e
  split at hg
  ·rename_i o' ho'
   split at hg
   ·rename_i d hd
    injection hg with hg;subst hg
    rw [e]
    show (yielded ops a.tmps j == some want)=b
    have hy:yielded ops a.tmps j=match a.tmps[d]? with | some (.bool b)=>some b | _=>none:=by
     simp only [yielded,ho',Option.bind_some,hd]
     rfl
    rw [hy]
    have hx:=T d
    rw [WU] at hx
    simp only [Za3] at h
    split at h
    ·rename_i b' hb'
     rw [hb'] at hx
     simp only [VR] at hx
     have : a.tmps[d]?=some (.bool b'):=by
      cases hq:a.tmps[d]? with
      | none=>rw [hq] at hx;simp [undef] at hx
      | some q=>rw [hq] at hx;simp at hx;subst hx;rfl
     rw [this]
     simp only [Xa] at h
     subst h
     cases b' <;> cases want <;> rfl
    ·rename_i hb'
     rw [hb'] at hx
     simp only [VR,VRs] at hx
     obtain ⟨us,hus,hnil⟩:=hx
     injection h with h;subst h
     cases hq:a.tmps[d]? with
     | none=>rfl
     | some q =>
      rw [hq] at hus;simp at hus;subst hus
      rfl
    ·cases h
   ·cases hg
  ·cases hg
theorem Zje {ops:Array Oper} {o:Oper} {ao:AOp} (hc:ZeM P an ops o=some ao):∃ g i,ZhU ops o.guard=some g/\(∃ own,ZC P an own o.op=some i)/\(∀ n,o.dst=some n->n < an.nt/\n ∉ an.keep)/\ao=⟨o.dst,i,g,(o.after.toList.filter (Region.binds .any)).map (·.on)⟩:=by
 unfold ZeM at hc
 split at hc
 ·rename_i g i hg hi
  split at hc
  ·rename_i hd
   injection hc with hc
   refine ⟨g,i,hg,⟨_,hi⟩,fun n hn=>?_,hc.symm⟩
   rw [hn] at hd
   simp only [ZqM,Xh,decide_eq_true_eq,Wb,List.contains_eq_mem,decide_eq_false_iff_not] at hd
   exact hd
  ·cases hc
 ·cases hc
theorem Zfs (hO:Z1 P O) (hkp:∀ n ∈ dr.K,n ∈ an.keep) {ops:Array Oper} {o:Oper} {ao:AOp} (hc:ZeM P an ops o=some ao) {I:Imm} {β:Bmap} {tm tm':Tms} {σ σ':Za} {a:Act} {w:World} (T:TR I β tm a.tmps) (hd:dr.ok a/\an.nt<=a.tmps.size) (R:Rel base w0 I0 I β σ w) (hb:KLt base w0)
  {sq:Nat} {v:AVal} {c:Cls} (h:Zs O bf ao sq tm σ=some (v,tm',σ',c)) {K:Act->World->Prop} {Q:Exit->Act->World->Prop} (hK:(∀ x,v≠.pan x)->∀ a' w',StR dr an.nt base w0 I0 I β tm' σ' a' w'->K a' w')
  (hQ:∀ x,v=.pan x->∀ u w',Post base w0 I0 I β x σ' u w'->Q (.panic [{ v:=u,recovered:=false }]) a w') :
  if Region.wanted o (yielded ops a.tmps) then o.wp P a w K Q\/(o.asks P a w/\LetsOut Q) else K (a.put o.dst undef) w:=by
 obtain ⟨g,i,hg,⟨own,hi⟩,hdst,rfl⟩:=Zje hc
 have hdst':∀ n,o.dst=some n->n < a.tmps.size:=fun n hn=>Nat.lt_of_lt_of_le (hdst n hn).1 hd.2
 have hdk:∀ n,o.dst=some n->n ∉ dr.K:=fun n hn hm=>(hdst n hn).2 (hkp n hm)
 unfold Zs at h
 split at h
 ·cases h
 ·rename_i hw
  simp only at hw
  rw [Zr4 T hg hw]
  simp only [Xa,Xb] at h
  obtain ⟨rfl,rfl,rfl,rfl⟩:=h
  simp only [Xf,if_false]
  exact hK (by simp) _ _ ⟨I,β,Imm.le.refl I,Bmap.le.refl β,ZrO T (ZhZ I β) hdst',⟨Zi2 hd.1 hdk,by rw [ZdU];exact hd.2⟩,R⟩
 ·rename_i hw
  simp only at hw
  rw [Zr4 T hg hw]
  simp only [if_true]
  split at h
  ·rename_i hf
   split at h
   ·rename_i v' σ1 c' he
    simp only [Xa,Xb] at h
    obtain ⟨rfl,rfl,rfl,rfl⟩:=h
    have hs:nsite i≠0->σ[sq]?=some .free:=by
     intro hn
     simp only [WM,beq_iff_eq] at hf
     exact Zdr.1 (hf.resolve_left hn)
    rcases ZH4 hO hi T R hb hs he with hok | ⟨x,rfl,hpan⟩
    ·refine Xk (hok.wp (fun u w' hp=>?_))
     obtain ⟨I',β',h1,h2,h3,h4⟩:=hp
     refine hK ?_ _ _ ⟨I',β',h1,h2,ZrO (T.mono h1 h2) h4 hdst',⟨Zi2 hd.1 hdk,by rw [ZdU];exact hd.2⟩,h3⟩
     rintro x rfl
     simp only [VR] at h4
    ·exact Xk (hpan.wp (fun u w' hp=>hQ x rfl u w' hp))
   ·cases h
  ·cases h
theorem Zkt (hO:Z1 P O) (hkp:∀ n ∈ dr.K,n ∈ an.keep) (hb:KLt base w0) {ops:Array Oper} {Q:Exit->Act->World->Prop}:∀ {l:List Oper} {asl:List AOp} {sq:Nat} {I:Imm} {β:Bmap} {tm tm':Tms} {σ σ':Za} {cs:List Cls} {p:Option AVal} {a:Act} {w:World},Zb4 P an ops l=some asl->TR I β tm a.tmps->(dr.ok a/\an.nt<=a.tmps.size)->Rel base w0 I0 I β σ w ->
  ZA O bf asl sq tm σ=some (tm',σ',cs,p)->(p=none->∀ a' w',StR dr an.nt base w0 I0 I β tm' σ' a' w'->Q .normal a' w') ->
  (∀ x,p=some x->∀ a' u w',dr.ok a'->Post base w0 I0 I β x σ' u w'->Q (.panic [{ v:=u,recovered:=false }]) a' w')->wpList P ops Q l a w
 | [],asl,sq,I,β,tm,tm',σ,σ',cs,p,a,w,hc,T,hd,R,h,hQ,_=>by
  simp only [Zb4,Xa] at hc;subst hc
  simp only [ZA,Xa,Xb] at h
  obtain ⟨rfl,rfl,rfl,rfl⟩:=h
  exact wpList_nil (hQ rfl _ _ ⟨I,β,Imm.le.refl I,Bmap.le.refl β,T,hd,R⟩)
 | o::l,asl,sq,I,β,tm,tm',σ,σ',cs,p,a,w,hc,T,hd,R,h,hQ,hP=>by
  simp only [Zb4] at hc
  split at hc
  ·rename_i ao hao
   split at hc
   ·rename_i as' has'
    injection hc with hc;subst hc
    simp only [ZA] at h
    split at h
    ·cases h
    ·rename_i x tm1 σ1 c1 h1
     simp only [Xa,Xb] at h
     obtain ⟨rfl,rfl,rfl,rfl⟩:=h
     have:=Zfs (dr:=dr) (K:=wpList P ops Q l) (Q:=Q) hO hkp hao T hd R hb h1 (fun hn=>absurd rfl (hn x)) (fun x' e u w' hp=>by
      injection e with e;subst e
      exact hP x rfl a u w' hd.1 hp)
     unfold wpList
     exact this
    ·rename_i v tm1 σ1 c1 hnp h1
     split at h
     ·cases h
     rename_i tm2 σ2 cs2 p2 h2
     simp only [Xa,Xb] at h
     obtain ⟨rfl,rfl,rfl,rfl⟩:=h
     have:=Zfs (dr:=dr) (K:=wpList P ops Q l) (Q:=Q) hO hkp hao T hd R hb h1 (fun _ a' w' hs=>by
      obtain ⟨I',β',g1,g2,g3,g4,g5⟩:=hs
      exact Zkt hO hkp hb has' g3 g4 g5 h2 (fun hp a'' w'' hs'=>hQ hp a'' w'' (hs'.trans g1 g2)) (fun x hx a'' u w'' hd' hp=>hP x hx a'' u w'' hd' (hp.trans g1 g2))) (fun x e=>absurd e (fun e=>hnp x e))
     unfold wpList
     exact this
   ·cases hc
  ·cases hc
theorem Zg3 {ops:Array Oper}:∀ {l:List Oper} {asl:List AOp},Zb4 P an ops l=some asl->asl.length=l.length/\∀ (i:Nat) (o:Oper),l[i]?=some o->∃ ao,asl[i]?=some ao/\ZeM P an ops o=some ao
 | [],asl,h=>by simp only [Zb4,Xa] at h;subst h;exact ⟨rfl,fun i o ho=>by simp at ho⟩
 | o::l,asl,h=>by
  simp only [Zb4] at h
  split at h
  ·rename_i ao hao
   split at h
   ·rename_i as' has'
    injection h with h;subst h
    obtain ⟨h1,h2⟩:=Zg3 has'
    refine ⟨by simp [h1],fun i o' ho'=>?_⟩
    cases i with
    | zero=>simp only [XB,Xa] at ho';subst ho';exact ⟨ao,rfl,hao⟩
    | succ i=>simp only [List.getElem?_cons_succ] at ho' ⊢;exact h2 i o' ho'
   ·cases h
  ·cases h
theorem Zk4:∀ (ls acc:List (List Nat)),(∀ j p,p ∈ (acc.getD j [])->True)->(Zbz ls acc).take acc.length=acc/\(Zbz ls acc).length=acc.length+ls.length /\
  ∀ j,j < ls.length->∀ p,p ∈ (Zbz ls acc).getD (acc.length+j) []->p ∈ ls.getD j []\/∃ i ∈ ls.getD j [],i < acc.length+j/\p ∈ (Zbz ls acc).getD i []
 | [],acc,_=>by simp [Zbz]
 | l::ls,acc,_=>by
  obtain ⟨h1,h2,h3⟩:=Zk4 ls (acc++[l++l.flatMap fun i=>acc.getD i []]) (fun _ _ _=>trivial)
  simp only [Zbz]
  have hlen:(acc++[l++l.flatMap fun i=>acc.getD i []]).length=acc.length+1:=by simp
  rw [hlen] at h1 h2 h3
  have hpre:∀ i,i < acc.length+1->(Zbz ls (acc++[l++l.flatMap fun i=>acc.getD i []])).getD i []=(acc++[l++l.flatMap fun i=>acc.getD i []]).getD i []:=by
   intro i hi
   have:=congrArg (fun q:List (List Nat)=>q.getD i []) h1
   simp only [Xd,List.getElem?_take,hi,if_true] at this ⊢
   exact this
  refine ⟨?_,by rw [h2];simp;omega,?_⟩
  ·have:=congrArg (List.take acc.length) h1
   rw [List.take_take,Nat.min_eq_left (by omega)] at this
   rw [this];simp
  ·intro j hj p hp
   cases j with
   | zero =>
    rw [Wo,hpre _ (by omega)] at hp
    simp only [Xd,Ws (XI _),Xaf,XB,Wy,Xl,Wc] at hp
    rcases hp with hp | ⟨i,hi,hp⟩
    ·exact Xk (by simpa using hp)
    ·refine Xp ⟨i,by simpa using hi,?_,?_⟩
     ·by_cases hlt:i < acc.length
      ·omega
      ·rw [XO (by omega)] at hp;simp at hp
     ·have hlt:i < acc.length:=by
       by_cases hlt:i < acc.length
       ·exact hlt
       ·rw [XO (by omega)] at hp;simp at hp
      rw [hpre i (by omega)]
      simp only [Xd,Wa hlt]
      exact hp
   | succ j =>
    have:=h3 j (by simpa using hj) p (by rw [show acc.length+1+j=acc.length+(j+1) by omega];exact hp)
    rcases this with h | ⟨i,h4,h5,h6⟩
    ·exact Xk (by simpa using h)
    ·exact Xp ⟨i,by simpa using h4,by omega,h6⟩
theorem Zqc (f:Nat->Nat) (p:Nat):∀ (l:List Nat) (m:Nat),(l.foldl (fun m i=>m ||| 2 ^ i ||| f i) m).testBit p=true->m.testBit p=true\/p ∈ l\/∃ i ∈ l,(f i).testBit p=true
 | [],m,h=>Xk h
 | i::l,m,h=>by
  rcases Zqc f p l _ h with h | h | ⟨j,h1,h2⟩
  ·simp only [Nat.testBit_or,WM,Nat.testBit_two_pow,decide_eq_true_eq] at h
   rcases h with (h | h) | h
   ·exact Xk h
   ·exact Xp (Xk (by simp [h]))
   ·exact Xp (Xp ⟨i,by simp,h⟩)
  ·exact Xp (Xk (by simp [h]))
  ·exact Xp (Xp ⟨j,by simp [h1],h2⟩)
theorem Zml:∀ (ls:List (List Nat)) (accM:List Nat) (accL:List (List Nat)),accM.length=accL.length->(∀ j p,(accM.getD j 0).testBit p=true->p ∈ accL.getD j [])->∀ j p,((Zf8 ls accM).getD j 0).testBit p=true->p ∈ (Zbz ls accL).getD j []
 | [],accM,accL,_,h=>h
 | l::ls,accM,accL,hl,h=>by
  simp only [Zf8,Zbz]
  refine Zml ls _ _ (by simp [hl]) ?_
  intro j p hp
  by_cases hj:j < accM.length
  ·simp only [Xd,Wa hj] at hp
   simp only [Xd,Wa (show j < accL.length by omega)]
   have:=h j p (by simpa [Xd] using hp)
   simpa [Xd] using this
  ·by_cases hj':j=accM.length
   ·subst hj'
    simp only [Xd,Ws (XI _),Xaf,XB,Wy] at hp
    rw [hl]
    simp only [Xd,Ws (XI _),Xaf,XB,Wy,Xl,Wc]
    rcases Zqc _ p l 0 hp with h0 | h0 | ⟨i,h1,h2⟩
    ·simp at h0
    ·exact Xk h0
    ·refine Xp ⟨i,h1,?_⟩
     have:=h i p (by simpa [Xd] using h2)
     simpa [Xd] using this
   ·simp only [Xd] at hp
    rw [XO (by simp;omega)] at hp
    simp at hp
theorem Zsb {asl:List AOp} {ps:List (Nat×Nat)} (h:Zee asl=some ps) :
  (∀ i j,i < j->j < asl.length->i ∉ (Zbz (asl.map (·.after)) []).getD j []->(asl.getD i default).apartT (asl.getD j default)=true/\((asl.getD i default).ins.touches=false\/(asl.getD j default).ins.touches=false\/(i,j) ∈ ps))/\(∀ j,j < asl.length->∀ i ∈ (asl.getD j default).after,i < j):=by
 have hsub:=Zml (asl.map (·.after)) [] [] rfl (by simp)
 unfold Zee at h
 simp only at h
 split at h
 ·rename_i hc
  simp only [Xh,XF,Wc,Xq,X1,WR,forall_exists_index,and_imp,Wb,decide_eq_true_eq] at hc
  obtain ⟨h1,h2⟩:=hc
  injection h with h
  have hbit:∀ i j,i ∉ (Zbz (asl.map (·.after)) []).getD j []->((Zf8 (asl.map (·.after)) []).getD j 0).testBit i=false:=by
   intro i j hn
   cases hb:((Zf8 (asl.map (·.after)) []).getD j 0).testBit i with
   | false=>rfl
   | true=>exact absurd (hsub j i hb) hn
  refine ⟨fun i j hij hj hn=>⟨?_,?_⟩,fun j hj i hi=>h2 j hj i hi⟩
  ·exact h1 (i,j) j hj i hij (hbit i j hn) rfl
  ·cases ht1:(asl.getD i default).ins.touches with
   | false=>exact Xk rfl
   | true =>
    cases ht2:(asl.getD j default).ins.touches with
    | false=>exact Xp (Xk rfl)
    | true =>
     refine Xp (Xp ?_)
     rw [<-h]
     rw [Xl]
     refine Xk ?_
     simp only [X1,Wc,Xq,WR,Xh]
     exact ⟨⟨j,hj,i,⟨hij,by rw [hbit i j hn];rfl⟩,rfl⟩,ht1,ht2⟩
 ·cases h
theorem ZGC {asl:List AOp} {ps:List (Nat×Nat)} (h:Zee asl=some ps) {j:Nat} (hm:(j,j) ∈ ps):∀ k,j < k->k < asl.length->j ∈ (Zbz (asl.map (·.after)) []).getD k []:=by
 have hsub:=Zml (asl.map (·.after)) [] [] rfl (by simp)
 unfold Zee at h
 simp only at h
 split at h
 ·injection h with h
  rw [<-h,Xl] at hm
  rcases hm with hm | hm
  ·simp only [X1,Wc,Xq,WR,Xb] at hm
   obtain ⟨⟨a,_,b,⟨hb,_⟩,e1,e2⟩,_⟩:=hm
   omega
  ·simp only [Xq,X1,WR,Xb,and_self,Xh,XF,WM,decide_eq_true_eq] at hm
   obtain ⟨a,⟨_,_,ha⟩,rfl⟩:=hm
   intro k hk hkl
   rcases ha k hkl with h1 | h1
   ·omega
   ·exact hsub k a h1
 ·cases h
theorem ZHh {asl:List AOp} {ps:List (Nat×Nat)} (h:Zee asl=some ps) {j:Nat} (hm:(j,j) ∈ ps):(asl.getD j default).ins.touches=true:=by
 unfold Zee at h
 simp only at h
 split at h
 ·injection h with h
  rw [<-h,Xl] at hm
  rcases hm with hm | hm
  ·simp only [X1,Wc,Xq,WR,Xb] at hm
   obtain ⟨⟨a,_,b,⟨hb,_⟩,e1,e2⟩,_⟩:=hm
   omega
  ·simp only [Xq,X1,WR,Xb,and_self,Xh] at hm
   obtain ⟨a,⟨_,hc,_⟩,rfl⟩:=hm
   cases hi:(asl.getD a default).ins <;> rw [hi] at hc <;> first | rfl | (simp [ZaM] at hc)
 ·cases h
end
end
section
open Go.RowKit
section
variable {P:Program} {O:Zz} {bf:Nat->Bool} {an:Ann} {base:Nat->Prop} {w0:World} {I0:Imm} {dr:Door}
theorem ZDA {o:AOp} {tm tm1:Tms} {σ σ1:Za} {sq:Nat} {v:AVal} {c:Cls} (ht:o.ins.touches=false) (h:Zs O bf o sq tm σ=some (v,tm1,σ1,c)):c={}:=by
 unfold Zs at h
 split at h
 ·cases h
 ·simp only [Xa,Xb] at h;exact h.2.2.2.symm
 ·split at h
  ·split at h
   ·rename_i he
    simp only [Xa,Xb] at h
    rw [<-h.2.2.2]
    exact (Zvs ht he).1
   ·cases h
  ·cases h
theorem Zhh {i:Ins} (h:i.touches=false):nsite i=0:=by cases i <;> simp [Ins.touches] at h <;> rfl
theorem Zft {asl:List AOp} {L:Nat} {cs:List Cls}:∀ {l:List Nat} {tm tm':Tms} {σ σ':Za},Zb2 O bf asl L cs l tm σ tm' σ'->∀ j ∈ l,(asl.getD j default).ins.touches=false->cs.getD j {}={}
 | [],_,_,_,_,_,j,hj,_=>by simp at hj
 | i::l,_,_,_,_,h,j,hj,ht=>by
  cases h with
  | cons h1 _ h2 =>
   rcases Xv.1 hj with rfl | hj
   ·exact ZDA ht h1
   ·exact Zft h2 j hj ht
theorem Zfl (asl:List AOp):∀ {j i:Nat},j < i->i<=asl.length->sitesOf (asl.take j)+nsite (asl.getD j default).ins<=sitesOf (asl.take i):=by
 intro j i hji hi
 induction i with
 | zero=>omega
 | succ i ih =>
  rw [ZkR asl (by omega)]
  by_cases e:j=i
  ·subst e
   simp [Xd,show j < asl.length by omega]
  ·have:=ih (by omega) (by omega);omega
theorem ZuY (hO:Z1 P O) (hkp:∀ n ∈ dr.K,n ∈ an.keep) (hb:KLt base w0) {ops:Array Oper} {asl:List AOp} (hcomp:Zb4 P an ops ops.toList=some asl) {ps:List (Nat×Nat)} (hps:Zee asl=some ps) {L:Nat} {cs:List Cls} (hchk:Zcz asl L ps cs=true)
  {tmF:Tms} {σF:Za} {Q:Exit->Act->World->Prop} {I:Imm} {β:Bmap} (hQ:∀ a' w',StR dr an.nt base w0 I0 I β tmF σF a' w'->Q .normal a' w') :
  ∀ (fuel:Nat) (rem:List Nat) (listed:Array Bool) (a:Act) (w:World) (tm:Tms) (σ:Za),Zb2 O bf asl L cs rem tm σ tmF σF->rem.Pairwise (· < ·)->(∀ j ∈ rem,j < ops.size)->(∀ j,j < ops.size->(listed.getD j true=true↔j ∉ rem))->listed.size=ops.size ->
   (∀ k,k < ops.size->k ∉ rem->∀ p ∈ (Zbz (asl.map (·.after)) []).getD k [],p ∉ rem)->rem.length=fuel->StR dr an.nt base w0 I0 I β tm σ a w->wpAny P .any ops Q fuel listed a w:=by
 obtain ⟨hlen,hget⟩:=Zg3 hcomp
 obtain ⟨hp1,hp2⟩:=Zsb hps
 obtain ⟨_,_,hanc⟩:=Zk4 (asl.map (·.after)) [] (fun _ _ _=>trivial)
 simp only [XR] at hlen
 have hafter:∀ j o,ops[j]?=some o->∃ ao,asl.getD j default=ao/\ZeM P an ops o=some ao/\ao.after=(o.after.toList.filter (Region.binds .any)).map (·.on)/\ao.dst=o.dst:=by
  intro j o ho
  obtain ⟨ao,h1,h2⟩:=hget j o (by simpa using ho)
  refine ⟨ao,by simp [Xd,h1],h2,?_⟩
  obtain ⟨g,i,_,_,_,rfl⟩:=Zje h2
  exact ⟨rfl,rfl⟩
 intro fuel
 induction fuel with
 | zero =>
  intro rem listed a w tm σ hr hs hlt hl hsz hcl hfl hst
  have : rem=[]:=List.eq_nil_of_length_eq_zero hfl
  subst this
  cases hr
  refine ⟨?_,hQ a w hst⟩
  apply List.eq_nil_iff_forall_not_mem.2
  intro j hj
  rw [mem_ready] at hj
  obtain ⟨h1,o,ho,_⟩:=hj
  have hjl:j < ops.size:=(Xu.1 ho).1
  have:=(hl j hjl).2 (by simp)
  rw [h1] at this;cases this
 | succ fuel ih =>
  intro rem listed a w tm σ hr hs hlt hl hsz hcl hfl hst
  have isRem:∀ j,j < ops.size->listed.getD j true=false->j ∈ rem:=by
   intro j hj h
   by_cases hm:j ∈ rem
   ·exact hm
   ·have:=(hl j hj).2 hm;rw [h] at this;cases this
  have getD_tf:∀ j,j < ops.size->listed.getD j false=listed.getD j true:=by
   intro j hj
   simp [Xa7,hsz,hj]
  refine ⟨fun hnil=>?_,fun i hi=>?_⟩
  ·exfalso
   cases rem with
   | nil=>simp at hfl
   | cons r rs =>
    have hrl:r < ops.size:=hlt r (by simp)
    have hro:ops[r]?=some ops[r]:=by simp [hrl]
    obtain ⟨ao,e1,e2,e3,_⟩:=hafter r _ hro
    have : r ∈ Region.ready .any ops listed:=by
     rw [mem_ready]
     refine ⟨?_,ops[r],hro,fun e he hbnd=>?_⟩
     ·cases hq:listed.getD r true with
      | false=>rfl
      | true=>exact absurd (List.mem_cons_self) ((hl r hrl).1 hq)
     ·have hon:e.on ∈ ao.after:=by rw [e3];exact Xq.2 ⟨e,X1.2 ⟨by simpa using he,hbnd⟩,rfl⟩
      have hlt':e.on < r:=hp2 r (by omega) e.on (by rw [e1];exact hon)
      rw [getD_tf _ (by omega)]
      refine (hl e.on (by omega)).2 (fun hm=>?_)
      rcases Xv.1 hm with h | hm
      ·omega
      ·have:=(Wf.1 hs).1 e.on hm;omega
    rw [hnil] at this;simp at this
  ·rw [mem_ready] at hi
   obtain ⟨hi0,o,ho,hpre⟩:=hi
   have hil:i < ops.size:=(Xu.1 ho).1
   have him:=isRem i hil hi0
   obtain ⟨l1,l2,rfl⟩:=List.append_of_mem him
   obtain ⟨ao,e1,e2,e3,e4⟩:=hafter i o ho
   have hdone:∀ p ∈ (asl.getD i default).after,p < ops.size->p ∉ l1++i::l2:=by
    intro p hp hpl
    rw [e1,e3] at hp
    obtain ⟨e,he,rfl⟩:=Xq.1 hp
    obtain ⟨he1,he2⟩:=X1.1 he
    have:=hpre e (by simpa using he1) he2
    rw [getD_tf _ hpl] at this
    exact (hl e.on hpl).1 this
   have hai:(asl.map (·.after)).getD i []=(asl.getD i default).after:=by
    simp [Xd,show i < asl.length by omega]
   have hanci:∀ p ∈ (Zbz (asl.map (·.after)) []).getD i [],p ∉ l1++i::l2:=by
    intro p hp
    have hap:∀ q,q ∈ (asl.map (·.after)).getD i []->q < i:=fun q hq=>hp2 i (by omega) q (by rw [<-hai];exact hq)
    rcases hanc i (by simp;omega) p (by simpa using hp) with h | ⟨q,h1,h2,h3⟩
    ·exact hdone p (by rw [<-hai];exact h) (by have:=hap p h;omega)
    ·have hql:q < ops.size:=by simp at h2;omega
     exact hcl q hql (hdone q (by rw [<-hai];exact h1) hql) p h3
   have hl1:∀ j ∈ l1,j < i:=by
    intro j hj
    have:=WI.1 hs
    exact this.2.2 j hj i (by simp)
   obtain ⟨v1,tm1,σ1,h1,hnp1,h2⟩:=ZlR (l1:=l1) (i:=i) (fun j hj=>by
    have hji:=hl1 j hj
    have hjn:j ∉ (Zbz (asl.map (·.after)) []).getD i []:=fun hm=>hanci j hm (by simp [hj])
    obtain ⟨p1,p2⟩:=hp1 j i hji (by omega) hjn
    refine ⟨p1,?_,fun hn _=>?_,?_⟩
    ·rcases p2 with p2 | p2 | p2
     ·have:=Zft hr j (by simp [hj]) p2
      have hem:ZbB (asl.getD j default) (cs.getD j {})=true:=by rw [this];simp only [ZbB,Zhh p2];rfl
      simp only [ZbP,hem,Xak]
     ·have:=Zft hr i (by simp) p2
      have hem:ZbB (asl.getD i default) (cs.getD i {})=true:=by rw [this];simp only [ZbB,Zhh p2];rfl
      simp only [ZbP,hem,Xak,XbF]
     ·have:=XF.1 hchk (j,i) p2
      simp only [WM,beq_iff_eq] at this
      rcases this with h | h
      ·omega
      ·exact h
    ·have:=Zfl asl hji (by omega)
     omega
    ·have:=Zfl asl hji (by omega)
     omega) hr
   unfold wpOp
   rw [ho]
   rw [e1] at h1
   obtain ⟨I',β',g1,g2,g3,g4,g5⟩:=hst
   refine Zfs hO hkp e2 g3 g4 g5 hb h1 (fun _ a' w' hs'=>ih (l1++l2) _ a' w' tm1 σ1 h2 ?_ ?_ ?_ (by simpa using hsz) ?_ ?_ (hs'.trans g1 g2)) (fun x e=>absurd e (hnp1 x))
   ·have:=WI.1 hs
    exact WI.2 ⟨this.1,(Wf.1 this.2.1).2,fun x hx y hy=>this.2.2 x hx y (by simp [hy])⟩
   ·intro j hj
    refine hlt j ?_
    simp only [Xl,Xv] at hj ⊢
    rcases hj with h | h
    ·exact Xk h
    ·exact Xp (Xp h)
   ·intro j hj
    have hs1:=WI.1 hs
    by_cases hij:i=j
    ·subst hij
     have hn:i ∉ l1++l2:=by
      intro hm
      rcases Xl.1 hm with h | h
      ·have:=hl1 i h;omega
      ·have:=(Wf.1 hs1.2.1).1 i h;omega
     simp [Xa7,hsz,hil,hn]
    ·rw [getD_set_ne true hij,hl j hj]
     simp only [Xl,Xv,not_or]
     constructor
     ·rintro ⟨a1,_,a3⟩;exact ⟨a1,a3⟩
     ·rintro ⟨a1,a3⟩;exact ⟨a1,fun e=>hij e.symm,a3⟩
   ·intro k hk hkn p hp hm
    have hsub:p ∈ l1++i::l2:=by
     simp only [Xl,Xv] at hm ⊢
     rcases hm with h | h
     ·exact Xk h
     ·exact Xp (Xp h)
    by_cases hki:k=i
    ·subst hki;exact hanci p hp hsub
    ·refine hcl k hk (fun hkm=>hkn ?_) p hp hsub
     simp only [Xl,Xv] at hkm ⊢
     rcases hkm with h | h | h
     ·exact Xk h
     ·exact absurd h hki
     ·exact Xp h
   ·simp at hfl ⊢;omega
theorem ZsB (hO:Z1 P O) (hkp:∀ n ∈ dr.K,n ∈ an.keep) (hb:KLt base w0) {ops:Array Oper} {asl:List AOp} (hcomp:Zb4 P an ops ops.toList=some asl) {ps:List (Nat×Nat)} (hps:Zee asl=some ps) {L:Nat} {cs:List Cls} {jp:Nat} (hjl:jp < ops.size) (hmark:(jp,jp) ∈ ps) (hmarkT:(asl.getD jp default).ins.touches=true) (hfree:∀ j i,(j,i) ∈ ps->j < i->i<=jp->ZbP (asl.getD j default) (asl.getD i default) (cs.getD j {}) (cs.getD i {}) (L+sitesOf (asl.take j))=true) (hquiet:∀ j,(j,jp) ∈ ps->j < jp->ZaW (asl.getD j default).ins=true)
  {x:AVal} {σF:Za} {Q:Exit->Act->World->Prop} {I:Imm} {β:Bmap} (hQ:∀ a' u w',dr.ok a'->Post base w0 I0 I β x σF u w'->Q (.panic [{ v:=u,recovered:=false }]) a' w') :
  ∀ (fuel:Nat) (pre post:List Nat) (listed:Array Bool) (a:Act) (w:World) (tm tmJ tmX:Tms) (σ σJ:Za),Zb2 O bf asl L cs pre tm σ tmJ σJ->Zs O bf (asl.getD jp default) (L+sitesOf (asl.take jp)) tmJ σJ=some (.pan x,tmX,σF,cs.getD jp {})->(pre++jp::post).Pairwise (· < ·)->(∀ j ∈ pre++jp::post,j < ops.size)->(∀ j,j < ops.size->(listed.getD j true=true↔j ∉ pre++jp::post))->listed.size=ops.size ->
   (∀ k,k < ops.size->k ∉ pre++jp::post->∀ p ∈ (Zbz (asl.map (·.after)) []).getD k [],p ∉ pre++jp::post)->(pre++jp::post).length=fuel->StR dr an.nt base w0 I0 I β tm σ a w->wpAny P .any ops Q fuel listed a w:=by
 obtain ⟨hlen,hget⟩:=Zg3 hcomp
 obtain ⟨hp1,hp2⟩:=Zsb hps
 have hmk:=ZGC hps hmark
 obtain ⟨_,_,hanc⟩:=Zk4 (asl.map (·.after)) [] (fun _ _ _=>trivial)
 simp only [XR] at hlen
 have hafter:∀ j o,ops[j]?=some o->∃ ao,asl.getD j default=ao/\ZeM P an ops o=some ao/\ao.after=(o.after.toList.filter (Region.binds .any)).map (·.on)/\ao.dst=o.dst:=by
  intro j o ho
  obtain ⟨ao,h1,h2⟩:=hget j o (by simpa using ho)
  refine ⟨ao,by simp [Xd,h1],h2,?_⟩
  obtain ⟨g,i,_,_,_,rfl⟩:=Zje h2
  exact ⟨rfl,rfl⟩
 intro fuel
 induction fuel with
 | zero =>
  intro pre post listed a w tm tmJ tmX σ σJ hr hj hs hlt hl hsz hcl hfl hst
  simp at hfl
 | succ fuel ih =>
  intro pre post listed a w tm tmJ tmX σ σJ hr hj hs hlt hl hsz hcl hfl hst
  have getD_tf:∀ j,j < ops.size->listed.getD j false=listed.getD j true:=by
   intro j hj
   simp [Xa7,hsz,hj]
  have isRem:∀ j,j < ops.size->listed.getD j true=false->j ∈ pre++jp::post:=by
   intro j hj h
   by_cases hm:j ∈ pre++jp::post
   ·exact hm
   ·have:=(hl j hj).2 hm;rw [h] at this;cases this
  refine ⟨fun hnil=>?_,fun i hi=>?_⟩
  ·exfalso
   obtain ⟨r,rs,hrr⟩:∃ r rs,pre++jp::post=r::rs:=by cases pre <;> simp
   rw [hrr] at hs hlt hl
   have hrl:r < ops.size:=hlt r (by simp)
   have hro:ops[r]?=some ops[r]:=by simp [hrl]
   obtain ⟨ao,e1,e2,e3,_⟩:=hafter r _ hro
   have : r ∈ Region.ready .any ops listed:=by
    rw [mem_ready]
    refine ⟨?_,ops[r],hro,fun e he hbnd=>?_⟩
    ·cases hq:listed.getD r true with
     | false=>rfl
     | true=>exact absurd (List.mem_cons_self) ((hl r hrl).1 hq)
    ·have hon:e.on ∈ ao.after:=by rw [e3];exact Xq.2 ⟨e,X1.2 ⟨by simpa using he,hbnd⟩,rfl⟩
     have hlt':e.on < r:=hp2 r (by omega) e.on (by rw [e1];exact hon)
     rw [getD_tf _ (by omega)]
     refine (hl e.on (by omega)).2 (fun hm=>?_)
     rcases Xv.1 hm with h | hm
     ·omega
     ·have:=(Wf.1 hs).1 e.on hm;omega
   rw [hnil] at this;simp at this
  ·rw [mem_ready] at hi
   obtain ⟨hi0,o,ho,hpre⟩:=hi
   have hil:i < ops.size:=(Xu.1 ho).1
   have him:=isRem i hil hi0
   obtain ⟨ao,e1,e2,e3,e4⟩:=hafter i o ho
   have hdone:∀ p ∈ (asl.getD i default).after,p < ops.size->p ∉ pre++jp::post:=by
    intro p hp hpl
    rw [e1,e3] at hp
    obtain ⟨e,he,rfl⟩:=Xq.1 hp
    obtain ⟨he1,he2⟩:=X1.1 he
    have:=hpre e (by simpa using he1) he2
    rw [getD_tf _ hpl] at this
    exact (hl e.on hpl).1 this
   have hai:(asl.map (·.after)).getD i []=(asl.getD i default).after:=by
    simp [Xd,show i < asl.length by omega]
   have hanci:∀ p ∈ (Zbz (asl.map (·.after)) []).getD i [],p ∉ pre++jp::post:=by
    intro p hp
    have hap:∀ q,q ∈ (asl.map (·.after)).getD i []->q < i:=fun q hq=>hp2 i (by omega) q (by rw [<-hai];exact hq)
    rcases hanc i (by simp;omega) p (by simpa using hp) with h | ⟨q,h1,h2,h3⟩
    ·exact hdone p (by rw [<-hai];exact h) (by have:=hap p h;omega)
    ·have hql:q < ops.size:=by simp at h2;omega
     exact hcl q hql (hdone q (by rw [<-hai];exact h1) hql) p h3
   have hss:=WI.1 hs
   rw [Xl,Xv] at him
   rcases him with him | hij | him
   ·obtain ⟨l1,l2,rfl⟩:=List.append_of_mem him
    have hl1:∀ j ∈ l1,j < i:=by
     intro j hj
     exact (WI.1 hss.1).2.2 j hj i (by simp)
    have hijp:i < jp:=hss.2.2 i (by simp) jp (by simp)
    obtain ⟨v1,tm1,σ1,h1,hnp1,h2⟩:=ZlR (l1:=l1) (i:=i) (fun j hj'=>by
     have hji:=hl1 j hj'
     have hjn:j ∉ (Zbz (asl.map (·.after)) []).getD i []:=fun hm=>hanci j hm (by simp [hj'])
     obtain ⟨p1,p2⟩:=hp1 j i hji (by omega) hjn
     refine ⟨p1,?_,fun hn _=>?_,?_⟩
     ·rcases p2 with p2 | p2 | p2
      ·have:=Zft hr j (by simp [hj']) p2
       have hem:ZbB (asl.getD j default) (cs.getD j {})=true:=by rw [this];simp only [ZbB,Zhh p2];rfl
       simp only [ZbP,hem,Xak]
      ·have:=Zft hr i (by simp) p2
       have hem:ZbB (asl.getD i default) (cs.getD i {})=true:=by rw [this];simp only [ZbB,Zhh p2];rfl
       simp only [ZbP,hem,Xak,XbF]
      ·exact hfree j i p2 hji (by omega)
     ·have:=Zfl asl hji (by omega)
      omega
     ·have:=Zfl asl hji (by omega)
      omega) hr
    have eA:(l1++i::l2)++jp::post=l1++i::(l2++jp::post):=by simp
    have eB:(l1++l2)++jp::post=l1++(l2++jp::post):=by simp
    rw [eA] at hs hlt hl hcl hanci hfl
    unfold wpOp
    rw [ho]
    rw [e1] at h1
    obtain ⟨I',β',g1,g2,g3,g4,g5⟩:=hst
    refine Zfs hO hkp e2 g3 g4 g5 hb h1 (fun _ a' w' hs'=>ih (l1++l2) post _ a' w' tm1 tmJ tmX σ1 σJ h2 hj ?_ ?_ ?_ (by simpa using hsz) ?_ ?_ (hs'.trans g1 g2)) (fun x e=>absurd e (hnp1 x))
    ·rw [eB]
     have:=WI.1 hs
     exact WI.2 ⟨this.1,(Wf.1 this.2.1).2,fun x hx y hy=>this.2.2 x hx y (by simp only [Xv];exact Xp hy)⟩
    ·intro j hj
     rw [eB] at hj
     refine hlt j ?_
     simp only [Xl,Xv] at hj ⊢
     rcases hj with h | h | h | h
     ·exact Xk h
     ·exact Xp (Xp (Xk h))
     ·exact Xp (Xp (Xp (Xk h)))
     ·exact Xp (Xp (Xp (Xp h)))
    ·intro j hj
     rw [eB]
     generalize l2++jp::post=L2 at *
     have hs1:=WI.1 hs
     by_cases hij:i=j
     ·subst hij
      have hn:i ∉ l1++L2:=by
       intro hm
       rcases Xl.1 hm with h | h
       ·have:=hl1 i h;omega
       ·have:=(Wf.1 hs1.2.1).1 i h;omega
      simp [Xa7,hsz,hil,hn]
     ·rw [getD_set_ne true hij,hl j hj]
      simp only [Xl,Xv,not_or]
      constructor
      ·rintro ⟨a1,_,a3⟩;exact ⟨a1,a3⟩
      ·rintro ⟨a1,a3⟩;exact ⟨a1,fun e=>hij e.symm,a3⟩
    ·intro k hk hkn p hp hm
     rw [eB] at hkn hm
     generalize l2++jp::post=L2 at *
     have hsub:p ∈ l1++i::L2:=by
      simp only [Xl,Xv] at hm ⊢
      rcases hm with h | h
      ·exact Xk h
      ·exact Xp (Xp h)
     by_cases hki:k=i
     ·subst hki;exact hanci p hp hsub
     ·refine hcl k hk (fun hkm=>hkn ?_) p hp hsub
      simp only [Xl,Xv] at hkm ⊢
      rcases hkm with h | h | h
      ·exact Xk h
      ·exact absurd h hki
      ·exact Xp h
    ·rw [eB];simp at hfl ⊢;omega
   ·subst hij
    have hl1:∀ j ∈ pre,j < i:=fun j hj=>hss.2.2 j hj i (by simp)
    obtain ⟨tm1,h1⟩:=Zn1 (l1:=pre) (i:=i) (fun j hj'=>by
     have hji:=hl1 j hj'
     have hjn:j ∉ (Zbz (asl.map (·.after)) []).getD i []:=fun hm=>hanci j hm (by simp [hj'])
     obtain ⟨p1,p2⟩:=hp1 j i hji (by omega) hjn
     have hts:(asl.getD i default).ins.touches=false->False:=fun h=>by
      have:=hmarkT
      rw [h] at this;cases this
     refine ⟨?_,p1,?_,fun hn _=>?_,?_⟩
     ·rcases p2 with p2 | p2 | p2
      ·exact Xk p2
      ·exact (hts p2).elim
      ·exact Xp (hquiet j p2 hji)
     ·rcases p2 with p2 | p2 | p2
      ·have:=Zft hr j hj' p2
       have hem:ZbB (asl.getD j default) (cs.getD j {})=true:=by rw [this];simp only [ZbB,Zhh p2];rfl
       simp only [ZbP,hem,Xak]
      ·exact (hts p2).elim
      ·exact hfree j i p2 hji (XI _)
     ·have:=Zfl asl hji (by omega)
      omega
     ·have:=Zfl asl hji (by omega)
      omega) hr hj
    unfold wpOp
    rw [ho]
    rw [e1] at h1
    obtain ⟨I',β',g1,g2,g3,g4,g5⟩:=hst
    refine Zfs hO hkp e2 g3 g4 g5 hb h1 (fun hn=>absurd rfl (hn x)) (fun x' e u w' hp=>?_)
    injection e with e
    subst e
    exact hQ a u w' g4.1 (hp.trans g1 g2)
   ·exfalso
    have hlt2:jp < i:=(Wf.1 hss.2.1).1 i him
    exact hanci jp (hmk i hlt2 (by omega)) (by simp)
theorem Rel.reserve {I:Imm} {β:Bmap} {σ:Za} {w:World} (R:Rel base w0 I0 I β σ w) (n:Nat):Rel base w0 I0 I β (σ++Xy n .free) w:=by
 have look:∀ t x,(σ++Xy n Zg.free)[t]?=some x->σ[t]?=some x\/(σ.length<=t/\x=.free):=by
  intro t x h
  by_cases ht:t < σ.length
  ·rw [Wa ht] at h;exact Xk h
  ·rw [Ws (by omega)] at h
   refine Xp ⟨by omega,?_⟩
   have:=Xn h
   exact List.eq_of_mem_replicate this
 refine ⟨R.below,R.old,R.imm,?_,?_,?_,?_,?_,?_,R.glob,?_⟩
 ·intro t x h
  rcases look t x h with h | ⟨_,rfl⟩
  ·exact R.blk t x h
  ·trivial
 ·intro t x b h hb
  rcases look t x h with h | ⟨_,rfl⟩
  ·exact R.own t x b h hb
  ·cases hb
 ·intro t x t' x' b h h' hb hb'
  rcases look t x h with h | ⟨_,rfl⟩
  ·rcases look t' x' h' with h' | ⟨_,rfl⟩
   ·exact R.apart t x t' x' b h h' hb hb'
   ·cases hb'
  ·cases hb
 ·intro t g h
  exact R.fresh t g (by simp at h;omega)
 ·intro t g h
  rcases look t _ h with h | ⟨h,_⟩
  ·exact R.free t g h
  ·exact R.fresh t g h
 ·intro t x g h hg
  rcases look t _ h with h | ⟨h,_⟩
  ·exact R.gen t x g h hg
  ·exact R.fresh t g h
 ·intro t x b h hb
  rcases look t x h with h | ⟨_,rfl⟩
  ·exact R.ro t x b h hb
  ·cases hb
theorem StR.keep {I:Imm} {β:Bmap} {tm:Tms} {σ:Za} {a:Act} {w:World} (h:StR dr an.nt base w0 I0 I β tm σ a w) (live:List Nat):StR dr an.nt base w0 I0 I β (keepL live tm) σ a w:=by
 obtain ⟨I',β',h1,h2,h3,h4⟩:=h
 exact ⟨I',β',h1,h2,h3.keep live,h4⟩
def ZD5 (dr:Door) (an:Ann) (base:Nat->Prop) (w0:World) (I0 I:Imm) (β:Bmap) (e:Zy) (tm:Tms) (σ:Za) (Q:Exit->Act->World->Prop):Prop:=match e with
 | .normal=>∀ a w,StR dr an.nt base w0 I0 I β tm σ a w->Q .normal a w
 | .exit id=>∀ a w,StR dr an.nt base w0 I0 I β tm σ a w->Q (.exit id) a w
 | .ret=>∀ a w,StR dr an.nt base w0 I0 I β tm σ a w->Q .ret a w
 | .panic x=>∀ a u w,dr.ok a->Post base w0 I0 I β x σ u w->Q (.panic [{ v:=u,recovered:=false }]) a w
theorem ZvN (hO:Z1 P O) (hkp:∀ n ∈ dr.K,n ∈ an.keep) (hm:P.follows .mixedOrders=true) (hb:KLt base w0) {id:Nat} {ops:Array Oper} {draw:Bool} {asl:List AOp} {chk:Option (List (Nat×Nat))} {live:List Nat} (hc:Zai P an (.region id ops draw)=.region asl chk live) {I:Imm} {β:Bmap} {tm tm':Tms} {σ σ':Za} {a:Act} {w:World} {e:Zy}
  (hst:StR dr an.nt base w0 I0 I β tm σ a w) (h:ZbV O bf asl chk live tm σ=some (e,tm',σ')) {Q:Exit->Act->World->Prop} (hQ:ZD5 dr an base w0 I0 I β e tm' σ' Q):(Code.region id ops draw).wp P Q a w:=by
 obtain ⟨I1,β1,g1,g2,g3,g4,g5⟩:=hst
 simp only [Zai] at hc
 split at hc
 ·rename_i l hl
  unfold ZbV at h
  split at hc
  ·rename_i hd
   subst hd
   split at hc
   ·rename_i ps hps
    simp only [Zc.region.injEq] at hc
    obtain ⟨rfl,rfl,rfl⟩:=hc
    cases hrun:ZA O bf l σ.length tm (σ++Xy (sitesOf l) .free) with
    | none=>rw [hrun] at h;simp only [Zc8] at h;cases h
    | some q =>
     obtain ⟨tm1,σ1,cs,p⟩:=q
     rw [hrun] at h
     cases p with
     | some x =>
      simp only [Zc8] at h
      split at h
      ·rename_i hpan
       simp only [Xa,Xb] at h
       obtain ⟨rfl,rfl,rfl⟩:=h
       have hlen:=(Zg3 hl).1
       simp only [XR] at hlen
       obtain ⟨n,tmJ,σJ,tmX,q1,q2,q3,q4⟩:=Zrl (O:=O) (bf:=bf) (ops:=l) (L:=σ.length) l.length 0 (cs:=cs) (cs':=cs) (by omega) (by simpa [sitesOf] using hrun) (fun j=>by simp)
       rw [Xw] at q4
       unfold Zfn at hpan
       rw [q2] at hpan
       simp only [Xh,List.any_eq_true,XF,WM,beq_iff_eq,decide_eq_true_eq,Nat.add_sub_cancel] at hpan
       obtain ⟨⟨pm,hpm,hm1,hm2⟩,hall⟩:=hpan
       have hmk:(n,n) ∈ ps:=by
        obtain ⟨a1,a2⟩:=pm
        simp only at hm1 hm2
        subst hm1 hm2
        exact hpm
       have hT:(l.getD n default).ins.touches=true:=ZHh hps hmk
       refine wp_region_any hm (ZsB hO hkp hb hl hps (jp:=n) (by omega) hmk hT (fun j i hji h1 h2=>?_) (fun j hj h1=>?_) (I:=I) (β:=β) (x:=x) (fun a' u w' hd' hp=>hQ a' u w' hd' hp) ops.size (XaW 0 n) (XaW (n+1) (l.length - n - 1)) _ a _ tm tmJ tmX _ σJ q3 q4 ?_ ?_ ?_ (by simp) ?_ (by simp;omega) ⟨I1,β1,g1,g2,g3,g4,(g5.reserve _).same rfl rfl rfl rfl⟩)
       ·rcases hall (j,i) hji with (h | h) | ⟨h,_⟩
        ·simp only at h;omega
        ·simp only at h;omega
        ·exact h
       ·rcases hall (j,n) hj with (h | h) | ⟨_,h⟩
        ·simp only at h;omega
        ·simp only at h;omega
        ·rcases h with h | h
         ·simp only at h;omega
         ·exact h
       ·have e:XaW 0 n++n::XaW (n+1) (l.length - n - 1)=XaW 0 l.length:=by
         rw [<-XbB]
         have:=List.range'_append_1 (s:=0) (m:=n) (n:=l.length - n - 1+1)
         rw [Xw] at this
         rw [this]
         congr 1
         omega
        rw [e];exact List.pairwise_lt_range'
       ·intro j hj;simp at hj;omega
       ·intro j hj
        simp [Xa7,hj]
        omega
       ·intro k hk hkn
        exact absurd (by simp;omega) hkn
      ·cases h
     | none =>
      simp only [Zc8] at h
      split at h
      ·rename_i hchk
       simp only [Xa,Xb] at h
       obtain ⟨rfl,rfl,rfl⟩:=h
       have hlen:=(Zg3 hl).1
       simp only [XR] at hlen
       have hr:=Zqe (O:=O) (bf:=bf) (ops:=l) (L:=σ.length) l.length 0 (cs:=cs) (cs':=cs) (by omega) (by simpa [sitesOf] using hrun) (fun j=>by simp)
       refine wp_region_any hm (ZuY hO hkp hb hl hps hchk (I:=I) (β:=β) (fun a' w' hs=>hQ a' w' (hs.keep _)) ops.size (XaW 0 l.length) _ a _ tm _ hr ?_ ?_ ?_ (by simp) ?_ (by simp [hlen]) ⟨I1,β1,g1,g2,g3,g4,(g5.reserve _).same rfl rfl rfl rfl⟩)
       ·exact List.pairwise_lt_range'
       ·intro j hj;simp at hj;omega
       ·intro j hj
        simp [Xa7,hj,hlen]
       ·intro k hk hkn
        exact absurd (by simp;omega) hkn
      ·cases h
   ·cases hc
  ·rename_i hd
   simp only [Zc.region.injEq] at hc
   obtain ⟨rfl,rfl,rfl⟩:=hc
   have hdf:draw=false:=by cases draw <;> simp_all
   subst hdf
   cases hrun:ZA O bf l σ.length tm (σ++Xy (sitesOf l) .free) with
   | none=>rw [hrun] at h;simp only [Zc8] at h;cases h
   | some q =>
    obtain ⟨tm1,σ1,cs,p⟩:=q
    rw [hrun] at h
    cases p with
    | none =>
     simp only [Zc8,Xa,Xb] at h
     obtain ⟨rfl,rfl,rfl⟩:=h
     exact wp_region_list (Zkt hO hkp hb hl g3 g4 (g5.reserve _) hrun (fun _ a' w' hs=>hQ a' w' ((hs.trans g1 g2).keep _)) (fun x hx=>by cases hx))
    | some x =>
     simp only [Zc8,Xa,Xb] at h
     obtain ⟨rfl,rfl,rfl⟩:=h
     exact wp_region_list (Zkt hO hkp hb hl g3 g4 (g5.reserve _) hrun (fun hx=>by cases hx) (fun x' hx a' u w' hd' hp=>by
      injection hx with hx;subst hx
      exact hQ a' u w' hd' (hp.trans g1 g2)))
 ·cases hc
end
end
end Go.Proofs.YtbjflkbenobjjaaDoor
