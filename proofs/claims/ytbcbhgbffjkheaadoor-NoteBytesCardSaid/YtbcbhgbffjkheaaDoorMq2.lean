/- packed -/
import Derived.Test.YtbcbhgbffjkheaaDoorMq1
import Derived.Laws.Small
import Derived.Orders
import Derived.LoopN
set_option linter.unusedSimpArgs false
set_option linter.unusedVariables false
open Option.some renaming injEq→Xa
open Prod.mk renaming injEq→Xc
open List renaming getElem?_eq_some_iff→Xh,getD_eq_getElem?_getD→Xi,getElem?_set→Xr,mem_append→Xs,mem_of_getElem?→Xx,replicate→XA,getElem?_eq_getElem→XB,getElem?_cons_zero→XE,all_eq_true→XF,mem_map→XG,mem_cons→XI,mem_singleton→XM,getElem?_set_ne→XS,getD_cons_zero→X1,getElem?_eq_none→X6,getElem?_set_self→Wb,all_nil→Wc,getElem?_append_left→Wh,mem_flatMap→Wi,isEmpty_nil→Wo,getD_cons_succ→Wq,getElem?_append_right→Wy,mem_filter→WB,pairwise_append→WI,drop_eq_nil_of_le→WJ,contains_cons→WP,set_comm→WX,contains_nil→WZ,drop_eq_getElem_cons→W1,pairwise_cons→W5,isEmpty_iff→W7,mem_range→Xad,getElem_mem→Xap,lookup_cons→XaG,map_congr_left→XaH,range'→XaI,range'_succ→Xbk
open Bool renaming and_eq_true→Xj,false_eq_true→Xl,and_self→Wp,not_eq_true'→WC,or_eq_true→WQ,or_eq_false_iff→Xaa,true_or→Xah,or_true→Xan,or_false→XaB
open Or renaming inl→Xp,inr→Xt
open Option renaming map_eq_some_iff→Xq,map_some→XT,getD_some→WS,getD_none→Xaq
open Nat renaming zero_add→Xv,le_refl→XD,add_assoc→Wf,add_zero→Wg,sub_self→Xam,lt_or_ge→Xax
open Array renaming getElem?_eq_some_iff→Xz,length_toList→XQ,getD_eq_getD_getElem?→WL,getD→Xaz,ext'→Xbr
open ByteArray renaming size→WM
open Ne renaming symm→WV
open List.cons renaming injEq→XaO
namespace Go.Proofs.YtbcbhgbffjkheaaDoor
set_option maxHeartbeats 16000000
set_option maxRecDepth 10000
section
open Go.RowKit
section
variable {P:Program}{base:Nat->Prop}{w0 w w':World}{I0 I I':Imm}{β β':Bmap}{σ σ':Za}{tm:Tms}
theorem ZfU{α:Type}{x:Option α}{f:α->AVal×Za×Cls}{y:AVal×Za×Cls}(h:x.map f=some y):∃ a,x=some a/\f a=y:=by simpa[Xq]using h
theorem ZAy{t:TypeId}(hu:P.underlying t=some .bool)(p q:Bool)(x y:Operand):(do eqGuard .eql t x y (.bool p) (.bool q);binOp .eql t (.bool p) (.bool q):Sem Value).run P w=.ok (.bool ((p==q) != false)) w:=by
 have h1:(eqGuard .eql t x y (.bool p) (.bool q)).run P w=.ok () w:=by simp[eqGuard]
 simp only[Sem.run_bind,h1,Result.andThen_ok,run_eql_bool w t p q hu]
 cases p<;>cases q<;>rfl
theorem ZBK{t:TypeId}(hu:P.underlying t=some .bool)(p q:Bool)(x y:Operand):(do eqGuard .neq t x y (.bool p) (.bool q);binOp .neq t (.bool p) (.bool q):Sem Value).run P w=.ok (.bool ((p==q) != true)) w:=by
 have h1:(eqGuard .neq t x y (.bool p) (.bool q)).run P w=.ok () w:=by simp[eqGuard]
 have h2:(binOp .neq t (.bool p) (.bool q)).run P w=.ok (.bool (!(p==q))) w:=by
  simp only[binOp,Sem.run_bind,run_equal_bool w t p q hu,Result.andThen_ok,Sem.run_pure]
 simp only[Sem.run_bind,h1,Result.andThen_ok,h2]
 cases p<;>cases q<;>rfl
theorem Zva{t e:TypeId}(hu:P.underlying t=some (.pointer e))(p q:Option Addr)(hpq:p=none\/q=none):(Op.equal t (.pointer p) (.pointer q)).run P w=.ok (p.isNone&&q.isNone) w:=by
 show(Op.equalIn (9999+1) t (.pointer p) (.pointer q)).run P w=_
 unfold Op.equalIn
 rw[Sem.run_bind,run_underlying hu]
 simp only[Result.andThen_ok]
 rcases hpq with rfl |rfl
 ·cases q<;>simp
 ·cases p<;>simp
theorem ZjH{t e:TypeId}(hu:P.underlying t=some (.pointer e))(p q:Option Addr)(x y:Operand)(hpq:p=none\/q=none):(do eqGuard .eql t x y (.pointer p) (.pointer q);binOp .eql t (.pointer p) (.pointer q):Sem Value).run P w=.ok (.bool ((p.isNone&&q.isNone) != false)) w:=by
 have h1:(eqGuard .eql t x y (.pointer p) (.pointer q)).run P w=.ok () w:=by simp[eqGuard]
 simp only[Sem.run_bind,h1,Result.andThen_ok,binOp,Zva hu p q hpq,Sem.run_pure]
 simp
theorem Zj2{t e:TypeId}(hu:P.underlying t=some (.pointer e))(p q:Option Addr)(x y:Operand)(hpq:p=none\/q=none):(do eqGuard .neq t x y (.pointer p) (.pointer q);binOp .neq t (.pointer p) (.pointer q):Sem Value).run P w=.ok (.bool ((p.isNone&&q.isNone) != true)) w:=by
 have h1:(eqGuard .neq t x y (.pointer p) (.pointer q)).run P w=.ok () w:=by simp[eqGuard]
 simp only[Sem.run_bind,h1,Result.andThen_ok,binOp,Zva hu p q hpq,Sem.run_pure]
 simp
theorem ZOr{t:TypeId}{ms}(hu:P.underlying t=some (.interface ms))(neg:Bool){op:BinOp}(x:Operand)(vy:Value)(hop:op=(if neg then .neq else .eql)):(do eqGuard op t x (.const vy) .nilIface .nilIface;binOp op t .nilIface .nilIface:Sem Value).run P w=.ok (.bool (true != neg)) w:=by
 have h1:(eqGuard op t x (.const vy) .nilIface .nilIface).run P w=.ok () w:=by subst hop;cases neg<;>simp[eqGuard]
 have h2:(Op.equal t .nilIface .nilIface).run P w=.ok true w:=by
  show(Op.equalIn (9999+1) t .nilIface .nilIface).run P w=_
  unfold Op.equalIn
  rw[Sem.run_bind,run_underlying hu]
  simp only[Result.andThen_ok]
  rfl
 subst hop
 cases neg
 ·simp only[Xl,if_false]at h1 ⊢
  simp[h1,h2,binOp]
 ·simp only[if_true]at h1 ⊢
  simp[h1,h2,binOp]
theorem ZLo{t t1:TypeId}{u:Value}{ms}(hu:P.underlying t=some (.interface ms))(neg:Bool){op:BinOp}(x:Operand)(vy:Value)(hop:op=(if neg then .neq else .eql)):(do eqGuard op t x (.const vy) (.iface t1 u) .nilIface;binOp op t (.iface t1 u) .nilIface:Sem Value).run P w=.ok (.bool (false != neg)) w:=by
 have h1:(eqGuard op t x (.const vy) (.iface t1 u) .nilIface).run P w=.ok () w:=by subst hop;cases neg<;>simp[eqGuard]
 have h2:(Op.equal t (.iface t1 u) .nilIface).run P w=.ok false w:=by
  show(Op.equalIn (9999+1) t (.iface t1 u) .nilIface).run P w=_
  unfold Op.equalIn
  rw[Sem.run_bind,run_underlying hu]
  simp only[Result.andThen_ok]
  rfl
 subst hop
 cases neg
 ·simp only[Xl,if_false]at h1 ⊢
  simp[h1,h2,binOp]
 ·simp only[if_true]at h1 ⊢
  simp[h1,h2,binOp]
def OpR(P:Program)(s:Sem Next)(w:World)(base:Nat->Prop)(w0:World)(I0 I:Imm)(β:Bmap)(v:AVal)(σ':Za):Prop :=
 OpOk P s w (Post base w0 I0 I β v σ')\/∃ x,v=.pan x/\OpPan P s w (Post base w0 I0 I β x σ')
theorem OpR.of_call{s:Sem Next}{f:FuncId}{args:Array Value}{v:AVal}(h:s.run P w=.ok (.enter f args) w)(hc:Calls P f args w (fun e w'=>∃ u,Ends v e u/\Post base w0 I0 I β (ZaC v) σ' u w')):OpR P s w base w0 I0 I β v σ':=by
 by_cases hp:∃ x,v=.pan x
 ·obtain⟨x,rfl⟩:=hp
  exact Xt ⟨x,rfl,Xt ⟨f,args,w,h,hc.mono fun e w' ⟨u,h1,h2⟩=>⟨u,h1,h2⟩⟩⟩
 ·have hn:∀ x,v≠.pan x:=fun x e=>hp ⟨x,e⟩
  refine Xp (Xt (Xt ⟨f,args,w,h,hc.mono fun e w' ⟨u,h1,h2⟩=>⟨u,?_,by rw[Zf7 hn]at h2;exact h2⟩⟩))
  cases v<;>first |exact h1 |exact absurd rfl (hn _)
theorem ZMe{O:ZJ}(hO:Zar P O){bf:Nat->Bool}{an:Ann}{a:Act}{o:Oper}{own:Nat}{ins:Ins}(x:Operand)(ho:o.op=.move x)(hc:ZU P an own (.move x)=some ins)(T:TR I β tm a.tmps)(R:Rel base w0 I0 I β σ w)(hb:KLt base w0)
  {sq:Nat} (hsite:nsite ins≠0->σ[sq]?=some .free) {v:AVal} {c:Cls} (h:execI O bf tm σ sq ins=some (v,σ',c)):OpOk P (execOp a.eval o) w (Post base w0 I0 I β v σ'):=by
 rw[show execOp a.eval o=(pure (.value (a.eval x)):Sem Next)by unfold execOp;rw[ho]]
 simp only[ZU]at hc
 simp only[Xq]at hc
 obtain⟨y,hy,rfl⟩:=hc
 simp only[execI,Xa,Xc]at h
 obtain⟨rfl,rfl,rfl⟩:=h
 exact Xp ⟨_,w,rfl,Post.here R (Z4 T hy)⟩
theorem ZOw{O:ZJ}(hO:Zar P O){bf:Nat->Bool}{an:Ann}{a:Act}{o:Oper}{own:Nat}{ins:Ins}(x:Operand)(ho:o.op=.assign x)(hc:ZU P an own (.assign x)=some ins)(T:TR I β tm a.tmps)(R:Rel base w0 I0 I β σ w)(hb:KLt base w0)
  {sq:Nat} (hsite:nsite ins≠0->σ[sq]?=some .free) {v:AVal} {c:Cls} (h:execI O bf tm σ sq ins=some (v,σ',c)):OpOk P (execOp a.eval o) w (Post base w0 I0 I β v σ'):=by
 rw[show execOp a.eval o=(pure (.value (a.eval x)):Sem Next)by unfold execOp;rw[ho]]
 simp only[ZU]at hc
 simp only[Xq]at hc
 obtain⟨y,hy,rfl⟩:=hc
 simp only[execI,Xa,Xc]at h
 obtain⟨rfl,rfl,rfl⟩:=h
 exact Xp ⟨_,w,rfl,Post.here R (Z4 T hy)⟩
theorem ZAu{O:ZJ}(hO:Zar P O){bf:Nat->Bool}{an:Ann}{a:Act}{o:Oper}{own:Nat}{ins:Ins}(x:Operand)(y:Operand)(z:Operand)(ho:o.op=.pick x y z)(hc:ZU P an own (.pick x y z)=some ins)(T:TR I β tm a.tmps)(R:Rel base w0 I0 I β σ w)(hb:KLt base w0)
  {sq:Nat} (hsite:nsite ins≠0->σ[sq]?=some .free) {v:AVal} {c:Cls} (h:execI O bf tm σ sq ins=some (v,σ',c)):OpOk P (execOp a.eval o) w (Post base w0 I0 I β v σ'):=by
 rw[show execOp a.eval o=(do pure (.value (if <-asBool (a.eval x)then a.eval y else a.eval z)):Sem Next)by unfold execOp;rw[ho]]
 simp only[ZU]at hc
 split at hc
 ·rename_i c' a' b' hx hy hz
  injection hc with hc;subst hc
  have hx':=Z4 T hx
  simp only[execI]at h
  unfold ZgO at h
  split at h
  ·rename_i e
   rw[e]at hx';simp only[VR]at hx'
   simp only[Xa,Xc]at h
   obtain⟨rfl,rfl,rfl⟩:=h
   exact Xp ⟨_,w,by simp[hx',asBool],Post.here R (Z4 T hy)⟩
  ·rename_i e
   rw[e]at hx';simp only[VR]at hx'
   simp only[Xa,Xc]at h
   obtain⟨rfl,rfl,rfl⟩:=h
   exact Xp ⟨_,w,by simp[hx',asBool],Post.here R (Z4 T hz)⟩
  ·cases h
 ·cases hc
theorem ZPF{O:ZJ}(hO:Zar P O){bf:Nat->Bool}{an:Ann}{a:Act}{o:Oper}{own:Nat}{ins:Ins}(e:TypeId)(ho:o.op=.alloc e)(hc:ZU P an own (.alloc e)=some ins)(T:TR I β tm a.tmps)(R:Rel base w0 I0 I β σ w)(hb:KLt base w0)
  {sq:Nat} (hsite:nsite ins≠0->σ[sq]?=some .free) {v:AVal} {c:Cls} (h:execI O bf tm σ sq ins=some (v,σ',c)):OpOk P (execOp a.eval o) w (Post base w0 I0 I β v σ'):=by
 rw[show execOp a.eval o=(do pure (.value (<-Instr.alloc e true (.tuple #[]))):Sem Next)by unfold execOp;rw[ho]]
 simp only[ZU]at hc
 simp only[Xq]at hc
 obtain⟨z,hz,rfl⟩:=hc
 simp only[execI,Xa,Xc]at h
 obtain⟨rfl,rfl,rfl⟩:=h
 exact OpOk.val (ZHm R hb hz (hsite (by simp[nsite])))
theorem ZIM{O:ZJ}(hO:Zar P O){bf:Nat->Bool}{an:Ann}{a:Act}{o:Oper}{own:Nat}{ins:Ins}(e:TypeId)(x:Operand)(ho:o.op=.box e x)(hc:ZU P an own (.box e x)=some ins)(T:TR I β tm a.tmps)(R:Rel base w0 I0 I β σ w)(hb:KLt base w0)
  {sq:Nat} (hsite:nsite ins≠0->σ[sq]?=some .free) {v:AVal} {c:Cls} (h:execI O bf tm σ sq ins=some (v,σ',c)):OpOk P (execOp a.eval o) w (Post base w0 I0 I β v σ'):=by
 rw[show execOp a.eval o=(do pure (.value (<-Instr.box e (a.eval x))):Sem Next)by unfold execOp;rw[ho]]
 simp only[ZU]at hc
 simp only[Xq]at hc
 obtain⟨y,hy,hins⟩:=hc
 by_cases h3:own=3
 ·rw[if_pos h3]at hins
  subst hins
  simp only[execI]at h
  split at h
  ·rename_i e6
   simp only[Xa,Xc]at h
   obtain⟨rfl,rfl,rfl⟩:=h
   have hv:=Z4 T hy
   rw[e6]at hv
   exact OpOk.val (ZFy R hb hv (hsite (by simp[nsite])))
  ·cases h
 rw[if_neg h3]at hins
 by_cases h4:own=4\/own=6
 ·rw[if_pos h4]at hins
  subst hins
  simp only[execI]at h
  split at h
  ·rename_i e6
   split at h
   ·rename_i hf
    simp only[Xa,Xc]at h
    obtain⟨rfl,rfl,rfl⟩:=h
    have hv:=Z4 T hy
    rw[e6]at hv
    refine OpOk.val (ZMQ R hb hv _ (hsite (by simp[nsite])) ?_)
    unfold freeAt at hf
    split at hf
    ·assumption
    ·cases hf
   ·cases h
  ·cases h
 rw[if_neg h4]at hins
 subst hins
 simp only[execI]at h
 split at h
 ·cases h
 ·cases h
 ·cases h
 ·rename_i _ hnt _
  simp only[Xa,Xc]at h
  obtain⟨rfl,rfl,rfl⟩:=h
  exact OpOk.val (ZG6 R hb hnt (Z4 T hy) (hsite (by simp[nsite])))
theorem ZQz{O:ZJ}(hO:Zar P O){bf:Nat->Bool}{an:Ann}{a:Act}{o:Oper}{own:Nat}{ins:Ins}(t:TypeId)(parts:Array (Nat×Operand))(ho:o.op=.build t parts)(hc:ZU P an own (.build t parts)=some ins)(T:TR I β tm a.tmps)(R:Rel base w0 I0 I β σ w)(hb:KLt base w0)
  {sq:Nat} (hsite:nsite ins≠0->σ[sq]?=some .free) {v:AVal} {c:Cls} (h:execI O bf tm σ sq ins=some (v,σ',c)):OpOk P (execOp a.eval o) w (Post base w0 I0 I β v σ'):=by
 rw[show execOp a.eval o=(do pure (.value (<-Instr.build t (parts.map fun(i,x)=>(i,a.eval x)))):Sem Next)by unfold execOp;rw[ho]]
 simp only[ZU]at hc
 have hc0:ZU P an own (.build t parts)=some ins:=by simp only[ZU];exact hc
 obtain⟨zs,ps,rfl⟩:∃ zs ps,ins=.build zs ps:=by
  split at hc
  ·split at hc
   ·simp only[Xq]at hc;obtain⟨ps,_,rfl⟩:=hc;exact⟨_,_,rfl⟩
   ·cases hc
  ·split at hc
   ·simp only[Xq]at hc;obtain⟨ps,_,rfl⟩:=hc;exact⟨_,_,rfl⟩
   ·cases hc
  ·cases hc
 simp only[execI]at h
 split at h
 ·rename_i cs hf
  simp only[Xa,Xc]at h
  obtain⟨rfl,rfl,rfl⟩:=h
  obtain⟨u,h1,h2⟩:=ZAe (w:=w) T hc0 hf
  exact OpOk.val ⟨u,w,h1,Post.here R h2⟩
 ·cases h
theorem ZPR{O:ZJ}(hO:Zar P O){bf:Nat->Bool}{an:Ann}{a:Act}{o:Oper}{own:Nat}{ins:Ins}(t:TypeId)(n:Nat)(parts:Array (Nat×Operand))(ho:o.op=.buildSlice t n parts)(hc:ZU P an own (.buildSlice t n parts)=some ins)(T:TR I β tm a.tmps)(R:Rel base w0 I0 I β σ w)(hb:KLt base w0)
  {sq:Nat} (hsite:nsite ins≠0->σ[sq]?=some .free) {v:AVal} {c:Cls} (h:execI O bf tm σ sq ins=some (v,σ',c)):OpOk P (execOp a.eval o) w (Post base w0 I0 I β v σ'):=by
 rw[show execOp a.eval o=(do pure (.value (<-Instr.buildSlice t n (parts.map fun(i,x)=>(i,a.eval x)))):Sem Next)by unfold execOp;rw[ho]]
 simp only[ZU]at hc
 split at hc
 ·rename_i k bytes z he
  split at hc
  ·rename_i hn
   simp only[Xq]at hc
   obtain⟨ps,hps,rfl⟩:=hc
   split at h
   ·rename_i ho
    exact OpOk.val (ZAZ T R hb he hn hps (hsite (by rw[if_pos ho];simp[nsite])) h)
   ·rename_i ho
    exact OpOk.val (ZML T R hb he hn hps (fun ho'=>hsite (by rw[if_neg ho];simp[nsite,ho'])) h)
  ·cases hc
 ·cases hc
theorem ZK0{O:ZJ}(hO:Zar P O){bf:Nat->Bool}{an:Ann}{a:Act}{o:Oper}{own:Nat}{ins:Ins}(t:TypeId)(x:Operand)(ho:o.op=.load t x)(hc:ZU P an own (.load t x)=some ins)(T:TR I β tm a.tmps)(R:Rel base w0 I0 I β σ w)(hb:KLt base w0)
  {sq:Nat} (hsite:nsite ins≠0->σ[sq]?=some .free) {v:AVal} {c:Cls} (h:execI O bf tm σ sq ins=some (v,σ',c)):OpOk P (execOp a.eval o) w (Post base w0 I0 I β v σ'):=by
 rw[show execOp a.eval o=(do pure (.value (<-Instr.loadAt t (a.eval x))):Sem Next)by unfold execOp;rw[ho]]
 simp only[ZU]at hc
 split at hc
 ·rename_i k y hk hy
  injection hc with hc;subst hc
  simp only[execI]at h
  obtain⟨u,h1,h2,rfl⟩:=Zxm hk R (Z4 T hy) h
  exact OpOk.val ⟨u,w,h1,Post.here R h2⟩
 ·cases hc
theorem ZPd{O:ZJ}(hO:Zar P O){bf:Nat->Bool}{an:Ann}{a:Act}{o:Oper}{own:Nat}{ins:Ins}(t:TypeId)(x:Operand)(y:Operand)(ho:o.op=.store t x y)(hc:ZU P an own (.store t x y)=some ins)(T:TR I β tm a.tmps)(R:Rel base w0 I0 I β σ w)(hb:KLt base w0)
  {sq:Nat} (hsite:nsite ins≠0->σ[sq]?=some .free) {v:AVal} {c:Cls} (h:execI O bf tm σ sq ins=some (v,σ',c)):OpOk P (execOp a.eval o) w (Post base w0 I0 I β v σ'):=by
 rw[show execOp a.eval o=(do Instr.storeAt t (a.eval x) (a.eval y);pure .skip:Sem Next)by unfold execOp;rw[ho]]
 simp only[ZU]at hc
 split at hc
 ·rename_i k x' y' hk hx hy
  injection hc with hc;subst hc
  simp only[execI]at h
  exact OpOk.unit (ZPS hk R (Z4 T hx) (Z4 T hy) h)
 ·cases hc
theorem ZAF{O:ZJ}(hO:Zar P O){bf:Nat->Bool}{an:Ann}{a:Act}{o:Oper}{own:Nat}{ins:Ins}(x:Operand)(ho:o.op=.nilCheck x)(hc:ZU P an own (.nilCheck x)=some ins)(T:TR I β tm a.tmps)(R:Rel base w0 I0 I β σ w)(hb:KLt base w0)
  {sq:Nat} (hsite:nsite ins≠0->σ[sq]?=some .free) {v:AVal} {c:Cls} (h:execI O bf tm σ sq ins=some (v,σ',c)):OpOk P (execOp a.eval o) w (Post base w0 I0 I β v σ'):=by
 simp only[ZU]at hc
 simp only[Xq]at hc
 obtain⟨y,hy,rfl⟩:=hc
 have hx:=Z4 T hy
 have key:∀ ad,a.eval x=.pointer (some ad)->execOp a.eval o=pure (.value (a.eval x)):=by
  intro ad e
  unfold execOp
  rw[ho]
  simp only[e]
 simp only[execI]at h
 split at h
 ·rename_i t' o' e
  simp only[Xa,Xc]at h
  obtain⟨rfl,rfl,rfl⟩:=h
  rw[e]at hx
  have hx':=hx
  simp only[VR]at hx'
  obtain⟨b,k,c',_,hp⟩:=hx'
  rw[key _ hp]
  exact Xp ⟨a.eval x,w,rfl,Post.here R hx⟩
 ·rename_i t' g' i' o' e
  simp only[Xa,Xc]at h
  obtain⟨rfl,rfl,rfl⟩:=h
  rw[e]at hx
  have hx':=hx
  simp only[VR]at hx'
  obtain⟨b,k,c',_,hp⟩:=hx'
  rw[key _ hp]
  exact Xp ⟨a.eval x,w,rfl,Post.here R hx⟩
 ·rename_i cs o' e
  simp only[Xa,Xc]at h
  obtain⟨rfl,rfl,rfl⟩:=h
  rw[e]at hx
  have hx':=hx
  simp only[VR]at hx'
  obtain⟨b,off,hp,_⟩:=hx'
  rw[key _ hp]
  exact Xp ⟨a.eval x,w,rfl,Post.here R hx⟩
 ·rename_i t' j' o' e
  simp only[Xa,Xc]at h
  obtain⟨rfl,rfl,rfl⟩:=h
  rw[e]at hx
  have hx':=hx
  simp only[VR]at hx'
  obtain⟨b,k,c',_,hp⟩:=hx'
  rw[key _ hp]
  exact Xp ⟨a.eval x,w,rfl,Post.here R hx⟩
 ·cases h
theorem ZNS {O : ZJ} (hO : Zar P O) {bf : Nat -> Bool} {an : Ann} {a : Act} {o : Oper} {own : Nat} {ins : Ins} (op : BinOp) (t : TypeId) (x : Operand) (y : Operand) (yt : TypeId) (ho : o.op = .binOp op t x y yt) (hc : ZU P an own (.binOp op t x y yt) = some ins) (T : TR I β tm a.tmps) (R : Rel base w0 I0 I β σ w) (hb : KLt base w0)
    {sq : Nat} (hsite : nsite ins ≠ 0 -> σ[sq]? = some .free) {v : AVal} {c : Cls} (h : execI O bf tm σ sq ins = some (v, σ', c)) : OpOk P (execOp a.eval o) w (Post base w0 I0 I β v σ') := by
  rw [show execOp a.eval o = (do pure (.value (<- (do eqGuard op t x y (a.eval x) (a.eval y); binOp op t (a.eval x) (a.eval y)))) : Sem Next) by unfold execOp; rw [ho]]
  simp only [ZU] at hc
  split at hc
  . rename_i x' y' hx hy
    have hx' := Z4 T hx
    have hy' := Z4 T hy
    unfold Zvi at hc
    split at hc
    . injection hc with hc; subst hc
      simp only [execI] at h
      obtain ⟨r, hr, he⟩ := ZfU h
      simp only [Xc] at he
      obtain ⟨rfl, rfl, rfl⟩ := he
      obtain ⟨u, h1, h2⟩ := ZuY (P := P) (w := w) (t := t) x y hx' hy' hr
      exact OpOk.val ⟨u, w, h1, Post.here R h2⟩
    . injection hc with hc; subst hc
      simp only [execI] at h
      obtain ⟨r, hr, he⟩ := ZfU h
      simp only [Xc] at he
      obtain ⟨rfl, rfl, rfl⟩ := he
      obtain ⟨u, h1, h2⟩ := ZuY (P := P) (w := w) (t := t) x y hx' hy' hr
      exact OpOk.val ⟨u, w, h1, Post.here R h2⟩
    . rename_i hu
      split at hc
      all_goals first
        | (cases hc; done)
        | (injection hc with hc; subst hc
           simp only [execI] at h
           split at h
           . rename_i p q e1 e2
             rw [e1] at hx'; rw [e2] at hy'
             simp only [VR] at hx' hy'
             simp only [Xa, Xc] at h
             obtain ⟨rfl, rfl, rfl⟩ := h
             refine OpOk.val ⟨_, w, ?_, Post.here R (by simp only [VR]; rfl)⟩
             rw [hx', hy']
             first | exact ZAy hu p q x y | exact ZBK hu p q x y
           . cases h)
    . rename_i elem hu
      split at hc
      all_goals first
        | (cases hc; done)
        | (injection hc with hc; subst hc
           simp only [execI] at h
           split at h
           . rename_i e1 e2
             rw [e1] at hx'; rw [e2] at hy'
             simp only [VR] at hx' hy'
             simp only [Xa, Xc] at h
             obtain ⟨rfl, rfl, rfl⟩ := h
             refine OpOk.val ⟨_, w, ?_, Post.here R (by simp only [VR]; rfl)⟩
             rw [hx', hy']
             first | exact ZjH hu _ _ x y (by simp) | exact Zj2 hu _ _ x y (by simp)
           . rename_i t1 o1 e1 e2
             rw [e1] at hx'; rw [e2] at hy'
             simp only [VR] at hx' hy'
             obtain ⟨b, k, c', _, hy'⟩ := hy'
             simp only [Xa, Xc] at h
             obtain ⟨rfl, rfl, rfl⟩ := h
             refine OpOk.val ⟨_, w, ?_, Post.here R (by simp only [VR]; rfl)⟩
             rw [hx', hy']
             first | exact ZjH hu _ _ x y (by simp) | exact Zj2 hu _ _ x y (by simp)
           . rename_i t1 o1 e1 e2
             rw [e1] at hx'; rw [e2] at hy'
             simp only [VR] at hx' hy'
             obtain ⟨b, k, c', _, hx'⟩ := hx'
             simp only [Xa, Xc] at h
             obtain ⟨rfl, rfl, rfl⟩ := h
             refine OpOk.val ⟨_, w, ?_, Post.here R (by simp only [VR]; rfl)⟩
             rw [hx', hy']
             first | exact ZjH hu _ _ x y (by simp) | exact Zj2 hu _ _ x y (by simp)
           . rename_i t1 j1 o1 e1 e2
             rw [e1] at hx'; rw [e2] at hy'
             simp only [VR] at hx' hy'
             obtain ⟨b, k, c', _, hy'⟩ := hy'
             simp only [Xa, Xc] at h
             obtain ⟨rfl, rfl, rfl⟩ := h
             refine OpOk.val ⟨_, w, ?_, Post.here R (by simp only [VR]; rfl)⟩
             rw [hx', hy']
             first | exact ZjH hu _ _ x y (by simp) | exact Zj2 hu _ _ x y (by simp)
           . rename_i t1 j1 o1 e1 e2
             rw [e1] at hx'; rw [e2] at hy'
             simp only [VR] at hx' hy'
             obtain ⟨b, k, c', _, hx'⟩ := hx'
             simp only [Xa, Xc] at h
             obtain ⟨rfl, rfl, rfl⟩ := h
             refine OpOk.val ⟨_, w, ?_, Post.here R (by simp only [VR]; rfl)⟩
             rw [hx', hy']
             first | exact ZjH hu _ _ x y (by simp) | exact Zj2 hu _ _ x y (by simp)
           . cases h)
    . rename_i fs hu
      split at hc
      case isFalse => cases hc
      rename_i hfl
      have fin : ∀ (neg : Bool), op = (if neg then .neq else .eql) -> execI O bf tm σ sq (.eqv neg (fs.toList.map fun f => (Zga P f.type).getD 3) x' y') = some (v, σ', c) -> OpOk P (do pure (.value (<- (do eqGuard op t x y (a.eval x) (a.eval y); binOp op t (a.eval x) (a.eval y))))) w (Post base w0 I0 I β v σ') := by
        intro neg hop h
        simp only [execI] at h
        split at h
        . rename_i xs ys e1 e2
          rw [e1] at hx'; rw [e2] at hy'
          simp only [VR] at hx' hy'
          obtain ⟨us, hx1, hx2⟩ := hx'
          obtain ⟨vs, hy1, hy2⟩ := hy'
          split at h
          case isFalse => cases h
          rename_i hk
          split at h
          . rename_i b hb'
            simp only [Xa, Xc] at h
            obtain ⟨rfl, rfl, rfl⟩ := h
            refine OpOk.val ⟨_, w, ?_, Post.here R (by simp only [VR]; rfl)⟩
            rw [hx1, hy1]
            exact ZCK hu hfl hx2 hy2 (ZuD hk) hb' neg hop x y
          . cases h
        . cases h
      split at hc
      . injection hc with hc; subst hc; exact fin false rfl h
      . injection hc with hc; subst hc; exact fin true rfl h
      . cases hc
    . rename_i ms hu
      have fin : ∀ (neg : Bool), y' = .c .nili -> op = (if neg then .neq else .eql) -> execI O bf tm σ sq (.ieq neg x' y') = some (v, σ', c) -> OpOk P (do pure (.value (<- (do eqGuard op t x y (a.eval x) (a.eval y); binOp op t (a.eval x) (a.eval y))))) w (Post base w0 I0 I β v σ') := by
        intro neg hy0 hop h
        subst hy0
        obtain ⟨vy, rfl⟩ : ∃ vy, y = .const vy := by
          cases y with
          | const vy => exact ⟨vy, rfl⟩
          | tmp t => simp [Z9] at hy
          | func f => simp only [Z9] at hy; split at hy <;> simp at hy
          | global g => simp [Z9] at hy
        simp only [Opd.ev, VR] at hy'
        have hms : P.underlying t = some (.interface ms) := hu
        simp only [execI] at h
        rw [show (Opd.c AVal.nili).ev tm = .nili from rfl] at h
        split at h
        . rename_i e1 e2
          rw [e1] at hx'
          simp only [VR] at hx'
          simp only [Xa, Xc] at h
          obtain ⟨rfl, rfl, rfl⟩ := h
          refine OpOk.val ⟨_, w, ?_, Post.here R (by simp only [VR]; rfl)⟩
          rw [hx', hy']
          exact ZOr hms neg x vy hop
        . rename_i e2; cases e2
        . rename_i t1 x1 e1 e2
          rw [e1] at hx'
          simp only [VR] at hx'
          obtain ⟨u, hx', _⟩ := hx'
          simp only [Xa, Xc] at h
          obtain ⟨rfl, rfl, rfl⟩ := h
          refine OpOk.val ⟨_, w, ?_, Post.here R (by simp only [VR]; rfl)⟩
          rw [hx', hy']
          exact ZLo hms neg x vy hop
        . cases h
      split at hc
      . injection hc with hc; subst hc; exact fin false rfl rfl h
      . injection hc with hc; subst hc; exact fin true rfl rfl h
      . cases hc
    . cases hc
  . cases hc
theorem ZCY{O:ZJ}(hO:Zar P O){bf:Nat->Bool}{an:Ann}{a:Act}{o:Oper}{own:Nat}{ins:Ins}(op:UnOp)(t:TypeId)(x:Operand)(ho:o.op=.unOp op t x)(hc:ZU P an own (.unOp op t x)=some ins)(T:TR I β tm a.tmps)(R:Rel base w0 I0 I β σ w)(hb:KLt base w0)
  {sq:Nat} (hsite:nsite ins≠0->σ[sq]?=some .free) {v:AVal} {c:Cls} (h:execI O bf tm σ sq ins=some (v,σ',c)):OpOk P (execOp a.eval o) w (Post base w0 I0 I β v σ'):=by
 rw[show execOp a.eval o=(do pure (.value (<-Op.unary op (a.eval x))):Sem Next)by unfold execOp;rw[ho]]
 simp only[ZU]at hc
 simp only[Xq]at hc
 obtain⟨y,hy,rfl⟩:=hc
 simp only[execI]at h
 obtain⟨r,hr,he⟩:=ZfU h
 simp only[Xc]at he
 obtain⟨rfl,rfl,rfl⟩:=he
 obtain⟨u,h1,h2⟩:=ZJG (P:=P) (w:=w) (Z4 T hy) hr
 exact OpOk.val ⟨u,w,h1,Post.here R h2⟩
theorem ZOV{O:ZJ}(hO:Zar P O){bf:Nat->Bool}{an:Ann}{a:Act}{o:Oper}{own:Nat}{ins:Ins}(src:TypeId)(dst:TypeId)(x:Operand)(ho:o.op=.convert src dst x)(hc:ZU P an own (.convert src dst x)=some ins)(T:TR I β tm a.tmps)(R:Rel base w0 I0 I β σ w)(hb:KLt base w0)
  {sq:Nat} (hsite:nsite ins≠0->σ[sq]?=some .free) {v:AVal} {c:Cls} (h:execI O bf tm σ sq ins=some (v,σ',c)):OpOk P (execOp a.eval o) w (Post base w0 I0 I β v σ'):=by
 rw[show execOp a.eval o=(do pure (.value (<-convert src dst (a.eval x))):Sem Next)by unfold execOp;rw[ho]]
 simp only[ZU]at hc
 split at hc
 ·rename_i y hy
  have hx:=Z4 T hy
  unfold Zvz at hc
  split at hc
  ·rename_i k1 k2 hs hd
   injection hc with hc;subst hc
   simp only[execI]at h
   split at h
   ·rename_i k n e
    rw[e]at hx;simp only[VR]at hx
    simp only[Xa,Xc]at h
    obtain⟨rfl,rfl,rfl⟩:=h
    refine OpOk.val ⟨.int k2 (k2.wrap n),w,?_,Post.here R (by simp only[VR])⟩
    rw[hx]
    simp[convert,run_underlying hs,run_underlying hd,Conv.intToInt]
   ·cases h
  ·rename_i hs hd
   injection hc with hc;subst hc
   simp only[execI]at h
   split at h
   ·rename_i k n e
    rw[e]at hx;simp only[VR]at hx
    simp only[Xa,Xc]at h
    obtain⟨rfl,rfl,rfl⟩:=h
    refine OpOk.val ⟨.string (Utf8.encode n),w,?_,Post.here R ?_⟩
    ·rw[hx]
     simp[convert,run_underlying hs,run_underlying hd,Conv.intToString]
    ·simp only[VR]
     refine⟨by simp,?_⟩
     unfold Utf8.encode
     simp only
     repeat' split
     all_goals simp
   ·cases h
  ·rename_i hs hd
   injection hc with hc;subst hc
   simp only[execI]at h
   split at h
   ·rename_i l e
    rw[e]at hx
    have hx':=hx
    simp only[VR]at hx'
    simp only[Xa,Xc]at h
    obtain⟨rfl,rfl,rfl⟩:=h
    refine OpOk.val ⟨_,w,?_,Post.here R hx⟩
    rw[hx'.1]
    simp[convert,run_underlying hs,run_underlying hd]
   ·cases h
  ·rename_i e hs hd
   split at hc
   ·rename_i he
    injection hc with hc;subst hc
    simp only[execI]at h
    split at h
    ·rename_i l e'
     rw[e']at hx
     simp only[VR]at hx
     simp only[Xa,Xc]at h
     obtain⟨rfl,rfl,rfl⟩:=h
     rw[hx.1]
     exact OpOk.val (Zz3 hs hd he R hb hx.2)
    ·cases h
   ·cases hc
  ·rename_i e1 e hs hd
   split at hc
   ·rename_i hsd
    subst hsd
    split at hc
    ·rename_i he
     injection hc with hc;subst hc
     simp only[execI]at h
     split at h
     ·rename_i t' g n ev
      rw[ev]at hx
      split at h
      ·rename_i g' k xs hrow
       split at h
       ·rename_i hcond
        obtain⟨rfl,hn,h0⟩:=hcond
        simp only[Xa,Xc]at h
        obtain⟨rfl,rfl,rfl⟩:=h
        obtain⟨w1,h1,h2⟩:=ZSg hd he R hrow hn h0 hx
        exact OpOk.val ⟨_,w1,h1,h2⟩
       ·cases h
      ·cases h
     ·cases h
    ·cases hc
   ·cases hc
  ·rename_i e hs hd
   split at hc
   ·rename_i he
    injection hc with hc;subst hc
    simp only[execI]at h
    split at h
    ·rename_i xs ts hel
     split at h
     ·rename_i l hl
      simp only[Xa,Xc]at h
      obtain⟨rfl,rfl,rfl⟩:=h
      by_cases hst:∃ l',y.ev tm=.str l'
      ·obtain⟨l',e'⟩:=hst
       rw[e']at hel hx
       simp only[Zq,Xa,Xc]at hel
       obtain⟨rfl,rfl⟩:=hel
       simp only[VR]at hx
       have hll:l=l':=by
        obtain⟨ns,e1,e2⟩:=ZsJ hl
        subst e2
        have : l'.map Zc=ns.map (AVal.int .u8):=e1
        apply List.ext_getElem?
        intro j
        have hj:=congrArg (fun q:List AVal=>q[j]?) this
        simp only[List.getElem?_map]at hj ⊢
        cases h1:l'[j]? <;> cases h2:ns[j]? <;> simp_all[Zc]
        rename_i b n
        rw[<-hj];simp
       subst hll
       refine OpOk.val ⟨.string ⟨l.toArray⟩,w,?_,Post.here R (by simp only[VR];exact⟨trivial,hx.2⟩)⟩
       rw[hx.1]
       simp[convert,run_underlying hs,run_underlying hd]
      ·have hrd:=Zr5 R (fun l' e'=>hst ⟨l',e'⟩) hel hx
       obtain⟨h1,h2⟩:=ZQ3 (P:=P) hs he hd hrd hl
       exact OpOk.val ⟨_,w,h1,Post.here R (by simp only[VR];exact⟨trivial,h2⟩)⟩
     ·cases h
    ·cases h
   ·cases hc
  ·cases hc
 ·cases hc
theorem ZRg{O:ZJ}(hO:Zar P O){bf:Nat->Bool}{an:Ann}{a:Act}{o:Oper}{own:Nat}{ins:Ins}(t:TypeId)(x:Operand)(lo:Option Operand)(hi:Option Operand)(mx:Option Operand)(ho:o.op=.slice t x lo hi mx)(hc:ZU P an own (.slice t x lo hi mx)=some ins)(T:TR I β tm a.tmps)(R:Rel base w0 I0 I β σ w)(hb:KLt base w0)
  {sq:Nat} (hsite:nsite ins≠0->σ[sq]?=some .free) {v:AVal} {c:Cls} (h:execI O bf tm σ sq ins=some (v,σ',c)):OpOk P (execOp a.eval o) w (Post base w0 I0 I β v σ'):=by
 rw[show execOp a.eval o=(do pure (.value (<-Instr.sliceAt t (a.eval x) (lo.map a.eval) (hi.map a.eval) (mx.map a.eval))):Sem Next)by unfold execOp;rw[ho]]
 simp only[ZU]at hc
 split at hc
 ·rename_i x' lo' hi' mx' hx hlo hhi hmx
  split at hc
  ·rename_i hu
   split at hc
   ·injection hc with hc;subst hc
    have hmx0:mx=none:=by cases mx<;>simp_all[Zhg]
    subst hmx0
    have hx':=Z4 T hx
    simp only[execI]at h
    split at h
    ·rename_i s e
     rw[e]at hx';simp only[VR]at hx'
     split at h
     ·cases h
     rename_i hh h1
     split at h
     ·cases h
     rename_i ll h2
     simp only[Xa,Xc]at h
     obtain⟨rfl,rfl,rfl⟩:=h
     refine OpOk.val ⟨_,w,?_,Post.here R (by simp only[VR];exact⟨rfl,by simp;omega⟩)⟩
     rw[hx'.1]
     exact ZDP hu hx'.2 (Zkq T hlo) (Zkq T hhi) h1 h2
    ·cases h
   ·cases hc
  ·rename_i e hu
   split at hc
   ·rename_i k hk
    split at hc
    ·split at hc
     ·cases hc
     ·rename_i hnn
      injection hc with hc;subst hc
      simp only[execI]at h
      obtain⟨u,h1,h2⟩:=ZM7 hu hk R (Z4 T hx) (Zkq T hlo) (Zkq T hhi) (Zkq T hmx) (by
       intro e'
       cases hi' with
       |some _=>simp at e'
       |none=>cases mx' with
        |none=>rfl
        |some q=>exact absurd rfl (hnn q rfl)) h
      exact OpOk.val ⟨u,w,h1,h2⟩
    ·cases hc
   ·cases hc
  ·cases hc
 ·cases hc
theorem ZC4{O:ZJ}(hO:Zar P O){bf:Nat->Bool}{an:Ann}{a:Act}{o:Oper}{own:Nat}{ins:Ins}(s:TypeId)(x:Operand)(i:Nat)(ho:o.op=.fieldAddr s x i)(hc:ZU P an own (.fieldAddr s x i)=some ins)(T:TR I β tm a.tmps)(R:Rel base w0 I0 I β σ w)(hb:KLt base w0)
  {sq:Nat} (hsite:nsite ins≠0->σ[sq]?=some .free) {v:AVal} {c:Cls} (h:execI O bf tm σ sq ins=some (v,σ',c)):OpOk P (execOp a.eval o) w (Post base w0 I0 I β v σ'):=by
 rw[show execOp a.eval o=(do pure (.value (<-Instr.fieldAt s (a.eval x) i)):Sem Next)by unfold execOp;rw[ho]]
 simp only[ZU]at hc
 split at hc
 ·rename_i fields x' hs hx
  split at hc
  ·rename_i f hf
   split at hc
   ·rename_i k hk
    split at hc
    ·cases hc
    ·rename_i hk0
     injection hc with hc;subst hc
     simp only[execI]at h
     obtain⟨r,hr,he⟩:=ZfU h
     simp only[Xc]at he
     obtain⟨rfl,rfl,rfl⟩:=he
     obtain⟨u,h1,h2⟩:=ZR4 (w:=w) hs hf hk hk0 (Z4 T hx) hr
     exact OpOk.val ⟨u,w,h1,Post.here R h2⟩
   ·cases hc
  ·cases hc
 ·cases hc
theorem ZGh{O:ZJ}(hO:Zar P O){bf:Nat->Bool}{an:Ann}{a:Act}{o:Oper}{own:Nat}{ins:Ins}(s:TypeId)(x:Operand)(i:Nat)(ho:o.op=.field s x i)(hc:ZU P an own (.field s x i)=some ins)(T:TR I β tm a.tmps)(R:Rel base w0 I0 I β σ w)(hb:KLt base w0)
  {sq:Nat} (hsite:nsite ins≠0->σ[sq]?=some .free) {v:AVal} {c:Cls} (h:execI O bf tm σ sq ins=some (v,σ',c)):OpOk P (execOp a.eval o) w (Post base w0 I0 I β v σ'):=by
 rw[show execOp a.eval o=(do pure (.value (<-Instr.field s (a.eval x) i)):Sem Next)by unfold execOp;rw[ho]]
 simp only[ZU]at hc
 split at hc
 ·rename_i fields x' hs hx
  split at hc
  ·rename_i f hf
   simp only[Xq]at hc
   obtain⟨k,hk,rfl⟩:=hc
   have hx':=Z4 T hx
   simp only[execI]at h
   split at h
   ·rename_i cs e
    rw[e]at hx';simp only[VR]at hx'
    obtain⟨us,hus,hv⟩:=hx'
    obtain⟨r,hr,he⟩:=ZfU h
    simp only[Xc]at he
    obtain⟨rfl,rfl,rfl⟩:=he
    obtain⟨u,h1,h2⟩:=Zy4 (P:=P) (w:=w) hk hv hr
    refine OpOk.val ⟨u,w,?_,Post.here R h2⟩
    rw[hus]
    simp[Instr.field,run_underlying hs,hf,asAgg,h1]
   ·cases h
  ·cases hc
 ·cases hc
theorem ZCC{O:ZJ}(hO:Zar P O){bf:Nat->Bool}{an:Ann}{a:Act}{o:Oper}{own:Nat}{ins:Ins}(t:TypeId)(x:Operand)(i:Operand)(ho:o.op=.indexAddr t x i)(hc:ZU P an own (.indexAddr t x i)=some ins)(T:TR I β tm a.tmps)(R:Rel base w0 I0 I β σ w)(hb:KLt base w0)
  {sq:Nat} (hsite:nsite ins≠0->σ[sq]?=some .free) {v:AVal} {c:Cls} (h:execI O bf tm σ sq ins=some (v,σ',c)):OpOk P (execOp a.eval o) w (Post base w0 I0 I β v σ'):=by
 rw[show execOp a.eval o=(do pure (.value (<-Instr.indexAt t (a.eval x) (a.eval i))):Sem Next)by unfold execOp;rw[ho]]
 simp only[ZU]at hc
 split at hc
 ·rename_i e x' i' hu hx hi
  simp only[Xq]at hc
  obtain⟨k,hk,rfl⟩:=hc
  simp only[execI]at h
  obtain⟨u,h1,h2,rfl⟩:=ZBx hu hk R (Z4 T hx) (Z4 T hi) h
  exact OpOk.val ⟨u,w,h1,Post.here R h2⟩
 ·rename_i n e x' i' hu hx hi
  simp only[Xq]at hc
  obtain⟨k,hk,rfl⟩:=hc
  have hi':=Z4 T hi
  simp only[execI]at h
  split at h
  ·rename_i kk ii e'
   rw[e']at hi';simp only[VR]at hi'
   split at h
   ·rename_i hb'
    obtain⟨r,hr,he⟩:=ZfU h
    simp only[Xc]at he
    obtain⟨rfl,rfl,rfl⟩:=he
    obtain⟨u,h1,h2⟩:=ZIQ (P:=P) (w:=w) (kk:=kk) hu hk (Z4 T hx) hb'.1 hb'.2 hr
    exact OpOk.val ⟨u,w,by rw[hi'];exact h1,Post.here R h2⟩
   ·cases h
  ·cases h
 ·cases hc
theorem ZLW{O:ZJ}(hO:Zar P O){bf:Nat->Bool}{an:Ann}{a:Act}{o:Oper}{own:Nat}{ins:Ins}(t:TypeId)(x:Operand)(i:Operand)(ho:o.op=.index t x i)(hc:ZU P an own (.index t x i)=some ins)(T:TR I β tm a.tmps)(R:Rel base w0 I0 I β σ w)(hb:KLt base w0)
  {sq:Nat} (hsite:nsite ins≠0->σ[sq]?=some .free) {v:AVal} {c:Cls} (h:execI O bf tm σ sq ins=some (v,σ',c)):OpOk P (execOp a.eval o) w (Post base w0 I0 I β v σ'):=by
 rw[show execOp a.eval o=(do pure (.value (<-Instr.index t (a.eval x) (a.eval i))):Sem Next)by unfold execOp;rw[ho]]
 simp only[ZU]at hc
 split at hc
 ·rename_i x' i' hu hx hi
  injection hc with hc;subst hc
  have hx':=Z4 T hx
  have hi':=Z4 T hi
  simp only[execI]at h
  split at h
  ·rename_i s kk ii e1 e2
   rw[e1]at hx';rw[e2]at hi'
   simp only[VR]at hx' hi'
   split at h
   ·rename_i h0
    simp only[Xq]at h
    obtain⟨b,hbb,he⟩:=h
    simp only[Xc]at he
    obtain⟨rfl,rfl,rfl⟩:=he
    refine OpOk.val ⟨.int .u8 b.toNat,w,?_,Post.here R (by simp only[Zc,VR])⟩
    rw[hx'.1,hi']
    have hg:(⟨s.toArray⟩:ByteArray)[ii.toNat]?=some b:=by
     have hlt:=(Xh.1 hbb).1
     have : ii.toNat<WM ⟨s.toArray⟩:=by simpa[WM]using hlt
     rw[getElem?_pos (⟨s.toArray⟩:ByteArray) ii.toNat this]
     have:=(Xh.1 hbb).2
     rw[<-this]
     rfl
    simp[Instr.index,asIntOf,run_underlying hu,h0,hg]
   ·cases h
  ·cases h
 ·rename_i n e x' i' hu hx hi
  split at hc
  ·rename_i s k hk hk2
   injection hc with hc;subst hc
   have hx':=Z4 T hx
   have hi':=Z4 T hi
   simp only[execI]at h
   split at h
   ·rename_i cs kk ii e1 e2
    rw[e1]at hx';rw[e2]at hi'
    simp only[VR]at hx' hi'
    obtain⟨us,hus,hv⟩:=hx'
    split at h
    ·rename_i hb'
     obtain⟨r,hr,he⟩:=ZfU h
     simp only[Xc]at he
     obtain⟨rfl,rfl,rfl⟩:=he
     obtain⟨u,h1,h2⟩:=Zy4 (P:=P) (w:=w) hk hv hr
     obtain⟨ie,hie,hke⟩:∃ ie,P.info? e=some ie/\ie.size=k:=by
      unfold ZbG at hk2
      cases hi:P.info? e with
      |none=>simp[hi]at hk2
      |some i=>exact⟨i,rfl,by simpa[hi]using hk2⟩
     refine OpOk.val ⟨u,w,?_,Post.here R h2⟩
     rw[hus,hi']
     simp[Instr.index,asIntOf,run_underlying hu,hb'.1,hb'.2,sizeOf,typeInfo,hie,hke,h1]
    ·cases h
   ·cases h
  ·cases hc
 ·cases hc
theorem ZFf{O:ZJ}(hO:Zar P O){bf:Nat->Bool}{an:Ann}{a:Act}{o:Oper}{own:Nat}{ins:Ins}(x:Operand)(i:Nat)(ho:o.op=.extract x i)(hc:ZU P an own (.extract x i)=some ins)(T:TR I β tm a.tmps)(R:Rel base w0 I0 I β σ w)(hb:KLt base w0)
  {sq:Nat} (hsite:nsite ins≠0->σ[sq]?=some .free) {v:AVal} {c:Cls} (h:execI O bf tm σ sq ins=some (v,σ',c)):OpOk P (execOp a.eval o) w (Post base w0 I0 I β v σ'):=by
 rw[show execOp a.eval o=(do pure (.value (<-Instr.extract (a.eval x) i)):Sem Next)by unfold execOp;rw[ho]]
 simp only[ZU]at hc
 simp only[Xq]at hc
 obtain⟨y,hy,rfl⟩:=hc
 have hx:=Z4 T hy
 simp only[execI]at h
 split at h
 ·rename_i vs e
  rw[e]at hx;simp only[VR]at hx
  obtain⟨us,hus,hv⟩:=hx
  obtain⟨r,hr,he⟩:=ZfU h
  simp only[Xc]at he
  obtain⟨rfl,rfl,rfl⟩:=he
  obtain⟨u,h1,h2⟩:=Zcc hv hr
  have h1':us[i]?=some u:=by simpa using h1
  exact OpOk.val ⟨u,w,by rw[hus];simp[Instr.extract,h1'],Post.here R h2⟩
 ·cases h
theorem ZRy{O:ZJ}(hO:Zar P O){bf:Nat->Bool}{an:Ann}{a:Act}{o:Oper}{own:Nat}{ins:Ins}(t:TypeId)(l:Operand)(c':Operand)(ho:o.op=.makeSlice t l c')(hc:ZU P an own (.makeSlice t l c')=some ins)(T:TR I β tm a.tmps)(R:Rel base w0 I0 I β σ w)(hb:KLt base w0)
  {sq:Nat} (hsite:nsite ins≠0->σ[sq]?=some .free) {v:AVal} {c:Cls} (h:execI O bf tm σ sq ins=some (v,σ',c)):OpOk P (execOp a.eval o) w (Post base w0 I0 I β v σ'):=by
 rw[show execOp a.eval o=(do pure (.value (<-Instr.makeSlice t (a.eval l) (a.eval c'))):Sem Next)by unfold execOp;rw[ho]]
 simp only[ZU]at hc
 split at hc
 ·rename_i k bytes z l' c'' he hl hc'
  injection hc with hc;subst hc
  have hl':=Z4 T hl
  have hc'':=Z4 T hc'
  simp only[execI]at h
  split at h
  ·rename_i li ci e1 e2
   rw[e1]at hl';rw[e2]at hc''
   simp only[VR]at hl' hc''
   split at h
   ·rename_i hcond
    simp only[Xa,Xc]at h
    obtain⟨rfl,rfl,rfl⟩:=h
    rw[hl',hc'']
    exact OpOk.val (ZQu R hb he hcond.1 hcond.2.1 hcond.2.2.1 hcond.2.2.2.1 (hsite (by simp[nsite])))
   ·cases h
  ·cases h
 ·cases hc
theorem ZQ7{O:ZJ}(hO:Zar P O){bf:Nat->Bool}{an:Ann}{a:Act}{o:Oper}{own:Nat}{ins:Ins}(fn:Fn)(first:Array Operand)(captured:Array Operand)(ho:o.op=.makeFunc fn first captured)(hc:ZU P an own (.makeFunc fn first captured)=some ins)(T:TR I β tm a.tmps)(R:Rel base w0 I0 I β σ w)(hb:KLt base w0)
  {sq:Nat} (hsite:nsite ins≠0->σ[sq]?=some .free) {v:AVal} {c:Cls} (h:execI O bf tm σ sq ins=some (v,σ',c)):OpOk P (execOp a.eval o) w (Post base w0 I0 I β v σ'):=by
 rw[show execOp a.eval o=(do pure (.value (<-Instr.makeFunc fn (first.map a.eval) (captured.map a.eval))):Sem Next)by unfold execOp;rw[ho]]
 simp only[ZU]at hc
 cases fn<;>simp only at hc<;>try (cases hc;done)
 rename_i f
 split at hc
 case isFalse=>cases hc
 rename_i hlt
 split at hc
 ·rename_i hf
  simp only[Xq]at hc
  obtain⟨caps,hcaps,rfl⟩:=hc
  simp only[execI,Xa,Xc]at h
  obtain⟨rfl,rfl,rfl⟩:=h
  have hfe:first=#[]:=by simpa using hf
  subst hfe
  refine OpOk.val ⟨.func (.func f) #[] (captured.map a.eval),w,by simp[Instr.makeFunc],Post.here R ?_⟩
  simp only[VR,if_pos hlt]
  exact⟨_,_,rfl,rfl,by simpa using Zmh T hcaps⟩
 ·split at hc
  case isFalse=>cases hc
  rename_i hf
  simp only[Xq]at hc
  obtain⟨caps,hcaps,rfl⟩:=hc
  simp only[execI,Xa,Xc]at h
  obtain⟨rfl,rfl,rfl⟩:=h
  have hfe:captured=#[]:=by simpa using hf
  subst hfe
  refine OpOk.val ⟨.func (.func f) (first.map a.eval) #[],w,by simp[Instr.makeFunc],Post.here R ?_⟩
  have hn:¬(f+1000000<1000000):=Nat.not_lt.2 (Nat.le_add_left _ _)
  simp only[VR,if_neg hn,Nat.add_sub_cancel]
  exact⟨_,_,rfl,rfl,by simpa using Zmh T hcaps⟩
theorem ZIm{O:ZJ}(hO:Zar P O){bf:Nat->Bool}{an:Ann}{a:Act}{o:Oper}{own:Nat}{ins:Ins}(t:TypeId)(x:Operand)(ho:o.op=.makeInterface t x)(hc:ZU P an own (.makeInterface t x)=some ins)(T:TR I β tm a.tmps)(R:Rel base w0 I0 I β σ w)(hb:KLt base w0)
  {sq:Nat} (hsite:nsite ins≠0->σ[sq]?=some .free) {v:AVal} {c:Cls} (h:execI O bf tm σ sq ins=some (v,σ',c)):OpOk P (execOp a.eval o) w (Post base w0 I0 I β v σ'):=by
 rw[show execOp a.eval o=(do pure (.value (<-Instr.makeInterface t (a.eval x))):Sem Next)by unfold execOp;rw[ho]]
 simp only[ZU]at hc
 split at hc
 ·cases hc
 ·rename_i d hd hnd
  simp only[Xq]at hc
  obtain⟨y,hy,rfl⟩:=hc
  have hy':=Z4 T hy
  have hrun:∀ u,(Instr.makeInterface t u).run P w=.ok (.iface t u) w:=by
   intro u
   unfold Instr.makeInterface
   rw[Sem.run_bind,run_underlying hnd]
   simp only[Result.andThen_ok]
   cases d<;>first |rfl |exact absurd rfl (hd _)
  simp only[execI]at h
  split at h
  ·cases h
  ·cases h
  ·cases h
  ·simp only[Xa,Xc]at h
   obtain⟨rfl,rfl,rfl⟩:=h
   exact OpOk.val ⟨_,w,hrun _,Post.here R (by simp only[VR];exact⟨_,rfl,hy'⟩)⟩
 ·cases hc
theorem ZJX{O:ZJ}(hO:Zar P O){bf:Nat->Bool}{an:Ann}{a:Act}{o:Oper}{own:Nat}{ins:Ins}(x:Operand)(ho:o.op=.panic x)(hc:ZU P an own (.panic x)=some ins)(T:TR I β tm a.tmps)(R:Rel base w0 I0 I β σ w)(hb:KLt base w0)
  {sq:Nat} (hsite:nsite ins≠0->σ[sq]?=some .free) {v:AVal} {c:Cls} (h:execI O bf tm σ sq ins=some (v,σ',c)):OpR P (execOp a.eval o) w base w0 I0 I β v σ':=by
 rw[show execOp a.eval o=(do pure (.value (<-Instr.panic (a.eval x))):Sem Next)by unfold execOp;rw[ho]]
 simp only[ZU]at hc
 simp only[Xq]at hc
 obtain⟨y,hy,rfl⟩:=hc
 have hy':=Z4 T hy
 simp only[execI]at h
 split at h
 ·rename_i t1 x1 e
  rw[e]at hy'
  simp only[Xa,Xc]at h
  obtain⟨rfl,rfl,rfl⟩:=h
  refine Xt ⟨_,rfl,Xp ⟨a.eval x,w,?_,Post.here R hy'⟩⟩
  simp only[VR]at hy'
  obtain⟨u,hu,_⟩:=hy'
  simp[hu,Instr.panic,goPanic]
 ·cases h
theorem ZOG{O:ZJ}(hO:Zar P O){bf:Nat->Bool}{an:Ann}{a:Act}{o:Oper}{own:Nat}{ins:Ins}(t:TypeId)(x:Operand)(ho:o.op=.range t x)(hc:ZU P an own (.range t x)=some ins)(T:TR I β tm a.tmps)(R:Rel base w0 I0 I β σ w)(hb:KLt base w0)
  {sq:Nat} (hsite:nsite ins≠0->σ[sq]?=some .free) {v:AVal} {c:Cls} (h:execI O bf tm σ sq ins=some (v,σ',c)):OpOk P (execOp a.eval o) w (Post base w0 I0 I β v σ'):=by
 rw[show execOp a.eval o=(do pure (.value (<-Instr.range t (a.eval x))):Sem Next)by unfold execOp;rw[ho]]
 simp only[ZU]at hc
 split at hc
 case h_2=>cases hc
 rename_i ht
 simp only[Xq]at hc
 obtain⟨y,hy,rfl⟩:=hc
 have hy':=Z4 T hy
 simp only[execI]at h
 split at h
 case h_2=>cases h
 rename_i l e
 simp only[Xa,Xc]at h
 obtain⟨rfl,rfl,rfl⟩:=h
 rw[e]at hy'
 simp only[VR]at hy'
 rw[hy'.1]
 exact OpOk.val (ZNb R hb ht (hsite (by simp[nsite])))
theorem ZOF{O:ZJ}(hO:Zar P O){bf:Nat->Bool}{an:Ann}{a:Act}{o:Oper}{own:Nat}{ins:Ins}(x:Operand)(str:Bool)(ho:o.op=.next x str)(hc:ZU P an own (.next x str)=some ins)(T:TR I β tm a.tmps)(R:Rel base w0 I0 I β σ w)(hb:KLt base w0)
  {sq:Nat} (hsite:nsite ins≠0->σ[sq]?=some .free) {v:AVal} {c:Cls} (h:execI O bf tm σ sq ins=some (v,σ',c)):OpOk P (execOp a.eval o) w (Post base w0 I0 I β v σ'):=by
 rw[show execOp a.eval o=(do pure (.value (<-Instr.next (a.eval x) str o.type)):Sem Next)by unfold execOp;rw[ho]]
 simp only[ZU]at hc
 cases str
 case false=>cases hc
 simp only[Xq]at hc
 obtain⟨y,hy,rfl⟩:=hc
 have hy':=Z4 T hy
 simp only[execI]at h
 split at h
 case h_2=>cases h
 rename_i t e
 rw[e]at hy'
 split at h
 case h_2=>cases h
 rename_i l p hs
 obtain⟨u,w',h1,h2⟩:=ZBZ (P:=P) R hs hy' o.type
 split at h
 ·rename_i hp
  rw[if_pos hp]at h2
  simp only[Xa,Xc]at h
  obtain⟨rfl,rfl,rfl⟩:=h
  exact OpOk.val ⟨u,w',h1,h2⟩
 ·rename_i hp
  rw[if_neg hp]at h2
  simp only[Xa,Xc]at h
  obtain⟨rfl,rfl,rfl⟩:=h
  exact OpOk.val ⟨u,w',h1,h2⟩
theorem ZSB{O:ZJ}(hO:Zar P O){bf:Nat->Bool}{an:Ann}{a:Act}{o:Oper}{own:Nat}{ins:Ins}(t:TypeId)(r:Option Operand)(ho:o.op=.makeMap t r)(hc:ZU P an own (.makeMap t r)=some ins)(T:TR I β tm a.tmps)(R:Rel base w0 I0 I β σ w)(hb:KLt base w0)
  {sq:Nat} (hsite:nsite ins≠0->σ[sq]?=some .free) {v:AVal} {c:Cls} (h:execI O bf tm σ sq ins=some (v,σ',c)):OpOk P (execOp a.eval o) w (Post base w0 I0 I β v σ'):=by
 rw[show execOp a.eval o=(do pure (.value (<-Instr.makeMap t (r.map a.eval))):Sem Next)by unfold execOp;rw[ho]]
 simp only[ZU]at hc
 cases r with
 |some r=>cases hc
 |none =>
  simp only at hc
  split at hc
  ·split at hc
   ·split at hc
    ·injection hc with hc;subst hc
     simp only[execI]at h
     split at h
     case isFalse=>cases h
     rename_i hk
     simp only[Xa,Xc]at h
     obtain⟨rfl,rfl,rfl⟩:=h
     exact OpOk.val (ZDs R hb t hk (hsite (by simp[nsite])))
    ·cases hc
   ·cases hc
  injection hc with hc;subst hc
  simp only[execI,Xa,Xc]at h
  obtain⟨rfl,rfl,rfl⟩:=h
  exact OpOk.val (ZFb R hb t (hsite (by simp[nsite])))
theorem ZSC{O:ZJ}(hO:Zar P O){bf:Nat->Bool}{an:Ann}{a:Act}{o:Oper}{own:Nat}{ins:Ins}(t:TypeId)(x:Operand)(z:Operand)(ok:Bool)(ho:o.op=.lookup t x z ok)(hc:ZU P an own (.lookup t x z ok)=some ins)(T:TR I β tm a.tmps)(R:Rel base w0 I0 I β σ w)(hb:KLt base w0)
  {sq:Nat} (hsite:nsite ins≠0->σ[sq]?=some .free) {v:AVal} {c:Cls} (h:execI O bf tm σ sq ins=some (v,σ',c)):OpOk P (execOp a.eval o) w (Post base w0 I0 I β v σ'):=by
 rw[show execOp a.eval o=(do pure (.value (<-Instr.lookup t (a.eval x) (a.eval z) ok)):Sem Next)by unfold execOp;rw[ho]]
 simp only[ZU]at hc
 split at hc
 case h_2=>cases hc
 rename_i kc zv m k hmp hm hk
 obtain⟨kt,et,d,ht,hdk,hd,hz⟩:=ZlI hmp
 split at hc
 ·split at hc
  ·cases hc
  rename_i hok
  have hok':ok=false:=by simpa using hok
  subst hok'
  injection hc with hc;subst hc
  simp only[execI]at h
  obtain⟨u,h1,h2⟩:=ZOq R ht hdk hd hz (Z4 T hm) (Z4 T hk) (hsite (by simp[nsite])) h
  exact OpOk.val ⟨u,w,h1,h2⟩
 injection hc with hc;subst hc
 simp only[execI]at h
 obtain⟨rfl,u,h1,h2⟩:=ZPi R ht hdk hd hz (Z4 T hm) (Z4 T hk) h
 exact OpOk.val ⟨u,w,h1,Post.here R h2⟩
theorem ZzZ{O:ZJ}(hO:Zar P O){bf:Nat->Bool}{an:Ann}{a:Act}{o:Oper}{own:Nat}{ins:Ins}(t:TypeId)(x:Operand)(z:Operand)(y:Operand)(ho:o.op=.mapUpdate t x z y)(hc:ZU P an own (.mapUpdate t x z y)=some ins)(T:TR I β tm a.tmps)(R:Rel base w0 I0 I β σ w)(hb:KLt base w0)
  {sq:Nat} (hsite:nsite ins≠0->σ[sq]?=some .free) {v:AVal} {c:Cls} (h:execI O bf tm σ sq ins=some (v,σ',c)):OpOk P (execOp a.eval o) w (Post base w0 I0 I β v σ'):=by
 rw[show execOp a.eval o=(do Instr.mapUpdate t (a.eval x) (a.eval z) (a.eval y);pure .skip:Sem Next)by unfold execOp;rw[ho]]
 simp only[ZU]at hc
 split at hc
 case h_2=>cases hc
 rename_i kc zv m k vv hmp hm hk hv
 injection hc with hc;subst hc
 simp only[execI]at h
 obtain⟨kt,et,d,ht,hdk,hd,hz⟩:=ZlI hmp
 obtain⟨rfl,w',β',h1,hle,h2⟩:=ZyE R ht hdk hd (Z4 T hm) (Z4 T hk) (Z4 T hv) h
 exact OpOk.unit ⟨w',h1,Post.mk (Imm.le.refl I) hle h2 ZhU⟩
theorem ZG0{O:ZJ}(hO:Zar P O){bf:Nat->Bool}{an:Ann}{a:Act}{o:Oper}{own:Nat}{ins:Ins}(t:TypeId)(x:Operand)(z:Operand)(y:Operand)(ho:o.op=.insert t x z y)(hc:ZU P an own (.insert t x z y)=some ins)(T:TR I β tm a.tmps)(R:Rel base w0 I0 I β σ w)(hb:KLt base w0)
  {sq:Nat} (hsite:nsite ins≠0->σ[sq]?=some .free) {v:AVal} {c:Cls} (h:execI O bf tm σ sq ins=some (v,σ',c)):OpOk P (execOp a.eval o) w (Post base w0 I0 I β v σ'):=by
 rw[show execOp a.eval o=(do Instr.mapUpdate t (a.eval x) (a.eval z) (a.eval y);pure .skip:Sem Next)by unfold execOp;rw[ho]]
 simp only[ZU]at hc
 split at hc
 case h_2=>cases hc
 rename_i kc zv m k vv hmp hm hk hv
 injection hc with hc;subst hc
 simp only[execI]at h
 obtain⟨kt,et,d,ht,hdk,hd,hz⟩:=ZlI hmp
 obtain⟨rfl,w',β',h1,hle,h2⟩:=ZyE R ht hdk hd (Z4 T hm) (Z4 T hk) (Z4 T hv) h
 exact OpOk.unit ⟨w',h1,Post.mk (Imm.le.refl I) hle h2 ZhU⟩
theorem ZRx{O:ZJ}(hO:Zar P O){bf:Nat->Bool}{an:Ann}{a:Act}{o:Oper}{own:Nat}{ins:Ins}(cl:Call)(ho:o.op=.call cl)(hc:ZU P an own (.call cl)=some ins)(T:TR I β tm a.tmps)(R:Rel base w0 I0 I β σ w)(hb:KLt base w0)
  {sq:Nat} (hsite:nsite ins≠0->σ[sq]?=some .free) {v:AVal} {c:Cls} (h:execI O bf tm σ sq ins=some (v,σ',c)):OpR P (execOp a.eval o) w base w0 I0 I β v σ':=by
 rw[show execOp a.eval o=(do let d <-resolve a.eval cl o.type;invoke d.target d.args:Sem Next)by unfold execOp;rw[ho]]
 simp only[ZU]at hc
 unfold Zwl at hc
 split at hc
 ·cases hc
 rename_i args hargs
 have hav:=Zmh T hargs
 obtain⟨callee,cargs,ctypes⟩:=cl
 simp only at hc hargs hav
 have hmap:(cargs.toList.map a.eval)=(cargs.map a.eval).toList:=by simp
 split at hc
 ·rename_i f
  injection hc with hc;subst hc
  simp only[execI]at h
  obtain⟨⟨fn,f1,f2,f3⟩,g2⟩:=Zo3 hO R hb (vs:=cargs.map a.eval) (by rw[<-hmap];exact hav) (fun ho=>hsite (by simp[nsite,ho])) h
  exact OpR.of_call (by simp[resolve,Act.eval,Deferred.ofValue,invoke,Zpf f1 f2 f3]) g2
 ·rename_i t
  injection hc with hc;subst hc
  simp only[execI]at h
  split at h
  ·rename_i f caps hf
   have hfv:=Z4 (x:=.tmp t) T rfl
   rw[hf]at hfv
   simp only[VR]at hfv
   obtain⟨fs,us,hus,h0,hcaps⟩:=hfv
   by_cases hlt:f<1000000
   ·simp only[if_pos hlt]at h hus h0
    subst h0
    obtain⟨⟨fn,f1,f2,f3⟩,g2⟩:=Zo3 hO R hb (vs:=cargs.map a.eval++us) (by rw[Array.toList_append,<-hmap];exact Zcj hav (by simpa using hcaps)) (fun ho=>absurd ho (by decide)) h
    exact OpR.of_call (by simp[resolve,hus,Deferred.ofValue,invoke,Zpf f1 f2 f3]) g2
   ·simp only[if_neg hlt]at h hus h0
    subst h0
    obtain⟨⟨fn,f1,f2,f3⟩,g2⟩:=Zo3 hO R hb (vs:=fs++cargs.map a.eval) (by rw[Array.toList_append,<-hmap];exact Zcj (by simpa using hcaps) hav) (fun ho=>absurd ho (by decide)) h
    exact OpR.of_call (by simp[resolve,hus,Deferred.ofValue,invoke,Zpf f1 f2 f3]) g2
  ·cases h
 ·refine Xp ?_
  split at hc
  ·rename_i t u x y hty
   split at hc
   ·rename_i k bytes z he
    obtain⟨e,i,vz,hu,hi,hik,hib,hvz,hz,hk,hby,hzl⟩:=Zjx he
    obtain⟨hz1,hz2⟩:=Zft (I:=I) (β:=β) hz
    have hzs:vz.cells.size=i.size:=by rw[Zhb (ZfR hz) hz1,hzl,hik]
    have hargs2:∃ ox oy,cargs=#[ox,oy]/\Z9 ox=some x/\Z9 oy=some y:=by
     obtain⟨l⟩:=cargs
     match l,hargs with
     | [],hargs=>simp[ZcW]at hargs
     | [ox],hargs =>
      simp only[ZcW]at hargs
      split at hargs
      ·simp at hargs
      ·cases hargs
     | [ox,oy],hargs =>
      simp only[ZcW]at hargs
      split at hargs
      ·rename_i x1 hx1
       split at hargs
       ·rename_i l2 hl2
        split at hl2
        ·rename_i y1 hy1
         simp only[Xa]at hl2 hargs
         subst hl2
         simp only[XaO,and_true]at hargs
         obtain⟨rfl,rfl⟩:=hargs
         exact⟨ox,oy,rfl,hx1,hy1⟩
        ·cases hl2
       ·cases hargs
      ·cases hargs
     |ox::oy::oz::r,hargs=>have:=Zae hav;simp at this
    obtain⟨ox,oy,rfl,hx,hy⟩:=hargs2
    have htys:ctypes=#[t,u]:=by
     obtain⟨l⟩:=ctypes
     simpa using hty
    subst htys
    have fin:Ziy P t u e i vz->ZI σ sq k bytes (x.ev tm) (y.ev tm)=some (v,σ',c)->OpOk P (do let d <-resolve a.eval { callee:=.builtin .append,args:=#[ox,oy],argTypes:=#[t,u] } o.type;invoke d.target d.args) w (Post base w0 I0 I β v σ'):=by
     intro TT h
     rw[<-hik,<-hib]at h
     have hns:nsite ins≠0:=by
      split at hc
      ·injection hc with hc;subst hc;simp[nsite]
      ·split at hc
       ·injection hc with hc;subst hc;simp[nsite]
       ·cases hc
      ·cases hc
     obtain⟨vr,w1,h1,h2⟩:=ZKq (ty:=o.type) TT R hb (Z4 T hx) (Z4 T hy) (hsite hns) h
     exact Xp ⟨vr,w1,by simp[resolve,invoke,builtin,h1],h2⟩
    split at hc
    ·rename_i e' hu2
     injection hc with hc;subst hc
     simp only[execI]at h
     exact fin ⟨hu,Xp ⟨e',hu2⟩,hi,hvz,hzs,by omega,by omega⟩ h
    ·rename_i hu2
     split at hc
     ·injection hc with hc;subst hc
      simp only[execI]at h
      exact fin ⟨hu,Xt hu2,hi,hvz,hzs,by omega,by omega⟩ h
     ·cases hc
    ·cases hc
   ·cases hc
  ·cases hc
 ·refine Xp ?_
  split at hc
  ·rename_i t x hty
   have hargs2:∃ ox,cargs=#[ox]/\Z9 ox=some x:=by
    obtain⟨l⟩:=cargs
    match l,hargs with
    | [],hargs=>simp[ZcW]at hargs
    | [ox],hargs =>
     simp only[ZcW]at hargs
     split at hargs
     ·rename_i x1 hx1
      simp only[Xa,XaO,and_true]at hargs
      subst hargs
      exact⟨ox,rfl,hx1⟩
     ·cases hargs
    |ox::oy::r,hargs =>
     have:=Zae hav
     simp at this
   obtain⟨ox,rfl,hx⟩:=hargs2
   have htys:ctypes=#[t]:=by
    obtain⟨l⟩:=ctypes
    simpa using hty
   subst htys
   have hx':=Z4 T hx
   split at hc
   ·rename_i e hu
    injection hc with hc;subst hc
    simp only[execI]at h
    split at h
    ·rename_i b xs hh
     rw[hh]at hx';simp only[VR]at hx'
     obtain⟨A,cap,hv,_⟩:=hx'
     simp only[Xa,Xc]at h
     obtain⟨rfl,rfl,rfl⟩:=h
     refine Xp ⟨.int .i64 xs.length,w,?_,Post.here R (by simp only[VR])⟩
     simp[resolve,invoke,builtin,hv,Builtin.len_,run_underlying hu,goInt]
    ·rename_i t' g lo n hh
     rw[hh]at hx';simp only[VR]at hx'
     obtain⟨bi,_,hle,_,hv⟩:=hx'
     simp only[Xa,Xc]at h
     obtain⟨rfl,rfl,rfl⟩:=h
     refine Xp ⟨.int .i64 n,w,?_,Post.here R (by simp only[VR])⟩
     rcases hv with⟨b,_,hv⟩ |⟨_,hc0,A,hv⟩ |⟨_,_,hn0,A,hv⟩
     ·simp[resolve,invoke,builtin,hv,Builtin.len_,run_underlying hu,goInt]
     ·have : n=0:=by omega
      subst this
      simp[resolve,invoke,builtin,hv,Builtin.len_,run_underlying hu,goInt]
     ·subst hn0
      simp[resolve,invoke,builtin,hv,Builtin.len_,run_underlying hu,goInt]
    ·cases h
   ·rename_i hu
    injection hc with hc;subst hc
    simp only[execI]at h
    split at h
    ·rename_i l hh
     rw[hh]at hx';simp only[VR]at hx'
     simp only[Xa,Xc]at h
     obtain⟨rfl,rfl,rfl⟩:=h
     refine Xp ⟨.int .i64 l.length,w,?_,Post.here R (by simp only[VR])⟩
     have hsz:WM ⟨l.toArray⟩=l.length:=by simp[WM]
     simp[resolve,invoke,builtin,hx'.1,Builtin.len_,run_underlying hu,goInt,hsz]
    ·cases h
   ·rename_i kt et hu
    injection hc with hc;subst hc
    simp only[execI]at h
    obtain⟨rfl,u,h1,h2⟩:=ZEJ R hu o.type hx' h
    exact Xp ⟨u,w,by simp[resolve,invoke,builtin,h1],Post.here R h2⟩
   ·cases hc
  ·cases hc
 ·refine Xp ?_
  split at hc
  ·rename_i t ts x y hty
   split at hc
   case h_2=>cases hc
   rename_i kc zv hmp
   injection hc with hc;subst hc
   obtain⟨kt,et,d,ht,hdk,hd,hz⟩:=ZlI hmp
   have hargs2:∃ ox oy,cargs=#[ox,oy]/\Z9 ox=some x/\Z9 oy=some y:=by
    obtain⟨l⟩:=cargs
    match l,hargs with
    | [],hargs=>simp[ZcW]at hargs
    | [ox],hargs =>
     simp only[ZcW]at hargs
     split at hargs
     ·simp at hargs
     ·cases hargs
    | [ox,oy],hargs =>
     simp only[ZcW]at hargs
     split at hargs
     ·rename_i x1 hx1
      split at hargs
      ·rename_i l2 hl2
       split at hl2
       ·rename_i y1 hy1
        simp only[Xa]at hl2 hargs
        subst hl2
        simp only[XaO,and_true]at hargs
        obtain⟨rfl,rfl⟩:=hargs
        exact⟨ox,oy,rfl,hx1,hy1⟩
       ·cases hl2
      ·cases hargs
     ·cases hargs
    |ox::oy::oz::r,hargs=>have:=Zae hav;simp at this
   obtain⟨ox,oy,rfl,hx,hy⟩:=hargs2
   have htys:ctypes=(t::ts).toArray:=by
    obtain⟨l⟩:=ctypes
    simpa using hty
   subst htys
   simp only[execI]at h
   obtain⟨w',h1,rfl,h2⟩:=ZSu R ht hdk hd ts o.type (Z4 T hx) (Z4 T hy) h
   exact Xp ⟨.tuple #[],w',by simp[resolve,invoke,builtin,h1],Post.here h2 ZhU⟩
  ·cases hc
 ·refine Xp ?_
  split at hc
  ·rename_i t x hty
   have hargs2:∃ ox,cargs=#[ox]/\Z9 ox=some x:=by
    obtain⟨l⟩:=cargs
    match l,hargs with
    | [],hargs=>simp[ZcW]at hargs
    | [ox],hargs =>
     simp only[ZcW]at hargs
     split at hargs
     ·rename_i x1 hx1
      simp only[Xa,XaO,and_true]at hargs
      subst hargs
      exact⟨ox,rfl,hx1⟩
     ·cases hargs
    |ox::oy::r,hargs =>
     have:=Zae hav
     simp at this
   obtain⟨ox,rfl,hx⟩:=hargs2
   have htys:ctypes=#[t]:=by
    obtain⟨l⟩:=ctypes
    simpa using hty
   subst htys
   split at hc
   ·rename_i k bytes z he
    injection hc with hc;subst hc
    simp only[execI]at h
    obtain⟨vr,w1,h1,h2⟩:=ZIq (ty:=o.type) R he (Z4 T hx) h
    exact Xp ⟨vr,w1,by simp[resolve,invoke,builtin,h1],h2⟩
   ·cases hc
  ·cases hc
 ·refine Xp ?_
  split at hc
  ·rename_i hl2
   injection hc with hc;subst hc
   simp only[execI]at h
   split at h
   ·rename_i k p k' q hh
    rw[hh]at hav
    simp only[VRs,VR]at hav
    obtain⟨v1,vs1,e1,rfl,v2,vs2,rfl,rfl,rfl⟩:=hav
    simp only[Xa,Xc]at h
    obtain⟨rfl,rfl,rfl⟩:=h
    have hca:cargs.map a.eval=#[.int k p,.int k' q]:=by
     apply Xbr
     simpa using e1
    refine Xp ⟨_,w,?_,Post.here R (by simp only[VR];rfl)⟩
    simp[resolve,invoke,builtin,hca,Builtin.max_,Builtin.max2]
   ·cases h
  ·cases hc
 ·refine Xp ?_
  split at hc
  ·rename_i hl2
   injection hc with hc;subst hc
   simp only[execI]at h
   split at h
   ·rename_i k p k' q hh
    rw[hh]at hav
    simp only[VRs,VR]at hav
    obtain⟨v1,vs1,e1,rfl,v2,vs2,rfl,rfl,rfl⟩:=hav
    simp only[Xa,Xc]at h
    obtain⟨rfl,rfl,rfl⟩:=h
    have hca:cargs.map a.eval=#[.int k p,.int k' q]:=by
     apply Xbr
     simpa using e1
    refine Xp ⟨_,w,?_,Post.here R (by simp only[VR];rfl)⟩
    simp[resolve,invoke,builtin,hca,Builtin.min_,Builtin.min2]
   ·cases h
  ·cases hc
 ·cases hc
theorem ZNK{O:ZJ}(hO:Zar P O){bf:Nat->Bool}{an:Ann}{a:Act}{o:Oper}{own:Nat}{ins:Ins}(hc:ZU P an own o.op=some ins)(T:TR I β tm a.tmps)(R:Rel base w0 I0 I β σ w)(hb:KLt base w0)
  {sq:Nat} (hsite:nsite ins≠0->σ[sq]?=some .free) {v:AVal} {c:Cls} (h:execI O bf tm σ sq ins=some (v,σ',c)):OpR P (execOp a.eval o) w base w0 I0 I β v σ':=by
 cases ho:o.op<;>rw[ho]at hc<;>first
  |exact Xp (ZMe hO _ ho hc T R hb hsite h)
  |exact Xp (ZOw hO _ ho hc T R hb hsite h)
  |exact Xp (ZAu hO _ _ _ ho hc T R hb hsite h)
  |exact Xp (ZPF hO _ ho hc T R hb hsite h)
  |exact Xp (ZIM hO _ _ ho hc T R hb hsite h)
  |exact Xp (ZQz hO _ _ ho hc T R hb hsite h)
  |exact Xp (ZPR hO _ _ _ ho hc T R hb hsite h)
  |exact Xp (ZK0 hO _ _ ho hc T R hb hsite h)
  |exact Xp (ZPd hO _ _ _ ho hc T R hb hsite h)
  |exact Xp (ZAF hO _ ho hc T R hb hsite h)
  |exact Xp (ZNS hO _ _ _ _ _ ho hc T R hb hsite h)
  |exact Xp (ZCY hO _ _ _ ho hc T R hb hsite h)
  |exact Xp (ZOV hO _ _ _ ho hc T R hb hsite h)
  |exact Xp (ZRg hO _ _ _ _ _ ho hc T R hb hsite h)
  |exact Xp (ZC4 hO _ _ _ ho hc T R hb hsite h)
  |exact Xp (ZGh hO _ _ _ ho hc T R hb hsite h)
  |exact Xp (ZCC hO _ _ _ ho hc T R hb hsite h)
  |exact Xp (ZLW hO _ _ _ ho hc T R hb hsite h)
  |exact Xp (ZFf hO _ _ ho hc T R hb hsite h)
  |exact Xp (ZRy hO _ _ _ ho hc T R hb hsite h)
  |exact Xp (ZQ7 hO _ _ _ ho hc T R hb hsite h)
  |exact Xp (ZIm hO _ _ ho hc T R hb hsite h)
  |exact ZJX hO _ ho hc T R hb hsite h
  |exact Xp (ZOG hO _ _ ho hc T R hb hsite h)
  |exact Xp (ZOF hO _ _ ho hc T R hb hsite h)
  |exact Xp (ZSB hO _ _ ho hc T R hb hsite h)
  |exact Xp (ZSC hO _ _ _ _ ho hc T R hb hsite h)
  |exact Xp (ZzZ hO _ _ _ _ ho hc T R hb hsite h)
  |exact Xp (ZG0 hO _ _ _ _ ho hc T R hb hsite h)
  |exact ZRx hO _ ho hc T R hb hsite h
  |(simp only[ZU]at hc;cases hc;done)
end
end
section
open Go.RowKit
section
variable {O:ZJ}{bf:Nat->Bool}{tm tm':Tms}{σ σ' σ2:Za}{sq:Nat}
theorem Opd.ev_congr{x:Opd}(h:∀ n∈x.reads,tget tm n=tget tm' n):x.ev tm=x.ev tm':=by
 cases x with
 |t n=>exact h n (by simp[Opd.reads])
 |c v=>rfl
theorem ZlK{xs:List Opd}(h:∀ n∈xs.flatMap Opd.reads,tget tm n=tget tm' n):(xs.map fun x=>x.ev tm)=xs.map fun x=>x.ev tm':=by
 apply XaH
 intro x hx
 exact Opd.ev_congr fun n hn=>h n (Wi.2 ⟨x,hx,hn⟩)
theorem Zi5{x:Option Opd}(h:∀ n∈Zh3 x,tget tm n=tget tm' n):(x.map fun x=>x.ev tm)=x.map fun x=>x.ev tm':=by
 cases x with
 |none=>rfl
 |some x=>simp only[XT];rw[Opd.ev_congr (x:=x) h]
theorem Zgh{ins:Ins}(h:∀ n∈ins.reads,tget tm n=tget tm' n):execI O bf tm σ sq ins=execI O bf tm' σ sq ins:=by
 cases ins with
 |alloc zs=>rfl
 |build zs ps =>
  have : (ps.map fun p=>(p.1,p.2.1,p.2.2.ev tm))=ps.map fun p=>(p.1,p.2.1,p.2.2.ev tm'):=by
   apply XaH
   intro p hp
   rw[Opd.ev_congr (x:=p.2.2) fun n hn=>h n (by simp only[Ins.reads];exact Wi.2 ⟨p,hp,hn⟩)]
  simp only[execI,this]
 |bslice own k n z ps =>
  have : (ps.map fun p=>p.2.ev tm)=ps.map fun p=>p.2.ev tm':=by
   apply XaH
   intro p hp
   rw[Opd.ev_congr (x:=p.2) fun n hn=>h n (by simp only[Ins.reads];exact Wi.2 ⟨p,hp,hn⟩)]
  simp only[execI,this]
 |rslice k n z ps =>
  have h0:∀ p∈ps,p.2.ev tm=p.2.ev tm':=fun p hp=>Opd.ev_congr (x:=p.2) fun n hn=>h n (by simp only[Ins.reads];exact Wi.2 ⟨p,hp,hn⟩)
  have h1:(ps.map fun p=>(p.1,p.2.ev tm))=ps.map fun p=>(p.1,p.2.ev tm'):=XaH fun p hp=>by rw[h0 p hp]
  have h2:(ps.all fun p=>(p.2.ev tm).cells.length==k&&(p.2.ev tm).cells.all Z7)=ps.all fun p=>(p.2.ev tm').cells.length==k&&(p.2.ev tm').cells.all Z7:=by
   rw[Bool.eq_iff_iff,XF,XF]
   exact⟨fun h p hp=>by rw[<-h0 p hp];exact h p hp,fun h p hp=>by rw[h0 p hp];exact h p hp⟩
  simp only[execI,h1,h2]
 |rng x=>simp only[execI,Opd.ev_congr (x:=x) h]
 |nxt x=>simp only[execI,Opd.ev_congr (x:=x) h]
 |mkmap=>rfl
 |mkgmap k=>rfl
 |glook kc z x y=>simp only[Ins.reads,Xs]at h;simp only[execI,Opd.ev_congr (x:=x) fun n hn=>h n (Xp hn),Opd.ev_congr (x:=y) fun n hn=>h n (Xt hn)]
 |mkbook x=>simp only[execI,Opd.ev_congr (x:=x) h]
 |mkrow x k=>simp only[execI,Opd.ev_congr (x:=x) h]
 |mlen x=>simp only[execI,Opd.ev_congr (x:=x) h]
 |look kc z ok x y=>simp only[Ins.reads,Xs]at h;simp only[execI,Opd.ev_congr (x:=x) fun n hn=>h n (Xp hn),Opd.ev_congr (x:=y) fun n hn=>h n (Xt hn)]
 |mdel kc x y=>simp only[Ins.reads,Xs]at h;simp only[execI,Opd.ev_congr (x:=x) fun n hn=>h n (Xp hn),Opd.ev_congr (x:=y) fun n hn=>h n (Xt hn)]
 |mset kc x y z =>
  simp only[Ins.reads,Xs]at h
  simp only[execI,Opd.ev_congr (x:=x) fun n hn=>h n (Xp (Xp hn)),Opd.ev_congr (x:=y) fun n hn=>h n (Xp (Xt hn)),Opd.ev_congr (x:=z) fun n hn=>h n (Xt hn)]
 |mov x=>simp only[execI,Opd.ev_congr (x:=x) h]
 |box x=>simp only[execI,Opd.ev_congr (x:=x) h]
 |un op x=>simp only[execI,Opd.ev_congr (x:=x) h]
 |i2i k x=>simp only[execI,Opd.ev_congr (x:=x) h]
 |i2s x=>simp only[execI,Opd.ev_congr (x:=x) h]
 |clr k z x=>simp only[execI,Opd.ev_congr (x:=x) h]
 |same x=>simp only[execI,Opd.ev_congr (x:=x) h]
 |s2b x=>simp only[execI,Opd.ev_congr (x:=x) h]
 |b2s x=>simp only[execI,Opd.ev_congr (x:=x) h]
 |s2s x=>simp only[execI,Opd.ev_congr (x:=x) h]
 |faddr o x=>simp only[execI,Opd.ev_congr (x:=x) h]
 |field k o x=>simp only[execI,Opd.ev_congr (x:=x) h]
 |ext x i=>simp only[execI,Opd.ev_congr (x:=x) h]
 |len x=>simp only[execI,Opd.ev_congr (x:=x) h]
 |slen x=>simp only[execI,Opd.ev_congr (x:=x) h]
 |nilchk x=>simp only[execI,Opd.ev_congr (x:=x) h]
 |mki t x=>simp only[execI,Opd.ev_congr (x:=x) h]
 |panic x=>simp only[execI,Opd.ev_congr (x:=x) h]
 |ld k x=>simp only[execI,Opd.ev_congr (x:=x) h]
 |pick c a b =>
  simp only[Ins.reads,Xs]at h
  simp only[execI,Opd.ev_congr (x:=c) fun n hn=>h n (Xp (Xp hn)),Opd.ev_congr (x:=a) fun n hn=>h n (Xp (Xt hn)),Opd.ev_congr (x:=b) fun n hn=>h n (Xt hn)]
 |st k x y=>simp only[Ins.reads,Xs]at h;simp only[execI,Opd.ev_congr (x:=x) fun n hn=>h n (Xp hn),Opd.ev_congr (x:=y) fun n hn=>h n (Xt hn)]
 |bin k x y=>simp only[Ins.reads,Xs]at h;simp only[execI,Opd.ev_congr (x:=x) fun n hn=>h n (Xp hn),Opd.ev_congr (x:=y) fun n hn=>h n (Xt hn)]
 |iaddr k x y=>simp only[Ins.reads,Xs]at h;simp only[execI,Opd.ev_congr (x:=x) fun n hn=>h n (Xp hn),Opd.ev_congr (x:=y) fun n hn=>h n (Xt hn)]
 |aaddr k n x y=>simp only[Ins.reads,Xs]at h;simp only[execI,Opd.ev_congr (x:=x) fun n hn=>h n (Xp hn),Opd.ev_congr (x:=y) fun n hn=>h n (Xt hn)]
 |sindex x y=>simp only[Ins.reads,Xs]at h;simp only[execI,Opd.ev_congr (x:=x) fun n hn=>h n (Xp hn),Opd.ev_congr (x:=y) fun n hn=>h n (Xt hn)]
 |aindex s k n x y=>simp only[Ins.reads,Xs]at h;simp only[execI,Opd.ev_congr (x:=x) fun n hn=>h n (Xp hn),Opd.ev_congr (x:=y) fun n hn=>h n (Xt hn)]
 |app k b z x y=>simp only[Ins.reads,Xs]at h;simp only[execI,Opd.ev_congr (x:=x) fun n hn=>h n (Xp hn),Opd.ev_congr (x:=y) fun n hn=>h n (Xt hn)]
 |mkslice k b z x y=>simp only[Ins.reads,Xs]at h;simp only[execI,Opd.ev_congr (x:=x) fun n hn=>h n (Xp hn),Opd.ev_congr (x:=y) fun n hn=>h n (Xt hn)]
 |beq k x y=>simp only[Ins.reads,Xs]at h;simp only[execI,Opd.ev_congr (x:=x) fun n hn=>h n (Xp hn),Opd.ev_congr (x:=y) fun n hn=>h n (Xt hn)]
 |peq k x y=>simp only[Ins.reads,Xs]at h;simp only[execI,Opd.ev_congr (x:=x) fun n hn=>h n (Xp hn),Opd.ev_congr (x:=y) fun n hn=>h n (Xt hn)]
 |eqv k ks x y=>simp only[Ins.reads,Xs]at h;simp only[execI,Opd.ev_congr (x:=x) fun n hn=>h n (Xp hn),Opd.ev_congr (x:=y) fun n hn=>h n (Xt hn)]
 |ieq k x y=>simp only[Ins.reads,Xs]at h;simp only[execI,Opd.ev_congr (x:=x) fun n hn=>h n (Xp hn),Opd.ev_congr (x:=y) fun n hn=>h n (Xt hn)]
 |slice k x lo hi mx =>
  simp only[Ins.reads,Xs]at h
  simp only[execI,Opd.ev_congr (x:=x) fun n hn=>h n (Xp (Xp (Xp hn))),Zi5 (x:=lo) fun n hn=>h n (Xp (Xp (Xt hn))),Zi5 (x:=hi) fun n hn=>h n (Xp (Xt hn)),Zi5 (x:=mx) fun n hn=>h n (Xt hn)]
 |sslice x lo hi =>
  simp only[Ins.reads,Xs]at h
  simp only[execI,Opd.ev_congr (x:=x) fun n hn=>h n (Xp (Xp hn)),Zi5 (x:=lo) fun n hn=>h n (Xp (Xt hn)),Zi5 (x:=hi) fun n hn=>h n (Xt hn)]
 |mm m xs=>simp only[Ins.reads]at h;simp only[execI,ZlK h]
 |call f own vw xs=>simp only[Ins.reads]at h;simp only[execI,ZlK h]
 |mkfn f xs=>simp only[Ins.reads]at h;simp only[execI,ZlK h]
 |callv x xs =>
  simp only[Ins.reads,Xs]at h
  simp only[execI,Opd.ev_congr (x:=x) fun n hn=>h n (Xp hn),ZlK (xs:=xs) fun n hn=>h n (Xt hn)]
def Agree(σ σ2:Za)(ts:List Nat):Prop:=∀ t∈ts,σ2[t]?=σ[t]?
theorem Agree.left{ts us:List Nat}(h:Agree σ σ2 (ts++us)):Agree σ σ2 ts:=fun t ht=>h t (by simp[ht])
theorem Agree.right{ts us:List Nat}(h:Agree σ σ2 (ts++us)):Agree σ σ2 us:=fun t ht=>h t (by simp[ht])
theorem Zhe{a:AVal}{xs:List AVal}{ts:List Nat}(h:Zq σ a=some (xs,ts))(hA:Agree σ σ2 ts):Zq σ2 a=some (xs,ts):=by
 unfold Zq at h⊢
 split at h
 ·exact h
 ·exact h
 ·rename_i t g lo n
  have ht:t∈ts:=by
   split at h
   ·split at h
    ·simp only[Xa,Xc]at h;rw[<-h.2];simp
    ·cases h
   ·split at h
    ·simp only[Xa,Xc]at h;rw[<-h.2];simp
    ·cases h
   ·cases h
  rw[hA t ht]
  exact h
 ·cases h
theorem ZyV{a y:AVal}{ts:List Nat}(h:Zs σ a=some (y,ts))(hA:Agree σ σ2 ts):Zs σ2 a=some (y,ts):=by
 unfold Zs at h⊢
 split at h
 case h_2 =>
  split at h
  ·rename_i he
   simp only[Xa,Xc]at h
   obtain⟨rfl,rfl⟩:=h
   rw[Zhe he hA]
  ·cases h
 all_goals exact h
theorem Zyy:∀ {cs ys:List AVal} {ts:List Nat},Zao σ cs=some (ys,ts)->Agree σ σ2 ts->Zao σ2 cs=some (ys,ts)
 | [],ys,ts,h,_=>h
 |c::cs,ys,ts,h,hA=>by
  simp only[Zao]at h⊢
  split at h
  ·rename_i h1
   split at h
   ·rename_i h2
    simp only[Xa,Xc]at h
    obtain⟨rfl,rfl⟩:=h
    rw[ZyV h1 hA.left]
    simp only
    rw[Zyy h2 hA.right]
   ·cases h
  ·cases h
theorem ZEQ{a y:AVal}{ts:List Nat}(h:Zv σ a=some (y,ts))(hA:Agree σ σ2 ts):Zv σ2 a=some (y,ts):=by
 unfold Zv at h⊢
 split at h
 ·split at h
  ·rename_i h1
   simp only[Xa,Xc]at h
   obtain⟨rfl,rfl⟩:=h
   rw[Zyy h1 hA]
  ·cases h
 ·exact ZyV h hA
theorem ZqG:∀ {cs ys:List AVal} {ts:List Nat},viewAs σ cs=some (ys,ts)->Agree σ σ2 ts->viewAs σ2 cs=some (ys,ts)
 | [],ys,ts,h,_=>h
 |c::cs,ys,ts,h,hA=>by
  simp only[viewAs]at h⊢
  split at h
  ·rename_i h1
   split at h
   ·rename_i h2
    simp only[Xa,Xc]at h
    obtain⟨rfl,rfl⟩:=h
    rw[ZEQ h1 hA.left]
    simp only
    rw[ZqG h2 hA.right]
   ·cases h
  ·cases h
theorem ZzK{a y:AVal}{ts:List Nat}(h:ZbX σ a=some (y,ts))(hA:Agree σ σ2 ts):ZbX σ2 a=some (y,ts):=by
 unfold ZbX at h⊢
 split at h
 case h_2 =>
  split at h
  ·rename_i he
   simp only[Xa,Xc]at h
   obtain⟨rfl,rfl⟩:=h
   rw[Zhe he hA]
  ·cases h
 all_goals exact h
theorem ZxC:∀ {cs ys:List AVal} {ts:List Nat},Zcr σ cs=some (ys,ts)->Agree σ σ2 ts->Zcr σ2 cs=some (ys,ts)
 | [],ys,ts,h,_=>h
 |c::cs,ys,ts,h,hA=>by
  simp only[Zcr]at h⊢
  split at h
  ·rename_i h1
   split at h
   ·rename_i h2
    simp only[Xa,Xc]at h
    obtain⟨rfl,rfl⟩:=h
    rw[ZzK h1 hA.left]
    simp only
    rw[ZxC h2 hA.right]
   ·cases h
  ·cases h
theorem ZCe{a y:AVal}{ts:List Nat}(h:showA σ a=some (y,ts))(hA:Agree σ σ2 ts):showA σ2 a=some (y,ts):=by
 unfold showA at h⊢
 split at h
 ·split at h
  ·rename_i h1
   simp only[Xa,Xc]at h
   obtain⟨rfl,rfl⟩:=h
   rw[ZxC h1 hA]
  ·cases h
 ·exact ZzK h hA
theorem Zq5:∀ {cs ys:List AVal} {ts:List Nat},showAs σ cs=some (ys,ts)->Agree σ σ2 ts->showAs σ2 cs=some (ys,ts)
 | [],ys,ts,h,_=>h
 |c::cs,ys,ts,h,hA=>by
  simp only[showAs]at h⊢
  split at h
  ·rename_i h1
   split at h
   ·rename_i h2
    simp only[Xa,Xc]at h
    obtain⟨rfl,rfl⟩:=h
    rw[ZCe h1 hA.left]
    simp only
    rw[Zq5 h2 hA.right]
   ·cases h
  ·cases h
def ZaB(σ:Za)(s:Nat):Option Zx->Za
 |none=>σ
 |some b=>σ.set s b
def ZeC(σ:Za)(ts:List Nat):Prop:=∀ t∈ts,∃ x,σ[t]?=some x/\x≠.free
theorem Rowy.nonfree{ts:List Nat}(h:Rowy σ ts):ZeC σ ts:=by
 intro t ht
 obtain⟨g,k,xs,h |h⟩:=h t ht
 ·exact⟨_,h,by simp⟩
 ·exact⟨_,h,by simp⟩
theorem Zdu:ZeC σ []:=fun t ht=>by simp at ht
theorem Zrd{t:Nat}{x:Zx}(h:σ[t]?=some x)(hx:x≠.free):ZeC σ [t]:=fun t' ht=>by
 simp at ht;subst ht;exact⟨x,h,hx⟩
def Framed(f:Za->Option (AVal×Za×Cls))(σ:Za)(sq ns:Nat)(v:AVal)(σ':Za)(c:Cls):Prop :=
 ∃ ob,σ'=ZaB σ sq ob/\(ob.isSome=true->ns≠0)/\ob≠some .free/\ZeC σ c.rd/\∀ σ2,Agree σ σ2 c.rd->f σ2=some (v,ZaB σ2 sq ob,c)
theorem Framed.pure{f:Za->Option (AVal×Za×Cls)}{v:AVal}{c:Cls}{ns:Nat}(hr:c.rd=[])(hf:∀ σ2,f σ2=some (v,σ2,c)):Framed f σ sq ns v σ c :=
 ⟨none,rfl,by simp,by simp,by rw[hr];exact Zdu,fun σ2 _=>hf σ2⟩
theorem Zg5{t:Nat}(h:σ2[t]?=σ[t]?):Zbn σ2 t=Zbn σ t:=by unfold Zbn;rw[h]
theorem ZjY{t:Nat}{ns:Zbg}(h:Zbn σ t=some ns):∃ x,σ[t]?=some x/\x≠.free:=by
 unfold Zbn at h
 split at h
 ·rename_i e;exact⟨_,e,by simp⟩
 ·rename_i e;exact⟨_,e,by simp⟩
 ·cases h
theorem ZQP{kc:Nat}{z:AVal}{ok:Bool}{m k v:AVal}{c:Cls}{ns:Nat}(h:ZdG σ kc z ok m k=some (v,σ',c)):Framed (fun σ=>ZdG σ kc z ok m k) σ sq ns v σ' c:=by
 unfold ZdG at h
 split at h
 case isFalse=>cases h
 rename_i hk
 split at h
 ·simp only[Xa,Xc]at h
  obtain⟨rfl,rfl,rfl⟩:=h
  exact Framed.pure rfl fun σ2=>by simp only[ZdG];rw[if_pos hk]
 ·rename_i t j nx
  split at h
  case h_2=>cases h
  rename_i ns hns
  obtain⟨x,hx,hxf⟩:=ZjY hns
  have hnf:ZeC σ [t]:=fun u hu=>by rw[XM]at hu;subst hu;exact⟨x,hx,hxf⟩
  split at h
  case h_2=>cases h
  rename_i nd hj
  split at h
  ·rename_i y hf
   simp only[Xa,Xc]at h
   obtain⟨rfl,rfl,rfl⟩:=h
   refine⟨none,rfl,by simp,by simp,hnf,fun σ2 hA=>?_⟩
   have e2:=Zg5 (hA t (by simp))
   simp only[ZdG,e2,hns,hj,hf,ZaB]
   rw[if_pos hk]
  ·rename_i hf
   simp only[Xa,Xc]at h
   obtain⟨rfl,rfl,rfl⟩:=h
   refine⟨none,rfl,by simp,by simp,hnf,fun σ2 hA=>?_⟩
   have e2:=Zg5 (hA t (by simp))
   simp only[ZdG,e2,hns,hj,hf,ZaB]
   rw[if_pos hk]
  ·cases h
 ·rename_i t
  split at h
  ·rename_i es hs
   have hnf:ZeC σ [t]:=fun u hu=>by rw[XM]at hu;subst hu;exact⟨_,hs,by simp⟩
   split at h
   ·rename_i j y hf
    simp only[Xa,Xc]at h
    obtain⟨rfl,rfl,rfl⟩:=h
    refine⟨none,rfl,by simp,by simp,hnf,fun σ2 hA=>?_⟩
    have e2:σ2[t]?=some (.map es):=by rw[hA t (by simp)];exact hs
    simp only[ZdG,e2,hf,ZaB]
    rw[if_pos hk]
   ·rename_i hf
    simp only[Xa,Xc]at h
    obtain⟨rfl,rfl,rfl⟩:=h
    refine⟨none,rfl,by simp,by simp,hnf,fun σ2 hA=>?_⟩
    have e2:σ2[t]?=some (.map es):=by rw[hA t (by simp)];exact hs
    simp only[ZdG,e2,hf,ZaB]
    rw[if_pos hk]
   ·cases h
  ·rename_i es hs
   have hnf:ZeC σ [t]:=fun u hu=>by rw[XM]at hu;subst hu;exact⟨_,hs,by simp⟩
   split at h
   ·rename_i j y hf
    simp only[Xa,Xc]at h
    obtain⟨rfl,rfl,rfl⟩:=h
    refine⟨none,rfl,by simp,by simp,hnf,fun σ2 hA=>?_⟩
    have e2:σ2[t]?=some (.rmap es):=by rw[hA t (by simp)];exact hs
    simp only[ZdG,e2,hf,ZaB]
    rw[if_pos hk]
   ·rename_i hf
    simp only[Xa,Xc]at h
    obtain⟨rfl,rfl,rfl⟩:=h
    refine⟨none,rfl,by simp,by simp,hnf,fun σ2 hA=>?_⟩
    have e2:σ2[t]?=some (.rmap es):=by rw[hA t (by simp)];exact hs
    simp only[ZdG,e2,hf,ZaB]
    rw[if_pos hk]
   ·cases h
  ·cases h
 ·cases h
theorem ZBS{m v:AVal}{c:Cls}{ns:Nat}(h:Zfq σ m=some (v,σ',c)):Framed (fun σ=>Zfq σ m) σ sq ns v σ' c:=by
 unfold Zfq at h
 split at h
 ·simp only[Xa,Xc]at h
  obtain⟨rfl,rfl,rfl⟩:=h
  exact Framed.pure rfl fun σ2=>rfl
 ·rename_i t j nx
  split at h
  case h_2=>cases h
  rename_i ns hns
  obtain⟨x,hx,hxf⟩:=ZjY hns
  split at h
  case h_2=>cases h
  rename_i nd hj
  simp only[Xa,Xc]at h
  obtain⟨rfl,rfl,rfl⟩:=h
  refine⟨none,rfl,by simp,by simp,fun u hu=>by rw[XM]at hu;subst hu;exact⟨x,hx,hxf⟩,fun σ2 hA=>?_⟩
  have e2:=Zg5 (hA t (by simp))
  simp only[Zfq,e2,hns,hj,ZaB]
 ·rename_i t
  split at h
  ·rename_i es hs
   simp only[Xa,Xc]at h
   obtain⟨rfl,rfl,rfl⟩:=h
   refine⟨none,rfl,by simp,by simp,fun u hu=>by rw[XM]at hu;subst hu;exact⟨_,hs,by simp⟩,fun σ2 hA=>?_⟩
   have e2:σ2[t]?=some (.map es):=by rw[hA t (by simp)];exact hs
   simp only[Zfq,e2,ZaB]
  ·rename_i es hs
   simp only[Xa,Xc]at h
   obtain⟨rfl,rfl,rfl⟩:=h
   refine⟨none,rfl,by simp,by simp,fun u hu=>by rw[XM]at hu;subst hu;exact⟨_,hs,by simp⟩,fun σ2 hA=>?_⟩
   have e2:σ2[t]?=some (.rmap es):=by rw[hA t (by simp)];exact hs
   simp only[Zfq,e2,ZaB]
  ·cases h
 ·cases h
theorem ZB0{k:Option Nat}{a v:AVal}{c:Cls}{ns:Nat}(h:ldA σ k a=some (v,σ',c)):Framed (fun σ=>ldA σ k a) σ sq ns v σ' c:=by
 have h0:=h
 unfold ldA at h
 have fin:∀ t,σ'=σ->c.rd=[t]->(∃ x,σ[t]?=some x/\x≠.free)->(∀ σ2:Za,σ2[t]?=σ[t]?->ldA σ2 k a=(ldA σ k a).map fun p=>(p.1,σ2,p.2.2))->Framed (fun σ=>ldA σ k a) σ sq ns v σ' c:=by
  intro t e1 e2 ⟨x,hx,hne⟩ hf
  subst e1
  refine⟨none,rfl,by simp,by simp,by rw[e2];exact Zrd hx hne,fun σ2 hA=>?_⟩
  rw[e2]at hA
  simp only
  rw[hf σ2 (hA t (by simp)),h0]
  rfl
 split at h
 ·rename_i t o
  split at h
  ·rename_i cs hs
   split at h
   ·rename_i v' hp
    simp only[Xa,Xc]at h
    obtain⟨rfl,rfl,rfl⟩:=h
    exact fin t rfl rfl ⟨_,hs,by simp⟩ (fun σ2 h2=>by simp only[ldA,h2,hs,hp,XT])
   ·cases h
  ·cases h
 ·rename_i t g i o
  split at h
  ·rename_i g' kk xs hs
   split at h
   ·rename_i e
    split at h
    ·rename_i x hx
     split at h
     ·rename_i v' hp
      simp only[Xa,Xc]at h
      obtain⟨rfl,rfl,rfl⟩:=h
      exact fin t rfl rfl ⟨_,hs,by simp⟩ (fun σ2 h2=>by simp only[ldA,h2,hs,e,if_true,hx,hp,XT])
     ·cases h
    ·cases h
   ·cases h
  ·rename_i g' kk xs hs
   split at h
   ·rename_i e
    split at h
    ·rename_i x hx
     split at h
     ·rename_i v' hp
      simp only[Xa,Xc]at h
      obtain⟨rfl,rfl,rfl⟩:=h
      exact fin t rfl rfl ⟨_,hs,by simp⟩ (fun σ2 h2=>by simp only[ldA,h2,hs,e,if_true,hx,hp,XT])
     ·cases h
    ·cases h
   ·cases h
  ·rename_i g' kk xs hs
   split at h
   ·rename_i e
    split at h
    ·rename_i x hx
     split at h
     ·rename_i v' hp
      simp only[Xa,Xc]at h
      obtain⟨rfl,rfl,rfl⟩:=h
      exact fin t rfl rfl ⟨_,hs,by simp⟩ (fun σ2 h2=>by simp only[ldA,h2,hs,e,if_true,hx,hp,XT])
     ·cases h
    ·cases h
   ·cases h
  ·cases h
 ·rename_i cs o
  split at h
  ·rename_i v' hp
   simp only[Xa,Xc]at h
   obtain⟨rfl,rfl,rfl⟩:=h
   exact Framed.pure rfl (fun σ2=>by simp only[ldA,hp])
  ·cases h
 ·rename_i t j o
  split at h
  ·rename_i ns hns
   split at h
   ·rename_i nd hj
    split at h
    ·rename_i ho
     simp only[Xa,Xc]at h
     obtain⟨rfl,rfl,rfl⟩:=h
     exact fin t rfl rfl (ZjY hns) (fun σ2 h2=>by simp only[ldA,Zg5 h2,hns,hj,ho,if_true,XT])
    ·cases h
   ·cases h
  ·cases h
 ·cases h
theorem ZS2{k:Nat}{x i v:AVal}{c:Cls}{ns:Nat}(h:Zct σ k x i=some (v,σ',c)):Framed (fun σ=>Zct σ k x i) σ sq ns v σ' c:=by
 have h0:=h
 unfold Zct at h
 split at h
 case h_2=>cases h
 rename_i kk ii
 split at h
 case isFalse=>cases h
 rename_i hi
 split at h
 ·rename_i b xs
  split at h
  ·rename_i y hy
   split at h
   ·rename_i hk
    simp only[Xa,Xc]at h
    obtain⟨rfl,rfl,rfl⟩:=h
    exact Framed.pure rfl (fun σ2=>by simp only[Zct,hi,if_true,hy,hk])
   ·cases h
  ·cases h
 ·rename_i t g p n
  split at h
  case isFalse=>cases h
  rename_i hn
  have fin:σ'=σ->c.rd=[t]->(∃ x,σ[t]?=some x/\x≠.free)->Framed (fun σ=>Zct σ k (.sl t g p n) (.int kk ii)) σ sq ns v σ' c:=by
   intro e1 e2 ⟨x,hx,hne⟩
   subst e1
   refine⟨none,rfl,by simp,by simp,by rw[e2];exact Zrd hx hne,fun σ2 hA=>?_⟩
   rw[e2]at hA
   have h2:=hA t (by simp)
   simp only[Zct,hi,if_true,hn]at h0 ⊢
   rw[h2]
   split at h0
   ·split at h0
    ·rename_i hc
     simp only[Xa,Xc]at h0
     obtain⟨rfl,_,rfl⟩:=h0
     rename_i hs
     simp only[hc,and_self,if_true]
     rfl
    ·cases h0
   ·split at h0
    ·rename_i hc
     simp only[Xa,Xc]at h0
     obtain⟨rfl,_,rfl⟩:=h0
     rename_i hs
     simp only[hc,and_self,if_true]
     rfl
    ·cases h0
   ·split at h0
    ·rename_i hc
     simp only[Xa,Xc]at h0
     obtain⟨rfl,_,rfl⟩:=h0
     rename_i hs
     simp only[hc,and_self,if_true]
     rfl
    ·cases h0
   ·cases h0
  split at h
  ·rename_i hs
   split at h
   ·simp only[Xa,Xc]at h
    exact fin h.2.1.symm (by rw[<-h.2.2]) ⟨_,hs,by simp⟩
   ·cases h
  ·rename_i hs
   split at h
   ·simp only[Xa,Xc]at h
    exact fin h.2.1.symm (by rw[<-h.2.2]) ⟨_,hs,by simp⟩
   ·cases h
  ·rename_i hs
   split at h
   ·simp only[Xa,Xc]at h
    exact fin h.2.1.symm (by rw[<-h.2.2]) ⟨_,hs,by simp⟩
   ·cases h
  ·cases h
 ·cases h
end
end
section
open Go.RowKit
section
variable {O:ZJ}{bf:Nat->Bool}{tm tm':Tms}{σ σ' σ2:Za}{sq:Nat}
theorem Framed.one{f:Za->Option (AVal×Za×Cls)}{v:AVal}{c:Cls}{ns t:Nat}(hr:c.rd=[t])(hn:∃ x,σ[t]?=some x/\x≠.free)(hf:∀ σ2:Za,σ2[t]?=σ[t]?->f σ2=some (v,σ2,c)):Framed f σ sq ns v σ c:=by
 obtain⟨x,hx,hne⟩:=hn
 exact⟨none,rfl,by simp,by simp,by rw[hr];exact Zrd hx hne,fun σ2 hA=>hf σ2 (hA t (by rw[hr];simp))⟩
theorem ZDG{k:Nat}{x v:AVal}{lo hi mx:Option AVal}{c:Cls}{ns:Nat}(h:Zbj σ k x lo hi mx=some (v,σ',c))(hw:c.wr=[]):Framed (fun σ=>Zbj σ k x lo hi mx) σ sq ns v σ' c:=by
 unfold Zbj at h
 split at h
 ·rename_i b xs
  split at h
  ·cases h
  rename_i m hm
  split at h
  ·cases h
  rename_i h' hh
  split at h
  ·cases h
  rename_i l hl
  split at h
  case isFalse=>cases h
  rename_i hk0
  split at h
  ·rename_i hmx
   simp only[Xa,Xc]at h
   obtain⟨rfl,rfl,rfl⟩:=h
   exact Framed.pure rfl (fun σ2=>by simp only[Zbj,hm,hh,hl,hk0,if_true,hmx])
  ·rename_i hmx
   simp only[Xa,Xc]at h
   obtain⟨rfl,rfl,rfl⟩:=h
   exact Framed.pure rfl (fun σ2=>by simp only[Zbj,hm,hh,hl,hk0,if_true,hmx,if_false,Xl])
 ·rename_i t g p n
  split at h
  ·cases h
  rename_i els hels
  have hnf:∃ x,σ[t]?=some x/\x≠.free:=by
   simp only[Zq]at hels
   split at hels
   ·rename_i hs;exact⟨_,hs,by simp⟩
   ·rename_i hs;exact⟨_,hs,by simp⟩
   ·cases hels
  have hel2:∀ σ2:Za,σ2[t]?=σ[t]?->Zq σ2 (.sl t g p n)=some els:=by
   intro σ2 h2
   rw[<-hels]
   simp only[Zq,h2]
  split at h
  ·rename_i m0
   split at h
   ·rename_i q1 hq1
    split at h
    ·rename_i q2 hq2
     split at h
     ·rename_i q3 hq3
      simp only[Xa,Xc]at h
      obtain⟨rfl,rfl,rfl⟩:=h
      exact Framed.one rfl hnf (fun σ2 h2=>by simp only[Zbj,hel2 σ2 h2,hq1,hq2,hq3])
     ·cases h
    ·cases h
   ·rename_i hq0
    split at h
    ·rename_i q1 hq1
     split at h
     ·rename_i q2 hq2
      split at h
      ·rename_i q3 hq3
       simp only[Xa,Xc]at h
       obtain⟨rfl,rfl,rfl⟩:=h
       exact Framed.one rfl hnf (fun σ2 h2=>by simp only[Zbj,hel2 σ2 h2,hq0,hq1,hq2,hq3])
      ·cases h
     ·cases h
    ·cases h
  ·split at h
   ·rename_i g' k' xs hs
    split at h
    case isFalse=>cases h
    rename_i hkk
    split at h
    ·cases h
    rename_i h' hh
    split at h
    ·cases h
    rename_i l hl
    simp only[Xa,Xc]at h
    obtain⟨rfl,rfl,rfl⟩:=h
    exact Framed.one rfl hnf (fun σ2 h2=>by simp only[Zbj,hel2 σ2 h2,h2,hs,hkk,if_true,hh,hl])
   ·rename_i g' k' xs hs
    split at h
    case isFalse=>cases h
    rename_i hkk
    split at h
    ·cases h
    rename_i h' hh
    split at h
    ·cases h
    rename_i l hl
    simp only[Xa,Xc]at h
    obtain⟨rfl,rfl,rfl⟩:=h
    exact Framed.one rfl hnf (fun σ2 h2=>by simp only[Zbj,hel2 σ2 h2,h2,hs,hkk,if_true,hh,hl])
   ·cases h
 ·cases h
theorem ZIB{k bytes:Nat}{x y v:AVal}{c:Cls}(h:Zfa σ sq k bytes x y=some (v,σ',c)):c.any=true:=by
 unfold Zfa at h
 repeat' (split at h)
 all_goals first
  |(cases h;done)
  |(simp only[Xa,Xc]at h;rw[<-h.2.2])
theorem ZGv{k bytes:Nat}{x y v:AVal}{c:Cls}(h:ZI σ sq k bytes x y=some (v,σ',c))(hw:c.wr=[])(ha:c.any=false):Framed (fun σ=>ZI σ sq k bytes x y) σ sq 1 v σ' c:=by
 unfold ZI at h
 split at h
 ·rw[ZIB h]at ha;cases ha
 rename_i ys us he
 split at h
 case isFalse=>cases h
 rename_i hk
 have hnf:=(ZmH he).nonfree
 split at h
 ·split at h
  ·rename_i hb
   simp only[Xa,Xc]at h
   obtain⟨rfl,rfl,rfl⟩:=h
   refine⟨some (.row 0 k ys),rfl,by simp,by simp,hnf,fun σ2 hA=>?_⟩
   simp only[ZI,Zhe he hA,hk,if_true,hb,ZaB]
  ·cases h
 ·rename_i x0 xs0
  split at h
  ·rename_i hb
   split at h
   ·simp only[Xa,Xc]at h
    obtain⟨rfl,rfl,rfl⟩:=h
    refine⟨none,rfl,by simp,by simp,hnf,fun σ2 hA=>?_⟩
    simp only[ZI,Zhe he hA,hk,if_true,ZaB]
    rw[if_pos hb]
   ·rename_i y0 ys0
    simp only[Xa,Xc]at h
    obtain⟨rfl,rfl,rfl⟩:=h
    refine⟨some (.row 0 k ((x0::xs0)++(y0::ys0))),rfl,by simp,by simp,hnf,fun σ2 hA=>?_⟩
    simp only[ZI,Zhe he hA,hk,if_true,ZaB]
    rw[if_pos hb]
  ·cases h
 ·split at h
  ·split at h
   ·split at h
    ·simp only[Xa,Xc]at h
     rw[<-h.2.2]at hw;simp at hw
    ·split at h
     ·simp only[Xa,Xc]at h
      rw[<-h.2.2]at hw;simp at hw
     ·cases h
   ·cases h
  ·split at h
   ·simp only[Xa,Xc]at h
    rw[<-h.2.2]at hw;simp at hw
   ·cases h
  ·cases h
 ·cases h
theorem Zq4{σ:Za}{vs:List AVal}(h:reach σ 1000 (refsL vs) []=[]):refsL vs=[]:=by
 cases e:refsL vs with
 |nil=>rfl
 |cons t r =>
  rw[e]at h
  simp only[reach,WZ,Xl,if_false,List.nil_append]at h
  obtain⟨_,r',hr⟩:=ZhN (σ:=σ) 999 (refsB (σ.getD t .free)++r) [t] (by simp)
  rw[hr]at h
  simp at h
theorem Zzr{f own:Nat}{view:Bool}{args:List AVal}{v:AVal}{c:Cls}{ns:Nat}(hns:own=1->ns≠0)(h:Zl O bf σ sq f own view args=some (v,σ',c))(hw:c.wr=[])(ha:c.any=false):Framed (fun σ=>Zl O bf σ sq f own view args) σ sq ns v σ' c:=by
 unfold Zl at h
 split at h
 ·cases h
 rename_i xs ts hs
 have hnf:ZeC σ ts:=by
  unfold Zb1 at hs
  split at hs
  ·simp only[Xa,Xc]at hs
   rw[<-hs.2];exact Zdu
  ·exact(ZlB hs).nonfree
 have hag:∀ σ2,Agree σ σ2 ts->Zb1 (bf f) σ2 args=some (xs,ts):=by
  intro σ2 hA
  unfold Zb1 at hs ⊢
  split at hs
  ·rename_i hb;rw[if_pos hb];exact hs
  ·rename_i hb;rw[if_neg hb];exact Zq5 hs hA
 generalize hids:reach (Zj σ ts) 1000 (refsL xs) []=ids at h
 unfold Zbl at h
 split at h
 case isFalse=>cases h
 generalize hq:ZO view ids.length (O f (renL (rhoOf (Zj σ ts) 0 ids) xs) (heapOf (Zj σ ts) 0 ids (rhoOf (Zj σ ts) 0 ids) ids 0))=q at h
 cases q with
 |none=>simp only[Z8]at h;cases h
 |some q =>
  obtain⟨r,hp⟩:=q
  simp only[Z8]at h
  split at h
  ·rename_i hc
   simp only[Xj,W7]at hc
   obtain⟨rfl,rfl⟩:=hc
   have hrl:=Zq4 hids
   have hrho:∀ σ:Za,rhoOf σ 0 []=fun _ _=>none:=fun σ=>by funext t g;simp[rhoOf,idxA]
   have hall:∀ σ2,Agree σ σ2 ts->Zl O bf σ2 sq f own view args=Z8 σ2 (Zj σ2 ts) [] ts sq own (some (r,[])):=by
    intro σ2 hA
    unfold Zl
    rw[hag σ2 hA]
    simp only
    rw[hrl]
    have h0:reach (Zj σ2 ts) 1000 [] []=[]:=rfl
    rw[h0]
    unfold Zbl
    simp only[Wc,if_true]
    rw[hrho]
    rw[hrho]at hq
    simp only[heapOf]at hq ⊢
    rw[hq]
   split at h
   ·rename_i hf
    simp only[Xa,Xc]at h
    obtain⟨rfl,rfl,rfl⟩:=h
    refine⟨none,rfl,by simp,by simp,hnf,fun σ2 hA=>?_⟩
    simp only
    rw[hall σ2 hA]
    simp only[Z8,Wo,Wp,if_true,hf,ZaB]
   split at h
   ·rename_i hf hap
    simp only[Xa,Xc]at h
    obtain⟨rfl,rfl,rfl⟩:=h
    refine⟨none,rfl,by simp,by simp,hnf,fun σ2 hA=>?_⟩
    have hap2:Zck σ2 ts r=true:=by rw[Zrl fun t ht=>hA t ht];exact hap
    simp only
    rw[hall σ2 hA]
    simp only[Z8,Wo,Wp,if_true,hf,hap2,ZaB,if_false,Xl]
   ·rename_i hf hap
    simp only[Xa,Xc]at h
    obtain⟨rfl,rfl,rfl⟩:=h
    simp only at hw
    subst hw
    refine⟨none,rfl,by simp,by simp,hnf,fun σ2 hA=>?_⟩
    simp only
    rw[hall σ2 hA]
    simp only[Z8,Wo,Wp,if_true,hf,ZaB,Zj,if_false,Xl,Zck,Wo,Bool.not_true,Bool.false_and]
  ·rename_i hne
   split at h
   ·rename_i lo n k xs' hcl
    have hcl0:=hcl
    split at hcl
    case isFalse=>cases hcl
    rename_i hid
    simp only[W7]at hid
    subst hid
    unfold Zdc at hcl
    split at hcl
    case h_2=>cases hcl
    split at hcl
    case isFalse=>cases hcl
    rename_i hcc
    simp only[Xj,decide_eq_true_eq]at hcc
    simp only[Xa,Xc]at hcl h
    obtain⟨rfl,rfl,rfl,rfl⟩:=hcl
    obtain⟨rfl,rfl,rfl⟩:=h
    have hrl:=Zq4 hids
    have hrho:∀ σ:Za,rhoOf σ 0 []=fun _ _=>none:=fun σ=>by funext t g;simp[rhoOf,idxA]
    refine⟨some (.row 0 _ _),rfl,fun _=>hns hcc.1,by simp,hnf,fun σ2 hA=>?_⟩
    simp only
    unfold Zl
    rw[hag σ2 hA]
    simp only
    rw[hrl]
    have h0:reach (Zj σ2 ts) 1000 [] []=[]:=rfl
    rw[h0]
    unfold Zbl
    simp only[Wc,if_true]
    rw[hrho]
    rw[hrho]at hq
    simp only[heapOf]at hq ⊢
    rw[hq]
    simp only[Z8]
    rw[if_neg hne,hcl0]
    rfl
   split at h
   ·rename_i hcl00 _ k xs' hcl
    have hcl0:=hcl
    split at hcl
    case isFalse=>cases hcl
    rename_i hid0
    have hid:=hid0
    simp only[Xj,W7]at hid
    obtain⟨hid,_⟩:=hid
    subst hid
    unfold cloneT at hcl
    split at hcl
    case h_2=>cases hcl
    split at hcl
    case isFalse=>cases hcl
    rename_i hcc
    simp only[Xj,decide_eq_true_eq]at hcc
    simp only[Xa,Xc]at hcl h
    obtain⟨rfl,rfl⟩:=hcl
    obtain⟨rfl,rfl,rfl⟩:=h
    have hrl:=Zq4 hids
    have hrho:∀ σ:Za,rhoOf σ 0 []=fun _ _=>none:=fun σ=>by funext t g;simp[rhoOf,idxA]
    refine⟨some (.row 0 _ _),rfl,fun _=>hns hcc.1.1,by simp,hnf,fun σ2 hA=>?_⟩
    have hsole:=Zv6 hcc.2
    simp only
    unfold Zl
    rw[hag σ2 hA]
    simp only
    rw[hrl]
    have h0:reach (Zj σ2 ts) 1000 [] []=[]:=rfl
    rw[h0]
    unfold Zbl
    simp only[Wc,if_true]
    rw[hrho]
    rw[hrho]at hq
    simp only[heapOf]at hq ⊢
    rw[hq]
    simp only[Z8]
    rw[if_neg hne]
    simp only[Wo]at hcl0
    obtain⟨vs1,rfl⟩:=hsole
    simp only[Wo,if_true,show ∀ (own:Nat) (vs:List AVal) (h:Za),Zdc own (.tup vs) h=none from fun _ _ _=>rfl]
    rw[hcl0]
    rfl
   split at h
   ·simp only[Xa,Xc]at h
    rw[<-h.2.2]at ha;simp at ha
   ·cases h
theorem Zdj{x:Option AVal}{v:AVal}{c:Cls}(h:x.map (fun r=>(r,σ,({}:Cls)))=some (v,σ',c)):σ'=σ/\c={}/\x=some v:=by
 simp only[Xq,Xc]at h
 obtain⟨a,h1,rfl,rfl,rfl⟩:=h
 exact⟨rfl,rfl,h1⟩
theorem ZKI {ins : Ins} {v : AVal} {c : Cls} (h : execI O bf tm σ sq ins = some (v, σ', c)) (hw : c.wr = []) (ha : c.any = false) : Framed (fun σ => execI O bf tm σ sq ins) σ sq (nsite ins) v σ' c := by
  cases ins with
  | alloc zs =>
    simp only [execI, Xa, Xc] at h
    obtain ⟨rfl, rfl, rfl⟩ := h
    exact ⟨some (.var zs), rfl, by simp [nsite], by simp, Zdu, fun σ2 _ => rfl⟩
  | box x =>
    simp only [execI] at h
    split at h
    . cases h
    . cases h
    . cases h
    . rename_i hne1 hne2 hne3
      simp only [Xa, Xc] at h
      obtain ⟨rfl, rfl, rfl⟩ := h
      refine ⟨some (.var (x.ev tm).cells), rfl, by simp [nsite], by simp, Zdu, fun σ2 _ => ?_⟩
      simp only [execI, ZaB]
  | mkslice k b z x y =>
    simp only [execI] at h
    split at h
    . rename_i l c' e1 e2
      split at h
      . rename_i hc
        simp only [Xa, Xc] at h
        obtain ⟨rfl, rfl, rfl⟩ := h
        refine ⟨some (.row 0 k (XA c'.toNat z)), rfl, by simp [nsite], by simp, Zdu, fun σ2 _ => ?_⟩
        simp only [execI, e1, e2, ZaB]
        try rw [if_pos hc]
      . cases h
    . cases h
  | bslice own k n z ps =>
    simp only [execI] at h
    split at h
    . cases h
    rename_i ys ts hv
    split at h
    case isFalse => cases h
    rename_i hc
    split at h
    . rename_i ho
      simp only [Xa, Xc] at h
      obtain ⟨rfl, rfl, rfl⟩ := h
      simp only at hw
      subst hw
      refine ⟨some (.row 0 k (((ps.map (·.1)).zip ys).foldl (fun l p => l.set p.1 p.2) (XA n z))), rfl, by simp [nsite, ho], by simp, Zdu, fun σ2 hA => ?_⟩
      simp only [execI, ZqG hv hA, ZaB, Zj]
      rw [if_pos hc, if_pos ho]
    . rename_i ho
      simp only [Xa, Xc] at h
      obtain ⟨rfl, rfl, rfl⟩ := h
      simp only at hw
      subst hw
      refine ⟨none, rfl, by simp, by simp, Zdu, fun σ2 hA => ?_⟩
      simp only [execI, ZqG hv hA, ZaB, Zj]
      rw [if_pos hc, if_neg ho]
  | rslice k n z ps =>
    simp only [execI] at h
    split at h
    case isFalse => cases h
    rename_i hc
    simp only [Xa, Xc] at h
    obtain ⟨rfl, rfl, rfl⟩ := h
    refine ⟨some (.rrow 0 k ((ps.map fun p => (p.1, p.2.ev tm)).foldl (fun l p => l.set p.1 p.2) (XA n z))), rfl, by simp [nsite], by simp, Zdu, fun σ2 hA => ?_⟩
    simp only [execI, ZaB]
    rw [if_pos hc]
  | rng x =>
    simp only [execI] at h
    split at h
    . rename_i l e
      simp only [Xa, Xc] at h
      obtain ⟨rfl, rfl, rfl⟩ := h
      exact ⟨some (.siter l 0), rfl, by simp [nsite], by simp, Zdu, fun σ2 _ => by simp only [execI, e, ZaB]⟩
    . cases h
  | mkmap =>
    simp only [execI, Xa, Xc] at h
    obtain ⟨rfl, rfl, rfl⟩ := h
    exact ⟨some (.map []), rfl, by simp [nsite], by simp, Zdu, fun σ2 _ => rfl⟩
  | mkrow x k =>
    simp only [execI] at h
    repeat' split at h
    all_goals first
      | (cases h; done)
      | (simp only [Xa, Xc] at h
         obtain ⟨_, _, rfl⟩ := h
         cases ha)
  | mkbook x =>
    simp only [execI] at h
    split at h
    . rename_i e
      simp only [Xa, Xc] at h
      obtain ⟨rfl, rfl, rfl⟩ := h
      exact ⟨some (.book 0 []), rfl, by simp [nsite], by simp, Zdu, fun σ2 _ => by simp only [execI, e, ZaB]⟩
    . cases h
  | look kc z ok m k => simp only [execI] at h ⊢; exact ZQP h
  | mlen m => simp only [execI] at h ⊢; exact ZBS h
  | mkgmap k =>
    simp only [execI] at h
    split at h
    case isFalse => cases h
    rename_i hk
    simp only [Xa, Xc] at h
    obtain ⟨rfl, rfl, rfl⟩ := h
    exact ⟨some (.gmap k []), rfl, by simp [nsite], by simp, Zdu, fun σ2 _ => by simp only [execI]; rw [if_pos hk]; rfl⟩
  | glook kc z m k =>
    simp only [execI] at h
    unfold Zgg at h
    repeat' (split at h)
    all_goals first
      | (cases h; done)
      | (simp only [Xa, Xc] at h; rw [<- h.2.2] at hw; cases hw)
  | mset kc m k v =>
    simp only [execI] at h
    unfold ZiL at h
    repeat' (split at h)
    all_goals first
      | (cases h; done)
      | (simp only [Xa, Xc] at h; rw [<- h.2.2] at hw; cases hw)
  | mdel kc m k =>
    simp only [execI] at h ⊢
    unfold ZgU at h
    split at h
    case isFalse => cases h
    rename_i hk
    split at h
    . rename_i e
      simp only [Xa, Xc] at h; obtain ⟨rfl, rfl, rfl⟩ := h
      refine Framed.pure rfl fun σ2 => ?_
      simp only [ZgU, e]
      rw [if_pos hk]
    . repeat' (split at h)
      all_goals first
        | (cases h; done)
        | (simp only [Xa, Xc] at h; rw [<- h.2.2] at hw; cases hw)
    . repeat' (split at h)
      all_goals first
        | (cases h; done)
        | (simp only [Xa, Xc] at h; rw [<- h.2.2] at hw; cases hw)
    . cases h
  | clr k z x =>
    simp only [execI] at h
    unfold Zlh at h
    repeat' (split at h)
    all_goals first
      | (cases h; done)
      | (simp only [Xa, Xc] at h; rw [<- h.2.2] at hw; cases hw)
  | nxt x =>
    simp only [execI] at h
    repeat' (split at h)
    all_goals first
      | (cases h; done)
      | (simp only [Xa, Xc] at h; rw [<- h.2.2] at ha; cases ha)
  | ld k a => simp only [execI] at h ⊢; exact ZB0 h
  | st k a x =>
    simp only [execI] at h
    unfold stA at h
    split at h
    . split at h
      . split at h
        . split at h
          . simp only [Xa, Xc] at h; rw [<- h.2.2] at hw; simp at hw
          . cases h
        . cases h
      . split at h
        . split at h
          . split at h
            . split at h
              . split at h
                . cases h
                . split at h
                  . simp only [Xa, Xc] at h; rw [<- h.2.2] at hw; simp at hw
                  . cases h
              . cases h
            . cases h
          . cases h
        . split at h
          . split at h
            . split at h
              . simp only [Xa, Xc] at h; rw [<- h.2.2] at hw; simp at hw
              . cases h
            . cases h
          . cases h
        . cases h
      . cases h
    . cases h
  | slice k x lo hi mx => simp only [execI] at h ⊢; exact ZDG h hw
  | iaddr k x i => simp only [execI] at h ⊢; exact ZS2 h
  | app k b z x y => simp only [execI] at h ⊢; exact ZGv h hw ha
  | b2s x =>
    simp only [execI] at h
    split at h
    . rename_i xs ts he
      split at h
      . rename_i l hl
        simp only [Xa, Xc] at h
        obtain ⟨rfl, rfl, rfl⟩ := h
        refine ⟨none, rfl, by simp, by simp, (ZmH he).nonfree, fun σ2 hA => ?_⟩
        simp only [execI, Zhe he hA, hl, ZaB]
      . cases h
    . cases h
  | s2s x =>
    simp only [execI] at h
    split at h
    . split at h
      . split at h
        . simp only [Xa, Xc] at h; rw [<- h.2.2] at hw; simp at hw
        . cases h
      . cases h
    . cases h
  | call f own vw xs => simp only [execI] at h ⊢; exact Zzr (fun ho => by simp [nsite, ho]) h hw ha
  | callv x xs =>
    simp only [execI] at h
    split at h
    . rename_i f caps e
      have := Zzr (ns := nsite (.callv x xs)) (fun ho => absurd ho (by decide)) h hw ha
      have he : (fun σ => execI O bf tm σ sq (.callv x xs)) = fun σ => Zl O bf σ sq (if f < 1000000 then f else f - 1000000) 4 false (if f < 1000000 then xs.map (·.ev tm) ++ caps else caps ++ xs.map (·.ev tm)) := by funext σ; simp only [execI, e]
      rw [he]; exact this
    . cases h
  | mki t x =>
    simp only [execI] at h
    split at h
    . cases h
    . cases h
    . cases h
    . simp only [Xa, Xc] at h; obtain ⟨rfl, rfl, rfl⟩ := h; exact Framed.pure rfl (fun σ2 => by simp only [execI])
  | panic x =>
    simp only [execI] at h
    split at h
    . rename_i e; simp only [Xa, Xc] at h; obtain ⟨rfl, rfl, rfl⟩ := h; exact Framed.pure rfl (fun σ2 => by simp only [execI, e])
    . cases h
  | eqv neg ks x y =>
    simp only [execI] at h
    split at h
    . rename_i e1 e2
      split at h
      . rename_i e4
        split at h
        . rename_i e3; simp only [Xa, Xc] at h; obtain ⟨rfl, rfl, rfl⟩ := h; exact Framed.pure rfl (fun σ2 => by simp only [execI, e1, e2, e3, e4, if_true])
        . cases h
      . cases h
    . cases h
  | ieq neg x y =>
    simp only [execI] at h
    split at h
    . rename_i e1 e2; simp only [Xa, Xc] at h; obtain ⟨rfl, rfl, rfl⟩ := h; exact Framed.pure rfl (fun σ2 => by simp only [execI, e1, e2])
    . rename_i e1 e2; simp only [Xa, Xc] at h; obtain ⟨rfl, rfl, rfl⟩ := h; exact Framed.pure rfl (fun σ2 => by simp only [execI, e1, e2])
    . rename_i e1 e2; simp only [Xa, Xc] at h; obtain ⟨rfl, rfl, rfl⟩ := h; exact Framed.pure rfl (fun σ2 => by simp only [execI, e1, e2])
    . cases h
  | mov x => simp only [execI, Xa, Xc] at h; obtain ⟨rfl, rfl, rfl⟩ := h; exact Framed.pure rfl (fun σ2 => rfl)
  | mkfn f xs => simp only [execI, Xa, Xc] at h; obtain ⟨rfl, rfl, rfl⟩ := h; exact Framed.pure rfl (fun σ2 => rfl)
  | bin op x y =>
    simp only [execI] at h
    obtain ⟨rfl, rfl, hx⟩ := Zdj h
    exact Framed.pure rfl (fun σ2 => by simp only [execI, hx, XT])
  | un op x =>
    simp only [execI] at h
    obtain ⟨rfl, rfl, hx⟩ := Zdj h
    exact Framed.pure rfl (fun σ2 => by simp only [execI, hx, XT])
  | faddr off x =>
    simp only [execI] at h
    obtain ⟨rfl, rfl, hx⟩ := Zdj h
    exact Framed.pure rfl (fun σ2 => by simp only [execI, hx, XT])
  | pick a b d =>
    simp only [execI] at h
    unfold ZgO at h
    split at h
    . rename_i e; simp only [Xa, Xc] at h; obtain ⟨rfl, rfl, rfl⟩ := h; exact Framed.pure rfl (fun σ2 => by simp only [execI, ZgO, e])
    . rename_i e; simp only [Xa, Xc] at h; obtain ⟨rfl, rfl, rfl⟩ := h; exact Framed.pure rfl (fun σ2 => by simp only [execI, ZgO, e])
    . cases h
  | build zs ps =>
    simp only [execI] at h
    split at h
    . rename_i cs hf
      simp only [Xa, Xc] at h; obtain ⟨rfl, rfl, rfl⟩ := h
      exact Framed.pure rfl (fun σ2 => by simp only [execI, hf])
    . cases h
  | i2i k x =>
    simp only [execI] at h
    split at h
    . rename_i e; simp only [Xa, Xc] at h; obtain ⟨rfl, rfl, rfl⟩ := h; exact Framed.pure rfl (fun σ2 => by simp only [execI, e])
    . cases h
  | i2s x =>
    simp only [execI] at h
    split at h
    . rename_i e; simp only [Xa, Xc] at h; obtain ⟨rfl, rfl, rfl⟩ := h; exact Framed.pure rfl (fun σ2 => by simp only [execI, e])
    . cases h
  | same x =>
    simp only [execI] at h
    split at h
    . rename_i e; simp only [Xa, Xc] at h; obtain ⟨rfl, rfl, rfl⟩ := h; exact Framed.pure rfl (fun σ2 => by simp only [execI, e])
    . cases h
  | s2b x =>
    simp only [execI] at h
    split at h
    . rename_i e; simp only [Xa, Xc] at h; obtain ⟨rfl, rfl, rfl⟩ := h; exact Framed.pure rfl (fun σ2 => by simp only [execI, e])
    . cases h
  | sslice x lo hi =>
    simp only [execI] at h
    split at h
    . rename_i s e
      split at h
      . cases h
      rename_i h1 hh
      split at h
      . cases h
      rename_i l hl
      simp only [Xa, Xc] at h; obtain ⟨rfl, rfl, rfl⟩ := h
      exact Framed.pure rfl (fun σ2 => by simp only [execI, e, hh, hl])
    . cases h
  | field k off x =>
    simp only [execI] at h
    split at h
    . rename_i cs e
      obtain ⟨rfl, rfl, hx⟩ := Zdj h
      exact Framed.pure rfl (fun σ2 => by simp only [execI, e, hx, XT])
    . cases h
  | aaddr k n x i =>
    simp only [execI] at h
    split at h
    . rename_i e
      split at h
      . rename_i hc
        obtain ⟨rfl, rfl, hx⟩ := Zdj h
        exact Framed.pure rfl (fun σ2 => by simp only [execI, e]; rw [if_pos hc, hx]; rfl)
      . cases h
    . cases h
  | sindex x i =>
    simp only [execI] at h
    split at h
    . rename_i e1 e2
      split at h
      . rename_i hc
        simp only [Xq, Xc] at h
        obtain ⟨b, hb, rfl, rfl, rfl⟩ := h
        exact Framed.pure rfl (fun σ2 => by simp only [execI, e1, e2]; rw [if_pos hc, hb]; rfl)
      . cases h
    . cases h
  | aindex s k n x i =>
    simp only [execI] at h
    split at h
    . rename_i e1 e2
      split at h
      . rename_i hc
        obtain ⟨rfl, rfl, hx⟩ := Zdj h
        exact Framed.pure rfl (fun σ2 => by simp only [execI, e1, e2]; rw [if_pos hc, hx]; rfl)
      . cases h
    . cases h
  | ext x i =>
    simp only [execI] at h
    split at h
    . rename_i e
      obtain ⟨rfl, rfl, hx⟩ := Zdj h
      exact Framed.pure rfl (fun σ2 => by simp only [execI, e, hx, XT])
    . cases h
  | len x =>
    simp only [execI] at h
    split at h
    . rename_i e; simp only [Xa, Xc] at h; obtain ⟨rfl, rfl, rfl⟩ := h; exact Framed.pure rfl (fun σ2 => by simp only [execI, e])
    . rename_i e; simp only [Xa, Xc] at h; obtain ⟨rfl, rfl, rfl⟩ := h; exact Framed.pure rfl (fun σ2 => by simp only [execI, e])
    . cases h
  | slen x =>
    simp only [execI] at h
    split at h
    . rename_i e; simp only [Xa, Xc] at h; obtain ⟨rfl, rfl, rfl⟩ := h; exact Framed.pure rfl (fun σ2 => by simp only [execI, e])
    . cases h
  | mm m xs =>
    simp only [execI] at h
    split at h
    . rename_i e; simp only [Xa, Xc] at h; obtain ⟨rfl, rfl, rfl⟩ := h; exact Framed.pure rfl (fun σ2 => by simp only [execI, e])
    . cases h
  | nilchk x =>
    simp only [execI] at h
    split at h
    . rename_i e; simp only [Xa, Xc] at h; obtain ⟨rfl, rfl, rfl⟩ := h; exact Framed.pure rfl (fun σ2 => by simp only [execI, e])
    . rename_i e; simp only [Xa, Xc] at h; obtain ⟨rfl, rfl, rfl⟩ := h; exact Framed.pure rfl (fun σ2 => by simp only [execI, e])
    . rename_i e; simp only [Xa, Xc] at h; obtain ⟨rfl, rfl, rfl⟩ := h; exact Framed.pure rfl (fun σ2 => by simp only [execI, e])
    . rename_i e; simp only [Xa, Xc] at h; obtain ⟨rfl, rfl, rfl⟩ := h; exact Framed.pure rfl (fun σ2 => by simp only [execI, e])
    . cases h
  | beq neg x y =>
    simp only [execI] at h
    split at h
    . rename_i e1 e2; simp only [Xa, Xc] at h; obtain ⟨rfl, rfl, rfl⟩ := h; exact Framed.pure rfl (fun σ2 => by simp only [execI, e1, e2])
    . cases h
  | peq neg x y =>
    simp only [execI] at h
    split at h
    . rename_i e1 e2; simp only [Xa, Xc] at h; obtain ⟨rfl, rfl, rfl⟩ := h; exact Framed.pure rfl (fun σ2 => by simp only [execI, e1, e2])
    . rename_i e1 e2; simp only [Xa, Xc] at h; obtain ⟨rfl, rfl, rfl⟩ := h; exact Framed.pure rfl (fun σ2 => by simp only [execI, e1, e2])
    . rename_i e1 e2; simp only [Xa, Xc] at h; obtain ⟨rfl, rfl, rfl⟩ := h; exact Framed.pure rfl (fun σ2 => by simp only [execI, e1, e2])
    . rename_i e1 e2; simp only [Xa, Xc] at h; obtain ⟨rfl, rfl, rfl⟩ := h; exact Framed.pure rfl (fun σ2 => by simp only [execI, e1, e2])
    . rename_i e1 e2; simp only [Xa, Xc] at h; obtain ⟨rfl, rfl, rfl⟩ := h; exact Framed.pure rfl (fun σ2 => by simp only [execI, e1, e2])
    . cases h
theorem ZL5{ins:Ins}{v:AVal}{c:Cls}(ht:ins.touches=false)(h:execI O bf tm σ sq ins=some (v,σ',c)):c={}/\nsite ins=0:=by
 cases ins<;>simp[Ins.touches]at ht<;>refine⟨?_,rfl⟩<;>simp only[execI]at h
 case mov x=>simp only[Xa,Xc]at h;exact h.2.2.symm
 case mkfn f xs=>simp only[Xa,Xc]at h;exact h.2.2.symm
 case bin op x y=>exact(Zdj h).2.1
 case un op x=>exact(Zdj h).2.1
 case faddr off x=>exact(Zdj h).2.1
 case pick c x y =>
  unfold ZgO at h
  split at h
  ·simp only[Xa,Xc]at h;exact h.2.2.symm
  ·simp only[Xa,Xc]at h;exact h.2.2.symm
  ·cases h
 all_goals
  repeat' (split at h)
  all_goals first
   |(cases h;done)
   |(simp only[Xa,Xc]at h;exact h.2.2.symm)
   |exact(Zdj h).2.1
   |(simp only[Xq,Xc]at h;obtain⟨_,_,_,_,h⟩:=h;exact h.symm)
theorem ZE9{ins:Ins}{v:AVal}{c:Cls}(ht:ins.touches=false)(h:execI O bf tm σ sq ins=some (v,σ',c)):σ'=σ:=by
 cases ins<;>simp[Ins.touches]at ht<;>simp only[execI]at h
 case mov x=>simp only[Xa,Xc]at h;exact h.2.1.symm
 case mkfn f xs=>simp only[Xa,Xc]at h;exact h.2.1.symm
 case bin op x y=>exact(Zdj h).1
 case un op x=>exact(Zdj h).1
 case faddr off x=>exact(Zdj h).1
 case pick c x y =>
  unfold ZgO at h
  split at h
  ·simp only[Xa,Xc]at h;exact h.2.1.symm
  ·simp only[Xa,Xc]at h;exact h.2.1.symm
  ·cases h
 all_goals
  repeat' (split at h)
  all_goals first
   |(cases h;done)
   |(simp only[Xa,Xc]at h;exact h.2.1.symm)
   |exact(Zdj h).1
   |(simp only[Xq,Xc]at h;obtain⟨_,_,_,h,_⟩:=h;exact h.symm)
end
end
section
open Go.RowKit
section
variable {O:ZJ}{bf:Nat->Bool}{tm:Tms}{σ σ':Za}{sq s:Nat}{b:Zx}
theorem Zg1:∀ (ts:List Nat) (σ:Za),(Zj σ ts)[s]?=some .free↔σ[s]?=some .free
 | [],σ=>Iff.rfl
 |t::ts,σ=>by
  simp only[Zj]
  split
  ·rename_i g k xs hs
   rw[Zg1 ts,Xr]
   split
   ·rename_i e;subst e
    split
    ·simp[hs]
    ·simp[hs]
   ·exact Iff.rfl
  ·exact Zg1 ts σ
theorem Zrg{cs:List AVal}{t:Nat}:∀ (ts:List Nat) (σ:Za),σ[t]?=some (.var cs)->(Zj σ ts)[t]?=some (.var cs)
 | [],σ,h=>h
 |u::ts,σ,h=>by
  simp only[Zj]
  split
  ·rename_i g k xs hs
   refine Zrg ts _ ?_
   rw[Xr]
   split
   ·rename_i e;subst e;rw[hs]at h;cases h
   ·exact h
  ·exact Zrg ts σ h
theorem Ztd:∀ (ts:List Nat) (σ:Za),s∉ts->Zj (σ.set s b) ts=(Zj σ ts).set s b
 | [],σ,_=>rfl
 |t::ts,σ,h=>by
  simp only[XI,not_or]at h
  have e:(σ.set s b)[t]?=σ[t]?:=by rw[Xr,if_neg h.1]
  simp only[Zj,e]
  split
  ·rw[WX _ _ h.1,Ztd ts _ h.2]
  ·exact Ztd ts σ h.2
theorem ZhL{t:Nat}(h:s≠t):(σ.set s b).getD t .free=σ.getD t .free:=by
 rw[Xi,Xi,Xr,if_neg h]
theorem Zpp:∀ (n:Nat) (todo acc:List Nat),∀ x∈acc,x∈reach σ n todo acc
 |0,_,acc,x,h=>h
 |n+1,[],acc,x,h=>h
 |n+1,t::todo,acc,x,h=>by
  simp only[reach]
  split
  ·exact Zpp n todo acc x h
  ·exact Zpp n _ _ x (by simp[h])
theorem ZoZ:∀ (n:Nat) (todo acc:List Nat),s∉reach σ n todo acc->reach (σ.set s b) n todo acc=reach σ n todo acc
 |0,_,acc,_=>rfl
 |n+1,[],acc,_=>rfl
 |n+1,t::todo,acc,h=>by
  simp only[reach]at h⊢
  split
  ·rename_i hc;rw[if_pos hc]at h;exact ZoZ n todo acc h
  ·rename_i hc
   rw[if_neg hc]at h
   have hne:s≠t:=by
    rintro rfl
    exact h (Zpp n _ _ s (by simp))
   rw[ZhL hne]
   exact ZoZ n _ _ h
theorem ZHT{m:Nat}{ids:List Nat}(h:s∉ids):rhoOf (σ.set s b) m ids=rhoOf σ m ids:=by
 funext t g
 unfold rhoOf
 split
 ·rename_i j hj
  obtain⟨k,_,hk⟩:=Zol hj
  have : s≠t:=by rintro rfl;exact h (Xx hk)
  rw[Xr,if_neg this]
 ·rfl
theorem Zw4{m:Nat}{ids:List Nat}{ρ:Rho}:∀ (ts:List Nat) (j:Nat),s∉ts->heapOf (σ.set s b) m ids ρ ts j=heapOf σ m ids ρ ts j
 | [],_,_=>rfl
 |t::ts,j,h=>by
  simp only[XI,not_or]at h
  simp only[heapOf,ZhL h.1,Zw4 ts (j+1) h.2]
theorem Zvy{ids:List Nat}(h:s∉ids):∀ (hp:Za) (j:Nat),ZbO (σ.set s b) ids hp j=ZbO σ ids hp j
 | [],_=>rfl
 |x::xs,j=>by
  simp only[ZbO,Zvy h xs (j+1)]
  congr 2
  split
  ·rename_i t ht
   have : s≠t:=by rintro rfl;exact h (Xx ht)
   rw[ZhL this]
  ·rfl
theorem ZvC:∀ (n sq:Nat),(∀ i,i<n->sq+i≠s)->Zbv (σ.set s b) sq n=Zbv σ sq n
 |0,_,_=>rfl
 |n+1,sq,h=>by
  have h0:=h 0 (by omega)
  simp only[Zbv,freeAt]
  rw[Xr,if_neg (by intro e;exact h0 (by simpa using e.symm)),ZvC n (sq+1) (fun i hi=>by have:=h (i+1) (by omega);rwa [show sq+1+i=sq+(i+1)by omega])]
theorem ZtR{ids:List Nat}(h:s∉ids):ZaR (σ.set s b) ids sq=ZaR σ ids sq:=by
 funext j g
 unfold ZaR
 split
 ·rename_i t ht
  have : s≠t:=by rintro rfl;exact h (Xx ht)
  rw[ZhL this]
 ·rfl
theorem ZvH{σ0:Za}{ids:List Nat}(h:s∉ids):∀ (hp:Za) (j:Nat) (σ:Za),(∀ i,i<hp.length->Zay ids sq (j+i)≠s)->Za4 (σ0.set s b) ids sq hp j (σ.set s b)=(Za4 σ0 ids sq hp j σ).set s b
 | [],_,_,_=>rfl
 |x::xs,j,σ,hn=>by
  have h0:=hn 0 (by simp)
  simp only[Wg]at h0
  have eg:ZbF (σ0.set s b) ids j x=ZbF σ0 ids j x:=by
   unfold ZbF
   split
   ·rename_i t ht
    have : s≠t:=by rintro rfl;exact h (Xx ht)
    rw[ZhL this]
   ·rfl
  simp only[Za4,ZtR h,eg]
  rw[WX _ _ (WV h0)]
  exact ZvH h xs (j+1) _ (fun i hi=>by have:=hn (i+1) (by simp;omega);rwa [show j+1+i=j+(i+1)by omega])
theorem Zxb:∀ (ids:List Nat),s∉ids->Zb4 (σ.set s b) ids=Zb4 σ ids
 | [],_=>rfl
 |t::ts,h=>by
  simp only[XI,not_or]at h
  simp only[Zb4,Xr,if_neg h.1,Zxb ts h.2]
theorem ZDk{ρ:Rho}{g:Nat}{x:Zx}(h:okB x=true):renB ρ g x≠.free:=by
 cases x<;>simp[okB]at h<;>simp[renB]
theorem ZqY{σ0:Za}{ids:List Nat}:∀ (hp:Za) (j:Nat) (σ:Za),ZbO σ0 ids hp j=true->(Za4 σ0 ids sq hp j σ)[s]?=some .free->σ[s]?=some .free
 | [],_,_,_,h=>h
 |x::xs,j,σ,hk,h=>by
  simp only[ZbO,Xj]at hk
  simp only[Za4]at h
  have:=ZqY xs (j+1) _ hk.2 h
  rw[Xr]at this
  split at this
  ·split at this
   ·injection this with this;exact absurd this (ZDk hk.1.1)
   ·cases this
  ·exact this
theorem ZIS{ts:List Nat}(h:ZeC σ ts)(hs:σ[s]?=some .free):s∉ts:=by
 intro hm
 obtain⟨x,hx,hne⟩:=h s hm
 rw[hs]at hx;injection hx with hx;exact hne hx.symm
theorem Zy1{f own:Nat}{view:Bool}{args:List AVal}{v:AVal}{c:Cls}(h:Zl O bf σ sq f own view args=some (v,σ',c))(hs':σ'[s]?=some .free)(hne:∀ i,i<own->sq+i≠s) :
  σ[s]?=some .free/\Zl O bf (σ.set s b) sq f own view args=some (v,σ'.set s b,c):=by
 unfold Zl at h
 split at h
 ·cases h
 rename_i xs ts hsh
 have hnf:ZeC σ ts:=by
  unfold Zb1 at hsh
  split at hsh
  ·simp only[Xa,Xc]at hsh
   rw[<-hsh.2];exact Zdu
  ·exact(ZlB hsh).nonfree
 have hag:∀ σ2,Agree σ σ2 ts->Zb1 (bf f) σ2 args=some (xs,ts):=by
  intro σ2 hA
  unfold Zb1 at hsh ⊢
  split at hsh
  ·rename_i hb;rw[if_pos hb];exact hsh
  ·rename_i hb;rw[if_neg hb];exact Zq5 hsh hA
 generalize hids:reach (Zj σ ts) 1000 (refsL xs) []=ids at h
 unfold Zbl at h
 split at h
 case isFalse=>cases h
 rename_i hall
 generalize hq:ZO view ids.length (O f (renL (rhoOf (Zj σ ts) 0 ids) xs) (heapOf (Zj σ ts) 0 ids (rhoOf (Zj σ ts) 0 ids) ids 0))=q at h
 have key:σ[s]?=some .free->s∉ts/\s∉ids/\Zl O bf (σ.set s b) sq f own view args=Z8 (σ.set s b) ((Zj σ ts).set s b) ids ts sq own q:=by
  intro hs
  have n1:=ZIS hnf hs
  have hsf:(Zj σ ts)[s]?=some .free:=(Zg1 ts σ).2 hs
  have n2:s∉ids:=by
   intro hm
   have:=XF.1 hall s hm
   rw[Xi,hsf]at this
   simp[okB]at this
  refine⟨n1,n2,?_⟩
  unfold Zl
  rw[hag _ (fun t ht=>by rw[Xr,if_neg (by rintro rfl;exact n1 ht)])]
  simp only
  rw[Ztd ts σ n1,ZoZ _ _ _ (by rw[hids];exact n2),hids]
  unfold Zbl
  have hall2:(ids.all fun t=>okB (((Zj σ ts).set s b).getD t .free))=true:=by
   rw[XF]at hall ⊢
   intro t ht
   rw[ZhL (by rintro rfl;exact n2 ht)]
   exact hall t ht
  rw[if_pos hall2,ZHT n2,Zw4 ids 0 n2,hq]
 cases q with
 |none=>simp only[Z8]at h;cases h
 |some q =>
  obtain⟨r,hp⟩:=q
  simp only[Z8]at h
  split at h
  ·rename_i hc
   split at h
   ·rename_i hf
    simp only[Xa,Xc]at h
    obtain⟨rfl,rfl,rfl⟩:=h
    obtain⟨n1,n2,k⟩:=key hs'
    refine⟨hs',?_⟩
    rw[k]
    simp only[Z8,hc,if_true,hf]
   split at h
   ·rename_i hf hap
    simp only[Xa,Xc]at h
    obtain⟨rfl,rfl,rfl⟩:=h
    obtain⟨n1,n2,k⟩:=key hs'
    refine⟨hs',?_⟩
    have hap2:Zck (σ.set s b) ts r=true:=by rw[Zrl (σ:=σ) fun t ht=>(by rw[Xr,if_neg (by rintro rfl;exact n1 ht)])];exact hap
    rw[k]
    simp only[Z8,hc,if_true,hf,hap2,if_false,Xl]
   ·rename_i hf hap
    simp only[Xa,Xc]at h
    obtain⟨rfl,rfl,rfl⟩:=h
    have hs:=(Zg1 ts σ).1 hs'
    obtain⟨n1,n2,k⟩:=key hs
    refine⟨hs,?_⟩
    have hap2:¬Zck (σ.set s b) ts r=true:=by rw[Zrl (σ:=σ) fun t ht=>(by rw[Xr,if_neg (by rintro rfl;exact n1 ht)])];exact hap
    rw[k]
    simp only[Z8,hc,if_true,hf,if_neg hap2,if_false,Xl]
  ·rename_i hc
   split at h
   ·rename_i lo n k xs' hcl
    simp only[Xa,Xc]at h
    obtain⟨rfl,rfl,rfl⟩:=h
    have hown:own=1:=by
     split at hcl
     case isFalse=>cases hcl
     unfold Zdc at hcl
     split at hcl
     case h_2=>cases hcl
     split at hcl
     case isFalse=>cases hcl
     rename_i hcc
     simp only[Xj,decide_eq_true_eq]at hcc
     exact hcc.1
    have hns:sq≠s:=by have:=hne 0 (by omega);simpa using this
    have hs:σ[s]?=some .free:=by rwa [Xr,if_neg hns]at hs'
    obtain⟨n1,n2,kk⟩:=key hs
    refine⟨hs,?_⟩
    rw[kk]
    simp only[Z8]
    rw[if_neg hc,hcl]
    simp only
    rw[WX _ _ (WV hns)]
   rename_i hcl
   split at h
   ·rename_i k xs' hclT
    simp only[Xa,Xc]at h
    obtain⟨rfl,rfl,rfl⟩:=h
    have hown:own=1:=by
     split at hclT
     case isFalse=>cases hclT
     unfold cloneT at hclT
     split at hclT
     case h_2=>cases hclT
     split at hclT
     case isFalse=>cases hclT
     rename_i hcc
     simp only[Xj,decide_eq_true_eq]at hcc
     exact hcc.1.1
    have hns:sq≠s:=by have:=hne 0 (by omega);simpa using this
    have hs:σ[s]?=some .free:=by rwa [Xr,if_neg hns]at hs'
    obtain⟨n1,n2,kk⟩:=key hs
    refine⟨hs,?_⟩
    rw[kk]
    simp only[Z8]
    rw[if_neg hc,hcl]
    simp only
    rw[hclT]
    simp only
    rw[WX _ _ (WV hns)]
   rename_i hclT
   split at h
   ·rename_i hcc
    simp only[Xa,Xc]at h
    obtain⟨rfl,rfl,rfl⟩:=h
    simp only[Xj,decide_eq_true_eq]at hcc
    obtain⟨⟨⟨c1,c2⟩,c3⟩,c4⟩:=hcc
    have hs:=(Zg1 ts σ).1 (ZqY hp 0 _ c3 hs')
    obtain⟨n1,n2,kk⟩:=key hs
    refine⟨hs,?_⟩
    rw[kk]
    have htg:∀ i,i<hp.length->Zay ids sq (0+i)≠s:=by
     intro i hi e
     rw[Xv]at e
     unfold Zay at e
     rw[Xi]at e
     rcases Xax i ids.length with hl |hl
     ·rw[XB hl]at e
      simp only[WS]at e
      exact n2 (e ▸ Xap hl)
     ·rw[X6 hl]at e
      exact hne (i-ids.length) (by omega) e
    simp only[Z8]
    rw[if_neg hc,hcl]
    simp only
    rw[hclT]
    simp only[c1,c2,decide_true,Zvy n2,c3,ZvC own sq hne,c4,Wp,if_true,ZtR n2,ZvH n2 hp 0 _ htg,Zxb ids n2]
   ·cases h
theorem ZCr{f own:Nat}{view:Bool}{args:List AVal}{v:AVal}{c:Cls}(h:Zl O bf σ sq f own view args=some (v,σ',c))(hs:σ'[s]?=some .free):σ[s]?=some .free:=by
 unfold Zl at h
 split at h
 ·cases h
 rename_i xs ts hsh
 unfold Zbl at h
 split at h
 case isFalse=>cases h
 generalize reach (Zj σ ts) 1000 (refsL xs) []=ids at h
 generalize ZO view ids.length (O f (renL (rhoOf (Zj σ ts) 0 ids) xs) (heapOf (Zj σ ts) 0 ids (rhoOf (Zj σ ts) 0 ids) ids 0))=q at h
 cases q with
 |none=>simp only[Z8]at h;cases h
 |some q =>
  obtain⟨r,hp⟩:=q
  simp only[Z8]at h
  split at h
  ·split at h
   ·simp only[Xa,Xc]at h
    rw[h.2.1];exact hs
   split at h
   ·simp only[Xa,Xc]at h
    rw[h.2.1];exact hs
   ·simp only[Xa,Xc]at h
    rw[<-h.2.1]at hs
    exact(Zg1 ts σ).1 hs
  ·split at h
   ·simp only[Xa,Xc]at h
    rw[<-h.2.1,Xr]at hs
    split at hs
    ·split at hs<;>simp at hs
    ·exact hs
   split at h
   ·simp only[Xa,Xc]at h
    rw[<-h.2.1,Xr]at hs
    split at hs
    ·split at hs<;>simp at hs
    ·exact hs
   split at h
   ·rename_i hcc
    simp only[Xa,Xc]at h
    rw[<-h.2.1]at hs
    simp only[Xj,decide_eq_true_eq]at hcc
    exact(Zg1 ts σ).1 (ZqY hp 0 _ hcc.1.2 hs)
   ·cases h
theorem ZrE{t:Nat}{cs:List AVal}:∀ {ids:List Nat},(Zb4 σ ids).lookup t=some cs->σ[t]?=some (.var cs)
 | [],h=>by simp[Zb4]at h
 |u::us,h=>by
  simp only[Zb4]at h
  split at h
  ·rename_i cs' hu
   rw[XaG]at h
   split at h
   ·rename_i e
    injection h with h;subst h
    have : t=u:=by simpa using e
    rw[this];exact hu
   ·exact ZrE h
  ·exact ZrE h
theorem Zml{t:Nat}{cs:List AVal}:∀ {ids:List Nat},(Zb4 σ ids).lookup t=none->t∈ids->σ[t]?≠some (.var cs)
 |u::us,h,hm=>by
  intro hv
  simp only[Zb4]at h
  rcases XI.1 hm with e |hm
  ·subst e
   rw[hv]at h
   simp only[XaG,beq_self_eq_true]at h
   cases h
  ·split at h
   ·rw[XaG]at h
    split at h
    ·cases h
    ·exact Zml h hm hv
   ·exact Zml h hm hv
theorem Zt7{σ0:Za}{ids:List Nat}{t:Nat}:∀ (hp:Za) (j:Nat) (σ:Za),(∀ i x,hp[i]?=some x->Zay ids sq (j+i)=t->∃ cs,x=.var cs)->(∃ cs,σ[t]?=some (.var cs))->∃ cs,(Za4 σ0 ids sq hp j σ)[t]?=some (.var cs)
 | [],_,_,_,h=>h
 |x::xs,j,σ,hv,⟨cs,h⟩=>by
  simp only[Za4]
  refine Zt7 xs (j+1) _ (fun i y hy e=>hv (i+1) y (by simpa using hy) (by rwa [show j+(i+1)=j+1+i by omega])) ?_
  rw[Xr]
  split
  ·rename_i e
   obtain⟨cs',rfl⟩:=hv 0 x rfl (by simpa using e)
   split
   ·exact⟨_,rfl⟩
   ·rename_i hl
    rw[e]at hl
    rw[X6 (by omega)]at h;cases h
  ·exact⟨cs,h⟩
theorem ZCJ{f own:Nat}{view:Bool}{args:List AVal}{v:AVal}{c:Cls}(h:Zl O bf σ sq f own view args=some (v,σ',c))(ha:c.any=true){t:Nat}{cs:List AVal}(ht:σ[t]?=some (.var cs)) :
  (c.upd.lookup t=none->σ'[t]?=some (.var cs))/\(∀ cs2,c.upd.lookup t=some cs2->σ'[t]?=some (.var cs2)):=by
 unfold Zl at h
 split at h
 ·cases h
 rename_i xs ts hsh
 generalize hids:reach (Zj σ ts) 1000 (refsL xs) []=ids at h
 unfold Zbl at h
 split at h
 case isFalse=>cases h
 generalize ZO view ids.length (O f (renL (rhoOf (Zj σ ts) 0 ids) xs) (heapOf (Zj σ ts) 0 ids (rhoOf (Zj σ ts) 0 ids) ids 0))=q at h
 cases q with
 |none=>simp only[Z8]at h;cases h
 |some q =>
  obtain⟨r,hp⟩:=q
  simp only[Z8]at h
  split at h
  ·split at h
   ·simp only[Xa,Xc]at h
    rw[<-h.2.2]at ha;cases ha
   split at h
   ·simp only[Xa,Xc]at h
    rw[<-h.2.2]at ha;cases ha
   ·simp only[Xa,Xc]at h
    rw[<-h.2.2]at ha;cases ha
  ·split at h
   ·simp only[Xa,Xc]at h
    rw[<-h.2.2]at ha;cases ha
   split at h
   ·simp only[Xa,Xc]at h
    rw[<-h.2.2]at ha;cases ha
   split at h
   ·rename_i hcc
    simp only[Xa,Xc]at h
    obtain⟨_,rfl,rfl⟩:=h
    simp only[Xj,decide_eq_true_eq]at hcc
    obtain⟨⟨⟨c1,c2⟩,c3⟩,c4⟩:=hcc
    have hf:=Zrg ts σ ht
    refine⟨fun hn=>?_,fun cs2 hc2=>ZrE hc2⟩
    have tgt:∀ i,i<hp.length->Zay ids sq (0+i)=t->i<ids.length/\ids[i]?=some t:=by
     intro i hi e
     rw[Xv]at e
     unfold Zay at e
     rw[Xi]at e
     rcases Xax i ids.length with hl |hl
     ·rw[XB hl]at e ⊢
      simp only[WS]at e
      exact⟨hl,by rw[e]⟩
     ·rw[X6 hl]at e
      simp only[Xaq]at e
      have:=ZiB c4 (i:=i-ids.length) (by omega)
      rw[e,hf]at this;cases this
    by_cases hm:t∈ids
    ·exfalso
     obtain⟨cs3,h3⟩:=Zt7 (σ0:=Zj σ ts) (sq:=sq) (ids:=ids) (t:=t) hp 0 (Zj σ ts) (fun i x hx e=>by
      obtain⟨hl,hi⟩:=tgt i (Xh.1 hx).1 e
      have:=(ZeT c3 hx).2
      rw[Xv,hi]at this
      simp only at this
      have hk:=this.1
      rw[Xi,hf]at hk
      simp only[WS]at hk
      cases x<;>simp[Zd5]at hk
      exact⟨_,rfl⟩) ⟨_,hf⟩
     exact Zml hn hm h3
    ·rw[Zjk (fun i hi e=>hm (by
      obtain⟨hl,hi⟩:=tgt i hi e
      exact Xx hi))]
     exact hf
   ·cases h
theorem Zwh{σ0:Za}{ids:List Nat}{sq t n:Nat}:∀ (h:Za) (j:Nat) (σ:Za),(∀ i x,h[i]?=some x->Zay ids sq (j+i)=t->∃ ms:Zbg,(x=.arena ms\/x=.rarena ms)/\n<=ms.length)->(∃ ms,Zbn σ t=some ms/\n<=ms.length)->∃ ms,Zbn (Za4 σ0 ids sq h j σ) t=some ms/\n<=ms.length
 | [],j,σ,_,h0=>h0
 |b::bs,j,σ,hx,h0=>by
  simp only[Za4]
  refine Zwh bs (j+1) _ (fun i x hi e=>hx (i+1) x (by simpa using hi) (by rwa [show j+(i+1)=j+1+i by omega])) ?_
  obtain⟨ms0,h1,h2⟩:=h0
  by_cases e:Zay ids sq j=t
  ·obtain⟨ms,h3,h4⟩:=hx 0 b rfl (by simpa using e)
   have ht:t<σ.length:=by
    obtain⟨x,hx,_⟩:=ZjY h1
    exact(Xh.1 hx).1
   refine⟨ms,?_,h4⟩
   rw[e]
   unfold Zbn
   rw[Wb ht]
   rcases h3 with rfl |rfl<;>rfl
  ·exact⟨ms0,by rw[Zg5 (σ:=σ) (by rw[XS e])];exact h1,h2⟩
theorem Zpv{t:Nat}:∀ (ts:List Nat) (σ:Za),Zbn (Zj σ ts) t=Zbn σ t
 | [],σ=>rfl
 |u::ts,σ=>by
  unfold Zj
  split
  ·rename_i g k xs hu
   rw[Zpv ts]
   by_cases e:u=t
   ·subst e
    unfold Zbn
    rw[Wb (Xh.1 hu).1,hu]
   ·exact Zg5 (by rw[XS e])
  ·exact Zpv ts σ
theorem ZMl{f own:Nat}{view:Bool}{args:List AVal}{v:AVal}{c:Cls}(h:Zl O bf σ sq f own view args=some (v,σ',c))(ha:c.any=true){t:Nat}{ns:Zbg}(ht:Zbn σ t=some ns):∃ ms,Zbn σ' t=some ms/\ns.length<=ms.length:=by
 unfold Zl at h
 split at h
 ·cases h
 rename_i xs ts hsh
 generalize hids:reach (Zj σ ts) 1000 (refsL xs) []=ids at h
 unfold Zbl at h
 split at h
 case isFalse=>cases h
 generalize ZO view ids.length (O f (renL (rhoOf (Zj σ ts) 0 ids) xs) (heapOf (Zj σ ts) 0 ids (rhoOf (Zj σ ts) 0 ids) ids 0))=q at h
 cases q with
 |none=>simp only[Z8]at h;cases h
 |some q =>
  obtain⟨r,hp⟩:=q
  simp only[Z8]at h
  split at h
  ·split at h
   ·simp only[Xa,Xc]at h
    rw[<-h.2.2]at ha;cases ha
   split at h
   ·simp only[Xa,Xc]at h
    rw[<-h.2.2]at ha;cases ha
   ·simp only[Xa,Xc]at h
    rw[<-h.2.2]at ha;cases ha
  ·split at h
   ·simp only[Xa,Xc]at h
    rw[<-h.2.2]at ha;cases ha
   split at h
   ·simp only[Xa,Xc]at h
    rw[<-h.2.2]at ha;cases ha
   split at h
   ·rename_i hcc
    simp only[Xa,Xc]at h
    obtain⟨_,rfl,rfl⟩:=h
    simp only[Xj,decide_eq_true_eq]at hcc
    obtain⟨⟨⟨c1,c2⟩,c3⟩,c4⟩:=hcc
    have hfn:Zbn (Zj σ ts) t=some ns:=by rw[Zpv];exact ht
    obtain⟨x0,hx0,hx0f⟩:=ZjY hfn
    refine Zwh hp 0 (Zj σ ts) (fun i x hx e=>?_) ⟨ns,hfn,XD _⟩
    have hi:=(Xh.1 hx).1
    have k2:=(ZeT c3 hx).2
    rw[Xv]at e k2
    unfold Zay at e
    rw[Xi]at e
    rcases Xax i ids.length with hl |hl
    ·rw[XB hl]at e k2
     simp only[WS]at e k2
     rw[e,Xi,hx0]at k2
     simp only[WS]at k2
     unfold Zbn at hfn
     rw[hx0]at hfn
     have k3:=k2.1
     cases x0<;>simp at hfn
     ·subst hfn
      cases x<;>simp[Zd5]at k3
      exact⟨_,Xp rfl,k3⟩
     ·subst hfn
      cases x<;>simp[Zd5]at k3
      exact⟨_,Xt rfl,by omega⟩
    ·rw[X6 hl]at e
     simp only[Xaq]at e
     have:=ZiB c4 (i:=i-ids.length) (by omega)
     rw[e,hx0]at this
     injection this with this
     exact absurd this hx0f
   ·cases h
end
end
section
open Go.RowKit
section
variable {P:Program}{O:ZJ}{bf:Nat->Bool}{tm tm1 tm2:Tms}{σ σ' σ1 σ2:Za}{sq:Nat}
theorem Zve{d:Option Nat}{v:AVal}{n:Nat}(h:d≠some n):tget (tput tm d v) n=tget tm n:=by
 cases d with
 |none=>rfl
 |some d =>
  have : d≠n:=by rintro rfl;exact h rfl
  simp only[tput,Zjo,this,if_false]
theorem ZuU{a b:Nat}(u v:AVal)(h:a≠b):∀ tm:Tms,tins b v (tins a u tm)=tins a u (tins b v tm)
 | []=>by
  simp only[tins]
  by_cases h1:a<b
  ·have h2:¬b<a:=by omega
   have h3:¬b=a:=by omega
   simp[h1,h2,h3]
  ·have h2:b<a:=by omega
   have h3:¬a=b:=h
   simp[h1,h2,h3]
 |(e,w)::r=>by
  have ih:=ZuU u v h r
  rcases Nat.lt_trichotomy e a with ha |ha |ha<;>rcases Nat.lt_trichotomy e b with hb |hb |hb
  ·rcases Nat.lt_or_gt_of_ne h with hab |hab
   ·have n1:¬b<a:=by omega
    have n2:¬b=a:=by omega
    simp[tins,ha,hb,hab,n1,n2]
   ·have n1:¬a<b:=by omega
    have n2:¬a=b:=h
    simp[tins,ha,hb,hab,n1,n2]
  ·subst hb
   have n1:¬a<e:=by omega
   have n2:¬a=e:=h
   simp[tins,ha,n1,n2]
  ·have n1:¬a<b:=by omega
   have n2:¬a=b:=h
   have n3:¬e<b:=by omega
   have n4:¬e=b:=by omega
   simp[tins,ha,n1,n2,n3,n4]
  ·subst ha
   have n1:¬b<e:=by omega
   have n2:¬b=e:=fun q=>h q.symm
   simp[tins,hb,n1,n2]
  ·exact absurd (ha.symm.trans hb) h
  ·subst ha
   have n3:¬e<b:=by omega
   have n4:¬e=b:=by omega
   simp[tins,n3,n4]
  ·have n1:¬b<a:=by omega
   have n2:¬b=a:=by omega
   have n3:¬e<a:=by omega
   have n4:¬e=a:=by omega
   simp[tins,hb,n1,n2,n3,n4]
  ·subst hb
   have n3:¬e<a:=by omega
   have n4:¬e=a:=by omega
   simp[tins,n3,n4]
  ·have n1:¬e<a:=by omega
   have n2:¬e=a:=by omega
   have n3:¬e<b:=by omega
   have n4:¬e=b:=by omega
   simp[tins,n1,n2,n3,n4,ih]
theorem ZeA{a b:Option Nat}(u v:AVal)(h:∀ d,a=some d->b≠some d):tput (tput tm a u) b v=tput (tput tm b v) a u:=by
 cases a with
 |none=>cases b<;>rfl
 |some a =>
  cases b with
  |none=>rfl
  |some b =>
   simp only[tput]
   exact ZuU u v (by rintro rfl;exact h a rfl rfl) tm
theorem ZdW{g:Option (Nat×Bool)}(h:∀ j b,g=some (j,b)->tget tm j=tget tm1 j):Zbh g tm=Zbh g tm1:=by
 cases g with
 |none=>rfl
 |some g=>simp only[Zbh];rw[h g.1 g.2 rfl]
theorem ZdY{o:AOp}{j:Nat}{b:Bool}(h:o.guard=some (j,b)):j∈o.reads:=by simp[AOp.reads,h]
theorem ZgJ{o:AOp}{n:Nat}(h:n∈o.ins.reads):n∈o.reads:=by simp[AOp.reads,h]
theorem ZfK{o:AOp}{v:AVal}{c:Cls}(h:ZC O bf o sq tm σ=some (v,tm1,σ1,c)):tm1=tput tm o.dst v/\∀ tm',(∀ n∈o.reads,tget tm n=tget tm' n)->ZC O bf o sq tm' σ=some (v,tput tm' o.dst v,σ1,c):=by
 unfold ZC at h
 split at h
 ·cases h
 ·rename_i hw
  simp only[Xa,Xc]at h
  obtain⟨rfl,rfl,rfl,rfl⟩:=h
  refine⟨rfl,fun tm' hr=>?_⟩
  simp only[ZC,ZdW (g:=o.guard) (tm:=tm') (tm1:=tm) (fun j b hg=>(hr j (ZdY hg)).symm),hw]
 ·rename_i hw
  split at h
  ·rename_i hf
   split at h
   ·rename_i v' σ'' c' he
    simp only[Xa,Xc]at h
    obtain⟨rfl,rfl,rfl,rfl⟩:=h
    refine⟨rfl,fun tm' hr=>?_⟩
    simp only[ZC,ZdW (g:=o.guard) (tm:=tm') (tm1:=tm) (fun j b hg=>(hr j (ZdY hg)).symm),hw]
    rw[if_pos hf,<-Zgh (tm:=tm) (tm':=tm') (fun n hn=>hr n (ZgJ hn)),he]
   ·cases h
  ·cases h
theorem ZhM{o:AOp}{v:AVal}{c:Cls}(h:ZC O bf o sq tm σ=some (v,tm1,σ1,c))(hn:Zdx c=true) :
  ∃ ob,tm1=tput tm o.dst v/\σ1=ZaB σ sq ob/\(ob.isSome=true->nsite o.ins≠0/\freeAt σ sq=true)/\ob≠some .free/\ZeC σ c.rd /\
   ∀ tm' σ2,(∀ n∈o.reads,tget tm n=tget tm' n)->Agree σ σ2 c.rd->(nsite o.ins≠0->freeAt σ sq=true->freeAt σ2 sq=true)->ZC O bf o sq tm' σ2=some (v,tput tm' o.dst v,ZaB σ2 sq ob,c):=by
 simp only[Zdx,Xj,W7,WC]at hn
 unfold ZC at h
 split at h
 ·cases h
 ·rename_i hw
  simp only[Xa,Xc]at h
  obtain⟨rfl,rfl,rfl,rfl⟩:=h
  refine⟨none,rfl,rfl,by simp,by simp,Zdu,fun tm' σ2 hr _ _=>?_⟩
  simp only[ZC,ZdW (g:=o.guard) (tm:=tm') (tm1:=tm) (fun j b hg=>(hr j (ZdY hg)).symm),hw,ZaB]
 ·rename_i hw
  split at h
  ·rename_i hf
   split at h
   ·rename_i v' σ'' c' he
    simp only[Xa,Xc]at h
    obtain⟨rfl,rfl,rfl,rfl⟩:=h
    obtain⟨ob,e1,e2,e3,e4,e5⟩:=ZKI he hn.1 hn.2
    refine⟨ob,rfl,e1,fun ho=>⟨e2 ho,?_⟩,e3,e4,fun tm' σ2 hr hA hfr=>?_⟩
    ·have:=e2 ho
     simpa[this]using hf
    ·have hf2:(nsite o.ins==0 ||freeAt σ2 sq)=true:=by
      by_cases h0:nsite o.ins=0
      ·simp[h0]
      ·simp only[WQ,beq_iff_eq,h0,false_or]at hf ⊢
       exact hfr h0 hf
     simp only[ZC,ZdW (g:=o.guard) (tm:=tm') (tm1:=tm) (fun j b hg=>(hr j (ZdY hg)).symm),hw]
     have e5':execI O bf tm σ2 sq o.ins=some (v',ZaB σ2 sq ob,c'):=e5 σ2 hA
     rw[if_pos hf2,<-Zgh (tm:=tm) (tm':=tm') (fun n hn=>hr n (ZgJ hn)),e5']
   ·cases h
  ·cases h
theorem ZeS{s:Nat}:freeAt σ s=true↔σ[s]?=some .free:=by
 unfold freeAt
 split
 ·rename_i h;simp[h]
 ·rename_i h
  constructor
  ·intro h';cases h'
  ·intro h';exact absurd h' h
theorem Zjg{s t:Nat}{ob:Option Zx}(h:ob.isSome=true->s≠t):(ZaB σ s ob)[t]?=σ[t]?:=by
 cases ob with
 |none=>rfl
 |some b=>simp only[ZaB];rw[Xr,if_neg (h rfl)]
theorem ZEp{s t:Nat}{ob oc:Option Zx}(h:ob.isSome=true->oc.isSome=true->s≠t):ZaB (ZaB σ s ob) t oc=ZaB (ZaB σ t oc) s ob:=by
 cases ob with
 |none=>cases oc<;>rfl
 |some b =>
  cases oc with
  |none=>rfl
  |some c=>simp only[ZaB];exact WX b c (h rfl rfl)
theorem ZMU{x y:AVal}(h:Zsv x y=true):x=y:=by
 unfold Zsv at h
 split at h
 all_goals first
  |rfl
  |(cases h;done)
  |(simp only[Xj,decide_eq_true_eq,beq_iff_eq]at h;simp_all;done)
theorem Zj7{o:AOp}{v:AVal}{c:Cls}(hc:Za3 o.ins=true)(h:ZC O bf o sq tm σ=some (v,tm1,σ1,c)) :
  (Zbh o.guard tm=some false/\v=.tup []/\σ1=σ/\c={}) \/
  (Zbh o.guard tm=some true/\(nsite o.ins==0 ||freeAt σ sq)=true/\∃ f own view args,own<=nsite o.ins/\(∀ tm' σ2 v2 σ3 c2,(∀ n∈o.reads,tget tm n=tget tm' n)->(nsite o.ins==0 ||freeAt σ2 sq)=true->Zl O bf σ2 sq f own view args=some (v2,σ3,c2)->ZC O bf o sq tm' σ2=some (v2,tput tm' o.dst v2,σ3,c2))/\Zl O bf σ sq f own view args=some (v,σ1,c)):=by
 unfold ZC at h
 split at h
 ·cases h
 ·rename_i hw
  simp only[Xa,Xc]at h
  obtain⟨rfl,rfl,rfl,rfl⟩:=h
  exact Xp ⟨hw,rfl,rfl,rfl⟩
 ·rename_i hw
  split at h
  ·rename_i hf
   split at h
   ·rename_i v' σ'' c' he
    simp only[Xa,Xc]at h
    obtain⟨rfl,rfl,rfl,rfl⟩:=h
    refine Xt ⟨hw,hf,?_⟩
    have gen:∀ tm' σ2,(∀ n∈o.reads,tget tm n=tget tm' n)->(nsite o.ins==0 ||freeAt σ2 sq)=true->∀ v2 σ3 c2,execI O bf tm σ2 sq o.ins=some (v2,σ3,c2)->ZC O bf o sq tm' σ2=some (v2,tput tm' o.dst v2,σ3,c2):=by
     intro tm' σ2 hr hf2 v2 σ3 c2 he2
     simp only[ZC,ZdW (g:=o.guard) (tm:=tm') (tm1:=tm) (fun j b hg=>(hr j (ZdY hg)).symm),hw]
     rw[if_pos hf2,<-Zgh (tm:=tm) (tm':=tm') (fun n hn=>hr n (ZgJ hn)),he2]
    cases hins:o.ins with
    |call f own view args =>
     rw[hins]at he gen
     simp only[execI]at he gen
     refine⟨f,own,view,args.map (·.ev tm),XD _,fun tm' σ2 v2 σ3 c2 hr hf2 h2=>?_,he⟩
     exact gen tm' σ2 hr hf2 v2 σ3 c2 h2
    |callv x args =>
     rw[hins]at he gen
     simp only[execI]at he
     split at he
     ·rename_i f caps hx
      refine⟨(if f<1000000 then f else f-1000000),4,false,(if f<1000000 then args.map (·.ev tm)++caps else caps++args.map (·.ev tm)),by simp[nsite],fun tm' σ2 v2 σ3 c2 hr hf2 h2=>?_,he⟩
      refine gen tm' σ2 hr hf2 v2 σ3 c2 ?_
      simp only[execI,hx]
      exact h2
     ·cases he
    |_=>rw[hins]at hc;simp[Za3]at hc
   ·cases h
  ·cases h
theorem ZEy{o:AOp}{v:AVal}{c:Cls}{s:Nat}(hc:Za3 o.ins=true)(h:ZC O bf o sq tm σ=some (v,tm1,σ1,c))(hs:σ1[s]?=some .free)(hne:∀ i,i<nsite o.ins->sq+i≠s) :
  σ[s]?=some .free/\∀ b tm',(∀ n∈o.reads,tget tm n=tget tm' n)->ZC O bf o sq tm' (σ.set s b)=some (v,tput tm' o.dst v,σ1.set s b,c):=by
 have h0:=h
 rcases Zj7 hc h with⟨hw,rfl,rfl,rfl⟩ |⟨hw,hf,f,own,view,args,ho,gen,hg⟩
 ·refine⟨hs,fun b tm' hr=>?_⟩
  simp only[ZC,ZdW (g:=o.guard) (tm:=tm') (tm1:=tm) (fun j b hg=>(hr j (ZdY hg)).symm),hw]
 ·obtain⟨k1,k2⟩:=Zy1 (b:=.free) hg hs (fun i hi=>hne i (by omega))
  refine⟨k1,fun b tm' hr=>gen tm' _ _ _ _ hr ?_ (Zy1 (b:=b) hg hs (fun i hi=>hne i (by omega))).2⟩
  by_cases h0:nsite o.ins=0
  ·simp[h0]
  ·simp only[WQ,beq_iff_eq,h0,false_or,ZeS]at hf ⊢
   have:=hne 0 (by omega)
   rw[Xr,if_neg (by intro e;exact this (by simpa using e.symm))]
   exact hf
theorem ZIA{o:AOp}{v:AVal}{c:Cls}{s:Nat}(hc:Za3 o.ins=true)(h:ZC O bf o sq tm σ=some (v,tm1,σ1,c))(hs:σ1[s]?=some .free):σ[s]?=some .free:=by
 rcases Zj7 hc h with⟨hw,rfl,rfl,rfl⟩ |⟨hw,hf,f,own,view,args,ho,gen,hg⟩
 ·exact hs
 ·exact ZCr hg hs
theorem ZKn{o:AOp}{v:AVal}{c:Cls}{t:Nat}{cs:List AVal}(hc:Za3 o.ins=true)(h:ZC O bf o sq tm σ=some (v,tm1,σ1,c))(ha:c.any=true)(ht:σ[t]?=some (.var cs)) :
  (c.upd.lookup t=none->σ1[t]?=some (.var cs))/\(∀ cs2,c.upd.lookup t=some cs2->σ1[t]?=some (.var cs2)):=by
 rcases Zj7 hc h with⟨hw,rfl,rfl,rfl⟩ |⟨hw,hf,f,own,view,args,ho,gen,hg⟩
 ·cases ha
 ·exact ZCJ hg ha ht
theorem ZKH{o:AOp}{v:AVal}{c:Cls}{t:Nat}{ns:Zbg}(hc:Za3 o.ins=true)(h:ZC O bf o sq tm σ=some (v,tm1,σ1,c))(ha:c.any=true)(ht:Zbn σ t=some ns):∃ ms,Zbn σ1 t=some ms/\ns.length<=ms.length:=by
 rcases Zj7 hc h with⟨hw,rfl,rfl,rfl⟩ |⟨hw,hf,f,own,view,args,ho,gen,hg⟩
 ·cases ha
 ·exact ZMl hg ha ht
theorem ZR8 {σ σ1 : Za} {sq k bytes : Nat} {x y v : AVal} {c : Cls} {t : Nat} {cs : List AVal} (h : ZI σ sq k bytes x y = some (v, σ1, c)) (hs : sq ≠ t) (ht : σ[t]? = some (.var cs)) : σ1[t]? = some (.var cs) := by
  have key : ∀ (u : Nat) (b : Zx), (u = sq \/ ∃ b0, σ[u]? = some b0 /\ ∀ cs, b0 ≠ .var cs) -> (σ.set u b)[t]? = some (.var cs) := by
    intro u b hu
    rw [Xr, if_neg, ht]
    rintro rfl
    rcases hu with rfl | ⟨b0, h1, h2⟩
    . exact hs rfl
    . rw [ht] at h1; injection h1 with h1; exact h2 _ h1.symm
  unfold ZI at h
  repeat' split at h
  all_goals first
    | (cases h; done)
    | (unfold Zfa at h
       repeat' split at h
       all_goals first
         | (cases h; done)
         | (simp only [Xa, Xc] at h
            obtain ⟨-, rfl, -⟩ := h
            first
              | exact key _ _ (Xp rfl)
              | exact key _ _ (Xt ⟨_, by assumption, by simp⟩)))
    | (simp only [Xa, Xc] at h
       obtain ⟨-, rfl, -⟩ := h
       first
         | exact ht
         | exact key _ _ (Xp rfl)
         | exact key _ _ (Xt ⟨_, by assumption, by simp⟩))
theorem ZKi{o:AOp}{v:AVal}{c:Cls}{t:Nat}{cs:List AVal}(hc:Zby o.ins=true)(h:ZC O bf o sq tm σ=some (v,tm1,σ1,c))(ht:σ[t]?=some (.var cs)):σ1[t]?=some (.var cs):=by
 unfold ZC at h
 split at h
 ·cases h
 ·simp only[Xa,Xc]at h
  obtain⟨rfl,rfl,rfl,rfl⟩:=h
  exact ht
 ·split at h
  ·rename_i hf
   split at h
   ·rename_i v' σ'' c' he
    simp only[Xa,Xc]at h
    obtain⟨rfl,rfl,rfl,rfl⟩:=h
    cases hins:o.ins with
    |app k bytes z x y =>
     rw[hins]at he hf
     simp only[execI]at he
     refine ZR8 he ?_ ht
     rintro rfl
     simp[nsite,freeAt,ht]at hf
    |_=>rw[hins]at hc;simp[Zby]at hc
   ·cases h
  ·cases h
theorem Zyk {σ σ1 : Za} {sq k bytes : Nat} {x y v : AVal} {c : Cls} {s : Nat} (h : ZI σ sq k bytes x y = some (v, σ1, c)) (hs : σ1[s]? = some .free) : σ[s]? = some .free := by
  have key : ∀ (u : Nat) (b0 : Zx), b0 ≠ .free -> (σ.set u b0)[s]? = some .free -> σ[s]? = some .free := by
    intro u b0 hb hh
    rw [Xr] at hh
    split at hh
    . split at hh
      . injection hh with hh; exact absurd hh hb
      . cases hh
    . exact hh
  unfold ZI at h
  repeat' split at h
  all_goals first
    | (cases h; done)
    | (unfold Zfa at h
       repeat' split at h
       all_goals first
         | (cases h; done)
         | (simp only [Xa, Xc] at h
            obtain ⟨-, rfl, -⟩ := h
            exact key _ _ (by simp) hs))
    | (simp only [Xa, Xc] at h
       obtain ⟨-, rfl, -⟩ := h
       first
         | exact hs
         | exact key _ _ (by simp) hs)
theorem ZFn {σ σ1 : Za} {sq k bytes : Nat} {x y v : AVal} {c : Cls} {s : Nat} (ha : c.any = false) (h : ZI σ sq k bytes x y = some (v, σ1, c)) (hs : σ[s]? = some .free) (hne : sq ≠ s) (b : Zx) : ZI (σ.set s b) sq k bytes x y = some (v, σ1.set s b, c) := by
  have get : ∀ (t : Nat) (b0 : Zx), σ[t]? = some b0 -> b0 ≠ .free -> (σ.set s b)[t]? = some b0 /\ s ≠ t := by
    intro t b0 h1 h2
    have hst : s ≠ t := by
      rintro rfl
      rw [hs] at h1; injection h1 with h1; exact h2 h1.symm
    exact ⟨by rw [XS hst]; exact h1, hst⟩
  have hel : ∀ ys us, Zq σ y = some (ys, us) -> Zq (σ.set s b) y = some (ys, us) := by
    intro ys us he
    unfold Zq at he ⊢
    split at he
    . exact he
    . exact he
    . split at he
      . rename_i hr
        rw [(get _ _ hr (by simp)).1]; exact he
      . rename_i hr
        rw [(get _ _ hr (by simp)).1]; exact he
      . cases he
    . cases he
  unfold ZI at h
  cases he : Zq σ y with
  | none =>
    rw [he] at h
    simp only at h
    unfold Zfa at h
    repeat' split at h
    all_goals first
      | (cases h; done)
      | (simp only [Xa, Xc] at h
         obtain ⟨-, -, rfl⟩ := h
         cases ha)
  | some z =>
    obtain ⟨ys, us⟩ := z
    rw [he] at h
    simp only at h
    unfold ZI
    rw [hel _ _ he]
    simp only
    split at h
    case isFalse => cases h
    rename_i hk
    rw [if_pos hk]
    split at h
    . split at h
      case isFalse => cases h
      rename_i h1
      simp only [Xa, Xc] at h
      obtain ⟨rfl, rfl, rfl⟩ := h
      simp only [h1, if_true]
      rw [WX _ _ hne]
    . split at h
      case isFalse => cases h
      rename_i h1
      simp only [h1, and_self, if_true]
      split at h
      . simp only [Xa, Xc] at h
        obtain ⟨rfl, rfl, rfl⟩ := h
        rfl
      . simp only [Xa, Xc] at h
        obtain ⟨rfl, rfl, rfl⟩ := h
        rw [WX _ _ hne]
    . split at h
      . rename_i hr
        obtain ⟨g1, g2⟩ := get _ _ hr (by simp)
        rw [g1]
        simp only
        split at h
        case isFalse => cases h
        rename_i h1
        rw [if_pos h1]
        split at h
        . rename_i h2
          rw [if_pos h2]
          simp only [Xa, Xc] at h
          obtain ⟨rfl, rfl, rfl⟩ := h
          rw [WX _ _ g2]
        . rename_i h2
          rw [if_neg h2]
          split at h
          case isFalse => cases h
          rename_i h3
          rw [if_pos h3]
          simp only [Xa, Xc] at h
          obtain ⟨rfl, rfl, rfl⟩ := h
          rw [WX _ _ g2]
      . rename_i hr
        obtain ⟨g1, g2⟩ := get _ _ hr (by simp)
        rw [g1]
        simp only
        split at h
        case isFalse => cases h
        rename_i h1
        rw [if_pos h1]
        simp only [Xa, Xc] at h
        obtain ⟨rfl, rfl, rfl⟩ := h
        rw [WX _ _ g2]
      . cases h
    . cases h
theorem Ztp{o:AOp}{v:AVal}{c:Cls}(hc:Zby o.ins=true)(h:ZC O bf o sq tm σ=some (v,tm1,σ1,c)) :
  (Zbh o.guard tm=some false/\v=.tup []/\σ1=σ/\c={})\/(freeAt σ sq=true/\∃ k bytes x y,ZI σ sq k bytes x y=some (v,σ1,c)/\∀ tm' σ2 v2 σ3 c2,(∀ n∈o.reads,tget tm n=tget tm' n)->freeAt σ2 sq=true->ZI σ2 sq k bytes x y=some (v2,σ3,c2)->ZC O bf o sq tm' σ2=some (v2,tput tm' o.dst v2,σ3,c2)):=by
 unfold ZC at h
 split at h
 ·cases h
 ·rename_i hw
  simp only[Xa,Xc]at h
  obtain⟨rfl,rfl,rfl,rfl⟩:=h
  exact Xp ⟨hw,rfl,rfl,rfl⟩
 ·rename_i hw
  split at h
  ·rename_i hf
   split at h
   ·rename_i v' σ'' c' he
    simp only[Xa,Xc]at h
    obtain⟨rfl,rfl,rfl,rfl⟩:=h
    cases hins:o.ins with
    |app k bytes z x y =>
     have he0:=he
     rw[hins]at he hf
     simp only[execI]at he
     refine Xt ⟨by simpa[nsite]using hf,k,bytes,_,_,he,fun tm' σ2 v2 σ3 c2 hr hf2 h2=>?_⟩
     simp only[ZC,ZdW (g:=o.guard) (tm:=tm') (tm1:=tm) (fun j b hg=>(hr j (ZdY hg)).symm),hw]
     rw[if_pos (by rw[hf2];simp),<-Zgh (tm:=tm) (tm':=tm') (fun n hn=>hr n (ZgJ hn)),hins]
     simp only[execI,h2]
    |_=>rw[hins]at hc;simp[Zby]at hc
   ·cases h
  ·cases h
theorem Zsc{t:Nat}{cs:List AVal}:∀ (ts:List Nat) (σ:Za),σ[t]?=some (.var cs)->(Zj σ ts)[t]?=some (.var cs)
 | [],σ,h=>h
 |u::ts,σ,h=>by
  unfold Zj
  split
  ·rename_i g k xs hu
   refine Zsc ts _ ?_
   rw[Xr,if_neg,h]
   rintro rfl
   rw[hu]at h;cases h
  ·exact Zsc ts σ h
theorem ZQ6 {σ σ1 : Za} {k : Nat} {a x v : AVal} {c : Cls} {t : Nat} {cs : List AVal} (h : stA σ k a x = some (v, σ1, c)) (hw : c.wr.contains t = false) (ht : σ[t]? = some (.var cs)) : σ1[t]? = some (.var cs) := by
  unfold stA at h
  repeat' split at h
  all_goals first
    | (cases h; done)
    | (simp only [Xa, Xc] at h
       obtain ⟨-, rfl, rfl⟩ := h
       simp only [WP, WZ, XaB, Xaa, beq_eq_false_iff_ne, ne_eq] at hw
       first
         | (rw [Xr, if_neg (fun e => hw e.symm)]; exact ht)
         | (rw [Xr, if_neg (fun e => hw.1 e.symm)]; exact Zsc _ _ ht))
theorem ZGj {σ σ1 : Za} {s kc : Nat} {z m k v : AVal} {c : Cls} {t : Nat} {cs : List AVal} (hs : σ[s]? = some .free) (h : Zgg σ s kc z m k = some (v, σ1, c)) (hw : c.wr.contains t = false) (ht : σ[t]? = some (.var cs)) : σ1[t]? = some (.var cs) := by
  have hne : t ≠ s := by rintro rfl; rw [hs] at ht; cases ht
  unfold Zgg at h
  repeat' split at h
  all_goals first
    | (cases h; done)
    | (simp only [Xa, Xc] at h
       obtain ⟨-, rfl, rfl⟩ := h
       simp only [WP, WZ, XaB, beq_eq_false_iff_ne, ne_eq] at hw
       first
         | exact ht
         | (rw [Xr, if_neg (fun e => hw e.symm), Xr, if_neg (fun e => hne e.symm)]; exact ht))
theorem ZE5 {σ σ1 : Za} {s kc : Nat} {z m k v : AVal} {c : Cls} {t : Nat} (h : Zgg σ s kc z m k = some (v, σ1, c)) (hw : c.wr.contains t = false) (hne : t ≠ s) : σ1[t]? = σ[t]? := by
  unfold Zgg at h
  repeat' split at h
  all_goals first
    | (cases h; done)
    | (simp only [Xa, Xc] at h
       obtain ⟨-, rfl, rfl⟩ := h
       simp only [WP, WZ, XaB, beq_eq_false_iff_ne, ne_eq] at hw
       first
         | rfl
         | (rw [Xr, if_neg (fun e => hw e.symm), Xr, if_neg (fun e => hne e.symm)]))
theorem Zst{t:Nat}:∀ (ts:List Nat) (σ:Za),ts.contains t=false->(Zj σ ts)[t]?=σ[t]?
 | [],σ,_=>rfl
 |u::ts,σ,h=>by
  simp only[WP,Xaa,beq_eq_false_iff_ne,ne_eq]at h
  unfold Zj
  split
  ·rw[Zst ts _ h.2,Xr,if_neg (fun e=>h.1 e.symm)]
  ·exact Zst ts _ h.2
theorem ZJC {σ σ1 : Za} {k : Nat} {a x v : AVal} {c : Cls} {t : Nat} (h : stA σ k a x = some (v, σ1, c)) (hw : c.wr.contains t = false) : σ1[t]? = σ[t]? := by
  unfold stA at h
  repeat' split at h
  all_goals first
    | (cases h; done)
    | (simp only [Xa, Xc] at h
       obtain ⟨-, rfl, rfl⟩ := h
       simp only [WP, WZ, XaB, Xaa, beq_eq_false_iff_ne, ne_eq] at hw
       first
         | (rw [Xr, if_neg (fun e => hw e.symm)])
         | (rw [Xr, if_neg (fun e => hw.1 e.symm)]; exact Zst _ _ hw.2))
theorem ZG5{o:AOp}{v:AVal}{c:Cls}{t:Nat}(hc:Zce o.ins=true)(h:ZC O bf o sq tm σ=some (v,tm1,σ1,c))(hw:c.wr.contains t=false)(hne:t≠sq):σ1[t]?=σ[t]?:=by
 unfold ZC at h
 split at h
 ·cases h
 ·simp only[Xa,Xc]at h
  obtain⟨rfl,rfl,rfl,rfl⟩:=h
  rfl
 ·split at h
  ·split at h
   ·rename_i v' σ'' c' he
    simp only[Xa,Xc]at h
    obtain⟨rfl,rfl,rfl,rfl⟩:=h
    cases hins:o.ins with
    |st k x y =>
     rw[hins]at he
     simp only[execI]at he
     exact ZJC he hw
    |glook kc z m k =>
     rw[hins]at he
     simp only[execI]at he
     exact ZE5 he hw hne
    |_=>rw[hins]at hc;simp[Zce]at hc
   ·cases h
  ·cases h
theorem ZSr{o:AOp}{v:AVal}{c:Cls}{t:Nat}{cs:List AVal}(hc:Zce o.ins=true)(hw:c.wr.contains t=false)(h:ZC O bf o sq tm σ=some (v,tm1,σ1,c))(ht:σ[t]?=some (.var cs)):σ1[t]?=some (.var cs):=by
 unfold ZC at h
 split at h
 ·cases h
 ·simp only[Xa,Xc]at h
  obtain⟨rfl,rfl,rfl,rfl⟩:=h
  exact ht
 ·split at h
  ·rename_i hf
   split at h
   ·rename_i v' σ'' c' he
    simp only[Xa,Xc]at h
    obtain⟨rfl,rfl,rfl,rfl⟩:=h
    cases hins:o.ins with
    |st k x y =>
     rw[hins]at he hf
     simp only[execI]at he
     exact ZQ6 he hw ht
    |glook kc z m k =>
     rw[hins]at he hf
     simp only[execI]at he
     exact ZGj (by simpa[nsite,ZeS]using hf) he hw ht
    |_=>rw[hins]at hc;simp[Zce]at hc
   ·cases h
  ·cases h
theorem Zoe {o : AOp} {v : AVal} {c ci : Cls} (hl : Zbd o.ins = true) (h : ZC O bf o sq tm σ = some (v, tm1, σ1, c)) (hg : ZbC c ci = true) :
    ∃ t k off, c.got = [(t, k, off, v)] /\ σ1 = σ /\ tm1 = tput tm o.dst v /\ (∀ tm' σ2, (∀ n ∈ o.reads, tget tm n = tget tm' n) -> (∃ cs, σ2[t]? = some (.var cs) /\ partA k cs off = some v) -> ZC O bf o sq tm' σ2 = some (v, tput tm' o.dst v, σ2, c)) /\ ∃ cs, σ[t]? = some (.var cs) /\ partA k cs off = some v := by
  unfold ZC at h
  split at h
  . cases h
  . simp only [Xa, Xc] at h
    obtain ⟨rfl, rfl, rfl, rfl⟩ := h
    simp [ZbC] at hg
  . rename_i hw
    split at h
    . rename_i hf
      split at h
      . rename_i v' σ'' c' he
        simp only [Xa, Xc] at h
        obtain ⟨rfl, rfl, rfl, rfl⟩ := h
        cases hins : o.ins with
        | ld k a =>
          rw [hins] at he hf
          simp only [execI] at he
          have he0 := he
          unfold ldA at he
          split at he
          . rename_i t off ha
            split at he
            . rename_i cs hcs
              split at he
              . rename_i v2 hp
                simp only [Xa, Xc] at he
                obtain ⟨rfl, rfl, rfl⟩ := he
                refine ⟨t, k, off, rfl, rfl, rfl, fun tm' σ2 hr ⟨cs2, h1, h2⟩ => ?_, cs, hcs, hp⟩
                simp only [ZC, ZdW (g := o.guard) (tm := tm') (tm1 := tm) (fun j b hg => (hr j (ZdY hg)).symm), hw]
                rw [if_pos (by rw [hins]; rfl), <- Zgh (tm := tm) (tm' := tm') (fun n hn => hr n (ZgJ hn)), hins]
                simp only [execI, ha, ldA, h1, h2]
              . cases he
            . cases he
          . repeat' split at he
            all_goals first
              | (cases he; done)
              | (simp only [Xa, Xc] at he
                 obtain ⟨rfl, rfl, rfl⟩ := he
                 simp [ZbC] at hg)
          . repeat' split at he
            all_goals first
              | (cases he; done)
              | (simp only [Xa, Xc] at he
                 obtain ⟨rfl, rfl, rfl⟩ := he
                 simp [ZbC] at hg)
          . repeat' split at he
            all_goals first
              | (cases he; done)
              | (simp only [Xa, Xc] at he
                 obtain ⟨rfl, rfl, rfl⟩ := he
                 simp [ZbC] at hg)
          . cases he
        | _ => rw [hins] at hl; simp [Zbd] at hl
      . cases h
    . cases h
theorem ZKd {o : AOp} {v : AVal} {c : Cls} (hl : Zbd o.ins = true) (h : ZC O bf o sq tm σ = some (v, tm1, σ1, c)) (hg : c.nd = true) :
    ∃ t j ns, Zbn σ t = some ns /\ j < ns.length /\ σ1 = σ /\ tm1 = tput tm o.dst v /\ (∀ tm' σ2, (∀ n ∈ o.reads, tget tm n = tget tm' n) -> (∃ ms, Zbn σ2 t = some ms /\ ns.length <= ms.length) -> ZC O bf o sq tm' σ2 = some (v, tput tm' o.dst v, σ2, c)) := by
  unfold ZC at h
  split at h
  . cases h
  . simp only [Xa, Xc] at h
    obtain ⟨rfl, rfl, rfl, rfl⟩ := h
    cases hg
  . rename_i hw
    split at h
    . rename_i hf
      split at h
      . rename_i v' σ'' c' he
        simp only [Xa, Xc] at h
        obtain ⟨rfl, rfl, rfl, rfl⟩ := h
        cases hins : o.ins with
        | ld k a =>
          rw [hins] at he hf
          simp only [execI] at he
          have he0 := he
          unfold ldA at he
          split at he
          case h_4 =>
            rename_i t j off ha
            split at he
            . rename_i ns hns
              split at he
              . rename_i nd hj
                split at he
                . rename_i ho
                  simp only [Xa, Xc] at he
                  obtain ⟨rfl, rfl, rfl⟩ := he
                  have hjl := (Xh.1 hj).1
                  refine ⟨t, j, ns, hns, hjl, rfl, rfl, fun tm' σ2 hr ⟨ms, h1, h2⟩ => ?_⟩
                  obtain ⟨nd2, hj2⟩ : ∃ nd2, ms[j]? = some nd2 := ⟨_, XB (by omega)⟩
                  simp only [ZC, ZdW (g := o.guard) (tm := tm') (tm1 := tm) (fun j b hg => (hr j (ZdY hg)).symm), hw]
                  rw [if_pos (by rw [hins]; rfl), <- Zgh (tm := tm) (tm' := tm') (fun n hn => hr n (ZgJ hn)), hins]
                  simp only [execI, ha, ldA, h1, hj2, ho, if_true]
                . cases he
              . cases he
            . cases he
          all_goals
            repeat' split at he
            all_goals first
              | (cases he; done)
              | (simp only [Xa, Xc] at he
                 obtain ⟨rfl, rfl, rfl⟩ := he
                 cases hg)
        | _ => rw [hins] at hl; simp [Zbd] at hl
      . cases h
    . cases h
theorem ZGx{o:AOp}{v:AVal}{c:Cls}{s:Nat}(hc:Za3 o.ins=true\/(Zby o.ins=true/\(!c.any)=true))(h:ZC O bf o sq tm σ=some (v,tm1,σ1,c))(hs:σ1[s]?=some .free):σ[s]?=some .free:=by
 rcases hc with hc |⟨hc,_⟩
 ·exact ZIA hc h hs
 ·rcases Ztp hc h with⟨_,_,rfl,_⟩ |⟨_,_,_,_,_,ha,_⟩
  ·exact hs
  ·exact Zyk ha hs
theorem ZJz{o:AOp}{v:AVal}{c:Cls}{s:Nat}(hc:Za3 o.ins=true\/(Zby o.ins=true/\(!c.any)=true))(h:ZC O bf o sq tm σ=some (v,tm1,σ1,c))(hs:σ1[s]?=some .free)(hne:∀ i,i<nsite o.ins->sq+i≠s) :
  σ[s]?=some .free/\∀ b tm',(∀ n∈o.reads,tget tm n=tget tm' n)->ZC O bf o sq tm' (σ.set s b)=some (v,tput tm' o.dst v,σ1.set s b,c):=by
 rcases hc with hc |⟨hc,hany⟩
 ·exact ZEy hc h hs hne
 ·have hn:sq≠s:=by
   have : nsite o.ins=1:=by
    cases hins:o.ins with
    |app k bytes z x y=>rfl
    |_=>rw[hins]at hc;simp[Zby]at hc
   simpa using hne 0 (by omega)
  rcases Ztp hc h with⟨hw,rfl,rfl,rfl⟩ |⟨hf,k,bytes,x,y,ha,gen⟩
  ·refine⟨hs,fun b tm' hr=>?_⟩
   simp only[ZC,ZdW (g:=o.guard) (tm:=tm') (tm1:=tm) (fun j b hg=>(hr j (ZdY hg)).symm),hw]
  ·have h0:=Zyk ha hs
   refine⟨h0,fun b tm' hr=>gen tm' _ _ _ _ hr ?_ (ZFn (by simpa using hany) ha h0 hn b)⟩
   rw[ZeS]at hf ⊢
   rw[XS (fun e=>hn e.symm)]
   exact hf
def Frz(σ σ2:Za):Prop:=∀ t:Nat,σ2[t]?=σ[t]?\/∃ (g k:Nat) (xs:List AVal),σ[t]?=some (Zx.row g k xs)/\σ2[t]?=some (Zx.frow g k xs)
theorem Frz.refl(σ:Za):Frz σ σ:=fun _=>Xp rfl
theorem Zmz:∀ (ts:List Nat) (σ:Za),Frz σ (Zj σ ts)
 | [],σ=>Frz.refl σ
 |t::ts,σ=>by
  unfold Zj
  split
  ·rename_i g k xs ht
   intro u
   have ih:=Zmz ts (σ.set t (.frow g k xs)) u
   have htl:t<σ.length:=(Xh.1 ht).1
   by_cases e:u=t
   ·subst e
    have e1:(σ.set u (.frow g k xs))[u]?=some (.frow g k xs):=by simp[htl]
    rw[e1]at ih
    rcases ih with ih |⟨_,_,_,ih,_⟩
    ·exact Xt ⟨g,k,xs,ht,ih⟩
    ·cases ih
   ·rw[XS (fun h=>e h.symm)]at ih
    exact ih
  ·exact Zmz ts σ
theorem ZuL {σ σ2 σ' : Za} {k : Option Nat} {a v : AVal} {c : Cls} (hf : Frz σ σ2) (h : ldA σ k a = some (v, σ', c)) : σ' = σ /\ ldA σ2 k a = some (v, σ2, c) := by
  unfold ldA at h ⊢
  split at h
  . rename_i t o
    rcases hf t with e | ⟨_, _, _, e1, _⟩
    . simp only [e]
      repeat' split at h
      all_goals first
        | (cases h; done)
        | (simp only [Xa, Xc] at h
           obtain ⟨rfl, rfl, rfl⟩ := h
           simp_all)
    . rw [e1] at h; cases h
  . rename_i t g i o
    rcases hf t with e | ⟨g1, k1, xs1, e1, e2⟩
    . simp only [e]
      repeat' split at h
      all_goals first
        | (cases h; done)
        | (simp only [Xa, Xc] at h
           obtain ⟨rfl, rfl, rfl⟩ := h
           simp_all)
    . simp only [e1] at h
      simp only [e2]
      repeat' split at h
      all_goals first
        | (cases h; done)
        | (simp only [Xa, Xc] at h
           obtain ⟨rfl, rfl, rfl⟩ := h
           simp_all)
  . repeat' split at h
    all_goals first
      | (cases h; done)
      | (simp only [Xa, Xc] at h
         obtain ⟨rfl, rfl, rfl⟩ := h
         simp_all)
  . rename_i t j o
    have e : Zbn σ2 t = Zbn σ t := by
      rcases hf t with e | ⟨g1, k1, xs1, e1, e2⟩
      . exact Zg5 e
      . unfold Zbn; rw [e1, e2]
    rw [e]
    repeat' split at h
    all_goals first
      | (cases h; done)
      | (simp only [Xa, Xc] at h
         obtain ⟨rfl, rfl, rfl⟩ := h
         simp_all)
  . cases h
theorem Zwj {σ σ2 σ' : Za} {k : Nat} {a i v : AVal} {c : Cls} (hf : Frz σ σ2) (h : Zct σ k a i = some (v, σ', c)) : σ' = σ /\ Zct σ2 k a i = some (v, σ2, c) := by
  unfold Zct at h ⊢
  split at h
  . split at h
    . rename_i h0
      rw [if_pos h0]
      split at h
      . repeat' split at h
        all_goals first
          | (cases h; done)
          | (simp only [Xa, Xc] at h
             obtain ⟨rfl, rfl, rfl⟩ := h
             simp_all)
      . rename_i t g p n
        rcases hf t with e | ⟨g1, k1, xs1, e1, e2⟩
        . simp only [e]
          repeat' split at h
          all_goals first
            | (cases h; done)
            | (simp only [Xa, Xc] at h
               obtain ⟨rfl, rfl, rfl⟩ := h
               simp_all)
        . simp only [e1] at h
          simp only [e2]
          repeat' split at h
          all_goals first
            | (cases h; done)
            | (simp only [Xa, Xc] at h
               obtain ⟨rfl, rfl, rfl⟩ := h
               simp_all)
      . cases h
    . cases h
  . cases h
theorem ZRC{o:AOp}{v:AVal}{c:Cls}(hl:ZcZ o.ins=true)(h:ZC O bf o sq tm σ=some (v,tm1,σ1,c)) :
  σ1=σ/\tm1=tput tm o.dst v/\∀ tm' σ2,(∀ n∈o.reads,tget tm n=tget tm' n)->Frz σ σ2->ZC O bf o sq tm' σ2=some (v,tput tm' o.dst v,σ2,c):=by
 unfold ZC at h
 split at h
 ·cases h
 ·rename_i hw
  simp only[Xa,Xc]at h
  obtain⟨rfl,rfl,rfl,rfl⟩:=h
  refine⟨rfl,rfl,fun tm' σ2 hr _=>?_⟩
  simp only[ZC,ZdW (g:=o.guard) (tm:=tm') (tm1:=tm) (fun j b hg=>(hr j (ZdY hg)).symm),hw]
 ·rename_i hw
  split at h
  ·rename_i hf
   split at h
   ·rename_i v' σ'' c' he
    simp only[Xa,Xc]at h
    obtain⟨rfl,rfl,rfl,rfl⟩:=h
    cases hins:o.ins with
    |ld k a =>
     rw[hins]at he
     simp only[execI]at he
     have e1:=(ZuL (Frz.refl σ) he).1
     subst e1
     refine⟨rfl,rfl,fun tm' σ2 hr hz=>?_⟩
     simp only[ZC,ZdW (g:=o.guard) (tm:=tm') (tm1:=tm) (fun j b hg=>(hr j (ZdY hg)).symm),hw]
     rw[if_pos (by rw[hins];rfl),<-Zgh (tm:=tm) (tm':=tm') (fun n hn=>hr n (ZgJ hn)),hins]
     simp only[execI,(ZuL hz he).2]
    |iaddr k x i =>
     rw[hins]at he
     simp only[execI]at he
     have e1:=(Zwj (Frz.refl σ) he).1
     subst e1
     refine⟨rfl,rfl,fun tm' σ2 hr hz=>?_⟩
     simp only[ZC,ZdW (g:=o.guard) (tm:=tm') (tm1:=tm) (fun j b hg=>(hr j (ZdY hg)).symm),hw]
     rw[if_pos (by rw[hins];rfl),<-Zgh (tm:=tm) (tm':=tm') (fun n hn=>hr n (ZgJ hn)),hins]
     simp only[execI,(Zwj hz he).2]
    |_=>rw[hins]at hl;simp[ZcZ]at hl
   ·cases h
  ·cases h
theorem ZEg{o:AOp}{v:AVal}{c:Cls}(hl:ZcQ o.ins=true)(h:ZC O bf o sq tm σ=some (v,tm1,σ1,c)):Frz σ σ1:=by
 unfold ZC at h
 split at h
 ·cases h
 ·simp only[Xa,Xc]at h
  obtain⟨rfl,rfl,rfl,rfl⟩:=h
  exact Frz.refl _
 ·split at h
  ·split at h
   ·rename_i v' σ'' c' he
    simp only[Xa,Xc]at h
    obtain⟨rfl,rfl,rfl,rfl⟩:=h
    cases hins:o.ins with
    |bslice own k n z parts =>
     rw[hins]at hl he
     simp only[ZcQ,WC]at hl
     subst hl
     simp only[execI]at he
     split at he
     ·cases he
     ·rename_i ys ts hv
      split at he
      ·simp only[Xl,if_false,Xa,Xc]at he
       obtain⟨_,rfl,_⟩:=he
       exact Zmz ts σ
      ·cases he
    |_=>rw[hins]at hl;simp[ZcQ]at hl
   ·cases h
  ·cases h
theorem ZL0{f own:Nat}{view:Bool}{args:List AVal}{v:AVal}{c:Cls}(h:Zl O bf σ sq f own view args=some (v,σ',c))(ha:c.any=true){t:Nat}{cs:List AVal}(hn:c.upd.lookup t=none)(hlt:t<sq)(ht:σ'[t]?=some (.var cs)):σ[t]?=some (.var cs):=by
 unfold Zl at h
 split at h
 ·cases h
 rename_i xs ts hsh
 generalize hids:reach (Zj σ ts) 1000 (refsL xs) []=ids at h
 unfold Zbl at h
 split at h
 case isFalse=>cases h
 generalize ZO view ids.length (O f (renL (rhoOf (Zj σ ts) 0 ids) xs) (heapOf (Zj σ ts) 0 ids (rhoOf (Zj σ ts) 0 ids) ids 0))=q at h
 cases q with
 |none=>simp only[Z8]at h;cases h
 |some q =>
  obtain⟨r,hp⟩:=q
  simp only[Z8]at h
  split at h
  ·split at h
   ·simp only[Xa,Xc]at h
    rw[<-h.2.2]at ha;cases ha
   split at h
   ·simp only[Xa,Xc]at h
    rw[<-h.2.2]at ha;cases ha
   ·simp only[Xa,Xc]at h
    rw[<-h.2.2]at ha;cases ha
  ·split at h
   ·simp only[Xa,Xc]at h
    rw[<-h.2.2]at ha;cases ha
   split at h
   ·simp only[Xa,Xc]at h
    rw[<-h.2.2]at ha;cases ha
   split at h
   ·rename_i hcc
    simp only[Xa,Xc]at h
    obtain⟨_,rfl,rfl⟩:=h
    have hm:t∉ids:=fun hm=>Zml hn hm ht
    rw[Zjk (fun i hi e=>by
     rw[Xv]at e
     unfold Zay at e
     rw[Xi]at e
     rcases Xax i ids.length with hl |hl
     ·rw[XB hl]at e
      simp only[WS]at e
      exact hm (e ▸ Xap hl)
     ·rw[X6 hl]at e
      simp only[Xaq]at e
      omega)]at ht
    rcases Zmz ts σ t with e |⟨g1,k1,xs1,e1,e2⟩
    ·rw[<-e];exact ht
    ·rw[e2]at ht;cases ht
   ·cases h
theorem ZKR{o:AOp}{v:AVal}{c:Cls}{t:Nat}{cs:List AVal}(hc:Za3 o.ins=true)(h:ZC O bf o sq tm σ=some (v,tm1,σ1,c))(ha:c.any=true)(hn:c.upd.lookup t=none)(hlt:t<sq)(ht:σ1[t]?=some (.var cs)):σ[t]?=some (.var cs):=by
 rcases Zj7 hc h with⟨hw,rfl,rfl,rfl⟩ |⟨hw,hf,f,own,view,args,ho,gen,hg⟩
 ·cases ha
 ·exact ZL0 hg ha hn hlt ht
theorem ZGW {σ σ1 : Za} {sq k bytes : Nat} {x y v : AVal} {c : Cls} (h : ZI σ sq k bytes x y = some (v, σ1, c)) (ha : c.any = false) {t : Nat} (hw : c.wr.contains t = false) (hs : t ≠ sq) : σ1[t]? = σ[t]? := by
  unfold ZI at h
  split at h
  . unfold Zfa at h
    repeat' split at h
    all_goals first
      | (cases h; done)
      | (simp only [Xa, Xc] at h
         obtain ⟨_, _, rfl⟩ := h
         cases ha)
  . repeat' split at h
    all_goals first
      | (cases h; done)
      | (simp only [Xa, Xc] at h
         obtain ⟨_, rfl, rfl⟩ := h
         first
         | rfl
         | (rw [XS (fun e => hs e.symm)])
         | (rw [XS (by rintro rfl; simp at hw)]))
theorem ZwH{oj oi:AOp}{sj si:Nat}{vj vi:AVal}{cj ci:Cls}(hj:ZC O bf oj sj tm σ=some (vj,tm1,σ1,cj))(hi:ZC O bf oi si tm1 σ1=some (vi,tm2,σ2,ci))(hap:oj.apartT oi=true)
  (hp:ZcK oj oi cj ci sj=true) (hs:nsite oj.ins≠0->nsite oi.ins≠0->sj≠si) (hs2:sj+nsite oj.ins<=si):∃ tm1' σ1',ZC O bf oi si tm σ=some (vi,tm1',σ1',ci)/\ZC O bf oj sj tm1' σ1'=some (vj,tm2,σ2,cj):=by
 have hd:(∀ d,oj.dst=some d->d∉oi.reads)/\(∀ d,oj.dst=some d->oi.dst≠some d)/\(∀ d,oi.dst=some d->d∉oj.reads):=by
  unfold AOp.apartT at hap
  simp only[Xj]at hap
  refine⟨fun d hd hr=>?_,fun d hd he=>?_,fun d hd hr=>?_⟩
  ·have:=hap.1;rw[hd]at this;simp[hr]at this
  ·have:=hap.1;rw[hd]at this;simp[he]at this
  ·have:=hap.2;rw[hd]at this;simp[hr]at this
 obtain⟨d1,d2,d3⟩:=hd
 have rdI:∀ v n,n∈oi.reads->tget (tput tm oj.dst v) n=tget tm n:=fun v n hn=>Zve (by intro e;exact d1 n e hn)
 have rdJ:∀ v n,n∈oj.reads->tget tm n=tget (tput tm oi.dst v) n:=fun v n hn=>(Zve (by intro e;exact d3 n e hn)).symm
 unfold ZcK at hp
 simp only[WQ,Xj]at hp
 have noWr_of:∀ {o:AOp} {c:Cls},Zcw o c=true->Zdx c=true/\c.rd=[]/\nsite o.ins=0:=by
  intro o c h
  simp only[Zcw,Xj,beq_iff_eq,W7]at h
  exact⟨by simp[Zdx,h.1.2,h.2],h.1.1.2,h.1.1.1⟩
 rcases hp with((((((((hp |hp) |⟨⟨hp1,hp2⟩,hp3⟩) |⟨hp1,hp2,hp3⟩) |⟨⟨⟨hp1,hp2⟩,hp3⟩,hp4⟩) |⟨⟨hp1,hp2⟩,hp4⟩) |⟨hp1,hp2⟩) |⟨⟨⟨hp1,hp2⟩,hp3⟩,hp4⟩) |⟨⟨⟨hp1,hp3⟩,hp4⟩,hp5⟩) |⟨⟨⟨hp1,hp2⟩,hp3⟩,hp4⟩
 ·obtain⟨w1,w2,w3⟩:=noWr_of hp
  obtain⟨ob,rfl,rfl,e3,_,_,e6⟩:=ZhM hj w1
  have hob:ob=none:=by
   cases ob with
   |none=>rfl
   |some b=>exact absurd w3 (e3 rfl).1
  subst hob
  simp only[ZaB]at hi e6 ⊢
  obtain⟨rfl,f2⟩:=ZfK hi
  have g1:=f2 tm (rdI vj)
  refine⟨_,_,g1,?_⟩
  rw[e6 _ σ2 (rdJ vi) (by rw[w2];intro t ht;simp at ht) (fun h=>absurd w3 h),ZeA vi vj (fun d hd he=>d2 d he hd)]
 ·obtain⟨w1,w2,w3⟩:=noWr_of hp
  obtain⟨ob,rfl,rfl,e3,_,_,e6⟩:=ZhM hi w1
  have hob:ob=none:=by
   cases ob with
   |none=>rfl
   |some b=>exact absurd w3 (e3 rfl).1
  subst hob
  simp only[ZaB]at e6 ⊢
  obtain⟨rfl,f2⟩:=ZfK hj
  have g1:=e6 tm σ (rdI vj) (by rw[w2];intro t ht;simp at ht) (fun h=>absurd w3 h)
  refine⟨_,_,g1,?_⟩
  rw[f2 _ (rdJ vi),ZeA vi vj (fun d hd he=>d2 d he hd)]
 ·obtain⟨ob,rfl,rfl,a3,a4,a5,a6⟩:=ZhM hj hp1
  obtain⟨oc,rfl,rfl,b3,b4,b5,b6⟩:=ZhM hi hp2
  have hsne:ob.isSome=true->nsite oi.ins≠0->sj≠si:=fun h1 h2=>hs (a3 h1).1 h2
  have hrdi:∀ t∈ci.rd,ob.isSome=true->sj≠t:=by
   intro t ht ho e
   subst e
   rcases hp3 with hp3 |hp3
   ·exact(a3 ho).1 (by simpa using hp3)
   ·simp[ht]at hp3
  have g1:=b6 tm σ (rdI vj) (fun t ht=>(Zjg (hrdi t ht)).symm) (fun h2 hf=>by
   rw[ZeS]at hf ⊢
   rwa [Zjg (fun ho=>hsne ho h2)]at hf)
  refine⟨_,_,g1,?_⟩
  have hsi:oc.isSome=true->σ[si]?=some .free:=by
   intro ho
   have:=(b3 ho).2
   rw[ZeS,Zjg (fun ho'=>hsne ho' (b3 ho).1)]at this
   exact this
  rw[a6 _ (ZaB σ si oc) (rdJ vi) (fun t ht=>Zjg (fun ho e=>by
   subst e
   obtain⟨x,hx,hne⟩:=a5 si ht
   rw[hsi ho]at hx;injection hx with hx;exact hne hx.symm)) (fun h1 hf=>by
   rw[ZeS]at hf ⊢
   rwa [Zjg (fun ho=>(hs h1 (b3 ho).1).symm)]),ZeA vi vj (fun d hd he=>d2 d he hd),ZEp (fun h1 h2=>(hs (a3 h2).1 (b3 h1).1).symm)]
 ·obtain⟨oc,rfl,rfl,b3,b4,b5,b6⟩:=ZhM hi hp2
  have hrd:ci.rd=[]:=by simpa using hp3
  obtain⟨rfl,f2⟩:=ZfK hj
  cases oc with
  |none =>
   simp only[ZaB]at b6 ⊢
   have g1:=b6 tm σ (rdI vj) (by rw[hrd];intro t ht;simp at ht) (fun h1 h2=>by
    rw[ZeS]at h2 ⊢
    exact ZGx hp1 hj h2)
   refine⟨_,_,g1,?_⟩
   rw[f2 _ (rdJ vi),ZeA vi vj (fun d hd he=>d2 d he hd)]
  |some b =>
   have hfr:=(b3 rfl).2
   rw[ZeS]at hfr
   obtain⟨k1,k2⟩:=ZJz hp1 hj hfr (fun i hi=>by omega)
   have g1:=b6 tm σ (rdI vj) (by rw[hrd];intro t ht;simp at ht) (fun h1 h2=>by
    rw[ZeS]at h2 ⊢;exact k1)
   refine⟨_,_,g1,?_⟩
   have:=k2 b (tput tm oi.dst vi) (rdJ vi)
   simp only[ZaB]
   rw[this,ZeA vi vj (fun d hd he=>d2 d he hd)]
 ·obtain⟨t,k,o,q1,rfl,rfl,q4,q5⟩:=Zoe hp1 hj hp4
  obtain⟨rfl,f2⟩:=ZfK hi
  have g1:=f2 tm (rdI vj)
  refine⟨_,_,g1,?_⟩
  obtain⟨cs,q6,q7⟩:=q5
  obtain⟨r1,r2⟩:=ZKn hp2 hi hp3 q6
  have hv:∃ cs,σ2[t]?=some (.var cs)/\partA k cs o=some vj:=by
   unfold ZbC at hp4
   rw[q1]at hp4
   simp only at hp4
   split at hp4
   ·rename_i hl;exact⟨cs,r1 hl,q7⟩
   ·rename_i cs2 hl
    split at hp4
    ·rename_i u hu
     rw[ZMU hp4]at hu
     exact⟨cs2,r2 cs2 hl,hu⟩
    ·cases hp4
  rw[q4 _ σ2 (rdJ vi) hv,ZeA vi vj (fun d hd he=>d2 d he hd)]
 ·obtain⟨t,k,o,q1,rfl,rfl,q4,q5⟩:=Zoe hp1 hj hp4
  obtain⟨rfl,f2⟩:=ZfK hi
  have g1:=f2 tm (rdI vj)
  refine⟨_,_,g1,?_⟩
  obtain⟨cs,q6,q7⟩:=q5
  have hk:σ2[t]?=some (.var cs):=by
   rcases hp2 with hp2 |⟨hp2,hp3⟩
   ·exact ZKi hp2 hi q6
   ·refine ZSr hp2 ?_ hi q6
    unfold Zc8 at hp3
    rw[q1]at hp3
    simpa using hp3
  rw[q4 _ σ2 (rdJ vi) ⟨cs,hk,q7⟩,ZeA vi vj (fun d hd he=>d2 d he hd)]
 ·obtain⟨rfl,rfl,q⟩:=ZRC hp1 hj
  obtain⟨rfl,f2⟩:=ZfK hi
  have g1:=f2 tm (rdI vj)
  refine⟨_,_,g1,?_⟩
  rw[q _ σ2 (rdJ vi) (ZEg hp2 hi),ZeA vi vj (fun d hd he=>d2 d he hd)]
 ·have hgot:∃ t0 k0 o0 v0,ci.got=[(t0,k0,o0,v0)]/\t0<sj/\cj.upd.lookup t0=none:=by
   unfold Zc6 at hp4
   split at hp4
   ·rename_i t0 k0 o0 v0 hg
    simp only[Xj,decide_eq_true_eq,Option.isNone_iff_eq_none]at hp4
    exact⟨t0,k0,o0,v0,hg,hp4.1,hp4.2⟩
   ·cases hp4
  obtain⟨t0,k0,o0,v0,hg,hlt,hnone⟩:=hgot
  have hg0:ZbC ci {}=true:=by
   unfold ZbC
   rw[hg]
   rfl
  obtain⟨rfl,f2⟩:=ZfK hj
  obtain⟨t,k,o,q1,rfl,rfl,q4,cs,q6,q7⟩:=Zoe hp2 hi hg0
  rw[hg]at q1
  injection q1 with q1 _
  injection q1 with q1 _
  subst q1
  have hk:=ZKR hp1 hj hp3 hnone hlt q6
  have g1:=q4 tm σ (rdI vj) ⟨cs,hk,q7⟩
  refine⟨_,_,g1,?_⟩
  rw[f2 _ (rdJ vi),ZeA vi vj (fun d hd he=>d2 d he hd)]
 ·obtain⟨oc,rfl,rfl,b3,b4,b5,b6⟩:=ZhM hi hp3
  have hn0:nsite oi.ins=0:=by simpa using hp4
  have hoc:oc=none:=by
   cases oc with
   |none=>rfl
   |some b=>exact absurd hn0 (b3 rfl).1
  subst hoc
  simp only[ZaB]at b6 ⊢
  obtain⟨rfl,f2⟩:=ZfK hj
  have far:∀ t∈ci.rd,σ[t]?=σ1[t]?:=by
   intro t ht
   have hq:=XF.1 hp5 t ht
   simp only[Xj,WC,bne_iff_ne,ne_eq]at hq
   rcases hp1 with⟨hp1,hp2⟩ |hp1
   ·rcases Ztp hp1 hj with⟨_,_,rfl,_⟩ |⟨_,_,_,_,_,ha,_⟩
    ·rfl
    ·exact(ZGW ha (by simpa using hp2) hq.1 hq.2).symm
   ·exact(ZG5 hp1 hj hq.1 hq.2).symm
  have g1:=b6 tm σ (rdI vj) far (fun h1 _=>absurd hn0 h1)
  refine⟨_,_,g1,?_⟩
  rw[f2 _ (rdJ vi),ZeA vi vj (fun d hd he=>d2 d he hd)]
 ·obtain⟨t,j,ns,q1,q2,rfl,rfl,q4⟩:=ZKd hp1 hj hp4
  obtain⟨rfl,f2⟩:=ZfK hi
  have g1:=f2 tm (rdI vj)
  refine⟨_,_,g1,?_⟩
  rw[q4 _ σ2 (rdJ vi) (ZKH hp2 hi hp3 q1),ZeA vi vj (fun d hd he=>d2 d he hd)]
inductive Zc1 (O:ZJ) (bf:Nat->Bool) (ops:List AOp) (L:Nat) (cs:List Cls):List Nat->Tms->Za->Tms->Za->Prop
 |nil {tm:Tms} {σ:Za}:Zc1 O bf ops L cs [] tm σ tm σ
 |cons {i:Nat} {l:List Nat} {v:AVal} {tm tm1 tm2:Tms} {σ σ1 σ2:Za}:ZC O bf (ops.getD i default) (L+sitesOf (ops.take i)) tm σ=some (v,tm1,σ1,cs.getD i {})->(∀ x,v≠.pan x)->Zc1 O bf ops L cs l tm1 σ1 tm2 σ2->Zc1 O bf ops L cs (i::l) tm σ tm2 σ2
theorem Zta(ops:List AOp){k:Nat}(h:k<ops.length):sitesOf (ops.take (k+1))=sitesOf (ops.take k)+nsite (ops[k]).ins:=by
 rw[List.take_succ_eq_append_getElem h]
 simp only[sitesOf,List.map_append,List.sum_append,List.map_cons,List.map_nil,List.sum_cons,List.sum_nil,Wg]
theorem ZvR{ops:List AOp}{L:Nat}:∀ (m k:Nat) {cs cs':List Cls} {tm:Tms} {σ:Za} {tm':Tms} {σ':Za},k+m=ops.length->ZN O bf (ops.drop k) (L+sitesOf (ops.take k)) tm σ=some (tm',σ',cs',none)->(∀ j,cs'.getD j {}=cs.getD (k+j) {})->Zc1 O bf ops L cs (XaI k m) tm σ tm' σ'
 |0,k,cs,cs',tm,σ,tm',σ',hk,h,hcs=>by
  rw[WJ (by omega)]at h
  simp only[ZN,Xa,Xc]at h
  obtain⟨rfl,rfl,rfl,_⟩:=h
  exact Zc1.nil
 |m+1,k,cs,cs',tm,σ,tm',σ',hk,h,hcs=>by
  have hlt:k<ops.length:=by omega
  rw[W1 hlt]at h
  simp only[ZN]at h
  split at h
  ·cases h
  ·simp only[Xa,Xc]at h
   obtain⟨_,_,_,h⟩:=h
   cases h
  rename_i v tm1 σ1 c hnp h1
  split at h
  ·cases h
  rename_i tm2 σ2 cs2 p h2
  simp only[Xa,Xc]at h
  obtain⟨rfl,rfl,rfl,rfl⟩:=h
  rw[Xbk]
  have hc0:=hcs 0
  simp only[X1,Wg]at hc0
  refine Zc1.cons (v:=v) (tm1:=tm1) (σ1:=σ1) ?_ (fun x e=>?_) (ZvR m (k+1) (by omega) (cs':=cs2) ?_ (fun j=>?_))
  ·rw[<-hc0]
   simpa[Xi,hlt]using h1
  ·exact hnp x e
  ·rw[Zta ops hlt,<-Wf];exact h2
  ·have:=hcs (j+1)
   simp only[Wq]at this
   rw[this]
   congr 1;omega
theorem ZnT{ops:List AOp}{L:Nat}{cs:List Cls}{i:Nat}{l2:List Nat}:∀ {l1:List Nat} {tm:Tms} {σ:Za} {tm':Tms} {σ':Za},(∀ j∈l1,(ops.getD j default).apartT (ops.getD i default)=true/\ZcK (ops.getD j default) (ops.getD i default) (cs.getD j {}) (cs.getD i {}) (L+sitesOf (ops.take j))=true/\(nsite (ops.getD j default).ins≠0->nsite (ops.getD i default).ins≠0->L+sitesOf (ops.take j)≠L+sitesOf (ops.take i))/\L+sitesOf (ops.take j)+nsite (ops.getD j default).ins<=L+sitesOf (ops.take i)) ->
  Zc1 O bf ops L cs (l1++i::l2) tm σ tm' σ'->∃ v tm1 σ1,ZC O bf (ops.getD i default) (L+sitesOf (ops.take i)) tm σ=some (v,tm1,σ1,cs.getD i {})/\(∀ x,v≠.pan x)/\Zc1 O bf ops L cs (l1++l2) tm1 σ1 tm' σ'
 | [],tm,σ,tm',σ',_,h=>by
  cases h with
  |cons h1 hn h2=>exact⟨_,_,_,h1,hn,h2⟩
 |j::l1,tm,σ,tm',σ',hall,h=>by
  cases h with
  |cons h1 hn h2 =>
   obtain⟨v3,tm3,σ3,h3,hn3,h4⟩:=ZnT (l1:=l1) (fun k hk=>hall k (by simp[hk])) h2
   obtain⟨p1,p2,p3,p4⟩:=hall j (by simp)
   obtain⟨tm4,σ4,h5,h6⟩:=ZwH h1 h3 p1 p2 p3 p4
   exact⟨v3,tm4,σ4,h5,hn3,Zc1.cons h6 hn h4⟩
theorem Zwc{ops:List AOp}{L:Nat}{x:AVal}:∀ (m k:Nat) {cs cs':List Cls} {tm:Tms} {σ:Za} {tm':Tms} {σ':Za},k+m=ops.length->ZN O bf (ops.drop k) (L+sitesOf (ops.take k)) tm σ=some (tm',σ',cs',some x)->(∀ j,cs'.getD j {}=cs.getD (k+j) {}) ->
  ∃ n tmJ σJ tmX,n<m/\cs'.length=n+1/\Zc1 O bf ops L cs (XaI k n) tm σ tmJ σJ/\ZC O bf (ops.getD (k+n) default) (L+sitesOf (ops.take (k+n))) tmJ σJ=some (.pan x,tmX,σ',cs.getD (k+n) {})
 |0,k,cs,cs',tm,σ,tm',σ',hk,h,hcs=>by
  rw[WJ (by omega)]at h
  simp[ZN]at h
 |m+1,k,cs,cs',tm,σ,tm',σ',hk,h,hcs=>by
  have hlt:k<ops.length:=by omega
  rw[W1 hlt]at h
  simp only[ZN]at h
  have hc0:=hcs 0
  have hg:ops.getD k default=ops[k]:=by simp[Xi,hlt]
  split at h
  ·cases h
  ·rename_i y tm1 σ1 c h1
   simp only[Xa,Xc]at h
   obtain⟨rfl,rfl,rfl,rfl⟩:=h
   simp only[X1,Wg]at hc0
   refine⟨0,tm,σ,tm1,by omega,rfl,Zc1.nil,?_⟩
   rw[Wg,<-hc0,hg]
   exact h1
  rename_i v tm1 σ1 c hnp h1
  split at h
  ·cases h
  rename_i tm2 σ2 cs2 p h2
  simp only[Xa,Xc]at h
  obtain⟨rfl,rfl,rfl,rfl⟩:=h
  simp only[X1,Wg]at hc0
  have hnext:ZN O bf (ops.drop (k+1)) (L+sitesOf (ops.take (k+1))) tm1 σ1=some (tm2,σ2,cs2,some x):=by
   rw[Zta ops hlt,<-Wf]
   exact h2
  obtain⟨n,tmJ,σJ,tmX,g1,g2,g3,g4⟩:=Zwc m (k+1) (cs:=cs) (by omega) hnext (fun j=>by
   have:=hcs (j+1)
   simp only[Wq]at this
   rw[this];congr 1;omega)
  refine⟨n+1,tmJ,σJ,tmX,by omega,by simp[g2],?_,?_⟩
  ·rw[Xbk]
   refine Zc1.cons (v:=v) (tm1:=tm1) (σ1:=σ1) ?_ (fun x e=>hnp x e) g3
   rw[<-hc0,hg]
   exact h1
  ·rw[show k+(n+1)=k+1+n by omega]
   exact g4
theorem ZEl{o:AOp}{v:AVal}{c:Cls}{tm tm1:Tms}{σ σ1:Za}{sq:Nat}(hq:o.ins.touches=false\/Zbd o.ins=true)(h:ZC O bf o sq tm σ=some (v,tm1,σ1,c)):σ1=σ:=by
 unfold ZC at h
 split at h
 ·cases h
 ·simp only[Xa,Xc]at h;exact h.2.2.1.symm
 ·split at h
  ·split at h
   ·rename_i he
    simp only[Xa,Xc]at h
    rw[<-h.2.2.1]
    rcases hq with hq |hq
    ·exact ZE9 hq he
    ·cases hi:o.ins with
     |ld k a =>
      rw[hi]at he
      simp only[execI]at he
      unfold ldA at he
      repeat' split at he
      all_goals first |(simp only[Xa,Xc]at he;exact he.2.1.symm) |cases he
     |_=>rw[hi]at hq;simp[Zbd]at hq
   ·cases h
  ·cases h
theorem ZtT{ops:List AOp}{L:Nat}{cs:List Cls}{i:Nat}{x:AVal}{tmX:Tms}{σX:Za}:∀ {l1:List Nat} {tm:Tms} {σ:Za} {tm':Tms} {σ':Za},(∀ j∈l1,((ops.getD j default).ins.touches=false\/Zbd (ops.getD j default).ins=true)/\(ops.getD j default).apartT (ops.getD i default)=true/\ZcK (ops.getD j default) (ops.getD i default) (cs.getD j {}) (cs.getD i {}) (L+sitesOf (ops.take j))=true/\(nsite (ops.getD j default).ins≠0->nsite (ops.getD i default).ins≠0->L+sitesOf (ops.take j)≠L+sitesOf (ops.take i))/\L+sitesOf (ops.take j)+nsite (ops.getD j default).ins<=L+sitesOf (ops.take i)) ->
  Zc1 O bf ops L cs l1 tm σ tm' σ'->ZC O bf (ops.getD i default) (L+sitesOf (ops.take i)) tm' σ'=some (.pan x,tmX,σX,cs.getD i {})->∃ tm1,ZC O bf (ops.getD i default) (L+sitesOf (ops.take i)) tm σ=some (.pan x,tm1,σX,cs.getD i {})
 | [],tm,σ,tm',σ',_,h,hp=>by
  cases h
  exact⟨_,hp⟩
 |j::l1,tm,σ,tm',σ',hall,h,hp=>by
  cases h with
  |cons h1 hn h2 =>
   obtain⟨tm3,h3⟩:=ZtT (l1:=l1) (fun k hk=>hall k (by simp[hk])) h2 hp
   obtain⟨hq,p1,p2,p3,p4⟩:=hall j (by simp)
   obtain⟨tm4,σ4,h5,h6⟩:=ZwH h1 h3 p1 p2 p3 p4
   have:=ZEl hq h6
   subst this
   exact⟨tm4,h5⟩
end
end
section
open Go.RowKit
section
variable {P:Program}{O:ZJ}{bf:Nat->Bool}{an:Ann}{base:Nat->Prop}{w0:World}{I0:Imm}
structure Door where
 D:List Deferred
 K:List Nat
 X:Nat->Value
def Door.ok(dr:Door)(a:Act):Prop:=a.defers=dr.D/\∀ j∈dr.K,a.tmps.getD j undef=dr.X j
def ZcP:Door:=⟨[],[],fun _=>undef⟩
theorem ZjS{a:Act}:ZcP.ok a↔a.defers=[]:=by simp[Door.ok,ZcP]
def StR(dr:Door)(nt:Nat)(base:Nat->Prop)(w0:World)(I0 I:Imm)(β:Bmap)(tm:Tms)(σ:Za)(a:Act)(w:World):Prop :=
 ∃ I' β',I.le I'/\β.le β'/\TR I' β' tm a.tmps/\(dr.ok a/\nt<=a.tmps.size)/\Rel base w0 I0 I' β' σ w
variable {dr:Door}
theorem StR.trans{nt:Nat}{I I1:Imm}{β β1:Bmap}{tm:Tms}{σ:Za}{a:Act}{w:World}(hI:I.le I1)(hβ:β.le β1)(h:StR dr nt base w0 I0 I1 β1 tm σ a w):StR dr nt base w0 I0 I β tm σ a w:=by
 obtain⟨I',β',h1,h2,h3⟩:=h
 exact⟨I',β',hI.trans h1,hβ.trans h2,h3⟩
theorem Post.trans{I I1:Imm}{β β1:Bmap}{x:AVal}{σ:Za}{u:Value}{w:World}(hI:I.le I1)(hβ:β.le β1)(h:Post base w0 I0 I1 β1 x σ u w):Post base w0 I0 I β x σ u w:=by
 obtain⟨I',β',h1,h2,h3⟩:=h
 exact⟨I',β',hI.trans h1,hβ.trans h2,h3⟩
theorem Zzh{I:Imm}{β:Bmap}{tm:Tms}{a:Act}{v:AVal}{u:Value}(T:TR I β tm a.tmps)(hv:VR I β v u){d:Option Nat}(hd:∀ n,d=some n->n<a.tmps.size):TR I β (tput tm d v) (a.put d u).tmps:=by
 cases d with
 |none=>exact T
 |some d=>exact T.put hv (hd d rfl)
theorem ZxH(a:Act)(d:Option Nat)(u:Value):(a.put d u).defers=a.defers:=by cases d<;>rfl
theorem ZhO{a:Act}{d:Option Nat}{u:Value}(h:dr.ok a)(hd:∀ n,d=some n->n∉dr.K):dr.ok (a.put d u):=by
 refine⟨(ZxH a d u).trans h.1,fun j hj=>?_⟩
 rw[<-h.2 j hj]
 cases d with
 |none=>rfl
 |some n =>
  have hne:n≠j:=by rintro rfl;exact hd n rfl hj
  simp only[Act.put,WL]
  rw[Array.getElem?_setIfInBounds_ne hne]
theorem Zd6(a:Act)(d:Option Nat)(u:Value):(a.put d u).tmps.size=a.tmps.size:=by cases d<;>simp[Act.put]
theorem ZuG{I:Imm}{β:Bmap}{tm:Tms}{a:Act}(T:TR I β tm a.tmps){ops:Array Oper}{o:Oper}{g:Option (Nat×Bool)}(hg:ZkG ops o.guard=some g){b:Bool}(h:Zbh g tm=some b):Region.wanted o (yielded ops a.tmps)=b:=by
 unfold ZkG at hg
 unfold Region.wanted
 split at hg
 ·rename_i e
  injection hg with hg;subst hg
  simp only[Zbh,Xa]at h
  subst h
  rw[e]
 ·rename_i j want e
  split at hg
  ·rename_i o' ho'
   split at hg
   ·rename_i d hd
    injection hg with hg;subst hg
    rw[e]
    show(yielded ops a.tmps j==some want)=b
    have hy:yielded ops a.tmps j=match a.tmps[d]? with |some (.bool b)=>some b |_=>none:=by
     simp only[yielded,ho',Option.bind_some,hd]
     rfl
    rw[hy]
    have hx:=T d
    rw[WL]at hx
    simp only[Zbh]at h
    split at h
    ·rename_i b' hb'
     rw[hb']at hx
     simp only[VR]at hx
     have : a.tmps[d]?=some (.bool b'):=by
      cases hq:a.tmps[d]? with
      |none=>rw[hq]at hx;simp[undef]at hx
      |some q=>rw[hq]at hx;simp at hx;subst hx;rfl
     rw[this]
     simp only[Xa]at h
     subst h
     cases b'<;>cases want<;>rfl
    ·rename_i hb'
     rw[hb']at hx
     simp only[VR,VRs]at hx
     obtain⟨us,hus,hnil⟩:=hx
     injection h with h;subst h
     cases hq:a.tmps[d]? with
     |none=>rfl
     |some q =>
      rw[hq]at hus;simp at hus;subst hus
      rfl
    ·cases h
   ·cases hg
  ·cases hg
theorem Zos{ops:Array Oper}{o:Oper}{ao:AOp}(hc:Zhc P an ops o=some ao):∃ g i,ZkG ops o.guard=some g/\(∃ own,ZU P an own o.op=some i)/\(∀ n,o.dst=some n->n<an.nt/\n∉an.keep)/\ao=⟨o.dst,i,g,(o.after.toList.filter (Region.binds .any)).map (·.on)⟩:=by
 unfold Zhc at hc
 split at hc
 ·rename_i g i hg hi
  split at hc
  ·rename_i hd
   injection hc with hc
   refine⟨g,i,hg,⟨_,hi⟩,fun n hn=>?_,hc.symm⟩
   rw[hn]at hd
   simp only[Zze,Xj,decide_eq_true_eq,WC,List.contains_eq_mem,decide_eq_false_iff_not]at hd
   exact hd
  ·cases hc
 ·cases hc
theorem ZhH(hO:Zar P O)(hkp:∀ n∈dr.K,n∈an.keep){ops:Array Oper}{o:Oper}{ao:AOp}(hc:Zhc P an ops o=some ao){I:Imm}{β:Bmap}{tm tm':Tms}{σ σ':Za}{a:Act}{w:World}(T:TR I β tm a.tmps)(hd:dr.ok a/\an.nt<=a.tmps.size)(R:Rel base w0 I0 I β σ w)(hb:KLt base w0)
  {sq:Nat} {v:AVal} {c:Cls} (h:ZC O bf ao sq tm σ=some (v,tm',σ',c)) {K:Act->World->Prop} {Q:Exit->Act->World->Prop} (hK:(∀ x,v≠.pan x)->∀ a' w',StR dr an.nt base w0 I0 I β tm' σ' a' w'->K a' w')
  (hQ:∀ x,v=.pan x->∀ u w',Post base w0 I0 I β x σ' u w'->Q (.panic [{ v:=u,recovered:=false }]) a w') :
  if Region.wanted o (yielded ops a.tmps)then o.wp P a w K Q\/(o.asks P a w/\LetsOut Q)else K (a.put o.dst undef) w:=by
 obtain⟨g,i,hg,⟨own,hi⟩,hdst,rfl⟩:=Zos hc
 have hdst':∀ n,o.dst=some n->n<a.tmps.size:=fun n hn=>Nat.lt_of_lt_of_le (hdst n hn).1 hd.2
 have hdk:∀ n,o.dst=some n->n∉dr.K:=fun n hn hm=>(hdst n hn).2 (hkp n hm)
 unfold ZC at h
 split at h
 ·cases h
 ·rename_i hw
  simp only at hw
  rw[ZuG T hg hw]
  simp only[Xa,Xc]at h
  obtain⟨rfl,rfl,rfl,rfl⟩:=h
  simp only[Xl,if_false]
  exact hK (by simp) _ _ ⟨I,β,Imm.le.refl I,Bmap.le.refl β,Zzh T (Zk2 I β) hdst',⟨ZhO hd.1 hdk,by rw[Zd6];exact hd.2⟩,R⟩
 ·rename_i hw
  simp only at hw
  rw[ZuG T hg hw]
  simp only[if_true]
  split at h
  ·rename_i hf
   split at h
   ·rename_i v' σ1 c' he
    simp only[Xa,Xc]at h
    obtain⟨rfl,rfl,rfl,rfl⟩:=h
    have hs:nsite i≠0->σ[sq]?=some .free:=by
     intro hn
     simp only[WQ,beq_iff_eq]at hf
     exact ZeS.1 (hf.resolve_left hn)
    rcases ZNK hO hi T R hb hs he with hok |⟨x,rfl,hpan⟩
    ·refine Xp (hok.wp (fun u w' hp=>?_))
     obtain⟨I',β',h1,h2,h3,h4⟩:=hp
     refine hK ?_ _ _ ⟨I',β',h1,h2,Zzh (T.mono h1 h2) h4 hdst',⟨ZhO hd.1 hdk,by rw[Zd6];exact hd.2⟩,h3⟩
     rintro x rfl
     simp only[VR]at h4
    ·exact Xp (hpan.wp (fun u w' hp=>hQ x rfl u w' hp))
   ·cases h
  ·cases h
theorem Zpg(hO:Zar P O)(hkp:∀ n∈dr.K,n∈an.keep)(hb:KLt base w0){ops:Array Oper}{Q:Exit->Act->World->Prop}:∀ {l:List Oper} {asl:List AOp} {sq:Nat} {I:Imm} {β:Bmap} {tm tm':Tms} {σ σ':Za} {cs:List Cls} {p:Option AVal} {a:Act} {w:World},Zcs P an ops l=some asl->TR I β tm a.tmps->(dr.ok a/\an.nt<=a.tmps.size)->Rel base w0 I0 I β σ w ->
  ZN O bf asl sq tm σ=some (tm',σ',cs,p)->(p=none->∀ a' w',StR dr an.nt base w0 I0 I β tm' σ' a' w'->Q .normal a' w') ->
  (∀ x,p=some x->∀ a' u w',dr.ok a'->Post base w0 I0 I β x σ' u w'->Q (.panic [{ v:=u,recovered:=false }]) a' w')->wpList P ops Q l a w
 | [],asl,sq,I,β,tm,tm',σ,σ',cs,p,a,w,hc,T,hd,R,h,hQ,_=>by
  simp only[Zcs,Xa]at hc;subst hc
  simp only[ZN,Xa,Xc]at h
  obtain⟨rfl,rfl,rfl,rfl⟩:=h
  exact wpList_nil (hQ rfl _ _ ⟨I,β,Imm.le.refl I,Bmap.le.refl β,T,hd,R⟩)
 |o::l,asl,sq,I,β,tm,tm',σ,σ',cs,p,a,w,hc,T,hd,R,h,hQ,hP=>by
  simp only[Zcs]at hc
  split at hc
  ·rename_i ao hao
   split at hc
   ·rename_i as' has'
    injection hc with hc;subst hc
    simp only[ZN]at h
    split at h
    ·cases h
    ·rename_i x tm1 σ1 c1 h1
     simp only[Xa,Xc]at h
     obtain⟨rfl,rfl,rfl,rfl⟩:=h
     have:=ZhH (dr:=dr) (K:=wpList P ops Q l) (Q:=Q) hO hkp hao T hd R hb h1 (fun hn=>absurd rfl (hn x)) (fun x' e u w' hp=>by
      injection e with e;subst e
      exact hP x rfl a u w' hd.1 hp)
     unfold wpList
     exact this
    ·rename_i v tm1 σ1 c1 hnp h1
     split at h
     ·cases h
     rename_i tm2 σ2 cs2 p2 h2
     simp only[Xa,Xc]at h
     obtain⟨rfl,rfl,rfl,rfl⟩:=h
     have:=ZhH (dr:=dr) (K:=wpList P ops Q l) (Q:=Q) hO hkp hao T hd R hb h1 (fun _ a' w' hs=>by
      obtain⟨I',β',g1,g2,g3,g4,g5⟩:=hs
      exact Zpg hO hkp hb has' g3 g4 g5 h2 (fun hp a'' w'' hs'=>hQ hp a'' w'' (hs'.trans g1 g2)) (fun x hx a'' u w'' hd' hp=>hP x hx a'' u w'' hd' (hp.trans g1 g2))) (fun x e=>absurd e (fun e=>hnp x e))
     unfold wpList
     exact this
   ·cases hc
  ·cases hc
theorem Zjr{ops:Array Oper}:∀ {l:List Oper} {asl:List AOp},Zcs P an ops l=some asl->asl.length=l.length/\∀ (i:Nat) (o:Oper),l[i]?=some o->∃ ao,asl[i]?=some ao/\Zhc P an ops o=some ao
 | [],asl,h=>by simp only[Zcs,Xa]at h;subst h;exact⟨rfl,fun i o ho=>by simp at ho⟩
 |o::l,asl,h=>by
  simp only[Zcs]at h
  split at h
  ·rename_i ao hao
   split at h
   ·rename_i as' has'
    injection h with h;subst h
    obtain⟨h1,h2⟩:=Zjr has'
    refine⟨by simp[h1],fun i o' ho'=>?_⟩
    cases i with
    |zero=>simp only[XE,Xa]at ho';subst ho';exact⟨ao,rfl,hao⟩
    |succ i=>simp only[List.getElem?_cons_succ]at ho' ⊢;exact h2 i o' ho'
   ·cases h
  ·cases h
theorem ZtB:∀ (ls acc:List (List Nat)),(∀ j p,p∈(acc.getD j [])->True)->(Zcd ls acc).take acc.length=acc/\(Zcd ls acc).length=acc.length+ls.length /\
  ∀ j,j<ls.length->∀ p,p∈(Zcd ls acc).getD (acc.length+j) []->p∈ls.getD j []\/∃ i∈ls.getD j [],i<acc.length+j/\p∈(Zcd ls acc).getD i []
 | [],acc,_=>by simp[Zcd]
 |l::ls,acc,_=>by
  obtain⟨h1,h2,h3⟩:=ZtB ls (acc++[l++l.flatMap fun i=>acc.getD i []]) (fun _ _ _=>trivial)
  simp only[Zcd]
  have hlen:(acc++[l++l.flatMap fun i=>acc.getD i []]).length=acc.length+1:=by simp
  rw[hlen]at h1 h2 h3
  have hpre:∀ i,i<acc.length+1->(Zcd ls (acc++[l++l.flatMap fun i=>acc.getD i []])).getD i []=(acc++[l++l.flatMap fun i=>acc.getD i []]).getD i []:=by
   intro i hi
   have:=congrArg (fun q:List (List Nat)=>q.getD i []) h1
   simp only[Xi,List.getElem?_take,hi,if_true]at this ⊢
   exact this
  refine⟨?_,by rw[h2];simp;omega,?_⟩
  ·have:=congrArg (List.take acc.length) h1
   rw[List.take_take,Nat.min_eq_left (by omega)]at this
   rw[this];simp
  ·intro j hj p hp
   cases j with
   |zero =>
    rw[Wg,hpre _ (by omega)]at hp
    simp only[Xi,Wy (XD _),Xam,XE,WS,Xs,Wi]at hp
    rcases hp with hp |⟨i,hi,hp⟩
    ·exact Xp (by simpa using hp)
    ·refine Xt ⟨i,by simpa using hi,?_,?_⟩
     ·by_cases hlt:i<acc.length
      ·omega
      ·rw[X6 (by omega)]at hp;simp at hp
     ·have hlt:i<acc.length:=by
       by_cases hlt:i<acc.length
       ·exact hlt
       ·rw[X6 (by omega)]at hp;simp at hp
      rw[hpre i (by omega)]
      simp only[Xi,Wh hlt]
      exact hp
   |succ j =>
    have:=h3 j (by simpa using hj) p (by rw[show acc.length+1+j=acc.length+(j+1)by omega];exact hp)
    rcases this with h |⟨i,h4,h5,h6⟩
    ·exact Xp (by simpa using h)
    ·exact Xt ⟨i,by simpa using h4,by omega,h6⟩
theorem ZvI(f:Nat->Nat)(p:Nat):∀ (l:List Nat) (m:Nat),(l.foldl (fun m i=>m |||2^i |||f i) m).testBit p=true->m.testBit p=true\/p∈l\/∃ i∈l,(f i).testBit p=true
 | [],m,h=>Xp h
 |i::l,m,h=>by
  rcases ZvI f p l _ h with h |h |⟨j,h1,h2⟩
  ·simp only[Nat.testBit_or,WQ,Nat.testBit_two_pow,decide_eq_true_eq]at h
   rcases h with(h |h) |h
   ·exact Xp h
   ·exact Xt (Xp (by simp[h]))
   ·exact Xt (Xt ⟨i,by simp,h⟩)
  ·exact Xt (Xp (by simp[h]))
  ·exact Xt (Xt ⟨j,by simp[h1],h2⟩)
theorem Zp2:∀ (ls:List (List Nat)) (accM:List Nat) (accL:List (List Nat)),accM.length=accL.length->(∀ j p,(accM.getD j 0).testBit p=true->p∈accL.getD j [])->∀ j p,((Zie ls accM).getD j 0).testBit p=true->p∈(Zcd ls accL).getD j []
 | [],accM,accL,_,h=>h
 |l::ls,accM,accL,hl,h=>by
  simp only[Zie,Zcd]
  refine Zp2 ls _ _ (by simp[hl]) ?_
  intro j p hp
  by_cases hj:j<accM.length
  ·simp only[Xi,Wh hj]at hp
   simp only[Xi,Wh (show j<accL.length by omega)]
   have:=h j p (by simpa[Xi]using hp)
   simpa[Xi]using this
  ·by_cases hj':j=accM.length
   ·subst hj'
    simp only[Xi,Wy (XD _),Xam,XE,WS]at hp
    rw[hl]
    simp only[Xi,Wy (XD _),Xam,XE,WS,Xs,Wi]
    rcases ZvI _ p l 0 hp with h0 |h0 |⟨i,h1,h2⟩
    ·simp at h0
    ·exact Xp h0
    ·refine Xt ⟨i,h1,?_⟩
     have:=h i p (by simpa[Xi]using h2)
     simpa[Xi]using this
   ·simp only[Xi]at hp
    rw[X6 (by simp;omega)]at hp
    simp at hp
theorem Zxc{asl:List AOp}{ps:List (Nat×Nat)}(h:Zfz asl=some ps) :
  (∀ i j,i<j->j<asl.length->i∉(Zcd (asl.map (·.after)) []).getD j []->(asl.getD i default).apartT (asl.getD j default)=true/\((asl.getD i default).ins.touches=false\/(asl.getD j default).ins.touches=false\/(i,j)∈ps))/\(∀ j,j<asl.length->∀ i∈(asl.getD j default).after,i<j):=by
 have hsub:=Zp2 (asl.map (·.after)) [] [] rfl (by simp)
 unfold Zfz at h
 simp only at h
 split at h
 ·rename_i hc
  simp only[Xj,XF,Wi,XG,WB,Xad,forall_exists_index,and_imp,WC,decide_eq_true_eq]at hc
  obtain⟨h1,h2⟩:=hc
  injection h with h
  have hbit:∀ i j,i∉(Zcd (asl.map (·.after)) []).getD j []->((Zie (asl.map (·.after)) []).getD j 0).testBit i=false:=by
   intro i j hn
   cases hb:((Zie (asl.map (·.after)) []).getD j 0).testBit i with
   |false=>rfl
   |true=>exact absurd (hsub j i hb) hn
  refine⟨fun i j hij hj hn=>⟨?_,?_⟩,fun j hj i hi=>h2 j hj i hi⟩
  ·exact h1 (i,j) j hj i hij (hbit i j hn) rfl
  ·cases ht1:(asl.getD i default).ins.touches with
   |false=>exact Xp rfl
   |true =>
    cases ht2:(asl.getD j default).ins.touches with
    |false=>exact Xt (Xp rfl)
    |true =>
     refine Xt (Xt ?_)
     rw[<-h]
     rw[Xs]
     refine Xp ?_
     simp only[WB,Wi,XG,Xad,Xj]
     exact⟨⟨j,hj,i,⟨hij,by rw[hbit i j hn];rfl⟩,rfl⟩,ht1,ht2⟩
 ·cases h
theorem ZE2{asl:List AOp}{ps:List (Nat×Nat)}(h:Zfz asl=some ps){j:Nat}(hm:(j,j)∈ps):∀ k,j<k->k<asl.length->j∈(Zcd (asl.map (·.after)) []).getD k []:=by
 have hsub:=Zp2 (asl.map (·.after)) [] [] rfl (by simp)
 unfold Zfz at h
 simp only at h
 split at h
 ·injection h with h
  rw[<-h,Xs]at hm
  rcases hm with hm |hm
  ·simp only[WB,Wi,XG,Xad,Xc]at hm
   obtain⟨⟨a,_,b,⟨hb,_⟩,e1,e2⟩,_⟩:=hm
   omega
  ·simp only[XG,WB,Xad,Xc,and_self,Xj,XF,WQ,decide_eq_true_eq]at hm
   obtain⟨a,⟨_,_,ha⟩,rfl⟩:=hm
   intro k hk hkl
   rcases ha k hkl with h1 |h1
   ·omega
   ·exact hsub k a h1
 ·cases h
theorem ZHZ{asl:List AOp}{ps:List (Nat×Nat)}(h:Zfz asl=some ps){j:Nat}(hm:(j,j)∈ps):(asl.getD j default).ins.touches=true:=by
 unfold Zfz at h
 simp only at h
 split at h
 ·injection h with h
  rw[<-h,Xs]at hm
  rcases hm with hm |hm
  ·simp only[WB,Wi,XG,Xad,Xc]at hm
   obtain⟨⟨a,_,b,⟨hb,_⟩,e1,e2⟩,_⟩:=hm
   omega
  ·simp only[XG,WB,Xad,Xc,and_self,Xj]at hm
   obtain⟨a,⟨_,hc,_⟩,rfl⟩:=hm
   cases hi:(asl.getD a default).ins<;>rw[hi]at hc<;>first |rfl |(simp[Za3]at hc)
 ·cases h
end
end
section
open Go.RowKit
section
variable {P:Program}{O:ZJ}{bf:Nat->Bool}{an:Ann}{base:Nat->Prop}{w0:World}{I0:Imm}{dr:Door}
theorem ZRz{o:AOp}{tm tm1:Tms}{σ σ1:Za}{sq:Nat}{v:AVal}{c:Cls}(ht:o.ins.touches=false)(h:ZC O bf o sq tm σ=some (v,tm1,σ1,c)):c={}:=by
 unfold ZC at h
 split at h
 ·cases h
 ·simp only[Xa,Xc]at h;exact h.2.2.2.symm
 ·split at h
  ·split at h
   ·rename_i he
    simp only[Xa,Xc]at h
    rw[<-h.2.2.2]
    exact(ZL5 ht he).1
   ·cases h
  ·cases h
theorem Zj9{i:Ins}(h:i.touches=false):nsite i=0:=by cases i<;>simp[Ins.touches]at h<;>rfl
theorem Zhv{asl:List AOp}{L:Nat}{cs:List Cls}:∀ {l:List Nat} {tm tm':Tms} {σ σ':Za},Zc1 O bf asl L cs l tm σ tm' σ'->∀ j∈l,(asl.getD j default).ins.touches=false->cs.getD j {}={}
 | [],_,_,_,_,_,j,hj,_=>by simp at hj
 |i::l,_,_,_,_,h,j,hj,ht=>by
  cases h with
  |cons h1 _ h2 =>
   rcases XI.1 hj with rfl |hj
   ·exact ZRz ht h1
   ·exact Zhv h2 j hj ht
theorem Ziw(asl:List AOp):∀ {j i:Nat},j<i->i<=asl.length->sitesOf (asl.take j)+nsite (asl.getD j default).ins<=sitesOf (asl.take i):=by
 intro j i hji hi
 induction i with
 |zero=>omega
 |succ i ih =>
  rw[Zta asl (by omega)]
  by_cases e:j=i
  ·subst e
   simp[Xi,show j<asl.length by omega]
  ·have:=ih (by omega) (by omega);omega
theorem ZHg(hO:Zar P O)(hkp:∀ n∈dr.K,n∈an.keep)(hb:KLt base w0){ops:Array Oper}{asl:List AOp}(hcomp:Zcs P an ops ops.toList=some asl){ps:List (Nat×Nat)}(hps:Zfz asl=some ps){L:Nat}{cs:List Cls}(hchk:ZdX asl L ps cs=true)
  {tmF:Tms} {σF:Za} {Q:Exit->Act->World->Prop} {I:Imm} {β:Bmap} (hQ:∀ a' w',StR dr an.nt base w0 I0 I β tmF σF a' w'->Q .normal a' w') :
  ∀ (fuel:Nat) (rem:List Nat) (listed:Array Bool) (a:Act) (w:World) (tm:Tms) (σ:Za),Zc1 O bf asl L cs rem tm σ tmF σF->rem.Pairwise (· < ·)->(∀ j∈rem,j<ops.size)->(∀ j,j<ops.size->(listed.getD j true=true↔j∉rem))->listed.size=ops.size ->
   (∀ k,k<ops.size->k∉rem->∀ p∈(Zcd (asl.map (·.after)) []).getD k [],p∉rem)->rem.length=fuel->StR dr an.nt base w0 I0 I β tm σ a w->wpAny P .any ops Q fuel listed a w:=by
 obtain⟨hlen,hget⟩:=Zjr hcomp
 obtain⟨hp1,hp2⟩:=Zxc hps
 obtain⟨_,_,hanc⟩:=ZtB (asl.map (·.after)) [] (fun _ _ _=>trivial)
 simp only[XQ]at hlen
 have hafter:∀ j o,ops[j]?=some o->∃ ao,asl.getD j default=ao/\Zhc P an ops o=some ao/\ao.after=(o.after.toList.filter (Region.binds .any)).map (·.on)/\ao.dst=o.dst:=by
  intro j o ho
  obtain⟨ao,h1,h2⟩:=hget j o (by simpa using ho)
  refine⟨ao,by simp[Xi,h1],h2,?_⟩
  obtain⟨g,i,_,_,_,rfl⟩:=Zos h2
  exact⟨rfl,rfl⟩
 intro fuel
 induction fuel with
 |zero =>
  intro rem listed a w tm σ hr hs hlt hl hsz hcl hfl hst
  have : rem=[]:=List.eq_nil_of_length_eq_zero hfl
  subst this
  cases hr
  refine⟨?_,hQ a w hst⟩
  apply List.eq_nil_iff_forall_not_mem.2
  intro j hj
  rw[mem_ready]at hj
  obtain⟨h1,o,ho,_⟩:=hj
  have hjl:j<ops.size:=(Xz.1 ho).1
  have:=(hl j hjl).2 (by simp)
  rw[h1]at this;cases this
 |succ fuel ih =>
  intro rem listed a w tm σ hr hs hlt hl hsz hcl hfl hst
  have isRem:∀ j,j<ops.size->listed.getD j true=false->j∈rem:=by
   intro j hj h
   by_cases hm:j∈rem
   ·exact hm
   ·have:=(hl j hj).2 hm;rw[h]at this;cases this
  have getD_tf:∀ j,j<ops.size->listed.getD j false=listed.getD j true:=by
   intro j hj
   simp[Xaz,hsz,hj]
  refine⟨fun hnil=>?_,fun i hi=>?_⟩
  ·exfalso
   cases rem with
   |nil=>simp at hfl
   |cons r rs =>
    have hrl:r<ops.size:=hlt r (by simp)
    have hro:ops[r]?=some ops[r]:=by simp[hrl]
    obtain⟨ao,e1,e2,e3,_⟩:=hafter r _ hro
    have : r∈Region.ready .any ops listed:=by
     rw[mem_ready]
     refine⟨?_,ops[r],hro,fun e he hbnd=>?_⟩
     ·cases hq:listed.getD r true with
      |false=>rfl
      |true=>exact absurd (List.mem_cons_self) ((hl r hrl).1 hq)
     ·have hon:e.on∈ao.after:=by rw[e3];exact XG.2 ⟨e,WB.2 ⟨by simpa using he,hbnd⟩,rfl⟩
      have hlt':e.on<r:=hp2 r (by omega) e.on (by rw[e1];exact hon)
      rw[getD_tf _ (by omega)]
      refine(hl e.on (by omega)).2 (fun hm=>?_)
      rcases XI.1 hm with h |hm
      ·omega
      ·have:=(W5.1 hs).1 e.on hm;omega
    rw[hnil]at this;simp at this
  ·rw[mem_ready]at hi
   obtain⟨hi0,o,ho,hpre⟩:=hi
   have hil:i<ops.size:=(Xz.1 ho).1
   have him:=isRem i hil hi0
   obtain⟨l1,l2,rfl⟩:=List.append_of_mem him
   obtain⟨ao,e1,e2,e3,e4⟩:=hafter i o ho
   have hdone:∀ p∈(asl.getD i default).after,p<ops.size->p∉l1++i::l2:=by
    intro p hp hpl
    rw[e1,e3]at hp
    obtain⟨e,he,rfl⟩:=XG.1 hp
    obtain⟨he1,he2⟩:=WB.1 he
    have:=hpre e (by simpa using he1) he2
    rw[getD_tf _ hpl]at this
    exact(hl e.on hpl).1 this
   have hai:(asl.map (·.after)).getD i []=(asl.getD i default).after:=by
    simp[Xi,show i<asl.length by omega]
   have hanci:∀ p∈(Zcd (asl.map (·.after)) []).getD i [],p∉l1++i::l2:=by
    intro p hp
    have hap:∀ q,q∈(asl.map (·.after)).getD i []->q<i:=fun q hq=>hp2 i (by omega) q (by rw[<-hai];exact hq)
    rcases hanc i (by simp;omega) p (by simpa using hp)with h |⟨q,h1,h2,h3⟩
    ·exact hdone p (by rw[<-hai];exact h) (by have:=hap p h;omega)
    ·have hql:q<ops.size:=by simp at h2;omega
     exact hcl q hql (hdone q (by rw[<-hai];exact h1) hql) p h3
   have hl1:∀ j∈l1,j<i:=by
    intro j hj
    have:=WI.1 hs
    exact this.2.2 j hj i (by simp)
   obtain⟨v1,tm1,σ1,h1,hnp1,h2⟩:=ZnT (l1:=l1) (i:=i) (fun j hj=>by
    have hji:=hl1 j hj
    have hjn:j∉(Zcd (asl.map (·.after)) []).getD i []:=fun hm=>hanci j hm (by simp[hj])
    obtain⟨p1,p2⟩:=hp1 j i hji (by omega) hjn
    refine⟨p1,?_,fun hn _=>?_,?_⟩
    ·rcases p2 with p2 |p2 |p2
     ·have:=Zhv hr j (by simp[hj]) p2
      have hem:Zcw (asl.getD j default) (cs.getD j {})=true:=by rw[this];simp only[Zcw,Zj9 p2];rfl
      simp only[ZcK,hem,Xah]
     ·have:=Zhv hr i (by simp) p2
      have hem:Zcw (asl.getD i default) (cs.getD i {})=true:=by rw[this];simp only[Zcw,Zj9 p2];rfl
      simp only[ZcK,hem,Xah,Xan]
     ·have:=XF.1 hchk (j,i) p2
      simp only[WQ,beq_iff_eq]at this
      rcases this with h |h
      ·omega
      ·exact h
    ·have:=Ziw asl hji (by omega)
     omega
    ·have:=Ziw asl hji (by omega)
     omega) hr
   unfold wpOp
   rw[ho]
   rw[e1]at h1
   obtain⟨I',β',g1,g2,g3,g4,g5⟩:=hst
   refine ZhH hO hkp e2 g3 g4 g5 hb h1 (fun _ a' w' hs'=>ih (l1++l2) _ a' w' tm1 σ1 h2 ?_ ?_ ?_ (by simpa using hsz) ?_ ?_ (hs'.trans g1 g2)) (fun x e=>absurd e (hnp1 x))
   ·have:=WI.1 hs
    exact WI.2 ⟨this.1,(W5.1 this.2.1).2,fun x hx y hy=>this.2.2 x hx y (by simp[hy])⟩
   ·intro j hj
    refine hlt j ?_
    simp only[Xs,XI]at hj ⊢
    rcases hj with h |h
    ·exact Xp h
    ·exact Xt (Xt h)
   ·intro j hj
    have hs1:=WI.1 hs
    by_cases hij:i=j
    ·subst hij
     have hn:i∉l1++l2:=by
      intro hm
      rcases Xs.1 hm with h |h
      ·have:=hl1 i h;omega
      ·have:=(W5.1 hs1.2.1).1 i h;omega
     simp[Xaz,hsz,hil,hn]
    ·rw[getD_set_ne true hij,hl j hj]
     simp only[Xs,XI,not_or]
     constructor
     ·rintro⟨a1,_,a3⟩;exact⟨a1,a3⟩
     ·rintro⟨a1,a3⟩;exact⟨a1,fun e=>hij e.symm,a3⟩
   ·intro k hk hkn p hp hm
    have hsub:p∈l1++i::l2:=by
     simp only[Xs,XI]at hm ⊢
     rcases hm with h |h
     ·exact Xp h
     ·exact Xt (Xt h)
    by_cases hki:k=i
    ·subst hki;exact hanci p hp hsub
    ·refine hcl k hk (fun hkm=>hkn ?_) p hp hsub
     simp only[Xs,XI]at hkm ⊢
     rcases hkm with h |h |h
     ·exact Xp h
     ·exact absurd h hki
     ·exact Xt h
   ·simp at hfl ⊢;omega
theorem ZBj(hO:Zar P O)(hkp:∀ n∈dr.K,n∈an.keep)(hb:KLt base w0){ops:Array Oper}{asl:List AOp}(hcomp:Zcs P an ops ops.toList=some asl){ps:List (Nat×Nat)}(hps:Zfz asl=some ps){L:Nat}{cs:List Cls}{jp:Nat}(hjl:jp<ops.size)(hmark:(jp,jp)∈ps)(hmarkT:(asl.getD jp default).ins.touches=true)(hfree:∀ j i,(j,i)∈ps->j<i->i<=jp->ZcK (asl.getD j default) (asl.getD i default) (cs.getD j {}) (cs.getD i {}) (L+sitesOf (asl.take j))=true)(hquiet:∀ j,(j,jp)∈ps->j<jp->Zbd (asl.getD j default).ins=true)
  {x:AVal} {σF:Za} {Q:Exit->Act->World->Prop} {I:Imm} {β:Bmap} (hQ:∀ a' u w',dr.ok a'->Post base w0 I0 I β x σF u w'->Q (.panic [{ v:=u,recovered:=false }]) a' w') :
  ∀ (fuel:Nat) (pre post:List Nat) (listed:Array Bool) (a:Act) (w:World) (tm tmJ tmX:Tms) (σ σJ:Za),Zc1 O bf asl L cs pre tm σ tmJ σJ->ZC O bf (asl.getD jp default) (L+sitesOf (asl.take jp)) tmJ σJ=some (.pan x,tmX,σF,cs.getD jp {})->(pre++jp::post).Pairwise (· < ·)->(∀ j∈pre++jp::post,j<ops.size)->(∀ j,j<ops.size->(listed.getD j true=true↔j∉pre++jp::post))->listed.size=ops.size ->
   (∀ k,k<ops.size->k∉pre++jp::post->∀ p∈(Zcd (asl.map (·.after)) []).getD k [],p∉pre++jp::post)->(pre++jp::post).length=fuel->StR dr an.nt base w0 I0 I β tm σ a w->wpAny P .any ops Q fuel listed a w:=by
 obtain⟨hlen,hget⟩:=Zjr hcomp
 obtain⟨hp1,hp2⟩:=Zxc hps
 have hmk:=ZE2 hps hmark
 obtain⟨_,_,hanc⟩:=ZtB (asl.map (·.after)) [] (fun _ _ _=>trivial)
 simp only[XQ]at hlen
 have hafter:∀ j o,ops[j]?=some o->∃ ao,asl.getD j default=ao/\Zhc P an ops o=some ao/\ao.after=(o.after.toList.filter (Region.binds .any)).map (·.on)/\ao.dst=o.dst:=by
  intro j o ho
  obtain⟨ao,h1,h2⟩:=hget j o (by simpa using ho)
  refine⟨ao,by simp[Xi,h1],h2,?_⟩
  obtain⟨g,i,_,_,_,rfl⟩:=Zos h2
  exact⟨rfl,rfl⟩
 intro fuel
 induction fuel with
 |zero =>
  intro pre post listed a w tm tmJ tmX σ σJ hr hj hs hlt hl hsz hcl hfl hst
  simp at hfl
 |succ fuel ih =>
  intro pre post listed a w tm tmJ tmX σ σJ hr hj hs hlt hl hsz hcl hfl hst
  have getD_tf:∀ j,j<ops.size->listed.getD j false=listed.getD j true:=by
   intro j hj
   simp[Xaz,hsz,hj]
  have isRem:∀ j,j<ops.size->listed.getD j true=false->j∈pre++jp::post:=by
   intro j hj h
   by_cases hm:j∈pre++jp::post
   ·exact hm
   ·have:=(hl j hj).2 hm;rw[h]at this;cases this
  refine⟨fun hnil=>?_,fun i hi=>?_⟩
  ·exfalso
   obtain⟨r,rs,hrr⟩:∃ r rs,pre++jp::post=r::rs:=by cases pre<;>simp
   rw[hrr]at hs hlt hl
   have hrl:r<ops.size:=hlt r (by simp)
   have hro:ops[r]?=some ops[r]:=by simp[hrl]
   obtain⟨ao,e1,e2,e3,_⟩:=hafter r _ hro
   have : r∈Region.ready .any ops listed:=by
    rw[mem_ready]
    refine⟨?_,ops[r],hro,fun e he hbnd=>?_⟩
    ·cases hq:listed.getD r true with
     |false=>rfl
     |true=>exact absurd (List.mem_cons_self) ((hl r hrl).1 hq)
    ·have hon:e.on∈ao.after:=by rw[e3];exact XG.2 ⟨e,WB.2 ⟨by simpa using he,hbnd⟩,rfl⟩
     have hlt':e.on<r:=hp2 r (by omega) e.on (by rw[e1];exact hon)
     rw[getD_tf _ (by omega)]
     refine(hl e.on (by omega)).2 (fun hm=>?_)
     rcases XI.1 hm with h |hm
     ·omega
     ·have:=(W5.1 hs).1 e.on hm;omega
   rw[hnil]at this;simp at this
  ·rw[mem_ready]at hi
   obtain⟨hi0,o,ho,hpre⟩:=hi
   have hil:i<ops.size:=(Xz.1 ho).1
   have him:=isRem i hil hi0
   obtain⟨ao,e1,e2,e3,e4⟩:=hafter i o ho
   have hdone:∀ p∈(asl.getD i default).after,p<ops.size->p∉pre++jp::post:=by
    intro p hp hpl
    rw[e1,e3]at hp
    obtain⟨e,he,rfl⟩:=XG.1 hp
    obtain⟨he1,he2⟩:=WB.1 he
    have:=hpre e (by simpa using he1) he2
    rw[getD_tf _ hpl]at this
    exact(hl e.on hpl).1 this
   have hai:(asl.map (·.after)).getD i []=(asl.getD i default).after:=by
    simp[Xi,show i<asl.length by omega]
   have hanci:∀ p∈(Zcd (asl.map (·.after)) []).getD i [],p∉pre++jp::post:=by
    intro p hp
    have hap:∀ q,q∈(asl.map (·.after)).getD i []->q<i:=fun q hq=>hp2 i (by omega) q (by rw[<-hai];exact hq)
    rcases hanc i (by simp;omega) p (by simpa using hp)with h |⟨q,h1,h2,h3⟩
    ·exact hdone p (by rw[<-hai];exact h) (by have:=hap p h;omega)
    ·have hql:q<ops.size:=by simp at h2;omega
     exact hcl q hql (hdone q (by rw[<-hai];exact h1) hql) p h3
   have hss:=WI.1 hs
   rw[Xs,XI]at him
   rcases him with him |hij |him
   ·obtain⟨l1,l2,rfl⟩:=List.append_of_mem him
    have hl1:∀ j∈l1,j<i:=by
     intro j hj
     exact(WI.1 hss.1).2.2 j hj i (by simp)
    have hijp:i<jp:=hss.2.2 i (by simp) jp (by simp)
    obtain⟨v1,tm1,σ1,h1,hnp1,h2⟩:=ZnT (l1:=l1) (i:=i) (fun j hj'=>by
     have hji:=hl1 j hj'
     have hjn:j∉(Zcd (asl.map (·.after)) []).getD i []:=fun hm=>hanci j hm (by simp[hj'])
     obtain⟨p1,p2⟩:=hp1 j i hji (by omega) hjn
     refine⟨p1,?_,fun hn _=>?_,?_⟩
     ·rcases p2 with p2 |p2 |p2
      ·have:=Zhv hr j (by simp[hj']) p2
       have hem:Zcw (asl.getD j default) (cs.getD j {})=true:=by rw[this];simp only[Zcw,Zj9 p2];rfl
       simp only[ZcK,hem,Xah]
      ·have:=Zhv hr i (by simp) p2
       have hem:Zcw (asl.getD i default) (cs.getD i {})=true:=by rw[this];simp only[Zcw,Zj9 p2];rfl
       simp only[ZcK,hem,Xah,Xan]
      ·exact hfree j i p2 hji (by omega)
     ·have:=Ziw asl hji (by omega)
      omega
     ·have:=Ziw asl hji (by omega)
      omega) hr
    have eA:(l1++i::l2)++jp::post=l1++i::(l2++jp::post):=by simp
    have eB:(l1++l2)++jp::post=l1++(l2++jp::post):=by simp
    rw[eA]at hs hlt hl hcl hanci hfl
    unfold wpOp
    rw[ho]
    rw[e1]at h1
    obtain⟨I',β',g1,g2,g3,g4,g5⟩:=hst
    refine ZhH hO hkp e2 g3 g4 g5 hb h1 (fun _ a' w' hs'=>ih (l1++l2) post _ a' w' tm1 tmJ tmX σ1 σJ h2 hj ?_ ?_ ?_ (by simpa using hsz) ?_ ?_ (hs'.trans g1 g2)) (fun x e=>absurd e (hnp1 x))
    ·rw[eB]
     have:=WI.1 hs
     exact WI.2 ⟨this.1,(W5.1 this.2.1).2,fun x hx y hy=>this.2.2 x hx y (by simp only[XI];exact Xt hy)⟩
    ·intro j hj
     rw[eB]at hj
     refine hlt j ?_
     simp only[Xs,XI]at hj ⊢
     rcases hj with h |h |h |h
     ·exact Xp h
     ·exact Xt (Xt (Xp h))
     ·exact Xt (Xt (Xt (Xp h)))
     ·exact Xt (Xt (Xt (Xt h)))
    ·intro j hj
     rw[eB]
     generalize l2++jp::post=L2 at *
     have hs1:=WI.1 hs
     by_cases hij:i=j
     ·subst hij
      have hn:i∉l1++L2:=by
       intro hm
       rcases Xs.1 hm with h |h
       ·have:=hl1 i h;omega
       ·have:=(W5.1 hs1.2.1).1 i h;omega
      simp[Xaz,hsz,hil,hn]
     ·rw[getD_set_ne true hij,hl j hj]
      simp only[Xs,XI,not_or]
      constructor
      ·rintro⟨a1,_,a3⟩;exact⟨a1,a3⟩
      ·rintro⟨a1,a3⟩;exact⟨a1,fun e=>hij e.symm,a3⟩
    ·intro k hk hkn p hp hm
     rw[eB]at hkn hm
     generalize l2++jp::post=L2 at *
     have hsub:p∈l1++i::L2:=by
      simp only[Xs,XI]at hm ⊢
      rcases hm with h |h
      ·exact Xp h
      ·exact Xt (Xt h)
     by_cases hki:k=i
     ·subst hki;exact hanci p hp hsub
     ·refine hcl k hk (fun hkm=>hkn ?_) p hp hsub
      simp only[Xs,XI]at hkm ⊢
      rcases hkm with h |h |h
      ·exact Xp h
      ·exact absurd h hki
      ·exact Xt h
    ·rw[eB];simp at hfl ⊢;omega
   ·subst hij
    have hl1:∀ j∈pre,j<i:=fun j hj=>hss.2.2 j hj i (by simp)
    obtain⟨tm1,h1⟩:=ZtT (l1:=pre) (i:=i) (fun j hj'=>by
     have hji:=hl1 j hj'
     have hjn:j∉(Zcd (asl.map (·.after)) []).getD i []:=fun hm=>hanci j hm (by simp[hj'])
     obtain⟨p1,p2⟩:=hp1 j i hji (by omega) hjn
     have hts:(asl.getD i default).ins.touches=false->False:=fun h=>by
      have:=hmarkT
      rw[h]at this;cases this
     refine⟨?_,p1,?_,fun hn _=>?_,?_⟩
     ·rcases p2 with p2 |p2 |p2
      ·exact Xp p2
      ·exact(hts p2).elim
      ·exact Xt (hquiet j p2 hji)
     ·rcases p2 with p2 |p2 |p2
      ·have:=Zhv hr j hj' p2
       have hem:Zcw (asl.getD j default) (cs.getD j {})=true:=by rw[this];simp only[Zcw,Zj9 p2];rfl
       simp only[ZcK,hem,Xah]
      ·exact(hts p2).elim
      ·exact hfree j i p2 hji (XD _)
     ·have:=Ziw asl hji (by omega)
      omega
     ·have:=Ziw asl hji (by omega)
      omega) hr hj
    unfold wpOp
    rw[ho]
    rw[e1]at h1
    obtain⟨I',β',g1,g2,g3,g4,g5⟩:=hst
    refine ZhH hO hkp e2 g3 g4 g5 hb h1 (fun hn=>absurd rfl (hn x)) (fun x' e u w' hp=>?_)
    injection e with e
    subst e
    exact hQ a u w' g4.1 (hp.trans g1 g2)
   ·exfalso
    have hlt2:jp<i:=(W5.1 hss.2.1).1 i him
    exact hanci jp (hmk i hlt2 (by omega)) (by simp)
theorem Rel.reserve{I:Imm}{β:Bmap}{σ:Za}{w:World}(R:Rel base w0 I0 I β σ w)(n:Nat):Rel base w0 I0 I β (σ++XA n .free) w:=by
 have look:∀ t x,(σ++XA n Zx.free)[t]?=some x->σ[t]?=some x\/(σ.length<=t/\x=.free):=by
  intro t x h
  by_cases ht:t<σ.length
  ·rw[Wh ht]at h;exact Xp h
  ·rw[Wy (by omega)]at h
   refine Xt ⟨by omega,?_⟩
   have:=Xx h
   exact List.eq_of_mem_replicate this
 refine⟨R.below,R.old,R.imm,?_,?_,?_,?_,?_,?_,R.glob,?_⟩
 ·intro t x h
  rcases look t x h with h |⟨_,rfl⟩
  ·exact R.blk t x h
  ·trivial
 ·intro t x b h hb
  rcases look t x h with h |⟨_,rfl⟩
  ·exact R.own t x b h hb
  ·cases hb
 ·intro t x t' x' b h h' hb hb'
  rcases look t x h with h |⟨_,rfl⟩
  ·rcases look t' x' h' with h' |⟨_,rfl⟩
   ·exact R.apart t x t' x' b h h' hb hb'
   ·cases hb'
  ·cases hb
 ·intro t g h
  exact R.fresh t g (by simp at h;omega)
 ·intro t g h
  rcases look t _ h with h |⟨h,_⟩
  ·exact R.free t g h
  ·exact R.fresh t g h
 ·intro t x g h hg
  rcases look t _ h with h |⟨h,_⟩
  ·exact R.gen t x g h hg
  ·exact R.fresh t g h
 ·intro t x b h hb
  rcases look t x h with h |⟨_,rfl⟩
  ·exact R.ro t x b h hb
  ·cases hb
theorem StR.keep{I:Imm}{β:Bmap}{tm:Tms}{σ:Za}{a:Act}{w:World}(h:StR dr an.nt base w0 I0 I β tm σ a w)(live:List Nat):StR dr an.nt base w0 I0 I β (keepL live tm) σ a w:=by
 obtain⟨I',β',h1,h2,h3,h4⟩:=h
 exact⟨I',β',h1,h2,h3.keep live,h4⟩
def ZEG(dr:Door)(an:Ann)(base:Nat->Prop)(w0:World)(I0 I:Imm)(β:Bmap)(e:ZY)(tm:Tms)(σ:Za)(Q:Exit->Act->World->Prop):Prop:=match e with
 | .normal=>∀ a w,StR dr an.nt base w0 I0 I β tm σ a w->Q .normal a w
 | .exit id=>∀ a w,StR dr an.nt base w0 I0 I β tm σ a w->Q (.exit id) a w
 | .ret=>∀ a w,StR dr an.nt base w0 I0 I β tm σ a w->Q .ret a w
 | .panic x=>∀ a u w,dr.ok a->Post base w0 I0 I β x σ u w->Q (.panic [{ v:=u,recovered:=false }]) a w
theorem Zmr(hO:Zar P O)(hkp:∀ n∈dr.K,n∈an.keep)(hm:P.follows .mixedOrders=true)(hb:KLt base w0){id:Nat}{ops:Array Oper}{draw:Bool}{asl:List AOp}{chk:Option (List (Nat×Nat))}{live:List Nat}(hc:Zax P an (.region id ops draw)=.region asl chk live){I:Imm}{β:Bmap}{tm tm':Tms}{σ σ':Za}{a:Act}{w:World}{e:ZY}
  (hst:StR dr an.nt base w0 I0 I β tm σ a w) (h:Zb5 O bf asl chk live tm σ=some (e,tm',σ')) {Q:Exit->Act->World->Prop} (hQ:ZEG dr an base w0 I0 I β e tm' σ' Q):(Code.region id ops draw).wp P Q a w:=by
 obtain⟨I1,β1,g1,g2,g3,g4,g5⟩:=hst
 simp only[Zax]at hc
 split at hc
 ·rename_i l hl
  unfold Zb5 at h
  split at hc
  ·rename_i hd
   subst hd
   split at hc
   ·rename_i ps hps
    simp only[Ze.region.injEq]at hc
    obtain⟨rfl,rfl,rfl⟩:=hc
    cases hrun:ZN O bf l σ.length tm (σ++XA (sitesOf l) .free)with
    |none=>rw[hrun]at h;simp only[Zdn]at h;cases h
    |some q =>
     obtain⟨tm1,σ1,cs,p⟩:=q
     rw[hrun]at h
     cases p with
     |some x =>
      simp only[Zdn]at h
      split at h
      ·rename_i hpan
       simp only[Xa,Xc]at h
       obtain⟨rfl,rfl,rfl⟩:=h
       have hlen:=(Zjr hl).1
       simp only[XQ]at hlen
       obtain⟨n,tmJ,σJ,tmX,q1,q2,q3,q4⟩:=Zwc (O:=O) (bf:=bf) (ops:=l) (L:=σ.length) l.length 0 (cs:=cs) (cs':=cs) (by omega) (by simpa[sitesOf]using hrun) (fun j=>by simp)
       rw[Xv]at q4
       unfold ZiO at hpan
       rw[q2]at hpan
       simp only[Xj,List.any_eq_true,XF,WQ,beq_iff_eq,decide_eq_true_eq,Nat.add_sub_cancel]at hpan
       obtain⟨⟨pm,hpm,hm1,hm2⟩,hall⟩:=hpan
       have hmk:(n,n)∈ps:=by
        obtain⟨a1,a2⟩:=pm
        simp only at hm1 hm2
        subst hm1 hm2
        exact hpm
       have hT:(l.getD n default).ins.touches=true:=ZHZ hps hmk
       refine wp_region_any hm (ZBj hO hkp hb hl hps (jp:=n) (by omega) hmk hT (fun j i hji h1 h2=>?_) (fun j hj h1=>?_) (I:=I) (β:=β) (x:=x) (fun a' u w' hd' hp=>hQ a' u w' hd' hp) ops.size (XaI 0 n) (XaI (n+1) (l.length-n-1)) _ a _ tm tmJ tmX _ σJ q3 q4 ?_ ?_ ?_ (by simp) ?_ (by simp;omega) ⟨I1,β1,g1,g2,g3,g4,(g5.reserve _).same rfl rfl rfl rfl⟩)
       ·rcases hall (j,i) hji with(h |h) |⟨h,_⟩
        ·simp only at h;omega
        ·simp only at h;omega
        ·exact h
       ·rcases hall (j,n) hj with(h |h) |⟨_,h⟩
        ·simp only at h;omega
        ·simp only at h;omega
        ·rcases h with h |h
         ·simp only at h;omega
         ·exact h
       ·have e:XaI 0 n++n::XaI (n+1) (l.length-n-1)=XaI 0 l.length:=by
         rw[<-Xbk]
         have:=List.range'_append_1 (s:=0) (m:=n) (n:=l.length-n-1+1)
         rw[Xv]at this
         rw[this]
         congr 1
         omega
        rw[e];exact List.pairwise_lt_range'
       ·intro j hj;simp at hj;omega
       ·intro j hj
        simp[Xaz,hj]
        omega
       ·intro k hk hkn
        exact absurd (by simp;omega) hkn
      ·cases h
     |none =>
      simp only[Zdn]at h
      split at h
      ·rename_i hchk
       simp only[Xa,Xc]at h
       obtain⟨rfl,rfl,rfl⟩:=h
       have hlen:=(Zjr hl).1
       simp only[XQ]at hlen
       have hr:=ZvR (O:=O) (bf:=bf) (ops:=l) (L:=σ.length) l.length 0 (cs:=cs) (cs':=cs) (by omega) (by simpa[sitesOf]using hrun) (fun j=>by simp)
       refine wp_region_any hm (ZHg hO hkp hb hl hps hchk (I:=I) (β:=β) (fun a' w' hs=>hQ a' w' (hs.keep _)) ops.size (XaI 0 l.length) _ a _ tm _ hr ?_ ?_ ?_ (by simp) ?_ (by simp[hlen]) ⟨I1,β1,g1,g2,g3,g4,(g5.reserve _).same rfl rfl rfl rfl⟩)
       ·exact List.pairwise_lt_range'
       ·intro j hj;simp at hj;omega
       ·intro j hj
        simp[Xaz,hj,hlen]
       ·intro k hk hkn
        exact absurd (by simp;omega) hkn
      ·cases h
   ·cases hc
  ·rename_i hd
   simp only[Ze.region.injEq]at hc
   obtain⟨rfl,rfl,rfl⟩:=hc
   have hdf:draw=false:=by cases draw<;>simp_all
   subst hdf
   cases hrun:ZN O bf l σ.length tm (σ++XA (sitesOf l) .free)with
   |none=>rw[hrun]at h;simp only[Zdn]at h;cases h
   |some q =>
    obtain⟨tm1,σ1,cs,p⟩:=q
    rw[hrun]at h
    cases p with
    |none =>
     simp only[Zdn,Xa,Xc]at h
     obtain⟨rfl,rfl,rfl⟩:=h
     exact wp_region_list (Zpg hO hkp hb hl g3 g4 (g5.reserve _) hrun (fun _ a' w' hs=>hQ a' w' ((hs.trans g1 g2).keep _)) (fun x hx=>by cases hx))
    |some x =>
     simp only[Zdn,Xa,Xc]at h
     obtain⟨rfl,rfl,rfl⟩:=h
     exact wp_region_list (Zpg hO hkp hb hl g3 g4 (g5.reserve _) hrun (fun hx=>by cases hx) (fun x' hx a' u w' hd' hp=>by
      injection hx with hx;subst hx
      exact hQ a' u w' hd' (hp.trans g1 g2)))
 ·cases hc
end
end
end Go.Proofs.YtbcbhgbffjkheaaDoor
