/- packed -/
import Derived.Test.YtaimaokfbgmoiaaMq2
import Derived.Sort.Row
import Derived.Sort.Grow
import Derived.Shelf.SlSortCmp.NoneTotal
import Derived.Lib.Bytealg
import Derived.Test.YtaimaokfbgmoiaaProg
import Derived.Shelf.Small.Strs
import Derived.Test.YtaimaokfbgmoiaaChecked
import Derived.Deep.RegionHeld3
import Derived.Deep.Slices
import Derived.ChangeArms
import Derived.WideShapes
import GoSem.ClaimChange
import Derived.Shelf.Sort.Plain
import Derived.Shelf.Slices.In.SortNone
import Derived.Lib.TrimUEq
import Derived.Lib.MapLaws
import Derived.Lib.ValidLaws
set_option linter.defProp false
set_option linter.unusedSectionVars false
set_option linter.unusedSimpArgs false
set_option linter.unusedVariables false
open Option.some renaming injEq→Xa,inj→XaQ
open Prod.mk renaming injEq→Xb
open Bool renaming decide_eq_true→Xc,not_eq_true→Xh,and_eq_true→Xt,false_eq_true→Xu,not_true→WD,not_false→WG,not_eq_true'→WH,or_eq_true→WQ,and_self→WX,false_and→W0,true_and→W3,true_or→Xay,or_false→Xa3,or_true→Xba,and_true→Xbh,and_false→XbA,false_or→XbC
open List renaming range_succ→Xd,getElem?_eq_some_iff→Xf,all_cons→Xi,getD_eq_getElem?_getD→Xn,all_nil→Xp,length_cons→Xq,replicate→Xr,getElem?_set→Xv,map_cons→Xw,mem_of_getElem?→Xx,length_nil→Xy,getElem?_eq_getElem→Xz,getD_cons_zero→XA,getElem?_cons_succ→XC,getD_cons_succ→XD,length_append→XE,contains_nil→XF,mem_append→XG,nil_append→XI,lookup_cons→XJ,length_map→XL,getElem?_cons_zero→XN,mem_cons→XP,lookup_nil→XR,map_nil→XS,mem_singleton→XU,mem_map→XV,all_eq_true→XW,getElem?_eq_none→XX,getElem?_map→XY,any_cons→XZ,cons_append→X1,append_nil→X2,any_nil→X3,flatMap_cons→X5,ext_getElem?→Wa,eq_nil_of_length_eq_zero→Wb,take_succ_cons→Wh,drop_succ_cons→Wi,take_of_length_le→Wk,map_append→Wl,zip_cons_cons→Wn,drop_eq_nil_iff→Wx,map_map→Wy,mem_iff_getElem?→WA,replicate_succ→WC,drop_zero→WF,nodup_append→WJ,take_zero→WL,length_replicate→WN,singleton_append→WO,mem_filter→WR,range→W1,set_cons_zero→W7,set_cons_succ→W8,isEmpty_nil→Xab,getElem?_take_of_lt→Xae,mergeSort_perm→Xai,mem_range→Xat,isEmpty_cons→XaG,pairwise_mergeSort→XaI,flatMap_nil→XaK,take_append_drop→XaP,length_mergeSort→XaR,getElem?_take_eq_none→XaU,contains_eq_mem→XaV,mem_replicate→Xa4,nodup_range→Xbc,toList_toArray→Xbm,flatten_cons→Xbs,map_take→Xbt,not_lt→Xbu,flatMap_def→Xbw,length→XbE
open Nat renaming reduceLeDiff→Xe,reduceEqDiff→Xg,reduceMul→Xj,reduceAdd→Xk,reduceSub→Xl,reduceBEq→Xm,reduceLT→Xo,zero_add→XK,le_refl→X0,add_zero→Wm,mul_le_mul_right→Ww,add_assoc→W2,zero_mul→Xbo,succ_mul→Xbx
open Option renaming map_eq_some_iff→XB,map_some→X4,bind_some→Wq,getD_some→Wr,map→Xah,isSome_none→Xal,map_none→Xbl
open Or renaming inl→XH,inr→XO
open Array renaming getElem?_eq_some_iff→XQ,length_toList→X7,getElem?_toList→Wp,getElem?_modify→WM,getElem?_eq_getElem→Xaj
open Ne renaming symm→Xap
open Int renaming toNat_natCast→Xau
open Go.Lib renaming compareBytes→XaZ
namespace Go.Proofs.Ytaimaokfbgmoiaa
set_option maxHeartbeats 16000000
set_option maxRecDepth 10000
section
open Go.RowKit
open Go.ChangeMaps (setBlock)
theorem ZzY {arr:Array MapEntry} {seen:Array Nat} {e:MapEntry} (h:e ∈ (leftOf arr seen).toList):e ∈ arr.toList/\seen.contains e.born=false:=by
 unfold leftOf at h
 simp only [Array.toList_filter,WR,WH] at h
 exact h
theorem ZDq {arr:Array MapEntry} {seen:Array Nat} (h:(leftOf arr seen).size=0):∀ e ∈ arr.toList,seen.contains e.born=true:=by
 intro e he
 cases hc:seen.contains e.born with
 | true=>rfl
 | false =>
  have hm:e ∈ (leftOf arr seen).toList:=by
   unfold leftOf
   simp only [Array.toList_filter,WR,WH]
   exact ⟨he,hc⟩
  have : (leftOf arr seen).toList=[]:=by
   apply Wb
   simpa using h
  rw [this] at hm;cases hm
section
variable {P:Program} {base:Nat->Prop} {w0:World} {I0:Imm}
variable {fs:Nat->Option Zam} {prim:Zbz} {bf:Nat->Bool} {m:Nat} {live:List Nat} {ms it nx ok en bid b1 nt:Nat} {aslE:List AOp} {c2 c3:Zv} {rs:List Zda}
def Zdc (it ms:Nat) (r b:Nat):Door:=⟨[],[it,ms],fun n=>if n=it then .pointer (some ⟨r,0,none⟩) else .map (some b)⟩
def ZfO (arr:Array MapEntry) (j:Nat):Nat:=(arr.toList.getD j ⟨undef,undef,0⟩).born
theorem ZEw (hm:P.follows .mixedOrders=true) (hO:∀ n,ZaF P (ZaB fs prim bf n)) (hb:KLt base w0) {an3:Ann} {ops3 ops4:Array Oper} {i3 i4:Nat} {body:Code} {nxo exo eno:Oper} {lE:List Oper}
  (h3:ops3.toList=[nxo,exo]) (h4:ops4.toList=eno::lE)
  (hn1:nxo.op=.next (.tmp it) false) (hn2:nxo.dst=some nx) (hn3:nxo.guard=none) (hx1:exo.op=.extract (.tmp nx) 0) (hx2:exo.dst=some ok) (hx3:exo.guard=none)
  (he1:eno.op=.entry (.tmp it)) (he2:eno.dst=some en) (he3:eno.guard=none) (hcE:ZcY P an3 ops4 lE=some aslE) (hc2:ZcH (ZaR P an3 body)=c2) (hnt3:an3.nt=nt) (hk3:an3.keep=[it,ms])
  (d1:it < nt) (d2:nx < nt) (d3:ok < nt) (d4:en < nt) (d5:it≠ms) (d6:nx≠ms) (d7:ok≠ms) (d8:en≠ms) (d9:nx≠it) (d10:ok≠it) (d11:en≠it) (d12:nx≠ok) (hlv:∀ n ∈ live,n≠it/\n≠nx/\n≠ok/\n≠en)
  {r b clk:Nat} {arr:Array MapEntry} {es:List (AVal×AVal)} (hS:ZfP arr clk) (hne:arr.size=es.length) (hrb:r≠b) (hrbase:¬base r) (hbbase:¬base b)
  {tm2:Tms} {σ2:Za} {out:AVal×Za} (hall:∀ es':List (AVal×AVal),es'.Perm es->ZgD fs prim bf m live ms en b1 aslE c2 c3 rs es es' tm2 σ2=some out)
  {I:Imm} {β:Bmap} {Q:Exit->Act->World->Prop}
  (hQ:∀ tm σ a w I' β',Zfv fs prim bf m live c3 rs tm σ=some out->I.le I'->KeptE m β β'->TR I' β' (keepL live tm) a.tmps->(a.defers=[]/\nt<=a.tmps.size)->Rel base w0 I0 I' β' σ w->Q (.exit bid) a w) :
  ∀ (n:Nat) (js:List Nat) (tm:Tms) (σ:Za) (a:Act) (w:World),n+js.length=es.length+1->js.Nodup->(∀ j ∈ js,j < es.length)->Zdy fs prim bf m live ms en b1 aslE c2 es (js.map fun j=>es.getD j (.top,.top)) tm2 σ2=some (tm,σ) ->
   w.heap[r]?=some (.mapIter (some b) clk (js.map (ZfO arr)).toArray clk)->w.heap[b]?=some (.map arr clk) ->
   (∃ I' β',I.le I'/\KeptE m β β'/\TR I' β' (keepL live tm) a.tmps/\((Zdc it ms r b).ok a/\nt<=a.tmps.size)/\Rel base w0 I0 I' β' σ w/\(∀ o,I' r o=none)/\(∀ t x,σ[t]?=some x->¬Zw w β' t x r)) ->
   Code.rounds P (.seq (.region i3 ops3 false) (.seq (.cond (.tmp ok) .skip (.exit bid)) (.block b1 (.seq (.region i4 ops4 false) body)))) Q n a w:=by
 have hperm:∀ js:List Nat,js.Nodup->(∀ j ∈ js,j < es.length)->∃ rest:List Nat,(W1 es.length).Perm (js++rest):=fun js h1 h2=>ZvZ js _ h1 (fun j hj=>Xat.2 (h2 j hj)) Xbc
 have hpm:∀ js rest:List Nat,(W1 es.length).Perm (js++rest)->(js.map (fun j=>es.getD j (.top,.top))++rest.map fun j=>es.getD j (.top,.top)).Perm es:=by
  intro js rest h
  have:=h.map (fun j=>es.getD j ((.top,.top):AVal×AVal))
  rw [ZBS,Wl] at this
  exact this.symm
 intro n
 induction n with
 | zero =>
  intro js tm σ a w hn hnd hlt _ _ _ _
  exfalso
  obtain ⟨rest,hr⟩:=hperm js hnd hlt
  have:=hr.length_eq
  simp at this
  omega
 | succ n ih =>
  intro js tm σ a w hn hnd hlt hf hit hmap hst
  rw [rounds_succ]
  obtain ⟨I1,β1,g1,g2,T1,⟨gd,gs⟩,R1,hIr,hown⟩:=hst
  have vit:a.tmps.getD it undef=.pointer (some ⟨r,0,none⟩):=by
   have:=gd.2 it (by simp [Zdc]);simpa [Zdc] using this
  have vms:a.tmps.getD ms undef=.map (some b):=by
   have:=gd.2 ms (by simp [Zdc]);simpa [Zdc,Xap d5] using this
  refine wp_seq (wp_region_list ?_)
  rw [h3]
  refine Zgp hn3 ?_
  unfold Oper.wp
  have hlook:=run_next_at (P:=P) w nxo.type r b clk clk _ arr clk hit hmap (fun x hx=>hS.1 x hx) (X0 _)
  rcases hlook with ⟨hz,hrun⟩ | ⟨e,he,w1,hw1,hrun⟩
  ·
   have e1:(execOp a.eval nxo).run P w=.ok (.value (.tuple #[.bool false])) w:=by
    unfold execOp;rw [hn1]
    simp only [Act.eval]
    rw [vit]
    exact ZjA hrun
   rw [e1,Oper.upon_value,hn2]
   refine Zgp hx3 ?_
   unfold Oper.wp
   have e2:(execOp (a.put (some nx) (.tuple #[.bool false])).eval exo).run P w=.ok (.value (.bool false)) w:=by
    unfold execOp;rw [hx1]
    simp only [Act.eval]
    rw [pgs (by omega)]
    exact ZjA (by simp [Instr.extract])
   rw [e2,Oper.upon_value,hx2]
   refine wpList_nil ?_
   simp only [Exit.then]
   refine wp_seq (wp_cond_false (by simp only [Act.eval];exact pgs (by rw [Zec];omega)) (wp_exit ?_))
   simp only [Exit.then]
   obtain ⟨rest,hr⟩:=hperm js hnd hlt
   have hrest:rest=[]:=by
    cases rest with
    | nil=>rfl
    | cons x rest =>
     exfalso
     have hx:x < es.length:=Xat.1 (hr.mem_iff.2 (by simp))
     obtain ⟨ex,hxa⟩:∃ ex,arr.toList[x]?=some ex:=⟨_,Xz (by simpa [hne] using hx)⟩
     have hs:=ZDq hz (arr.toList.getD x ⟨undef,undef,0⟩) (by
      rw [Xn,hxa];exact Xx hxa)
     have hnd2:(js++x::rest).Nodup:=hr.nodup_iff.1 Xbc
     have hxj:x ∉ js:=fun hm=>by
      have:=(WJ.1 hnd2).2.2 x hm x (by simp)
      exact this rfl
     simp only [List.contains_toArray,XaV,decide_eq_true_eq,XV] at hs
     obtain ⟨y,hy,hyx⟩:=hs
     have hyl:y < es.length:=hlt y hy
     obtain ⟨ey,hya⟩:∃ ey,arr.toList[y]?=some ey:=⟨_,Xz (by simpa [hne] using hyl)⟩
     have hnb:=hS.2
     have e3:(arr.toList.map (·.born))[y]?=(arr.toList.map (·.born))[x]?:=by
      rw [XY,XY,hya,hxa]
      simp only [X4,Xa]
      unfold ZfO at hyx
      rw [Xn,Xn,hya,hxa] at hyx
      exact hyx
     have hyx2:=(List.getElem?_inj (by simpa [hne] using hyl) hnb).1 e3
     subst hyx2
     exact hxj hy
   subst hrest
   have hp:=hpm js [] hr
   have ho:=hall _ hp
   unfold ZgD at ho
   rw [ZhU,hf] at ho
   simp only [XS,Zdy] at ho
   refine hQ tm σ _ w I1 β1 ho g1 g2 ?_ ⟨by rw [Zjr,Zjr];exact gd.1,by rw [Zec,Zec];exact gs⟩ R1
   have t0:∀ d,d ∉ live->tget (keepL live tm) d=.top:=fun d hd=>by rw [ZgO,if_neg hd]
   exact ZhT (ZhT T1 (t0 nx fun h=>(hlv nx h).2.1 rfl)) (t0 ok fun h=>(hlv ok h).2.2.1 rfl)
  ·
   obtain ⟨hea,hes⟩:=ZzY he
   obtain ⟨j,hj,hje⟩:=List.getElem_of_mem hea
   have hja:arr.toList[j]?=some e:=by rw [Xz hj,hje]
   have hjl:j < es.length:=by simpa [hne] using hj
   have hbj:ZfO arr j=e.born:=by unfold ZfO;rw [Xn,hja];rfl
   have hjs:j ∉ js:=fun hm=>by
    have : (js.map (ZfO arr)).toArray.contains e.born=true:=by
     simp only [List.contains_toArray,XaV,decide_eq_true_eq,XV]
     exact ⟨j,hm,hbj⟩
    rw [this] at hes;cases hes
   have hnd':(js++[j]).Nodup:=by
    rw [WJ]
    exact ⟨hnd,by simp,fun x hx y hy=>by rw [XU] at hy;subst hy;rintro rfl;exact hjs hx⟩
   have hlt':∀ k ∈ js++[j],k < es.length:=fun k hk=>by
    rcases XG.1 hk with hk | hk
    ·exact hlt k hk
    ·rw [XU] at hk;subst hk;exact hjl
   obtain ⟨rest,hr⟩:=hperm (js++[j]) hnd' hlt'
   have hp:=hpm (js++[j]) rest hr
   have ho:=hall _ hp
   unfold ZgD at ho
   rw [ZhU,Wl,ZhU,hf] at ho
   simp only [Xw,XS,Zdy] at ho
   generalize hkv:es.getD j ((.top,.top):AVal×AVal)=kv at ho
   cases hro:Zfi fs prim bf m live ms en b1 aslE c2 es kv tm σ with
   | none=>rw [hro] at ho;cases ho
   | some q =>
   obtain ⟨tm',σ'⟩:=q
   clear ho
   have hf':Zdy fs prim bf m live ms en b1 aslE c2 es ((js++[j]).map fun j=>es.getD j (.top,.top)) tm2 σ2=some (tm',σ'):=by
    rw [Wl,ZhU,hf]
    simp only [Xw,XS,Zdy,hkv,hro]
   unfold Zfi at hro
   split at hro
   case h_2=>cases hro
   rename_i t hmst
   split at hro
   case isFalse=>cases hro
   rename_i hcond
   obtain ⟨hte,hkept⟩:=hcond
   split at hro
   case h_2=>cases hro
   rename_i tmA σA hstep
   have hbw:=R1.base_le hb
   have Rr:=R1.rebase hown
   obtain ⟨β0,q1,R0r,T0⟩:=ZnN Rr T1 m
   have R0:=R1.unbase R0r (fun k h=>XH h) (fun t x b hx hs=>by
    rcases R0r.ro t x b hx hs with h | rfl
    ·exact h
    ·exfalso
     cases x with
     | rmap es2 =>
      obtain ⟨b2,_,_,_,_,e1,e2,_⟩:=R0r.blk t _ hx
      simp only [Zco,e1,Wq,Xa] at hs
      subst hs
      rw [hit] at e2;cases e2
     | _=>cases hs)
   have hown0:∀ t x,(gcT m (keepL live tm) σ).2[t]?=some x->¬Zw w β0 t x r:=fun t x hx ho=>(R0r.own t x r hx ho).1 (XO rfl)
   have tt:∀ d,d ∉ live->tget (gcT m (keepL live tm) σ).1 d=.top:=fun d hd=>ZDI hd
   have hml:=ZDH m (keepL live tm) σ
   generalize (gcT m (keepL live tm) σ).1=tm0 at *
   generalize (gcT m (keepL live tm) σ).2=σ0 at *
   have vt:=T0 ms
   rw [hmst,vms] at vt
   simp only [VR] at vt
   obtain ⟨b',kk',cc',hbt,hbb⟩:=vt
   simp only [Value.map.injEq,Xa] at hbb
   subst hbb
   obtain ⟨b2,k2,c2',arr',clk',e1,e2,e3,e4,e5,e6⟩:=R0.blk t _ hte
   rw [hbt] at e1
   simp only [Xa,BI.mk.injEq] at e1
   obtain ⟨rfl,rfl,rfl⟩:=e1
   rw [hmap] at e2
   simp only [Xa,Obj.map.injEq] at e2
   obtain ⟨rfl,rfl⟩:=e2
   have howb:Zw w β0 t (.map es) b:=by simp [Zw,hbt]
   have htl:t < σ0.length:=(Xf.1 hte).1
   have e1:(execOp a.eval nxo).run P w=.ok (.value (.tuple #[.bool true,e.key,e.val])) (setBlock w1 r (.mapIter (some b) clk ((js.map (ZfO arr)).toArray.push e.born) clk)):=by
    unfold execOp;rw [hn1]
    simp only [Act.eval]
    rw [vit]
    rw [Sem.run_bind,hrun];rfl
   have hw1h:w1.heap=w.heap/\w1.os=w.os/\w1.tape=w.tape/\w1.output=w.output:=by rcases hw1 with rfl | rfl <;> exact ⟨rfl,rfl,rfl,rfl⟩
   obtain ⟨wh,wo,wt,wu⟩:=hw1h
   have hrlt:r < w.heap.size:=(XQ.1 hit).1
   generalize hw3:setBlock w1 r (.mapIter (some b) clk ((js.map (ZfO arr)).toArray.push e.born) clk)=w3 at e1
   have w3r:w3.heap[r]?=some (.mapIter (some b) clk ((js.map (ZfO arr)).toArray.push e.born) clk):=by
    rw [<-hw3];simp only [setBlock,wh];rw [Array.getElem?_setIfInBounds_self_of_lt hrlt]
   have w3k:∀ k,k≠r->w3.heap[k]?=w.heap[k]?:=fun k hk=>by
    rw [<-hw3];simp only [setBlock,wh];rw [Array.getElem?_setIfInBounds_ne (Xap hk)]
   have w3b:w3.heap[b]?=some (.map arr clk):=by rw [w3k b (Xap hrb)];exact hmap
   have w3s:w3.heap.size=w.heap.size:=by rw [<-hw3];simp [setBlock,wh]
   have R3:Rel base w0 I0 I1 β0 σ0 w3:=R0.turn hown0 hrbase hIr (by rw [<-hw3];exact wo) (by rw [<-hw3];exact wt) (by rw [<-hw3];exact wu) (by omega) (fun k hk _=>w3k k hk) hbw
   have hIb:∀ o,I1 b o=none:=(R3.own t _ b hte howb).2
   have hown3:∀ t x,σ0[t]?=some x->¬Zw w3 β0 t x r:=fun t x hx ho=>hown0 t x hx (((R0.blk t x hx).owns_at (Bmap.le.refl β0) (fun b' hb'=>w3k b' (by rintro rfl;exact hown0 t x hx hb')) r).1 ho)
   have RH:=R3.hide hte howb hown3
   rw [e1,Oper.upon_value,hn2]
   generalize hA1:a.put (some nx) (.tuple #[.bool true,e.key,e.val])=A1
   have s1:A1.tmps.size=a.tmps.size:=by rw [<-hA1,Zec]
   have f1:∀ k,k≠nx->A1.tmps.getD k undef=a.tmps.getD k undef:=by intro k hk;rw [<-hA1];exact pgn (Xap hk)
   have df1:A1.defers=[]:=by rw [<-hA1];exact gd.1
   have TA1:TR I1 β0 tm0 A1.tmps:=by rw [<-hA1];exact ZhT T0 (tt nx fun h=>(hlv nx h).2.1 rfl)
   refine Zgp hx3 ?_
   unfold Oper.wp
   have e2:(execOp A1.eval exo).run P w3=.ok (.value (.bool true)) w3:=by
    unfold execOp;rw [hx1]
    simp only [Act.eval]
    rw [<-hA1,pgs (by omega)]
    exact ZjA (by simp [Instr.extract])
   rw [e2,Oper.upon_value,hx2]
   generalize hA2:A1.put (some ok) (.bool true)=A2
   have s2:A2.tmps.size=a.tmps.size:=by rw [<-hA2,Zec,s1]
   have f2:∀ k,k≠ok->A2.tmps.getD k undef=A1.tmps.getD k undef:=by intro k hk;rw [<-hA2];exact pgn (Xap hk)
   have df2:A2.defers=[]:=by rw [<-hA2];exact df1
   have TA2:TR I1 β0 tm0 A2.tmps:=by rw [<-hA2];exact ZhT TA1 (tt ok fun h=>(hlv ok h).2.2.1 rfl)
   refine wpList_nil ?_
   simp only [Exit.then]
   refine wp_seq (wp_cond_true (by simp only [Act.eval];rw [<-hA2];exact pgs (by omega)) (wp_skip ?_))
   simp only [Exit.then]
   refine wp_block (wp_seq (wp_region_list ?_))
   rw [h4]
   refine Zgp he3 ?_
   unfold Oper.wp
   have e3':(execOp A2.eval eno).run P w3=.ok (.value (.tuple #[e.key,e.val])) w3:=by
    unfold execOp;rw [he1]
    simp only [Act.eval]
    rw [f2 it (Xap d10),f1 it (Xap d9),vit]
    exact ZjA (run_entry_at w3 r b clk _ arr clk e w3r w3b hea hS.2)
   rw [e3',Oper.upon_value,he2]
   generalize hA3:A2.put (some en) (.tuple #[e.key,e.val])=A3
   have s3:A3.tmps.size=a.tmps.size:=by rw [<-hA3,Zec,s2]
   have f3:∀ k,k≠en->A3.tmps.getD k undef=A2.tmps.getD k undef:=by intro k hk;rw [<-hA3];exact pgn (Xap hk)
   have df3:A3.defers=[]:=by rw [<-hA3];exact df2
   have hkve:VR I1 β0 (.tup [kv.1,kv.2]) (.tuple #[e.key,e.val]):=by
    have hej:es[j]?=some kv:=by
     rw [<-hkv,Xn,Xz hjl];rfl
    obtain ⟨v1,p1,p2⟩:=ZcF e3 (i:=j) (x:=kv.1) (by rw [XY,hej];rfl)
    obtain ⟨v2,p3,p4⟩:=ZcF e4 (i:=j) (x:=kv.2) (by rw [XY,hej];rfl)
    rw [XY,hja] at p1 p3
    simp only [X4,Xa] at p1 p3
    subst p1 p3
    simp only [VR]
    exact ⟨_,rfl,by simp only [VRs];exact ⟨_,_,rfl,p2,_,_,rfl,p4,rfl⟩⟩
   have TA3:TR I1 β0 (tput tm0 (some en) (.tup [kv.1,kv.2])) A3.tmps:=by rw [<-hA3];exact TR.put TA2 hkve (by omega)
   have ok3:(Zdc it ms r b).ok A3:=by
    refine ⟨df3,fun k hk=>?_⟩
    have hk':k=it\/k=ms:=by simpa [Zdc] using hk
    have n1:k≠en/\k≠ok/\k≠nx:=by
     rcases hk' with rfl | rfl
     ·exact ⟨Xap d11,Xap d10,Xap d9⟩
     ·exact ⟨Xap d8,Xap d7,Xap d6⟩
    rw [f3 k n1.1,f2 k n1.2.1,f1 k n1.2.2]
    exact gd.2 k hk
   have hkp:∀ n ∈ (Zdc it ms r b).K,n ∈ an3.keep:=fun n hn=>by rw [hk3];exact hn
   have hblt:b < w.heap.size:=(XQ.1 hmap).1
   have hbH:KLt (fun k=>base k\/k=b\/k=r) w3:=fun k hk=>by
    rcases hk with hk | rfl | rfl
    ·have:=hbw k hk;omega
    ·omega
    ·omega
   obtain ⟨cs,hruns⟩:=Zwo hstep
   rw [<-X2 lE]
   refine ZpS (dr:=Zdc it ms r b) (O:=fun _ _ _=>none) noO hkp hbH hcE TA3 ⟨ok3,by omega⟩ RH hruns ?_
   intro A4 w4 hst4
   refine wpList_nil ?_
   simp only [Exit.then]
   have fin:∀ (x:Za2) (tmB:Tms) (σB:Za),evC fs prim bf σ0.length c2 tmA σA=some (x,tmB,σB)->(x=.normal\/x=.exit b1)->(σB[t]?=some (.rmap es)/\ZdW (σ0.set t (.rmap es)) σB=true)->tput tmB (some ms) (.map t)=tm'->σB.set t (.map es)=σ'->body.wp P (Exit.inBlock b1 (Exit.then (Code.rounds P (.seq (.region i3 ops3 false) (.seq (.cond (.tmp ok) .skip (.exit bid)) (.block b1 (.seq (.region i4 ops4 false) body)))) Q n) Q)) A4 w4:=by
    intro x tmB σB hev hx hopq htm hσ
    obtain ⟨nf,hev⟩:=Zbm.1 hev
    rw [<-hc2,ZeI] at hev
    have hstF:StF (Zdc it ms r b) σ0.length an3.nt (fun k=>base k\/k=b\/k=r) w3 I1 I1 β0 tmA σA A4 w4:=by
     obtain ⟨I4,β4,k1,k2,k3⟩:=hst4
     exact ⟨I4,β4,k1,KeptE.of_le k2,k3⟩
    have next:∀ A5 w5,StF (Zdc it ms r b) σ0.length an3.nt (fun k=>base k\/k=b\/k=r) w3 I1 I1 β0 tmB σB A5 w5->Code.rounds P (.seq (.region i3 ops3 false) (.seq (.cond (.tmp ok) .skip (.exit bid)) (.block b1 (.seq (.region i4 ops4 false) body)))) Q n A5 w5:=by
     rintro A5 w5 ⟨I5,β5,k1,k2,k3,⟨k4,k4'⟩,k5⟩
     have hb5:β5 t 0=some ⟨some b,kk',cc'⟩:=k2 t htl _ hbt
     have w5b:w5.heap[b]?=some (.map arr clk):=by rw [k5.below.block b (XO (XH rfl))];exact w3b
     have w5r:w5.heap[r]?=_:=(k5.below.block r (XO (XO rfl))).trans w3r
     have hI5b:∀ o,I5 b o=none:=fun o=>by rw [k5.old b o (XO (XH rfl))];exact hIb o
     have hI5r:∀ o,I5 r o=none:=fun o=>by rw [k5.old r o (XO (XO rfl))];exact hIr o
     have hB5:BR I5 β5 w5 t (.map es):=⟨b,kk',cc',arr,clk,hb5,w5b,ZvG (fun y hy=>by obtain ⟨p,hp,rfl⟩:=XV.1 hy;exact e5 p hp) e3,Zw4 k1 k2 (fun y hy=>by obtain ⟨p,hp,rfl⟩:=XV.1 hy;exact hkept p hp) e4,e5,hS⟩
     have ho5:Zw w β5 t (.map es) b:=by simp [Zw,hb5]
     have R5:=R3.unhide k5 hopq.1 ho5 hB5 hbbase hI5b (fun u x b' hne hx hs=>by
      cases x with
      | rmap es2 =>
       obtain ⟨y,h2,h1⟩:=ZrF hopq.2 hx rfl
       rw [List.getElem?_set_ne (Xap hne)] at h2
       cases y <;> simp [Zdg] at h1
       rename_i es3
       obtain ⟨b2,k2',c2',_,_,e1,_⟩:=R0.blk u _ h2
       have e2:=k2 u (Xf.1 h2).1 _ e1
       refine R0.ro u _ b' h2 ?_
       simp only [Zco,e2] at hs
       simpa [Zco,e1] using hs
      | _=>cases hs)
     rw [hσ] at R5
     refine ih (js++[j]) tm' σ' A5 w5 (by rw [XE,List.length_singleton];omega) hnd' hlt' hf' ?_ w5b ⟨I5,β5,g1.trans k1,?_,?_,⟨k4,by omega⟩,R5,hI5r,?_⟩
     ·rw [w5r,Wl,Xw,XS,hbj,List.push_toArray]
     ·refine (g2.trans q1).trans (fun u hu bi hbi=>k2 u (by omega) bi hbi)
     ·refine TR.keep (fun u=>?_) live
      rw [<-htm]
      show VR I5 β5 (tget (tins ms (.map t) tmB) u) _
      rw [Zg3]
      split
      ·rename_i e;subst e
       have : A5.tmps.getD ms undef=.map (some b):=by have:=k4.2 ms (by simp [Zdc]);simpa [Zdc,Xap d5] using this
       rw [this]
       simp only [VR]
       exact ⟨b,kk',cc',hb5,rfl⟩
      ·exact k3 u
     ·intro u y hy hoy
      rw [<-hσ,Xv] at hy
      split at hy
      ·rename_i e;subst e
       split at hy
       ·injection hy with hy;subst hy
        exact hrb (XaQ (ho5.symm.trans hoy)).symm
       ·cases hy
      ·exact (k5.own u y r hy hoy).1 (XO (XO rfl))
    refine ZiW (dr:=Zdc it ms r b) (an:=an3) (hO nf) hkp hm hbH σ0.length nf rfl hstF hev ?_
    rcases hx with rfl | rfl
    ·intro A5 w5 hs
     simp only [Exit.inBlock,Exit.then]
     exact next A5 w5 hs
    ·intro A5 w5 hs
     simp only [Exit.inBlock,if_true,Exit.then]
     exact next A5 w5 hs
   split at hro
   ·rename_i tmB σB hev
    split at hro
    case isFalse=>cases hro
    rename_i hopq
    simp only [Xa,Xb] at hro
    exact fin _ _ _ hev (XH rfl) hopq hro.1 hro.2
   ·rename_i i tmB σB hev
    split at hro
    case isFalse=>cases hro
    rename_i hopq
    obtain ⟨rfl,hopq⟩:=hopq
    simp only [Xa,Xb] at hro
    exact fin _ _ _ hev (XO rfl) hopq hro.1 hro.2
   ·cases hro
end
end
section
open Go.RowKit
open Go.ChangeMaps (setBlock)
section
variable {P:Program} {fs:Nat->Option Zam} {prim:Zbz} {bf:Nat->Bool}
theorem ZEl {base:Nat->Prop} {w0 w:World} {I0 I:Imm} {β:Bmap} {σ σ':Za} (R:Rel base w0 I0 I β σ w) {t:Nat} {es:List (AVal×AVal)} (h:Zhb σ t=some (es,σ')):∃ I',I.le I'/\Rel base w0 I0 I' β σ' w/\σ'[t]?=some (.map es):=by
 unfold Zhb at h
 split at h
 ·rename_i es' hs
  simp only [Xa,Xb] at h
  obtain ⟨rfl,rfl⟩:=h
  exact ⟨I,Imm.le.refl I,R,hs⟩
 ·rename_i k es' hs
  split at h
  ·rename_i l hl
   simp only [Xa,Xb] at h
   obtain ⟨rfl,rfl⟩:=h
   obtain ⟨I',h1,h2⟩:=R.melt hs hl
   exact ⟨I',h1,h2,by rw [Xv,if_pos rfl,if_pos (Xf.1 hs).1]⟩
  ·cases h
 ·cases h
theorem ZCh (hm:P.follows .mixedOrders=true) (hO:∀ n,ZaF P (ZaB fs prim bf n)) {f:FuncId} {an1 an3:Ann} {nt n0 n1 ms it nx ok en bid b1:Nat} {live:List Nat} {asl1 aslE:List AOp} {c1 c2 c3:Zv} {rs:List Zda}
  (D:ZwW P f an1 an3 nt n0 n1 ms it nx ok en bid b1 live asl1 aslE c1 c2 c3 rs) {args:List AVal} {σ σ':Za} {r:AVal} (hg:Zrl fs prim bf live ms en b1 asl1 aslE c1 c2 c3 rs args σ=some (r,σ')) :
  (∃ fn,P.funcs[f]?=some fn/\fn.body.isSome=true/\(fn.name == "runtime.NumGoroutine")=false) /\
  ∀ base w0 I0 I β w (vs:Array Value),KLt base w0->Rel base w0 I0 I β σ w->VRs I β args vs.toList ->
   Calls P f vs w (fun e w'=>∃ u,Ends r e u/\Zbo σ.length base w0 I0 I β r σ' u w'):=by
 obtain ⟨F,B,pre,ops1,ops3,ops4,i2,i3,i4,body,rest,t,kt,et,rg,nxo,exo,eno,lE,hF,hname,hnt,hrs,hbody,hsp,h1,h3,h4,hr1,hr2,hr3,hu,hn1,hn2,hn3,hx1,hx2,hx3,he1,he2,he3,hc1,hca1,hcE,hc2,hc3,ha1,ha3,hk3,hd⟩:=D.ex
 simp only [Xt,decide_eq_true_eq,XW] at hd
 obtain ⟨⟨⟨⟨⟨⟨⟨⟨⟨⟨⟨⟨d1,d2⟩,d3⟩,d4⟩,d5⟩,d6⟩,d7⟩,d8⟩,d9⟩,d10⟩,d11⟩,d12⟩,hlv⟩:=hd
 refine ⟨⟨F,hF,by rw [hbody];rfl,hname⟩,?_⟩
 intro base w0 I0 I β w vs hb R hargs
 unfold Zrl at hg
 split at hg
 case h_2=>cases hg
 rename_i tm1 σ1 hx
 split at hg
 case h_2=>cases hg
 rename_i tm2 σm hst1
 split at hg
 case h_2=>cases hg
 rename_i mt hms
 split at hg
 case h_2=>cases hg
 rename_i es σ2 hmelt
 unfold ZhC at hg
 split at hg
 case isFalse=>cases hg
 rename_i hex
 have hall:=hex.choose_spec
 injection hg with hg
 rw [hg] at hall
 obtain ⟨nf,hx⟩:=Zbm.1 hx
 rw [<-hc1,ZeI] at hx
 refine calls_of_wp hF hbody ?_
 rw [Zw0 hsp]
 have T:=Zvi hargs (F.ntmps - vs.size)
 have hst:StF Zbr σ.length an1.nt base w0 I0 I β (enterA 0 args []) σ { tmps:=vs++Array.replicate (F.ntmps - vs.size) undef,defers:=[] } w:=⟨I,β,Imm.le.refl I,KeptE.refl _ β,T,⟨ZeR.2 rfl,by rw [ha1,<-hnt];simp;omega⟩,R⟩
 refine Zx5 (hO nf) hm hb σ.length nf _ pre hst hx ?_
 rintro A1 w1 ⟨I1,β1,g1,g2,T1,⟨gd,gs⟩,R1⟩
 refine wp_seq (wp_seq (wp_region_list ?_))
 have hl1:ops1.toList=ops1.toList.take n1++[rg]:=by rw [<-h1,XaP]
 rw [hl1]
 obtain ⟨cs,hruns⟩:=Zwo hst1
 refine ZpS (dr:=Zbr) (O:=fun _ _ _=>none) noO (fun n hn=>by simp [Zbr] at hn) hb hca1 T1 ⟨gd,gs⟩ R1 hruns ?_
 rintro A2 w2 ⟨Im,β2,k1m,k2,T2m,⟨kd,ks⟩,R2m⟩
 obtain ⟨I2,km,R2,hes⟩:=ZEl R2m hmelt
 have T2:=T2m.mono km (Bmap.le.refl β2)
 have k1:=k1m.trans km
 have vms:=T2 ms
 rw [hms] at vms
 simp only [VR] at vms
 obtain ⟨b,kk,cc,hbt,vms⟩:=vms
 obtain ⟨b',kk',cc',arr,clk,e1,e2,e3,e4,e5,e6⟩:=R2.blk mt _ hes
 rw [hbt] at e1
 simp only [Xa,BI.mk.injEq] at e1
 obtain ⟨rfl,rfl,rfl⟩:=e1
 refine Zgp hr3 ?_
 unfold Oper.wp
 have er:(execOp A2.eval rg).run P w2=.ok (.value (.pointer (some ⟨w2.heap.size,0,none⟩))) { w2 with heap:=w2.heap.push (.mapIter (some b) clk #[] clk) }:=by
  unfold execOp;rw [hr1]
  simp only [Act.eval]
  rw [vms]
  simp [Instr.range,run_underlying hu,Zex e2]
 rw [er,Oper.upon_value,hr2]
 refine wpList_nil ?_
 simp only [Exit.then]
 have hbw:=R2.base_le hb
 have hblt:b < w2.heap.size:=(XQ.1 e2).1
 have howb:Zw w2 β2 mt (.map es) b:=by simp [Zw,hbt]
 have hob:=R2.own mt _ b hes howb
 generalize hr:w2.heap.size=rr at *
 have hown:∀ t x,σ2[t]?=some x->¬Zw w2 β2 t x rr:=fun t x hx ho=>by
  have:=(R2.blk t x hx).owns_lt ho;omega
 have hrb:¬base rr:=fun h=>by have:=hbw rr h;omega
 have hIr:∀ o,I2 rr o=none:=fun o=>by
  cases hi:I2 rr o with
  | none=>rfl
  | some u =>
   have:=Zd1 (R2.imm rr o u hi)
   omega
 generalize hw3:({ w2 with heap:=w2.heap.push (.mapIter (some b) clk #[] clk) }:World)=w3
 have w3k:∀ k,k < w2.heap.size->w3.heap[k]?=w2.heap[k]?:=fun k hk=>by
  rw [<-hw3];simp only;rw [Array.getElem?_push];rw [if_neg (by omega)]
 have R3:Rel base w0 I0 I2 β2 σ2 w3:=R2.turn hown hrb hIr (by rw [<-hw3]) (by rw [<-hw3]) (by rw [<-hw3]) (by rw [<-hw3];simp) (fun k _ hk=>w3k k hk) hbw
 have hown3:∀ t x,σ2[t]?=some x->¬Zw w3 β2 t x rr:=fun t x hx ho=>hown t x hx (((R2.blk t x hx).owns_at (Bmap.le.refl β2) (fun b' hb'=>w3k b' ((R2.blk t x hx).owns_lt hb')) rr).1 ho)
 refine wp_block (wp_loop_rounds (es.length+1) ?_)
 have hlen:arr.size=es.length:=by
  have:=Zan e3
  simpa using this.symm
 refine ZEw (base:=base) (w0:=w0) (I0:=I0) (m:=σ.length) (live:=live) (ms:=ms) (it:=it) (nx:=nx) (ok:=ok) (en:=en) (nt:=nt) (c3:=c3) (rs:=rs) hm hO hb h3 h4 hn1 hn2 hn3 hx1 hx2 hx3 he1 he2 he3 hcE hc2 ha3 hk3 d1 d2 d3 d4 d5 d6 d7 d8 d9 d10 d11 d12 (fun n hn=>by have:=hlv n hn;exact ⟨this.1.1.1,this.1.1.2,this.1.2,this.2⟩)
  (r:=rr) (b:=b) (arr:=arr) (clk:=clk) (es:=es) (tm2:=tm2) (σ2:=σ2) (out:=(r,σ')) (I:=I2) (β:=β2) e6 hlen (by omega) hrb hob.1 hall ?_ (es.length+1) [] tm2 σ2 _ w3 (by simp) (by simp) (by simp) rfl ?_ ?_ ?_
 ·
  intro tm σx a wx I' β' hend j1 j2 jT jd jR
  simp only [Exit.inBlock,if_true,Exit.then]
  unfold Zfv at hend
  obtain ⟨β3,q1,q2,q3⟩:=ZnN jR jT σ.length
  generalize hev:evC fs prim bf σ.length c3 (gcT σ.length (keepL live tm) σx).1 (gcT σ.length (keepL live tm) σx).2=res at hend
  cases res with
  | none=>simp only [Za4] at hend;cases hend
  | some q =>
   obtain ⟨e,tm',σe⟩:=q
   obtain ⟨n3,hev⟩:=Zbm.1 hev
   rw [<-hc3,ZeI] at hev
   have kk1:KeptE σ.length β β3:=(g2.trans (KeptE.of_le k2)).trans (j2.trans q1)
   have st:StF Zbr σ.length an1.nt base w0 I0 I β (gcT σ.length (keepL live tm) σx).1 (gcT σ.length (keepL live tm) σx).2 a wx:=⟨I',β3,(g1.trans k1).trans j1,kk1,q3,⟨ZeR.2 jd.1,by rw [ha1];exact jd.2⟩,q2⟩
   have fin:(match resA tm' σe rs with | some r=>Zay σ.length σe r | none=>none)=some (r,σ')->∀ a' w',StF Zbr σ.length an1.nt base w0 I0 I β tm' σe a' w'->a'.defers=[]/\∃ v,(results F a'.tmps).run P w'=.ok v w'/\∃ u,Ends r (.returned v) u/\Zbo σ.length base w0 I0 I β r σ' u w':=by
    intro hr a' w' ⟨I1,β1,g1,g2,g3,g4,g5⟩
    split at hr
    ·rename_i x hx1
     obtain ⟨v,h1,h2⟩:=Zwn g3 g5 hrs hx1
     have hnp:∀ y,x≠.pan y:=by rintro y rfl;simp only [VR] at h2
     obtain ⟨q1,q2⟩:=Zhp (⟨I1,β1,g1,g2,g5,by rw [ZfR hnp];exact h2⟩:Zbo σ.length base w0 I0 I β x σe v w') hr
     refine ⟨ZeR.1 g4.1,v,h1,v,q2 _ ?_,q1⟩
     cases x <;> first | rfl | exact absurd rfl (hnp _)
    ·cases hr
   refine ZiW (dr:=Zbr) (an:=an1) (hO n3) (fun n hn=>by simp [Zbr] at hn) hm hb σ.length n3 rfl st hev ?_
   cases e with
   | normal=>simp only [Za4] at hend;exact fun a' w' hs=>fin hend a' w' hs
   | ret=>simp only [Za4] at hend;exact fun a' w' hs=>fin hend a' w' hs
   | exit id=>simp only [Za4] at hend;cases hend
   | panic x =>
    simp only [Za4] at hend
    intro a' u w' hd hp
    obtain ⟨q1,q2⟩:=Zhp hp hend
    exact ⟨ZeR.1 hd,u,q2 _ rfl,q1⟩
 ·rw [<-hw3,<-hr];simp
 ·rw [w3k b (by omega)];exact e2
 ·refine ⟨I2,β2,Imm.le.refl _,KeptE.refl _ _,?_,⟨⟨by rw [Zjr];exact ZeR.1 kd,fun k hk=>?_⟩,by rw [Zec];omega⟩,R3,hIr,hown3⟩
  ·refine ZhT (T2.keep live) ?_
   rw [ZgO,if_neg]
   exact fun h=>(hlv it h).1.1.1 rfl
  ·have hk':k=it\/k=ms:=by simpa [Zdc] using hk
   rcases hk' with rfl | rfl
   ·rw [pgs (by omega)];simp [Zdc]
   ·rw [pgn d5,vms];simp [Zdc,Xap d5]
end
end
section
open Go.RowKit
open Go.ChangeMaps (setBlock)
section
variable (fs:Nat->Option Zam) (prim:Zbz) (bf:Nat->Bool) (m:Nat) (live:List Nat) (ms en b1:Nat) (aslE:List AOp) (c2 c3:Zv) (rs:List Zda) (fin:Tms->Za->Option (AVal×Za))
end
section
variable {base:Nat->Prop} {w0 w:World} {I0 I:Imm} {β:Bmap} {σ:Za}
end
section
variable {P:Program} {base:Nat->Prop} {w0:World} {I0:Imm}
variable {fs:Nat->Option Zam} {prim:Zbz} {bf:Nat->Bool} {m:Nat} {live:List Nat} {ms it nx ok en bid b1 nt:Nat} {aslE:List AOp} {c2 c3:Zv} {rs:List Zda} {fin:Tms->Za->Option (AVal×Za)}
end
section
variable {P:Program} {fs:Nat->Option Zam} {prim:Zbz} {bf:Nat->Bool}
end
end
section
open Go.RowKit
def flx1:AVal->Bool
 | .top | .any | .int _ _ | .bool _ | .str _ | .nilp | .nilm | .nili | .ref _ _ | .eref _ _ _ _ | .sl _ _ _ _ | .map _=>true
 | .lst _ xs=>xs.isEmpty
 | _=>false
def ZCX:Zq->Bool
 | .free=>true
 | .var cs=>cs.all flx1
 | .row _ _ xs=>xs.all fun x=>x.cells.all flx1
 | .frow _ _ xs=>xs.isEmpty
 | .siter _ _=>true
 | .opq=>true
 | _=>false
section
variable {base:Nat->Prop} {w0 w w':World} {I0 I J:Imm} {β:Bmap} {σ:Za}
theorem VR.flx1 {x:AVal} {v:Value} (hf:flx1 x=true) (h:VR I β x v):VR J β x v:=by
 cases x with
 | lst b xs =>
  cases xs with
  | cons y ys=>cases hf
  | nil =>
   simp only [VR] at h ⊢
   obtain ⟨A,cap,h1,h2,h3,h4,h5,h6⟩:=h
   exact ⟨A,cap,h1,h2,h3,h4,XH trivial,h6⟩
 | top=>simp only [VR]
 | any=>simpa only [VR] using h
 | int=>simpa only [VR] using h
 | bool=>simpa only [VR] using h
 | str=>simpa only [VR] using h
 | nilp=>simpa only [VR] using h
 | nilm=>simpa only [VR] using h
 | nili=>simpa only [VR] using h
 | ref=>simpa only [VR] using h
 | eref=>simpa only [VR] using h
 | sl=>simpa only [VR] using h
 | map=>simpa only [VR] using h
 | _=>cases hf
theorem VRs.flx1:∀ {xs:List AVal} {vs:List Value},xs.all Go.Proofs.Ytaimaokfbgmoiaa.flx1=true->VRs I β xs vs->VRs J β xs vs
 | [],_,_,h=>by simpa only [VRs] using h
 | x::xs,_,hf,h=>by
  simp only [Xi,Xt] at hf
  simp only [VRs] at h ⊢
  obtain ⟨v,vs',h1,h2,h3⟩:=h
  exact ⟨v,vs',h1,h2.flx1 hf.1,VRs.flx1 hf.2 h3⟩
theorem BR.flat {t:Nat} {x:Zq} (hf:ZCX x=true) (h:BR I β w t x):BR J β w t x:=by
 cases x with
 | free=>trivial
 | opq=>exact h
 | siter=>exact h
 | var cs =>
  obtain ⟨b,k,c,us,ty,h1,h2,h3⟩:=h
  exact ⟨b,k,c,us,ty,h1,h2,VRs.flx1 hf h3⟩
 | row g k xs =>
  obtain ⟨bi,h1,h2,h3,h4,h5,h6,h7,h8⟩:=h
  refine ⟨bi,h1,h2,h3,h4,h5,h6,h7,?_⟩
  rcases h8 with h8 | ⟨b,us,ty,e,h8,h9,h10⟩
  ·exact XH h8
  ·refine XO ⟨b,us,ty,e,h8,h9,VRs.flx1 ?_ h10⟩
   rw [List.all_flatMap]
   exact hf
 | frow g k xs =>
  obtain ⟨bi,h1,h2,h3,h4,h5,h6,_⟩:=h
  exact ⟨bi,h1,h2,h3,h4,h5,h6,XH (by cases xs <;> first | rfl | cases hf)⟩
 | _=>cases hf
theorem VRs.of_tree {I':Imm} {β':Bmap} (hI:I.le I'):∀ {xs:List AVal} {vs:List Value},(∀ x ∈ xs,ZaT x=true)->VRs I β xs vs->VRs I' β' xs vs
 | [],_,_,h=>by simpa only [VRs] using h
 | x::xs,_,ht,h=>by
  simp only [VRs] at h ⊢
  obtain ⟨v,vs',h1,h2,h3⟩:=h
  exact ⟨v,vs',h1,(VR.tree x v (ht x (by simp)) h2).mono hI (ZfU β') x v,VRs.of_tree hI (fun y hy=>ht y (by simp [hy])) h3⟩
end
def ZoU (P:Program) (f:Nat) (g:List AVal->Za->Option (AVal×Za)):Prop:=∀ args σ r σ',g args σ=some (r,σ') ->
 (∃ fn,P.funcs[f]?=some fn/\fn.body.isSome=true/\(fn.name == "runtime.NumGoroutine")=false) /\
 ∀ base w0 I0 I β w (vs:Array Value),KLt base w0->Rel base w0 I0 I β σ w->VRs I β args vs.toList ->
  Calls P f vs w (fun e w'=>∃ u,Ends r e u/\Zbo σ.length base w0 I0 I β r σ' u w')
end
section
open Go.RowKit
def Zhi (m i:Nat):Option (AVal×Za)->Option (AVal×Za)
 | some (.agg cs,h)=>match viewR h (.agg (cs.set i .nilp)) with
  | some (.agg ys,ts)=>Zay m (ZV h ts) (.agg (ys.set i (cs.getD i .nilp)))
  | _=>none
 | _=>none
def Zfx (i:Nat) (g:List AVal->Za->Option (AVal×Za)):List AVal->Za->Option (AVal×Za):=fun args σ=>Zhi σ.length i (g args σ)
section
variable {base:Nat->Prop} {w0 w w':World} {I0 I J:Imm} {β:Bmap} {σ:Za}
theorem ZC4 {α:Type} (l:List α) (i:Nat) (x:α) (h:i < l.length):(l.set i x).set i l[i]=l:=by
 apply Wa
 intro j
 rw [List.set_set,Xv]
 split
 ·rename_i e;subst e;exact (Xz h).symm
 ·rfl
theorem ZDO {m i:Nat} {r r':AVal} {h h':Za} {u:Value} (hp:Zbo m base w0 I0 I β r h u w) (he:Zhi m i (some (r,h))=some (r',h')):Zbo m base w0 I0 I β r' h' u w/\∀ e,Ends r e u->Ends r' e u:=by
 unfold Zhi at he
 split at he
 case h_2=>cases he
 rename_i cs h0 heq
 injection heq with heq;injection heq with e1 e2;subst e1 e2
 split at he
 case h_2=>cases he
 rename_i ys ts hview
 obtain ⟨I1,β1,h1,h2,h3,h4⟩:=hp
 simp only [ZaN,VR] at h4
 obtain ⟨us,rfl,h4⟩:=h4
 obtain ⟨I2,k1,k2,k3,_,k5,_,_⟩:=Zgd ts h3
 have h5:=VRs.mono k1 (Bmap.le.refl β1) _ _ h4
 have h6:VR I2 β1 (.agg (cs.set i .nilp)) (.agg (us.toList.set i (.pointer none)).toArray):=by
  simp only [VR]
  exact ⟨_,rfl,by simpa using ZiA h5 (x:=.nilp) (v:=.pointer none) (by simp only [VR]) i⟩
 have hres:=ZwY k2 (k5 (Zvy hview)) (by rw [k3.viewR];exact hview) h6
 have hres:=hres.mono (Imm.le.refl I2) (ZfU β1) _ _
 simp only [VR] at hres
 obtain ⟨vs,e,hres⟩:=hres
 injection e with e;subst e
 have hl:=Zan h5
 have key:VR I2 β1 (.agg (ys.set i (cs.getD i .nilp))) (.agg us):=by
  simp only [VR]
  refine ⟨us,rfl,?_⟩
  by_cases hi:i < us.toList.length
  ·have hx:=ZDs h5 i
   have hc:i < cs.length:=by omega
   have e1:cs.getD i .nilp=cs.getD i (.tup []):=by simp [Xn,Xz hc]
   have e2:us.toList.getD i (.tuple #[])=us.toList[i]:=by rw [Xn,Xz hi];rfl
   rw [e2,<-e1] at hx
   have:=ZiA hres hx i
   simp only [] at this
   rwa [ZC4 _ _ _ hi] at this
  ·have e1:us.toList.set i (.pointer none)=us.toList:=List.set_eq_of_length_le (by omega)
   have hl2:=Zan hres
   simp only [e1] at hres hl2
   rw [List.set_eq_of_length_le (by omega)]
   exact hres
 obtain ⟨q1,q2⟩:=Zhp (⟨I2,β1,h1.trans k1,h2,k2,by simpa only [ZaN] using key⟩:Zbo m base w0 I0 I β (.agg (ys.set i (cs.getD i .nilp))) (ZV h ts) (.agg us) w) he
 exact ⟨q1,fun e he=>q2 e he⟩
end
theorem ZvX {P:Program} {f i:Nat} {g:List AVal->Za->Option (AVal×Za)} (hg:ZoU P f g):ZoU P f (Zfx i g):=by
 intro args σ r σ' h
 unfold Zfx at h
 generalize hq:g args σ=q at h
 cases q with
 | none=>simp [Zhi] at h
 | some q =>
  obtain ⟨r0,h0⟩:=q
  obtain ⟨hf,hrun⟩:=hg args σ r0 h0 hq
  refine ⟨hf,fun base w0 I0 I β w vs hb R hargs=>(hrun base w0 I0 I β w vs hb R hargs).mono ?_⟩
  rintro e w' ⟨u,he,hp⟩
  obtain ⟨q1,q2⟩:=ZDO hp h
  exact ⟨u,q2 e he,q1⟩
end
section
open Go.RowKit Go.Sort
def Zcp {α:Type} (g:AVal->Option α):List AVal->Option (List α)
 | []=>some []
 | x::r=>match g x with
  | some a=>(Zcp g r).map (a::·)
  | none=>none
def Zga:AVal->Option Int
 | .int .i64 n=>some n
 | _=>none
def Zj7 {α:Type} (g:AVal->Option α) (h:α->AVal) (le:α->α->Bool) (args:List AVal) (σ:Za):Option (AVal×Za):=match args,σ with
 | [.sl 0 0 0 n],[.row 0 1 xs]=>match Zcp g xs with
  | some zs=>if n=xs.length/\n < 4611686018427387904 then some (.tup [],[.row 0 1 ((zs.mergeSort le).map h)]) else none
  | none=>none
 | [.lst b []],[]=>some (.tup [],[])
 | _,_=>none
def Zjn:=Zj7 Zga (AVal.int .i64) (fun x y=>decide (x<=y))
section
variable {P:Program} {base:Nat->Prop} {w0 w w':World} {I0 I:Imm} {β:Bmap} {σ:Za}
theorem Rel.putAt (R:Rel base w0 I0 I β σ w) (hbl:KLt base w) {t b:Nat} {x x':Zq} (ht:σ[t]?=some x) (hx:Zw w β t x b) (hx':∀ b',Zw w' β t x' b'->b'=b) (hg:Zc x'=Zc x)
  (hos:w'.os=w.os) (hta:w'.tape=w.tape) (hou:w'.output=w.output) (hs:w.heap.size<=w'.heap.size) (hh:∀ k,k≠b->k < w.heap.size->w'.heap[k]?=w.heap[k]?) (hblk:BR I β w' t x') (hnf:x'≠.free:=by simp) (hns:∀ b',¬Zco β t x' b':=by intro b h;cases h) :
  Rel base w0 I0 I β (σ.set t x') w':=by
 have hsl:t < σ.length:=(Xf.1 ht).1
 have ho:=R.own t x b ht hx
 refine R.upd (Imm.le.refl I) (Bmap.le.refl β) ⟨hos,hta,hou,hs,fun k hk=>hh k (by rintro rfl;exact ho.1 hk) (hbl k hk)⟩ (fun _ _ _=>rfl) ?_ t x' rfl hsl (fun _ _ _=>rfl) ?_ hblk ?_ ?_ ?_ (fun b h=>absurd h (hns b))
 ·intro b' o u h
  have hne:b'≠b:=by rintro rfl;rw [ho.2 o] at h;cases h
  have h1:=R.imm b' o u h
  have hlt:=Zd1 h1
  rw [<-h1]
  simp only [World.cell?,hh b' hne hlt]
 ·intro t' y b' hne hy hb'
  have hbb:b'≠b:=by rintro rfl;exact hne (R.apart t' y t x b' hy ht hb' hx)
  exact ⟨hh b' hbb ((R.blk t' y hy).owns_lt hb'),(R.own t' y b' hy hb').2,fun e=>hbb (hx' _ e)⟩
 ·intro b' e
  obtain rfl:=hx' _ e
  exact ho
 ·intro g hlt
  exact R.gen t x g ht (by rw [<-hg];exact hlt)
 ·rintro rfl
  exact hnf rfl
theorem Zvq {α:Type} {g:AVal->Option α} {enc:α->Value} (hg:∀ x a v,g x=some a->VR I β x v->v=enc a) (hc:∀ x a,g x=some a->x.cells=[x]):∀ {xs:List AVal} {zs:List α} {vs:List Value},Zcp g xs=some zs->VRs I β (xs.flatMap AVal.cells) vs->vs=zs.map enc
 | [],zs,vs,h,hv=>by
  simp only [Zcp,Xa] at h;subst h
  simpa [VRs] using hv
 | x::xs,zs,vs,h,hv=>by
  simp only [Zcp] at h
  split at h
  ·rename_i a ha
   simp only [XB] at h
   obtain ⟨zs',h,rfl⟩:=h
   rw [X5,hc x a ha] at hv
   simp only [WO,VRs] at hv
   obtain ⟨v,vs',rfl,h1,h2⟩:=hv
   rw [hg x a v ha h1,Zvq hg hc h h2];rfl
  ·cases h
theorem ZjX {α:Type} {g:AVal->Option α}:∀ {xs:List AVal} {zs:List α},Zcp g xs=some zs->zs.length=xs.length
 | [],zs,h=>by simp only [Zcp,Xa] at h;subst h;rfl
 | x::xs,zs,h=>by
  simp only [Zcp] at h
  split at h
  ·simp only [XB] at h
   obtain ⟨zs',h,rfl⟩:=h
   simp [ZjX h]
  ·cases h
theorem ZEx {α:Type} [Inhabited α] {g:AVal->Option α} {h:α->AVal} {le:α->α->Bool} {enc:α->Value} {f:Nat} (hf:∃ fn,P.funcs[f]?=some fn/\fn.body.isSome=true/\(fn.name == "runtime.NumGoroutine")=false)
  (hg:∀ {I:Imm} {β:Bmap} (x:AVal) (a:α) (v:Value),g x=some a->VR I β x v->v=enc a) (hc:∀ x a,g x=some a->x.cells=[x]) (hh:∀ {I:Imm} {β:Bmap} (x:AVal) (a:α) (v:Value),g x=some a->VR I β x v->VR I β (h a) v) (hhc:∀ a,(h a).cells=[h a]/\ZaT (h a)=true)
  (hsort:∀ (blk off cap:Nat) (zs:List α) (w:World),Holds enc w blk off zs.toArray->blk < w.heap.size->zs.length < 4611686018427387904->Calls P f #[.slice (some ⟨blk,off,none⟩) zs.length cap] w fun e w'=>e=.returned (.tuple #[])/\∃ n os,w'=grow (putRow enc (Sort.ahead w n) blk off (zs.mergeSort le).toArray) os)
  (hnone:∀ (p:Option Addr) (cap:Nat) (w:World),Calls P f #[.slice p 0 cap] w fun e w'=>e=.returned (.tuple #[])/\w'=w)
  {args:List AVal} {σ σ':Za} {r:AVal} (hp:Zj7 g h le args σ=some (r,σ')) :
  (∃ fn,P.funcs[f]?=some fn/\fn.body.isSome=true/\(fn.name == "runtime.NumGoroutine")=false) /\
  ∀ base w0 I0 I β w (vs:Array Value),KLt base w0->Rel base w0 I0 I β σ w->VRs I β args vs.toList ->
   Calls P f vs w (fun e w'=>∃ u,Ends r e u/\Zbo σ.length base w0 I0 I β r σ' u w'):=by
 refine ⟨hf,fun base w0 I0 I β w vs hb R hv=>?_⟩
 unfold Zj7 at hp
 obtain ⟨vs⟩:=vs
 split at hp
 ·rename_i n xs
  split at hp
  case h_2=>cases hp
  rename_i zs hz
  split at hp
  case isFalse=>cases hp
  rename_i hn
  obtain ⟨rfl,hn⟩:=hn
  simp only [Xa,Xb] at hp
  obtain ⟨rfl,rfl⟩:=hp
  simp only [VRs] at hv
  obtain ⟨v,vs',rfl,hv,rfl⟩:=hv
  have hzl:=ZjX hz
  have hB:=R.blk 0 _ rfl
  obtain ⟨bi,e1,e2,e3,e4,e5,e6,e7,e8⟩:=hB
  rw [ZcC] at hv
  obtain ⟨bi',f1,f2,f3,f4⟩:=hv
  rw [e1] at f1
  injection f1 with f1
  subst f1
  rcases f4 with ⟨b,hb',rfl⟩ | ⟨hbn,hc0,A,rfl⟩
  ·rcases e8 with ⟨e8,_⟩ | ⟨b2,us,ty,q1,q2,q3,q4⟩
   ·rw [e8] at hb';cases hb'
   rw [hb'] at q1;injection q1 with q1;subst q1
   rw [Nat.mul_one] at q3 q4
   have hus:=Zvq (fun x a v=>hg x a v) hc hz q4
   have hxl:xs.length<=us.size:=by omega
   have hH:Holds enc w b 0 zs.toArray:=by
    intro j hj
    have hj':j < zs.length:=by simpa using hj
    refine ⟨?_,by simp [World.frozen?,q2]⟩
    have h1:(us.toList.take xs.length)[j]?=(zs.map enc)[j]?:=by rw [hus]
    rw [Xae (by omega)] at h1
    simp only [World.cell?,q2,XK]
    simp only [Xal,Xu,if_false]
    rw [<-Wp,h1]
    simp [hj']
   have hvr:∀ a ∈ zs,VR I β (h a) (enc a):=by
    have key:∀ {ys:List AVal} {zs:List α} {vs:List Value},Zcp g ys=some zs->VRs I β (ys.flatMap AVal.cells) vs->∀ a ∈ zs,VR I β (h a) (enc a):=by
     intro ys
     induction ys with
     | nil=>intro zs vs hz _ a ha;simp only [Zcp,Xa] at hz;subst hz;simp at ha
     | cons y ys ih =>
      intro zs vs hz hv a ha
      simp only [Zcp] at hz
      split at hz
      ·rename_i a0 ha0
       simp only [XB] at hz
       obtain ⟨zs',hz,rfl⟩:=hz
       rw [X5,hc y a0 ha0] at hv
       simp only [WO,VRs] at hv
       obtain ⟨v,vs',_,h1,h2⟩:=hv
       rcases XP.1 ha with rfl | ha
       ·rw [<-hg y a v ha0 h1];exact hh y a v ha0 h1
       ·exact ih hz h2 a ha
      ·cases hz
    exact key hz q4
   have hlt:b < w.heap.size:=(XQ.1 q2).1
   rw [<-hzl]
   refine (hsort b 0 bi.cap zs w hH hlt (by omega)).mono ?_
   rintro e w' ⟨rfl,nn,os,rfl⟩
   have hml:(zs.mergeSort le).length=zs.length:=XaR zs
   have hheap:(grow (putRow enc (Sort.ahead w nn) b 0 (zs.mergeSort le).toArray) os).heap[b]?=some (.cells (putCells enc 0 (zs.mergeSort le).toArray us) ty (0,0)):=by
    rw [heap_grow_old _ _ (by simpa using hlt)]
    simp [putRow,mapBlock,Sort.ahead,WM,q2,onCells]
   have htake:(putCells enc 0 (zs.mergeSort le).toArray us).toList.take zs.length=(zs.mergeSort le).map enc:=by
    apply Wa
    intro j
    by_cases hj:j < zs.length
    ·rw [Xae hj,Wp]
     have hj2:j < us.size:=by omega
     have hj3:j < (zs.mergeSort le).length:=by omega
     simp [putCells,hj2,hj]
    ·rw [XaU (by omega),XX (by simp;omega)]
   have hperm:∀ a,a ∈ zs.mergeSort le->a ∈ zs:=fun a ha=>(Xai zs le).mem_iff.1 ha
   have hcells:∀ l:List α,(l.map h).flatMap AVal.cells=l.map h:=by
    intro l
    induction l with
    | nil=>rfl
    | cons a l ih=>rw [Xw,X5,(hhc a).1,ih];rfl
   have hown:Zw w β 0 (.row 0 1 xs) b:=by simp [Zw,e1,hb']
   refine ⟨.tuple #[],rfl,I,β,Imm.le.refl I,KeptE.refl _ β,?_,by simp [ZaN,VR,VRs]⟩
   have:=R.putAt (R.base_le hb) (t:=0) (b:=b) (x:=.row 0 1 xs) (x':=.row 0 1 ((zs.mergeSort le).map h)) (w':=grow (putRow enc (Sort.ahead w nn) b 0 (zs.mergeSort le).toArray) os) rfl hown (by simp [Zw,e1,hb']) rfl rfl rfl rfl (by simp) (fun k hk hkl=>by
    rw [heap_grow_old _ _ (by simpa using hkl)]
    have : b≠k:=fun e=>hk e.symm
    simp [putRow,mapBlock,Sort.ahead,WM,this])
    ⟨bi,e1,e2,by decide,e4,by rw [XL,hml];omega,?_,?_,XO ⟨b,_,ty,hb',hheap,by simp [putCells];omega,?_⟩⟩
   ·exact this
   ·rw [ZcS]
    intro x hx
    obtain ⟨a,_,rfl⟩:=XV.1 hx
    have:=(hhc a)
    rw [Zdq,this.1]
    intro c hc
    rw [XU] at hc;subst hc
    exact this.2
   ·intro x hx
    obtain ⟨a,_,rfl⟩:=XV.1 hx
    rw [(hhc a).1];rfl
   ·rw [hcells,XL,hml,Nat.mul_one,htake]
    have key:∀ l:List α,(∀ a ∈ l,VR I β (h a) (enc a))->VRs I β (l.map h) (l.map enc):=by
     intro l
     induction l with
     | nil=>intro _;simp [VRs]
     | cons a l ih =>
      intro hl
      simp only [Xw,VRs]
      exact ⟨_,_,rfl,hl a (by simp),ih fun c hc=>hl c (by simp [hc])⟩
    exact key _ fun a ha=>hvr a (hperm a ha)
  ·have hx0:xs=[]:=Wb (by omega)
   subst hx0
   simp only [Zcp,Xa] at hz
   subst hz
   refine (hnone A 0 w).mono ?_
   rintro e w' ⟨rfl,rfl⟩
   exact ⟨.tuple #[],rfl,I,β,Imm.le.refl I,KeptE.refl _ β,by simpa using R,by simp [ZaN,VR,VRs]⟩
 ·simp only [Xa,Xb] at hp
  obtain ⟨rfl,rfl⟩:=hp
  simp only [VRs,VR] at hv
  obtain ⟨v,vs',rfl,⟨A,cap,rfl,_⟩,rfl⟩:=hv
  refine (hnone A cap w).mono ?_
  rintro e w' ⟨rfl,rfl⟩
  exact ⟨.tuple #[],rfl,I,β,Imm.le.refl I,KeptE.refl _ β,R,by simp [ZaN,VR,VRs]⟩
 ·cases hp
theorem ZFl {f:Nat} (hf:∃ fn,P.funcs[f]?=some fn/\fn.body.isSome=true/\(fn.name == "runtime.NumGoroutine")=false)
  (hsort:∀ (blk off cap:Nat) (zs:List Int) (w:World),Holds (Value.int .i64) w blk off zs.toArray->blk < w.heap.size->zs.length < 4611686018427387904->Calls P f #[.slice (some ⟨blk,off,none⟩) zs.length cap] w fun e w'=>e=.returned (.tuple #[])/\∃ n os,w'=grow (putRow (Value.int .i64) (Sort.ahead w n) blk off (zs.mergeSort fun x y=>decide (x<=y)).toArray) os)
  (hnone:∀ (p:Option Addr) (cap:Nat) (w:World),Calls P f #[.slice p 0 cap] w fun e w'=>e=.returned (.tuple #[])/\w'=w)
  {args:List AVal} {σ σ':Za} {r:AVal} (hp:Zjn args σ=some (r,σ')) :
  (∃ fn,P.funcs[f]?=some fn/\fn.body.isSome=true/\(fn.name == "runtime.NumGoroutine")=false) /\
  ∀ base w0 I0 I β w (vs:Array Value),KLt base w0->Rel base w0 I0 I β σ w->VRs I β args vs.toList ->
   Calls P f vs w (fun e w'=>∃ u,Ends r e u/\Zbo σ.length base w0 I0 I β r σ' u w'):=by
 refine ZEx (g:=Zga) (h:=AVal.int .i64) hf ?_ ?_ ?_ (fun a=>⟨rfl,rfl⟩) hsort hnone hp
 ·intro I β x a v hx hv
  unfold Zga at hx
  split at hx
  ·injection hx with hx;subst hx;simpa [VR] using hv
  ·cases hx
 ·intro x a hx
  unfold Zga at hx
  split at hx
  ·rfl
  ·cases hx
 ·intro I β x a v hx hv
  unfold Zga at hx
  split at hx
  ·injection hx with hx;subst hx;exact hv
  ·cases hx
end
end
section
open Go.RowKit Go.Sort
def leC {κ:Type} (cf:κ->κ->Int) (x y:κ):Bool:=!decide (cf y x < 0)
def Zdv {κ:Type} [DecidableEq κ] (cf:κ->κ->Int) (xs:List AVal) (ks:List κ):List AVal:=(ks.mergeSort (leC cf)).map fun a=>((ks.zip xs).lookup a).getD .nilp
def ZiV {κ:Type} [DecidableEq κ] (k f:Nat) (key:AVal->Option κ) (cf:κ->κ->Int) (args:List AVal) (σ:Za):Option (AVal×Za):=match args,σ with
 | [.sl 0 0 0 n,.fn f' []],[.row 0 k' xs]=>match Zcp key xs with
  | some ks=>if n=xs.length/\n < 4611686018427387904/\k'=k/\f'=f/\ks.Nodup then some (.tup [],[.row 0 k (Zdv cf xs ks)]) else none
  | none=>none
 | [.lst b [],.fn f' []],[]=>some (.tup [],[])
 | _,_=>none
def ZeE:AVal->Option (List UInt8)
 | .agg (.str l::_)=>some l
 | _=>none
section
variable {P:Program} {base:Nat->Prop} {w0 w w':World} {I0 I:Imm} {β:Bmap} {σ:Za}
theorem ZlN {k:Nat}:∀ {xs:List AVal} {vs:List Value},(∀ x ∈ xs,x.cells.length=k)->VRs I β (xs.flatMap AVal.cells) vs->∃ VS:List (List Value),vs=VS.flatten/\VS.length=xs.length/\(∀ l ∈ VS,l.length=k)/\∀ (i:Nat) (x:AVal),xs[i]?=some x->∃ l,VS[i]?=some l/\VRs I β x.cells l
 | [],vs,_,h=>by
  simp only [XaK,VRs] at h
  subst h
  exact ⟨[],rfl,rfl,by simp,by simp⟩
 | x::xs,vs,hk,h=>by
  rw [X5] at h
  have hl:=Zan h
  have h1:=Zeu h x.cells.length
  have h2:=ZdY h x.cells.length
  rw [List.take_left] at h1
  rw [List.drop_left] at h2
  obtain ⟨VS,e1,e2,e3,e4⟩:=ZlN (fun y hy=>hk y (by simp [hy])) h2
  refine ⟨vs.take x.cells.length::VS,by rw [Xbs,<-e1,XaP],by simp [e2],?_,?_⟩
  ·intro l hl'
   rcases XP.1 hl' with rfl | hl'
   ·rw [<-Zan h1];exact hk x (by simp)
   ·exact e3 l hl'
  ·intro i y hy
   cases i with
   | zero=>simp only [XN,Xa] at hy;subst hy;exact ⟨_,rfl,h1⟩
   | succ i=>simp only [XC] at hy ⊢;exact e4 i y hy
theorem Zff {κ β':Type} [DecidableEq κ]:∀ {ks:List κ} {ys:List β'} {i:Nat} {a:κ} {y:β'},ks.Nodup->ks[i]?=some a->ys[i]?=some y->(ks.zip ys).lookup a=some y
 | [],ys,i,a,y,_,h,_=>by simp at h
 | b::ks,[],i,a,y,_,_,h=>by simp at h
 | b::ks,z::ys,0,a,y,_,h,h'=>by
  simp only [XN,Xa] at h h'
  subst h h'
  simp [List.lookup]
 | b::ks,z::ys,i+1,a,y,hn,h,h'=>by
  simp only [XC] at h h'
  obtain ⟨n1,n2⟩:=List.nodup_cons.1 hn
  have hne:a≠b:=by rintro rfl;exact n1 (Xx h)
  rw [Wn,XJ]
  have : (a == b)=false:=by simpa using hne
  rw [this]
  exact Zff n2 h h'
theorem ZvB {k:Nat}:∀ {L:List (List Value)} {i c:Nat},(∀ l ∈ L,l.length=k)->c < k->(L.flatten)[i*k+c]?=(L[i]?).bind (·[c]?)
 | [],i,c,_,_=>by simp
 | l::L,0,c,h,hc=>by
  have:=h l (by simp)
  rw [Xbo,XK,Xbs,List.getElem?_append_left (by omega)]
  rfl
 | l::L,i+1,c,h,hc=>by
  have hl:=h l (by simp)
  rw [Xbs,List.getElem?_append_right (by rw [hl,Xbx];omega)]
  have : (i+1)*k+c - l.length=i*k+c:=by rw [hl,Xbx];omega
  rw [this,ZvB (fun m hm=>h m (by simp [hm])) hc]
  rfl
theorem ZiR {α:Type} [Inhabited α] {enc:α->List Value} {k:Nat} (hk:∀ x,(enc x).length=k) (hk0:0 < k) (d:List α):(flatK enc k d.toArray).toList=d.flatMap enc:=by
 have hL:∀ l ∈ d.map enc,l.length=k:=fun l hl=>by obtain ⟨a,_,rfl⟩:=XV.1 hl;exact hk a
 apply Wa
 intro t
 rw [Xbw]
 have e:t=t / k*k+t % k:=by rw [Nat.mul_comm];exact (Nat.div_add_mod t k).symm
 have hm:=Nat.mod_lt t hk0
 have h2:((d.map enc).flatten)[t]?=((d.map enc)[t / k]?).bind (·[t % k]?):=by
  have:=ZvB (i:=t / k) (c:=t % k) hL hm
  rwa [<-e] at this
 rw [h2]
 by_cases ht:t < d.length*k
 ·have hi:t / k < d.length:=Nat.div_lt_of_lt_mul (by rwa [Nat.mul_comm] at ht)
  have hz:(flatK enc k d.toArray).size=d.length*k:=by rw [size_flatK];rfl
  have hg:=get_flatK enc k d.toArray t (by simpa using ht)
  rw [Wp,Xaj (by rw [hz];exact ht)]
  rw [getElem!_pos _ t (by rw [hz];exact ht)] at hg
  rw [hg,XY,Xz hi]
  have e2:(d.toArray[t / k]!)=d[t / k]:=by simp [hi]
  rw [e2]
  simp only [X4,Wq]
  have hl:=hk d[t / k]
  rw [getElem!_pos _ _ (by omega),Xz (by omega)]
 ·have hd:d.length<=t / k:=(Nat.le_div_iff_mul_le hk0).2 (by omega)
  rw [XX (by rw [X7,size_flatK];simpa using ht),XX (by simpa using hd)]
  rfl
theorem ZtK {α:Type} {g:AVal->Option α}:∀ {xs:List AVal} {zs:List α} {i:Nat} {x:AVal},Zcp g xs=some zs->xs[i]?=some x->∃ a,zs[i]?=some a/\g x=some a
 | [],zs,i,x,_,hx=>by simp at hx
 | y::xs,zs,i,x,h,hx=>by
  simp only [Zcp] at h
  split at h
  ·rename_i a ha
   simp only [XB] at h
   obtain ⟨zs',h,rfl⟩:=h
   cases i with
   | zero=>simp only [XN,Xa] at hx;subst hx;exact ⟨a,rfl,ha⟩
   | succ i=>simp only [XC] at hx ⊢;exact ZtK h hx
  ·cases h
theorem Zz4 {κ:Type} [DecidableEq κ] [Inhabited κ] {k g f:Nat} {key:AVal->Option κ} {cf:κ->κ->Int} {pre:κ->List Value} {m:Nat} (hf:∃ fn,P.funcs[f]?=some fn/\fn.body.isSome=true/\(fn.name == "runtime.NumGoroutine")=false)
  (hm:m<=k) (hk0:0 < k) (hg0:g < 1000000) (hpre:∀ a,(pre a).length=m/\∀ v ∈ pre a,v.oneCell'=true)
  (hkey:∀ {I:Imm} {β:Bmap} (x:AVal) (a:κ) (l:List Value),key x=some a->VRs I β x.cells l->∃ t,l=pre a++t)
  (hcmp:∀ (a b:κ) (us vs:List Value) (W:World),m+us.length=k->m+vs.length=k->Calls P g #[.agg (pre a++us).toArray,.agg (pre b++vs).toArray] W fun e w'=>e=.returned (.int .i64 (cf a b))/\∃ q os',w'=grow (W.drewN q) os')
  (hsort:∀ (enc:κ->List Value),(∀ x,(enc x).length=k)->(∀ x,∀ v ∈ enc x,v.oneCell'=true)->∀ (blk off cap:Nat) (d:Array κ) (w:World),CmpLays P g #[] enc k cf blk off d.size w->HoldsK enc k w blk off d->blk < w.heap.size->d.size < 4611686018427387904 ->
   Calls P f #[.slice (some ⟨blk,off,none⟩) d.size cap,.func (.func g) #[] #[]] w fun e w'=>e=.returned (.tuple #[])/\∃ n os,w'=sortWorldK enc k w blk off n (d.toList.mergeSort (leC cf)).toArray os)
  (hnone:∀ (p:Option Addr) (cap:Nat) (fv:Value) (w:World),Calls P f #[.slice p 0 cap,fv] w fun e w'=>e=.returned (.tuple #[])/\w'=w)
  {args:List AVal} {σ σ':Za} {r:AVal} (hp:ZiV k g key cf args σ=some (r,σ')) :
  (∃ fn,P.funcs[f]?=some fn/\fn.body.isSome=true/\(fn.name == "runtime.NumGoroutine")=false) /\
  ∀ base w0 I0 I β w (vs:Array Value),KLt base w0->Rel base w0 I0 I β σ w->VRs I β args vs.toList ->
   Calls P f vs w (fun e w'=>∃ u,Ends r e u/\Zbo σ.length base w0 I0 I β r σ' u w'):=by
 refine ⟨hf,fun base w0 I0 I β w vs hb R hv=>?_⟩
 unfold ZiV at hp
 obtain ⟨vs⟩:=vs
 split at hp
 ·rename_i n f' k' xs
  split at hp
  case h_2=>cases hp
  rename_i ks hz
  split at hp
  case isFalse=>cases hp
  rename_i hn
  obtain ⟨rfl,hn,rfl,rfl,hnd⟩:=hn
  simp only [Xa,Xb] at hp
  obtain ⟨rfl,rfl⟩:=hp
  simp only [VRs] at hv
  obtain ⟨v,vs',rfl,hv,fv,vs'',rfl,hfv,rfl⟩:=hv
  have hfv':fv=.func (.func f') #[] #[]:=by
   simp only [VR,if_pos hg0,VRs] at hfv
   obtain ⟨fs,us,rfl,rfl,h⟩:=hfv
   have : us=#[]:=by
    have:=congrArg XbE h
    simp at this
    exact this
   rw [this]
  subst hfv'
  have hzl:=ZjX hz
  have hB:=R.blk 0 _ rfl
  obtain ⟨bi,e1,e2,e3,e4,e5,e6,e7,e8⟩:=hB
  rw [ZcC] at hv
  obtain ⟨bi',f1,f2,f3,f4⟩:=hv
  rw [e1] at f1
  injection f1 with f1
  subst f1
  rcases f4 with ⟨b,hb',rfl⟩ | ⟨hbn,hc0,A,rfl⟩
  ·rcases e8 with ⟨e8,_⟩ | ⟨b2,us,ty,q1,q2,q3,q4⟩
   ·rw [e8] at hb';cases hb'
   rw [hb'] at q1;injection q1 with q1;subst q1
   obtain ⟨VS,v1,v2,v3,v4⟩:=ZlN e7 q4
   let enc:κ->List Value:=fun a=>((ks.zip VS).lookup a).getD (pre a++Xr (k' - m) (.int .i64 0))
   have hmem:∀ a l,(ks.zip VS).lookup a=some l->l ∈ VS/\∃ (i:Nat) (x:AVal),xs[i]?=some x/\ks[i]?=some a/\VS[i]?=some l:=by
    have key:∀ (ks:List κ) (VS:List (List Value)) a l,(ks.zip VS).lookup a=some l->∃ i:Nat,ks[i]?=some a/\VS[i]?=some l:=by
     intro ks
     induction ks with
     | nil=>intro VS a l h;simp at h
     | cons b ks ih =>
      intro VS a l h
      cases VS with
      | nil=>simp at h
      | cons y VS =>
       rw [Wn,XJ] at h
       by_cases e:a=b
       ·subst e;simp only [beq_self_eq_true,Xa] at h;subst h;exact ⟨0,rfl,rfl⟩
       ·have : (a == b)=false:=by simpa using e
        rw [this] at h
        obtain ⟨i,h1,h2⟩:=ih VS a l h
        exact ⟨i+1,by simpa using h1,by simpa using h2⟩
    intro a l h
    obtain ⟨i,h1,h2⟩:=key ks VS a l h
    have hi:i < xs.length:=by have:=(Xf.1 h2).1;omega
    exact ⟨Xx h2,i,xs[i],Xz hi,h1,h2⟩
   have henc:∀ a,(∃ (i:Nat) (x:AVal),xs[i]?=some x/\ks[i]?=some a/\VS[i]?=some (enc a)/\(ks.zip VS).lookup a=some (enc a))\/enc a=pre a++Xr (k' - m) (.int .i64 0):=by
    intro a
    cases h:(ks.zip VS).lookup a with
    | none=>exact XO (by simp only [enc,h];rfl)
    | some l =>
     obtain ⟨_,i,x,h1,h2,h3⟩:=hmem a l h
     refine XH ⟨i,x,h1,h2,?_,?_⟩ <;> simp only [enc,h,Wr] <;> assumption
   have hpr:∀ a,∃ t,enc a=pre a++t:=by
    intro a
    rcases henc a with ⟨i,x,h1,h2,h3,_⟩ | h
    ·obtain ⟨a',k1,k2⟩:=ZtK hz h1
     rw [h2] at k1;injection k1 with k1;subst k1
     obtain ⟨l,l1,l2⟩:=v4 i x h1
     rw [h3] at l1;injection l1 with l1;subst l1
     exact hkey x _ _ k2 l2
    ·exact ⟨_,h⟩
   have hk:∀ a,(enc a).length=k':=by
    intro a
    rcases henc a with ⟨i,x,h1,h2,h3,_⟩ | h
    ·exact v3 _ (Xx h3)
    ·rw [h,XE,(hpre a).1,WN];omega
   have h1c:∀ a,∀ v ∈ enc a,v.oneCell'=true:=by
    intro a v hv
    rcases henc a with ⟨i,x,h1,h2,h3,_⟩ | h
    ·obtain ⟨l,l1,l2⟩:=v4 i x h1
     rw [h3] at l1;injection l1 with l1;subst l1
     refine ZgB (fun c hc=>?_) l2 v hv
     have:=(ZcS.1 e6) x (Xx h1)
     exact Zjh ((Zdq.1 this) c hc)
    ·rw [h] at hv
     rcases XG.1 hv with hv | hv
     ·exact (hpre a).2 v hv
     ·rw [Xa4] at hv;rw [hv.2];rfl
   have hall:ks.map enc=VS:=by
    apply Wa
    intro i
    rw [XY]
    by_cases hi:i < xs.length
    ·obtain ⟨a,ha⟩:∃ a,ks[i]?=some a:=⟨_,Xz (by omega)⟩
     obtain ⟨l,hl⟩:∃ l,VS[i]?=some l:=⟨_,Xz (by omega)⟩
     rw [ha,hl,X4]
     congr 1
     simp only [enc,Zff hnd ha hl,Wr]
    ·rw [XX (by omega),XX (by omega)];rfl
   have hflat:(flatK enc k' ks.toArray).toList=us.toList.take (xs.length*k'):=by
    rw [ZiR hk hk0,Xbw,hall,<-v1]
   have hH:HoldsK enc k' w b 0 ks.toArray:=by
    intro j hj
    refine ⟨?_,by simp [World.frozen?,q2]⟩
    have hj':j < ks.length*k':=by simpa using hj
    rw [hzl] at hj'
    have h1:(us.toList.take (xs.length*k'))[j]?=(flatK enc k' ks.toArray).toList[j]?:=by rw [hflat]
    rw [Xae hj'] at h1
    simp only [World.cell?,q2,XK]
    simp only [Xal,Xu,if_false]
    rw [<-Wp,h1,Wp,Xaj hj]
    have e:=getElem!_pos (flatK enc k' ks.toArray) j hj
    rw [e];rfl
   have hlt:b < w.heap.size:=(XQ.1 q2).1
   have hcl:CmpLays P f' #[] enc k' cf b 0 ks.toArray.size w:=by
    intro q os dk _ x y
    obtain ⟨t1,ht1⟩:=hpr x
    obtain ⟨t2,ht2⟩:=hpr y
    have l1:=hk x
    have l2:=hk y
    rw [ht1,XE,(hpre x).1] at l1
    rw [ht2,XE,(hpre y).1] at l2
    rw [ht1,ht2]
    simpa using hcmp x y t1 t2 _ l1 l2
   have hS:=hsort enc hk h1c b 0 bi.cap ks.toArray w hcl hH hlt (by simp;omega)
   rw [show ks.toArray.size=xs.length by simp [hzl]] at hS
   refine hS.mono ?_
   rintro e w' ⟨rfl,nn,os,rfl⟩
   simp only [Xbm] at *
   have hml:(ks.mergeSort (leC cf)).length=ks.length:=XaR ks
   unfold sortWorldK putRowK
   have hsz:(flatK enc k' (ks.mergeSort (leC cf)).toArray).size=xs.length*k':=by rw [size_flatK];simp [hml,hzl]
   have hcap:xs.length*k'<=us.size:=by rw [q3];exact Ww k' e5
   generalize hfl:flatK enc k' (ks.mergeSort (leC cf)).toArray=FL at *
   have hfll:FL.toList=(ks.mergeSort (leC cf)).flatMap enc:=by rw [<-hfl,ZiR hk hk0]
   have hheap:(grow (putRow id (Sort.ahead w nn) b 0 FL) os).heap[b]?=some (.cells (putCells id 0 FL us) ty (0,0)):=by
    rw [heap_grow_old _ _ (by simpa using hlt)]
    simp [putRow,mapBlock,Sort.ahead,WM,q2,onCells]
   have htake:(putCells id 0 FL us).toList.take (xs.length*k')=(ks.mergeSort (leC cf)).flatMap enc:=by
    rw [<-hfll]
    apply Wa
    intro j
    by_cases hj:j < xs.length*k'
    ·rw [Xae hj,Wp,Wp]
     have hj2:j < us.size:=by omega
     have hj3:j < FL.size:=by omega
     simp [putCells,hj2,hj3]
    ·rw [XaU (by omega),XX (by simp;omega)]
   have hperm:∀ a,a ∈ ks.mergeSort (leC cf)->a ∈ ks:=fun a ha=>(Xai ks _).mem_iff.1 ha
   have hown:Zw w β 0 (.row 0 k' xs) b:=by simp [Zw,e1,hb']
   have hlk:∀ a ∈ ks,∃ x ∈ xs,((ks.zip xs).lookup a).getD .nilp=x/\VRs I β x.cells (enc a):=by
    intro a ha
    obtain ⟨i,hi⟩:=WA.1 ha
    have hix:i < xs.length:=by have:=(Xf.1 hi).1;omega
    obtain ⟨x,hx⟩:∃ x,xs[i]?=some x:=⟨_,Xz hix⟩
    obtain ⟨l,l1,l2⟩:=v4 i x hx
    refine ⟨x,Xx hx,by rw [Zff hnd hi hx];rfl,?_⟩
    simp only [enc,Zff hnd hi l1,Wr]
    exact l2
   refine ⟨.tuple #[],rfl,I,β,Imm.le.refl I,KeptE.refl _ β,?_,by simp [ZaN,VR,VRs]⟩
   have:=R.putAt (R.base_le hb) (t:=0) (b:=b) (x:=.row 0 k' xs) (x':=.row 0 k' (Zdv cf xs ks)) (w':=grow (putRow id (Sort.ahead w nn) b 0 FL) os) rfl hown (by simp [Zw,e1,hb']) rfl rfl rfl rfl (by simp) (fun c hc hcl=>by
    rw [heap_grow_old _ _ (by simpa using hcl)]
    have : b≠c:=fun e=>hc e.symm
    simp [putRow,mapBlock,Sort.ahead,WM,this])
    ⟨bi,e1,e2,hk0,e4,by simp only [Zdv,XL,hml];omega,?_,?_,XO ⟨b,_,ty,hb',hheap,by simp [putCells];omega,?_⟩⟩
   ·exact this
   ·rw [ZcS]
    intro x hx
    obtain ⟨a,ha,rfl⟩:=XV.1 hx
    obtain ⟨y,hy,e,_⟩:=hlk a (hperm a ha)
    rw [e]
    exact (ZcS.1 e6) y hy
   ·intro x hx
    obtain ⟨a,ha,rfl⟩:=XV.1 hx
    obtain ⟨y,hy,e,_⟩:=hlk a (hperm a ha)
    rw [e]
    exact e7 y hy
   ·have e9:(Zdv cf xs ks).length=xs.length:=by simp only [Zdv,XL,hml];omega
    rw [e9,htake]
    unfold Zdv
    have key:∀ l:List κ,(∀ a ∈ l,a ∈ ks)->VRs I β ((l.map fun a=>((ks.zip xs).lookup a).getD .nilp).flatMap AVal.cells) (l.flatMap enc):=by
     intro l
     induction l with
     | nil=>intro _;simp [VRs]
     | cons a l ih =>
      intro hl
      rw [Xw,X5,X5]
      obtain ⟨y,hy,e,h⟩:=hlk a (hl a (by simp))
      rw [e]
      exact Zcu h (ih fun c hc=>hl c (by simp [hc]))
    exact key _ hperm
  ·have hx0:xs=[]:=Wb (by omega)
   subst hx0
   simp only [Zcp,Xa] at hz
   subst hz
   refine (hnone A 0 _ w).mono ?_
   rintro e w' ⟨rfl,rfl⟩
   exact ⟨.tuple #[],rfl,I,β,Imm.le.refl I,KeptE.refl _ β,by simpa [Zdv] using R,by simp [ZaN,VR,VRs]⟩
 ·simp only [Xa,Xb] at hp
  obtain ⟨rfl,rfl⟩:=hp
  simp only [VRs] at hv
  obtain ⟨v,vs',rfl,hv,fv,vs'',rfl,hfv,rfl⟩:=hv
  simp only [VR] at hv
  obtain ⟨A,cap,rfl,_⟩:=hv
  refine (hnone A cap fv w).mono ?_
  rintro e w' ⟨rfl,rfl⟩
  exact ⟨.tuple #[],rfl,I,β,Imm.le.refl I,KeptE.refl _ β,R,by simp [ZaN,VR,VRs]⟩
 ·cases hp
end
end
section
open Go.Shelf
def ZAH:Ren:=⟨fun | 106=>25 | 213=>34 | 265=>49 | n=>n,fun | 9=>9 | 3=>3 | n=>n,fun | n=>n⟩
theorem ZA4:Go.Proofs.Lays.n106 Try.prog ZAH:={ mixed:=by kernel_rfl,f106:=Try.func25.trans (congrArg some (by kernel_rfl)),f213:=Try.func34.trans (congrArg some (by kernel_rfl)),f265:=Try.func49.trans (congrArg some (by kernel_rfl)),t3:=Try.underlying3,a3:=Try.isAgg3,z3:=Try.sizeOf3,v3:=Try.zeroValue3,t9:=Try.underlying9,a9:=Try.isAgg9,z9:=Try.sizeOf9,v9:=Try.zeroValue9 }
def ZCt:Ren:=⟨fun | 6=>23 | 15=>33 | 14=>32 | 28=>47 | 29=>48 | 20=>39 | 21=>40 | 22=>41 | 23=>42 | 24=>43 | 25=>44 | 26=>45 | 27=>46 | 46=>59 | 47=>60 | 48=>61 | 49=>62 | 50=>63 | 57=>68 | n=>n,fun | 22=>36 | 24=>39 | 25=>63 | 3=>3 | 39=>76 | 0=>0 | 53=>90 | 55=>92 | 4=>4 | 46=>83 | 45=>82 | 50=>87 | 5=>5 | 9=>9 | 66=>99 | 70=>103 | 76=>108 | 77=>109 | n=>n,fun | n=>n⟩
theorem Zki:Go.Proofs.SlLaysF0.n6 Try.prog ZCt:={ mixed:=by kernel_rfl,f6:=⟨"slices.SortFunc[[]tidings/route.Give,tidings/route.Give]",by kernel_rfl,Try.func23.trans (congrArg some (by kernel_rfl))⟩,f14:=⟨"slices.pdqsortCmpFunc[tidings/route.Give]",by kernel_rfl,Try.func32.trans (congrArg some (by kernel_rfl))⟩,f15:=Try.func33.trans (congrArg some (by kernel_rfl)),f20:=⟨"slices.insertionSortCmpFunc[tidings/route.Give]",by kernel_rfl,Try.func39.trans (congrArg some (by kernel_rfl))⟩,f21:=⟨"slices.heapSortCmpFunc[tidings/route.Give]",by kernel_rfl,Try.func40.trans (congrArg some (by kernel_rfl))⟩,f22:=⟨"slices.breakPatternsCmpFunc[tidings/route.Give]",by kernel_rfl,Try.func41.trans (congrArg some (by kernel_rfl))⟩,f23:=⟨"slices.choosePivotCmpFunc[tidings/route.Give]",by kernel_rfl,Try.func42.trans (congrArg some (by kernel_rfl))⟩,f24:=⟨"slices.reverseRangeCmpFunc[tidings/route.Give]",by kernel_rfl,Try.func43.trans (congrArg some (by kernel_rfl))⟩,f25:=⟨"slices.partialInsertionSortCmpFunc[tidings/route.Give]",by kernel_rfl,Try.func44.trans (congrArg some (by kernel_rfl))⟩,f26:=⟨"slices.partitionEqualCmpFunc[tidings/route.Give]",by kernel_rfl,Try.func45.trans (congrArg some (by kernel_rfl))⟩,f27:=⟨"slices.partitionCmpFunc[tidings/route.Give]",by kernel_rfl,Try.func46.trans (congrArg some (by kernel_rfl))⟩,f28:=Try.func47.trans (congrArg some (by kernel_rfl)),f29:=Try.func48.trans (congrArg some (by kernel_rfl)),f46:=⟨"slices.siftDownCmpFunc[tidings/route.Give]",by kernel_rfl,Try.func59.trans (congrArg some (by kernel_rfl))⟩,f47:=Try.func60.trans (congrArg some (by kernel_rfl)),f48:=Try.func61.trans (congrArg some (by kernel_rfl)),f49:=⟨"slices.medianAdjacentCmpFunc[tidings/route.Give]",by kernel_rfl,Try.func62.trans (congrArg some (by kernel_rfl))⟩,f50:=⟨"slices.medianCmpFunc[tidings/route.Give]",by kernel_rfl,Try.func63.trans (congrArg some (by kernel_rfl))⟩,f57:=⟨"slices.order2CmpFunc[tidings/route.Give]",by kernel_rfl,Try.func68.trans (congrArg some (by kernel_rfl))⟩,t0:=Try.underlying0,a0:=Try.isAgg0,z0:=Try.sizeOf0,v0:=Try.zeroValue0,t3:=Try.underlying3,a3:=Try.isAgg3,z3:=Try.sizeOf3,v3:=Try.zeroValue3,t4:=Try.underlying4,a4:=Try.isAgg4,z4:=Try.sizeOf4,v4:=Try.zeroValue4,t5:=Try.underlying5,a5:=Try.isAgg5,z5:=Try.sizeOf5,v5:=Try.zeroValue5,t9:=Try.underlying9,a9:=Try.isAgg9,z9:=Try.sizeOf9,v9:=Try.zeroValue9,t22:=Try.underlying36,a22:=Try.isAgg36,z22:=Try.sizeOf36,v22:=Try.zeroValue36,t25:=Try.underlying63,a25:=Try.isAgg63,z25:=Try.sizeOf63,v25:=Try.zeroValue63,t39:=Try.underlying76,a39:=Try.isAgg76,z39:=Try.sizeOf76,v39:=Try.zeroValue76,t45:=Try.underlying82,a45:=Try.isAgg82,z45:=Try.sizeOf82,v45:=Try.zeroValue82,t46:=Try.underlying83,a46:=Try.isAgg83,z46:=Try.sizeOf83,v46:=Try.zeroValue83,t50:=Try.underlying87,a50:=Try.isAgg87,z50:=Try.sizeOf87,v50:=Try.zeroValue87,t53:=Try.underlying90,a53:=Try.isAgg90,z53:=Try.sizeOf90,v53:=Try.zeroValue90,t55:=Try.underlying92,a55:=Try.isAgg92,z55:=Try.sizeOf92,v55:=Try.zeroValue92,t66:=Try.underlying99,a66:=Try.isAgg99,z66:=Try.sizeOf99,v66:=Try.zeroValue99,t70:=Try.underlying103,a70:=Try.isAgg103,z70:=Try.sizeOf103,v70:=Try.zeroValue103,t76:=Try.underlying108,a76:=Try.isAgg108,z76:=Try.sizeOf108,v76:=Try.zeroValue108,t77:=Try.underlying109,a77:=Try.isAgg109,z77:=Try.sizeOf109,v77:=Try.zeroValue109 }
end
section
open Go.RowKit Go.Sort Go.Lib
set_option maxRecDepth 100000
theorem Zzx (a b:List UInt8) (us vs:List Value) (W:World) (hu:1+us.length=15) (hv:1+vs.length=15):Calls Try.prog 24 #[.agg ([Value.string ⟨a.toArray⟩]++us).toArray,.agg ([Value.string ⟨b.toArray⟩]++vs).toArray] W fun e w'=>e=.returned (.int .i64 (Lib.compareBytes a b))/\∃ q os',w'=grow (W.drewN q) os':=by
 have hcon:=fun W'=>Any.strings_Compare ZA4 ⟨a.toArray⟩ ⟨b.toArray⟩ W'
 change ∀ W',Calls Try.prog 25 _ _ _ at hcon
 simp only [Xbm] at hcon
 generalize Lib.compareBytes a b=r at hcon ⊢
 generalize (⟨a.toArray⟩:ByteArray)=A1 at *
 generalize (⟨b.toArray⟩:ByteArray)=B1 at *
 obtain ⟨u1,u2,u3,u4,u5,u6,u7,u8,u9,u10,u11,u12,u13,u14,rfl⟩:∃ u1 u2 u3 u4 u5 u6 u7 u8 u9 u10 u11 u12 u13 u14,us=[u1,u2,u3,u4,u5,u6,u7,u8,u9,u10,u11,u12,u13,u14]:=by
  match us,hu with
  | [u1,u2,u3,u4,u5,u6,u7,u8,u9,u10,u11,u12,u13,u14],_=>exact ⟨u1,u2,u3,u4,u5,u6,u7,u8,u9,u10,u11,u12,u13,u14,rfl⟩
  | _::_::_::_::_::_::_::_::_::_::_::_::_::_::_::_,h=>simp at h;omega
 obtain ⟨v1,v2,v3,v4,v5,v6,v7,v8,v9,v10,v11,v12,v13,v14,rfl⟩:∃ u1 u2 u3 u4 u5 u6 u7 u8 u9 u10 u11 u12 u13 u14,vs=[u1,u2,u3,u4,u5,u6,u7,u8,u9,u10,u11,u12,u13,u14]:=by
  match vs,hv with
  | [u1,u2,u3,u4,u5,u6,u7,u8,u9,u10,u11,u12,u13,u14],_=>exact ⟨u1,u2,u3,u4,u5,u6,u7,u8,u9,u10,u11,u12,u13,u14,rfl⟩
  | _::_::_::_::_::_::_::_::_::_::_::_::_::_::_::_,h=>simp at h;omega
 clear hu hv
 go_enter Try.func24,Try.ntmps24
 go_wp2_with (go_at_call 25;refine (hcon _).mono ?_;rintro e w' ⟨rfl,rfl⟩)
 go_ret
 exact ⟨rfl,0,_,by rw [alloc_eq_grow,alloc_eq_grow,grow_grow];rfl⟩
theorem Zi6:∀ (a b:List UInt8),(Lib.compareBytes a b < 0)↔a < b
 | [],[]=>by simp [Lib.compareBytes]
 | [],b::bs=>by simp [Lib.compareBytes]
 | a::l,[]=>by simp [Lib.compareBytes]
 | a::l,b::bs=>by
  have ih:=Zi6 l bs
  simp only [Lib.compareBytes,List.cons_lt_cons_iff]
  split
  ·rename_i h;simp [h]
  ·rename_i h
   split
   ·rename_i h'
    have : a≠b:=by rintro rfl;exact h h'
    simp [h,this]
   ·rename_i h'
    have e:a=b:=by
     have h1:=UInt8.not_lt.1 h
     have h2:=UInt8.not_lt.1 h'
     exact UInt8.le_antisymm h2 h1
    subst e
    simp [ih]
theorem Zku (a b:List UInt8):ltOf Lib.compareBytes a b=decide (a < b):=by
 unfold ltOf
 by_cases h:a < b
 ·rw [decide_eq_true ((Zi6 a b).2 h),decide_eq_true h]
 ·rw [decide_eq_false (fun h'=>h ((Zi6 a b).1 h')),decide_eq_false h]
theorem Zxo:SWO (ltOf Lib.compareBytes) where
 irrefl x:=by rw [Zku];simp [List.lt_irrefl]
 trans x y z h1 h2:=by
  rw [Zku] at *
  simp only [decide_eq_true_eq] at *
  exact List.lt_trans h1 h2
 ntrans x y z h1 h2:=by
  rw [Zku] at *
  simp only [decide_eq_false_iff_not,Xbu] at *
  exact List.le_trans h2 h1
theorem Zy6 (x y:List UInt8) (h1:ltOf Lib.compareBytes x y=false) (h2:ltOf Lib.compareBytes y x=false):x=y:=by
 rw [Zku] at *
 simp only [decide_eq_false_iff_not,Xbu] at *
 exact List.le_antisymm h2 h1
theorem Zyu {I:Imm} {β:Bmap} (x:AVal) (a:List UInt8) (l:List Value) (h:ZeE x=some a) (hv:VRs I β x.cells l):∃ t,l=[Value.string ⟨a.toArray⟩]++t:=by
 unfold ZeE at h
 split at h
 ·injection h with h;subst h
  simp only [AVal.cells,VRs] at hv
  obtain ⟨v,vs,rfl,h1,_⟩:=hv
  simp only [VR] at h1
  exact ⟨vs,by rw [h1.1];rfl⟩
 ·cases h
theorem ZDZ {args:List AVal} {σ σ':Za} {r:AVal} (hp:ZiV 15 24 ZeE Lib.compareBytes args σ=some (r,σ')) :
  (∃ fn,Try.prog.funcs[23]?=some fn/\fn.body.isSome=true/\(fn.name == "runtime.NumGoroutine")=false) /\
  ∀ base w0 I0 I β w (vs:Array Value),KLt base w0->Rel base w0 I0 I β σ w->VRs I β args vs.toList ->
   Calls Try.prog 23 vs w (fun e w'=>∃ u,Ends r e u/\Zbo σ.length base w0 I0 I β r σ' u w') :=
 Zz4 (κ:=List UInt8) (k:=15) (g:=24) (m:=1) (pre:=fun a=>[Value.string ⟨a.toArray⟩]) ⟨_,Try.func23,by kernel_rfl,by kernel_rfl⟩ (by decide) (by decide) (by decide)
  (fun a=>⟨rfl,fun v hv=>by rw [XU] at hv;subst hv;rfl⟩) Zyu Zzx
  (fun enc hk h1 blk off cap d w hcl hH hb hs=>AnyQ.slices_SortFunc_total Zki 15 Try.isAgg39 Try.sizeOf39 enc hk h1 Lib.compareBytes Zxo 24 #[] blk off cap d w (enters_of Try.func24 (by kernel_rfl) rfl) hcl hH hb hs Zy6)
  (fun p cap fv w=>AnyF.slices_SortFunc_none Zki p cap fv w) hp
end
section
open Go.RowKit Go.Sort Go.Lib
set_option maxRecDepth 100000
def ZgV {κ:Type} [DecidableEq κ] (k f:Nat) (key:AVal->Option κ) (cf:κ->κ->Int) (args:List AVal) (σ:Za):Option (AVal×Za):=match args,σ with
 | [.sl 0 0 0 n,.fn f' []],.rrow 0 k' xs::T=>match Zcp key xs with
  | some ks=>if n=xs.length/\n < 4611686018427387904/\k'=k/\f'=f/\ks.Nodup then some (.tup [],.rrow 0 k (Zdv cf xs ks)::T) else none
  | none=>none
 | [.lst b [],.fn f' []],[]=>some (.tup [],[])
 | _,_=>none
section
variable {P:Program} {base:Nat->Prop} {w0 w w':World} {I0 I:Imm} {β:Bmap} {σ:Za}
theorem ZBE {κ:Type} [DecidableEq κ] [Inhabited κ] {k g f:Nat} {key:AVal->Option κ} {cf:κ->κ->Int} {pre:κ->List Value} {m:Nat} (hf:∃ fn,P.funcs[f]?=some fn/\fn.body.isSome=true/\(fn.name == "runtime.NumGoroutine")=false)
  (hm:m<=k) (hk0:0 < k) (hg0:g < 1000000) (hpre:∀ a,(pre a).length=m/\∀ v ∈ pre a,v.oneCell'=true)
  (hkey:∀ {I:Imm} {β:Bmap} (x:AVal) (a:κ) (l:List Value),key x=some a->VRs I β x.cells l->∃ t,l=pre a++t)
  (hcmp:∀ (a b:κ) (us vs:List Value) (W:World),m+us.length=k->m+vs.length=k->Calls P g #[.agg (pre a++us).toArray,.agg (pre b++vs).toArray] W fun e w'=>e=.returned (.int .i64 (cf a b))/\∃ q os',w'=grow (W.drewN q) os')
  (hsort:∀ (enc:κ->List Value),(∀ x,(enc x).length=k)->(∀ x,∀ v ∈ enc x,v.oneCell'=true)->∀ (blk off cap:Nat) (d:Array κ) (w:World),CmpLays P g #[] enc k cf blk off d.size w->HoldsK enc k w blk off d->blk < w.heap.size->d.size < 4611686018427387904 ->
   Calls P f #[.slice (some ⟨blk,off,none⟩) d.size cap,.func (.func g) #[] #[]] w fun e w'=>e=.returned (.tuple #[])/\∃ n os,w'=sortWorldK enc k w blk off n (d.toList.mergeSort (leC cf)).toArray os)
  (hnone:∀ (p:Option Addr) (cap:Nat) (fv:Value) (w:World),Calls P f #[.slice p 0 cap,fv] w fun e w'=>e=.returned (.tuple #[])/\w'=w)
  {args:List AVal} {σ σ':Za} {r:AVal} (hp:ZgV k g key cf args σ=some (r,σ')) :
  (∃ fn,P.funcs[f]?=some fn/\fn.body.isSome=true/\(fn.name == "runtime.NumGoroutine")=false) /\
  ∀ base w0 I0 I β w (vs:Array Value),KLt base w0->Rel base w0 I0 I β σ w->VRs I β args vs.toList ->
   Calls P f vs w (fun e w'=>∃ u,Ends r e u/\Zbo σ.length base w0 I0 I β r σ' u w'):=by
 refine ⟨hf,fun base w0 I0 I β w vs hb R hv=>?_⟩
 unfold ZgV at hp
 obtain ⟨vs⟩:=vs
 split at hp
 ·rename_i n f' k' xs T
  split at hp
  case h_2=>cases hp
  rename_i ks hz
  split at hp
  case isFalse=>cases hp
  rename_i hn
  obtain ⟨rfl,hn,rfl,rfl,hnd⟩:=hn
  simp only [Xa,Xb] at hp
  obtain ⟨rfl,rfl⟩:=hp
  simp only [VRs] at hv
  obtain ⟨v,vs',rfl,hv,fv,vs'',rfl,hfv,rfl⟩:=hv
  have hfv':fv=.func (.func f') #[] #[]:=by
   simp only [VR,if_pos hg0,VRs] at hfv
   obtain ⟨fs,us,rfl,rfl,h⟩:=hfv
   have : us=#[]:=by
    have:=congrArg XbE h
    simp at this
    exact this
   rw [this]
  subst hfv'
  have hzl:=ZjX hz
  have hB:=R.blk 0 _ rfl
  obtain ⟨bi,e1,e2,e3,e4,e5,e67,b2,us,ty,q1,q2,q3,q4⟩:=hB
  have e7:∀ x ∈ xs,x.cells.length=k':=fun x hx=>(e67 x hx).1
  rw [ZcC] at hv
  obtain ⟨bi',f1,f2,f3,f4⟩:=hv
  rw [e1] at f1
  injection f1 with f1
  subst f1
  rcases f4 with ⟨b,hb',rfl⟩ | ⟨hbn,hc0,A,rfl⟩
  ·rw [hb'] at q1;injection q1 with q1;subst q1
   obtain ⟨VS,v1,v2,v3,v4⟩:=ZlN e7 q4
   let enc:κ->List Value:=fun a=>((ks.zip VS).lookup a).getD (pre a++Xr (k' - m) (.int .i64 0))
   have hmem:∀ a l,(ks.zip VS).lookup a=some l->l ∈ VS/\∃ (i:Nat) (x:AVal),xs[i]?=some x/\ks[i]?=some a/\VS[i]?=some l:=by
    have key:∀ (ks:List κ) (VS:List (List Value)) a l,(ks.zip VS).lookup a=some l->∃ i:Nat,ks[i]?=some a/\VS[i]?=some l:=by
     intro ks
     induction ks with
     | nil=>intro VS a l h;simp at h
     | cons b ks ih =>
      intro VS a l h
      cases VS with
      | nil=>simp at h
      | cons y VS =>
       rw [Wn,XJ] at h
       by_cases e:a=b
       ·subst e;simp only [beq_self_eq_true,Xa] at h;subst h;exact ⟨0,rfl,rfl⟩
       ·have : (a == b)=false:=by simpa using e
        rw [this] at h
        obtain ⟨i,h1,h2⟩:=ih VS a l h
        exact ⟨i+1,by simpa using h1,by simpa using h2⟩
    intro a l h
    obtain ⟨i,h1,h2⟩:=key ks VS a l h
    have hi:i < xs.length:=by have:=(Xf.1 h2).1;omega
    exact ⟨Xx h2,i,xs[i],Xz hi,h1,h2⟩
   have henc:∀ a,(∃ (i:Nat) (x:AVal),xs[i]?=some x/\ks[i]?=some a/\VS[i]?=some (enc a)/\(ks.zip VS).lookup a=some (enc a))\/enc a=pre a++Xr (k' - m) (.int .i64 0):=by
    intro a
    cases h:(ks.zip VS).lookup a with
    | none=>exact XO (by simp only [enc,h];rfl)
    | some l =>
     obtain ⟨_,i,x,h1,h2,h3⟩:=hmem a l h
     refine XH ⟨i,x,h1,h2,?_,?_⟩ <;> simp only [enc,h,Wr] <;> assumption
   have hpr:∀ a,∃ t,enc a=pre a++t:=by
    intro a
    rcases henc a with ⟨i,x,h1,h2,h3,_⟩ | h
    ·obtain ⟨a',k1,k2⟩:=ZtK hz h1
     rw [h2] at k1;injection k1 with k1;subst k1
     obtain ⟨l,l1,l2⟩:=v4 i x h1
     rw [h3] at l1;injection l1 with l1;subst l1
     exact hkey x _ _ k2 l2
    ·exact ⟨_,h⟩
   have hk:∀ a,(enc a).length=k':=by
    intro a
    rcases henc a with ⟨i,x,h1,h2,h3,_⟩ | h
    ·exact v3 _ (Xx h3)
    ·rw [h,XE,(hpre a).1,WN];omega
   have h1c:∀ a,∀ v ∈ enc a,v.oneCell'=true:=by
    intro a v hv
    rcases henc a with ⟨i,x,h1,h2,h3,_⟩ | h
    ·obtain ⟨l,l1,l2⟩:=v4 i x h1
     rw [h3] at l1;injection l1 with l1;subst l1
     refine ZgB (fun c hc=>?_) l2 v hv
     exact (e67 x (Xx h1)).2 c hc
    ·rw [h] at hv
     rcases XG.1 hv with hv | hv
     ·exact (hpre a).2 v hv
     ·rw [Xa4] at hv;rw [hv.2];rfl
   have hall:ks.map enc=VS:=by
    apply Wa
    intro i
    rw [XY]
    by_cases hi:i < xs.length
    ·obtain ⟨a,ha⟩:∃ a,ks[i]?=some a:=⟨_,Xz (by omega)⟩
     obtain ⟨l,hl⟩:∃ l,VS[i]?=some l:=⟨_,Xz (by omega)⟩
     rw [ha,hl,X4]
     congr 1
     simp only [enc,Zff hnd ha hl,Wr]
    ·rw [XX (by omega),XX (by omega)];rfl
   have hflat:(flatK enc k' ks.toArray).toList=us.toList.take (xs.length*k'):=by
    rw [ZiR hk hk0,Xbw,hall,<-v1]
   have hH:HoldsK enc k' w b 0 ks.toArray:=by
    intro j hj
    refine ⟨?_,by simp [World.frozen?,q2]⟩
    have hj':j < ks.length*k':=by simpa using hj
    rw [hzl] at hj'
    have h1:(us.toList.take (xs.length*k'))[j]?=(flatK enc k' ks.toArray).toList[j]?:=by rw [hflat]
    rw [Xae hj'] at h1
    simp only [World.cell?,q2,XK]
    simp only [Xal,Xu,if_false]
    rw [<-Wp,h1,Wp,Xaj hj]
    have e:=getElem!_pos (flatK enc k' ks.toArray) j hj
    rw [e];rfl
   have hlt:b < w.heap.size:=(XQ.1 q2).1
   have hcl:CmpLays P f' #[] enc k' cf b 0 ks.toArray.size w:=by
    intro q os dk _ x y
    obtain ⟨t1,ht1⟩:=hpr x
    obtain ⟨t2,ht2⟩:=hpr y
    have l1:=hk x
    have l2:=hk y
    rw [ht1,XE,(hpre x).1] at l1
    rw [ht2,XE,(hpre y).1] at l2
    rw [ht1,ht2]
    simpa using hcmp x y t1 t2 _ l1 l2
   have hS:=hsort enc hk h1c b 0 bi.cap ks.toArray w hcl hH hlt (by simp;omega)
   rw [show ks.toArray.size=xs.length by simp [hzl]] at hS
   refine hS.mono ?_
   rintro e w' ⟨rfl,nn,os,rfl⟩
   simp only [Xbm] at *
   have hml:(ks.mergeSort (leC cf)).length=ks.length:=XaR ks
   unfold sortWorldK putRowK
   have hsz:(flatK enc k' (ks.mergeSort (leC cf)).toArray).size=xs.length*k':=by rw [size_flatK];simp [hml,hzl]
   have hcap:xs.length*k'<=us.size:=by rw [q3];exact Ww k' e5
   generalize hfl:flatK enc k' (ks.mergeSort (leC cf)).toArray=FL at *
   have hfll:FL.toList=(ks.mergeSort (leC cf)).flatMap enc:=by rw [<-hfl,ZiR hk hk0]
   have hheap:(grow (putRow id (Sort.ahead w nn) b 0 FL) os).heap[b]?=some (.cells (putCells id 0 FL us) ty (0,0)):=by
    rw [heap_grow_old _ _ (by simpa using hlt)]
    simp [putRow,mapBlock,Sort.ahead,WM,q2,onCells]
   have htake:(putCells id 0 FL us).toList.take (xs.length*k')=(ks.mergeSort (leC cf)).flatMap enc:=by
    rw [<-hfll]
    apply Wa
    intro j
    by_cases hj:j < xs.length*k'
    ·rw [Xae hj,Wp,Wp]
     have hj2:j < us.size:=by omega
     have hj3:j < FL.size:=by omega
     simp [putCells,hj2,hj3]
    ·rw [XaU (by omega),XX (by simp;omega)]
   have hperm:∀ a,a ∈ ks.mergeSort (leC cf)->a ∈ ks:=fun a ha=>(Xai ks _).mem_iff.1 ha
   have hown:Zw w β 0 (.rrow 0 k' xs) b:=by simp [Zw,e1,hb']
   have hlk:∀ a ∈ ks,∃ x ∈ xs,((ks.zip xs).lookup a).getD .nilp=x/\VRs I β x.cells (enc a):=by
    intro a ha
    obtain ⟨i,hi⟩:=WA.1 ha
    have hix:i < xs.length:=by have:=(Xf.1 hi).1;omega
    obtain ⟨x,hx⟩:∃ x,xs[i]?=some x:=⟨_,Xz hix⟩
    obtain ⟨l,l1,l2⟩:=v4 i x hx
    refine ⟨x,Xx hx,by rw [Zff hnd hi hx];rfl,?_⟩
    simp only [enc,Zff hnd hi l1,Wr]
    exact l2
   refine ⟨.tuple #[],rfl,I,β,Imm.le.refl I,KeptE.refl _ β,?_,by simp [ZaN,VR,VRs]⟩
   have:=R.putAt (R.base_le hb) (t:=0) (b:=b) (x:=.rrow 0 k' xs) (x':=.rrow 0 k' (Zdv cf xs ks)) (w':=grow (putRow id (Sort.ahead w nn) b 0 FL) os) rfl hown (by simp [Zw,e1,hb']) rfl rfl rfl rfl (by simp) (fun c hc hcl=>by
    rw [heap_grow_old _ _ (by simpa using hcl)]
    have : b≠c:=fun e=>hc e.symm
    simp [putRow,mapBlock,Sort.ahead,WM,this])
    ⟨bi,e1,e2,hk0,e4,by simp only [Zdv,XL,hml];omega,?_,b,_,ty,hb',hheap,by simp [putCells];omega,?_⟩
   ·exact this
   ·intro x hx
    obtain ⟨a,ha,rfl⟩:=XV.1 hx
    obtain ⟨y,hy,e,_⟩:=hlk a (hperm a ha)
    rw [e]
    exact e67 y hy
   ·have e9:(Zdv cf xs ks).length=xs.length:=by simp only [Zdv,XL,hml];omega
    rw [e9,htake]
    unfold Zdv
    have key:∀ l:List κ,(∀ a ∈ l,a ∈ ks)->VRs I β ((l.map fun a=>((ks.zip xs).lookup a).getD .nilp).flatMap AVal.cells) (l.flatMap enc):=by
     intro l
     induction l with
     | nil=>intro _;simp [VRs]
     | cons a l ih =>
      intro hl
      rw [Xw,X5,X5]
      obtain ⟨y,hy,e,h⟩:=hlk a (hl a (by simp))
      rw [e]
      exact Zcu h (ih fun c hc=>hl c (by simp [hc]))
    exact key _ hperm
  ·rw [hbn] at q1;cases q1
 ·simp only [Xa,Xb] at hp
  obtain ⟨rfl,rfl⟩:=hp
  simp only [VRs] at hv
  obtain ⟨v,vs',rfl,hv,fv,vs'',rfl,hfv,rfl⟩:=hv
  simp only [VR] at hv
  obtain ⟨A,cap,rfl,_⟩:=hv
  refine (hnone A cap fv w).mono ?_
  rintro e w' ⟨rfl,rfl⟩
  exact ⟨.tuple #[],rfl,I,β,Imm.le.refl I,KeptE.refl _ β,R,by simp [ZaN,VR,VRs]⟩
 ·cases hp
end
theorem ZCB {args:List AVal} {σ σ':Za} {r:AVal} (hp:ZgV 15 24 ZeE Lib.compareBytes args σ=some (r,σ')) :
  (∃ fn,Try.prog.funcs[23]?=some fn/\fn.body.isSome=true/\(fn.name == "runtime.NumGoroutine")=false) /\
  ∀ base w0 I0 I β w (vs:Array Value),KLt base w0->Rel base w0 I0 I β σ w->VRs I β args vs.toList ->
   Calls Try.prog 23 vs w (fun e w'=>∃ u,Ends r e u/\Zbo σ.length base w0 I0 I β r σ' u w') :=
 ZBE (κ:=List UInt8) (k:=15) (g:=24) (m:=1) (pre:=fun a=>[Value.string ⟨a.toArray⟩]) ⟨_,Try.func23,by kernel_rfl,by kernel_rfl⟩ (by decide) (by decide) (by decide)
  (fun a=>⟨rfl,fun v hv=>by rw [XU] at hv;subst hv;rfl⟩) Zyu Zzx
  (fun enc hk h1 blk off cap d w hcl hH hb hs=>AnyQ.slices_SortFunc_total Zki 15 Try.isAgg39 Try.sizeOf39 enc hk h1 Lib.compareBytes Zxo 24 #[] blk off cap d w (enters_of Try.func24 (by kernel_rfl) rfl) hcl hH hb hs Zy6)
  (fun p cap fv w=>AnyF.slices_SortFunc_none Zki p cap fv w) hp
end
section
def ZeP {α:Type} (d:α):List (Nat×α)->Nat->α
 | [],_=>d
 | (k,v)::r,n=>if k=n then v else ZeP d r n
def Zbd (own raw:List Nat) (cfg cfg2:List (Nat×Nat×Bool)) (lr ll:List (Nat×List Nat)):Ann:={ own:=fun n=>if own.contains n then 1 else if raw.contains n then 2 else if raw.contains (n+1000000) then 3 else if raw.contains (n+2000000) then 4 else if raw.contains (n+3000000) then 5 else 0,cfg:=ZeP (0,true) cfg,cfg2:=ZeP (0,true) cfg2,lr:=ZeP [] lr,ll:=ZeP [] ll }
def ZAB:List (Nat×Ann):=[
 (6,Zbd [] [] [] [] [(0,[2,1]),(1,[3,2,1]),(2,[33,3,2,1]),(3,[3,2,1]),(4,[4,2,1]),(5,[5,4,2,1]),(6,[53,5,4,2,1]),(7,[5,4,2,1]),(8,[5,4,2,1]),(9,[71,4,2,1]),(10,[4,2]),(11,[2])] [(6,[5,4,2,1])]),
 (21,Zbd [] [] [] [] [(0,[1]),(1,[3,1]),(2,[7,3,1]),(3,[3,1]),(4,[18,3,1]),(5,[3,1]),(6,[29,3,1]),(7,[3,1]),(8,[4,3,1]),(9,[45,4,3,1]),(10,[4,3,1]),(11,[4,3,1]),(12,[2])] [(9,[4,3,1])]),
 (56,Zbd [] [] [] [] [(0,[1,0]),(1,[4])] []),
 (67,Zbd [] [] [] [] [(0,[0]),(1,[2])] []),
 (33,Zbd [] [] [] [] [(0,[0]),(1,[2]),(2,[2])] []),
 (47,Zbd [] [] [] [] [(0,[2,0]),(1,[4,2,0]),(2,[0]),(3,[2,0]),(4,[8,2,0]),(5,[2,0]),(6,[2,0]),(7,[2])] []),
 (48,Zbd [] [] [] [] [(0,[2,0]),(1,[4,2,0]),(2,[0]),(3,[2,0]),(4,[8,2,0]),(5,[2,0]),(6,[2,0]),(7,[14,2,0]),(8,[2,0]),(9,[2,0]),(10,[2])] []),
 (14,Zbd [] [] [] [] [(0,[6,5,3,1]),(1,[7,6,5,3,1]),(2,[7,6,1]),(3,[7,6]),(4,[6])] []),
 (16,Zbd [] [] [] [] [(0,[4,3,2]),(1,[5,4]),(2,[5,4]),(3,[4])] []),
 (8,Zbd [] [3000011,3000040] [] [] [(0,[2,1]),(1,[5,2,1]),(2,[14,13,12,5,2]),(3,[15,14,13,12,5,2]),(4,[14,13,12,7,5,2]),(5,[33,14,13,12,7,5,2]),(6,[14,13,12,5,2]),(7,[14,13,12,5,2]),(8,[]),(12,[]),(13,[8]),(14,[4])] [(3,[14,13,12,5,2]),(10,[])]),
 (24,Zbd [] [] [] [] [(0,[3,2]),(1,[4])] []),
 (22,Zbd [] [] [(30,2,false)] [] [(0,[4,2,1]),(1,[5,4,2,1]),(2,[6,5,4,2,1]),(3,[18,17,16,6,5,4,2]),(4,[19,18,17,16,6,5,4,2]),(5,[18,17,16,8,6,5,4,2]),(6,[18,17,16,8,6,5,4,2]),(7,[18,17,16,8,6,5,4,2]),(8,[39,18,17,16,8,6,5,4,2]),(9,[18,17,16,6,5,4,2]),(10,[18,17,16,6,5,4,2]),(11,[5,4]),(12,[5,4]),(13,[4])] [(4,[18,17,16,6,5,4,2])]),
 (30,Zbd [6] [] [(37,1,false)] [(36,1,false)] [(0,[2,1]),(1,[2,1]),(2,[2,1]),(3,[15,14,2,1]),(4,[16,15,14,2,1]),(5,[15,14,3,2,1]),(6,[15,14,2,1]),(7,[15,14,2,1]),(8,[2])] [(4,[15,14,2,1])]),
 (60,Zbd [] [] [] [] [(0,[0]),(1,[2])] []),
 (19,Zbd [] [] [] [] [(0,[1,0]),(1,[8,1,0]),(2,[4]),(3,[4])] []),
 (20,Zbd [] [] [] [] [(0,[2,1,0]),(1,[7,1,0]),(2,[7,1,0]),(3,[16,7,1,0]),(4,[1,0]),(5,[6])] []),
 (18,Zbd [] [] [] [] [(0,[0]),(1,[3,0]),(2,[4,3,0]),(3,[12,4,3,0]),(4,[4,3,0]),(5,[4,3,0]),(6,[2])] [(3,[4,3,0])]),
 (3,Zbd [] [] [] [] [(0,[2,1]),(1,[5,1]),(2,[5,1]),(3,[6,5,1]),(4,[7,6,5,1]),(5,[25,7,6,5,1]),(6,[7,6,5,1]),(7,[76,7,6,5,1]),(8,[4]),(9,[9,8,7,6,5,1]),(10,[10,9,8,7,6,5,1]),(11,[80,10,9,8,7,6,5,1]),(12,[10,9,8,7,6,5,1]),(13,[117,10,9,8,7,6,5,1]),(14,[10,9,8,7,6,5,1]),(15,[136,10,9,8,7,6,5,1]),(16,[10,9,8,7,6,5,1]),(17,[157,7,6,5,1]),(18,[4]),(19,[11,6,5,1]),(20,[161,11,6,5,1]),(21,[11,6,5,1]),(22,[12,11,6,5,1]),(23,[13,12,11,6,5,1]),(24,[188,13,12,11,6,5,1]),(25,[13,12,11,6,5,1]),(26,[13,12,11,6,5,1]),(27,[206,11,6,5,1]),(28,[4]),(29,[4])] [(5,[7,6,5,1]),(11,[10,9,8,7,6,5,1]),(20,[11,6,5,1]),(24,[13,12,11,6,5,1])]),
 (4,Zbd [] [] [] [] [(0,[2,1]),(1,[5,1]),(2,[5,1]),(3,[6,5,1]),(4,[7,6,5,1]),(5,[20,7,6,5,1]),(6,[7,6,5,1]),(7,[7,6,5,1]),(8,[9,8]),(9,[40,9,8]),(10,[4]),(11,[10,9,8]),(12,[44,10,9,8]),(13,[10,9,8]),(14,[71,10,9,8]),(15,[4]),(16,[4])] [(5,[7,6,5,1]),(12,[10,9,8])]),
 (5,Zbd [] [] [(8,31,false)] [] [(0,[5,3,1]),(1,[7,5,3,1]),(2,[7,5,3,1]),(3,[8,7,5,3,1]),(4,[9,8,7,5,3,1]),(5,[10,9,8,7,5,3,1]),(6,[28,10,9,8,7,5,3,1]),(7,[10,9,8,7,5,3,1]),(8,[39,10,9,8,7,5,3,1]),(9,[6]),(10,[47,9,7,5,3]),(11,[6]),(12,[11,9,7,5,3]),(13,[51,11,9,7,5,3]),(14,[11,9,7,5,3]),(15,[12,11,9,7,5,3]),(16,[63,12,11,9,7,5,3]),(17,[12,11,9,7,5,3]),(18,[12,11,9,7,5,3]),(19,[13,11,9,7,5,3]),(20,[83,13,11,9,7,5,3]),(21,[13,11,9,7,5,3]),(22,[96,13,11,9,7,5,3]),(23,[6]),(24,[6])] [(6,[10,9,8,7,5,3,1]),(13,[11,9,7,5,3]),(16,[12,11,9,7,5,3]),(20,[13,11,9,7,5,3])]),
 (11,Zbd [] [] [] [] [(0,[1,0]),(1,[10,1,0]),(2,[4]),(3,[5,1,0]),(4,[14,5,1,0]),(5,[5,1,0]),(6,[41,5,1,0]),(7,[4]),(8,[4])] [(4,[5,1,0])]),
 (7,Zbd [] [] [] [] [(0,[0]),(1,[3,0]),(2,[4,3,0]),(3,[13,4,3,0]),(4,[4,3,0]),(5,[5,4,3,0]),(6,[5,4,3,0]),(7,[4,3,0]),(8,[2])] [(3,[4,3,0])]),
 (9,Zbd [] [] [(8,31,false)] [] [(0,[]),(1,[1]),(2,[0])] []),
 (35,Zbd [] [] [] [] [(0,[3,2]),(1,[4])] []),
 (29,Zbd [] [] [] [] [(0,[1,0]),(1,[10,1,0]),(2,[4]),(3,[5,1,0]),(4,[14,5,1,0]),(5,[5,1,0]),(6,[26,5,1,0]),(7,[4]),(8,[4])] [(4,[5,1,0])]),
 (26,Zbd [] [] [] [] [(0,[1,0]),(1,[5,1,0]),(2,[18,5,1,0]),(3,[5,1,0]),(4,[32,5,1,0]),(5,[4]),(6,[6,5,1,0]),(7,[4])] [(2,[5,1,0])]),
 (13,Zbd [] [] [] [] [(0,[3,2]),(1,[4])] []),
 (10,Zbd [] [] [] [] [(0,[3,2]),(1,[41,3,2]),(2,[4]),(3,[5,3,2]),(4,[46,5,3,2]),(5,[5,3,2]),(6,[59,5,3,2]),(7,[4]),(8,[4])] [(4,[5,3,2])]),
 (15,Zbd [] [] [] [] [(0,[6,5,3,1]),(1,[7,6,5]),(2,[24,7,6,5]),(3,[7,6]),(4,[6])] []),
 (17,Zbd [] [] [] [] [(0,[4,3,2]),(1,[5,4]),(2,[5,4]),(3,[4])] []),
 (12,Zbd [] [] [] [] [(0,[2,1]),(1,[5,2,1]),(2,[6,5,2,1]),(3,[17,6,5,2,1]),(4,[6,5,2,1]),(5,[41,6,5,2,1]),(6,[6,5,2,1]),(7,[7,5,2,1]),(8,[8,7,5,2,1]),(9,[52,8,7,5,2,1]),(10,[8,7,5,2,1]),(11,[9,8,7,5,2,1]),(12,[11,10,9,8,7,5,2,1]),(13,[12,11,10,9,8,7,5,2,1]),(14,[60,12,11,10,9,8,7,5,2,1]),(15,[12,11,10,9,8,7,5,2,1]),(16,[13,12,11,10,9,8,7,5,2,1]),(17,[90,13,12,11,10,9,8,7,5,2,1]),(18,[95,13,12,11,10,9,8,7,5,2,1]),(19,[13,12,11,10,9,8,7,5,2,1]),(20,[13,12,11,10,9,8,7,5,2,1]),(21,[108,13,12,11,10,9,8,7,5,2,1]),(22,[12,11,10,9,8,7,5,2,1]),(23,[11,9,8,7,5,2,1]),(24,[9,8,7,5,2,1]),(25,[8,7,5,2,1]),(26,[4])] [(3,[6,5,2,1]),(9,[8,7,5,2,1]),(14,[12,11,10,9,8,7,5,2,1])]),
 (28,Zbd [] [] [] [] [(0,[1,0]),(1,[7,1,0]),(2,[4]),(3,[4])] []),
 (27,Zbd [] [] [] [] [(0,[1,0]),(1,[5,1,0]),(2,[18,5,1,0]),(3,[5,1,0]),(4,[6,5,1,0]),(5,[4])] [(2,[5,1,0])]),
 (1000000,{})]
def ann:Nat->Ann:=ZeP {} ZAB
def ZFu:List (Nat×Bool):=[
 (31,true),
 (23,true),
 (11,true),
 (1000000,false)]
def BY:Nat->Bool:=ZeP false ZFu
noncomputable def CF:Nat->Option Zam:=Zic Try.prog ann
noncomputable def FC:Nat->Option Zam:=fun f=>(CF f).map Zjw
def Zy5:List (Nat×Option (List AVal->Za->Option (AVal×Za))):=[
 (36,some (Zfz 1 1)),
 (37,some (Zfz 5 72)),
 (31,some (Zjn)),
 (23,some (ZiV 15 24 ZeE XaZ)),
 (8,some (ZhJ)),
 (22,some (ZhJ)),
 (1000000,none)]
def PR:Zbz:=ZeP none Zy5
theorem xw (c d:Zv) (h:c=d) (m:Nat) (tm:Tms) (σ:Za):evC FC PR BY m c tm σ=evC FC PR BY m d tm σ:=by rw [h]
noncomputable abbrev E:Z7:=EV FC PR BY
theorem ZcU {f:Nat} {fn:Zam} (hp:PR f=none) (hf:FC f=some fn) (args:List AVal) (σ:Za):E f args σ=Za4 σ.length fn (evC FC PR BY σ.length fn.body (enterA 0 args []) σ):=Zq3 hp hf args σ
end
section
open Go.RowKit
inductive Ty where
 | bool
 | int (k:IntKind)
 | str
 | slice (s:Bool) (e:Ty)
 | struct (fs:List Ty)
 deriving Inhabited
def ZdV:Option TypeDesc->Bool
 | some (.struct _)=>true
 | some (.array _ _)=>true
 | _=>false
def Zh3 (P:Program):Nat->List Field->Nat->Bool
 | at',[],n=>at' == n
 | at',f::fs,n=>f.offset == at' && Zh3 P (at'+P.cellsOf f.type) fs n
def ZdL (P:Program):Nat->TypeId->Option Ty
 | 0,_=>none
 | n+1,t=>match P.underlying t with
  | some .bool=>some .bool
  | some (.int k)=>some (.int k)
  | some .string=>some .str
  | some (.slice e)=>if 0 < P.cellsOf e then (ZdL P n e).map (.slice (ZdV (P.underlying e))) else none
  | some (.struct fs)=>if Zh3 P 0 fs.toList (P.cellsOf t) then (fs.toList.mapM fun f=>ZdL P n f.type).map .struct else none
  | _=>none
def Zcz (s:Bool) (y:List AVal):AVal:=if s then .agg y else y.headD .nilp
mutual
def TyC:Ty->List AVal->Prop
 | .bool,xs=>∃ b,xs=[.bool b]
 | .int k,xs=>∃ n,(Lit.int k n).wf=true/\xs=[.int k n]
 | .str,xs=>∃ l:List UInt8,l.length<=9223372036854775807/\xs=[.str l]
 | .slice s e,xs=>∃ ys:List (List AVal),xs=[.lst false (ys.map (Zcz s))]/\ys.length<=9223372036854775807/\∀ y ∈ ys,TyC e y
 | .struct fs,xs=>Zeo fs xs
def Zeo:List Ty->List AVal->Prop
 | [],xs=>xs=[]
 | f::fs,xs=>∃ a b,xs=a++b/\TyC f a/\Zeo fs b
end
def Imm.of (w:World):Imm:=fun b o=>w.cell? ⟨b,o,none⟩
section
variable {H:Type} {enc:TypeId×Value->H} {P:Program} {w:World} {spare:Nat->Bool} {held:Bool}
theorem ZDV {b off:Nat} {s:Option Nat} {u:Value} (h:w.cell? ⟨b,off,s⟩=some u):s=none:=by
 unfold World.cell? at h
 split at h
 ·rcases s with _ | s
  ·rfl
  ·simp at h
 ·cases h
theorem ZFm {s:Bool} {y:List AVal} (h:s=false->y.length=1) (h1:s=false->∀ x ∈ y,Z1 x=true):(Zcz s y).cells=y:=by
 cases s with
 | true=>rfl
 | false =>
  match y,h rfl with
  | [x],_ =>
   have:=h1 rfl x (by simp)
   cases x <;> simp_all [Zcz,AVal.cells,Z1]
theorem ZDc {a:Addr} (h:a.spot=none) (n:Nat):a.add n=⟨a.block,a.off+n,none⟩:=by
 unfold Addr.add
 split
 ·rename_i e;subst e;cases a;simp_all
 ·rfl
theorem ZCc {I:Imm} {β:Bmap} {xs:List AVal} {vs:List Value} {n:Nat} (h:VRs I β xs (vs.take n)) {ys:List AVal} (h':VRs I β ys (vs.drop n)):VRs I β (xs++ys) vs:=by
 have:=Zcu h h'
 rwa [XaP] at this
theorem Zw1 {α β:Type} {f:α->Option β} {a:α} {l:List α} {r:List β} (h:(a::l).mapM f=some r):∃ b r',f a=some b/\l.mapM f=some r'/\r=b::r':=by
 rw [List.mapM_cons] at h
 simp only [Option.bind_eq_bind,Option.bind_eq_some_iff,Option.pure_def,Xa] at h
 obtain ⟨b,h1,r',h2,h3⟩:=h
 exact ⟨b,r',h1,h2,h3.symm⟩
theorem ZB3 {a b:List AVal} (ha:ZaQ a=true) (hb:ZaQ b=true):ZaQ (a++b)=true:=by
 induction a with
 | nil=>exact hb
 | cons x a ih=>simp only [X1,ZaQ,Xt] at ha ⊢;exact ⟨ha.1,ih ha.2⟩
theorem ZvF {n fuel:Nat} {cs:List Value} (ih:∀ (t:TypeId) (cs:List Value) (x:DataW H×List MemPlace) (T:Ty),ZdL P n t=some T->DataW.trod enc P w 0 spare held fuel t cs=some x->∃ xs,TyC T xs/\VRs (Imm.of w) B0 xs cs/\ZaQ xs=true) :
  ∀ (fs:List Field) (at':Nat) (Ts:List Ty) (ys:List (DataW H×List MemPlace)),Zh3 P at' fs cs.length=true->fs.mapM (fun f=>ZdL P n f.type)=some Ts ->
   fs.mapM (fun f=>DataW.trod enc P w 0 spare held fuel f.type ((cs.drop f.offset).take (P.cellsOf f.type)))=some ys->∃ xs,Zeo Ts xs/\VRs (Imm.of w) B0 xs (cs.drop at')/\ZaQ xs=true
 | [],at',Ts,ys,ho,hT,_=>by
  simp only [Zh3,beq_iff_eq] at ho
  simp only [List.mapM_nil,Option.pure_def,Xa] at hT
  subst hT ho
  exact ⟨[],by simp only [Zeo],by simp [VRs],rfl⟩
 | f::fs,at',Ts,ys,ho,hT,h=>by
  simp only [Zh3,Xt,beq_iff_eq] at ho
  obtain ⟨T,Ts',h1,h2,rfl⟩:=Zw1 hT
  obtain ⟨y,ys',h3,h4,rfl⟩:=Zw1 h
  obtain ⟨a,a1,a2,a3⟩:=ih _ _ _ _ h1 h3
  obtain ⟨b,b1,b2,b3⟩:=ZvF ih fs _ _ _ ho.2 h2 h4
  rw [ho.1] at a2
  refine ⟨a++b,by simp only [Zeo];exact ⟨a,b,rfl,a1,b1⟩,ZCc a2 (by rw [List.drop_drop];exact b2),ZB3 a3 b3⟩
theorem ZwH {I:Imm} {β:Bmap} {s:Bool} {k b:Nat}:∀ (n off:Nat) (Y:Nat->List AVal),(∀ i,i < n->(Zcz s (Y i)).cells.length=k/\CR I β (Zcz s (Y i)).cells b (off+i*k))->LR I β k ((W1 n).map fun i=>Zcz s (Y i)) b off
 | 0,off,Y,_=>by simp [LR]
 | n+1,off,Y,h=>by
  rw [List.range_succ_eq_map,Xw,Zgf]
  have h0:=h 0 (by omega)
  simp only [Xbo,Wm] at h0
  refine ⟨h0,?_⟩
  rw [Wy]
  exact ZwH n (off+k) (fun i=>Y (i+1)) (fun i hi=>by
   have:=h (i+1) (by omega)
   rw [show off+k+i*k=off+(i+1)*k by rw [Xbx];omega]
   exact this)
theorem Zye {I:Imm} {β:Bmap} {b:Nat}:∀ (xs:List AVal) (cs:List Value) (off:Nat),VRs I β xs cs->(∀ i,i < cs.length->I b (off+i)=cs[i]?)->CR I β xs b off
 | [],_,_,_,_=>by simp only [CR]
 | x::xs,cs,off,h,hI=>by
  simp only [VRs] at h
  obtain ⟨v,vs',rfl,h1,h2⟩:=h
  simp only [CR]
  refine ⟨⟨v,by have:=hI 0 (by simp);simpa using this,h1⟩,Zye xs vs' (off+1) h2 fun i hi=>?_⟩
  have:=hI (i+1) (by simp;omega)
  rw [show off+1+i=off+(i+1) by omega,this]
  simp
theorem Zrr {s:Bool}:∀ (n:Nat) (Y:Nat->List AVal),(∀ i,i < n->ZaQ (Zcz s (Y i)).cells=true)->Zac ((W1 n).map fun i=>Zcz s (Y i))=true
 | 0,Y,_=>by simp [Zac]
 | n+1,Y,h=>by
  rw [List.range_succ_eq_map,Xw,Zwf,h 0 (by omega),Wy]
  simp only [W3]
  exact Zrr n (fun i=>Y (i+1)) (fun i hi=>h (i+1) (by omega))
theorem ZvQ {xs:List AVal} (h:ZaQ xs=true):∀ x ∈ xs,Z1 x=true:=by
 induction xs with
 | nil=>intro x hx;simp at hx
 | cons y ys ih =>
  simp only [ZaQ,Xt] at h
  intro x hx
  rcases XP.1 hx with rfl | hx
  ·cases x <;> simp_all [ZaT,Z1]
  ·exact ih h.2 x hx
theorem Zza {n:Nat} {e:TypeId} {T:Ty} (hT:ZdL P n e=some T) (hs:ZdV (P.underlying e)=false) {xs:List AVal} (h:TyC T xs):xs.length=1:=by
 cases n with
 | zero=>simp [ZdL] at hT
 | succ n =>
  simp only [ZdL] at hT
  split at hT
  ·injection hT with hT;subst hT;simp only [TyC] at h;obtain ⟨_,rfl⟩:=h;rfl
  ·injection hT with hT;subst hT;simp only [TyC] at h;obtain ⟨_,_,rfl⟩:=h;rfl
  ·injection hT with hT;subst hT;simp only [TyC] at h;obtain ⟨_,_,rfl⟩:=h;rfl
  ·split at hT
   ·simp only [XB] at hT
    obtain ⟨T',_,rfl⟩:=hT
    simp only [TyC] at h;obtain ⟨_,rfl,_⟩:=h;rfl
   ·cases hT
  ·rename_i hu;rw [hu] at hs;simp [ZdV] at hs
  ·cases hT
theorem Zu6:∀ (n fuel:Nat) (t:TypeId) (cs:List Value) (x:DataW H×List MemPlace) (T:Ty),ZdL P n t=some T->DataW.trod enc P w 0 spare held fuel t cs=some x ->
  ∃ xs,TyC T xs/\VRs (Imm.of w) B0 xs cs/\ZaQ xs=true
 | 0,fuel,t,cs,x,T,hT,_=>by simp [ZdL] at hT
 | n+1,0,t,cs,x,T,_,h=>by simp [DataW.trod] at h
 | n+1,fuel+1,t,cs,x,T,hT,h=>by
  have h0:=h
  simp only [ZdL] at hT
  unfold DataW.trod at h
  split at hT
  ·rename_i hu
   injection hT with hT;subst hT
   obtain ⟨b,rfl,_⟩:=DataW.trod_bool hu h0
   exact ⟨[.bool b],by simp only [TyC];exact ⟨b,rfl⟩,by simp [VRs,VR],rfl⟩
  ·rename_i k hu
   injection hT with hT;subst hT
   obtain ⟨n',rfl,_,hk⟩:=DataW.trod_int hu h0
   exact ⟨[.int k n'],by simp only [TyC];exact ⟨n',hk,rfl⟩,by simp [VRs,VR],rfl⟩
  ·rename_i hu
   injection hT with hT;subst hT
   obtain ⟨s,rfl,_,hs⟩:=DataW.trod_string hu h0
   have hs':s.data.toList.length<=9223372036854775807:=by
    rw [X7];exact Nat.le_trans hs (by simp [maxLen])
   exact ⟨[.str s.data.toList],by simp only [TyC];exact ⟨_,hs',rfl⟩,by simp only [VRs,VR];exact ⟨_,_,rfl,⟨by simp,hs'⟩,rfl⟩,rfl⟩
  ·rename_i e hu
   split at hT
   case isFalse=>cases hT
   rename_i hc
   simp only [XB] at hT
   obtain ⟨T,hT,rfl⟩:=hT
   rcases Go.Deep.open_slice hu h0 with ⟨hcs,_⟩ | ⟨a,len,cap,m,n',D,Pl,hcs,_,hl,hm,hmm,_,hi⟩
   ·subst hcs
    exact ⟨[.lst false []],by simp only [TyC];exact ⟨[],by simp,by simp,by simp⟩,by simp only [VRs,VR];exact ⟨_,_,rfl,⟨none,0,rfl,by simp,by simp,by simp,by simp,by simp [Zac]⟩,rfl⟩,rfl⟩
   ·have hlm:len<=m:=by split at hmm <;> omega
    have hspot:0 < len->a.spot=none:=by
     intro h0
     obtain ⟨cs',h1,h2⟩:=hi 0 (by omega)
     obtain ⟨_,h6,h7⟩:=World.cells?_some h1
     have h8:=h7 0 hc
     obtain ⟨u,hu⟩:∃ u,cs'[0]?=some u:=⟨cs'[0]'(by omega),by simp⟩
     rw [hu] at h8
     simp only [Xbo,Addr.add,if_true] at h8
     exact ZDV (b:=a.block) (off:=a.off) (s:=a.spot) (u:=u) h8
    have hall:∀ i,∃ xs,i < len->TyC T xs/\(Zcz (ZdV (P.underlying e)) xs).cells=xs/\xs.length=P.cellsOf e/\CR (Imm.of w) B0 xs a.block (a.off+i*P.cellsOf e)/\ZaQ xs=true:=by
     intro i
     by_cases hlt:i < len
     ·obtain ⟨cs',h1,h2⟩:=hi i (by omega)
      obtain ⟨xs,h3,h4,h5⟩:=Zu6 n n' e cs' _ T hT h2
      obtain ⟨_,h6,h7⟩:=World.cells?_some h1
      have hlen:=Zan h4
      refine ⟨xs,fun _=>⟨h3,ZFm (fun hs=>Zza hT hs h3) (fun _=>ZvQ h5),by omega,Zye xs cs' _ h4 (fun j hj=>?_),h5⟩⟩
      have h8:=h7 j (by omega)
      rw [Go.Deep.add_add,ZDc (hspot (by omega)),<-W2] at h8
      exact h8
     ·exact ⟨[],fun h=>absurd h hlt⟩
    obtain ⟨Y,hY⟩:=Classical.axiomOfChoice hall
    subst hcs
    have hmx:maxLen=9223372036854775807:=by simp [maxLen]
    rw [hmx] at hm
    refine ⟨[.lst false ((W1 len).map fun i=>Zcz (ZdV (P.underlying e)) (Y i))],?_,?_,?_⟩
    ·simp only [TyC]
     refine ⟨(W1 len).map Y,by rw [Wy];rfl,by simp;omega,?_⟩
     intro y hy
     obtain ⟨i,hi',rfl⟩:=XV.1 hy
     exact (hY i (Xat.1 hi')).1
    ·simp only [VRs,VR,XL,List.length_range]
     refine ⟨_,_,rfl,⟨some a,cap,rfl,hl,hm,by simp,?_,Zrr len Y fun i hlt=>by rw [(hY i hlt).2.1];exact (hY i hlt).2.2.2.2⟩,rfl⟩
     cases len with
     | zero=>exact XH (by simp)
     | succ len =>
      refine XO ⟨a.block,a.off,P.cellsOf e,?_,hc,ZwH (len+1) a.off Y fun i hlt=>?_⟩
      ·have:=hspot (by omega)
       cases a;simp_all
      ·rw [(hY i hlt).2.1];exact ⟨(hY i hlt).2.2.1,(hY i hlt).2.2.2.1⟩
    ·simp only [ZaQ,ZaT,Xbh]
     exact Zrr len Y fun i hlt=>by rw [(hY i hlt).2.1];exact (hY i hlt).2.2.2.2
  ·rename_i fs hu
   split at hT
   case isFalse=>cases hT
   rename_i ho
   simp only [XB] at hT
   obtain ⟨Ts,hT,rfl⟩:=hT
   rw [hu] at h
   simp only at h
   split at h
   ·rename_i hl
    simp only [XB] at h
    obtain ⟨ys,hy,rfl⟩:=h
    obtain ⟨xs,h1,h2,h3⟩:=ZvF (fun t cs x T h h'=>Zu6 n fuel t cs x T h h') fs.toList 0 Ts ys (by rw [hl];exact ho) hT hy
    exact ⟨xs,by simp only [TyC];exact h1,h2,h3⟩
   ·cases h
  ·cases hT
def Zkn (s:Bool) (T:Ty) (x:AVal):Prop:=∃ xs,TyC T xs/\x=Zcz s xs
theorem ZuL {n:Nat} {t:TypeId} {v:Value} {d:DataW H} {ps:List MemPlace} {T:Ty} {r:Reach} {b0:Nat} (hT:ZdL P n t=some T) (hv:Value.okWide P w r b0 t v) (h:DataW.Trod enc P w 0 spare held t v d ps) :
  ∃ x,Zkn (ZdV (P.underlying t)) T x/\VR (Imm.of w) B0 x v/\ZaQ x.cells=true:=by
 obtain ⟨fuel,h⟩:=h
 obtain ⟨xs,h1,h2,h3⟩:=Zu6 n fuel t _ _ T hT h
 refine ⟨Zcz (ZdV (P.underlying t)) xs,⟨xs,h1,rfl⟩,?_⟩
 by_cases hs:ZdV (P.underlying t)=true
 ·have : ∃ cs,v=.agg cs:=by
   unfold Value.okWide at hv
   cases hu:P.underlying t with
   | none=>rw [hu] at hs;simp [ZdV] at hs
   | some dd =>
    rw [hu] at hv hs
    cases dd <;> first | (simp [ZdV] at hs;done) | (obtain ⟨cs,e,_⟩:=hv;exact ⟨cs,e⟩)
  obtain ⟨cs,rfl⟩:=this
  rw [hs]
  exact ⟨by simp only [Zcz,if_true,VR];exact ⟨cs,rfl,h2⟩,h3⟩
 ·have hs':ZdV (P.underlying t)=false:=by simpa using hs
  have hl:=Zza hT hs' h1
  have hlen:=Zan h2
  rw [hs']
  match xs,hl with
  | [x],_ =>
   simp only [Zcz,Xu,if_false,List.headD_cons]
   have hvc:v.cells=#[v]:=by
    cases n with
    | zero=>simp [ZdL] at hT
    | succ n =>
     simp only [ZdL] at hT
     split at hT
     ·rename_i hu;obtain ⟨b,rfl⟩:=Go.WideShapes.okWide_bool hu hv;rfl
     ·rename_i k hu;obtain ⟨b,rfl⟩:=Go.WideShapes.okWide_int hu hv;rfl
     ·rename_i hu;obtain ⟨b,rfl⟩:=Go.WideShapes.okWide_string hu hv;rfl
     ·rename_i e hu;obtain ⟨a,l,c,rfl⟩:=Go.WideShapes.okWide_slice hu hv;rfl
     ·rename_i fs hu;rw [hu] at hs';simp [ZdV] at hs'
     ·cases hT
   rw [hvc] at h2
   simp only [VRs] at h2
   obtain ⟨v',vs',e,h2,_⟩:=h2
   simp only [List.cons.injEq] at e
   rw [e.1]
   refine ⟨h2,?_⟩
   have hok:=ZvQ h3 x (by simp)
   have hx:x.cells=[x]:=by cases x <;> first | rfl | (simp [Z1] at hok;done)
   rw [hx];exact h3
theorem Rel.start (w:World) (hG:Gl.le (Imm.of w)):Rel (fun b=>b < w.heap.size) w (Imm.of w) (Imm.of w) B0 [] w where
 below:=KB.refl _ w
 old:=fun _ _ _=>rfl
 imm:=fun _ _ _ h=>h
 blk:=fun t x h=>by simp at h
 own:=fun t x b h=>by simp at h
 apart:=fun t x t' x' b h=>by simp at h
 fresh:=fun _ _ _=>rfl
 free:=fun t g h=>by simp at h
 gen:=fun t b g h=>by simp at h
 glob:=hG
 ro:=fun t x b h=>by simp at h
theorem ZFh {O:Z7} (hO:ZaF P O) {f:Nat} {args:List AVal} {vs:Array Value} {σ':Za} (hG:Gl.le (Imm.of w)) (hargs:VRs (Imm.of w) B0 args vs.toList) (h:O f args []=some (.bool true,σ')) :
  Calls P f vs w (fun e w'=>e=.returned (.bool true)/\Below w.heap.size w w'):=by
 refine ((hO f args [] _ _ h).2 _ w _ _ B0 w vs (fun b hb=>hb) (Rel.start w hG) hargs).mono ?_
 rintro e w' ⟨u,he,I',β',_,_,R,hv⟩
 simp only [ZaN,VR] at hv
 subst hv
 exact ⟨he,R.below.os,R.below.tape,R.below.output,R.below.size,R.below.block⟩
end
end
section
open Go.Shelf
def ZFW:Ren:=⟨fun | 189=>31 | 125=>33 | 257=>38 | 128=>47 | 129=>48 | 294=>50 | 295=>51 | 296=>52 | 297=>53 | 298=>54 | 299=>55 | 216=>56 | 300=>57 | 301=>58 | 328=>64 | 329=>60 | 330=>61 | 331=>65 | 332=>66 | 215=>67 | 343=>69 | n=>n,fun | 28=>25 | 3=>3 | 46=>76 | 0=>0 | 51=>90 | 53=>92 | 4=>4 | 183=>83 | 182=>82 | 131=>87 | 5=>5 | 9=>9 | 218=>99 | 222=>103 | 228=>108 | 229=>109 | n=>n,fun | n=>n⟩
theorem Zxm:Go.Proofs.Lays.n189 Try.prog ZFW:={ mixed:=by kernel_rfl,f125:=Try.func33.trans (congrArg some (by kernel_rfl)),f128:=Try.func47.trans (congrArg some (by kernel_rfl)),f129:=Try.func48.trans (congrArg some (by kernel_rfl)),f189:=Try.func31.trans (congrArg some (by kernel_rfl)),f215:=Try.func67.trans (congrArg some (by kernel_rfl)),f216:=Try.func56.trans (congrArg some (by kernel_rfl)),f257:=Try.func38.trans (congrArg some (by kernel_rfl)),f294:=Try.func50.trans (congrArg some (by kernel_rfl)),f295:=Try.func51.trans (congrArg some (by kernel_rfl)),f296:=Try.func52.trans (congrArg some (by kernel_rfl)),f297:=Try.func53.trans (congrArg some (by kernel_rfl)),f298:=Try.func54.trans (congrArg some (by kernel_rfl)),f299:=Try.func55.trans (congrArg some (by kernel_rfl)),f300:=Try.func57.trans (congrArg some (by kernel_rfl)),f301:=Try.func58.trans (congrArg some (by kernel_rfl)),f328:=Try.func64.trans (congrArg some (by kernel_rfl)),f329:=Try.func60.trans (congrArg some (by kernel_rfl)),f330:=Try.func61.trans (congrArg some (by kernel_rfl)),f331:=Try.func65.trans (congrArg some (by kernel_rfl)),f332:=Try.func66.trans (congrArg some (by kernel_rfl)),f343:=Try.func69.trans (congrArg some (by kernel_rfl)),t0:=Try.underlying0,a0:=Try.isAgg0,z0:=Try.sizeOf0,v0:=Try.zeroValue0,t3:=Try.underlying3,a3:=Try.isAgg3,z3:=Try.sizeOf3,v3:=Try.zeroValue3,t4:=Try.underlying4,a4:=Try.isAgg4,z4:=Try.sizeOf4,v4:=Try.zeroValue4,t5:=Try.underlying5,a5:=Try.isAgg5,z5:=Try.sizeOf5,v5:=Try.zeroValue5,t9:=Try.underlying9,a9:=Try.isAgg9,z9:=Try.sizeOf9,v9:=Try.zeroValue9,t28:=Try.underlying25,a28:=Try.isAgg25,z28:=Try.sizeOf25,v28:=Try.zeroValue25,t46:=Try.underlying76,a46:=Try.isAgg76,z46:=Try.sizeOf76,v46:=Try.zeroValue76,t51:=Try.underlying90,a51:=Try.isAgg90,z51:=Try.sizeOf90,v51:=Try.zeroValue90,t53:=Try.underlying92,a53:=Try.isAgg92,z53:=Try.sizeOf92,v53:=Try.zeroValue92,t131:=Try.underlying87,a131:=Try.isAgg87,z131:=Try.sizeOf87,v131:=Try.zeroValue87,t182:=Try.underlying82,a182:=Try.isAgg82,z182:=Try.sizeOf82,v182:=Try.zeroValue82,t183:=Try.underlying83,a183:=Try.isAgg83,z183:=Try.sizeOf83,v183:=Try.zeroValue83,t218:=Try.underlying99,a218:=Try.isAgg99,z218:=Try.sizeOf99,v218:=Try.zeroValue99,t222:=Try.underlying103,a222:=Try.isAgg103,z222:=Try.sizeOf103,v222:=Try.zeroValue103,t228:=Try.underlying108,a228:=Try.isAgg108,z228:=Try.sizeOf108,v228:=Try.zeroValue108,t229:=Try.underlying109,a229:=Try.isAgg109,z229:=Try.sizeOf109,v229:=Try.zeroValue109 }
end
section
set_option maxRecDepth 100000
theorem Zhy:Try.prog.follows .mixedOrders=true:=by kernel_rfl
theorem ZBk:ZkH Try.prog 22 1 1 (.int .u8 0) 36:=⟨_,_,_,_,_,_,_,_,_,_,_,rfl,rfl,rfl,by kernel_rfl,rfl,rfl,rfl,rfl,rfl,rfl,rfl,rfl,by kernel_rfl,by kernel_rfl,⟨_,_,_,_,rfl⟩,rfl,by decide⟩
theorem ZDw:ZkH Try.prog 29 5 72 (.agg [.int .i64 0,.int .i64 0,.str [],.str [],.lst true []]) 37:=⟨_,_,_,_,_,_,_,_,_,_,_,rfl,rfl,rfl,by kernel_rfl,rfl,rfl,rfl,rfl,rfl,rfl,rfl,rfl,by kernel_rfl,by kernel_rfl,⟨_,_,_,_,rfl⟩,rfl,by decide⟩
theorem Zwl {α:Type} {d v:α}:∀ {l:List (Nat×α)} {n:Nat},ZeP d l n=v->v=d\/(n,v) ∈ l
 | [],n,h=>XH h.symm
 | (k,w)::r,n,h=>by
  simp only [ZeP] at h
  split at h
  ·rename_i e;subst e h;exact XO (by simp)
  ·rcases Zwl h with h | h
   ·exact XH h
   ·exact XO (by simp [h])
theorem Ztq:ZgP Try.prog PR:=by
 intro f g h args σ r σ' hg
 rcases Zwl h with h | h
 ·cases h
 unfold Zy5 at h
 simp only [XP,Xb,Xa,List.not_mem_nil,or_false] at h
 rcases h with ⟨rfl,rfl⟩ | h
 ·exact ZxR Zhy ZBk hg
 rcases h with ⟨rfl,rfl⟩ | h
 ·exact ZxR Zhy ZDw hg
 rcases h with ⟨rfl,rfl⟩ | h
 ·exact ZFl ⟨Try.f31,Try.func31,by kernel_rfl,by kernel_rfl⟩ (fun blk off cap zs w=>Any.slices_Sort_int Zxm blk off cap zs w) (fun p cap w=>Any.slices_Sort_int_none Zxm p cap w) hg
 rcases h with ⟨rfl,rfl⟩ | h
 ·exact ZDZ hg
 rcases h with ⟨rfl,rfl⟩ | h
 ·exact ZyK hg
 rcases h with ⟨rfl,rfl⟩ | h
 ·exact ZyK hg
 exact absurd h.2 (by simp)
end
section
def ZqF:Zv:=(.seq (.region [oI 3 (.box (.t 0)),oI 5 (.box (.t 2)),oI 6 (.alloc [(.str []),(.lst true []),(.int .i64 0),(.bool false),(.str []),(.int .i64 0),(.lst true []),(.int .i64 0),(.int .i64 0),(.int .i64 0),(.int .i64 0),(.bool false),(.lst true []),(.str [])])] none [6,5,3,1]) (.seq (.region [oI 8 (.ld (some 10) (.t 3)),oI 9 (.ld (some 6) (.t 5)),oI 10 (.bslice false 6 1 (.agg [(.str []),(.int .i64 0),(.bool false),(.bool false),(.int .i64 0),(.int .i64 0)]) [(0,(.t 9))]),oI 11 (.call 22 0 true [(.t 8),(.t 10)]),oI 7 (.alloc [(.str []),(.lst true []),(.int .i64 0),(.bool false),(.str []),(.int .i64 0),(.lst true []),(.int .i64 0),(.int .i64 0),(.int .i64 0),(.int .i64 0),(.bool false),(.lst true []),(.str [])]),oN (.st 14 (.t 7) (.t 11))] none [7,6,5,3,1]) (.seq (.region [oF 12 2 3,oL 13 12,oF 14 1 5,oL 15 14,oI 16 (.mm false [(.t 13),(.t 15)]),oF 17 10 7,oN (.st 1 (.t 17) (.t 16))] none [7,6,1]) (.seq (.region [oM 18 1,oF 19 13 7,oN (.st 1 (.t 19) (.t 18))] none [7,6]) (.seq (.region [oI 20 (.ld (some 14) (.t 7)),oN (.st 14 (.t 6) (.t 20))] none [6]) .ret)))))
def Zpr:Zam:=⟨[(.cell 6 (some 14))],ZqF⟩
theorem ZDB:FC 14=some Zpr:=by kernel_rfl
theorem ZEF:Zpr.body=ZqF:=rfl
theorem ZBI:Zpr.res=[(.cell 6 (some 14))]:=rfl
def ZpZ:Zv:=(.seq (.region [oI 2 (.box (.t 0)),oI 3 (.box (.t 1)),oI 4 (.alloc [(.str []),(.lst true []),(.int .i64 0),(.bool false),(.str []),(.int .i64 0),(.lst true []),(.int .i64 0),(.int .i64 0),(.int .i64 0),(.int .i64 0),(.bool false),(.lst true []),(.str [])])] none [4,3,2]) (.seq (.region [oI 6 (.ld (some 10) (.t 2)),oI 7 (.ld (some 6) (.t 3)),oI 8 (.call 14 0 true [(.t 6),(.c (.str [])),(.t 7)]),oI 5 (.alloc [(.str []),(.lst true []),(.int .i64 0),(.bool false),(.str []),(.int .i64 0),(.lst true []),(.int .i64 0),(.int .i64 0),(.int .i64 0),(.int .i64 0),(.bool false),(.lst true []),(.str [])]),oN (.st 14 (.t 5) (.t 8))] none [5,4]) (.seq (.region [oF 9 11 5,oN (.st 1 (.t 9) (.c (.bool true)))] none [5,4]) (.seq (.region [oI 10 (.ld (some 14) (.t 5)),oN (.st 14 (.t 4) (.t 10))] none [4]) .ret))))
def Zod:Zam:=⟨[(.cell 4 (some 14))],ZpZ⟩
theorem ZBB:FC 16=some Zod:=by kernel_rfl
theorem ZFB:Zod.body=ZpZ:=rfl
theorem ZFz:Zod.res=[(.cell 4 (some 14))]:=rfl
def Zbs:Zv:=(.seq (.region [oF 48 2 2,oL 49 48,oM 50 6,oI 51 (.mm false [(.t 49),(.t 50)]),oF 52 10 5,oN (.st 1 (.t 52) (.t 51))] none [5,4]) (.seq (.region [oF 53 12 5,oL 54 53,oI 55 (.call 31 0 true [(.t 54)])] none [5,4]) (.seq (.region [oI 56 (.ld (some 14) (.t 5)),oN (.st 14 (.t 4) (.t 56))] none [4]) .ret)))
def ZjW:Zv:=Zbs
def ZbY:=xw ZjW Zbs rfl
def Zbu:Zv:=(.seq (.region [oI 19 (.bin .lss (.t 18) (.t 17))] none [19,18,17,16,6,5,4,2]) (.seq (.cond (.t 19) .skip (.exit 0)) (.seq (.block 1 (.seq (.region [oI 20 (.iaddr 6 (.t 16) (.t 18)),oI 21 (.ld (some 6) (.t 20)),oI 8 (.alloc [(.str []),(.int .i64 0),(.bool false),(.bool false),(.int .i64 0),(.int .i64 0)]),oN (.st 6 (.t 8) (.t 21))] none [18,17,16,8,6,5,4,2]) (.seq (.region [oM 22 6,oF 23 1 8,oL 24 23,oI 25 (.mm true [(.t 22),(.t 24)]),oM 6 25] none [18,17,16,8,6,5,4,2]) (.seq (.region [oF 26 11 5,oL 27 26,oM 28 27,⟨(some 29),(.faddr 3 (.t 2)),(some (28,false)),[]⟩,⟨(some 30),(.ld none (.t 29)),(some (28,false)),[]⟩,⟨(some 31),(.mov (.t 30)),(some (28,false)),[]⟩,⟨(some 32),(.faddr 3 (.t 8)),(some (31,true)),[]⟩,⟨(some 33),(.ld none (.t 32)),(some (31,true)),[]⟩,⟨(some 34),(.pick (.t 31) (.t 33) (.c (.bool false))),(some (28,false)),[]⟩,oI 35 (.pick (.t 28) (.c (.bool true)) (.t 34)),oF 36 11 5,oN (.st 1 (.t 36) (.t 35))] none [18,17,16,8,6,5,4,2]) (.seq (.region [oF 37 5 8,oL 38 37,oI 39 (.bin .neq (.t 38) (.c (.int .i64 0)))] none [39,18,17,16,8,6,5,4,2]) (.cond (.t 39) (.region [oF 40 12 5,oL 41 40,oF 42 5 8,oL 43 42,oI 44 (.bslice false 1 1 (.int .i64 0) [(0,(.t 43))]),oI 45 (.app 1 8 (.int .i64 0) (.t 41) (.t 44)),oF 46 12 5,oN (.st 1 (.t 46) (.t 45))] none [18,17,16,6,5,4,2]) .skip)))))) (.region [oI 47 (.bin .add (.t 18) (.c (.int .i64 1))),oM 18 47] none [18,17,16,6,5,4,2]))))
def ZjF:Zv:=Zbu
def ZbU:=xw ZjF Zbu rfl
def ZbH:Zv:=(.seq (.region [oI 2 (.box (.t 0)),oI 4 (.alloc [(.str []),(.lst true []),(.int .i64 0),(.bool false),(.str []),(.int .i64 0),(.lst true []),(.int .i64 0),(.int .i64 0),(.int .i64 0),(.int .i64 0),(.bool false),(.lst true []),(.str [])])] none [4,2,1]) (.seq (.region [oI 9 (.ld (some 10) (.t 2)),oI 10 (.call 30 2 false [(.t 9)]),oI 11 (.build [(.str []),(.lst true []),(.int .i64 0),(.bool false),(.str []),(.int .i64 0),(.lst true []),(.int .i64 0),(.int .i64 0),(.int .i64 0),(.int .i64 0),(.bool false),(.lst true []),(.str [])] [(0,10,(.t 10))]),oI 5 (.alloc [(.str []),(.lst true []),(.int .i64 0),(.bool false),(.str []),(.int .i64 0),(.lst true []),(.int .i64 0),(.int .i64 0),(.int .i64 0),(.int .i64 0),(.bool false),(.lst true []),(.str [])]),oN (.st 14 (.t 5) (.t 11))] none [5,4,2,1]) (.seq (.region [oM 12 1,oI 13 (.iaddr 6 (.t 12) (.c (.int .i64 0))),oF 14 1 13,oL 15 14,oM 6 15] none [6,5,4,2,1]) (.seq (.seq (.region [oM 16 1,oI 17 (.len (.t 16)),oI 18 (.mov (.c (.int .i64 0)))] none [18,17,16,6,5,4,2]) (.block 0 (.loop [18,17,16,6,5,4,2] ZjF))) ZjW))))
def Zj8:Zam:=⟨[(.cell 4 (some 14))],ZbH⟩
theorem ZBn:FC 22=some Zj8:=by kernel_rfl
theorem ZbW:Zj8.body=ZbH:=rfl
theorem ZbX:Zj8.res=[(.cell 4 (some 14))]:=rfl
def ZiB:Zv:=(.seq (.region [oI 31 (.ld (some 10) (.t 1)),oN (.st 10 (.t 2) (.t 31))] none [2]) .ret)
def Zsl:Zv:=ZiB
def Zu3:=xw Zsl ZiB rfl
def Ziz:Zv:=(.seq (.region [oI 16 (.bin .lss (.t 15) (.t 14))] none [16,15,14,2,1]) (.seq (.cond (.t 16) .skip (.exit 0)) (.seq (.block 1 (.seq (.region [oM 17 15,oM 3 17] none [15,14,3,2,1]) (.region [oF 18 6 1,oL 19 18,oM 20 3,oF 21 6 1,oL 22 21,oM 23 3,oI 24 (.iaddr 5 (.t 22) (.t 23)),oF 25 4 24,oL 26 25,oI 27 (.call 36 0 true [(.t 26)]),oI 28 (.iaddr 5 (.t 19) (.t 20)),oF 29 4 28,oN (.st 1 (.t 29) (.t 27))] (some [(1,4),(1,6),(1,8),(1,9),(9,9)]) [15,14,2,1]))) (.region [oI 30 (.bin .add (.t 15) (.c (.int .i64 1))),oM 15 30] none [15,14,2,1]))))
def Zor:Zv:=Ziz
def ZnY:=xw Zor Ziz rfl
def ZhO:Zv:=(.seq (.region [oI 1 (.box (.t 0)),oI 2 (.alloc [(.str []),(.lst true []),(.int .i64 0),(.bool false),(.str []),(.int .i64 0),(.lst true []),(.int .i64 0),(.int .i64 0),(.int .i64 0)])] none [2,1]) (.seq (.region [oF 4 1 1,oL 5 4,oI 6 (.call 36 1 false [(.t 5)]),oF 7 1 1,oN (.st 1 (.t 7) (.t 6))] none [2,1]) (.seq (.region [oF 8 6 1,oL 9 8,oI 10 (.call 37 1 false [(.t 9)]),oF 11 6 1,oN (.st 1 (.t 11) (.t 10))] none [2,1]) (.seq (.seq (.region [oF 12 6 1,oL 13 12,oI 14 (.len (.t 13)),oI 15 (.mov (.c (.int .i64 0)))] none [15,14,2,1]) (.block 0 (.loop [15,14,2,1] Zor))) Zsl))))
def Zko:Zam:=⟨[(.cell 2 (some 10))],ZhO⟩
theorem ZEJ:FC 30=some Zko:=by kernel_rfl
theorem Zla:Zko.body=ZhO:=rfl
theorem Zqr:Zko.res=[(.cell 2 (some 10))]:=rfl
noncomputable def ZjR (m:Nat) (tm:Tms) (σ:Za):Option (AVal×Za):=(Za4 m Zko (ZcK FC PR BY m Zsl (Xah (Zbt 0) (evL FC PR BY m [15,14,2,1] Zor tm σ))))
def Ztb:Zv:=(.seq (.region [oI 3 (.box (.t 0)),oI 5 (.box (.t 2)),oI 6 (.alloc [(.str []),(.lst true []),(.int .i64 0),(.bool false),(.str []),(.int .i64 0),(.lst true []),(.int .i64 0),(.int .i64 0),(.int .i64 0),(.int .i64 0),(.bool false),(.lst true []),(.str [])])] none [6,5,3,1]) (.seq (.region [oI 8 (.ld (some 10) (.t 3)),oF 9 2 3,oL 10 9,oF 11 1 5,oL 12 11,oI 13 (.call 28 0 true [(.t 10),(.t 12)]),oF 14 3 3,oL 15 14,oM 16 15,⟨(some 17),(.faddr 3 (.t 5)),(some (16,true)),[]⟩,⟨(some 18),(.ld none (.t 17)),(some (16,true)),[]⟩,oI 19 (.pick (.t 16) (.t 18) (.c (.bool false))),oM 20 1,oI 21 (.build [(.str []),(.lst true []),(.int .i64 0),(.bool false),(.str []),(.int .i64 0),(.lst true []),(.int .i64 0),(.int .i64 0),(.int .i64 0),(.int .i64 0),(.bool false),(.lst true []),(.str [])] [(0,10,(.t 8)),(10,1,(.t 13)),(11,1,(.t 19)),(13,1,(.t 20))]),oI 7 (.alloc [(.str []),(.lst true []),(.int .i64 0),(.bool false),(.str []),(.int .i64 0),(.lst true []),(.int .i64 0),(.int .i64 0),(.int .i64 0),(.int .i64 0),(.bool false),(.lst true []),(.str [])]),oN (.st 14 (.t 7) (.t 21))] (some [(0,2),(0,4),(2,4),(0,5),(0,7),(2,7),(4,7),(5,7),(0,10),(0,14),(2,14),(4,14),(5,14),(7,14),(10,14)]) [7,6,5]) (.seq (.seq (.region [oF 22 5 5,oL 23 22,oI 24 (.bin .neq (.t 23) (.c (.int .i64 0)))] none [24,7,6,5]) (.cond (.t 24) (.region [oF 25 5 5,oL 26 25,oI 27 (.bslice false 1 1 (.int .i64 0) [(0,(.t 26))]),oF 28 12 7,oN (.st 1 (.t 28) (.t 27))] none [7,6]) .skip)) (.seq (.region [oI 29 (.ld (some 14) (.t 7)),oN (.st 14 (.t 6) (.t 29))] none [6]) .ret))))
def ZnT:Zam:=⟨[(.cell 6 (some 14))],Ztb⟩
theorem ZCD:FC 15=some ZnT:=by kernel_rfl
theorem ZDT:ZnT.body=Ztb:=rfl
theorem ZCH:ZnT.res=[(.cell 6 (some 14))]:=rfl
def Zly:Zv:=(.seq (.region [oI 2 (.box (.t 0)),oI 3 (.box (.t 1)),oI 4 (.alloc [(.str []),(.lst true []),(.int .i64 0),(.bool false),(.str []),(.int .i64 0),(.lst true []),(.int .i64 0),(.int .i64 0),(.int .i64 0),(.int .i64 0),(.bool false),(.lst true []),(.str [])])] none [4,3,2]) (.seq (.region [oI 6 (.ld (some 10) (.t 2)),oI 7 (.ld (some 6) (.t 3)),oI 8 (.call 15 0 true [(.t 6),(.c (.str [])),(.t 7)]),oI 5 (.alloc [(.str []),(.lst true []),(.int .i64 0),(.bool false),(.str []),(.int .i64 0),(.lst true []),(.int .i64 0),(.int .i64 0),(.int .i64 0),(.int .i64 0),(.bool false),(.lst true []),(.str [])]),oN (.st 14 (.t 5) (.t 8))] none [5,4]) (.seq (.region [oF 9 11 5,oN (.st 1 (.t 9) (.c (.bool true)))] none [5,4]) (.seq (.region [oI 10 (.ld (some 14) (.t 5)),oN (.st 14 (.t 4) (.t 10))] none [4]) .ret))))
def Zp7:Zam:=⟨[(.cell 4 (some 14))],Zly⟩
theorem ZCx:FC 17=some Zp7:=by kernel_rfl
theorem ZC5:Zp7.body=Zly:=rfl
theorem ZBN:Zp7.res=[(.cell 4 (some 14))]:=rfl
def ZbL:Zv:=(.seq (.region [oM 136 7,oM 4 136] none [4]) .ret)
def ZwJ:Zv:=ZbL
def Zch:=xw ZwJ ZbL rfl
def ZbK:Zv:=(.region [oM 53 8,oI 54 (.bin .add (.t 53) (.c (.int .i64 1))),oM 8 54] none [8,7,5,2,1])
def ZxK:Zv:=ZbK
def Zb8:=xw ZxK ZbK rfl
def ZbO:Zv:=(.seq (.region [oF 116 2 2,oL 117 116,oM 118 10,oI 119 (.call 28 0 true [(.t 117),(.t 118)]),oF 120 10 9,oN (.st 1 (.t 120) (.t 119))] none [11,9,8,7,5,2,1]) (.seq (.region [oF 121 3 2,oL 122 121,oM 123 122,⟨(some 124),(.mov (.t 11)),(some (123,true)),[]⟩,oI 125 (.pick (.t 123) (.t 124) (.c (.bool false))),oF 126 11 9,oN (.st 1 (.t 126) (.t 125))] none [9,8,7,5,2,1]) (.region [oM 127 7,oM 128 5,oM 129 8,oI 130 (.iaddr 1 (.t 128) (.t 129)),oL 131 130,oI 132 (.ld (some 14) (.t 9)),oI 133 (.build [(.str []),(.str []),(.lst true []),(.int .i64 0),(.bool false),(.str []),(.int .i64 0),(.lst true []),(.int .i64 0),(.int .i64 0),(.int .i64 0),(.int .i64 0),(.bool false),(.lst true []),(.str [])] [(0,1,(.t 131)),(1,14,(.t 132))]),oI 134 (.bslice false 15 1 (.agg [(.str []),(.str []),(.lst true []),(.int .i64 0),(.bool false),(.str []),(.int .i64 0),(.lst true []),(.int .i64 0),(.int .i64 0),(.int .i64 0),(.int .i64 0),(.bool false),(.lst true []),(.str [])]) [(0,(.t 133))]),oI 135 (.app 15 200 (.agg [(.str []),(.str []),(.lst true []),(.int .i64 0),(.bool false),(.str []),(.int .i64 0),(.lst true []),(.int .i64 0),(.int .i64 0),(.int .i64 0),(.int .i64 0),(.bool false),(.lst true []),(.str [])]) (.t 127) (.t 134)),oM 7 135] (some [(3,5),(4,5)]) [8,7,5,2,1])))
def Zzy:Zv:=ZbO
def Zcg:=xw Zzy ZbO rfl
def ZbN:Zv:=(.seq (.seq (.region [oM 57 12,oM 58 1,oI 59 (.len (.t 58)),oI 60 (.bin .lss (.t 57) (.t 59))] none [60,12,11,10,9,8,7,5,2,1]) (.cond (.t 60) .skip (.exit 4))) (.seq (.block 5 (.seq (.region [oM 63 1,oM 64 12,oI 65 (.iaddr 7 (.t 63) (.t 64)),oI 66 (.ld (some 7) (.t 65)),oI 13 (.alloc [(.str []),(.str []),(.int .i64 0),(.bool false),(.bool false),(.int .i64 0),(.int .i64 0)]),oN (.st 7 (.t 13) (.t 66))] none [13,12,11,10,9,8,7,5,2,1]) (.seq (.seq (.region [oF 67 0 13,oL 68 67,oM 69 5,oM 70 8,oI 71 (.iaddr 1 (.t 69) (.t 70)),oL 72 71,oI 73 (.bin .neq (.t 68) (.t 72)),oM 74 73,⟨(some 75),(.faddr 1 (.t 13)),(some (74,false)),[]⟩,⟨(some 76),(.faddr 2 (.t 75)),(some (74,false)),[]⟩,⟨(some 77),(.ld none (.t 76)),(some (74,false)),[]⟩,⟨(some 78),(.mov (.t 77)),(some (74,false)),[]⟩,⟨(some 79),(.faddr 4 (.t 2)),(some (78,true)),[]⟩,⟨(some 80),(.ld none (.t 79)),(some (78,true)),[]⟩,⟨(some 81),(.bin .neq (.t 80) (.c (.str []))),(some (78,true)),[]⟩,⟨(some 82),(.pick (.t 78) (.t 81) (.c (.bool false))),(some (74,false)),[]⟩,⟨(some 83),(.mov (.t 82)),(some (74,false)),[]⟩,⟨(some 84),(.faddr 0 (.t 13)),(some (83,true)),[]⟩,⟨(some 85),(.ld none (.t 84)),(some (83,true)),[]⟩,⟨(some 86),(.faddr 4 (.t 2)),(some (83,true)),[]⟩,⟨(some 87),(.ld none (.t 86)),(some (83,true)),[]⟩,⟨(some 88),(.bin .eql (.t 85) (.t 87)),(some (83,true)),[]⟩,⟨(some 89),(.pick (.t 83) (.t 88) (.c (.bool false))),(some (74,false)),[]⟩,oI 90 (.pick (.t 74) (.c (.bool true)) (.t 89))] (some [(1,4),(1,5),(18,20)]) [90,13,12,11,10,9,8,7,5,2,1]) (.cond (.t 90) (.exit 5) .skip)) (.seq (.seq (.region [oF 91 1 13,oF 92 1 91,oL 93 92,oM 94 10,oI 95 (.bin .gtr (.t 93) (.t 94))] none [95,13,12,11,10,9,8,7,5,2,1]) (.cond (.t 95) (.region [oF 96 1 13,oF 97 1 96,oL 98 97,oM 10 98] none [13,12,11,10,9,8,7,5,2,1]) .skip)) (.seq (.region [oM 99 11,oM 100 99,⟨(some 101),(.faddr 1 (.t 13)),(some (100,false)),[]⟩,⟨(some 102),(.faddr 3 (.t 101)),(some (100,false)),[]⟩,⟨(some 103),(.ld none (.t 102)),(some (100,false)),[]⟩,oI 104 (.pick (.t 100) (.c (.bool true)) (.t 103)),oM 11 104] none [13,12,11,10,9,8,7,5,2,1]) (.seq (.region [oF 105 1 13,oF 106 5 105,oL 107 106,oI 108 (.bin .neq (.t 107) (.c (.int .i64 0)))] none [108,13,12,11,10,9,8,7,5,2,1]) (.cond (.t 108) (.region [oF 109 12 9,oL 110 109,oF 111 1 13,oF 112 5 111,oL 113 112,oI 114 (.call 27 0 true [(.t 110),(.t 113)]),oF 115 12 9,oN (.st 1 (.t 115) (.t 114))] none [12,11,10,9,8,7,5,2,1]) .skip))))))) (.region [oM 61 12,oI 62 (.bin .add (.t 61) (.c (.int .i64 1))),oM 12 62] none [12,11,10,9,8,7,5,2,1])))
def ZmI:Zv:=ZbN
def Zb6:=xw ZmI ZbN rfl
def ZbS:Zv:=(.seq (.seq (.region [oM 49 8,oM 50 5,oI 51 (.len (.t 50)),oI 52 (.bin .lss (.t 49) (.t 51))] none [52,8,7,5,2,1]) (.cond (.t 52) .skip (.exit 2))) (.seq (.block 3 (.seq (.region [oI 55 (.ld (some 10) (.t 2)),oI 56 (.build [(.str []),(.lst true []),(.int .i64 0),(.bool false),(.str []),(.int .i64 0),(.lst true []),(.int .i64 0),(.int .i64 0),(.int .i64 0),(.int .i64 0),(.bool false),(.lst true []),(.str [])] [(0,10,(.t 55))]),oI 9 (.alloc [(.str []),(.lst true []),(.int .i64 0),(.bool false),(.str []),(.int .i64 0),(.lst true []),(.int .i64 0),(.int .i64 0),(.int .i64 0),(.int .i64 0),(.bool false),(.lst true []),(.str [])]),oN (.st 14 (.t 9) (.t 56))] none [9,8,7,5,2,1]) (.seq (.region [oI 10 (.mov (.c (.int .i64 0))),oI 11 (.mov (.c (.bool false)))] none [11,10,9,8,7,5,2,1]) (.seq (.seq (.region [oI 12 (.mov (.c (.int .i64 0)))] none [12,11,10,9,8,7,5,2,1]) (.block 4 (.loop [12,11,10,9,8,7,5,2,1] ZmI))) Zzy)))) ZxK))
def Zp3:Zv:=ZbS
def Zb3:=xw Zp3 ZbS rfl
def ZbT:Zv:=(.seq (.region [oI 7 (.mov (.c (.lst true [])))] none [7,5,2,1]) (.seq (.seq (.region [oI 8 (.mov (.c (.int .i64 0)))] none [8,7,5,2,1]) (.block 2 (.loop [8,7,5,2,1] Zp3))) ZwJ))
def ZvR:Zv:=ZbT
def Zcj:=xw ZvR ZbT rfl
def ZbR:Zv:=(.seq (.seq (.region [oM 14 6,oM 15 1,oI 16 (.len (.t 15)),oI 17 (.bin .lss (.t 14) (.t 16))] none [17,6,5,2,1]) (.cond (.t 17) .skip (.exit 0))) (.seq (.block 1 (.seq (.region [oM 20 1,oM 21 6,oI 22 (.iaddr 7 (.t 20) (.t 21)),oF 23 1 22,oF 24 2 23,oL 25 24,oM 26 25,⟨(some 27),(.faddr 4 (.t 2)),(some (26,true)),[]⟩,⟨(some 28),(.ld none (.t 27)),(some (26,true)),[]⟩,⟨(some 29),(.bin .neq (.t 28) (.c (.str []))),(some (26,true)),[]⟩,oI 30 (.pick (.t 26) (.t 29) (.c (.bool false))),oM 31 30,⟨(some 32),(.mov (.t 1)),(some (31,true)),[]⟩,⟨(some 33),(.mov (.t 6)),(some (31,true)),[]⟩,⟨(some 34),(.iaddr 7 (.t 32) (.t 33)),(some (31,true)),[]⟩,⟨(some 35),(.faddr 0 (.t 34)),(some (31,true)),[]⟩,⟨(some 36),(.ld none (.t 35)),(some (31,true)),[]⟩,⟨(some 37),(.faddr 4 (.t 2)),(some (31,true)),[]⟩,⟨(some 38),(.ld none (.t 37)),(some (31,true)),[]⟩,⟨(some 39),(.bin .eql (.t 36) (.t 38)),(some (31,true)),[]⟩,oI 40 (.pick (.t 31) (.t 39) (.c (.bool false))),oI 41 (.un .not (.t 40))] (some [(14,18),(16,18)]) [41,6,5,2,1]) (.cond (.t 41) (.region [oM 42 5,oM 43 1,oM 44 6,oI 45 (.iaddr 7 (.t 43) (.t 44)),oF 46 0 45,oL 47 46,oI 48 (.call 26 0 true [(.t 42),(.t 47)]),oM 5 48] none [6,5,2,1]) .skip))) (.region [oM 18 6,oI 19 (.bin .add (.t 18) (.c (.int .i64 1))),oM 6 19] none [6,5,2,1])))
def ZpK:Zv:=ZbR
def Zcf:=xw ZpK ZbR rfl
def ZbP:Zv:=(.seq (.region [oI 2 (.box (.t 0)),oI 4 (.mov (.c (.lst true [])))] none [2,1]) (.seq (.region [oI 5 (.mov (.c (.lst true [])))] none [5,2,1]) (.seq (.seq (.region [oI 6 (.mov (.c (.int .i64 0)))] none [6,5,2,1]) (.block 0 (.loop [6,5,2,1] ZpK))) ZvR)))
def ZoY:Zam:=⟨[(.tmp 4)],ZbP⟩
theorem ZAq:FC 12=some ZoY:=by kernel_rfl
theorem Zb0:ZoY.body=ZbP:=rfl
theorem Zcc:ZoY.res=[(.tmp 4)]:=rfl
def ZjN:Zv:=(.seq (.region [oI 4 (.mov (.c (.int .i64 0)))] none [1,0]) (.seq (.seq (.region [oM 5 0,oM 6 1,oI 7 (.bin .lss (.t 5) (.t 6))] none [7,1,0]) (.cond (.t 7) (.seq (.region [oM 8 0,oM 4 8] none [4]) .ret) .skip)) (.seq (.region [oM 9 1,oM 4 9] none [4]) .ret)))
def Zoy:Zam:=⟨[(.tmp 4)],ZjN⟩
theorem ZEB:FC 28=some Zoy:=by kernel_rfl
theorem Zxt:Zoy.body=ZjN:=rfl
theorem Zw3:Zoy.res=[(.tmp 4)]:=rfl
def ZgJ:Zv:=(.seq (.region [oI 6 (.mov (.c (.lst true [])))] none [6,5,1,0]) (.seq (.region [oM 21 6,oM 22 0,oM 23 5,oI 24 (.slice 1 (.t 22) none (some (.t 23)) none),oI 25 (.app 1 8 (.int .i64 0) (.t 21) (.t 24)),oM 26 1,oI 27 (.bslice false 1 1 (.int .i64 0) [(0,(.t 26))]),oI 28 (.app 1 8 (.int .i64 0) (.t 25) (.t 27)),oM 29 0,oM 30 5,oI 31 (.slice 1 (.t 29) (some (.t 30)) none none),oI 32 (.app 1 8 (.int .i64 0) (.t 28) (.t 31)),oM 4 32] (some [(3,6),(4,6),(3,10),(4,10),(6,10),(7,10)]) [4]) .ret))
def ZtJ:Zv:=ZgJ
def Zjy:=xw ZtJ ZgJ rfl
def Zhm:Zv:=(.seq (.seq (.region [oM 7 5,oM 8 0,oI 9 (.len (.t 8)),oI 10 (.bin .lss (.t 7) (.t 9)),oM 11 10,⟨(some 12),(.mov (.t 0)),(some (11,true)),[]⟩,⟨(some 13),(.mov (.t 5)),(some (11,true)),[]⟩,⟨(some 14),(.iaddr 1 (.t 12) (.t 13)),(some (11,true)),[]⟩,⟨(some 15),(.ld none (.t 14)),(some (11,true)),[]⟩,⟨(some 16),(.mov (.t 1)),(some (11,true)),[]⟩,⟨(some 17),(.bin .leq (.t 15) (.t 16)),(some (11,true)),[]⟩,oI 18 (.pick (.t 11) (.t 17) (.c (.bool false)))] none [18,5,1,0]) (.cond (.t 18) .skip (.exit 0))) (.block 1 (.region [oM 19 5,oI 20 (.bin .add (.t 19) (.c (.int .i64 1))),oM 5 20] none [5,1,0])))
def ZoX:Zv:=Zhm
def Zkl:=xw ZoX Zhm rfl
def Zhf:Zv:=(.seq (.region [oI 4 (.mov (.c (.lst true [])))] none [1,0]) (.seq (.region [oI 5 (.mov (.c (.int .i64 0)))] none [5,1,0]) (.seq (.block 0 (.loop [5,1,0] ZoX)) ZtJ)))
def ZjM:Zam:=⟨[(.tmp 4)],Zhf⟩
theorem ZBe:FC 27=some ZjM:=by kernel_rfl
theorem ZjH:ZjM.body=Zhf:=rfl
theorem ZjI:ZjM.res=[(.tmp 4)]:=rfl
noncomputable def Zhz (m:Nat) (tm:Tms) (σ:Za):Option (AVal×Za):=(Za4 m ZjM (ZcK FC PR BY m ZtJ (Xah (Zbt 0) (evL FC PR BY m [5,1,0] ZoX tm σ))))
end
section
set_option maxRecDepth 100000
def Zes:AVal:=.agg [.str [],.int .i64 0,.bool false,.bool false,.int .i64 0,.int .i64 0]
def Zjb:AVal:=.agg [.str [],.str [],.lst true [],.int .i64 0,.bool false,.str [],.int .i64 0,.lst true [],.int .i64 0,.int .i64 0,.int .i64 0,.int .i64 0,.bool false,.lst true [],.str []]
def ZEP:Ann:={ nt:=64,cfg:=fun f=>if f=23 then (0,false) else (0,true),own:=fun n=>if n=11\/n=40 then 5 else 0,lr:=fun i=>if i=0 then [2,1] else if i=1 then [5,2,1] else if i=2 then [14,13,12,5,2] else if i=3 then [15,14,13,12,5,2] else if i=4 then [14,13,12,7,5,2] else if i=5 then [33,14,13,12,7,5,2] else if i=6 then [14,13,12,5,2] else if i=7 then [14,13,12,5,2] else if i=8 then [8,5,2] else if i=13 then [8] else [4],ll:=fun _=>[14,13,12,5,2] }
def ZGc:Ann:={ nt:=64,keep:=[47,46],own:=fun n=>if n=59 then 2 else 0,cfg:=fun f=>if f=22 then (1,false) else (0,true),lr:=fun _=>[46,8,2] }
def Zd4:Zv:=(.seq (.region [oI 15 (.bin .lss (.t 14) (.t 13))] none [15,14,13,12,5,2]) (.seq (.cond (.t 15) .skip (.exit 0)) (.seq (.block 1 (.seq (.region [oI 16 (.iaddr 7 (.t 12) (.t 14)),oI 17 (.ld (some 7) (.t 16)),oI 7 (.alloc [(.str []),(.str []),(.int .i64 0),(.bool false),(.bool false),(.int .i64 0),(.int .i64 0)]),oN (.st 7 (.t 7) (.t 17))] none [14,13,12,7,5,2]) (.seq (.region [oF 18 1 7,oF 19 2 18,oL 20 19,oI 21 (.un .not (.t 20)),oM 22 21,⟨some 23,.faddr 0 (.t 7),some (22,false),[]⟩,⟨some 24,.ld none (.t 23),some (22,false),[]⟩,⟨some 25,.faddr 4 (.t 2),some (22,false),[]⟩,⟨some 26,.ld none (.t 25),some (22,false),[]⟩,⟨some 27,.bin .neq (.t 24) (.t 26),some (22,false),[]⟩,oI 28 (.pick (.t 22) (.c (.bool true)) (.t 27)),oM 29 28,⟨some 30,.faddr 4 (.t 2),some (29,false),[]⟩,⟨some 31,.ld none (.t 30),some (29,false),[]⟩,⟨some 32,.bin .eql (.t 31) (.c (.str [])),some (29,false),[]⟩,oI 33 (.pick (.t 29) (.c (.bool true)) (.t 32))] none [33,14,13,12,7,5,2]) (.cond (.t 33) (.region [oM 34 5,oF 35 0 7,oL 36 35,oM 37 5,oF 38 0 7,oL 39 38,oI 40 (.glook 2 (.lst true []) (.t 37) (.t 39)),oF 41 1 7,oI 42 (.ld (some 6) (.t 41)),oI 43 (.bslice false 6 1 Zes [(0,(.t 42))]),oI 44 (.app 6 48 Zes (.t 40) (.t 43)),oN (.mset 2 (.t 34) (.t 36) (.t 44))] (some [(2,5),(2,6),(2,8),(5,8),(6,8),(2,9),(5,9),(6,9),(2,10)]) [14,13,12,5,2]) .skip)))) (.region [oI 45 (.bin .add (.t 14) (.c (.int .i64 1))),oM 14 45] none [14,13,12,5,2]))))
def ZsV:Zv:=Zd4
def c1P:Zv:=.seq (.region [oI 2 (.box (.t 0)),oI 4 (.mov (.c (.lst true [])))] none [2,1]) (.seq (.region [oI 11 (.mkgmap 6),oM 5 11] none [5,2,1]) (.seq (.seq (.region [oM 12 1,oI 13 (.len (.t 12)),oI 14 (.mov (.c (.int .i64 0)))] none [14,13,12,5,2]) (.block 0 (.loop [14,13,12,5,2] ZsV))) (.seq (.region [oI 8 (.mov (.c (.lst true [])))] none [8,5,2]) .skip)))
def ZjT:List AOp:=[⟨some 46,.mov (.t 5),none,[]⟩]
def ZdS:List AOp:=[⟨some 51,.ext (.t 50) 0,none,[0]⟩,⟨some 52,.ext (.t 50) 1,none,[0]⟩,⟨some 9,.mov (.t 51),none,[1,0,1]⟩,⟨some 10,.mov (.t 52),none,[2,3,0,1,2,3]⟩]
def c2P:Zv:=.region [oM 53 8,oM 54 9,oI 55 (.ld (some 10) (.t 2)),oM 56 10,oI 57 (.call 22 1 false [(.t 55),(.t 56)]),oI 58 (.build [(.str []),(.str []),(.lst true []),(.int .i64 0),(.bool false),(.str []),(.int .i64 0),(.lst true []),(.int .i64 0),(.int .i64 0),(.int .i64 0),(.int .i64 0),(.bool false),(.lst true []),(.str [])] [(0,1,(.t 54)),(1,14,(.t 57))]),oI 59 (.rslice 15 1 Zjb [(0,(.t 58))]),oI 60 (.app 15 200 Zjb (.t 53) (.t 59)),oM 8 60] none [46,8,2]
def c3P:Zv:=.seq (.region [oM 61 8,oI 62 (.call 23 0 false [(.t 61),(.c (.fn 24 []))])] none [8]) (.seq (.region [oM 63 8,oM 4 63] none [4]) .ret)
theorem ZBC:ZwW Try.prog 8 ZEP ZGc 64 4 1 46 47 48 49 50 2 3 [46,8,2] ZjT ZdS c1P c2P c3P [.tmp 4] :=
 ⟨_,_,_,_,_,_,_,_,_,_,_,_,_,_,_,_,_,_,_,Try.func8,by kernel_rfl,rfl,by kernel_rfl,rfl,rfl,rfl,rfl,rfl,rfl,rfl,rfl,Try.underlying58,rfl,rfl,rfl,rfl,rfl,rfl,rfl,rfl,rfl,by kernel_rfl,by kernel_rfl,by kernel_rfl,by kernel_rfl,by kernel_rfl,rfl,rfl,rfl,by decide⟩
def PRI:Zbz:=fun f=>if f=22 then none else PR f
noncomputable abbrev EI:Z7:=EV FC PRI BY
theorem ZrD:PR 22=some ZhJ:=by rfl
theorem Zzq:PR 8=some ZhJ:=by rfl
theorem ZzZ:OLe E EI:=by
 refine ZwX (fun f hf=>?_) (fun f g hg=>?_)
 ·unfold PRI
  split
  ·rfl
  ·exact hf
 ·by_cases h1:f=22
  ·subst h1
   rw [ZrD] at hg;injection hg with hg;subst hg
   exact XO fun _ _=>rfl
  ·exact XH (by unfold PRI;rw [if_neg h1];exact hg)
theorem ZCm {f:Nat} {fn:Zam} (hp:PRI f=none) (hf:FC f=some fn) (args:List AVal) (σ:Za):EI f args σ=Za4 σ.length fn (evC FC PRI BY σ.length fn.body (enterA 0 args []) σ):=Zq3 hp hf args σ
theorem ZnI {σ:Za} {sq f own:Nat} {view:Bool} {args:List AVal} {r:AVal×Za×Cls} (h:Z4 E BY σ sq f own view args=some r):Z4 EI BY σ sq f own view args=some r:=ZiS ZzZ h
theorem ZBW:ZgP Try.prog PRI:=by
 intro f g h args σ r σ' hg
 unfold PRI at h
 split at h
 ·cases h
 ·exact Ztq f g h args σ r σ' hg
theorem ZBc:ZaF Try.prog EI:=by
 have h:EI=EV CF PRI BY:=Zzc CF PRI BY
 rw [h]
 exact Zxg Zhy ZBW ann BY
noncomputable def PRK:Zbz:=fun f=>if f=22 then some (Zfx 1 (EI 22)) else if f=23 then some (ZgV 15 24 ZeE XaZ) else PR f
theorem ZeF (m:Nat) (tm:Tms) (σ:Za):evC FC PRK BY m ZsV tm σ=evC FC PRK BY m Zd4 tm σ:=rfl
noncomputable abbrev EK:Z7:=EV FC PRK BY
theorem Zzl (f:Nat):ZoU Try.prog f (EI f):=fun args σ r σ' h=>ZBc f args σ r σ' h
theorem ZCN:ZgP Try.prog PRK:=by
 intro f g h args σ r σ' hg
 unfold PRK at h
 split at h
 ·rename_i e;subst e
  injection h with h;subst h
  exact ZvX (Zzl _) args σ r σ' hg
 split at h
 ·rename_i e;subst e
  injection h with h;subst h
  exact ZCB hg
 ·exact Ztq f g h args σ r σ' hg
theorem ZFr (args:List AVal) (σ:Za):EK 22 args σ=Zfx 1 (EI 22) args σ:=Zi7 (by rfl) args σ
theorem ZEu (args:List AVal) (σ:Za):EK 23 args σ=ZgV 15 24 ZeE XaZ args σ:=Zi7 (by rfl) args σ
noncomputable def ZsY:List AVal->Za->Option (AVal×Za):=Zrl FC PRK BY [46,8,2] 46 50 3 ZjT ZdS c1P c2P c3P [.tmp 4]
noncomputable def PRP:Zbz:=fun f=>if f=8 then some ZsY else if f=22 then some (Zfx 1 (EI 22)) else PR f
noncomputable abbrev EP:Z7:=EV FC PRP BY
theorem ZAx:OLe E EP:=by
 refine ZwX (fun f hf=>?_) (fun f g hg=>?_)
 ·unfold PRP
  rw [if_neg (by rintro rfl;rw [Zzq] at hf;cases hf),if_neg (by rintro rfl;rw [ZrD] at hf;cases hf)]
  exact hf
 ·by_cases h1:f=8
  ·subst h1
   rw [Zzq] at hg;injection hg with hg;subst hg
   exact XO fun _ _=>rfl
  by_cases h2:f=22
  ·subst h2
   rw [ZrD] at hg;injection hg with hg;subst hg
   exact XO fun _ _=>rfl
  ·exact XH (by unfold PRP;rw [if_neg h1,if_neg h2];exact hg)
theorem ZhA {f:Nat} {fn:Zam} (hp:PRP f=none) (hf:FC f=some fn) (args:List AVal) (σ:Za):EP f args σ=Za4 σ.length fn (evC FC PRP BY σ.length fn.body (enterA 0 args []) σ):=Zq3 hp hf args σ
theorem ZCR (args:List AVal) (σ:Za):EP 8 args σ=ZsY args σ:=Zi7 (by rfl) args σ
theorem ZEo (args:List AVal) (σ:Za):EP 22 args σ=Zfx 1 (EI 22) args σ:=Zi7 (by rfl) args σ
theorem ZEh {args:List AVal} {σ σ':Za} {r:AVal} (hg:ZsY args σ=some (r,σ')) :
  (∃ fn,Try.prog.funcs[8]?=some fn/\fn.body.isSome=true/\(fn.name == "runtime.NumGoroutine")=false) /\
  ∀ base w0 I0 I β w (vs:Array Value),KLt base w0->Rel base w0 I0 I β σ w->VRs I β args vs.toList ->
   Calls Try.prog 8 vs w (fun e w'=>∃ u,Ends r e u/\Zbo σ.length base w0 I0 I β r σ' u w') :=
 ZCh Zhy (fun n=>by
  have h:ZaB FC PRK BY n=ZaB CF PRK BY n:=ZuA CF PRK BY n
  rw [h]
  exact ZsK Zhy ZCN ann BY n) ZBC hg
theorem ZBQ:ZgP Try.prog PRP:=by
 intro f g h args σ r σ' hg
 unfold PRP at h
 split at h
 ·rename_i e;subst e
  injection h with h;subst h
  exact ZEh hg
 split at h
 ·rename_i e;subst e
  injection h with h;subst h
  exact ZvX (Zzl _) args σ r σ' hg
 ·exact Ztq f g h args σ r σ' hg
theorem ZCa:ZaF Try.prog EP:=by
 have h:EP=EV CF PRP BY:=Zzc CF PRP BY
 rw [h]
 exact Zxg Zhy ZBQ ann BY
theorem Zdo {σ:Za} {sq f own:Nat} {view:Bool} {args:List AVal} {r:AVal×Za×Cls} (h:Z4 E BY σ sq f own view args=some r):Z4 EP BY σ sq f own view args=some r:=ZiS ZAx h
theorem xwI (c d:Zv) (h:c=d) (m:Nat) (tm:Tms) (σ:Za):evC FC PRI BY m c tm σ=evC FC PRI BY m d tm σ:=by rw [h]
theorem xwP (c d:Zv) (h:c=d) (m:Nat) (tm:Tms) (σ:Za):evC FC PRP BY m c tm σ=evC FC PRP BY m d tm σ:=by rw [h]
end
section
def Zmz:Zv:=(.seq (.region [oI 2 (.box (.t 0)),oI 3 (.box (.t 1)),oI 4 (.mov (.c (.bool false)))] none [3,2]) (.seq (.region [oF 5 0 2,oL 6 5,oF 7 0 3,oL 8 7,oI 9 (.bin .eql (.t 6) (.t 8)),oM 10 9,⟨(some 11),(.faddr 1 (.t 2)),(some (10,true)),[]⟩,⟨(some 12),(.ld none (.t 11)),(some (10,true)),[]⟩,⟨(some 13),(.b2s (.t 12)),(some (10,true)),[]⟩,⟨(some 14),(.faddr 1 (.t 3)),(some (10,true)),[]⟩,⟨(some 15),(.ld none (.t 14)),(some (10,true)),[]⟩,⟨(some 16),(.b2s (.t 15)),(some (10,true)),[]⟩,⟨(some 17),(.bin .eql (.t 13) (.t 16)),(some (10,true)),[]⟩,oI 18 (.pick (.t 10) (.t 17) (.c (.bool false))),oM 19 18,⟨(some 20),(.faddr 2 (.t 2)),(some (19,true)),[]⟩,⟨(some 21),(.ld none (.t 20)),(some (19,true)),[]⟩,⟨(some 22),(.faddr 2 (.t 3)),(some (19,true)),[]⟩,⟨(some 23),(.ld none (.t 22)),(some (19,true)),[]⟩,⟨(some 24),(.bin .eql (.t 21) (.t 23)),(some (19,true)),[]⟩,oI 25 (.pick (.t 19) (.t 24) (.c (.bool false))),oM 26 25,⟨(some 27),(.faddr 3 (.t 2)),(some (26,true)),[]⟩,⟨(some 28),(.ld none (.t 27)),(some (26,true)),[]⟩,⟨(some 29),(.faddr 3 (.t 3)),(some (26,true)),[]⟩,⟨(some 30),(.ld none (.t 29)),(some (26,true)),[]⟩,⟨(some 31),(.beq false (.t 28) (.t 30)),(some (26,true)),[]⟩,oI 32 (.pick (.t 26) (.t 31) (.c (.bool false))),oM 33 32,⟨(some 34),(.faddr 4 (.t 2)),(some (33,true)),[]⟩,⟨(some 35),(.ld none (.t 34)),(some (33,true)),[]⟩,⟨(some 36),(.faddr 4 (.t 3)),(some (33,true)),[]⟩,⟨(some 37),(.ld none (.t 36)),(some (33,true)),[]⟩,⟨(some 38),(.bin .eql (.t 35) (.t 37)),(some (33,true)),[]⟩,oI 39 (.pick (.t 33) (.t 38) (.c (.bool false))),oM 40 39,⟨(some 41),(.faddr 5 (.t 2)),(some (40,true)),[]⟩,⟨(some 42),(.ld none (.t 41)),(some (40,true)),[]⟩,⟨(some 43),(.faddr 5 (.t 3)),(some (40,true)),[]⟩,⟨(some 44),(.ld none (.t 43)),(some (40,true)),[]⟩,⟨(some 45),(.bin .eql (.t 42) (.t 44)),(some (40,true)),[]⟩,oI 46 (.pick (.t 40) (.t 45) (.c (.bool false))),oM 47 46,⟨(some 48),(.faddr 6 (.t 2)),(some (47,true)),[]⟩,⟨(some 49),(.ld none (.t 48)),(some (47,true)),[]⟩,⟨(some 50),(.faddr 6 (.t 3)),(some (47,true)),[]⟩,⟨(some 51),(.ld none (.t 50)),(some (47,true)),[]⟩,⟨(some 52),(.call 29 0 true [(.t 49),(.t 51)]),(some (47,true)),[]⟩,oI 53 (.pick (.t 47) (.t 52) (.c (.bool false))),oM 54 53,⟨(some 55),(.faddr 7 (.t 2)),(some (54,true)),[]⟩,⟨(some 56),(.ld none (.t 55)),(some (54,true)),[]⟩,⟨(some 57),(.faddr 7 (.t 3)),(some (54,true)),[]⟩,⟨(some 58),(.ld none (.t 57)),(some (54,true)),[]⟩,⟨(some 59),(.bin .eql (.t 56) (.t 58)),(some (54,true)),[]⟩,oI 60 (.pick (.t 54) (.t 59) (.c (.bool false))),oM 61 60,⟨(some 62),(.faddr 8 (.t 2)),(some (61,true)),[]⟩,⟨(some 63),(.ld none (.t 62)),(some (61,true)),[]⟩,⟨(some 64),(.faddr 8 (.t 3)),(some (61,true)),[]⟩,⟨(some 65),(.ld none (.t 64)),(some (61,true)),[]⟩,⟨(some 66),(.bin .eql (.t 63) (.t 65)),(some (61,true)),[]⟩,oI 67 (.pick (.t 61) (.t 66) (.c (.bool false))),oM 68 67,⟨(some 69),(.faddr 9 (.t 2)),(some (68,true)),[]⟩,⟨(some 70),(.ld none (.t 69)),(some (68,true)),[]⟩,⟨(some 71),(.faddr 9 (.t 3)),(some (68,true)),[]⟩,⟨(some 72),(.ld none (.t 71)),(some (68,true)),[]⟩,⟨(some 73),(.bin .eql (.t 70) (.t 72)),(some (68,true)),[]⟩,oI 74 (.pick (.t 68) (.t 73) (.c (.bool false))),oM 4 74] none [4]) .ret))
def Zoz:Zam:=⟨[(.tmp 4)],Zmz⟩
theorem ZAQ:FC 13=some Zoz:=by kernel_rfl
theorem ZC8:Zoz.body=Zmz:=rfl
theorem ZFI:Zoz.res=[(.tmp 4)]:=rfl
def Zhc:Zv:=(.seq (.region [oI 4 (.mov (.c (.bool true)))] none [4]) .ret)
def Zqe:Zv:=Zhc
def Zjp:=xw Zqe Zhc rfl
def Zhw:Zv:=(.seq (.seq (.region [oM 42 5,oF 43 12 2,oL 44 43,oI 45 (.len (.t 44)),oI 46 (.bin .lss (.t 42) (.t 45))] none [46,5,3,2]) (.cond (.t 46) .skip (.exit 0))) (.seq (.block 1 (.seq (.region [oF 49 12 2,oL 50 49,oM 51 5,oI 52 (.iaddr 1 (.t 50) (.t 51)),oL 53 52,oF 54 12 3,oL 55 54,oM 56 5,oI 57 (.iaddr 1 (.t 55) (.t 56)),oL 58 57,oI 59 (.bin .neq (.t 53) (.t 58))] (some [(1,6),(3,6),(4,6),(1,8),(3,8),(4,8),(1,9),(3,9),(4,9)]) [59,5,3,2]) (.cond (.t 59) (.seq (.region [oI 4 (.mov (.c (.bool false)))] none [4]) .ret) .skip))) (.region [oM 47 5,oI 48 (.bin .add (.t 47) (.c (.int .i64 1))),oM 5 48] none [5,3,2])))
def Zve:Zv:=Zhw
def Zjo:=xw Zve Zhw rfl
def Zg7:Zv:=(.seq (.region [oI 2 (.box (.t 0)),oI 3 (.box (.t 1)),oI 4 (.mov (.c (.bool false)))] none [3,2]) (.seq (.seq (.region [oF 6 0 2,oI 7 (.ld (some 10) (.t 6)),oF 8 0 3,oI 9 (.ld (some 10) (.t 8)),oI 10 (.call 13 0 true [(.t 7),(.t 9)]),oI 11 (.un .not (.t 10)),oM 12 11,⟨(some 13),(.faddr 10 (.t 2)),(some (12,false)),[]⟩,⟨(some 14),(.ld none (.t 13)),(some (12,false)),[]⟩,⟨(some 15),(.faddr 10 (.t 3)),(some (12,false)),[]⟩,⟨(some 16),(.ld none (.t 15)),(some (12,false)),[]⟩,⟨(some 17),(.bin .neq (.t 14) (.t 16)),(some (12,false)),[]⟩,oI 18 (.pick (.t 12) (.c (.bool true)) (.t 17)),oM 19 18,⟨(some 20),(.faddr 11 (.t 2)),(some (19,false)),[]⟩,⟨(some 21),(.ld none (.t 20)),(some (19,false)),[]⟩,⟨(some 22),(.faddr 11 (.t 3)),(some (19,false)),[]⟩,⟨(some 23),(.ld none (.t 22)),(some (19,false)),[]⟩,⟨(some 24),(.beq true (.t 21) (.t 23)),(some (19,false)),[]⟩,oI 25 (.pick (.t 19) (.c (.bool true)) (.t 24)),oM 26 25,⟨(some 27),(.faddr 13 (.t 2)),(some (26,false)),[]⟩,⟨(some 28),(.ld none (.t 27)),(some (26,false)),[]⟩,⟨(some 29),(.faddr 13 (.t 3)),(some (26,false)),[]⟩,⟨(some 30),(.ld none (.t 29)),(some (26,false)),[]⟩,⟨(some 31),(.bin .neq (.t 28) (.t 30)),(some (26,false)),[]⟩,oI 32 (.pick (.t 26) (.c (.bool true)) (.t 31)),oM 33 32,⟨(some 34),(.faddr 12 (.t 2)),(some (33,false)),[]⟩,⟨(some 35),(.ld none (.t 34)),(some (33,false)),[]⟩,⟨(some 36),(.len (.t 35)),(some (33,false)),[]⟩,⟨(some 37),(.faddr 12 (.t 3)),(some (33,false)),[]⟩,⟨(some 38),(.ld none (.t 37)),(some (33,false)),[]⟩,⟨(some 39),(.len (.t 38)),(some (33,false)),[]⟩,⟨(some 40),(.bin .neq (.t 36) (.t 39)),(some (33,false)),[]⟩,oI 41 (.pick (.t 33) (.c (.bool true)) (.t 40))] none [41,3,2]) (.cond (.t 41) (.seq (.region [oI 4 (.mov (.c (.bool false)))] none [4]) .ret) .skip)) (.seq (.seq (.region [oI 5 (.mov (.c (.int .i64 0)))] none [5,3,2]) (.block 0 (.loop [5,3,2] Zve))) Zqe)))
def ZjU:Zam:=⟨[(.tmp 4)],Zg7⟩
theorem ZFa:FC 10=some ZjU:=by kernel_rfl
theorem Zj0:ZjU.body=Zg7:=rfl
theorem ZiO:ZjU.res=[(.tmp 4)]:=rfl
noncomputable def ZjK (m:Nat) (tm:Tms) (σ:Za):Option (AVal×Za):=(Za4 m ZjU (ZcK FC PR BY m Zqe (Xah (Zbt 0) (evL FC PR BY m [5,3,2] Zve tm σ))))
end
section
def ZjP:Zv:=(.seq (.region [oI 4 (.mov (.c (.lst true [])))] none [1,0]) (.seq (.seq (.region [oM 5 0,oI 6 (.len (.t 5)),oM 7 1,oI 8 (.bin .gtr (.t 6) (.t 7))] none [8,1,0]) (.cond (.t 8) (.seq (.region [oM 9 0,oM 10 1,oI 11 (.slice 1 (.t 9) none (some (.t 10)) none),oM 4 11] none [4]) .ret) .skip)) (.seq (.region [oM 12 0,oM 4 12] none [4]) .ret)))
def Zm9:Zam:=⟨[(.tmp 4)],ZjP⟩
theorem ZzW:FC 19=some Zm9:=by kernel_rfl
theorem Zvu:Zm9.body=ZjP:=rfl
theorem ZwE:Zm9.res=[(.tmp 4)]:=rfl
def Zi1:Zv:=(.seq (.region [oI 6 (.mov (.c (.int .i64 0)))] none [2,1,0]) (.seq (.region [oM 8 2,oM 9 1,oI 10 (.bin .sub (.t 8) (.t 9)),oI 11 (.bin .add (.t 10) (.c (.int .i64 1))),oM 7 11] none [7,1,0]) (.seq (.region [oM 12 0,oM 13 7,oI 14 (.bin .rem (.t 12) (.t 13)),oM 0 14] none [7,1,0]) (.seq (.seq (.region [oM 15 0,oI 16 (.bin .lss (.t 15) (.c (.int .i64 0)))] none [16,7,1,0]) (.cond (.t 16) (.region [oM 17 0,oM 18 7,oI 19 (.bin .add (.t 17) (.t 18)),oM 0 19] none [1,0]) .skip)) (.seq (.region [oM 20 1,oM 21 0,oI 22 (.bin .add (.t 20) (.t 21)),oM 6 22] none [6]) .ret)))))
def Zuu:Zam:=⟨[(.tmp 6)],Zi1⟩
theorem ZEW:FC 20=some Zuu:=by kernel_rfl
theorem ZvI:Zuu.body=Zi1:=rfl
theorem Zym:Zuu.res=[(.tmp 6)]:=rfl
end
section
def Zuh:Zv:=(.seq (.region [oI 2 (.box (.t 0)),oI 3 (.box (.t 1)),oI 4 (.mov (.c (.bool false)))] none [3,2]) (.seq (.region [oF 5 0 2,oL 6 5,oF 7 0 3,oL 8 7,oI 9 (.bin .eql (.t 6) (.t 8)),oM 10 9,⟨(some 11),(.faddr 1 (.t 2)),(some (10,true)),[]⟩,⟨(some 12),(.ld none (.t 11)),(some (10,true)),[]⟩,⟨(some 13),(.faddr 1 (.t 3)),(some (10,true)),[]⟩,⟨(some 14),(.ld none (.t 13)),(some (10,true)),[]⟩,⟨(some 15),(.bin .eql (.t 12) (.t 14)),(some (10,true)),[]⟩,oI 16 (.pick (.t 10) (.t 15) (.c (.bool false))),oM 17 16,⟨(some 18),(.faddr 2 (.t 2)),(some (17,true)),[]⟩,⟨(some 19),(.ld none (.t 18)),(some (17,true)),[]⟩,⟨(some 20),(.faddr 2 (.t 3)),(some (17,true)),[]⟩,⟨(some 21),(.ld none (.t 20)),(some (17,true)),[]⟩,⟨(some 22),(.bin .eql (.t 19) (.t 21)),(some (17,true)),[]⟩,oI 23 (.pick (.t 17) (.t 22) (.c (.bool false))),oM 24 23,⟨(some 25),(.faddr 3 (.t 2)),(some (24,true)),[]⟩,⟨(some 26),(.ld none (.t 25)),(some (24,true)),[]⟩,⟨(some 27),(.faddr 3 (.t 3)),(some (24,true)),[]⟩,⟨(some 28),(.ld none (.t 27)),(some (24,true)),[]⟩,⟨(some 29),(.bin .eql (.t 26) (.t 28)),(some (24,true)),[]⟩,oI 30 (.pick (.t 24) (.t 29) (.c (.bool false))),oM 31 30,⟨(some 32),(.faddr 4 (.t 2)),(some (31,true)),[]⟩,⟨(some 33),(.ld none (.t 32)),(some (31,true)),[]⟩,⟨(some 34),(.b2s (.t 33)),(some (31,true)),[]⟩,⟨(some 35),(.faddr 4 (.t 3)),(some (31,true)),[]⟩,⟨(some 36),(.ld none (.t 35)),(some (31,true)),[]⟩,⟨(some 37),(.b2s (.t 36)),(some (31,true)),[]⟩,⟨(some 38),(.bin .eql (.t 34) (.t 37)),(some (31,true)),[]⟩,oI 39 (.pick (.t 31) (.t 38) (.c (.bool false))),oM 4 39] none [4]) .ret))
def ZuV:Zam:=⟨[(.tmp 4)],Zuh⟩
theorem ZFS:FC 35=some ZuV:=by kernel_rfl
theorem ZDe:ZuV.body=Zuh:=rfl
theorem ZDX:ZuV.res=[(.tmp 4)]:=rfl
def ZgX:Zv:=(.seq (.region [oI 4 (.mov (.c (.bool true)))] none [4]) .ret)
def ZtV:Zv:=ZgX
def ZiK:=xw ZtV ZgX rfl
def Zg9:Zv:=(.seq (.seq (.region [oM 11 5,oM 12 0,oI 13 (.len (.t 12)),oI 14 (.bin .lss (.t 11) (.t 13))] none [14,5,1,0]) (.cond (.t 14) .skip (.exit 0))) (.seq (.block 1 (.seq (.region [oM 17 0,oM 18 5,oI 19 (.iaddr 5 (.t 17) (.t 18)),oI 20 (.ld (some 5) (.t 19)),oM 21 1,oM 22 5,oI 23 (.iaddr 5 (.t 21) (.t 22)),oI 24 (.ld (some 5) (.t 23)),oI 25 (.call 35 0 true [(.t 20),(.t 24)]),oI 26 (.un .not (.t 25))] (some [(2,6),(3,6),(2,7),(3,7),(8,8)]) [26,5,1,0]) (.cond (.t 26) (.seq (.region [oI 4 (.mov (.c (.bool false)))] none [4]) .ret) .skip))) (.region [oM 15 5,oI 16 (.bin .add (.t 15) (.c (.int .i64 1))),oM 5 16] none [5,1,0])))
def Zps:Zv:=Zg9
def ZjD:=xw Zps Zg9 rfl
def Zg6:Zv:=(.seq (.region [oI 4 (.mov (.c (.bool false)))] none [1,0]) (.seq (.seq (.region [oM 6 0,oI 7 (.len (.t 6)),oM 8 1,oI 9 (.len (.t 8)),oI 10 (.bin .neq (.t 7) (.t 9))] none [10,1,0]) (.cond (.t 10) (.seq (.region [oI 4 (.mov (.c (.bool false)))] none [4]) .ret) .skip)) (.seq (.seq (.region [oI 5 (.mov (.c (.int .i64 0)))] none [5,1,0]) (.block 0 (.loop [5,1,0] Zps))) ZtV)))
def Zke:Zam:=⟨[(.tmp 4)],Zg6⟩
theorem Zz0:FC 29=some Zke:=by kernel_rfl
theorem Zka:Zke.body=Zg6:=rfl
theorem ZiN:Zke.res=[(.tmp 4)]:=rfl
noncomputable def Zi3 (m:Nat) (tm:Tms) (σ:Za):Option (AVal×Za):=(Za4 m Zke (ZcK FC PR BY m ZtV (Xah (Zbt 0) (evL FC PR BY m [5,1,0] Zps tm σ))))
end
section
end
section
open Go.RowKit
theorem Zs6 (id:Nat) (tm:Tms) (σ:Za):Zbt id (.normal,tm,σ)=(.normal,tm,σ):=rfl
theorem ZqI (id i:Nat) (tm:Tms) (σ:Za):Zbt id (.exit i,tm,σ)=if i=id then (.normal,tm,σ) else (.exit i,tm,σ):=by simp only [Zbt]
theorem Zpb (id:Nat) (tm:Tms) (σ:Za):Zbt id (.ret,tm,σ)=(.ret,tm,σ):=rfl
theorem ZqN (id:Nat) (x:AVal) (tm:Tms) (σ:Za):Zbt id (.panic x,tm,σ)=(.panic x,tm,σ):=rfl
section
variable (O:Z7) (bf:Nat->Bool)
def Zea (c:Cls):Option (Tms×Za×List Cls×Option AVal)->Option (Tms×Za×List Cls×Option AVal)
 | none=>none
 | some (tm,σ,cs,p)=>some (tm,σ,c::cs,p)
def ZgA (c:List Cls):Option (Tms×Za×List Cls×Option AVal)->Option (Tms×Za×List Cls×Option AVal)
 | none=>none
 | some (tm,σ,cs,p)=>some (tm,σ,c++cs,p)
def kC (d:Option Nat) (os:List AOp) (s:Nat) (tm:Tms):Option (AVal×Za×Cls)->Option (Tms×Za×List Cls×Option AVal)
 | none=>none
 | some (v,σ,c)=>if Za1 v then some (tput tm d v,σ,[c],some (ZaN v)) else Zea c (Z8 O bf os s (tput tm d v) σ)
def ZeV (ops:List AOp) (L:Nat) (l:List (Nat×Nat)) (live:List Nat):Option (Tms×Za×List Cls×Option AVal)->Option (Za2×Tms×Za)
 | none=>none
 | some (_,σ,cs,some x)=>if Zav ops L l cs then some (.panic x,[],σ) else none
 | some (tm,σ,cs,none)=>if ZdT ops L l cs then some (.normal,keepL live tm,σ) else none
variable {O bf}
theorem ZiM (s:Nat) (tm:Tms) (σ:Za):Z8 O bf [] s tm σ=some (tm,σ,[],none):=rfl
theorem Zst (c:Cls) (tm:Tms) (σ:Za) (cs:List Cls) (p:Option AVal):Zea c (some (tm,σ,cs,p))=some (tm,σ,c::cs,p):=rfl
theorem ZpQ (c:Cls):Zea c none=none:=rfl
theorem ZuZ (c:Cls) (q:Prop) [Decidable q] (x y:Option (Tms×Za×List Cls×Option AVal)):Zea c (if q then x else y)=if q then Zea c x else Zea c y:=by split <;> rfl
theorem ZnV (c:List Cls) (tm:Tms) (σ:Za) (cs:List Cls) (p:Option AVal):ZgA c (some (tm,σ,cs,p))=some (tm,σ,c++cs,p):=rfl
theorem Zr7 (c:List Cls):ZgA c none=none:=rfl
theorem ZsO (c:List Cls) (q:Prop) [Decidable q] (x y:Option (Tms×Za×List Cls×Option AVal)):ZgA c (if q then x else y)=if q then ZgA c x else ZgA c y:=by split <;> rfl
theorem Zkd {o:AOp} {os:List AOp} {s:Nat} {tm tm1:Tms} {σ σ1:Za} {v:AVal} {c:Cls} (h:Z0 O bf o s tm σ=some (v,tm1,σ1,c)) (hn:Za1 v=false):Z8 O bf (o::os) s tm σ=Zea c (Z8 O bf os (s+nsite o.ins) tm1 σ1):=by
 rw [ZzE h hn]
 cases Z8 O bf os (s+nsite o.ins) tm1 σ1 <;> rfl
theorem ZhF (d:Option Nat) (i:Ins) (af:List Nat) (os:List AOp) (s:Nat) (tm:Tms) (σ:Za):Z8 O bf (⟨d,i,none,af⟩::os) s tm σ=kC O bf d os (s+nsite i) tm (exI O bf i s tm σ):=by
 cases h:exI O bf i s tm σ with
 | none=>exact Zik (by rw [ZjQ,h];rfl)
 | some q =>
  obtain ⟨v,σ1,c⟩:=q
  have hs:Z0 O bf ⟨d,i,none,af⟩ s tm σ=some (v,tput tm d v,σ1,c):=by rw [ZjQ,h];rfl
  cases hp:Za1 v with
  | true =>
   obtain ⟨x,rfl⟩:=ZkB hp
   exact ZiP hs
  | false =>
   rw [Zkd hs hp]
   simp only [kC,hp,Xu,if_false]
theorem Ziv (d:Option Nat) (os:List AOp) (s:Nat) (tm:Tms) (v:AVal) (σ:Za) (c:Cls) (h:Za1 v=false):kC O bf d os s tm (some (v,σ,c))=Zea c (Z8 O bf os s (tput tm d v) σ):=by
 simp only [kC,h,Xu,if_false]
theorem ZtF (d:Option Nat) (os:List AOp) (s:Nat) (tm:Tms) (x:AVal) (σ:Za) (c:Cls):kC O bf d os s tm (some (.pan x,σ,c))=some (tput tm d (.pan x),σ,[c],some x):=rfl
theorem Zrg (d:Option Nat) (os:List AOp) (s:Nat) (tm:Tms):kC O bf d os s tm none=none:=rfl
theorem ZlM (d:Option Nat) (os:List AOp) (s:Nat) (tm:Tms) (q:Prop) [Decidable q] (x y:Option (AVal×Za×Cls)):kC O bf d os s tm (if q then x else y)=if q then kC O bf d os s tm x else kC O bf d os s tm y:=by split <;> rfl
theorem Zap (ops:List AOp) (l:List (Nat×Nat)) (live:List Nat) (tm:Tms) (σ:Za):Zcr O bf ops (some l) live tm σ=ZeV ops σ.length l live (Z8 O bf ops σ.length tm (σ++Xr (sitesOf ops) .free)):=by
 unfold Zcr
 cases Z8 O bf ops σ.length tm (σ++Xr (sitesOf ops) .free) with
 | none=>rfl
 | some q =>
  obtain ⟨tm',σ',cs,p⟩:=q
  cases p <;> rfl
theorem Zat (ops:List AOp) (L:Nat) (l:List (Nat×Nat)) (live:List Nat) (tm:Tms) (σ:Za) (cs:List Cls) (h:ZdT ops L l cs=true):ZeV ops L l live (some (tm,σ,cs,none))=some (.normal,keepL live tm,σ):=by
 simp only [ZeV,h,if_true]
theorem ZaU (ops:List AOp) (L:Nat) (l:List (Nat×Nat)) (live:List Nat) (tm:Tms) (σ:Za) (cs:List Cls) (x:AVal) (h:Zav ops L l cs=true):ZeV ops L l live (some (tm,σ,cs,some x))=some (.panic x,[],σ):=by
 simp only [ZeV,h,if_true]
theorem ZkR (ops:List AOp) (L:Nat) (l:List (Nat×Nat)) (live:List Nat):ZeV ops L l live none=none:=rfl
theorem ZnS (ops:List AOp) (L:Nat) (l:List (Nat×Nat)) (live:List Nat) (q:Prop) [Decidable q] (x y:Option (Tms×Za×List Cls×Option AVal)):ZeV ops L l live (if q then x else y)=if q then ZeV ops L l live x else ZeV ops L l live y:=by split <;> rfl
theorem Zz5 (ops:List AOp) (L:Nat) (l:List (Nat×Nat)) (cs:List Cls) (h:(cs.all fun c=>c.wr.isEmpty && !c.any)=true) (hs:(l.all fun p=>p.1 == p.2 || nsite (ops.getD p.1 default).ins == 0)=true):ZdT ops L l cs=true:=by
 have hd:∀ i,ZdB (cs.getD i {})=true:=by
  intro i
  rw [XW] at h
  rw [Xn]
  cases hi:cs[i]? with
  | none=>rfl
  | some c=>exact h c (Xx hi)
 unfold ZdT
 rw [XW] at hs ⊢
 intro p hp
 have:=hs p hp
 rw [WQ] at this ⊢
 rcases this with this | this
 ·exact XH this
 ·refine XO ?_
  unfold Zc8
  simp only [hd,this,Xbh,W3,Xay,Xba]
theorem Znl (ops:List AOp) (L:Nat) (l:List (Nat×Nat)) (live:List Nat) (tm:Tms) (σ:Za) (cs:List Cls) (h:(cs.all fun c=>c.wr.isEmpty && !c.any)=true) (hs:(l.all fun p=>p.1 == p.2 || nsite (ops.getD p.1 default).ins == 0)=true):ZeV ops L l live (some (tm,σ,cs,none))=some (.normal,keepL live tm,σ) :=
 Zat _ _ _ _ _ _ _ (Zz5 _ _ _ _ h hs)
variable (O bf) in
def gKC (os:List AOp) (s:Nat):Option (Tms×Za×List Cls×Option AVal)->Option (Tms×Za×List Cls×Option AVal)
 | none=>none
 | some (tm,σ,cs,some x)=>some (tm,σ,cs,some x)
 | some (tm,σ,cs,none)=>ZgA cs (Z8 O bf os s tm σ)
theorem ZtT (os:List AOp) (s:Nat) (tm:Tms) (σ:Za) (cs:List Cls):gKC O bf os s (some (tm,σ,cs,none))=ZgA cs (Z8 O bf os s tm σ):=rfl
theorem ZkN (os:List AOp) (s:Nat) (q:Prop) [Decidable q] (x y:Option (Tms×Za×List Cls×Option AVal)):gKC O bf os s (if q then x else y)=if q then gKC O bf os s x else gKC O bf os s y:=by split <;> rfl
theorem ZC6 (os:List AOp) (s:Nat) (c:Cls) (r:Option (Tms×Za×List Cls×Option AVal)):gKC O bf os s (Zea c r)=Zea c (gKC O bf os s r):=by
 cases r with
 | none=>rfl
 | some q =>
  obtain ⟨tm,σ,cs,p⟩:=q
  cases p with
  | some x=>rfl
  | none =>
   simp only [Zea,gKC]
   cases Z8 O bf os s tm σ <;> rfl
theorem Zv9:∀ (a b:List AOp) (s:Nat) (tm:Tms) (σ:Za),Z8 O bf (a++b) s tm σ=gKC O bf b (s+sitesOf a) (Z8 O bf a s tm σ)
 | [],b,s,tm,σ=>by
  simp only [XI,ZiM,gKC,sitesOf,XS,List.sum_nil,Wm]
  cases Z8 O bf b s tm σ <;> rfl
 | o::a,b,s,tm,σ=>by
  have ih:=Zv9 a b
  simp only [X1]
  have hs:s+nsite o.ins+sitesOf a=s+sitesOf (o::a):=by simp [sitesOf,W2]
  cases hst:Z0 O bf o s tm σ with
  | none=>rw [Zik hst,Zik hst];rfl
  | some q =>
   obtain ⟨v,tm1,σ1,c⟩:=q
   cases hp:Za1 v with
   | true =>
    obtain ⟨x,rfl⟩:=ZkB hp
    rw [ZiP hst,ZiP hst];rfl
   | false=>rw [Zkd hst hp,Zkd hst hp,ih,hs,ZC6]
variable (O bf) in
def Zey (j:Nat) (w:Bool) (g:List AOp) (s:Nat) (tm:Tms) (σ:Za):Option (Tms×Za×List Cls×Option AVal):=match Zbq (some (j,w)) tm with
 | none=>none
 | some false=>some (Zz g tm,σ,g.map fun _=>{},none)
 | some true=>Z8 O bf (g.map unG) s tm σ
theorem Zxr (j:Nat) (w:Bool):∀ (g:List AOp),(∀ o ∈ g,o.guard=some (j,w)/\o.dst≠some j)->∀ (s:Nat) (tm:Tms) (σ:Za),g≠[]->Z8 O bf g s tm σ=Zey O bf j w g s tm σ
 | [],_,_,_,_,h=>absurd rfl h
 | o::g,hall,s,tm,σ,_=>by
  obtain ⟨hg,hd⟩:=hall o (by simp)
  have ih:∀ (tm:Tms) (σ:Za) (s:Nat),Zbq (some (j,w)) tm≠none->Z8 O bf g s tm σ=Zey O bf j w g s tm σ:=by
   intro tm σ s hw
   by_cases he:g=[]
   ·subst he
    unfold Zey
    cases hx:Zbq (some (j,w)) tm with
    | none=>exact absurd hx hw
    | some b=>cases b <;> rfl
   ·exact Zxr j w g (fun o ho=>hall o (by simp [ho])) s tm σ he
  cases hx:Zbq (some (j,w)) tm with
  | none =>
   rw [Zik (by simp only [Z0,hg,hx])]
   simp only [Zey,hx]
  | some b =>
   cases b with
   | false =>
    have h1:Z8 O bf (o::g) s tm σ=Zea {} (Z8 O bf g (s+nsite o.ins) (tput tm o.dst (.tup [])) σ) :=
     Zkd (v:=.tup []) (c:={}) (by simp only [Z0,hg,hx]) rfl
    rw [h1,ih _ _ _ (by rw [Zfn hd,hx];simp)]
    unfold Zey
    rw [Zfn hd,hx]
    rfl
   | true =>
    have key:∀ r:Option (AVal×Za×Cls),(∀ v σ' c,r=some (v,σ',c)->Za1 v=false->Z8 O bf g (s+nsite o.ins) (tput tm o.dst v) σ'=Z8 O bf (g.map unG) (s+nsite o.ins) (tput tm o.dst v) σ')->kC O bf o.dst g (s+nsite o.ins) tm r=kC O bf o.dst (g.map unG) (s+nsite o.ins) tm r:=by
     intro r hr
     cases r with
     | none=>rfl
     | some q =>
      obtain ⟨v,σ',c⟩:=q
      cases hp:Za1 v with
      | true=>simp only [kC,hp,if_true]
      | false=>rw [Ziv _ _ _ _ _ _ _ hp,Ziv _ _ _ _ _ _ _ hp,hr v σ' c rfl hp]
    have h1:Z8 O bf (o::g) s tm σ=kC O bf o.dst g (s+nsite o.ins) tm (exI O bf o.ins s tm σ):=by
     have h0:Z8 O bf (o::g) s tm σ=Z8 O bf (⟨o.dst,o.ins,none,o.after⟩::g) s tm σ:=by
      have hst:Z0 O bf o s tm σ=Z0 O bf ⟨o.dst,o.ins,none,o.after⟩ s tm σ:=by
       unfold Z0
       simp only [hg,hx]
       rfl
      simp only [Z8,hst]
     rw [h0,ZhF]
    rw [h1]
    unfold Zey
    rw [hx]
    simp only [Xw]
    rw [show unG o=⟨o.dst,o.ins,none,o.after⟩ from rfl,ZhF]
    refine key _ fun v σ' c _ _=>?_
    rw [ih _ _ _ (by rw [Zfn hd,hx];simp)]
    unfold Zey
    rw [Zfn hd,hx]
theorem Zmo (d:Option Nat) (i:Ins) (j:Nat) (w:Bool) (af:List Nat) (os:List AOp) (s:Nat) (tm:Tms) (σ:Za) (hd:decide (d=some j)=false) :
  Z8 O bf (⟨d,i,some (j,w),af⟩::os) s tm σ=gKC O bf (Zu j w os).2 (s+sitesOf (⟨d,i,some (j,w),af⟩::(Zu j w os).1)) (Zey O bf j w (⟨d,i,some (j,w),af⟩::(Zu j w os).1) s tm σ):=by
 have h:=ZoS j w os
 have hall:∀ o ∈ (⟨d,i,some (j,w),af⟩::(Zu j w os).1:List AOp),o.guard=some (j,w)/\o.dst≠some j:=by
  intro o ho
  rcases XP.1 ho with rfl | ho
  ·exact ⟨rfl,by simpa using hd⟩
  ·exact Zrk j w os o ho
 rw [<-Zxr j w _ hall s tm σ (by simp),<-Zv9,X1,h]
variable (O bf) in
def gWC (w:Bool) (g:List AOp) (s:Nat) (tm:Tms) (σ:Za):AVal->Option (Tms×Za×List Cls×Option AVal)
 | .bool b=>if b=w then Z8 O bf (g.map unG) s tm σ else some (Zz g tm,σ,g.map fun _=>{},none)
 | .tup []=>some (Zz g tm,σ,g.map fun _=>{},none)
 | _=>none
theorem Zpv (j:Nat) (w:Bool) (g:List AOp) (s:Nat) (tm:Tms) (σ:Za):Zey O bf j w g s tm σ=gWC O bf w g s tm σ (tget tm j):=by
 unfold Zey Zbq
 simp only
 generalize tget tm j=v
 cases v
 case bool b=>cases b <;> cases w <;> rfl
 case tup vs=>cases vs <;> rfl
 all_goals rfl
theorem Zrn (w:Bool) (g:List AOp) (s:Nat) (tm:Tms) (σ:Za) (b:Bool):gWC O bf w g s tm σ (.bool b)=if b=w then Z8 O bf (g.map unG) s tm σ else some (Zz g tm,σ,g.map fun _=>{},none):=rfl
theorem Zmf (w:Bool) (g:List AOp) (s:Nat) (tm:Tms) (σ:Za):gWC O bf w g s tm σ (.tup [])=some (Zz g tm,σ,g.map fun _=>{},none):=rfl
theorem Zlq (q:Prop) [Decidable q] (t1 t2:Tms) (σ1 σ2:Za) (cs:List Cls):(if q then some (t1,σ1,cs,(none:Option AVal)) else some (t2,σ2,cs,none))=some ((if q then t1 else t2),(if q then σ1 else σ2),cs,none):=by split <;> rfl
end
section
theorem ZGa {r:AVal} {cs:List AVal} {σ:Za} (hr:Za6 r=true) (hc:Zy cs=true):gcA 1 [r] (.var cs::σ)=([r],[.var cs]):=by
 have e1:=(Zig (Zd (.var cs::σ) 1 [0]) r hr)
 have e2:=(Zh2 (Zd (.var cs::σ) 1 [0]) cs hc)
 have h1:Zm 1 [r] (.var cs::σ)=[0]:=by
  have : ZZ [r]=[]:=by simp only [ZZ,e1.2,X2]
  simp only [Zm,this,XI,List.range_one,X5,XaK,X2,XA,Zp,e2.2]
  rfl
 simp only [gcA,h1,ZW,e1.1,Ze,XA,Zl,Zc,Zg,e2.1]
theorem Zou {r:AVal} {cs:List AVal} {σ:Za} (hr:Za6 r=true) (hc:Zy cs=true):Zay 1 (.var cs::σ) r=some (r,[.var cs]):=by
 simp only [Zay,ZGa hr hc]
end
end
section
section
variable (c:Prop) [Decidable c]
theorem Zqc (t1 t2:Tms) (σ1 σ2:Za):(if c then some (Za2.normal,t1,σ1) else some (Za2.normal,t2,σ2))=some (Za2.normal,(if c then t1 else t2),(if c then σ1 else σ2)):=by split <;> rfl
theorem Zu4 (t1 t2:Tms) (σ1 σ2:Za):(if c then some (Za2.ret,t1,σ1) else some (Za2.ret,t2,σ2))=some (Za2.ret,(if c then t1 else t2),(if c then σ1 else σ2)):=by split <;> rfl
theorem Zse (t1 t2:Tms) (σ1 σ2:Za):(if c then some (t1,σ1,(none:Option AVal)) else some (t2,σ2,none))=some ((if c then t1 else t2),(if c then σ1 else σ2),none):=by split <;> rfl
theorem Zto (n:Nat) (a b:AVal):(if c then (n,a) else (n,b))=(n,if c then a else b):=by split <;> rfl
theorem Zrp (a b:AVal) (σ1 σ2:Za):(if c then some (a,σ1) else some (b,σ2))=some ((if c then a else b),(if c then σ1 else σ2)):=by split <;> rfl
theorem Zq2 (a b:AVal) (σ1 σ2:Za) (x y:Cls):(if c then some (a,σ1,x) else some (b,σ2,y))=some ((if c then a else b),(if c then σ1 else σ2),if c then x else y):=by split <;> rfl
end
theorem ZP {α:Type} (p:Bool) (x y z:α):(if p=true then x else (if p=false then y else z))=if p=true then x else y:=by cases p <;> rfl
theorem ZS {α:Type} (p:Bool) (x y z:α):(if p=false then x else (if p=true then y else z))=if p=false then x else y:=by cases p <;> rfl
theorem ZQ {α:Type} (p:Bool) (x y z:α):(if p=true then (if p=false then x else y) else z)=if p=true then y else z:=by cases p <;> rfl
theorem ZN {α:Type} (p:Bool) (x y z:α):(if p=false then (if p=true then x else y) else z)=if p=false then y else z:=by cases p <;> rfl
theorem ZaE (ops:List AOp) (b:Nat) (cs:List Cls):ZdT ops b [] cs=true:=rfl
theorem ZaD (ops:List AOp) (b:Nat) (p:Nat×Nat) (l:List (Nat×Nat)) (cs:List Cls):ZdT ops b (p::l) cs=((p.1 == p.2 || Zc8 (ops.getD p.1 default) (ops.getD p.2 default) (cs.getD p.1 {}) (cs.getD p.2 {}) (b+sitesOf (ops.take p.1))) && ZdT ops b l cs):=by
 simp only [ZdT,Xi]
theorem ZaI (oj oi:AOp) (cj ci:Cls) (sj:Nat):Zc8 oj oi cj ci sj=(ZcM oj cj || ZcM oi ci || (ZdB cj && ZdB ci && (nsite oj.ins == 0 || !ci.rd.contains sj)) || ((Zaf oj.ins || (Zak oj.ins && !cj.any)) && (ZdB ci && ci.rd.isEmpty)) || (Zai oj.ins && Zaf oi.ins && ci.any && Zaq cj ci) || (Zai oj.ins && (Zak oi.ins || (Zau oi.ins && ZaH cj ci)) && Zaq cj ci) || (ZaA oj.ins && Zaz oi.ins) || (Zaf oj.ins && Zai oi.ins && cj.any && ZaM cj ci sj) || (((Zak oj.ins && !cj.any) || Zau oj.ins) && ZdB ci && nsite oi.ins == 0 && ci.rd.all fun t=>!cj.wr.contains t && t != sj)):=rfl
theorem ZaJ (o:AOp) (rd wr:List Nat) (any:Bool) (got:List (Nat×Option Nat×Nat×AVal)) (upd:List (Nat×List AVal)):ZcM o ⟨rd,wr,any,got,upd⟩=(nsite o.ins == 0 && rd.isEmpty && wr.isEmpty && !any):=rfl
theorem ZaL (rd wr:List Nat) (any:Bool) (got:List (Nat×Option Nat×Nat×AVal)) (upd:List (Nat×List AVal)):ZdB ⟨rd,wr,any,got,upd⟩=(wr.isEmpty && !any):=rfl
theorem Zbn {α:Type} {l:List α} {i:Nat} {x:α} {r:List α} (h:l.drop i=x::r):l[i]?=some x/\l.drop (i+1)=r/\i < l.length:=by
 have h1:i < l.length:=by
  rcases Nat.lt_or_ge i l.length with h1 | h1
  ·exact h1
  ·rw [List.drop_eq_nil_of_le h1] at h;cases h
 rw [List.drop_eq_getElem_cons h1] at h
 injection h with h2 h3
 exact ⟨by rw [Xz h1,h2],h3,h1⟩
theorem Zf0 {α:Type} {l:List α} {i:Nat} (h:l.drop i=[]):¬(i:Int) < l.length:=by
 have:=Wx.1 h;omega
theorem iad {α:Type} {l:List α} {i:Nat} {x:α} (h:l[i]?=some x) (f:α->AVal) {k:Nat} (hk:(f x).cells.length=k) (σ:Za) (n:Bool) (kk:IntKind):ZaG σ k (.lst n (l.map f)) (.int kk (i:Int))=some (.iptr (f x).cells 0,σ,{}):=by
 have h0:(0:Int)<=(i:Int):=Int.natCast_nonneg i
 unfold ZaG
 simp only [h0,if_true,Xau,XY,h,X4,hk]
theorem Zcm {n:Int} (h0:-9223372036854775808<=n) (h:n<=9223372036854775807):IntKind.i64.wrap n=n:=by
 rw [IntKind.wrap_i64];omega
theorem Zwj {α β:Type} {a:List α} {b:List β} (h:a.length=b.length):((a.length:Int) != (b.length:Int))=false:=by simp [h]
theorem Zv1 {α β:Type} {a:List α} {b:List β} (h:a.length≠b.length):((a.length:Int) != (b.length:Int))=true:=by
 simp only [bne_iff_ne,ne_eq];omega
theorem ZwV {α:Type} [BEq α] [LawfulBEq α] {a b:List α} (h:a.length≠b.length):(a == b)=false:=by
 simp only [beq_eq_false_iff_ne,ne_eq];rintro rfl;exact h rfl
theorem Zyk {i n:Nat} (h:(i:Int) < n) (hn:n<=9223372036854775807):IntKind.i64.wrap ((i:Int)+1)=((i+1:Nat):Int):=by
 rw [Zcm (by omega) (by omega)];rfl
theorem ZfL {O:Z7} {bf:Nat->Bool} {f:Nat} {args:List AVal} {r:AVal} (h:O f args []=some (r,[])) (hb:bf f=false) (hp:args.all ZaO=true) (hn:args.map Zal=args) (hv:ZcO 0 (some (r,[]))=some (r,[])) (hr:∀ sq,Zs (Za8 [] [] sq) r=r) (σ:Za) (sq own:Nat) (view:Bool):Z4 O bf σ sq f own view args=some (r,σ,{}):=by
 rw [Zdr hb hp,hn,h]
 have : ZaC view 0 (some (r,[]))=some (r,[]):=by
  unfold ZaC
  split
  ·exact hv
  ·rfl
 rw [this,ZhD _ _ _ _ (hr sq)]
theorem ZsR {α:Type} (σ:Za) (k:Nat) (l:List α) (f:α->AVal) (kk:IntKind) (n:Int) (h0:0<=n) (h:n<=(l.length:Int)):ZcD σ k (.lst false (l.map f)) none (some (.int kk n)) none=some (.lst false ((l.take n.toNat).map f),σ,{}):=by
 simp only [ZcD,Zbj,Zem,XL,h0,h,and_self,if_true,beq_self_eq_true,Xay,Xal,Xu,if_false,W0,WF,Xbt]
abbrev Zt:=List UInt8
def Zh (b:Zt):AVal:=.lst false (b.map Zn)
structure Zb4 where
 id:Int
 num:Int
 text:Zt
 pair:Zt
 data:Zt
 deriving DecidableEq
def Zx (p:Zb4):List AVal:=[.int .i64 p.id,.int .i64 p.num,.str p.text,.str p.pair,Zh p.data]
def Zb (p:Zb4):AVal:=.agg (Zx p)
def Zi (l:List Zb4):AVal:=.lst false (l.map Zb)
def Zr (l:List Int):AVal:=.lst false (l.map (.int .i64 ·))
theorem ZJ (l:Zt):Zfm (l.map Zn)=some l:=by
 induction l with
 | nil=>rfl
 | cons b l ih =>
  simp only [Xw,Zfm,ih,Zn,ZpC,Xau,UInt8.ofNat_toNat]
end
section
def Zeg:=(aI (aI (aI (aI (aI (aI @Ztp @ZmV) (aI @Zix @Zsz)) (aI (aI @ZlF @Zlp) (aI @ZpG @ZuB))) (aI (aI (aI @ZiG @ZhV) (aI @Zmr @Ziu)) (aI (aI @Zk4 @ZrP) (aI @Zvo @ZpH)))) (aI (aI (aI (aI @Zsk @ZlY) (aI @ZqW @ZtG)) (aI (aI @ZsN @Zlh) (aI @Zte @Zmi))) (aI (aI (aI @Zrj @Zqd) (aI @Zre @Zlo)) (aI (aI @Zmj @ZJ) (aI @Zqc @Zu4))))) (aI (aI (aI (aI (aI @Zse @Zto) (aI @Zrp @Zq2)) (aI (aI @Zso @Zn5) (aI @ZnO @Zlf))) (aI (aI (aI @Zt4 @ZuU) (aI @Zuc @Zap)) (aI (aI @ZiM @ZhF) (aI @Zmo @Zst)))) (aI (aI (aI (aI @ZpQ @ZuZ) (aI @ZnV @Zr7)) (aI (aI @ZsO @Ziv) (aI @ZtF @Zrg))) (aI (aI (aI @ZlM @Znl) (aI @ZkR @ZnS)) (aI (aI @ZtT @ZkN) (aI @Zpv @Zrn))))))
def Zet:=(aI (aI (aI (aI (aI (aI @Zmf @Zlq) (aI @Zs6 @ZqI)) (aI (aI @Zpb @ZqN) (aI @ZaE @ZaD))) (aI (aI (aI @ZaI @ZaJ) (aI @ZaL @Zat)) (aI (aI @Zqm @ZqX) (aI @ZqT @Zk7)))) (aI (aI (aI (aI @Znx @ZpM) (aI @ZrI @Zrq)) (aI (aI @ZjS @Ztc) (aI @Ztn @Zud))) (aI (aI (aI @Zn2 @ZsB) (aI @Znr @ZoA)) (aI (aI @Zon @ZrQ) (aI @Zqv @Zng))))) (aI (aI (aI (aI (aI @Zow @Znk) (aI @ZkQ @ZnW)) (aI (aI @Zqp @ZkF) (aI @Zta @ZlA))) (aI (aI (aI @ZrE @Zn3) (aI @Zn0 @Zvb)) (aI (aI @ZtP @Zqz) (aI @ZoL @ZuJ)))) (aI (aI (aI (aI @Ztt @ZkU) (aI @Zn7 @Ztg)) (aI (aI @ZsU @ZpE) (aI @ZrO @Zsh))) (aI (aI (aI @ZpW @Zlm) (aI @Zld @Zl8)) (aI (aI @Zqf @Zmd) (aI @ZnR @Zoo))))))
def ZE:=(aI (aI (aI (aI (aI (aI @Zss @Zt7) (aI @Zpy @Znd)) (aI (aI @ZuO @ZoK) (aI @ZlI @Zqu))) (aI (aI (aI @Zl6 @Zol) (aI @Zl3 @Zqi)) (aI (aI @Zna @ZuY) (aI @Zp5 @Zr9)))) (aI (aI (aI (aI @Zus @Zvj) (aI @ZqE @Zqg)) (aI (aI @Zum @Zrv) (aI @ZnP @ZmJ))) (aI (aI (aI @Zpp @Ztr) (aI @Zli @Zk1)) (aI (aI @Zqj @ZmG) (aI @ZtS @ZsQ))))) (aI (aI (aI (aI (aI @Zr6 @Zri) (aI @ZlG @ZtX)) (aI (aI @Ztm @ZsH) (aI @ZrT @Zur))) (aI (aI (aI @Zr8 @ZoC) (aI @ZlS @Zpf)) (aI (aI @Ztl @Zux) (aI @ZlD @Zmt)))) (aI (aI (aI (aI @Zof @ZqV) (aI @Zqt @Zvl)) (aI (aI @Zvc @Zsu) (aI @ZpB @ZkW))) (aI (aI (aI @Znf @ZmN) (aI @ZsE @Zo6)) (aI (aI @Zt6 @ZrV) (aI @Zua @Zk3))))))
def ZB:=(aI (aI (aI (aI (aI (aI @ZtN @Zno) (aI @Zs0 @Zrc)) (aI (aI @ZmC @Zvg) (aI @ZrG @Zpc))) (aI (aI (aI @Zt8 @Zk8) (aI @ZrM @ZkI)) (aI (aI @ZkL @ZpU) (aI @Znz @ZnQ)))) (aI (aI (aI (aI @Zpx @ZtO) (aI @Zt0 @Zqn)) (aI (aI @ZoI @ZuQ) (aI @ZmH @ZqJ))) (aI (aI (aI @Ztx @ZlB) (aI @Ztj @ZsT)) (aI (aI @Zq8 @Zmb) (aI @Zuj @Zoh))))) (aI (aI (aI (aI (aI @Zty @Zu8) (aI @Zrw @ZqD)) (aI (aI @Zq1 @Zo2) (aI @Zts @ZsX))) (aI (aI (aI @ZkZ @Zl1) (aI @Ztf @Zl0)) (aI (aI @Zl7 @ZoR) (aI @Zn9 @ZpI)))) (aI (aI (aI (aI @Zmw @Zo4) (aI @ZpY @ZkE)) (aI (aI @ZmD @Zk6) (aI @ZmA @Zt3))) (aI (aI (aI @Zrb @ZmE) (aI @Zmp @ZtL)) (aI (aI @Zub @ZuN) (aI @ZsP @Zmk))))))
def ZG:=(aI (aI (aI (aI (aI (aI @ZuG @ZpP) (aI @Zq4 @Znn)) (aI (aI @ZqB @Zt1) (aI @ZlU @Zsc))) (aI (aI (aI @ZsZ @Zpa) (aI @Zok @ZqC)) (aI (aI @Zsq @ZsI) (aI @ZoE @ZoD)))) (aI (aI (aI (aI @ZpX @Zp1) (aI @Zm0 @ZqU)) (aI (aI @Zuy @Zml) (aI @Zpe @Zuf))) (aI (aI (aI @ZlW @Zqx) (aI @Zrh @Zsw)) (aI (aI @ZqA @ZoG) (aI @Zlc @ZuK))))) (aI (aI (aI (aI (aI @ZtA @ZmY) (aI @Zq6 @Zmx)) (aI (aI @ZlR @ZmX) (aI @ZnX @Zk2))) (aI (aI (aI @ZqG @Zqk) (aI @Znb @ZsJ)) (aI (aI @Zo7 @Zm5) (aI @ZpA @Zoa)))) (aI (aI (aI (aI @ZkG @Zo3) (aI @Zlg @ZnB)) (aI (aI @ZrS @ZoJ) (aI @ZsM @Zsv))) (aI (aI (aI @ZqS @Zlu) (aI @Zsx @Zoj)) (aI (aI @ZmB @Zmy) (aI @Zox @ZtD))))))
def Zen:=(aI (aI (aI (aI (aI (aI @Zp6 @Znq) (aI @Zny @ZlJ)) (aI (aI @Zr5 @Zm6) (aI @ZlL @ZuR))) (aI (aI (aI @Zpj @ZsL) (aI @Zu9 @Zvm)) (aI (aI @ZnE @ZpV) (aI @Zl2 @Znt)))) (aI (aI (aI (aI @Zo5 @Zsi) (aI @Zun @ZmZ)) (aI (aI @ZkV @Zos) (aI @Zu5 @ZoQ))) (aI (aI (aI @ZuF @Zrf) (aI @ZtW @ZkY)) (aI (aI @Zm8 @Zui) (aI @Zm4 @Zvf))))) (aI (aI (aI (aI (aI @ZlC @Zqs) (aI @Zp4 @Zvn)) (aI (aI @ZkK @Zsp) (aI @ZrC @ZqZ))) (aI (aI (aI @ZtB @Zvd) (aI @Zn4 @ZoO)) (aI (aI @Zpn @ZpL) (aI @Zt9 @ZoV)))) (aI (aI (aI (aI @Zvh @ZqM) (aI @ZkX @Zvk)) (aI (aI @Zry @Zsa) (aI @ZoF @ZqH))) (aI (aI (aI @Zuk @Zq9) (aI @Zrt @Zs5)) (aI (aI @Znw @Ztk) (aI @Zp2 @Zrz))))))
def ZC:=(aI (aI (aI (aI (aI (aI @Zlx @ZqK) (aI @ZmL @ZrN)) (aI (aI @Zvp @ZmT) (aI @Zpi @Zo1))) (aI (aI (aI @Zpz @Znv) (aI @ZmF @Znj)) (aI (aI @Zls @Zs8) (aI @Zl5 @Zsd)))) (aI (aI (aI (aI @Zmc @Zpg) (aI @ZmU @Zr0)) (aI (aI @Zl4 @ZkM) (aI @Znh @Zs2))) (aI (aI (aI @Zme @ZtQ) (aI @Ztd @ZtC)) (aI (aI @Zk9 @Zl9) (aI @Zr4 @ZoZ))))) (aI (aI (aI (aI (aI @Ztu @Zt2) (aI @Zti @ZpD)) (aI (aI @ZmO @Zs4) (aI @Zpu @ZnF))) (aI (aI (aI @Zln @Zmm) (aI @ZqQ @Zqw)) (aI (aI @Zms @Zs3) (aI @Zop @ZuX)))) (aI (aI (aI (aI @ZoN @ZnG) (aI @Zom @Zo8)) (aI (aI @ZmQ @ZoM) (aI @ZqP @ZrZ))) (aI (aI (aI @ZlP @Zoc) (aI @Zpw @Zm7)) (aI (aI @Zue @ZtR) (aI @Zqo @Zo0))))))
def ZF:=(aI (aI (aI (aI (aI @ZnL (aI @ZrY @ZlH)) (aI (aI @Zsn @Zpt) (aI @Zn6 @ZrH))) (aI (aI @ZoW (aI @Zmn @Zr3)) (aI (aI @ZlK @ZoP) (aI @Zuo @Zqy)))) (aI (aI (aI @Zr1 (aI @ZlX @Zqa)) (aI (aI @ZqO @Zlb) (aI @Zsb @Zq5))) (aI (aI (aI @ZrB @Zru) (aI @ZtI @ZkT)) (aI (aI @ZrW @Zs9) (aI @Zsy @ZpF))))) (aI (aI (aI (aI @Zph (aI @ZtU @Zp0)) (aI (aI @Zpq @Zpk) (aI @Zog @ZuW))) (aI (aI (aI @Zmu @ZtE) (aI @Zpd @ZtZ)) (aI (aI @ZrR @Zth) (aI @Zu7 @ZkJ)))) (aI (aI (aI @Zuv (aI @Zva @Zmq)) (aI (aI @Zpo @ZmW) (aI @Znc @Zov))) (aI (aI (aI @Zm1 @Zrd) (aI @ZuD @Zp9)) (aI (aI @ZsW @Zou) (aI @ZEA @Zrx))))))
def Zeq:=(aI (aI (aI (aI (aI (aI @List.map_cons.{0,0} @List.map_nil.{0,0}) (aI @List.length_cons.{0} @List.length_nil.{0})) (aI (aI @List.replicate_zero.{0} @List.replicate_succ.{0}) (aI @List.append_nil.{0} @List.nil_append.{0}))) (aI (aI (aI @List.cons_append.{0} @List.getElem?_cons_zero.{0}) (aI @List.getElem?_cons_succ.{0} @List.set_cons_zero.{0})) (aI (aI @List.set_cons_succ.{0} @Nat.add_zero) (aI @Nat.zero_add @Bool.true_or)))) (aI (aI (aI (aI @Bool.false_or @Bool.or_true) (aI @Bool.or_false @Bool.and_true)) (aI (aI @Bool.true_and @Bool.and_self) (aI @Bool.and_false @Bool.false_and))) (aI (aI (aI @if_true.{1} @if_false.{1}) (aI @ite_true.{1} @ite_false.{1})) (aI (aI @Option.map_some.{0,0} @Option.map_none.{0,0}) (aI @and_self @and_true))))) (aI (aI (aI (aI (aI @true_and @and_false) (aI @false_and @true_or)) (aI (aI @or_true @false_or) (aI @or_false @not_true_eq_false))) (aI (aI (aI @not_false_eq_true @List.drop_zero.{0}) (aI @List.drop_succ_cons.{0} @List.take_succ_cons.{0})) (aI (aI @List.take_zero.{0} @List.all_cons.{0}) (aI @List.all_nil.{0} @List.isEmpty_nil.{0})))) (aI (aI (aI (aI @Bool.not_false @Bool.not_true) (aI @List.length_map.{0,0} @Bool.bne_false)) (aI (aI @Bool.bne_true @List.isEmpty_cons.{0}) (aI @List.getD_cons_zero.{0} @List.getD_cons_succ.{0}))) (aI (aI (aI @List.getD_nil.{0} @List.contains_nil.{0}) (aI @List.range_zero @List.flatMap_cons.{0,0})) (aI (aI @List.flatMap_nil.{0,0} @List.zip_cons_cons.{0,0}) (aI @List.zip_nil_left.{0,0} @List.zip_nil_right.{0,0}))))))
def ZD:=@Nat.not_lt_zero
def EQA := (aI (aI (aI (aI (aI (aI (aI Zeg Zet) (aI Zen Zeq)) (aI (aI @exI.eq_1 @nsite.eq_1) (aI @nsite.eq_2 @nsite.eq_3))) (aI (aI (aI @nsite.eq_4 @nsite.eq_5) (aI @nsite.eq_6 @nsite.eq_7)) (aI (aI @nsite.eq_8 @nsite.eq_9) (aI @nsite.eq_10 (aI @nsite.eq_11 @nsite.eq_12))))) (aI (aI (aI (aI @nsite.eq_13 @nsite.eq_14) (aI @nsite.eq_15 @freeAt.eq_1)) (aI (aI @execI.eq_1 @execI.eq_2) (aI @execI.eq_3 (aI @execI.eq_4 @execI.eq_5)))) (aI (aI (aI @execI.eq_6 @execI.eq_7) (aI @execI.eq_8 @execI.eq_9)) (aI (aI @execI.eq_10 @execI.eq_11) (aI @execI.eq_12 (aI @execI.eq_13 @execI.eq_14)))))) (aI (aI (aI (aI (aI @execI.eq_15 @execI.eq_16) (aI @execI.eq_17 @execI.eq_18)) (aI (aI @execI.eq_19 @execI.eq_20) (aI @execI.eq_21 (aI @execI.eq_22 @execI.eq_23)))) (aI (aI (aI @execI.eq_24 @execI.eq_25) (aI @execI.eq_26 @execI.eq_27)) (aI (aI @execI.eq_28 @execI.eq_29) (aI @execI.eq_30 (aI @execI.eq_31 @execI.eq_32))))) (aI (aI (aI (aI @execI.eq_33 @execI.eq_34) (aI @execI.eq_35 @execI.eq_36)) (aI (aI @execI.eq_37 @execI.eq_38) (aI @execI.eq_39 (aI @execI.eq_40 @execI.eq_41)))) (aI (aI (aI @execI.eq_42 @execI.eq_43) (aI @execI.eq_44 @execI.eq_45)) (aI (aI @execI.eq_46 @execI.eq_47) (aI @execI.eq_48 (aI @execI.eq_49 @execI.eq_50))))))) (aI (aI (aI (aI (aI (aI @execI.eq_51 @execI.eq_52) (aI @execI.eq_53 @Opd.ev.eq_1)) (aI (aI @Opd.ev.eq_2 @tget.eq_1) (aI @tget.eq_2 (aI @tins.eq_1 @tins.eq_2)))) (aI (aI (aI @tput.eq_1 @tput.eq_2) (aI @keepL.eq_1 @sitesOf.eq_1)) (aI (aI @resA.eq_1 @resAll.eq_1) (aI @resAll.eq_2 (aI @resOne.eq_1 @resOne.eq_2))))) (aI (aI (aI (aI @enterA.eq_1 @enterA.eq_2) (aI @partA.eq_1 @partA.eq_2)) (aI (aI @faddrA.eq_1 @faddrA.eq_2) (aI @faddrA.eq_3 (aI @faddrA.eq_4 @setAt.eq_1)))) (aI (aI (aI @binA.eq_1 @binA.eq_2) (aI @binA.eq_3 @binA.eq_4)) (aI (aI @binA.eq_5 @arithA.eq_1) (aI @arithA.eq_2 (aI @arithA.eq_3 @arithA.eq_4)))))) (aI (aI (aI (aI (aI @arithA.eq_5 @arithA.eq_6) (aI @arithA.eq_7 @arithA.eq_8)) (aI (aI @arithA.eq_9 @arithA.eq_10) (aI @arithA.eq_11 (aI @arithA.eq_12 @arithA.eq_13)))) (aI (aI (aI @arithA.eq_14 @arithA.eq_15) (aI @arithA.eq_16 @ldA.eq_1)) (aI (aI @ldA.eq_2 @ldA.eq_3) (aI @ldA.eq_4 (aI @stA.eq_1 @stA.eq_2))))) (aI (aI (aI (aI @stA.eq_3 @oI.eq_1) (aI @oN.eq_1 @oM.eq_1)) (aI (aI @oF.eq_1 @oL.eq_1) (aI @List.sum_cons.{0} (aI @List.sum_nil.{0} @eq_self.{1})))) (aI (aI (aI @beq_self_eq_true.{0} @Bool.false_eq_true) (aI @Option.some.injEq.{0} @decide_true)) (aI (aI @decide_false @List.foldl_cons.{0, 0}) (aI @List.foldl_nil.{0, 0} (aI @List.contains_cons.{0} @ne_eq.{1}))))))))
end
section
theorem ZDK (a b:Zb4):E 35 [Zb a,Zb b] []=some (.bool (a.id == b.id && a.num == b.num && a.text == b.text && a.pair == b.pair && a.data == b.data),[]):=by
 rw [ZcU (by rfl) ZFS]
 simp -implicitDefEqProofs only [EQA,ZE,ZB,ZG,ZC,ZF,ZD,ZP,ZS,ZQ,ZN,ZL,ZM,ZO,ZT,ZR,implies_true,forall_const,Xk,Xl,Xo,Xe,Xg,Xm,Xj,ZH,ZK,unA,Zu,Zz,unG,reduceCtorEq,Zo,decide_eq_true_eq,Xh,Xc,ite_self,↓reduceIte,Zy,ZI,gcT,gcA,Zm,Zf,Zd,Ze,Zk,Zc,Zl,Zg,Zp,Xd,ZDe,Zuh,ZDX,Zr,Zh,Zi,Zb,Zx,ZJ,ZJ]
theorem ZzK (a b:Zb4):(a.id == b.id && a.num == b.num && a.text == b.text && a.pair == b.pair && a.data == b.data)=(a == b):=by
 obtain ⟨i,n,t,p,d⟩:=a
 obtain ⟨i',n',t',p',d'⟩:=b
 rw [Bool.eq_iff_iff]
 simp [and_assoc]
theorem ZzM (a:Zb4):ZaO (Zb a)=true:=by
 simp -implicitDefEqProofs only [EQA,implies_true,forall_const,Ztp,ZmV,Zix,Zsz,ZlF,Zlp,ZpG,ZuB,ZiG,ZhV,Zmr,Ziu,Zk4,ZrP,Zvo,Xw,XS,Xq,Xy,List.replicate_zero,WC,X2,XI,X1,XN,XC,W7,W8,Wm,XK,Xk,Xl,Xo,Xe,Xg,Xm,Xj,Xay,XbC,Xba,Xa3,Xbh,W3,WX,XbA,W0,if_true,if_false,ite_true,ite_false,X4,Xbl,and_self,and_true,true_and,and_false,false_and,true_or,or_true,false_or,or_false,not_true_eq_false,not_false_eq_true,WF,Wi,Wh,WL,Xi,Xp,ZH,ZK,unA,ZpH,Zsk,ZlY,ZqW,ZtG,ZsN,Zlh,Zte,Zmi,Zrj,Zqd,Zre,Zlo,Zmj,Zu,Zz,unG,reduceCtorEq,Zo,ZJ,decide_eq_true_eq,Xh,Xc,Zqc,Zu4,Zse,Zto,Zrp,Zq2,Zso,Zn5,ZnO,Zlf,Zt4,ZuU,Zuc,Zap,ZiM,ZhF,Zmo,Zst,ZpQ,ZuZ,ZnV,Zr7,ZsO,Ziv,ZtF,Zrg,ZlM,Znl,ZkR,ZnS,ZtT,ZkN,Zpv,Zrn,Zmf,Zlq,Zs6,ZqI,Zpb,ZqN,Xab,WG,WD,XL,Bool.bne_false,Bool.bne_true,ZP,ZS,ZQ,ZN,ZaE,ZaD,ZaI,ZaJ,ZaL,Zat,XaG,XA,XD,List.getD_nil,ZL,Zqm,ZqX,ZqT,Zk7,Znx,ZpM,ZrI,Zrq,ZM,ZO,ZT,ZR,ite_self,ZjS,Ztc,Ztn,Zud,Zn2,ZsB,Znr,ZoA,Zon,ZrQ,Zqv,Zng,Zow,Znk,ZkQ,ZnW,Zqp,ZkF,Zta,ZlA,ZrE,Zn3,Zn0,Zvb,ZtP,Zqz,ZoL,ZuJ,Ztt,ZkU,Zn7,Ztg,ZsU,ZpE,ZrO,Zsh,ZpW,Zlm,Zld,Zl8,Zqf,Zmd,ZnR,Zoo,Zss,Zt7,Zpy,Znd,ZuO,ZoK,ZlI,Zqu,Zl6,Zol,Zl3,Zqi,Zna,ZuY,Zp5,Zr9,Zus,Zvj,ZqE,Zqg,Zum,Zrv,ZnP,ZmJ,Zpp,Ztr,Zli,Zk1,Zqj,ZmG,ZtS,ZsQ,Zr6,Zri,ZlG,ZtX,Ztm,ZsH,ZrT,Zur,Zr8,ZoC,ZlS,Zpf,Ztl,Zux,ZlD,Zmt,Zof,ZqV,Zqt,Zvl,Zvc,Zsu,ZpB,ZkW,Znf,ZmN,ZsE,Zo6,Zt6,ZrV,Zua,Zk3,ZtN,Zno,Zs0,Zrc,ZmC,Zvg,ZrG,Zpc,Zt8,Zk8,ZrM,ZkI,ZkL,ZpU,Znz,ZnQ,Zpx,ZtO,Zt0,Zqn,ZoI,ZuQ,ZmH,ZqJ,Ztx,ZlB,Ztj,ZsT,Zq8,Zmb,Zuj,Zoh,Zty,Zu8,Zrw,ZqD,Zq1,Zo2,Zts,ZsX,ZkZ,Zl1,Ztf,Zl0,Zl7,ZoR,Zn9,ZpI,Zmw,Zo4,ZpY,ZkE,ZmD,Zk6,ZmA,Zt3,Zrb,ZmE,Zmp,ZtL,Zub,ZuN,ZsP,Zmk,ZuG,ZpP,Zq4,Znn,ZqB,Zt1,ZlU,Zsc,ZsZ,Zpa,Zok,ZqC,Zsq,ZsI,ZoE,ZoD,ZpX,Zp1,Zm0,ZqU,Zuy,Zml,Zpe,Zuf,ZlW,Zqx,Zrh,Zsw,ZqA,ZoG,Zlc,ZuK,ZtA,ZmY,Zq6,Zmx,ZlR,ZmX,ZnX,Zk2,ZqG,Zqk,Znb,ZsJ,Zo7,Zm5,ZpA,Zoa,ZkG,Zo3,Zlg,ZnB,ZrS,ZoJ,ZsM,Zsv,ZqS,Zlu,Zsx,Zoj,ZmB,Zmy,Zox,ZtD,Zp6,Znq,Zny,ZlJ,Zr5,Zm6,ZlL,ZuR,Zpj,ZsL,Zu9,Zvm,ZnE,ZpV,Zl2,Znt,Zo5,Zsi,Zun,ZmZ,ZkV,Zos,Zu5,ZoQ,ZuF,Zrf,ZtW,ZkY,Zm8,Zui,Zm4,Zvf,ZlC,Zqs,Zp4,Zvn,ZkK,Zsp,ZrC,ZqZ,ZtB,Zvd,Zn4,ZoO,Zpn,ZpL,Zt9,ZoV,Zvh,ZqM,ZkX,Zvk,Zry,Zsa,ZoF,ZqH,Zuk,Zq9,Zrt,Zs5,Znw,Ztk,Zp2,Zrz,Zlx,ZqK,ZmL,ZrN,Zvp,ZmT,Zpi,Zo1,Zpz,Znv,ZmF,Znj,Zls,Zs8,Zl5,Zsd,Zmc,Zpg,ZmU,Zr0,Zl4,ZkM,Znh,Zs2,Zme,ZtQ,Ztd,ZtC,Zk9,Zl9,Zr4,ZoZ,Ztu,Zt2,Zti,ZpD,ZmO,Zs4,Zpu,ZnF,Zln,Zmm,ZqQ,Zqw,Zms,Zs3,Zop,ZuX,ZoN,ZnG,Zom,Zo8,ZmQ,ZoM,ZqP,ZrZ,ZlP,Zoc,Zpw,Zm7,Zue,ZtR,Zqo,Zo0,ZnL,ZrY,ZlH,Zsn,Zpt,Zn6,ZrH,ZoW,Zmn,Zr3,ZlK,ZoP,Zuo,Zqy,Zr1,ZlX,Zqa,ZqO,Zlb,Zsb,Zq5,ZrB,Zru,ZtI,ZkT,ZrW,Zs9,Zsy,ZpF,Zph,ZtU,Zp0,Zpq,Zpk,Zog,ZuW,Zmu,ZtE,Zpd,ZtZ,ZrR,Zth,Zu7,ZkJ,Zuv,Zva,Zmq,Zpo,ZmW,Znc,Zov,Zm1,Zrd,ZuD,Zp9,ZsW,↓reduceIte,Zou,Zy,ZI,Zb,Zx,Zh]
theorem ZGg (a:Zb4):Zal (Zb a)=Zb a:=by
 simp -implicitDefEqProofs only [EQA,implies_true,forall_const,Ztp,ZmV,Zix,Zsz,ZlF,Zlp,ZpG,ZuB,ZiG,ZhV,Zmr,Ziu,Zk4,ZrP,Zvo,Xw,XS,Xq,Xy,List.replicate_zero,WC,X2,XI,X1,XN,XC,W7,W8,Wm,XK,Xk,Xl,Xo,Xe,Xg,Xm,Xj,Xay,XbC,Xba,Xa3,Xbh,W3,WX,XbA,W0,if_true,if_false,ite_true,ite_false,X4,Xbl,and_self,and_true,true_and,and_false,false_and,true_or,or_true,false_or,or_false,not_true_eq_false,not_false_eq_true,WF,Wi,Wh,WL,Xi,Xp,ZH,ZK,unA,ZpH,Zsk,ZlY,ZqW,ZtG,ZsN,Zlh,Zte,Zmi,Zrj,Zqd,Zre,Zlo,Zmj,Zu,Zz,unG,reduceCtorEq,Zo,ZJ,decide_eq_true_eq,Xh,Xc,Zqc,Zu4,Zse,Zto,Zrp,Zq2,Zso,Zn5,ZnO,Zlf,Zt4,ZuU,Zuc,Zap,ZiM,ZhF,Zmo,Zst,ZpQ,ZuZ,ZnV,Zr7,ZsO,Ziv,ZtF,Zrg,ZlM,Znl,ZkR,ZnS,ZtT,ZkN,Zpv,Zrn,Zmf,Zlq,Zs6,ZqI,Zpb,ZqN,Xab,WG,WD,XL,Bool.bne_false,Bool.bne_true,ZP,ZS,ZQ,ZN,ZaE,ZaD,ZaI,ZaJ,ZaL,Zat,XaG,XA,XD,List.getD_nil,ZL,Zqm,ZqX,ZqT,Zk7,Znx,ZpM,ZrI,Zrq,ZM,ZO,ZT,ZR,ite_self,ZjS,Ztc,Ztn,Zud,Zn2,ZsB,Znr,ZoA,Zon,ZrQ,Zqv,Zng,Zow,Znk,ZkQ,ZnW,Zqp,ZkF,Zta,ZlA,ZrE,Zn3,Zn0,Zvb,ZtP,Zqz,ZoL,ZuJ,Ztt,ZkU,Zn7,Ztg,ZsU,ZpE,ZrO,Zsh,ZpW,Zlm,Zld,Zl8,Zqf,Zmd,ZnR,Zoo,Zss,Zt7,Zpy,Znd,ZuO,ZoK,ZlI,Zqu,Zl6,Zol,Zl3,Zqi,Zna,ZuY,Zp5,Zr9,Zus,Zvj,ZqE,Zqg,Zum,Zrv,ZnP,ZmJ,Zpp,Ztr,Zli,Zk1,Zqj,ZmG,ZtS,ZsQ,Zr6,Zri,ZlG,ZtX,Ztm,ZsH,ZrT,Zur,Zr8,ZoC,ZlS,Zpf,Ztl,Zux,ZlD,Zmt,Zof,ZqV,Zqt,Zvl,Zvc,Zsu,ZpB,ZkW,Znf,ZmN,ZsE,Zo6,Zt6,ZrV,Zua,Zk3,ZtN,Zno,Zs0,Zrc,ZmC,Zvg,ZrG,Zpc,Zt8,Zk8,ZrM,ZkI,ZkL,ZpU,Znz,ZnQ,Zpx,ZtO,Zt0,Zqn,ZoI,ZuQ,ZmH,ZqJ,Ztx,ZlB,Ztj,ZsT,Zq8,Zmb,Zuj,Zoh,Zty,Zu8,Zrw,ZqD,Zq1,Zo2,Zts,ZsX,ZkZ,Zl1,Ztf,Zl0,Zl7,ZoR,Zn9,ZpI,Zmw,Zo4,ZpY,ZkE,ZmD,Zk6,ZmA,Zt3,Zrb,ZmE,Zmp,ZtL,Zub,ZuN,ZsP,Zmk,ZuG,ZpP,Zq4,Znn,ZqB,Zt1,ZlU,Zsc,ZsZ,Zpa,Zok,ZqC,Zsq,ZsI,ZoE,ZoD,ZpX,Zp1,Zm0,ZqU,Zuy,Zml,Zpe,Zuf,ZlW,Zqx,Zrh,Zsw,ZqA,ZoG,Zlc,ZuK,ZtA,ZmY,Zq6,Zmx,ZlR,ZmX,ZnX,Zk2,ZqG,Zqk,Znb,ZsJ,Zo7,Zm5,ZpA,Zoa,ZkG,Zo3,Zlg,ZnB,ZrS,ZoJ,ZsM,Zsv,ZqS,Zlu,Zsx,Zoj,ZmB,Zmy,Zox,ZtD,Zp6,Znq,Zny,ZlJ,Zr5,Zm6,ZlL,ZuR,Zpj,ZsL,Zu9,Zvm,ZnE,ZpV,Zl2,Znt,Zo5,Zsi,Zun,ZmZ,ZkV,Zos,Zu5,ZoQ,ZuF,Zrf,ZtW,ZkY,Zm8,Zui,Zm4,Zvf,ZlC,Zqs,Zp4,Zvn,ZkK,Zsp,ZrC,ZqZ,ZtB,Zvd,Zn4,ZoO,Zpn,ZpL,Zt9,ZoV,Zvh,ZqM,ZkX,Zvk,Zry,Zsa,ZoF,ZqH,Zuk,Zq9,Zrt,Zs5,Znw,Ztk,Zp2,Zrz,Zlx,ZqK,ZmL,ZrN,Zvp,ZmT,Zpi,Zo1,Zpz,Znv,ZmF,Znj,Zls,Zs8,Zl5,Zsd,Zmc,Zpg,ZmU,Zr0,Zl4,ZkM,Znh,Zs2,Zme,ZtQ,Ztd,ZtC,Zk9,Zl9,Zr4,ZoZ,Ztu,Zt2,Zti,ZpD,ZmO,Zs4,Zpu,ZnF,Zln,Zmm,ZqQ,Zqw,Zms,Zs3,Zop,ZuX,ZoN,ZnG,Zom,Zo8,ZmQ,ZoM,ZqP,ZrZ,ZlP,Zoc,Zpw,Zm7,Zue,ZtR,Zqo,Zo0,ZnL,ZrY,ZlH,Zsn,Zpt,Zn6,ZrH,ZoW,Zmn,Zr3,ZlK,ZoP,Zuo,Zqy,Zr1,ZlX,Zqa,ZqO,Zlb,Zsb,Zq5,ZrB,Zru,ZtI,ZkT,ZrW,Zs9,Zsy,ZpF,Zph,ZtU,Zp0,Zpq,Zpk,Zog,ZuW,Zmu,ZtE,Zpd,ZtZ,ZrR,Zth,Zu7,ZkJ,Zuv,Zva,Zmq,Zpo,ZmW,Znc,Zov,Zm1,Zrd,ZuD,Zp9,ZsW,↓reduceIte,Zou,Zy,ZI,Zb,Zx,Zh]
theorem ZFO (σ:Za) (sq own:Nat) (view:Bool) (i n:Int) (t p d:Zt) (i' n':Int) (t' p' d':Zt):Z4 E BY σ sq 35 own view [.agg [.int .i64 i,.int .i64 n,.str t,.str p,.lst false (d.map Zn)],.agg [.int .i64 i',.int .i64 n',.str t',.str p',.lst false (d'.map Zn)]]=some (.bool (i == i' && n == n' && t == t' && p == p' && d == d'),σ,{}) :=
 ZfL (ZDK ⟨i,n,t,p,d⟩ ⟨i',n',t',p',d'⟩) (by kernel_rfl) (by simp only [Xi,ZzM];rfl) (by simp only [Xw,ZGg];rfl) rfl (fun _=>rfl) _ _ _ _
theorem ZyC (a b:List Zb4) (h:a.length=b.length) (hl:a.length<=9223372036854775807):∀ (r s:List Zb4) (i:Nat),a.drop i=r->b.drop i=s->Zi3 0 [(5,.int .i64 i),(1,Zi b),(0,Zi a)] []=some (.bool (r == s),[])
 | [],s,i,ha,hb=>by
  have hs:s=[]:=by
   subst hb;rw [Wx] at ha ⊢;omega
  subst hs
  have h1:=Zf0 ha
  unfold Zi3
  rw [Zbe]
  simp -implicitDefEqProofs only [EQA,ZE,ZB,ZG,ZC,ZF,ZD,ZP,ZS,ZQ,ZN,ZL,ZM,ZO,ZT,ZR,implies_true,forall_const,Xk,Xl,Xo,Xe,Xg,Xm,Xj,ZH,ZK,unA,Zu,Zz,unG,reduceCtorEq,Zo,decide_eq_true_eq,Xh,Xc,ite_self,↓reduceIte,Zy,ZI,gcT,gcA,Zm,Zf,Zd,Ze,Zk,Zc,Zl,Zg,Zp,Xd,Zka,Zg6,ZiN,ZiK,ZgX,ZjD,Zg9,Zr,Zh,Zi,Zb,Zx,ZJ,h1]
 | x::r,[],i,ha,hb=>by
  have:=(Zbn ha).2.2;rw [Wx] at hb;omega
 | x::r,y::s,i,ha,hb=>by
  have ih:=ZyC a b h hl r s (i+1) (Zbn ha).2.1 (Zbn hb).2.1
  have h1:(i:Int) < a.length:=by have:=(Zbn ha).2.2;omega
  have e1:=iad (Zbn ha).1 Zb (k:=5) rfl
  have e2:=iad (Zbn hb).1 Zb (k:=5) rfl
  have e3:=Zyk h1 hl
  unfold Zi3 at ih ⊢
  rw [Zbe]
  simp -implicitDefEqProofs only [EQA,ZE,ZB,ZG,ZC,ZF,ZD,ZP,ZS,ZQ,ZN,ZL,ZM,ZO,ZT,ZR,implies_true,forall_const,Xk,Xl,Xo,Xe,Xg,Xm,Xj,ZH,ZK,unA,Zu,Zz,unG,reduceCtorEq,Zo,decide_eq_true_eq,Xh,Xc,ite_self,↓reduceIte,Zy,ZI,gcT,gcA,Zm,Zf,Zd,Ze,Zk,Zc,Zl,Zg,Zp,Xd,Zka,Zg6,ZiN,ZiK,ZgX,ZjD,Zg9,Zr,Zh,Zi,Zb,Zx,ZJ,h1,e1,e2,e3,ZFO]
  simp only [Zi] at ih
  rw [ih,ZzK]
  by_cases hx:x=y <;> simp [hx]
theorem ZBq (a b:List Zb4) (hl:a.length<=9223372036854775807):E 29 [Zi a,Zi b] []=some (.bool (a == b),[]):=by
 rw [ZcU (by rfl) Zz0]
 by_cases h:a.length=b.length
 ·have:=ZyC a b h hl a b 0 rfl rfl
  unfold Zi3 at this
  simp only [Zi] at this
  have e:=Zwj h
  simp -implicitDefEqProofs only [EQA,ZE,ZB,ZG,ZC,ZF,ZD,ZP,ZS,ZQ,ZN,ZL,ZM,ZO,ZT,ZR,implies_true,forall_const,Xk,Xl,Xo,Xe,Xg,Xm,Xj,ZH,ZK,unA,Zu,Zz,unG,reduceCtorEq,Zo,decide_eq_true_eq,Xh,Xc,ite_self,↓reduceIte,Zy,ZI,gcT,gcA,Zm,Zf,Zd,Ze,Zk,Zc,Zl,Zg,Zp,Xd,Zka,Zg6,ZiN,ZiK,ZgX,ZjD,Zg9,Zr,Zh,Zi,Zb,Zx,ZJ,e]
  exact this
 ·have e:=Zv1 h
  simp -implicitDefEqProofs only [EQA,ZE,ZB,ZG,ZC,ZF,ZD,ZP,ZS,ZQ,ZN,ZL,ZM,ZO,ZT,ZR,implies_true,forall_const,Xk,Xl,Xo,Xe,Xg,Xm,Xj,ZH,ZK,unA,Zu,Zz,unG,reduceCtorEq,Zo,decide_eq_true_eq,Xh,Xc,ite_self,↓reduceIte,Zy,ZI,gcT,gcA,Zm,Zf,Zd,Ze,Zk,Zc,Zl,Zg,Zp,Xd,Zka,Zg6,ZiN,ZiK,ZgX,ZjD,Zg9,Zr,Zh,Zi,Zb,Zx,ZJ,e,ZwV h]
theorem ZAs (σ:Za) (sq own:Nat) (view:Bool) (a b:List Zb4) (hl:a.length<=9223372036854775807):Z4 E BY σ sq 29 own view [.lst false (a.map Zb),.lst false (b.map Zb)]=some (.bool (a == b),σ,{}) :=
 ZfL (ZBq a b hl) (by kernel_rfl) (by simp -implicitDefEqProofs only [Zeg,Zet,ZE,ZB,ZG,Zen,ZC,ZF,Zeq,ZD,eq_self,implies_true,Xu,Zr,Zh,Zi,Zb,Zx,Zr]) (by simp -implicitDefEqProofs only [Zeg,Zet,ZE,ZB,ZG,Zen,ZC,ZF,Zeq,ZD,eq_self,implies_true,Xu,Zr,Zh,Zi,Zb,Zx,Zr]) rfl (fun _=>rfl) _ _ _ _
end
section
end
section
structure ZU where
 topic:Zt
 payload:Zt
 qos:Int
 retain:Bool
 sender:Zt
 expires:Int
 props:List Zb4
 origin:Int
 number:Int
 hops:Int
 deriving DecidableEq
structure Zcs where
 note:ZU
 qos:Int
 retain:Bool
 ids:List Int
 share:Zt
 deriving DecidableEq
def ZX (n:ZU):List AVal:=[.str n.topic,Zh n.payload,.int .i64 n.qos,.bool n.retain,.str n.sender,.int .i64 n.expires,Zi n.props,.int .i64 n.origin,.int .i64 n.number,.int .i64 n.hops]
def Za7 (n:ZU):AVal:=.agg (ZX n)
def Zbl (n:Zcs):List AVal:=[.str n.note.topic,Zh n.note.payload,.int .i64 n.note.qos,.bool n.note.retain,.str n.note.sender,.int .i64 n.note.expires,Zi n.note.props,.int .i64 n.note.origin,.int .i64 n.note.number,.int .i64 n.note.hops,.int .i64 n.qos,.bool n.retain,Zr n.ids,.str n.share]
def ZbJ (n:Zcs):AVal:=.agg (Zbl n)
def Zgo (a b:ZU):Bool:=a.topic == b.topic && a.payload == b.payload && a.qos == b.qos && a.retain == b.retain && a.sender == b.sender && a.expires == b.expires && a.props == b.props && a.origin == b.origin && a.number == b.number && a.hops == b.hops
theorem Zy9 (a b:ZU) (hl:a.props.length<=9223372036854775807):E 13 [Za7 a,Za7 b] []=some (.bool (Zgo a b),[]):=by
 rw [ZcU (by rfl) ZAQ]
 simp -implicitDefEqProofs only [EQA,ZE,ZB,ZG,ZC,ZF,ZD,ZP,ZS,ZQ,ZN,ZL,ZM,ZO,ZT,ZR,implies_true,forall_const,Xk,Xl,Xo,Xe,Xg,Xm,Xj,ZH,ZK,unA,Zu,Zz,unG,reduceCtorEq,Zo,decide_eq_true_eq,Xh,Xc,ite_self,↓reduceIte,Zy,ZI,gcT,gcA,Zm,Zf,Zd,Ze,Zk,Zc,Zl,Zg,Zp,Xd,ZC8,Zmz,ZFI,Zr,Zh,Zi,Zb,Zx,ZJ,Za7,ZX,ZAs,hl,Zgo]
theorem Zot (σ:Za) (sq own:Nat) (view:Bool) (a b:ZU) (hl:a.props.length<=9223372036854775807):Z4 E BY σ sq 13 own view [.agg [.str a.topic,.lst false (a.payload.map Zn),.int .i64 a.qos,.bool a.retain,.str a.sender,.int .i64 a.expires,.lst false (a.props.map Zb),.int .i64 a.origin,.int .i64 a.number,.int .i64 a.hops],.agg [.str b.topic,.lst false (b.payload.map Zn),.int .i64 b.qos,.bool b.retain,.str b.sender,.int .i64 b.expires,.lst false (b.props.map Zb),.int .i64 b.origin,.int .i64 b.number,.int .i64 b.hops]]=some (.bool (Zgo a b),σ,{}) :=
 ZfL (Zy9 a b hl) (by kernel_rfl) (by simp -implicitDefEqProofs only [Zeg,Zet,ZE,ZB,ZG,Zen,ZC,ZF,Zeq,ZD,eq_self,implies_true,Xu,Zr,Zh,Zi,Zb,Zx,Za7,ZX]) (by simp -implicitDefEqProofs only [Zeg,Zet,ZE,ZB,ZG,Zen,ZC,ZF,Zeq,ZD,eq_self,implies_true,Xu,Zr,Zh,Zi,Zb,Zx,Za7,ZX]) rfl (fun _=>rfl) _ _ _ _
end
section
theorem Zxb {O:Z7} {bf:Nat->Bool} {σ:Za} {sq f own:Nat} {view:Bool} {args:List AVal} (h:args.all ZaO=true) (hm:args.map Zal=args) :
  Z4 O bf σ sq f own view args=ZaP σ σ [] [] sq own (ZaC view 0 (O f args [])):=by
 cases hb:bf f
 ·rw [Zdr hb h,hm]
 ·have hr:=ZkA h
  have hn:=fun ρ=>ZjG (ρ:=ρ) h
  rw [hm] at hr
  simp only [hm] at hn
  unfold Z4 ZcZ
  rw [hb]
  simp only [if_true]
  have h1:ZV σ []=σ:=rfl
  rw [h1,hr]
  have h2:Zf σ 1000 [] []=[]:=rfl
  rw [h2]
  unfold Zck
  simp only [Xp,if_true,hn,Ze,Xy]
theorem ZF2 {O:Z7} {bf:Nat->Bool} {f:Nat} {args:List AVal} {k n:Nat} {xs:List AVal} (h:O f args []=some (.sl 0 0 0 n,[.row 0 k xs])) (hn:xs.length=n) (hp:args.all ZaO=true) (hm:args.map Zal=args) (σ:Za) (sq own:Nat):Z4 O bf σ sq f own true args=some (.lst false xs,σ,{}):=by
 rw [Zxb hp hm,h]
 have : ZaC true 0 (some (.sl 0 0 0 n,[.row 0 k xs]))=some (.lst false xs,[]):=by
  unfold ZaC
  rw [if_pos rfl,Zif (k:=k) (g:=0) (t:=0) (xs:=xs) rfl (by omega),Wk (by omega)]
 rw [this,ZhD _ _ _ _ rfl]
theorem ZwC {O:Z7} {bf:Nat->Bool} {f:Nat} {args:List AVal} {k n:Nat} {xs:List AVal} (h:O f args []=some (.sl 0 0 0 n,[.row 0 k xs])) (hp:args.all ZaO=true) (hm:args.map Zal=args) (σ:Za) (sq:Nat) (hs:freeAt σ sq=true):Z4 O bf σ sq f 1 false args=some (.sl sq 0 0 n,σ.set sq (.row 0 k xs),if xs.all Zba then {} else { any:=true }):=by
 rw [Zxb hp hm,h]
 cases hx:xs.all Zba <;> simp [ZaC,ZaP,Ze5,hx,ZbI,okB,Zc,ZcJ,hs,Zs,Za8,Za9,Zct,Zct,ZaY,ZbB,Zg]
theorem ZFP {O:Z7} {bf:Nat->Bool} {σ:Za} {f:Nat} {args vs:List AVal} {ts:List Nat} {r r':AVal} (hb:bf f=false) (hsh:showAs σ args=some (vs,ts)) (hp:vs.all ZaO=true) (hm:vs.map Zal=vs) (h:O f vs []=some (r,[])) (hv:ZcO 0 (some (r,[]))=some (r',[])) (sq own:Nat) :
  Z4 O bf σ sq f own true args=if Zbg r' then some (r',σ,{ rd:=ts }) else if Zdi σ ts r' then some (r',σ,{ rd:=ts }) else some (Zs (Za8 [] [] sq) r',ZV σ ts,{ rd:=ts,wr:=ts }):=by
 have hr:=ZkA hp
 have hn:=fun ρ=>ZjG (ρ:=ρ) hp
 rw [hm] at hr
 simp only [hm] at hn
 unfold Z4 ZcZ
 rw [hb]
 simp only [Xu,if_false,hsh]
 rw [hr]
 have h2:∀ σ,Zf σ 1000 [] []=[]:=fun _=>rfl
 rw [h2]
 unfold Zck
 simp only [Xp,if_true,hn,Ze,Xy,h]
 have : ZaC true 0 (some (r,[]))=some (r',[]):=by unfold ZaC;rw [if_pos rfl,hv]
 rw [this]
 simp only [ZaP,Xab,WX,if_true]
theorem ZyO {O:Z7} {bf:Nat->Bool} {σ:Za} {f:Nat} {args vs:List AVal} {ts:List Nat} {r r':AVal} (hb:bf f=false) (hsh:showAs σ args=some (vs,ts)) (hp:vs.all ZaO=true) (hm:vs.map Zal=vs) (h:O f vs []=some (r,[])) (hv:ZcO 0 (some (r,[]))=some (r',[])) (hf:Zbg r'=true) (sq own:Nat) :
  Z4 O bf σ sq f own true args=some (r',σ,{ rd:=ts }):=by
 rw [ZFP hb hsh hp hm h hv,if_pos hf]
theorem Zwg {O:Z7} {bf:Nat->Bool} {f:Nat} {args args':List AVal} {r r':AVal} (h:O f args' []=some (r,[])) (hb:bf f=false) (hp:args.all ZaO=true) (hn:args.map Zal=args') (hv:ZcO 0 (some (r,[]))=some (r',[])) (hr:∀ sq,Zs (Za8 [] [] sq) r'=r') (σ:Za) (sq own:Nat):Z4 O bf σ sq f own true args=some (r',σ,{}):=by
 rw [Zdr hb hp,hn,h]
 have : ZaC true 0 (some (r,[]))=some (r',[]):=by
  unfold ZaC
  rw [if_pos rfl];exact hv
 rw [this,ZhD _ _ _ _ (hr sq)]
def ZdQ:List AVal->AVal
 | []=>.lst true []
 | x::xs=>.sl 0 0 0 (x::xs).length
def Zcl (k:Nat):List AVal->Za
 | []=>[]
 | x::xs=>[.row 0 k (x::xs)]
theorem ZpT:ZdQ []=.lst true []:=rfl
theorem Zoq (x:AVal) (xs:List AVal):ZdQ (x::xs)=.sl 0 0 0 (x::xs).length:=rfl
theorem Zdp (k:Nat):Zcl k []=[]:=rfl
theorem ZgI (k:Nat) (x:AVal) (xs:List AVal):Zcl k (x::xs)=[.row 0 k (x::xs)]:=rfl
theorem Zyi {O:Z7} {bf:Nat->Bool} {f k:Nat} {args args':List AVal} {full:List AVal} (h:O f args' []=some (ZdQ full,Zcl k full)) (hb:bf f=false) (hp:args.all ZaO=true) (hn:args.map Zal=args') (σ:Za) (sq own:Nat):Z4 O bf σ sq f own true args=some (.lst false full,σ,{}):=by
 cases full with
 | nil=>exact Zwg h hb hp hn rfl (fun _=>rfl) σ sq own
 | cons x xs =>
  rw [Zoq,ZgI] at h
  rw [Zdr hb hp,hn,h]
  have : ZaC true 0 (some (.sl 0 0 0 (x::xs).length,[.row 0 k (x::xs)]))=some (.lst false (x::xs),[]):=by
   unfold ZaC
   rw [if_pos rfl,Zif (k:=k) (g:=0) (t:=0) (xs:=x::xs) rfl (by omega),Wk (by omega)]
  rw [this,ZhD _ _ _ _ rfl]
theorem ZBm (l:Zt):kOk 1 (l.map Zn)=true:=by cases l <;> rfl
end
section
theorem ZEz (l:Zt):kOk 1 (l.map Zn)=true:=by cases l <;> rfl
theorem ZyJ (l:Zt) (h:l.length<=140737488355328):E 36 [.lst false (l.map Zn)] []=some (.sl 0 0 0 (l.map Zn).length,[.row 0 1 (l.map Zn)]):=by
 refine ZdA.2 ⟨1,?_⟩
 show Zfz 1 1 [.lst false (l.map Zn)] []=_
 have h1:(l.map Zn).length*1<=140737488355328/\kOk 1 (l.map Zn)=true:=⟨by simpa using h,ZEz l⟩
 simp only [Zfz,Zo]
 rw [if_pos h1];rfl
theorem ZD5 (σ:Za) (sq own:Nat) (l:Zt) (h:l.length<=140737488355328):Z4 E BY σ sq 36 own true [.lst false (l.map Zn)]=some (.lst false (l.map Zn),σ,{}) :=
 ZF2 (bf:=BY) (ZyJ l h) rfl rfl rfl σ sq own
end
section
structure Z5 where
 filter:Zt
 qos:Int
 noLocal:Bool
 asPublished:Bool
 handling:Int
 id:Int
 deriving DecidableEq
def Zas (s:Z5):AVal:=.agg [.str s.filter,.int .i64 s.qos,.bool s.noLocal,.bool s.asPublished,.int .i64 s.handling,.int .i64 s.id]
structure ZCe where
 topic:Zt
 data:Zt
 qos:Int
 retain:Bool
 props:List Zb4
 deriving DecidableEq
structure ZGl where
 type:Int
 dup:Bool
 qos:Int
 retain:Bool
 id:Int
 topic:Zt
 payload:Zt
 code:Int
 codes:List Int
 props:List Zb4
 subs:List Z5
 filters:List Zt
 clean:Bool
 keep:Int
 client:Zt
 hasWill:Bool
 will:ZCe
 hasUser:Bool
 user:Zt
 hasPassword:Bool
 password:Zt
 present:Bool
 deriving DecidableEq
end
section
theorem ZA2 (l:List Zb4):kOk 5 (l.map Zb)=true:=by cases l <;> rfl
theorem ZDf (l:List Zb4) (h:l.length<=700000000):E 37 [.lst false (l.map Zb)] []=some (.sl 0 0 0 (l.map Zb).length,[.row 0 5 (l.map Zb)]):=by
 refine ZdA.2 ⟨1,?_⟩
 show Zfz 5 72 [.lst false (l.map Zb)] []=_
 have h1:(l.map Zb).length*72<=140737488355328/\kOk 5 (l.map Zb)=true:=⟨by simp;omega,ZA2 l⟩
 simp only [Zfz,Zo]
 rw [if_pos h1];rfl
def ZeA (n:ZU) (a b:Nat):List AVal:=[.str n.topic,.sl a 0 0 n.payload.length,.int .i64 n.qos,.bool n.retain,.str n.sender,.int .i64 n.expires,.sl b 0 0 n.props.length,.int .i64 n.origin,.int .i64 n.number,.int .i64 n.hops]
def ZjB:List AVal:=[.str [],.lst true [],.int .i64 0,.bool false,.str [],.int .i64 0,.lst true [],.int .i64 0,.int .i64 0,.int .i64 0]
structure Zc2 (n:ZU):Prop where
 pay:n.payload.length<=140737488355328
 len:n.props.length<=700000000
 data:∀ p ∈ n.props,p.data.length<=140737488355328
theorem Zzz (n:ZU) (hl:n.props.length<=700000000) (hd:∀ p ∈ n.props,p.data.length<=140737488355328):∀ (r:List Zb4) (i:Nat),n.props.drop i=r ->
  ZjR 0 [(15,.int .i64 i),(14,.int .i64 n.props.length),(2,.ref 0 0),(1,.ref 1 0)] [.var ZjB,.var (ZeA n 2 3),.row 0 1 (n.payload.map Zn),.row 0 5 (n.props.map Zb)] =
  some (.agg (ZeA n 0 1),[.row 0 1 (n.payload.map Zn),.row 0 5 (n.props.map Zb)])
 | [],i,h=>by
  have h1:=Zf0 h
  generalize n.props.map Zb=R at *
  unfold ZjR ZeA ZjB
  generalize n.payload.map Zn=L at *
  rw [Zbe]
  simp -implicitDefEqProofs only [EQA,ZE,ZB,ZG,ZC,ZF,ZD,ZP,ZS,ZQ,ZN,ZL,ZM,ZO,ZT,ZR,implies_true,forall_const,Xk,Xl,Xo,Xe,Xg,Xm,Xj,ZH,ZK,unA,Zu,Zz,unG,reduceCtorEq,Zo,decide_eq_true_eq,Xh,Xc,ite_self,↓reduceIte,Zy,ZI,gcT,gcA,Zm,Zf,Zd,Ze,Zk,Zc,Zl,Zg,Zp,Xd,Zla,ZhO,Zqr,Zu3,ZiB,ZnY,Ziz,Zr,Zh,Zi,Zb,Zx,ZJ,h1,Zae,Z1,Xi,Xp,AVal.cells,Zap,Zat,ZaU,Zav,XZ,X3,Xi,Xp,Xq,Xy,ZaD,ZaE,ZaI,ZaJ,ZaL,XA,XD,Zaf,Zai,Zak,Zau,ZaA,Zaz,ZaH,ZaM,Zaq,ZaK,XJ,XR,Xi,Xp,XF]
  simp [Zay,gcA,Zm,Zf,ZZ,Z6,Zd,Ze,Zk,Zc,Zl,ZW,Zs,Zg,Zp,Xd]
 | p::r,i,h=>by
  have ih:=Zzz n hl hd r (i+1) (Zbn h).2.1
  have hp:=hd p (Xx (Zbn h).1)
  have hC:=fun σ sq own=>ZD5 σ sq own p.data hp
  have h1:(i:Int) < n.props.length:=by have:=(Zbn h).2.2;omega
  have h2:i < n.props.length:=(Zbn h).2.2
  have h0:(0:Int)<=(i:Int):=by omega
  have hg:(n.props.map Zb)[i]?=some (.agg [.int .i64 p.id,.int .i64 p.num,.str p.text,.str p.pair,.lst false (p.data.map Zn)]):=by
   rw [XY,(Zbn h).1];rfl
  have hset:(n.props.map Zb).set i (.agg [.int .i64 p.id,.int .i64 p.num,.str p.text,.str p.pair,.lst false (p.data.map Zn)])=n.props.map Zb:=by
   apply Wa
   intro j
   rw [Xv]
   by_cases e:i=j
   ·subst e;rw [if_pos rfl,if_pos (by simpa using h2),hg]
   ·simp [e]
  have hw:IntKind.i64.wrap ((i:Int)+1)=((i+1:Nat):Int):=by rw [Zcm (by omega) (by omega)];rfl
  have hn:((i:Nat):Int).toNat=i:=Xau i
  generalize n.props.map Zb=R at *
  generalize p.data.map Zn=D at *
  unfold ZjR ZeA ZjB at *
  generalize n.payload.map Zn=L at *
  rw [Zbe]
  simp -implicitDefEqProofs only [EQA,ZE,ZB,ZG,ZC,ZF,ZD,ZP,ZS,ZQ,ZN,ZL,ZM,ZO,ZT,ZR,implies_true,forall_const,Xk,Xl,Xo,Xe,Xg,Xm,Xj,ZH,ZK,unA,Zu,Zz,unG,reduceCtorEq,Zo,decide_eq_true_eq,Xh,Xc,ite_self,↓reduceIte,Zy,ZI,gcT,gcA,Zm,Zf,Zd,Ze,Zk,Zc,Zl,Zg,Zp,Xd,Zla,ZhO,Zqr,Zu3,ZiB,ZnY,Ziz,Zr,Zh,Zi,Zb,Zx,ZJ,h1,h0,h2,hg,hset,hC,hw,hn,ZaG,ZdD,Zag,Zad,ZV,Zae,Z1,Xi,Xp,AVal.cells,XK,Zap,Zat,ZaU,Zav,XZ,X3,Xi,Xp,Xq,Xy,ZaD,ZaE,ZaI,ZaJ,ZaL,XA,XD,Zaf,Zai,Zak,Zau,ZaA,Zaz,ZaH,ZaM,Zaq,ZaK,XJ,XR,Xi,Xp,XF]
  exact ih
theorem ZF1 (n:ZU) (hn:Zc2 n):E 30 [Za7 n] []=some (.agg (ZeA n 0 1),[.row 0 1 (n.payload.map Zn),.row 0 5 (n.props.map Zb)]):=by
 have h:=Zzz n hn.len hn.data n.props 0 rfl
 have z:((0:Nat):Int)=0:=rfl
 rw [z] at h
 have c1:=fun σ sq hs=>ZwC (bf:=BY) (ZyJ n.payload hn.pay) rfl rfl σ sq hs
 have c2:=fun σ sq hs=>ZwC (bf:=BY) (ZDf n.props hn.len) rfl rfl σ sq hs
 rw [XL] at c1 c2
 unfold ZeA ZjB at h
 unfold ZeA Za7 ZX Zh Zi
 generalize n.payload.map Zn=P at *
 generalize n.props.map Zb=R at *
 unfold ZjR at h
 rw [ZcU (by rfl) ZEJ]
 simp -implicitDefEqProofs only [EQA,ZE,ZB,ZG,ZC,ZF,ZD,ZP,ZS,ZQ,ZN,ZL,ZM,ZO,ZT,ZR,implies_true,forall_const,Xk,Xl,Xo,Xe,Xg,Xm,Xj,ZH,ZK,unA,Zu,Zz,unG,reduceCtorEq,Zo,decide_eq_true_eq,Xh,Xc,ite_self,↓reduceIte,Zy,ZI,gcT,gcA,Zm,Zf,Zd,Ze,Zk,Zc,Zl,Zg,Zp,Xd,Zla,ZhO,Zqr,Zu3,ZiB,ZnY,Ziz,Zr,Zh,Zi,Zb,Zx,ZJ,c1,c2,Zae,Z1,Xi,Xp,AVal.cells]
 exact h
theorem ZCP (n:ZU) (hn:Zc2 n) (σ:Za) (sq:Nat) (h1:σ[sq]?=some .free) (h2:σ[sq+1]?=some .free):Z4 E BY σ sq 30 2 false [.agg [.str n.topic,.lst false (n.payload.map Zn),.int .i64 n.qos,.bool n.retain,.str n.sender,.int .i64 n.expires,.lst false (n.props.map Zb),.int .i64 n.origin,.int .i64 n.number,.int .i64 n.hops]]=some (.agg (ZeA n sq (sq+1)),(σ.set sq (.row 0 1 (n.payload.map Zn))).set (sq+1) (.row 0 5 (n.props.map Zb)),{ any:=true }):=by
 rw [Zdr (by kernel_rfl) rfl]
 simp only [Xw,XS,Zal,ZaZ]
 have h:=ZF1 n hn
 unfold Za7 ZX Zh Zi at h
 rw [h]
 unfold ZeA
 have hf:ZcJ σ sq 2=true:=by simp [ZcJ,freeAt,h1,h2]
 simp [ZaC,ZaP,Ze5,ZbI,okB,Zql,Zdg,Zc,hf,Zs,ZW,Za8,Za9,Zct,ZaY,ZbB,Zg]
end
section
theorem ZFv {O:Z7} {bf:Nat->Bool} {σ:Za} {t sq f own k:Nat} {view:Bool} {args args' xs xs':List AVal} {r:AVal} {b':Zq} (hs:σ[t]?=some (.row 0 k xs)) (hb:bf f=true) (hff:ZcJ σ sq own=true)
  (href:ZZ args=[t]) (hren:∀ ρ:Rho,ρ t 0=some (0,0)->ZW ρ args=args') (hr:∀ ρ:Rho,Zs ρ r=r) (hb':b'=.row 0 k xs'\/b'=.frow 0 k xs')
  (h:ZaC view 1 (O f args' [.row 0 k xs])=some (r,[b'])):Z4 O bf σ sq f own view args=some (r,σ.set t b',{ any:=true }):=by
 have hd:σ.getD t .free=.row 0 k xs:=by simp [Xn,hs]
 have hf0:ZV σ []=σ:=rfl
 unfold Z4 ZcZ
 rw [hb]
 simp only [if_true,hf0,href]
 have hreach:Zf σ 1000 [t] []=[t]:=by
  simp only [Zf,XF,Xu,if_false,hd,Zp,XI]
 rw [hreach]
 unfold Zck
 have hall:([t].all fun t=>okB (σ.getD t .free))=true:=by simp [Xi,Xp,hs,okB]
 rw [if_pos hall]
 have hρ:Zd σ 0 [t] t 0=some (0,0):=by simp [Zd,Zk,hs,Zc,Zl]
 have hheap:Ze σ 0 [t] (Zd σ 0 [t]) [t] 0=[.row 0 k xs]:=by
  simp only [Ze,hd,Zl,Zc,Zg,Nat.not_lt_zero,false_and,if_false]
 rw [hren _ hρ,hheap]
 simp only [Xq,Xy,XK]
 rw [h]
 have hk:ZbI σ [t] [b'] 0=true:=by
  rcases hb' with rfl | rfl <;> simp [ZbI,okB,hs,ZeG,Zc]
 have hren':∀ ρ,Zg ρ (ZbB σ [t] 0 b') b'=b':=by
  intro ρ
  rcases hb' with rfl | rfl <;> simp [ZbB,hs,Zc,Zg]
 simp only [ZaP,XaG,W0,Xu,if_false,Xq,Xy,XK,Nat.le_add_right,X0,decide_true,hk,hff,WX,if_true,Za9,Zct,ZaY,XA,hr,hren']
 have htl:t < σ.length:=(Xf.1 hs).1
 have hg:(σ.set t b')[t]?=some b':=by simp [htl]
 simp only [X5,XaK,X2,hg]
 rcases hb' with rfl | rfl <;> rfl
end
section
def ZcN (l:List Int):List Int:=l.mergeSort fun x y=>decide (x<=y)
theorem Zx1 {d l:List Int} (h:d.Perm l):ZcN d=ZcN l:=by
 unfold ZcN
 have ht:∀ a b c:Int,decide (a<=b)=true->decide (b<=c)=true->decide (a<=c)=true:=by intro a b c;simp only [decide_eq_true_eq];omega
 have hto:∀ a b:Int,(decide (a<=b) || decide (b<=a))=true:=by intro a b;simp only [WQ,decide_eq_true_eq];omega
 have h1:=XaI ht hto d
 have h2:=XaI ht hto l
 have hp:(d.mergeSort fun x y=>decide (x<=y)).Perm (l.mergeSort fun x y=>decide (x<=y)):=((Xai d _).trans h).trans (Xai l _).symm
 exact hp.eq_of_pairwise (fun a b _ _ h1 h2=>by simp only [decide_eq_true_eq] at h1 h2;omega) h1 h2
theorem Zxv:∀ d:List Int,Zcp Zga (d.map (AVal.int .i64))=some d
 | []=>rfl
 | x::d=>by
  show (Zcp Zga (d.map (AVal.int .i64))).map (x::·)=_
  rw [Zxv d];rfl
theorem ZDg (d:List Int) (h:d.length < 4611686018427387904):E 31 [.sl 0 0 0 d.length] [.row 0 1 (d.map (AVal.int .i64))]=some (.tup [],[.row 0 1 ((ZcN d).map (AVal.int .i64))]):=by
 refine ZdA.2 ⟨1,?_⟩
 show Zjn [.sl 0 0 0 d.length] [.row 0 1 (d.map (AVal.int .i64))]=_
 simp only [Zjn,Zj7,Zxv,XL,h,and_self,if_true]
 rfl
theorem ZFj (d:List Int) (h:d.length < 4611686018427387904) {σ:Za} {t sq:Nat} (hs:σ[t]?=some (.row 0 1 (d.map (AVal.int .i64)))):Z4 E BY σ sq 31 0 true [.sl t 0 0 d.length]=some (.tup [],σ.set t (.row 0 1 ((ZcN d).map (AVal.int .i64))),{ any:=true }):=by
 refine ZFv (args':=[.sl 0 0 0 d.length]) hs (by kernel_rfl) rfl rfl (fun ρ h=>by simp only [ZW,Zs,h]) (fun ρ=>rfl) (XH rfl) ?_
 rw [ZDg d h]
 rfl
theorem ZDp (σ:Za) (sq:Nat):Z4 E BY σ sq 31 0 true [.lst true []]=some (.tup [],σ,{}):=by
 have h:E 31 [.lst true []] []=some (.tup [],[]):=ZdA.2 ⟨1,rfl⟩
 unfold Z4 ZcZ
 rw [show BY 31=true by kernel_rfl]
 simp only [if_true,show ZZ [AVal.lst true []]=[] from rfl,show ZV σ []=σ from rfl]
 rw [show Zf σ 1000 [] []=[] from rfl]
 unfold Zck
 rw [if_pos (by rfl),show ZW (Zd σ 0 []) [AVal.lst true []]=[.lst true []] from rfl,show Ze σ 0 [] (Zd σ 0 []) [] 0=[] from rfl,h]
 rfl
end
section
def ZdE:Zv:=(.seq (.seq (.region [oF 68 2 1,oL 69 68,oI 70 (.len (.t 69)),oI 71 (.bin .gtr (.t 70) (.c (.int .i64 0)))] none [71,4,2,1]) (.cond (.t 71) (.region [oF 72 2 1,oL 73 72,oI 74 (.call 18 0 true [(.t 73)]),oI 75 (.bin .add (.c (.str [36,115,104,97,114,101,47,103,47])) (.t 74)),oF 76 13 4,oN (.st 1 (.t 76) (.t 75))] none [4,2]) .skip)) (.seq (.region [oI 77 (.ld (some 14) (.t 4)),oN (.st 14 (.t 2) (.t 77))] none [2]) .ret))
def Zq7:Zv:=ZdE
def ZdZ:=xw Zq7 ZdE rfl
def ZdJ:Zv:=(.seq (.seq (.region [oM 45 5,oF 46 13 1,oL 47 46,oI 48 (.len (.t 47)),oI 49 (.bin .lss (.t 45) (.t 48)),oM 50 49,⟨(some 51),(.mov (.t 5)),(some (50,true)),[]⟩,⟨(some 52),(.bin .lss (.t 51) (.c (.int .i64 4))),(some (50,true)),[]⟩,oI 53 (.pick (.t 50) (.t 52) (.c (.bool false)))] none [53,5,4,2,1]) (.cond (.t 53) .skip (.exit 0))) (.seq (.block 1 (.region [oF 56 12 4,oL 57 56,oF 58 13 1,oL 59 58,oM 60 5,oI 61 (.iaddr 1 (.t 59) (.t 60)),oL 62 61,oI 63 (.bin .and (.t 62) (.c (.int .i64 16777215))),oI 64 (.bin .add (.c (.int .i64 1)) (.t 63)),oI 65 (.bslice false 1 1 (.int .i64 0) [(0,(.t 64))]),oI 66 (.app 1 8 (.int .i64 0) (.t 57) (.t 65)),oF 67 12 4,oN (.st 1 (.t 67) (.t 66))] (some [(1,3),(1,5),(1,6),(1,9)]) [5,4,2,1])) (.region [oM 54 5,oI 55 (.bin .add (.t 54) (.c (.int .i64 1))),oM 5 55] none [5,4,2,1])))
def ZuH:Zv:=ZdJ
def Zeb:=xw ZuH ZdJ rfl
def ZdC:Zv:=(.seq (.region [oI 1 (.box (.t 0)),oI 2 (.alloc [(.str []),(.lst true []),(.int .i64 0),(.bool false),(.str []),(.int .i64 0),(.lst true []),(.int .i64 0),(.int .i64 0),(.int .i64 0),(.int .i64 0),(.bool false),(.lst true []),(.str [])])] none [2,1]) (.seq (.region [oF 6 0 1,oL 7 6,oI 8 (.call 18 0 true [(.t 7)]),oI 9 (.bin .add (.c (.str [116])) (.t 8)),oF 10 3 1,oL 11 10,oI 12 (.call 19 0 true [(.t 11),(.c (.int .i64 300))]),oF 13 4 1,oL 14 13,oI 15 (.call 20 0 true [(.t 14),(.c (.int .i64 0)),(.c (.int .i64 2))]),oF 16 6 1,oL 17 16,oF 18 1 1,oL 19 18,oI 20 (.call 18 0 true [(.t 19)]),oF 21 9 1,oI 22 (.ld (some 4) (.t 21)),oI 23 (.call 21 0 true [(.t 22)]),oF 24 14 1,oL 25 24,oI 26 (.bin .and (.t 25) (.c (.int .i64 255))),oF 27 15 1,oL 28 27,oI 29 (.bin .and (.t 28) (.c (.int .i64 16777215))),oI 30 (.build [(.str []),(.lst true []),(.int .i64 0),(.bool false),(.str []),(.int .i64 0),(.lst true []),(.int .i64 0),(.int .i64 0),(.int .i64 0)] [(0,1,(.t 9)),(1,1,(.t 12)),(2,1,(.t 15)),(3,1,(.t 17)),(4,1,(.t 20)),(6,1,(.t 23)),(7,1,(.t 26)),(8,1,(.t 29))]),oI 3 (.alloc [(.str []),(.lst true []),(.int .i64 0),(.bool false),(.str []),(.int .i64 0),(.lst true []),(.int .i64 0),(.int .i64 0),(.int .i64 0)]),oN (.st 10 (.t 3) (.t 30))] (some [(1,5),(2,5),(1,8),(2,8),(5,8),(6,8),(1,11),(2,11),(5,11),(6,11),(8,11),(9,11),(1,13),(2,13),(5,13),(6,13),(8,13),(9,13),(11,13),(11,14),(1,16),(2,16),(5,16),(6,16),(8,16),(9,16),(11,16),(13,16),(14,16),(11,17),(1,19),(2,19),(5,19),(6,19),(8,19),(9,19),(11,19),(13,19),(14,19),(16,19),(17,19),(1,22),(2,22),(5,22),(6,22),(8,22),(9,22),(11,22),(13,22),(14,22),(16,22),(17,22),(19,22),(1,25),(2,25),(5,25),(6,25),(8,25),(9,25),(11,25),(13,25),(14,25),(16,25),(17,25),(19,25),(22,25)]) [3,2,1]) (.seq (.seq (.region [oF 31 8 1,oL 32 31,oI 33 (.bin .gtr (.t 32) (.c (.int .i64 0)))] none [33,3,2,1]) (.cond (.t 33) (.region [oF 34 8 1,oL 35 34,oI 36 (.bin .and (.t 35) (.c (.int .i64 65535))),oF 37 5 3,oN (.st 1 (.t 37) (.t 36))] none [3,2,1]) .skip)) (.seq (.region [oI 38 (.ld (some 10) (.t 3)),oF 39 5 1,oL 40 39,oI 41 (.call 20 0 true [(.t 40),(.c (.int .i64 0)),(.c (.int .i64 2))]),oF 42 7 1,oL 43 42,oI 44 (.build [(.str []),(.lst true []),(.int .i64 0),(.bool false),(.str []),(.int .i64 0),(.lst true []),(.int .i64 0),(.int .i64 0),(.int .i64 0),(.int .i64 0),(.bool false),(.lst true []),(.str [])] [(0,10,(.t 38)),(10,1,(.t 41)),(11,1,(.t 43))]),oI 4 (.alloc [(.str []),(.lst true []),(.int .i64 0),(.bool false),(.str []),(.int .i64 0),(.lst true []),(.int .i64 0),(.int .i64 0),(.int .i64 0),(.int .i64 0),(.bool false),(.lst true []),(.str [])]),oN (.st 14 (.t 4) (.t 44))] (some [(0,2),(0,3),(0,5),(2,5),(3,5),(0,7),(2,7),(3,7),(5,7)]) [4,2,1]) (.seq (.seq (.region [oI 5 (.mov (.c (.int .i64 0)))] none [5,4,2,1]) (.block 0 (.loop [5,4,2,1] ZuH))) Zq7)))))
def Zkv:Zam:=⟨[(.cell 2 (some 14))],ZdC⟩
theorem ZAr:FC 6=some Zkv:=by kernel_rfl
theorem Zd5:Zkv.body=ZdC:=rfl
theorem Zd7:Zkv.res=[(.cell 2 (some 14))]:=rfl
noncomputable def Zh6 (m:Nat) (tm:Tms) (σ:Za):Option (AVal×Za):=(Za4 m Zkv (ZcK FC PR BY m Zq7 (Xah (Zbt 0) (evL FC PR BY m [5,4,2,1] ZuH tm σ))))
def Zfl:Zv:=(.seq (.region [oM 62 3,oM 2 62] none [2]) .ret)
def Zqq:Zv:=Zfl
def Zgy:=xw Zqq Zfl rfl
def Zfj:Zv:=(.seq (.seq (.region [oM 37 4,oF 38 3 1,oL 39 38,oI 40 (.len (.t 39)),oI 41 (.bin .lss (.t 37) (.t 40)),oM 42 41,⟨(some 43),(.mov (.t 4)),(some (42,true)),[]⟩,⟨(some 44),(.bin .lss (.t 43) (.c (.int .i64 4))),(some (42,true)),[]⟩,oI 45 (.pick (.t 42) (.t 44) (.c (.bool false)))] none [45,4,3,1]) (.cond (.t 45) .skip (.exit 0))) (.seq (.block 1 (.region [oM 48 3,oF 49 3 1,oL 50 49,oM 51 4,oM 52 4,oI 53 (.bin .add (.t 52) (.c (.int .i64 1))),oI 54 (.slice 1 (.t 50) (some (.t 51)) (some (.t 53)) none),oI 55 (.call 18 0 true [(.t 54)]),oF 56 3 1,oL 57 56,oI 58 (.call 18 0 true [(.t 57)]),oI 59 (.build [(.int .i64 0),(.int .i64 0),(.str []),(.str []),(.lst true [])] [(0,1,(.c (.int .i64 38))),(2,1,(.t 55)),(3,1,(.t 58))]),oI 60 (.bslice false 5 1 (.agg [(.int .i64 0),(.int .i64 0),(.str []),(.str []),(.lst true [])]) [(0,(.t 59))]),oI 61 (.app 5 72 (.agg [(.int .i64 0),(.int .i64 0),(.str []),(.str []),(.lst true [])]) (.t 48) (.t 60)),oM 3 61] (some [(2,9),(6,9),(7,9),(10,10)]) [4,3,1])) (.region [oM 46 4,oI 47 (.bin .add (.t 46) (.c (.int .i64 1))),oM 4 47] none [4,3,1])))
def Zpl:Zv:=Zfj
def ZfX:=xw Zpl Zfj rfl
def Zfb:Zv:=(.seq (.region [oI 1 (.box (.t 0)),oI 2 (.mov (.c (.lst true [])))] none [1]) (.seq (.region [oI 3 (.mov (.c (.lst true [])))] none [3,1]) (.seq (.seq (.region [oF 5 0 1,oL 6 5,oI 7 (.bin .geq (.t 6) (.c (.int .i64 0)))] none [7,3,1]) (.cond (.t 7) (.region [oM 8 3,oF 9 0 1,oL 10 9,oI 11 (.bin .and (.t 10) (.c (.int .i64 1))),oI 12 (.build [(.int .i64 0),(.int .i64 0),(.str []),(.str []),(.lst true [])] [(0,1,(.c (.int .i64 1))),(1,1,(.t 11))]),oI 13 (.bslice false 5 1 (.agg [(.int .i64 0),(.int .i64 0),(.str []),(.str []),(.lst true [])]) [(0,(.t 12))]),oI 14 (.app 5 72 (.agg [(.int .i64 0),(.int .i64 0),(.str []),(.str []),(.lst true [])]) (.t 8) (.t 13)),oM 3 14] none [3,1]) .skip)) (.seq (.seq (.region [oF 15 1 1,oL 16 15,oI 17 (.len (.t 16)),oI 18 (.bin .gtr (.t 17) (.c (.int .i64 0)))] none [18,3,1]) (.cond (.t 18) (.region [oM 19 3,oF 20 1 1,oL 21 20,oI 22 (.call 18 0 true [(.t 21)]),oI 23 (.build [(.int .i64 0),(.int .i64 0),(.str []),(.str []),(.lst true [])] [(0,1,(.c (.int .i64 3))),(2,1,(.t 22))]),oI 24 (.bslice false 5 1 (.agg [(.int .i64 0),(.int .i64 0),(.str []),(.str []),(.lst true [])]) [(0,(.t 23))]),oI 25 (.app 5 72 (.agg [(.int .i64 0),(.int .i64 0),(.str []),(.str []),(.lst true [])]) (.t 19) (.t 24)),oM 3 25] none [3,1]) .skip)) (.seq (.seq (.region [oF 26 2 1,oL 27 26,oI 28 (.len (.t 27)),oI 29 (.bin .gtr (.t 28) (.c (.int .i64 0)))] none [29,3,1]) (.cond (.t 29) (.region [oM 30 3,oF 31 2 1,oL 32 31,oI 33 (.call 19 0 true [(.t 32),(.c (.int .i64 30))]),oI 34 (.build [(.int .i64 0),(.int .i64 0),(.str []),(.str []),(.lst true [])] [(0,1,(.c (.int .i64 9))),(4,1,(.t 33))]),oI 35 (.bslice false 5 1 (.agg [(.int .i64 0),(.int .i64 0),(.str []),(.str []),(.lst true [])]) [(0,(.t 34))]),oI 36 (.app 5 72 (.agg [(.int .i64 0),(.int .i64 0),(.str []),(.str []),(.lst true [])]) (.t 30) (.t 35)),oM 3 36] none [3,1]) .skip)) (.seq (.seq (.region [oI 4 (.mov (.c (.int .i64 0)))] none [4,3,1]) (.block 0 (.loop [4,3,1] Zpl))) Zqq))))))
def Zjx:Zam:=⟨[(.tmp 2)],Zfb⟩
theorem ZFZ:FC 21=some Zjx:=by kernel_rfl
theorem ZgC:Zjx.body=Zfb:=rfl
theorem Zgs:Zjx.res=[(.tmp 2)]:=rfl
noncomputable def Zi0 (m:Nat) (tm:Tms) (σ:Za):Option (AVal×Za):=(Za4 m Zjx (ZcK FC PR BY m Zqq (Xah (Zbt 0) (evL FC PR BY m [4,3,1] Zpl tm σ))))
def ZgS:Zv:=(.seq (.region [oM 25 3,oM 2 25] none [2]) .ret)
def ZsC:Zv:=ZgS
def Zkq:=xw ZsC ZgS rfl
def Zha:Zv:=(.seq (.seq (.region [oM 5 4,oM 6 0,oI 7 (.len (.t 6)),oI 8 (.bin .lss (.t 5) (.t 7)),oM 9 8,⟨(some 10),(.mov (.t 4)),(some (9,true)),[]⟩,⟨(some 11),(.bin .lss (.t 10) (.c (.int .i64 30))),(some (9,true)),[]⟩,oI 12 (.pick (.t 9) (.t 11) (.c (.bool false)))] none [12,4,3,0]) (.cond (.t 12) .skip (.exit 0))) (.seq (.block 1 (.region [oM 15 3,oM 16 0,oM 17 4,oI 18 (.iaddr 1 (.t 16) (.t 17)),oL 19 18,oI 20 (.bin .rem (.t 19) (.c (.int .u8 26))),oI 21 (.bin .add (.c (.int .u8 97)) (.t 20)),oI 22 (.bslice false 1 1 (.int .u8 0) [(0,(.t 21))]),oI 23 (.b2s (.t 22)),oI 24 (.bin .add (.t 15) (.t 23)),oM 3 24] none [4,3,0])) (.region [oM 13 4,oI 14 (.bin .add (.t 13) (.c (.int .i64 1))),oM 4 14] none [4,3,0])))
def Zmg:Zv:=Zha
def ZiX:=xw Zmg Zha rfl
def Zhn:Zv:=(.seq (.region [oI 2 (.mov (.c (.str [])))] none [0]) (.seq (.region [oI 3 (.mov (.c (.str [])))] none [3,0]) (.seq (.seq (.region [oI 4 (.mov (.c (.int .i64 0)))] none [4,3,0]) (.block 0 (.loop [4,3,0] Zmg))) ZsC)))
def Zi2:Zam:=⟨[(.tmp 2)],Zhn⟩
theorem ZEv:FC 18=some Zi2:=by kernel_rfl
theorem Zkk:Zi2.body=Zhn:=rfl
theorem Zj1:Zi2.res=[(.tmp 2)]:=rfl
noncomputable def ZiZ (m:Nat) (tm:Tms) (σ:Za):Option (AVal×Za):=(Za4 m Zi2 (ZcK FC PR BY m ZsC (Xah (Zbt 0) (evL FC PR BY m [4,3,0] Zmg tm σ))))
end
section
end
section
def ZyL (id:Int):Prop:=id=1\/id=2\/id=3\/id=8\/id=9\/id=11\/id=17\/id=18\/id=26\/id=19\/id=21\/id=22\/id=23\/id=25\/id=24\/id=28\/id=31\/id=33\/id=34\/id=35\/id=39\/id=36\/id=37\/id=40\/id=41\/id=42\/id=38
instance (id:Int):Decidable (ZyL id):=by unfold ZyL;infer_instance
end
section
end
section
end
section
end
section
end
section
end
section
theorem wrap_i64 {n:Int} (h0:-9223372036854775808<=n) (h:n<=9223372036854775807):IntKind.i64.wrap n=n:=Zcm h0 h
end
section
theorem ZFA (σ:Za) (l:Zt) (k1 k2:IntKind) (lo hi:Int) (h0:0<=lo) (h1:lo<=hi) (h2:hi<=(l.length:Int)):ZcD σ 1 (.lst false (l.map Zn)) (some (.int k1 lo)) (some (.int k2 hi)) none=some (.lst false (((l.take hi.toNat).drop lo.toNat).map Zn),σ,{}):=by
 have hh:0<=hi:=by omega
 have h3:lo<=((hi.toNat:Nat):Int):=by omega
 have hk:=ZBm l
 simp only [ZcD,Zbj,Zem,XL,hh,h2,and_self,if_true,h0,h3,hk,Xba,Xal,Xu,if_false,W0,Xbt,List.map_drop]
end
section
end
section
end
section
end
section
end
section
end
section
theorem ZyP {xs:List AVal} (h:0 < xs.length):ZdQ xs=.sl 0 0 0 xs.length:=by
 cases xs with
 | nil=>simp at h
 | cons x xs=>rfl
theorem Zde {k:Nat} {xs:List AVal} (h:0 < xs.length):Zcl k xs=[.row 0 k xs]:=by
 cases xs with
 | nil=>simp at h
 | cons x xs=>rfl
end
section
theorem Zz8 (b:Zt) (n:Int) (h0:0<=n):E 19 [Zh b,.int .i64 n] []=some (Zh (b.take n.toNat),[]):=by
 rw [ZcU (by rfl) ZzW]
 by_cases h:n < (b.length:Int)
 ·have hl:n<=(b.length:Int):=by omega
  simp -implicitDefEqProofs only [EQA,ZE,ZB,ZG,ZC,ZF,ZD,ZP,ZS,ZQ,ZN,ZL,ZM,ZO,ZT,ZR,implies_true,forall_const,Xk,Xl,Xo,Xe,Xg,Xm,Xj,ZH,ZK,unA,Zu,Zz,unG,reduceCtorEq,Zo,decide_eq_true_eq,Xh,Xc,ite_self,↓reduceIte,Zy,ZI,gcT,gcA,Zm,Zf,Zd,Ze,Zk,Zc,Zl,Zg,Zp,Xd,Zvu,ZjP,ZwE,Zr,Zh,Zi,Zb,Zx,ZJ,h0,h,hl,gt_iff_lt,ZsR]
 ·have hl:b.take n.toNat=b:=Wk (by omega)
  simp -implicitDefEqProofs only [EQA,ZE,ZB,ZG,ZC,ZF,ZD,ZP,ZS,ZQ,ZN,ZL,ZM,ZO,ZT,ZR,implies_true,forall_const,Xk,Xl,Xo,Xe,Xg,Xm,Xj,ZH,ZK,unA,Zu,Zz,unG,reduceCtorEq,Zo,decide_eq_true_eq,Xh,Xc,ite_self,↓reduceIte,Zy,ZI,gcT,gcA,Zm,Zf,Zd,Ze,Zk,Zc,Zl,Zg,Zp,Xd,Zvu,ZjP,ZwE,Zr,Zh,Zi,Zb,Zx,ZJ,h,hl,gt_iff_lt]
theorem ZwF (σ:Za) (sq own:Nat) (view:Bool) (b:Zt) (n:Int) (h0:0<=n):Z4 E BY σ sq 19 own view [.lst false (b.map Zn),.int .i64 n]=some (.lst false ((b.take n.toNat).map Zn),σ,{}) :=
 ZfL (Zz8 b n h0) (by kernel_rfl) (by simp -implicitDefEqProofs only [Zeg,Zet,ZE,ZB,ZG,Zen,ZC,ZF,Zeq,ZD,eq_self,implies_true,Xu,Zr,Zh,Zi,Zb,Zx,Zr]) (by simp -implicitDefEqProofs only [Zeg,Zet,ZE,ZB,ZG,Zen,ZC,ZF,Zeq,ZD,eq_self,implies_true,Xu,Zr,Zh,Zi,Zb,Zx,Zr]) rfl (fun _=>rfl) _ _ _ _
def Zc9 (n lo hi:Int):Int:=lo+(if n.tmod (hi - lo+1) < 0 then n.tmod (hi - lo+1)+(hi - lo+1) else n.tmod (hi - lo+1))
theorem ZCZ (n:Int):E 20 [.int .i64 n,.int .i64 0,.int .i64 2] []=some (.int .i64 (Zc9 n 0 2),[]):=by
 have w1:IntKind.i64.wrap (2 - 0)=2:=rfl
 have w2:IntKind.i64.wrap (2+1)=3:=rfl
 have hz:((3:Int)=0)=False:=by simp
 have hb:-3 < n.tmod 3/\n.tmod 3 < 3:=by
  have h1:=Int.tmod_lt_of_pos n (show (0:Int) < 3 by decide)
  have h2:=Int.lt_tmod_of_pos n (show (0:Int) < 3 by decide)
  omega
 unfold Zc9
 rw [show (2:Int) - 0+1=3 from rfl]
 rw [ZcU (by rfl) ZEW]
 by_cases h:n.tmod 3 < 0
 ·have w3:IntKind.i64.wrap (n.tmod 3+3)=n.tmod 3+3:=Zcm (by omega) (by omega)
  have w4:IntKind.i64.wrap (0+(n.tmod 3+3))=0+(n.tmod 3+3):=Zcm (by omega) (by omega)
  simp -implicitDefEqProofs only [EQA,ZE,ZB,ZG,ZC,ZF,ZD,ZP,ZS,ZQ,ZN,ZL,ZM,ZO,ZT,ZR,implies_true,forall_const,Xk,Xl,Xo,Xe,Xg,Xm,Xj,ZH,ZK,unA,Zu,Zz,unG,reduceCtorEq,Zo,decide_eq_true_eq,Xh,Xc,ite_self,↓reduceIte,Zy,ZI,gcT,gcA,Zm,Zf,Zd,Ze,Zk,Zc,Zl,Zg,Zp,Xd,ZvI,Zi1,Zym,Zr,Zh,Zi,Zb,Zx,ZJ,w1,w2,w3,w4,hz,h]
 ·have w4:IntKind.i64.wrap (0+n.tmod 3)=0+n.tmod 3:=Zcm (by omega) (by omega)
  simp -implicitDefEqProofs only [EQA,ZE,ZB,ZG,ZC,ZF,ZD,ZP,ZS,ZQ,ZN,ZL,ZM,ZO,ZT,ZR,implies_true,forall_const,Xk,Xl,Xo,Xe,Xg,Xm,Xj,ZH,ZK,unA,Zu,Zz,unG,reduceCtorEq,Zo,decide_eq_true_eq,Xh,Xc,ite_self,↓reduceIte,Zy,ZI,gcT,gcA,Zm,Zf,Zd,Ze,Zk,Zc,Zl,Zg,Zp,Xd,ZvI,Zi1,Zym,Zr,Zh,Zi,Zb,Zx,ZJ,w1,w2,w4,hz,h]
theorem ZnZ (σ:Za) (sq own:Nat) (view:Bool) (n:Int):Z4 E BY σ sq 20 own view [.int .i64 n,.int .i64 0,.int .i64 2]=some (.int .i64 (Zc9 n 0 2),σ,{}) :=
 ZfL (ZCZ n) (by kernel_rfl) rfl rfl rfl (fun _=>rfl) _ _ _ _
theorem ZAy (n:Int):Zc9 n 0 2=0\/Zc9 n 0 2=1\/Zc9 n 0 2=2:=by
 have h1:=Int.tmod_lt_of_pos n (show (0:Int) < 3 by decide)
 have h2:=Int.lt_tmod_of_pos n (show (0:Int) < 3 by decide)
 unfold Zc9
 rw [show (2:Int) - 0+1=3 from rfl]
 split <;> omega
end
end Go.Proofs.Ytaimaokfbgmoiaa
