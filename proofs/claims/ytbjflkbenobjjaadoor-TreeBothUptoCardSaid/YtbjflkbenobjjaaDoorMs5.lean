/- The card of TreeBoth: for every input the law returns true, and each argument reads afterwards as it read before, where what it reads is of bulk at most 1048576. No other condition; the tables of unicode/utf8 are tied to the program. -/
import Derived.Test.YtbjflkbenobjjaaDoorMs4
import Derived.Test.YtbjflkbenobjjaaDoorMs3
import Derived.Test.YtbjflkbenobjjaaDoorProg
import Derived.Shelf.Unicode.ValidAny
import Derived.Lib.LaidU8T
import Derived.Test.YtbjflkbenobjjaaDoorRows
import Derived.Deep.Slices
import Derived.Shelf.SlSortCmp.NoneTotal
import Derived.Test.YtbjflkbenobjjaaDoorChecked
import Derived.Deep.RegionHeld3
import Derived.Laws.Cover1
import Derived.Shelf.Small.Strs
import Derived.Shelf.Strings.Search1
import Derived.Shelf.Strings.Count
import Derived.Test.YtbjflkbenobjjaaDoorCards
import Derived.Test.YtbjflkbenobjjaaDoorTie
import Derived.WalkKit
import Derived.ProofKit
import Derived.OpenShut
import Derived.ShutString
import Derived.ChangeOld
import Derived.Below
import Derived.SevenTiedAt
import Derived.LaidByTextLater
import Derived.Lib.LaidIn
import Derived.Deep.DeepHandedRow
import Derived.MakeChecks
set_option linter.defProp false
set_option linter.unusedSectionVars false
set_option linter.unusedSimpArgs false
set_option linter.unusedVariables false
open Option.some renaming injEq→Xa,inj→XbE
open Prod.mk renaming injEq→Xb
open List renaming getElem?_eq_some_iff→Xc,getD_eq_getElem?_getD→Xd,getElem?_set→Xj,mem_append→Xl,mem_of_getElem?→Xn,mem_map→Xq,nil_append→Xr,getElem?_set_ne→Xs,mem_cons→Xv,length_append→Xx,map_cons→XA,getElem?_cons_zero→XB,cons_append→XC,length_cons→XD,append_nil→XE,flatMap_cons→XG,getElem?_set_self→XJ,getD_cons_zero→XK,contains_cons→XL,mem_singleton→XM,getElem?_cons_succ→XP,length_nil→XT,range_succ→XU,nodup_cons→XV,map_map→XY,map_append→X0,mem_filter→X1,all_cons→X3,getD_cons_succ→X6,mem_flatMap→Wc,pairwise_cons→Wf,take_of_length_le→Wi,length_map→Wj,drop_eq_nil_iff→Wl,range→Wm,all_nil→Ww,mem_of_mem_take→Wx,nodup_append→WE,length_drop→WO,mem_range→WR,length_eq_zero_iff→WW,any_eq_true→WZ,isEmpty_iff→Xaa,not_mem_nil→Xac,filter_cons→Xah,any_cons→Xal,headD_cons→Xau,drop_succ_cons→Xax,foldl_cons→XaK,length_filter_le→XaN,pairwise_map→XaP,drop_zero→XaS,not_lt→XaY,filter_eq_self→XaZ,Perm→Xbb,append_inj'→Xbi,filter_map→XbH,getD_nil→XbO,Nodup→XbP
open Nat renaming reduceEqDiff→Xe,reduceLT→Xg,reduceLeDiff→Xo,reduceAdd→Xt,zero_add→Xw,reduceBEq→Xz,le_refl→XI,reduceMul→WJ,zero_le→Xao,lt_irrefl→Xaw,le_trans→XaI
open Bool renaming false_eq_true→Xf,and_eq_true→Xh,not_eq_true'→Wb,and_self→Wh,or_eq_true→WM,eq_iff_iff→WX,or_false→Xae,true_or→Xak,not_false→Xaq,false_or→Xaz,false_and→XaD,or_self→XaM,not_true→Xa2,and_false→Xbv,true_and→Xbz,and_true→XbA
open Option renaming map_eq_some_iff→Xi,bind_some→XH
open Or renaming inl→Xk,inr→Xp
open List.Pairwise renaming nil→WA,filter→Xbj
open List.cons renaming injEq→WD
open List.Perm renaming refl→Xag
namespace Go.Proofs.YtbjflkbenobjjaaDoor
set_option maxHeartbeats 16000000
set_option maxRecDepth 10000
section
def ksK {α:Type} (M:List (Tx×α)):List Tx:=M.map (·.1)
theorem Zl2 {α:Type} (n:Tx) (v:α):∀ M:List (Tx×α),(ksK M).Nodup->(ksK (Zas n v M)).Nodup
 | [],_=>by simp [Zas,ksK]
 | p::M,h=>by
  obtain ⟨h1,h2⟩:=XV.1 h
  simp only [Zas]
  split
  ·rename_i e
   refine XV.2 ⟨?_,h2⟩
   rw [e];exact h1
  ·rename_i e
   refine XV.2 ⟨?_,Zl2 n v M h2⟩
   intro hm
   obtain ⟨q,hq,hqe⟩:=Xq.1 hm
   rcases Zhp hq with rfl | hq
   ·exact e hqe
   ·exact h1 (Xq.2 ⟨q,hq,hqe⟩)
theorem ZlD {α:Type} (n:Tx):∀ M:List (Tx×α),(ksK M).Nodup->(ksK (Zbn n M)).Nodup
 | [],_=>by simp [Zbn,ksK]
 | p::M,h=>by
  obtain ⟨h1,h2⟩:=XV.1 h
  simp only [Zbn]
  split
  ·exact h2
  ·refine XV.2 ⟨?_,ZlD n M h2⟩
   intro hm
   obtain ⟨q,hq,hqe⟩:=Xq.1 hm
   exact h1 (Xq.2 ⟨q,Zi0 hq,hqe⟩)
theorem Zrc {α:Type} {n:Tx}:∀ {M:List (Tx×α)},n ∉ ksK M->Zm n M=none
 | [],_=>rfl
 | p::M,h=>by
  simp only [ksK,XA,Xv,not_or] at h
  simp only [Zm,if_neg h.1]
  exact Zrc h.2
theorem ZkH {α:Type} (n m:Tx):∀ M:List (Tx×α),(ksK M).Nodup->Zm m (Zbn n M)=if m=n then none else Zm m M
 | [],_=>by simp [Zbn,Zm]
 | p::M,h=>by
  obtain ⟨h1,h2⟩:=XV.1 h
  simp only [Zbn]
  split
  ·rename_i e
   by_cases hm:m=n
   ·rw [if_pos hm,hm,e];exact Zrc h1
   ·rw [if_neg hm]
    simp only [Zm]
    rw [if_neg (fun e2=>hm (e2.trans e.symm))]
  ·rename_i e
   simp only [Zm]
   rw [ZkH n m M h2]
   by_cases hm:m=p.1
   ·rw [if_pos hm,if_pos hm,if_neg (fun e2=>e (e2.symm.trans hm))]
   ·rw [if_neg hm,if_neg hm]
theorem Zhi {α:Type} {n:Tx} {v:α}:∀ {M:List (Tx×α)},(ksK M).Nodup->((n,v) ∈ M↔Zm n M=some v)
 | [],_=>by simp [Zm]
 | p::M,h=>by
  obtain ⟨h1,h2⟩:=XV.1 h
  simp only [Zm,Xv]
  by_cases e:n=p.1
  ·rw [if_pos e]
   constructor
   ·rintro (rfl | hm)
    ·rfl
    ·exact absurd (Xq.2 ⟨_,hm,e⟩) h1
   ·rintro hv
    left
    injection hv with hv
    rw [e,<-hv]
  ·rw [if_neg e]
   constructor
   ·rintro (rfl | hm)
    ·exact absurd rfl e
    ·exact (Zhi h2).1 hm
   ·intro hv
    exact Xp ((Zhi h2).2 hv)
theorem Zc1 (ns:List TN) (x:Tx):∀ (q:List Tx) (j:Nat),goT ns j (q++[x])=(goT ns j q).bind fun i=>(ns[i]?).bind fun d=>Zm x d.2
 | [],j=>by
  simp only [Xr,goT,XH]
  cases ns[j]? with
  | none=>rfl
  | some d=>simp only [XH];cases Zm x d.2 <;> rfl
 | l::q,j=>by
  simp only [XC,goT]
  cases ns[j]? with
  | none=>rfl
  | some d =>
   cases h:Zm l d.2 with
   | none=>simp [h]
   | some i=>simp only [h];exact Zc1 ns x q i
theorem Zn9 {P:List Tx->Prop} (h0:P []) (h1:∀ q x,P q->P (q++[x])) (q:List Tx):P q:=by
 have : ∀ r:List Tx,P r.reverse:=by
  intro r
  induction r with
  | nil=>exact h0
  | cons x r ih=>rw [List.reverse_cons];exact h1 _ _ ih
 have h:=this q.reverse
 rwa [List.reverse_reverse] at h
theorem Znj (ns:List TN):∀ (p q:List Tx) (j:Nat),goT ns j (p++q)=(goT ns j p).bind fun i=>goT ns i q
 | [],q,j=>rfl
 | l::p,q,j=>by
  simp only [XC,goT]
  cases ns[j]? with
  | none=>rfl
  | some d =>
   cases h:Zm l d.2 with
   | none=>simp [h]
   | some i=>simp only [h];exact Znj ns p q i
structure WF (ns:List TN):Prop where
 cl:Closed ns
 pos:0 < ns.length
 kv:∀ (j:Nat) (d:TN),ns[j]?=some d->(ksK d.1).Nodup
 kx:∀ (j:Nat) (d:TN),ns[j]?=some d->(ksK d.2).Nodup
 inj:∀ (q q':List Tx) (i:Nat),goT ns 0 q=some i->goT ns 0 q'=some i->q=q'
theorem WF.nil:WF [([],[])]:=by
 refine ⟨?_,by simp,?_,?_,?_⟩
 ·intro j d h p hp
  cases j with
  | zero=>simp at h;subst h;simp at hp
  | succ j=>simp at h
 ·intro j d h
  cases j with
  | zero=>simp at h;subst h;simp [ksK]
  | succ j=>simp at h
 ·intro j d h
  cases j with
  | zero=>simp at h;subst h;simp [ksK]
  | succ j=>simp at h
 ·have : ∀ q i,goT [(([]:List (Tx×Int)),([]:List (Tx×Nat)))] 0 q=some i->q=[]:=by
   intro q i h
   cases q with
   | nil=>rfl
   | cons l q=>simp [goT,Zm] at h
  intro q q' i h h'
  rw [this q i h,this q' i h']
theorem WF.at {ns:List TN} (h:WF ns) {q:List Tx} {i:Nat} (hi:goT ns 0 q=some i):∃ d,ns[i]?=some d :=
 ⟨_,List.getElem?_eq_getElem (Zf1 h.cl q 0 i h.pos hi)⟩
theorem ZkI {ns:List TN} (h:WF ns) {pre:List Tx} {j:Nat} {d:TN} {l:Tx} (hp:goT ns 0 pre=some j) (hd:ns[j]?=some d) (hl:Zm l d.2=none) (q:List Tx) :
  goT (newN ns j d l) 0 q=if q=pre++[l] then some ns.length else goT ns 0 q:=by
 have hj:j < ns.length:=(Xc.1 hd).1
 induction q using Zn9 with
 | h0=>rw [if_neg (by simp)];rfl
 | h1 q x ih =>
  rw [Zc1,ih,Zc1]
  by_cases e:q=pre++[l]
  ·subst e
   have hg:goT ns 0 (pre++[l])=none:=by rw [Zc1,hp];simp [hd,hl]
   rw [if_pos rfl,hg,if_neg (by simp)]
   simp [Zfa,Zm]
  ·rw [if_neg e]
   cases hq:goT ns 0 q with
   | none =>
    rw [if_neg]
    ·rfl
    ·intro e2
     have:=(Xbi e2 rfl).1
     rw [this,hp] at hq;cases hq
   | some i =>
    have hi:=Zf1 h.cl q 0 i h.pos hq
    simp only [XH]
    by_cases e3:i=j
    ·subst e3
     have:=h.inj q pre i hq hp
     subst this
     rw [ZeN hj,hd]
     simp only [XH,Zik,List.append_cancel_left_eq,WD,and_true]
    ·rw [Zhj d l hi e3,if_neg]
     intro e2
     have:=(Xbi e2 rfl).1
     rw [this,hp] at hq;injection hq with hq;exact e3 hq.symm
theorem WF.newNode {ns:List TN} (h:WF ns) {pre:List Tx} {j:Nat} {d:TN} {l:Tx} (hp:goT ns 0 pre=some j) (hd:ns[j]?=some d) (hl:Zm l d.2=none):WF (newN ns j d l):=by
 have hj:j < ns.length:=(Xc.1 hd).1
 have hat:∀ (i:Nat) (e:TN),(newN ns j d l)[i]?=some e->(i=j/\e=(d.1,Zas l ns.length d.2))\/(i=ns.length/\e=([],[]))\/ns[i]?=some e:=by
  intro i e he
  by_cases h1:i=j
  ·subst h1;rw [ZeN hj] at he;injection he with he;exact Xk ⟨rfl,he.symm⟩
  ·by_cases h2:i < ns.length
   ·rw [Zhj d l h2 h1] at he;exact Xp (Xp he)
   ·have hlt:=(Xc.1 he).1
    rw [Zdv] at hlt
    have : i=ns.length:=by omega
    subst this
    rw [Zfa] at he;injection he with he
    exact Xp (Xk ⟨rfl,he.symm⟩)
 refine ⟨h.cl.newN hd l,by rw [Zdv];omega,?_,?_,?_⟩
 ·intro i e he
  rcases hat i e he with ⟨_,rfl⟩ | ⟨_,rfl⟩ | he
  ·exact h.kv j d hd
  ·simp [ksK]
  ·exact h.kv i e he
 ·intro i e he
  rcases hat i e he with ⟨_,rfl⟩ | ⟨_,rfl⟩ | he
  ·exact Zl2 l _ _ (h.kx j d hd)
  ·simp [ksK]
  ·exact h.kx i e he
 ·intro q q' i hq hq'
  rw [ZkI h hp hd hl] at hq hq'
  split at hq
  ·rename_i e1
   split at hq'
   ·rename_i e2;rw [e1,e2]
   ·injection hq with hq;subst hq
    have:=Zf1 h.cl q' 0 _ h.pos hq'
    omega
  ·split at hq'
   ·injection hq' with hq';subst hq'
    have:=Zf1 h.cl q 0 _ h.pos hq
    omega
   ·exact h.inj q q' i hq hq'
theorem Zwo {ns:List TN} (h:WF ns) {pre:List Tx} {j:Nat} {d:TN} {l:Tx} (hp:goT ns 0 pre=some j) (hd:ns[j]?=some d) (hl:Zm l d.2=none) (q:List Tx) (k:Tx) :
  Zam (newN ns j d l) q k=Zam ns q k:=by
 have hj:j < ns.length:=(Xc.1 hd).1
 unfold Zam
 rw [ZkI h hp hd hl]
 by_cases e:q=pre++[l]
 ·subst e
  have hg:goT ns 0 (pre++[l])=none:=by rw [Zc1,hp];simp [hd,hl]
  rw [if_pos rfl,hg]
  simp [Zfa,Zm]
 ·rw [if_neg e]
  cases hq:goT ns 0 q with
  | none=>rfl
  | some i =>
   have hi:=Zf1 h.cl q 0 i h.pos hq
   simp only
   by_cases e3:i=j
   ·subst e3;rw [ZeN hj,hd]
   ·rw [Zhj d l hi e3]
theorem ZgC {ns:List TN} {j:Nat} {d:TN} (hd:ns[j]?=some d) (M:List (Tx×Int)):∀ (q:List Tx) (i:Nat),goT (ns.set j (M,d.2)) i q=goT ns i q
 | [],i=>rfl
 | l::q,i=>by
  have hj:j < ns.length:=(Xc.1 hd).1
  simp only [goT]
  by_cases e:i=j
  ·subst e
   rw [XJ hj,hd]
   simp only
   cases Zm l d.2 with
   | none=>rfl
   | some i=>exact ZgC hd M q i
  ·rw [Xs (fun e2=>e e2.symm)]
   cases ns[i]? with
   | none=>rfl
   | some d' =>
    simp only
    cases Zm l d'.2 with
    | none=>rfl
    | some i=>exact ZgC hd M q i
theorem WF.vals {ns:List TN} (h:WF ns) {j:Nat} {d:TN} (hd:ns[j]?=some d) {M:List (Tx×Int)} (hM:(ksK M).Nodup):WF (ns.set j (M,d.2)):=by
 have hj:j < ns.length:=(Xc.1 hd).1
 refine ⟨h.cl.vals hd M,by simpa using h.pos,?_,?_,?_⟩
 ·intro i e he
  by_cases e1:i=j
  ·subst e1;rw [XJ hj] at he;injection he with he;subst he;exact hM
  ·rw [Xs (fun e2=>e1 e2.symm)] at he;exact h.kv i e he
 ·intro i e he
  by_cases e1:i=j
  ·subst e1;rw [XJ hj] at he;injection he with he;subst he;exact h.kx i d hd
  ·rw [Xs (fun e2=>e1 e2.symm)] at he;exact h.kx i e he
 ·intro q q' i hq hq'
  rw [ZgC hd] at hq hq'
  exact h.inj q q' i hq hq'
theorem Zov {ns:List TN} (h:WF ns) {pre:List Tx} {j:Nat} {d:TN} (hp:goT ns 0 pre=some j) (hd:ns[j]?=some d) (M:List (Tx×Int)) (q:List Tx) (k:Tx) :
  Zam (ns.set j (M,d.2)) q k=if q=pre then Zm k M else Zam ns q k:=by
 have hj:j < ns.length:=(Xc.1 hd).1
 unfold Zam
 rw [ZgC hd]
 by_cases e:q=pre
 ·subst e
  rw [if_pos rfl,hp]
  simp [XJ hj]
 ·rw [if_neg e]
  cases hq:goT ns 0 q with
  | none=>rfl
  | some i =>
   have : i≠j:=by rintro rfl;exact e (h.inj q pre i hq hp)
   simp only
   rw [Xs (fun e2=>this e2.symm)]
theorem Zlu (k:Tx) (v:Int):∀ (r:List Tx) (ns:List TN) (j:Nat) (pre:List Tx),WF ns->goT ns 0 pre=some j ->
  WF (ZR k v r ns j).1/\(ZR k v r ns j).2=(Zam ns (pre++r) k).isSome/\∀ q k',Zam (ZR k v r ns j).1 q k'=if q=pre++r/\k'=k then some v else Zam ns q k'
 | [],ns,j,pre,h,hp=>by
  obtain ⟨d,hd⟩:=h.at hp
  have e:ZR k v [] ns j=(ns.set j (Zas k v d.1,d.2),(Zm k d.1).isSome):=by simp only [ZR,hd]
  have hg:Zam ns pre k=Zm k d.1:=by simp only [Zam,hp,hd]
  rw [e,XE,hg]
  refine ⟨h.vals hd (Zl2 k v _ (h.kv j d hd)),rfl,fun q k'=>?_⟩
  rw [Zov h hp hd]
  by_cases e1:q=pre
  ·subst e1
   rw [if_pos rfl,Zik]
   simp only [true_and]
   split
   ·rfl
   ·simp only [Zam,hp,hd]
  ·rw [if_neg e1,if_neg (fun e2=>e1 e2.1)]
 | l::r,ns,j,pre,h,hp=>by
  obtain ⟨d,hd⟩:=h.at hp
  cases hk:Zm l d.2 with
  | some i =>
   have e:ZR k v (l::r) ns j=ZR k v r ns i:=by simp only [ZR,hd,hk]
   have hi:goT ns 0 (pre++[l])=some i:=by rw [Zc1,hp];simp [hd,hk]
   have:=Zlu k v r ns i (pre++[l]) h hi
   rw [e]
   simpa using this
  | none =>
   have e:ZR k v (l::r) ns j=ZR k v r (newN ns j d l) ns.length:=by simp only [ZR,hd,hk,newN]
   have hi:goT (newN ns j d l) 0 (pre++[l])=some ns.length:=by rw [ZkI h hp hd hk,if_pos rfl]
   have:=Zlu k v r (newN ns j d l) ns.length (pre++[l]) (h.newNode hp hd hk) hi
   rw [e]
   simp only [Zwo h hp hd hk] at this
   simpa using this
theorem Zld {ns:List TN} (h:WF ns) {pre:List Tx} {j i:Nat} {d di:TN} {l:Tx} (hp:goT ns 0 pre=some j) (hd:ns[j]?=some d) (hl:Zm l d.2=some i) (hdi:ns[i]?=some di) (he:di.2=[]) (q:List Tx) :
  goT (ns.set j (d.1,Zbn l d.2)) 0 q=if q=pre++[l] then none else goT ns 0 q:=by
 have hj:j < ns.length:=(Xc.1 hd).1
 have hi:goT ns 0 (pre++[l])=some i:=by rw [Zc1,hp];simp [hd,hl]
 induction q using Zn9 with
 | h0=>rw [if_neg (by simp)];rfl
 | h1 q x ih =>
  rw [Zc1,ih,Zc1]
  by_cases e:q=pre++[l]
  ·subst e
   rw [if_pos rfl,hi,if_neg (by simp)]
   simp [hdi,he,Zm]
  ·rw [if_neg e]
   cases hq:goT ns 0 q with
   | none =>
    rw [if_neg]
    ·rfl
    ·intro e2
     have:=(Xbi e2 rfl).1
     rw [this,hp] at hq;cases hq
   | some i' =>
    simp only [XH]
    by_cases e3:i'=j
    ·subst e3
     have:=h.inj q pre i' hq hp
     subst this
     rw [XJ hj,hd]
     simp only [XH,ZkH l x _ (h.kx i' d hd),List.append_cancel_left_eq,WD,and_true]
    ·rw [Xs (fun e2=>e3 e2.symm),if_neg]
     intro e2
     have:=(Xbi e2 rfl).1
     rw [this,hp] at hq;injection hq with hq;exact e3 hq.symm
theorem WF.cut {ns:List TN} (h:WF ns) {pre:List Tx} {j i:Nat} {d di:TN} {l:Tx} (hp:goT ns 0 pre=some j) (hd:ns[j]?=some d) (hl:Zm l d.2=some i) (hdi:ns[i]?=some di) (he:di.2=[]):WF (ns.set j (d.1,Zbn l d.2)):=by
 have hj:j < ns.length:=(Xc.1 hd).1
 refine ⟨h.cl.next1 hd l,by simpa using h.pos,?_,?_,?_⟩
 ·intro i' e he'
  by_cases e1:i'=j
  ·subst e1;rw [XJ hj] at he';injection he' with he';subst he';exact h.kv i' d hd
  ·rw [Xs (fun e2=>e1 e2.symm)] at he';exact h.kv i' e he'
 ·intro i' e he'
  by_cases e1:i'=j
  ·subst e1;rw [XJ hj] at he';injection he' with he';subst he';exact ZlD l _ (h.kx i' d hd)
  ·rw [Xs (fun e2=>e1 e2.symm)] at he';exact h.kx i' e he'
 ·intro q q' i' hq hq'
  rw [Zld h hp hd hl hdi he] at hq hq'
  split at hq
  ·cases hq
  ·split at hq'
   ·cases hq'
   ·exact h.inj q q' i' hq hq'
theorem ZEU {ns:List TN} (h:WF ns) {pre:List Tx} {j i:Nat} {d di:TN} {l:Tx} (hp:goT ns 0 pre=some j) (hd:ns[j]?=some d) (hl:Zm l d.2=some i) (hdi:ns[i]?=some di) (he1:di.1=[]) (he:di.2=[]) (q:List Tx) (k:Tx) :
  Zam (ns.set j (d.1,Zbn l d.2)) q k=Zam ns q k:=by
 have hj:j < ns.length:=(Xc.1 hd).1
 have hi:goT ns 0 (pre++[l])=some i:=by rw [Zc1,hp];simp [hd,hl]
 unfold Zam
 rw [Zld h hp hd hl hdi he]
 by_cases e:q=pre++[l]
 ·subst e
  rw [if_pos rfl,hi]
  simp [hdi,he1,Zm]
 ·rw [if_neg e]
  cases hq:goT ns 0 q with
  | none=>rfl
  | some i' =>
   simp only
   by_cases e3:i'=j
   ·subst e3;rw [XJ hj,hd]
   ·rw [Xs (fun e2=>e3 e2.symm)]
theorem ZpO (k : Tx) : ∀ (r : List Tx) (ns : List TN) (j : Nat) (pre : List Tx), WF ns -> goT ns 0 pre = some j ->
    WF (Zan k r ns j).1 /\ (Zan k r ns j).2 = (Zam ns (pre ++ r) k).isSome /\ (∀ q k', Zam (Zan k r ns j).1 q k' = if q = pre ++ r /\ k' = k then none else Zam ns q k') /\ ∀ q, q.length <= pre.length -> goT (Zan k r ns j).1 0 q = goT ns 0 q
  | [], ns, j, pre, h, hp => by
    obtain ⟨d, hd⟩ := h.at hp
    have e : Zan k [] ns j = (ns.set j (Zbn k d.1, d.2), (Zm k d.1).isSome) := by simp only [Zan, hd]
    have hg : Zam ns pre k = Zm k d.1 := by simp only [Zam, hp, hd]
    rw [e, XE, hg]
    refine ⟨h.vals hd (ZlD k _ (h.kv j d hd)), rfl, fun q k' => ?_, fun q _ => ZgC hd _ q 0⟩
    rw [Zov h hp hd]
    by_cases e1 : q = pre
    . subst e1
      rw [if_pos rfl, ZkH k k' _ (h.kv j d hd)]
      simp only [true_and]
      split
      . rfl
      . simp only [Zam, hp, hd]
    . rw [if_neg e1, if_neg (fun e2 => e1 e2.1)]
  | l :: r, ns, j, pre, h, hp => by
    obtain ⟨d, hd⟩ := h.at hp
    cases hk : Zm l d.2 with
    | none =>
      have e : Zan k (l :: r) ns j = (ns, false) := by simp only [Zan, hd, hk]
      have hg : Zam ns (pre ++ l :: r) k = none := by
        simp only [Zam, Znj, hp, XH, goT, hd, hk]
      rw [e, hg]
      refine ⟨h, rfl, fun q k' => ?_, fun q _ => rfl⟩
      split
      . rename_i e1; rw [e1.1, e1.2]; exact hg
      . rfl
    | some i =>
      have hi : goT ns 0 (pre ++ [l]) = some i := by rw [Zc1, hp]; simp [hd, hk]
      obtain ⟨i1, i2, i3, i4⟩ := ZpO k r ns i (pre ++ [l]) h hi
      have ea : pre ++ [l] ++ r = pre ++ l :: r := by simp
      rw [ea] at i2 i3
      simp only [Xx, List.length_singleton] at i4
      have e : Zan k (l :: r) ns j = if (Zan k r ns i).2 then
          match (Zan k r ns i).1[i]?, (Zan k r ns i).1[j]? with
          | some di, some dj => if di.1.length + di.2.length = 0 then ((Zan k r ns i).1.set j (dj.1, Zbn l dj.2), true) else ((Zan k r ns i).1, true)
          | _, _ => (ns, false)
        else ((Zan k r ns i).1, false) := by
        simp only [Zan, hd, hk]
        rfl
      cases hb : (Zan k r ns i).2 with
      | false =>
        rw [hb] at e i2
        rw [if_neg (by simp)] at e
        rw [e]
        exact ⟨i1, i2, i3, fun q hq => i4 q (by omega)⟩
      | true =>
        rw [hb] at e i2
        rw [if_pos rfl] at e
        have hp' : goT (Zan k r ns i).1 0 pre = some j := by rw [i4 pre (by omega)]; exact hp
        have hi' : goT (Zan k r ns i).1 0 (pre ++ [l]) = some i := by rw [i4 _ (by simp)]; exact hi
        obtain ⟨dj, hdj⟩ := i1.at hp'
        obtain ⟨di, hdi⟩ := i1.at hi'
        have hk' : Zm l dj.2 = some i := by
          rw [Zc1, hp'] at hi'
          simpa [hdj] using hi'
        rw [hdi, hdj] at e
        simp only at e
        by_cases hz : di.1.length + di.2.length = 0
        . rw [if_pos hz] at e
          have z1 : di.1 = [] := WW.1 (by omega)
          have z2 : di.2 = [] := WW.1 (by omega)
          rw [e]
          refine ⟨i1.cut hp' hdj hk' hdi z2, i2, fun q k' => ?_, fun q hq => ?_⟩
          . show Zam (((Zan k r ns i).1).set j (dj.1, Zbn l dj.2)) q k' = _
            rw [ZEU i1 hp' hdj hk' hdi z1 z2, i3]
          . show goT (((Zan k r ns i).1).set j (dj.1, Zbn l dj.2)) 0 q = _
            rw [Zld i1 hp' hdj hk' hdi z2, if_neg, i4 q (by omega)]
            rintro rfl
            simp at hq
            omega
        . rw [if_neg hz] at e
          rw [e]
          exact ⟨i1, i2, i3, fun q hq => i4 q (by omega)⟩
end
section
end
section
end
section
end
section
end
section
def ZcH:List (List UInt8)->List UInt8
 | []=>[]
 | x::r=>47::(x++ZcH r)
theorem ZpM:∀ s:List UInt8,ZcH (Zn s)=47::s
 | []=>by simp [Zn,ZcH]
 | b::s=>by
  have ih:=ZpM s
  by_cases h:b=47
  ·subst h;rw [Zn];simp only [if_true,ZcH,ih,Xr]
  ·cases e:Zn s with
   | nil=>exact absurd e (ZgU s)
   | cons p r =>
    rw [e,ZcH] at ih
    simp only [WD,true_and] at ih
    have : Zn (b::s)=(b::p)::r:=by rw [Zn];simp [h,e]
    rw [this,ZcH,XC,ih]
def tG:Nat->List UInt8->Bool
 | 0,_=>true
 | n+1,l=>if l=[] then true else if (Lib.decodeL l).1=0\/((Lib.decodeL l).1=65533/\(Lib.decodeL l).2=1) then false else tG n (l.drop (Lib.decodeL l).2)
theorem ZrP:∀ (n:Nat) (l:List UInt8),(zfG n l && Lib.validGoD n l)=tG n l
 | 0,_=>rfl
 | n+1,l=>by
  have ih:=ZrP n (l.drop (Lib.decodeL l).2)
  simp only [zfG,Lib.validGoD,tG]
  by_cases h:l=[]
  ·simp [h]
  ·by_cases h1:(Lib.decodeL l).1=0
   ·simp [h,h1]
   ·by_cases h2:(Lib.decodeL l).1=65533/\(Lib.decodeL l).2=1
    ·simp [h,h2]
    ·simp only [h,h1,h2,if_false,false_or,ih]
theorem ZkA (l:List UInt8):ZcV l=tG l.length l:=ZrP _ _
theorem Zru {l:List UInt8} (h:l≠[]):1<=(Lib.decodeL l).2:=by
 have:=Lib.decodeL_width l;omega
theorem Zm0:∀ (n m:Nat) (l:List UInt8),l.length<=n->l.length<=m->tG n l=tG m l
 | 0,m,l,h,_=>by
  obtain rfl:l=[]:=WW.1 (by omega)
  cases m <;> simp [tG]
 | n+1,0,l,_,h=>by
  obtain rfl:l=[]:=WW.1 (by omega)
  simp [tG]
 | n+1,m+1,l,h,h'=>by
  simp only [tG]
  by_cases h0:l=[]
  ·simp [h0]
  ·have:=Zru h0
   rw [Zm0 n m (l.drop (Lib.decodeL l).2) (by rw [WO];omega) (by rw [WO];omega)]
theorem Zvj (p:List UInt8) (b:UInt8) (q:List UInt8) (hp:p≠[]) (hb:b.toNat < 128):Lib.decodeL (p++b::q)=Lib.decodeL p:=by
 rw [Lib.decodeL_N,Lib.decodeL_N]
 match p,hp with
 | [b0],_ =>
  simp only [XC,Xr,XD,XT,XK,X6,XbO]
  by_cases h:b0.toNat < 128
  ·simp only [Lib.decodeN,h,if_true]
  ·rw [Lib.decodeN_alone _ _ _ _ _ (by omega) (Xp (by omega)),Lib.decodeN_alone _ _ _ _ _ (by omega) (Xk (by omega))]
 | [b0,b1],_ =>
  simp only [XC,Xr,XD,XT,XK,X6,XbO]
  generalize b0.toNat=x0 at *
  generalize b1.toNat=x1 at *
  generalize b.toNat=x2 at *
  generalize (q.getD 0 0).toNat=x3 at *
  generalize q.length=k at *
  unfold Lib.decodeN
  have e1:¬(x2 / 64=2):=by omega
  have e2:(1 < k+1+1+1):=by omega
  simp only [e1,e2,and_false,false_and,if_false,true_and,Xt,Xg,Xaw]
 | [b0,b1,b2],_ =>
  simp only [XC,Xr,XD,XT,XK,X6,XbO]
  generalize b0.toNat=x0 at *
  generalize b1.toNat=x1 at *
  generalize b2.toNat=x2 at *
  generalize b.toNat=x3 at *
  generalize q.length=k at *
  unfold Lib.decodeN
  have e1:¬(x3 / 64=2):=by omega
  have e2:(1 < k+1+1+1+1):=by omega
  have e3:(2 < k+1+1+1+1):=by omega
  simp only [e1,e2,e3,and_false,false_and,if_false,true_and,Xt,Xg,Xaw]
 | b0::b1::b2::b3::t,_ =>
  simp only [XC,XD,Xx,XK,X6]
  unfold Lib.decodeN
  have e1:(1 < t.length+1+1+1+1):=by omega
  have e2:(2 < t.length+1+1+1+1):=by omega
  have e3:(3 < t.length+1+1+1+1):=by omega
  have f1:(1 < t.length+(q.length+1)+1+1+1+1):=by omega
  have f2:(2 < t.length+(q.length+1)+1+1+1+1):=by omega
  have f3:(3 < t.length+(q.length+1)+1+1+1+1):=by omega
  simp only [e1,e2,e3,f1,f2,f3,true_and]
theorem ZAB (n:Nat) (b:UInt8) (q:List UInt8) (hb:b.toNat < 128) (h0:b.toNat≠0):tG (n+1) (b::q)=tG n q:=by
 have h1:¬(b.toNat=65533):=by omega
 simp only [tG,Lib.decodeL_ascii b q hb,h0,h1,reduceCtorEq,if_false,false_and,or_self,Xax,XaS]
theorem Zph (n:Nat) (l:List UInt8) (h:l≠[]):tG (n+1) l=if (Lib.decodeL l).1=0\/((Lib.decodeL l).1=65533/\(Lib.decodeL l).2=1) then false else tG n (l.drop (Lib.decodeL l).2):=by
 simp only [tG,h,if_false]
theorem Zn5 (b:UInt8) (q:List UInt8) (hb:b.toNat < 128):∀ (n:Nat) (p:List UInt8),p.length<=n->tG (n+(q.length+1)) (p++b::q)=(tG n p && tG (q.length+1) (b::q))
 | n,[],_=>by
  have : tG n []=true:=by cases n <;> simp [tG]
  rw [this,Xr,Xbz]
  exact Zm0 _ _ _ (by simp) (by simp)
 | 0,c::p,h=>by simp at h
 | n+1,c::p,h=>by
  have hne:c::p≠[]:=by simp
  have hw:=Zru hne
  have hle:=Lib.decodeL_le (c::p) hne
  have ih:=Zn5 b q hb n ((c::p).drop (Lib.decodeL (c::p)).2) (by rw [WO];simp only [XD] at h ⊢;omega)
  have e:n+1+(q.length+1)=(n+(q.length+1))+1:=by omega
  have hne2:c::p++b::q≠[]:=by simp
  generalize tG (q.length+1) (b::q)=R at ih ⊢
  rw [e,Zph _ _ hne2,Zph _ _ hne,Zvj (c::p) b q hne hb]
  by_cases h1:(Lib.decodeL (c::p)).1=0\/((Lib.decodeL (c::p)).1=65533/\(Lib.decodeL (c::p)).2=1)
  ·rw [if_pos h1,if_pos h1,XaD]
  ·rw [if_neg h1,if_neg h1,List.drop_append_of_le_length hle,ih]
theorem ZEv (p q:List UInt8):ZcV (p++47::q)=(ZcV p && ZcV q):=by
 rw [ZkA,ZkA,ZkA]
 have:=Zn5 47 q (by decide) p.length p (XI _)
 rw [ZAB q.length 47 q (by decide) (by decide)] at this
 rw [<-this]
 congr 1
 simp
def ZdA (M:List (List UInt8)):List UInt8:=(ZcH M).drop 1
theorem Zq9 (x:List UInt8):ZdA [x]=x:=by simp [ZdA,ZcH]
theorem Znr (x y:List UInt8) (M:List (List UInt8)):ZdA (x::y::M)=x++47::ZdA (y::M):=by simp [ZdA,ZcH]
theorem Zgz (s:List UInt8):ZdA (Zn s)=s:=by simp [ZdA,ZpM]
theorem Zlv:∀ M:List (List UInt8),ZcV (ZdA M)=M.all ZcV
 | []=>rfl
 | [x]=>by simp [Zq9]
 | x::y::M=>by rw [Znr,ZEv,Zlv (y::M)];simp only [X3]
theorem ZtP (p q:List UInt8):Zao (p++47::q)=(Zao p || Zao q):=by simp [Zao,ZbT]
theorem ZoX:∀ M:List (List UInt8),Zao (ZdA M)=M.any Zao
 | []=>rfl
 | [x]=>by simp [Zq9]
 | x::y::M=>by rw [Znr,ZtP,ZoX (y::M)];simp only [Xal]
theorem ZII {s:List UInt8} (h:ZaL s=true):(Zn s).all ZcV=true/\(Zn s).any Zao=false/\1<=s.length/\s.length<=64:=by
 simp only [ZaL,ZcD,Xh,decide_eq_true_eq,Wb] at h
 obtain ⟨⟨⟨h1,h2⟩,h3⟩,h4⟩:=h
 have e:=Zgz s
 exact ⟨by rw [<-Zlv,e];exact h3,by rw [<-ZoX,e];exact h4,h1,h2⟩
end
section
theorem ZfG {α β:Type} {f:α->β}:∀ {l:List α},(∀ a ∈ l,∀ b ∈ l,f a=f b->a=b)->l.Nodup->(l.map f).Nodup
 | [],_,_=>WA
 | x::l,h,hn=>by
  obtain ⟨h1,h2⟩:=XV.1 hn
  refine XV.2 ⟨?_,ZfG (fun a ha b hb=>h a (by simp [ha]) b (by simp [hb])) h2⟩
  intro hm
  obtain ⟨y,hy,he⟩:=Xq.1 hm
  have:=h y (by simp [hy]) x (by simp) he
  subst this;exact h1 hy
def ZeL:Tx->List Tx->Tx
 | p,[]=>p
 | p,l::q=>ZeL (ZM p l) q
abbrev PR3:=List Tx×Tx×Int
def ZdI (d:TN):List PR3:=d.1.map fun q=>([],q.1,q.2)
def Zc6 (o:Option Nat) (l:Tx) (f:Nat->List PR3):List PR3:=match o with
 | some i=>(f i).map fun x=>(l::x.1,x.2)
 | none=>[]
def Zf6 (ns:List TN) (i:Nat):List PR3:=match ns[i]? with
 | some di=>ZdI di
 | none=>[]
def Zdo (ns:List TN) (b:Bool) (d:TN):List PR3:=if b then [] else Zc6 (Zm [35] d.2) [35] (Zf6 ns)
def Zcf (ns:List TN):List Tx->Bool->Nat->List PR3
 | [],b,j=>match ns[j]? with
  | some d=>Zdo ns b d++ZdI d
  | none=>[]
 | l::r,b,j=>match ns[j]? with
  | some d=>Zdo ns b d++(Zc6 (Zm l d.2) l (fun i=>Zcf ns r false i)++(if b then [] else Zc6 (Zm [43] d.2) [43] (fun i=>Zcf ns r false i)))
  | none=>[]
def Zc2 (p:Tx) (x:PR3):Zh:=⟨ZeL p x.1,x.2.1,x.2.2⟩
theorem Zjf (o:Option Nat) (l p:Tx) (f:Nat->List PR3) (g:Nat->List AVal) (h:∀ i,o=some i->g i=(f i).map fun x=>Zk (Zc2 (ZM p l) x)):Zaw o g=(Zc6 o l f).map fun x=>Zk (Zc2 p x):=by
 cases o with
 | none=>rfl
 | some i =>
  simp only [Zaw,Zc6,XY]
  rw [h i rfl]
  rfl
theorem Zql (p:Tx) (d:TN):ZaR p d.1=(ZdI d).map fun x=>Zk (Zc2 p x):=by
 simp only [ZaR,ZdI,XY]
 rfl
theorem ZrK (ns:List TN) (b:Bool) (p:Tx) (d:TN):ZaN ns b p d=(Zdo ns b d).map fun x=>Zk (Zc2 p x):=by
 unfold ZaN Zdo
 cases b with
 | true=>rfl
 | false =>
  simp only [Xf,if_false]
  refine Zjf _ [35] p _ _ fun i _=>?_
  unfold Zf6
  cases ns[i]? with
  | none=>rfl
  | some di=>exact Zql _ di
theorem Zln (ns:List TN):∀ (name:List Tx) (b:Bool) (p:Tx) (j:Nat),Za0 ns name b p j=(Zcf ns name b j).map fun x=>Zk (Zc2 p x)
 | [],b,p,j=>by
  simp only [Za0,Zcf]
  cases ns[j]? with
  | none=>rfl
  | some d=>simp only [X0,ZrK,Zql]
 | l::r,b,p,j=>by
  simp only [Za0,Zcf]
  cases ns[j]? with
  | none=>rfl
  | some d =>
   simp only [X0,ZrK]
   congr 1
   congr 1
   ·exact Zjf _ l p _ _ fun i _=>Zln ns r false (ZM p l) i
   ·cases b with
    | true=>rfl
    | false =>
     simp only [Xf,if_false]
     exact Zjf _ [43] p _ _ fun i _=>Zln ns r false (ZM p [43]) i
def atT (ns:List TN) (j:Nat) (q:List Tx) (k:Tx) (v:Int):Prop:=∃ i d,goT ns j q=some i/\ns[i]?=some d/\(k,v) ∈ d.1
theorem Zih {ns:List TN} {j:Nat} {d:TN} (hd:ns[j]?=some d) (k:Tx) (v:Int):atT ns j [] k v↔(k,v) ∈ d.1:=by
 constructor
 ·rintro ⟨i,d',h1,h2,h3⟩
  simp only [goT,Xa] at h1
  subst h1
  rw [hd] at h2;injection h2 with h2;subst h2;exact h3
 ·intro h;exact ⟨j,d,rfl,hd,h⟩
theorem ZeQ {ns:List TN} {j:Nat} {d:TN} (hd:ns[j]?=some d) (l:Tx) (q:List Tx) (k:Tx) (v:Int):atT ns j (l::q) k v↔∃ i,Zm l d.2=some i/\atT ns i q k v:=by
 constructor
 ·rintro ⟨i,d',h1,h2,h3⟩
  simp only [goT,hd] at h1
  cases hk:Zm l d.2 with
  | none=>rw [hk] at h1;cases h1
  | some i'=>rw [hk] at h1;exact ⟨i',rfl,i,d',h1,h2,h3⟩
 ·rintro ⟨i,h1,i',d',h2,h3,h4⟩
  exact ⟨i',d',by simp only [goT,hd,h1];exact h2,h3,h4⟩
theorem Zgp {ns:List TN} {j:Nat} (hd:ns[j]?=none) (q:List Tx) (k:Tx) (v:Int):¬atT ns j q k v:=by
 rintro ⟨i,d,h1,h2,_⟩
 cases q with
 | nil=>simp only [goT,Xa] at h1;subst h1;rw [hd] at h2;cases h2
 | cons l q=>simp only [goT,hd] at h1;cases h1
def mt:Bool->List Tx->List Tx->Bool
 | _,[],n=>n.isEmpty
 | b,l::q,n=>(l == [35] && q.isEmpty && !b) || (match n with
  | []=>false
  | y::r=>(l == y || (l == [43] && !b)) && mt false q r)
theorem Zen (o:Option Nat) (l:Tx) (f:Nat->List PR3) (x:PR3):x ∈ Zc6 o l f↔∃ i q,o=some i/\x.1=l::q/\(q,x.2) ∈ f i:=by
 cases o with
 | none=>simp [Zc6]
 | some i =>
  simp only [Zc6,Xq]
  constructor
  ·rintro ⟨y,hy,rfl⟩;exact ⟨i,y.1,rfl,rfl,hy⟩
  ·rintro ⟨i',q,h1,h2,h3⟩
   injection h1 with h1;subst h1
   exact ⟨(q,x.2),h3,by obtain ⟨a,b⟩:=x;simp only at h2;subst h2;rfl⟩
theorem ZgX (d:TN) (x:PR3):x ∈ ZdI d↔x.1=[]/\x.2 ∈ d.1:=by
 simp only [ZdI,Xq]
 constructor
 ·rintro ⟨y,hy,rfl⟩;exact ⟨rfl,hy⟩
 ·rintro ⟨h1,h2⟩;exact ⟨x.2,h2,by obtain ⟨a,b⟩:=x;simp only at h1;subst h1;rfl⟩
theorem Zpk (ns:List TN) (i:Nat) (q:List Tx) (k:Tx) (v:Int):(q,k,v) ∈ Zf6 ns i↔q=[]/\atT ns i q k v:=by
 unfold Zf6
 cases hd:ns[i]? with
 | none =>
  simp only [Xac,false_iff,not_and]
  intro _;exact Zgp hd q k v
 | some d =>
  simp only [ZgX]
  constructor
  ·rintro ⟨rfl,h⟩;exact ⟨rfl,(Zih hd k v).2 h⟩
  ·rintro ⟨rfl,h⟩;exact ⟨rfl,(Zih hd k v).1 h⟩
theorem ZpT (ns:List TN) (b:Bool) {j:Nat} {d:TN} (hd:ns[j]?=some d) (q:List Tx) (k:Tx) (v:Int):(q,k,v) ∈ Zdo ns b d↔b=false/\q=[[35]]/\atT ns j q k v:=by
 unfold Zdo
 cases b with
 | true=>simp
 | false =>
  simp only [Xf,if_false,Zen,true_and]
  constructor
  ·rintro ⟨i,q',h1,rfl,h3⟩
   obtain ⟨rfl,h4⟩:=(Zpk ns i q' k v).1 h3
   exact ⟨rfl,(ZeQ hd _ _ k v).2 ⟨i,h1,h4⟩⟩
  ·rintro ⟨rfl,h⟩
   obtain ⟨i,h1,h2⟩:=(ZeQ hd _ _ k v).1 h
   exact ⟨i,[],h1,rfl,(Zpk ns i [] k v).2 ⟨rfl,h2⟩⟩
theorem Zf0 (ns:List TN) (k:Tx) (v:Int):∀ (name:List Tx) (b:Bool) (j:Nat) (q:List Tx),(q,k,v) ∈ Zcf ns name b j↔atT ns j q k v/\mt b q name=true
 | [],b,j,q=>by
  simp only [Zcf]
  cases hd:ns[j]? with
  | none =>
   simp only [Xac,false_iff,not_and]
   intro h;exact absurd h (Zgp hd q k v)
  | some d =>
   simp only [Xl,ZpT ns b hd,ZgX]
   cases q with
   | nil =>
    rw [Zih hd]
    simp [mt]
   | cons l q =>
    simp only [mt,Xae,Xh,beq_iff_eq,Xaa,Wb]
    constructor
    ·rintro (⟨h1,h2,h3⟩ | ⟨h1,_⟩)
     ·injection h2 with h4 h5
      exact ⟨h3,⟨h4,h5⟩,h1⟩
     ·cases h1
    ·rintro ⟨h1,⟨rfl,rfl⟩,h3⟩
     exact Xk ⟨h3,rfl,h1⟩
 | y::r,b,j,q=>by
  simp only [Zcf]
  cases hd:ns[j]? with
  | none =>
   simp only [Xac,false_iff,not_and]
   intro h;exact absurd h (Zgp hd q k v)
  | some d =>
   have hplus:(q,k,v) ∈ (if b then [] else Zc6 (Zm [43] d.2) [43] (fun i=>Zcf ns r false i))↔b=false/\∃ q',q=[43]::q'/\atT ns j q k v/\mt false q' r=true:=by
    cases b with
    | true=>simp
    | false =>
     simp only [Xf,if_false,Zen,true_and]
     constructor
     ·rintro ⟨i,q',h1,rfl,h3⟩
      obtain ⟨h4,h5⟩:=(Zf0 ns k v r false i q').1 h3
      exact ⟨q',rfl,(ZeQ hd _ _ k v).2 ⟨i,h1,h4⟩,h5⟩
     ·rintro ⟨q',rfl,h1,h2⟩
      obtain ⟨i,h3,h4⟩:=(ZeQ hd _ _ k v).1 h1
      exact ⟨i,q',h3,rfl,(Zf0 ns k v r false i q').2 ⟨h4,h2⟩⟩
   have hex:(q,k,v) ∈ Zc6 (Zm y d.2) y (fun i=>Zcf ns r false i)↔∃ q',q=y::q'/\atT ns j q k v/\mt false q' r=true:=by
    simp only [Zen]
    constructor
    ·rintro ⟨i,q',h1,rfl,h3⟩
     obtain ⟨h4,h5⟩:=(Zf0 ns k v r false i q').1 h3
     exact ⟨q',rfl,(ZeQ hd _ _ k v).2 ⟨i,h1,h4⟩,h5⟩
    ·rintro ⟨q',rfl,h1,h2⟩
     obtain ⟨i,h3,h4⟩:=(ZeQ hd _ _ k v).1 h1
     exact ⟨i,q',h3,rfl,(Zf0 ns k v r false i q').2 ⟨h4,h2⟩⟩
   rw [Xl,Xl,ZpT ns b hd,hplus,hex]
   cases q with
   | nil=>simp [mt]
   | cons l q =>
    simp only [mt,WM,Xh,beq_iff_eq,Xaa,Wb]
    constructor
    ·rintro (⟨h1,h2,h3⟩ | ⟨q',h2,h3,h4⟩ | ⟨h1,q',h2,h3,h4⟩)
     ·injection h2 with h4 h5
      exact ⟨h3,Xk ⟨⟨h4,h5⟩,h1⟩⟩
     ·injection h2 with h5 h6
      subst h6
      exact ⟨h3,Xp ⟨Xk h5,h4⟩⟩
     ·injection h2 with h5 h6
      subst h6
      exact ⟨h3,Xp ⟨Xp ⟨h5,h1⟩,h4⟩⟩
    ·rintro ⟨h1,⟨⟨rfl,rfl⟩,h3⟩ | ⟨rfl | ⟨rfl,h3⟩,h4⟩⟩
     ·exact Xk ⟨h3,rfl,h1⟩
     ·exact Xp (Xk ⟨q,rfl,h1,h4⟩)
     ·exact Xp (Xp ⟨h3,q,rfl,h1,h4⟩)
theorem Zmm {d:TN} (h:(ksK d.1).Nodup):(ZdI d).Nodup:=by
 unfold ZdI
 refine ZfG ?_ ?_
 ·rintro ⟨a1,a2⟩ _ ⟨b1,b2⟩ _ he
  simp only [Xb,true_and] at he
  rw [he.1,he.2]
 ·unfold ksK at h
  rw [XbP,XaP] at h
  exact h.imp fun h e=>h (by rw [e])
theorem Zmh {o:Option Nat} {l:Tx} {f:Nat->List PR3} (h:∀ i,o=some i->(f i).Nodup):(Zc6 o l f).Nodup:=by
 cases o with
 | none=>exact WA
 | some i =>
  refine ZfG ?_ (h i rfl)
  rintro ⟨a1,a2⟩ _ ⟨b1,b2⟩ _ he
  simp only [Xb,WD,true_and] at he
  rw [he.1,he.2]
theorem ZGO {ns:List TN} (h:WF ns) (i:Nat):(Zf6 ns i).Nodup:=by
 unfold Zf6
 cases hd:ns[i]? with
 | none=>exact WA
 | some d=>exact Zmm (h.kv i d hd)
theorem Zra {ns:List TN} (h:WF ns) (b:Bool) (d:TN):(Zdo ns b d).Nodup:=by
 unfold Zdo
 split
 ·exact WA
 ·exact Zmh fun i _=>ZGO h i
theorem ZnD (ns:List TN) (b:Bool) (d:TN) (x:PR3) (h:x ∈ Zdo ns b d):∃ q,x.1=[35]::q:=by
 unfold Zdo at h
 split at h
 ·simp at h
 ·obtain ⟨i,q,_,h2,_⟩:=(Zen _ _ _ x).1 h
  exact ⟨q,h2⟩
theorem Zmn {ns:List TN} (h:WF ns):∀ (name:List Tx) (b:Bool) (j:Nat),(∀ y ∈ name,y≠[35]/\y≠[43])->(Zcf ns name b j).Nodup
 | [],b,j,_=>by
  simp only [Zcf]
  cases hd:ns[j]? with
  | none=>exact WA
  | some d =>
   refine WE.2 ⟨Zra h b d,Zmm (h.kv j d hd),?_⟩
   rintro x hx y hy rfl
   obtain ⟨q,hq⟩:=ZnD ns b d x hx
   have:=((ZgX d x).1 hy).1
   rw [this] at hq;cases hq
 | y::r,b,j,hy=>by
  simp only [Zcf]
  have hr:∀ z ∈ r,z≠[35]/\z≠[43]:=fun z hz=>hy z (by simp [hz])
  obtain ⟨y1,y2⟩:=hy y (by simp)
  cases hd:ns[j]? with
  | none=>exact WA
  | some d =>
   refine WE.2 ⟨Zra h b d,WE.2 ⟨Zmh fun i _=>Zmn h r false i hr,?_,?_⟩,?_⟩
   ·split
    ·exact WA
    ·exact Zmh fun i _=>Zmn h r false i hr
   ·rintro x hx z hz rfl
    obtain ⟨_,q,_,h2,_⟩:=(Zen _ _ _ x).1 hx
    split at hz
    ·simp at hz
    ·obtain ⟨_,q',_,h3,_⟩:=(Zen _ _ _ x).1 hz
     rw [h2] at h3;injection h3 with h3;exact y2 h3
   ·rintro x hx z hz rfl
    obtain ⟨q,hq⟩:=ZnD ns b d x hx
    rcases Xl.1 hz with hz | hz
    ·obtain ⟨_,q',_,h3,_⟩:=(Zen _ _ _ x).1 hz
     rw [hq] at h3;injection h3 with h3;exact y1 h3.symm
    ·split at hz
     ·simp at hz
     ·obtain ⟨_,q',_,h3,_⟩:=(Zen _ _ _ x).1 hz
      rw [hq] at h3;injection h3 with h3;cases h3
theorem Zh4 {ns:List TN} (h:WF ns) (q:List Tx) (k:Tx) (v:Int):Zam ns q k=some v↔atT ns 0 q k v:=by
 unfold Zam atT
 cases hg:goT ns 0 q with
 | none=>simp
 | some i =>
  obtain ⟨d,hd⟩:=h.at hg
  simp only [hd]
  rw [<-Zhi (h.kv i d hd)]
  constructor
  ·intro h1;exact ⟨i,d,rfl,hd,h1⟩
  ·rintro ⟨i',d',h1,h2,h3⟩
   injection h1 with h1;subst h1
   rw [hd] at h2;injection h2 with h2;subst h2;exact h3
theorem Zm8:∀ (q:List Tx) (p:Tx),p≠[0]->ZeL p q=p++ZcH q
 | [],p,_=>by simp [ZeL,ZcH]
 | l::q,p,h=>by
  have h1:ZM p l=p++[47]++l:=by simp [ZM,h]
  have h2:p++[47]++l≠[0]:=by
   intro e
   have : (47:UInt8) ∈ ([0]:Tx):=by rw [<-e];simp
   simp at this
  rw [ZeL,h1,Zm8 q _ h2,ZcH]
  simp
theorem Zrq {f:Tx} (h:(Zn f).headD []≠[0]):ZeL [0] (Zn f)=f:=by
 have e:=Zgz f
 cases hs:Zn f with
 | nil=>exact absurd hs (ZgU f)
 | cons l q =>
  rw [hs] at h e
  simp only [Xau] at h
  rw [ZeL,show ZM [0] l=l from by simp [ZM],Zm8 q l h,<-e]
  simp [ZdA,ZcH]
theorem ZAe:ZcV [0]=false:=by decide
theorem Zpl {f:Tx} (h:ZaK f=true):(Zn f).headD []≠[0]:=by
 simp only [ZaK,ZcD,Xh] at h
 have h1:=Zlv (Zn f)
 rw [Zgz,h.2.2] at h1
 cases hs:Zn f with
 | nil=>simp
 | cons l q =>
  rw [hs] at h1
  simp only [Xau]
  rintro rfl
  rw [X3,ZAe] at h1
  cases h1
theorem ZiN {f g:Tx} (h:Zn f=Zn g):f=g:=by
 rw [<-Zgz f,<-Zgz g,h]
theorem Zjm:∀ (q n:List Tx),ZdN q=true->(∀ y ∈ n,y≠[35]/\y≠[43])->mt false q n=Zcd q n
 | [],n,_,_=>rfl
 | l::q,n,hq,hn=>by
  simp only [ZdN,Zix,Xh,WM,beq_iff_eq,Wb] at hq
  cases n with
  | nil =>
   simp only [mt,Zcd,Xaq,XbA,Xae]
   by_cases e:l=[35]
   ·subst e
    have : q.isEmpty=true:=by
     rcases hq.1 with (h1 | h1) | h1
     ·cases h1
     ·exact h1.2
     ·simp [Zao,ZbT] at h1
    simp [this]
   ·have : (l == [35])=false:=by simpa using e
    simp [this]
  | cons y r =>
   have ih:=Zjm q r hq.2 fun z hz=>hn z (by simp [hz])
   simp only [mt,Zcd,Xaq,XbA,ih]
   by_cases e:l=[35]
   ·subst e
    have : q.isEmpty=true:=by
     rcases hq.1 with (h1 | h1) | h1
     ·cases h1
     ·exact h1.2
     ·simp [Zao,ZbT] at h1
    simp [this]
   ·have : (l == [35])=false:=by simpa using e
    simp only [this,XaD,Xaz]
    rw [Bool.or_comm]
theorem ZAG (b:Bool) (q:List Tx) (y:Tx) (r:List Tx) (hq:ZdN q=true) (hn:∀ z ∈ y::r,z≠[35]/\z≠[43]):mt b q (y::r)=(!(b && Zg2 (q.headD [])) && Zcd q (y::r)):=by
 cases b with
 | false=>rw [Zjm q _ hq hn];simp
 | true =>
  cases q with
  | nil=>simp [mt,Zcd,Zg2]
  | cons l q =>
   simp only [ZdN,Xh] at hq
   have ih:=Zjm q r hq.2 fun z hz=>hn z (by simp [hz])
   obtain ⟨h1,h2⟩:=hn y (by simp)
   simp only [mt,Zcd,Xa2,Xbv,Xaz,Xae,ih,Xau,Zg2,Xbz]
   by_cases e1:l=[43]
   ·subst e1
    have : (([43]:Tx) == y)=false:=by simpa using fun e=>h2 e.symm
    simp [this]
   ·by_cases e2:l=[35]
    ·subst e2
     have : (([35]:Tx) == y)=false:=by simpa using fun e=>h1 e.symm
     simp [this]
    ·have a1:(l == [43])=false:=by simpa using e1
     have a2:(l == [35])=false:=by simpa using e2
     simp [a1,a2]
theorem Zqi {n:Tx} (h:ZaL n=true):∀ y ∈ Zn n,y≠[35]/\y≠[43]:=by
 have h1:=(ZII h).2.1
 intro y hy
 have h2:Zao y=false:=by
  cases e:Zao y with
  | false=>rfl
  | true =>
   have : (Zn n).any Zao=true:=WZ.2 ⟨y,hy,e⟩
   rw [h1] at this;cases this
 constructor
 ·rintro rfl;simp [Zao,ZbT] at h2
 ·rintro rfl;simp [Zao,ZbT] at h2
theorem Zqn {f n:Tx} (hf:ZaK f=true) (hn:ZaL n=true):mt (n.headD 0 == 36) (Zn f) (Zn n)=Z8 f n:=by
 have h1:ZdN (Zn f)=true:=by simp only [ZaK,Xh] at hf;exact hf.1
 have h2:=Zqi hn
 cases hs:Zn n with
 | nil=>exact absurd hs (ZgU n)
 | cons y r =>
  rw [hs] at h2
  rw [ZAG _ _ y r h1 h2]
  simp [Z8,hf,hn,hs]
end
section
def ZcS (f k:List UInt8):List Zh->Option Nat
 | []=>none
 | x::r=>if x.f=f/\x.k=k then some 0 else (ZcS f k r).map (·+1)
def Zdu (l:List Zh) (f k:List UInt8):List Zh×Bool:=match ZcS f k l with
 | none=>(l,false)
 | some j=>(l.take j++l.drop (j+1),true)
end
section
theorem Zkk {a b c:Zh} (h:ltR a b) (h':ltR b c):ltR a c:=Zd7 h h'
theorem ZEr (a:Zh):¬ltR a a:=Zc4 _
theorem Zce (a b:Zh):Zak a b=true↔kyR a=kyR b:=by
 unfold Zak kyR;simp
theorem ZjN {a b:Zh} (h:¬ltR a b) (h':Zak a b=false):ltR b a:=by
 by_cases e:ltR b a
 ·exact e
 ·have:=ZdD h e
  rw [(Zce a b).2 this] at h';cases h'
theorem ZeG {a b:Zh} (h:ltR a b):Zak a b=false:=by
 cases e:Zak a b with
 | false=>rfl
 | true=>have:=(Zce a b).1 e;unfold ltR at h;rw [this] at h;exact absurd h (Zc4 _)
theorem ZmJ (a b:Zh):Zak a b=Zak b a:=by
 cases e:Zak b a with
 | true=>exact (Zce a b).2 ((Zce b a).1 e).symm
 | false =>
  cases e':Zak a b with
  | false=>rfl
  | true=>rw [(Zce b a).2 ((Zce a b).1 e').symm] at e;cases e
def Zck (s:Zh):List Zh->List Zh
 | []=>[s]
 | x::r=>if Zex x s then x::Zck s r else if Zak x s then s::r else s::x::r
theorem Zf4 (s:Zh):∀ L:List Zh,ZcK L s=Zck s L
 | []=>rfl
 | x::r=>by
  have ih:=Zf4 s r
  unfold ZcK putAt at *
  unfold Zck
  by_cases h:Zex x s=true
  ·rw [if_pos h,<-ih]
   have e:Zfc s (x::r)=Zfc s r+1:=by rw [Zfc,if_pos h]
   rw [e]
   rfl
  ·rw [if_neg h]
   have e:Zfc s (x::r)=0:=by rw [Zfc,if_neg h]
   rw [e]
   by_cases h2:Zak x s=true
   ·rw [if_pos h2];simp [Zk1,h2]
   ·rw [if_neg h2];simp [Zk1,h2]
theorem ZkD (s:Zh):∀ L:List Zh,L.Pairwise ltR->(Zck s L).Perm (s::L.filter fun x=>!Zak x s)
 | [],_=>Xag _
 | x::r,h=>by
  obtain ⟨h1,h2⟩:=Wf.1 h
  unfold Zck
  by_cases hl:Zex x s=true
  ·rw [if_pos hl]
   have:=ZeG ((ZfU x s).1 hl)
   rw [Xah,this]
   simp only [Xaq,if_true]
   exact ((ZkD s r h2).cons x).trans (Xbb.swap _ _ _)
  ·have hnl:¬ltR x s:=fun e=>hl ((ZfU x s).2 e)
   rw [if_neg hl]
   by_cases hs:Zak x s=true
   ·rw [if_pos hs,Xah,hs]
    simp only [Xa2,Xf,if_false]
    rw [XaZ.2]
    intro y hy
    have h3:=h1 y hy
    have e:kyR x=kyR s:=(Zce x s).1 hs
    have : Zak y s=false:=by
     rw [ZmJ]
     refine ZeG ?_
     unfold ltR at h3 ⊢
     rw [<-e];exact h3
    simp [this]
   ·rw [if_neg hs,XaZ.2]
    intro y hy
    have hsx:=ZjN hnl (by simpa using hs)
    rcases Xv.1 hy with rfl | hy
    ·simpa using hs
    ·have:=ZeG (Zkk hsx (h1 y hy))
     rw [ZmJ] at this
     simp [this]
theorem ZpX (s:Zh):∀ (L:List Zh) (y:Zh),y ∈ Zck s L->y=s\/y ∈ L
 | [],y,h=>by simpa [Zck] using h
 | x::r,y,h=>by
  unfold Zck at h
  split at h
  ·rcases Xv.1 h with rfl | h
   ·simp
   ·rcases ZpX s r y h with h | h <;> simp [h]
  ·split at h
   ·rcases Xv.1 h with h | h <;> simp [h]
   ·rcases Xv.1 h with h | h
    ·simp [h]
    ·exact Xp h
theorem ZlT (s:Zh):∀ L:List Zh,L.Pairwise ltR->(Zck s L).Pairwise ltR
 | [],_=>by simp [Zck]
 | x::r,h=>by
  obtain ⟨h1,h2⟩:=Wf.1 h
  unfold Zck
  by_cases hl:Zex x s=true
  ·rw [if_pos hl]
   refine Wf.2 ⟨fun y hy=>?_,ZlT s r h2⟩
   rcases ZpX s r y hy with rfl | hy
   ·exact (ZfU _ _).1 hl
   ·exact h1 y hy
  ·have hnl:¬ltR x s:=fun e=>hl ((ZfU x s).2 e)
   rw [if_neg hl]
   by_cases hs:Zak x s=true
   ·rw [if_pos hs]
    refine Wf.2 ⟨fun y hy=>?_,h2⟩
    have:=h1 y hy
    unfold ltR at this ⊢
    rw [<-(Zce x s).1 hs];exact this
   ·rw [if_neg hs]
    have hsx:=ZjN hnl (by simpa using hs)
    refine Wf.2 ⟨fun y hy=>?_,h⟩
    rcases Xv.1 hy with rfl | hy
    ·exact hsx
    ·exact Zkk hsx (h1 y hy)
def ZdV (f k:List UInt8):Zh:=⟨f,k,0⟩
theorem ZkK (f k:List UInt8):∀ L:List Zh,L.Pairwise ltR->Zdu L f k=(L.filter (fun x=>!Zak x (ZdV f k)),L.any fun x=>Zak x (ZdV f k))
 | [],_=>rfl
 | x::r,h=>by
  obtain ⟨h1,h2⟩:=Wf.1 h
  have ih:=ZkK f k r h2
  have hk:(x.f=f/\x.k=k)↔Zak x (ZdV f k)=true:=by
   rw [Zce];unfold kyR ZdV;simp
  unfold Zdu at *
  by_cases hx:x.f=f/\x.k=k
  ·have e:ZcS f k (x::r)=some 0:=by rw [ZcS,if_pos hx]
   have hs:=hk.1 hx
   rw [e]
   simp only [List.take_zero,Xr,Xw,Xax,XaS]
   rw [Xah,hs,Xal,hs]
   simp only [Xa2,Xf,if_false,Xak]
   rw [XaZ.2]
   intro y hy
   have:=ZeG (h1 y hy)
   have e2:=(Zce x _).1 hs
   have : Zak y (ZdV f k)=false:=by
    cases e3:Zak y (ZdV f k) with
    | false=>rfl
    | true =>
     have:=(Zce y _).1 e3
     rw [(Zce x y).2 (e2.trans this.symm)] at *
     cases ‹true=false›
   simp [this]
  ·have hs:Zak x (ZdV f k)=false:=by
    cases e3:Zak x (ZdV f k) with
    | false=>rfl
    | true=>exact absurd (hk.2 e3) hx
   have e:ZcS f k (x::r)=(ZcS f k r).map (·+1):=by rw [ZcS,if_neg hx]
   rw [e,Xah,hs,Xal,hs]
   simp only [Xaq,if_true,Xaz]
   cases hf:ZcS f k r with
   | none=>rw [hf] at ih;simp only [Xb] at ih;simp only [Option.map_none,Xb];exact ⟨by rw [<-ih.1],ih.2⟩
   | some j=>rw [hf] at ih;simp only [Xb] at ih;simp only [Option.map_some,Xb,List.take_succ_cons,Xax,XC];exact ⟨by rw [<-ih.1],ih.2⟩
end
section
structure TInv (ns:List TN) (L:List Zh):Prop where
 wf:WF ns
 sort:L.Pairwise ltR
 tab:∀ x:Zh,x ∈ L↔ZaK x.f=true/\Zam ns (Zn x.f) x.k=some x.v
 ok:∀ q k v,Zam ns q k=some v->∃ f,ZaK f=true/\q=Zn f
theorem ZnL (q:List Tx) (k:Tx):Zam [([],[])] q k=none:=by
 cases q with
 | nil=>rfl
 | cons l q=>simp [Zam,goT,Zm]
theorem TInv.nil:TInv [([],[])] [] :=
 ⟨WF.nil,WA,fun x=>by rw [ZnL];simp,fun q k v h=>by rw [ZnL] at h;cases h⟩
theorem TInv.nodup {ns:List TN} {L:List Zh} (h:TInv ns L):L.Nodup:=h.sort.imp fun h e=>by subst e;exact ZEr _ h
theorem Zd9 (x:Zh) (f k:Tx) (v:Int):Zak x ⟨f,k,v⟩=true↔x.f=f/\x.k=k:=by
 rw [Zce];unfold kyR;simp
theorem TInv.any {ns:List TN} {L:List Zh} (h:TInv ns L) (f k:Tx) (v:Int):(L.any fun x=>Zak x ⟨f,k,v⟩)=(Zam ns (Zn f) k).isSome:=by
 rw [WX,WZ]
 constructor
 ·rintro ⟨x,hx,hs⟩
  obtain ⟨rfl,rfl⟩:=(Zd9 x f k v).1 hs
  rw [((h.tab x).1 hx).2];rfl
 ·intro hg
  obtain ⟨v',hv⟩:=Option.isSome_iff_exists.1 hg
  obtain ⟨f',hf,he⟩:=h.ok _ _ _ hv
  have:=ZiN he
  subst this
  exact ⟨⟨f,k,v'⟩,(h.tab _).2 ⟨hf,hv⟩,(Zd9 _ f k v).2 ⟨rfl,rfl⟩⟩
theorem Zkm (s:Zh):∀ L:List Zh,L.Pairwise ltR->(Zck s L).length=if L.any (fun x=>Zak x s) then L.length else L.length+1
 | [],_=>rfl
 | x::r,h=>by
  obtain ⟨h1,h2⟩:=Wf.1 h
  unfold Zck
  by_cases hl:Zex x s=true
  ·have hs:=ZeG ((ZfU x s).1 hl)
   rw [if_pos hl,XD,Zkm s r h2,Xal,hs,Xaz]
   split <;> simp
  ·have hnl:¬ltR x s:=fun e=>hl ((ZfU x s).2 e)
   rw [if_neg hl]
   by_cases hs:Zak x s=true
   ·rw [if_pos hs,Xal,hs];simp
   ·rw [if_neg hs]
    have hsx:=ZjN hnl (by simpa using hs)
    have : (r.any fun x=>Zak x s)=false:=by
     rw [Bool.eq_false_iff]
     intro e
     obtain ⟨y,hy,he⟩:=WZ.1 e
     have:=ZeG (Zkk hsx (h1 y hy))
     rw [ZmJ] at this
     rw [this] at he;cases he
    have hs':Zak x s=false:=by simpa using hs
    rw [Xal,this,hs']
    simp
theorem Zj5 (s:Zh) {L:List Zh} (h:L.Pairwise ltR) (x:Zh):x ∈ Zck s L↔x=s\/(x ∈ L/\Zak x s=false):=by
 rw [(ZkD s L h).mem_iff,Xv,X1]
 simp
theorem TInv.put {ns:List TN} {L:List Zh} (h:TInv ns L) {f:Tx} (hf:ZaK f=true) (k:Tx) (v:Int):TInv (ZR k v (Zn f) ns 0).1 (ZcK L ⟨f,k,v⟩) /\
  ((ZcK L ⟨f,k,v⟩).length:Int)=if (ZR k v (Zn f) ns 0).2 then (L.length:Int) else L.length+1:=by
 obtain ⟨p1,p2,p3⟩:=Zlu k v (Zn f) ns 0 [] h.wf rfl
 rw [Xr] at p2 p3
 rw [Zf4]
 refine ⟨⟨p1,ZlT _ L h.sort,fun x=>?_,fun q k' v' hg=>?_⟩,?_⟩
 ·rw [Zj5 _ h.sort,p3,h.tab]
  constructor
  ·rintro (rfl | ⟨h1,h2⟩)
   ·exact ⟨hf,by simp⟩
   ·refine ⟨h1.1,?_⟩
    rw [if_neg,h1.2]
    rintro ⟨e1,e2⟩
    rw [(Zd9 x f k v).2 ⟨ZiN e1,e2⟩] at h2;cases h2
  ·rintro ⟨h1,h2⟩
   split at h2
   ·rename_i e
    left
    injection h2 with h2
    obtain ⟨xf,xk,xv⟩:=x
    simp only at e h2
    rw [ZiN e.1,e.2,h2]
   ·rename_i e
    right
    refine ⟨⟨h1,h2⟩,?_⟩
    cases hs:Zak x ⟨f,k,v⟩ with
    | false=>rfl
    | true =>
     obtain ⟨e1,e2⟩:=(Zd9 x f k v).1 hs
     exact absurd ⟨by rw [e1],e2⟩ e
 ·rw [p3] at hg
  split at hg
  ·rename_i e;exact ⟨f,hf,e.1⟩
  ·exact h.ok q k' v' hg
 ·rw [Zkm _ L h.sort,h.any,p2]
  split <;> simp
theorem Zvh (f k:Tx) (L:List Zh) (h:L.Pairwise ltR):((Zdu L f k).1.length:Int)=if (Zdu L f k).2 then (L.length:Int) - 1 else L.length:=by
 have hj:∀ (L:List Zh) (j:Nat),ZcS f k L=some j->j < L.length:=by
  intro L
  induction L with
  | nil=>intro j h;simp [ZcS] at h
  | cons x r ih =>
   intro j h
   unfold ZcS at h
   split at h
   ·injection h with h;subst h;simp
   ·obtain ⟨i,hi,rfl⟩:=Xi.1 h
    have:=ih i hi
    simp;omega
 unfold Zdu
 cases hf:ZcS f k L with
 | none=>rfl
 | some j =>
  have:=hj L j hf
  simp only [if_true,Xx,List.length_take,WO]
  omega
theorem TInv.drop {ns:List TN} {L:List Zh} (h:TInv ns L) (f k:Tx):TInv (Zan k (Zn f) ns 0).1 (Zdu L f k).1/\(Zan k (Zn f) ns 0).2=(Zdu L f k).2 /\
  ((Zdu L f k).1.length:Int)=if (Zdu L f k).2 then (L.length:Int) - 1 else L.length:=by
 obtain ⟨p1,p2,p3,_⟩:=ZpO k (Zn f) ns 0 [] h.wf rfl
 rw [Xr] at p2 p3
 refine ⟨?_,?_,Zvh f k L h.sort⟩
 ·rw [ZkK f k L h.sort]
  refine ⟨p1,h.sort.filter _,fun x=>?_,fun q k' v' hg=>?_⟩
  ·rw [X1,p3,h.tab]
   unfold ZdV
   constructor
   ·rintro ⟨h1,h2⟩
    refine ⟨h1.1,?_⟩
    rw [if_neg,h1.2]
    rintro ⟨e1,e2⟩
    rw [(Zd9 x f k 0).2 ⟨ZiN e1,e2⟩] at h2;cases h2
   ·rintro ⟨h1,h2⟩
    split at h2
    ·cases h2
    ·rename_i e
     refine ⟨⟨h1,h2⟩,?_⟩
     cases hs:Zak x ⟨f,k,0⟩ with
     | false=>rfl
     | true =>
      obtain ⟨e1,e2⟩:=(Zd9 x f k 0).1 hs
      exact absurd ⟨by rw [e1],e2⟩ e
  ·rw [p3] at hg
   split at hg
   ·cases hg
   ·exact h.ok q k' v' hg
 ·rw [p2,ZkK f k L h.sort]
  exact (h.any f k 0).symm
def ZgR (f k:Tx) (a:Int×Bool) (l:List Zh):Int×Bool:=l.foldl (fun a x=>if x.f=f/\x.k=k then (x.v,true) else a) a
theorem Zjd (f k:Tx):∀ (L:List Zh) (a:Int×Bool),(∀ x ∈ L,¬(x.f=f/\x.k=k))->ZgR f k a L=a
 | [],a,_=>rfl
 | x::r,a,h=>by
  have:=h x (by simp)
  unfold ZgR
  rw [XaK,if_neg this]
  exact Zjd f k r a fun y hy=>h y (by simp [hy])
theorem Znu (f k:Tx):∀ (L:List Zh) (a:Int×Bool) (x:Zh),L.Pairwise ltR->x ∈ L->x.f=f->x.k=k->ZgR f k a L=(x.v,true)
 | y::r,a,x,hn,hx,he,hk=>by
  obtain ⟨h1,h2⟩:=Wf.1 hn
  unfold ZgR
  rw [XaK]
  rcases Xv.1 hx with rfl | hx
  ·rw [if_pos ⟨he,hk⟩]
   refine Zjd f k r _ fun z hz e=>?_
   have:=ZeG (h1 z hz)
   rw [(Zce x z).2 (by unfold kyR;rw [he,hk,e.1,e.2])] at this;cases this
  ·rw [if_neg]
   ·exact Znu f k r a x h2 hx he hk
   ·rintro ⟨e1,e2⟩
    have:=ZeG (h1 x hx)
    rw [(Zce y x).2 (by unfold kyR;rw [he,hk,e1,e2])] at this;cases this
theorem TInv.want {ns:List TN} {L:List Zh} (h:TInv ns L) (f k:Tx):ZgR f k (0,false) L=((Zam ns (Zn f) k).getD 0,(Zam ns (Zn f) k).isSome):=by
 have ha:=h.any f k 0
 cases hg:Zam ns (Zn f) k with
 | none =>
  rw [hg] at ha
  refine Zjd f k L _ fun x hx e=>?_
  have : (L.any fun x=>Zak x ⟨f,k,0⟩)=true:=WZ.2 ⟨x,hx,(Zd9 x f k 0).2 e⟩
  rw [ha] at this;cases this
 | some v =>
  rw [hg] at ha
  obtain ⟨x,hx,hs⟩:=WZ.1 ha
  obtain ⟨rfl,rfl⟩:=(Zd9 x f k 0).1 hs
  have:=((h.tab x).1 hx).2
  rw [hg] at this;injection this with this;subst this
  exact Znu x.f x.k L _ x h.sort hx rfl rfl
theorem TInv.hit {ns:List TN} {L:List Zh} (h:TInv ns L) {n:Tx} (hn:ZaL n=true) :
  ∃ R:List Zh,Za0 ns (Zn n) (n.headD 0 == 36) [0] 0=R.map Zk/\(L.filter fun x=>Z8 x.f n).Perm R:=by
 refine ⟨(Zcf ns (Zn n) (n.headD 0 == 36) 0).map (Zc2 [0]),?_,?_⟩
 ·rw [Zln,XY];rfl
 ·have hm:∀ x:PR3,x ∈ Zcf ns (Zn n) (n.headD 0 == 36) 0->∃ f,ZaK f=true/\x.1=Zn f/\Zam ns (Zn f) x.2.1=some x.2.2/\mt (n.headD 0 == 36) (Zn f) (Zn n)=true:=by
   rintro ⟨q,k,v⟩ hx
   obtain ⟨h1,h2⟩:=(Zf0 ns k v _ _ _ _).1 hx
   have h3:=(Zh4 h.wf q k v).2 h1
   obtain ⟨f,hf,rfl⟩:=h.ok _ _ _ h3
   exact ⟨f,hf,rfl,h3,h2⟩
  have hr:∀ (x:PR3) (f:Tx),ZaK f=true->x.1=Zn f->Zc2 [0] x=⟨f,x.2.1,x.2.2⟩:=by
   intro x f hf he
   unfold Zc2
   rw [he,Zrq (Zpl hf)]
  refine (List.perm_ext_iff_of_nodup (Xbj _ h.nodup) (ZfG ?_ (Zmn h.wf _ _ _ (Zqi hn)))).2 fun x=>?_
  ·intro a ha b hb he
   obtain ⟨f,hf,h1,_⟩:=hm a ha
   obtain ⟨g,hg,h2,_⟩:=hm b hb
   rw [hr a f hf h1,hr b g hg h2] at he
   simp only [Zh.mk.injEq] at he
   obtain ⟨a1,a2,a3⟩:=a
   obtain ⟨b1,b2,b3⟩:=b
   simp only at *
   rw [h1,h2,he.1,he.2.1,he.2.2]
  ·rw [X1,h.tab,Xq]
   constructor
   ·rintro ⟨⟨h1,h2⟩,h3⟩
    refine ⟨(Zn x.f,x.k,x.v),(Zf0 ns _ _ _ _ _ _).2 ⟨(Zh4 h.wf _ _ _).1 h2,?_⟩,?_⟩
    ·rw [Zqn h1 hn];exact h3
    ·rw [hr _ x.f h1 rfl]
   ·rintro ⟨y,hy,rfl⟩
    obtain ⟨f,hf,h1,h2,h3⟩:=hm y hy
    rw [hr y f hf h1]
    rw [Zqn hf hn] at h3
    exact ⟨⟨hf,h2⟩,h3⟩
end
section
abbrev trV (u:Nat) (n:Int):List AVal:=[.nref u 0 0,.int .i64 n]
theorem ZqJ {view:Bool} {ns:List TN} {n:Int} {q:AVal} (hq:ZP q=true) (hv:viewR (trH ns n) q=some (q,[])):Z4 view 2 (some (q,trH ns n))=some (q,trH ns n):=by
 unfold Z4
 split
 ·have hnp:∀ x,q=.pan x->False:=by rintro x rfl;simp [viewR,ZbH,ZaT] at hv
  have : Zcv 2 (some (q,trH ns n))=(match viewR (trH ns n) q with
   | some (r',ts)=>match gcA 2 [r'] (Zo (trH ns n) ts) with
    | ([r''],σ')=>some (r'',σ')
    | _=>none
   | none=>none):=by
   cases q <;> first | rfl | exact (hnp _ rfl).elim
  rw [this,hv]
  exact Ze8 hq ns n []
 ·rfl
theorem Zg0 {O:Zz} {f own:Nat} {view:Bool} {args:List AVal} {ns ns':List TN} {n n':Int} {q r0:AVal} {h0:Za} (hq:ZP q=true) (h:O f (.ref 0 0::args) (trH ns n)=some (r0,h0)) (hask:Z4 view 2 (some (r0,h0))=some (q,trH ns' n')) (hb:BY f=false) (hp:args.all Z7=true) (hn:args.map ZH=args)
  (hlen:ns.length<=ns'.length) {σ:Za} {t u sq:Nat} (htu:t≠u) (hs:σ[t]?=some (.var (trV u n))) (hm:σ[u]?=some (.arena (eNs ns))) (hff:Zac σ sq own=true) :
  Zr O BY σ sq f own view (.ref t 0::args)=some (q,(σ.set t (.var (trV u n'))).set u (.arena (eNs ns')),{ any:=true,upd:=[(t,trV u n')] }):=by
 have htl:t < σ.length:=(Xc.1 hs).1
 have hul:u < σ.length:=(Xc.1 hm).1
 have h1:σ.getD t .free=.var (trV u n):=by simp [Xd,hs]
 have h2:σ.getD u .free=.arena (eNs ns):=by simp [Xd,hm]
 have hsh:showAs σ (.ref t 0::args)=some (.ref t 0::args.map ZH,[]):=by
  rw [showAs,show showA σ (.ref t 0)=some (.ref t 0,[]) from rfl,Zfj hp]
  rfl
 have href:Zu (.ref t 0::args.map ZH)=[t]:=by
  rw [Zu,ZeI hp];rfl
 have hre:Zj σ 1000 (Zu (.ref t 0::args.map ZH)) []=[t,u]:=by
  have e0:([]:List Nat).contains t=false:=rfl
  have e1:([t]:List Nat).contains u=false:=by simp;exact fun e=>htu e.symm
  rw [href,show (1000:Nat)=997+1+1+1 from rfl]
  have hb0:Zt (.var (trV u n))=[u]:=rfl
  have hb1:Zt (.arena (eNs ns))=[]:=rfl
  simp only [Zj,e0,h1,hb0,hb1,XE,Xr,Xf,if_false,e1,h2,XC]
 have hρt:Zd σ 0 [t,u] t 0=some (0,0):=by simp [Zd,Zw,hs,Zb,Zv]
 have hρu:Zd σ 0 [t,u] u (1001+3*0)=some (1,1001+3*0):=Zej (j:=0) hm (by simp [Zw,htu]) (by omega)
 have hvs:Zp (Zd σ 0 [t,u]) (.ref t 0::args.map ZH)=.ref 0 0::args:=by
  rw [Zp,ZeK hp,hn]
  simp only [Ze,hρt]
 have hh:Zi σ 0 [t,u] (Zd σ 0 [t,u]) [t,u] 0=trH ns n:=by
  simp only [Zi,h1,h2,Zl,Zp,Ze,hρu,if_true,trH]
 have hall:([t,u].all fun t=>okB (σ.getD t .free))=true:=by simp only [X3,Ww,h1,h2,okB,Wh]
 have hk:Z5 σ [t,u] (trH ns' n') 0=true:=by simp [trH,Z5,okB,Za6,Zb,hs,hm,ZhP,hlen]
 have hρb:Zah σ [t,u] sq 1 (1001+3*0)=some (u,1001+3*0):=by
  simp [Zah,Zb,hm]
 have hlay:ZY σ [t,u] sq (trH ns' n') 0 σ=(σ.set t (.var (trV u n'))).set u (.arena (eNs ns')):=by
  simp only [trH,ZY,ZO,XK,X6,Zl,Zp,Ze,hρb,if_true]
 refine ZdG hb hsh hre rfl hall hvs hh h hask (by simp [trH]) (by simp [trH]) hk hff (Zcm _ q hq).1 hlay ?_
 have h3:((σ.set t (.var (trV u n'))).set u (.arena (eNs ns')))[t]?=some (.var (trV u n')):=by
  rw [Xj,if_neg (fun e=>htu e.symm),Xj,if_pos rfl,if_pos htl]
 have h4:((σ.set t (.var (trV u n'))).set u (.arena (eNs ns')))[u]?=some (.arena (eNs ns')):=by
  rw [Xj,if_pos rfl,if_pos (by simpa using hul)]
 simp [ZaI,h3,h4]
theorem ZCX {σ:Za} {sq:Nat} (hff:Zac σ sq 2=true) :
  Zr E BY σ sq 7 2 false []=some (.ref sq 0,(σ.set sq (.var (trV (sq+1) 0))).set (sq+1) (.arena (eNs [([],[])])),{ any:=true }):=by
 have hd:ZeJ 2 (.ref 0 0) (trH [([],[])] 0)=none:=rfl
 have hk:Z5 σ [] (trH [([],[])] 0) 0=true:=rfl
 unfold Zr Zbt
 rw [show BY 7=false from by kernel_rfl]
 simp only [Xf,if_false,show showAs σ []=some ([],[]) from rfl,show Zo σ []=σ from rfl,Zu]
 have h2:∀ σ,Zj σ 1000 [] []=[]:=fun _=>rfl
 rw [h2]
 unfold ZaS
 simp only [Ww,if_true,Zp,Zi,XT,Zzv]
 have hk2:decide ((trH [([],[])] 0).length<=0+2)=true:=rfl
 simp only [Z4,Xf,if_false,Z9,List.isEmpty_nil,show (trH [([],[])] 0).isEmpty=false from rfl,Xbv,if_true,hd,XT,hk2,Xao,decide_true,hk,hff,Wh]
 simp [trH,ZY,ZO,Zah,Zl,Zp,Ze,ZaI]
theorem Zo5 {f:Tx} (hf:f.length<=1048576):(Zn f).length<=2000000:=by
 have h1:=ZfC f
 have h2:=List.count_le_length (a:=(47:UInt8)) (l:=f)
 omega
section
variable {ns:List TN} {L:List Zh} (hI:TInv ns L) (hL:L.length<=1000) {σ:Za} {t u sq:Nat} (htu:t≠u) (hs:σ[t]?=some (.var (trV u (L.length:Int)))) (hm:σ[u]?=some (.arena (eNs ns)))
include hI hL htu hs hm
theorem ZBA (f k:Tx) (v:Int) (hf:f.length<=1048576) (hb:ZaK f=true):Zr E BY σ sq 9 0 true [.ref t 0,.str f,.str k,.int .i64 v] =
  some (.int .i64 0,(σ.set t (.var (trV u ((ZcK L ⟨f,k,v⟩).length:Int)))).set u (.arena (eNs (ZR k v (Zn f) ns 0).1)),{ any:=true,upd:=[(t,trV u ((ZcK L ⟨f,k,v⟩).length:Int))] }):=by
 have hq:=Zq3 ns hI.wf.cl hI.wf.pos (L.length:Int) (by omega) f k v hf (Zo5 hf)
 rw [if_pos hb,<-(hI.put hb k v).2] at hq
 exact Zg0 rfl hq (ZqJ rfl rfl) (by kernel_rfl) rfl rfl (Zis k v _ ns 0) htu hs hm rfl
theorem Ztp (f k:Tx) (v:Int) (hf:f.length<=1048576) (hb:ZaK f=false):Zr E BY σ sq 9 0 true [.ref t 0,.str f,.str k,.int .i64 v] =
  some (.int .i64 150,(σ.set t (.var (trV u (L.length:Int)))).set u (.arena (eNs ns)),{ any:=true,upd:=[(t,trV u (L.length:Int))] }):=by
 have hq:=Zq3 ns hI.wf.cl hI.wf.pos (L.length:Int) (by omega) f k v hf (Zo5 hf)
 rw [if_neg (by simp [hb])] at hq
 exact Zg0 rfl hq (ZqJ rfl rfl) (by kernel_rfl) rfl rfl (XI _) htu hs hm rfl
end
def ZhS (n:Tx) (L:List Zh):List Zh:=if ZaL n then L.filter fun x=>Z8 x.f n else []
theorem ZAY (ns:List TN) (n:Int) (k:Nat) (Y:List AVal) (hk:k=Y.length):Z4 true 2 (some (.sl 2 0 0 k,trH ns n++[.row 0 3 Y]))=some (.lst false Y,trH ns n):=by
 have hv:viewR (trH ns n++[.row 0 3 Y]) (.sl 2 0 0 k)=some (.lst false Y,[2]):=by
  unfold trH
  simp only [viewR,ZbH,ZaT,Zaf,XC,Xr,XP,XB,Xw]
  rw [if_pos ⟨trivial,by omega⟩]
  simp [hk]
 have e:Z4 true 2 (some (.sl 2 0 0 k,trH ns n++[.row 0 3 Y]))=(match viewR (trH ns n++[.row 0 3 Y]) (.sl 2 0 0 k) with
  | some (r',ts)=>match gcA 2 [r'] (Zo (trH ns n++[.row 0 3 Y]) ts) with
   | ([r''],σ')=>some (r'',σ')
   | _=>none
  | none=>none):=rfl
 rw [e,hv]
 exact Ze8 (r:=.lst false Y) rfl ns n [.frow 0 3 Y]
theorem Zrh (ns:List TN) (n:Int):Z4 true 2 (some (.lst true [],trH ns n))=some (.lst false [],trH ns n) :=
 Ze8 (r:=.lst false []) rfl ns n []
theorem Zzl {ns:List TN} {L:List Zh} (hI:TInv ns L) (hL:L.length<=1000) {σ:Za} {t u sq:Nat} (htu:t≠u) (hs:σ[t]?=some (.var (trV u (L.length:Int)))) (hm:σ[u]?=some (.arena (eNs ns))) (name:Tx) :
  Zr E BY σ sq 11 0 true [.ref t 0,.str name]=some (.lst false ((ZhS name L).map Zk),(σ.set t (.var (trV u (L.length:Int)))).set u (.arena (eNs ns)),{ any:=true,upd:=[(t,trV u (L.length:Int))] }):=by
 unfold ZhS
 cases hn:ZaL name with
 | false=>exact Zg0 rfl (ZEb ns (L.length:Int) name hn) (Zrh ns _) (by kernel_rfl) rfl rfl (XI _) htu hs hm rfl
 | true =>
  rw [if_pos rfl]
  obtain ⟨R,h1,h2⟩:=hI.hit hn
  have hsr:(L.filter fun x=>Z8 x.f name).Pairwise ltR:=hI.sort.filter _
  generalize hSd:(L.filter fun x=>Z8 x.f name)=S at *
  have hSl:S.length<=L.length:=by rw [<-hSd];exact XaN _ _
  cases R with
  | nil =>
   have : S=[]:=h2.eq_nil
   subst this
   exact Zg0 rfl (ZH0 ns hI.wf.cl hI.wf.pos (L.length:Int) name hn h1) (Zrh ns _) (by kernel_rfl) rfl rfl (XI _) htu hs hm rfl
  | cons x d =>
   have hl:=h2.length_eq
   exact Zg0 rfl (ZCT ns hI.wf.cl hI.wf.pos (L.length:Int) name hn x d h1 (by omega) h2 hsr) (ZAY ns _ _ _ (by rw [Wj,<-hl])) (by kernel_rfl) rfl rfl (XI _) htu hs hm rfl
def Bnd (c:Nat) (ns:List TN):Prop:=∀ (j:Nat) (d:TN),ns[j]?=some d->d.1.length+d.2.length<=c
theorem Bnd.set {c:Nat} {ns:List TN} (h:Bnd c ns) {j:Nat} {d:TN} (hd:d.1.length+d.2.length<=c):Bnd c (ns.set j d):=by
 intro i d' hi
 rw [Xj] at hi
 by_cases e:j=i
 ·rw [if_pos e] at hi
  split at hi
  ·injection hi with hi;subst hi;exact hd
  ·cases hi
 ·rw [if_neg e] at hi;exact h i d' hi
theorem Bnd.mono {c c':Nat} {ns:List TN} (h:Bnd c ns) (hc:c<=c'):Bnd c' ns:=fun j d hd=>XaI (h j d hd) hc
theorem ZmI {α:Type} (n:Tx) (v:α):∀ M:List (Tx×α),(Zas n v M).length<=M.length+1
 | []=>XI _
 | p::M=>by
  simp only [Zas]
  split
  ·simp
  ·have:=ZmI n v M;simp only [XD];omega
theorem ZjM (k:Tx) (v:Int) (c:Nat):∀ (r:List Tx) (ns:List TN) (j:Nat),Closed ns->Bnd (c+1) ns->(∀ (i:Nat) (d:TN),j<=i->ns[i]?=some d->d.1.length+d.2.length<=c)->Bnd (c+1) (ZR k v r ns j).1
 | [],ns,j,hC,h,h2=>by
  simp only [ZR]
  split
  ·rename_i d hd
   refine h.set ?_
   have:=h2 j d (XI _) hd
   have:=ZmI k v d.1
   simp only;omega
  ·exact h
 | l::r,ns,j,hC,h,h2=>by
  simp only [ZR]
  split
  ·rename_i d hd
   have hj:=(Xc.1 hd).1
   split
   ·rename_i i hi
    have:=hC.next hd hi
    exact ZjM k v c r ns i hC h fun i' d' hi' hd'=>h2 i' d' (by omega) hd'
   ·have hN:Bnd (c+1) (newN ns j d l):=by
     intro i' d' hd'
     by_cases e1:i'=j
     ·subst e1
      rw [ZeN hj] at hd'
      injection hd' with hd';subst hd'
      have:=h2 i' d (XI _) hd
      have:=ZmI l ns.length d.2
      simp only;omega
     ·by_cases e2:i' < ns.length
      ·rw [Zhj d l e2 e1] at hd';exact h i' d' hd'
      ·have hlt:=(Xc.1 hd').1
       rw [Zdv] at hlt
       have : i'=ns.length:=by omega
       subst this
       rw [Zfa] at hd';injection hd' with hd';subst hd';simp
    refine ZjM k v c r (newN ns j d l) ns.length (hC.newN hd l) hN fun i' d' hi' hd'=>?_
    have hlt:=(Xc.1 hd').1
    rw [Zdv] at hlt
    have : i'=ns.length:=by omega
    subst this
    rw [Zfa] at hd';injection hd' with hd';subst hd';simp
  ·exact h
theorem Bnd.put {c:Nat} {ns:List TN} (h:Bnd c ns) (hC:Closed ns) (k:Tx) (v:Int) (r:List Tx) (j:Nat):Bnd (c+1) (ZR k v r ns j).1 :=
 ZjM k v c r ns j hC (h.mono (Nat.le_succ _)) fun i d _ hd=>h i d hd
theorem Bnd.drop {c:Nat} (k:Tx):∀ (r:List Tx) (ns:List TN) (j:Nat),Bnd c ns->Bnd c (Zan k r ns j).1
 | [],ns,j,h=>by
  simp only [Zan]
  split
  ·rename_i d hd
   refine h.set ?_
   have:=h j d hd
   have:=Zl7 k d.1
   simp only;omega
  ·exact h
 | l::r,ns,j,h=>by
  simp only [Zan]
  split
  ·split
   ·rename_i i hi
    have h0:=Bnd.drop k r ns i h
    split
    ·split
     ·rename_i di dj h1 h2
      split
      ·refine h0.set ?_
       have:=h0 j dj h2
       have:=Zl7 l dj.2
       simp only;omega
      ·exact h0
     ·exact h
    ·exact h0
   ·exact h
  ·exact h
theorem Bnd.nil:Bnd 0 [([],[])]:=by
 intro j d h
 cases j with
 | zero=>simp at h;subst h;simp
 | succ j=>simp at h
end
section
section
variable {A:ZD} {key:Tx} {n:Int}
end
section
variable (ns:List TN) (hC:Closed ns) (hK:KeyB ns) (hj:0 < ns.length) (hl:ns.length<=1000000) (n:Int) (key:Tx)
include hC hK hj hl
end
def Zc7 (ns:List TN) (key:Tx):Nat->Nat->List PR3
 | 0,_=>[]
 | n+1,j=>match ns[j]? with
  | some d=>((ZdI d).filter fun x=>x.2.1 == key)++d.2.flatMap fun q=>(Zc7 ns key n q.2).map fun x=>(q.1::x.1,x.2)
  | none=>[]
theorem Zr6 (ns:List TN) (key:Tx):∀ (n:Nat) (p:Tx) (j:Nat),ZiU ns key n p j=(Zc7 ns key n j).map fun x=>Zk (Zc2 p x)
 | 0,_,_=>rfl
 | n+1,p,j=>by
  simp only [ZiU,Zc7]
  cases ns[j]? with
  | none=>rfl
  | some d =>
   simp only [X0]
   congr 1
   ·unfold ZpL ZaR ZdI
    rw [XbH,XY]
    rfl
   ·rw [List.map_flatMap]
    congr 1
    funext q
    rw [Zr6 ns key n,XY]
    rfl
theorem ZhL {ns:List TN} (h:WF ns) (key k:Tx) (v:Int):∀ (n j:Nat) (q:List Tx),ns.length<=j+n->((q,k,v) ∈ Zc7 ns key n j↔atT ns j q k v/\k=key)
 | 0,j,q,hn=>by
  have hd:ns[j]?=none:=List.getElem?_eq_none (by omega)
  simp only [Zc7,Xac,false_iff,not_and]
  intro h;exact absurd h (Zgp hd q k v)
 | n+1,j,q,hn=>by
  simp only [Zc7]
  cases hd:ns[j]? with
  | none =>
   simp only [Xac,false_iff,not_and]
   intro h;exact absurd h (Zgp hd q k v)
  | some d =>
   simp only [Xl,X1,ZgX,Wc,Xq,beq_iff_eq]
   cases q with
   | nil =>
    rw [Zih hd]
    constructor
    ·rintro (⟨⟨_,h1⟩,h2⟩ | ⟨x,_,y,_,h3⟩)
     ·exact ⟨h1,h2⟩
     ·simp at h3
    ·rintro ⟨h1,h2⟩;exact Xk ⟨⟨rfl,h1⟩,h2⟩
   | cons l q =>
    rw [ZeQ hd]
    constructor
    ·rintro (⟨⟨h1,_⟩,_⟩ | ⟨x,hx,⟨a,b,c⟩,hy,h3⟩)
     ·cases h1
     ·simp only [Xb,WD] at h3
      obtain ⟨⟨rfl,rfl⟩,rfl,rfl⟩:=h3
      have hlt:=h.cl j d hd x hx
      obtain ⟨h4,h5⟩:=(ZhL h key b c n x.2 a (by omega)).1 hy
      exact ⟨⟨x.2,(Zhi (h.kx j d hd)).1 hx,h4⟩,h5⟩
    ·rintro ⟨⟨i,h1,h2⟩,h3⟩
     have hx:=(Zhi (h.kx j d hd)).2 h1
     have hlt:=h.cl j d hd _ hx
     exact Xp ⟨(l,i),hx,(q,k,v),(ZhL h key k v n i q (by simp only at hlt;omega)).2 ⟨h2,h3⟩,rfl⟩
theorem Zpg (g:Tx×Nat->List PR3):∀ M:List (Tx×Nat),(ksK M).Nodup->(∀ q ∈ M,(g q).Nodup)->(M.flatMap fun q=>(g q).map fun x=>(q.1::x.1,x.2)).Nodup
 | [],_,_=>WA
 | q::M,h,hg=>by
  obtain ⟨h1,h2⟩:=XV.1 h
  rw [XG]
  refine WE.2 ⟨ZfG ?_ (hg q (by simp)),Zpg g M h2 fun x hx=>hg x (by simp [hx]),?_⟩
  ·rintro ⟨a1,a2⟩ _ ⟨b1,b2⟩ _ he
   simp only [Xb,WD,true_and] at he
   rw [he.1,he.2]
  ·rintro x hx y hy rfl
   obtain ⟨a,_,rfl⟩:=Xq.1 hx
   obtain ⟨q',hq',hy'⟩:=Wc.1 hy
   obtain ⟨b,_,hb⟩:=Xq.1 hy'
   simp only [Xb,WD] at hb
   exact h1 (Xq.2 ⟨q',hq',hb.1.1⟩)
theorem Zqu {ns:List TN} (h:WF ns) (key:Tx):∀ (n j:Nat),(Zc7 ns key n j).Nodup
 | 0,_=>WA
 | n+1,j=>by
  simp only [Zc7]
  cases hd:ns[j]? with
  | none=>exact WA
  | some d =>
   refine WE.2 ⟨Xbj _ (Zmm (h.kv j d hd)),Zpg (fun q=>Zc7 ns key n q.2) d.2 (h.kx j d hd) fun q _=>Zqu h key n q.2,?_⟩
   rintro x hx y hy rfl
   have h1:=((ZgX d x).1 (X1.1 hx).1).1
   obtain ⟨q',_,hy'⟩:=Wc.1 hy
   obtain ⟨b,_,hb⟩:=Xq.1 hy'
   rw [<-hb] at h1;cases h1
theorem TInv.under {ns:List TN} {L:List Zh} (h:TInv ns L) (key:Tx) :
  ∃ R:List Zh,ZiU ns key ns.length [0] 0=R.map Zk/\(L.filter fun x=>x.k == key).Perm R:=by
 refine ⟨(Zc7 ns key ns.length 0).map (Zc2 [0]),?_,?_⟩
 ·rw [Zr6,XY];rfl
 ·have hm:∀ x:PR3,x ∈ Zc7 ns key ns.length 0->∃ f,ZaK f=true/\x.1=Zn f/\Zam ns (Zn f) x.2.1=some x.2.2/\x.2.1=key:=by
   rintro ⟨q,k,v⟩ hx
   obtain ⟨h1,h2⟩:=(ZhL h.wf key k v _ _ _ (by omega)).1 hx
   have h3:=(Zh4 h.wf q k v).2 h1
   obtain ⟨f,hf,rfl⟩:=h.ok _ _ _ h3
   exact ⟨f,hf,rfl,h3,h2⟩
  have hr:∀ (x:PR3) (f:Tx),ZaK f=true->x.1=Zn f->Zc2 [0] x=⟨f,x.2.1,x.2.2⟩:=by
   intro x f hf he
   unfold Zc2
   rw [he,Zrq (Zpl hf)]
  refine (List.perm_ext_iff_of_nodup (Xbj _ h.nodup) (ZfG ?_ (Zqu h.wf key _ _))).2 fun x=>?_
  ·intro a ha b hb he
   obtain ⟨f,hf,h1,_⟩:=hm a ha
   obtain ⟨g,hg,h2,_⟩:=hm b hb
   rw [hr a f hf h1,hr b g hg h2] at he
   simp only [Zh.mk.injEq] at he
   obtain ⟨a1,a2,a3⟩:=a
   obtain ⟨b1,b2,b3⟩:=b
   simp only at *
   rw [h1,h2,he.1,he.2.1,he.2.2]
  ·rw [X1,h.tab,Xq]
   constructor
   ·rintro ⟨⟨h1,h2⟩,h3⟩
    refine ⟨(Zn x.f,x.k,x.v),(ZhL h.wf key _ _ _ _ _ (by omega)).2 ⟨(Zh4 h.wf _ _ _).1 h2,by simpa using h3⟩,?_⟩
    rw [hr _ x.f h1 rfl]
   ·rintro ⟨y,hy,rfl⟩
    obtain ⟨f,hf,h1,h2,h3⟩:=hm y hy
    rw [hr y f hf h1]
    exact ⟨⟨hf,h2⟩,by simpa using h3⟩
theorem KeyB.set {ns:List TN} (h:KeyB ns) {j:Nat} {d:TN} (hd:∀ q ∈ d.2,q.1.length<=64):KeyB (ns.set j d):=by
 intro i d' hi
 rw [Xj] at hi
 by_cases e:j=i
 ·rw [if_pos e] at hi
  split at hi
  ·injection hi with hi;subst hi;exact hd
  ·cases hi
 ·rw [if_neg e] at hi;exact h i d' hi
theorem KeyB.put (k:Tx) (v:Int):∀ (r:List Tx) (ns:List TN) (j:Nat),(∀ l ∈ r,l.length<=64)->KeyB ns->KeyB (ZR k v r ns j).1/\(ZR k v r ns j).1.length<=ns.length+r.length
 | [],ns,j,hr,h=>by
  simp only [ZR]
  split
  ·rename_i d hd
   exact ⟨h.set (h j d hd),by simp⟩
  ·exact ⟨h,by simp⟩
 | l::r,ns,j,hr,h=>by
  have hr2:∀ x ∈ r,x.length<=64:=fun x hx=>hr x (by simp [hx])
  simp only [ZR]
  split
  ·rename_i d hd
   split
   ·obtain ⟨h1,h2⟩:=KeyB.put k v r ns _ hr2 h
    exact ⟨h1,by simp only [XD];omega⟩
   ·have hN:KeyB (newN ns j d l):=by
     intro i' d' hd'
     by_cases e:i' < ns.length
     ·have : (ns.set j (d.1,Zas l ns.length d.2))[i']?=some d':=by
       unfold newN at hd'
       rw [List.getElem?_append_left (by simpa using e)] at hd';exact hd'
      refine (h.set (j:=j) (d:=(d.1,Zas l ns.length d.2)) ?_) i' d' this
      intro q hq
      rcases Zhp hq with rfl | hq
      ·exact hr l (by simp)
      ·exact h j d hd q hq
     ·have hlt:=(Xc.1 hd').1
      rw [Zdv] at hlt
      have : i'=ns.length:=by omega
      subst this
      rw [Zfa] at hd';injection hd' with hd';subst hd';simp
    obtain ⟨h1,h2⟩:=KeyB.put k v r (newN ns j d l) ns.length hr2 hN
    rw [Zdv] at h2
    exact ⟨h1,by simp only [XD];unfold newN at h2;omega⟩
  ·exact ⟨h,by simp⟩
theorem KeyB.drop (k:Tx):∀ (r:List Tx) (ns:List TN) (j:Nat),KeyB ns->KeyB (Zan k r ns j).1
 | [],ns,j,h=>by
  simp only [Zan]
  split
  ·rename_i d hd
   exact h.set (h j d hd)
  ·exact h
 | l::r,ns,j,h=>by
  simp only [Zan]
  split
  ·split
   ·rename_i i hi
    have h0:=KeyB.drop k r ns i h
    split
    ·split
     ·rename_i di dj h1 h2
      split
      ·exact h0.set fun q hq=>h0 j dj h2 q (Zi0 hq)
      ·exact h0
     ·exact h
    ·exact h0
   ·exact h
  ·exact h
theorem KeyB.nil:KeyB [([],[])]:=by
 intro j d h
 cases j with
 | zero=>simp at h;subst h;simp
 | succ j=>simp at h
end
section
end
section
set_option maxRecDepth 100000
theorem Zus:E 8 [] []=some (.bool true,[]):=Zbx.2 ⟨30,by kernel_rfl⟩
end
section
structure Zeg where
 d:Int
 v:Int
 f:List UInt8
 k:List UInt8
 deriving Inhabited
theorem Zsf (σ:Za) (sq own:Nat) (view:Bool):Zr E BY σ sq 8 own view []=some (.bool true,σ,{}) :=
 Zbp (Zus) (by kernel_rfl) (by simp -implicitDefEqProofs only [ZK,eq_self,]) (by simp -implicitDefEqProofs only [ZK,eq_self,]) rfl (fun _=>rfl) _ _ _ _
end
section
section
variable (sc od:List Zeg) (nm:Tx)
variable {R:Option (AVal×Za)}
section
variable {i:Nat} {x:Zeg} (hx:sc[i]?=some x) (hsc:sc.length<=40) (hf:x.f.length<=1048576) (B A:List TN)
include hx hsc hf
end
section
variable {i:Nat} {x:Zeg} (hx:od[i]?=some x) (hod:od.length<=20) (hf:x.f.length<=1048576) (B A:List TN)
include hx hod hf
end
section
variable (B A:List TN) (nb na:Int) {i:Nat}
end
end
end
section
structure St (c:Nat) (ns:List TN) (L:List Zh):Prop where
 inv:TInv ns L
 bnd:Bnd c ns
 len:L.length<=c
theorem St.nil:St 0 [([],[])] []:=⟨TInv.nil,Bnd.nil,XI _⟩
theorem St.put {c:Nat} {ns:List TN} {L:List Zh} (h:St c ns L) {f:Tx} (hf:ZaK f=true) (k:Tx) (v:Int):St (c+1) (ZR k v (Zn f) ns 0).1 (ZcK L ⟨f,k,v⟩):=by
 obtain ⟨h1,h2⟩:=h.inv.put hf k v
 refine ⟨h1,h.bnd.put h.inv.wf.cl k v _ 0,?_⟩
 have:=h.len
 split at h2 <;> omega
theorem St.mono {c c':Nat} {ns:List TN} {L:List Zh} (h:St c ns L) (hc:c<=c'):St c' ns L:=⟨h.inv,h.bnd.mono hc,XaI h.len hc⟩
theorem St.drop {c:Nat} {ns:List TN} {L:List Zh} (h:St c ns L) (f k:Tx):St c (Zan k (Zn f) ns 0).1 (Zdu L f k).1:=by
 obtain ⟨h1,_,h2⟩:=h.inv.drop f k
 refine ⟨h1,Bnd.drop k _ ns 0 h.bnd,?_⟩
 have:=h.len
 split at h2 <;> omega
theorem St.small {c:Nat} {ns:List TN} {L:List Zh} (h:St c ns L) (hc:c<=1000):Small ns:=fun j d hd=>XaI (h.bnd j d hd) (by omega)
section
variable (sc od:List Zeg) (nm:Tx) {R:Option (AVal×Za)} (hsc:sc.length<=40) (hod:od.length<=20) (hf1:∀ x ∈ sc,x.f.length<=1048576) (hf2:∀ x ∈ od,x.f.length<=1048576)
section
include hsc hf1
end
include hod hf2
end
end
section
section
variable (ns:List TN) (L:List Zh) (hl:L.length<=1000000) (f ky:List UInt8) (i v dd vv n0:Int) (ok bn:Bool) (sc:List AVal)
include hl
end
theorem ZC7 (n:Tx) (L:List Zh):ZhS n L=L.filter fun x=>Z8 x.f n:=by
 unfold ZhS
 cases hn:ZaL n with
 | true=>rw [if_pos rfl]
 | false =>
  rw [if_neg (by simp)]
  symm
  rw [List.filter_eq_nil_iff]
  intro x _
  simp [Z8,hn]
theorem ZDd {ns:List TN} {L:List Zh} (hI:TInv ns L) (hL:L.length<=1000) {σ:Za} {t u sq:Nat} (htu:t≠u) (hs:σ[t]?=some (.var (trV u (L.length:Int)))) (hm:σ[u]?=some (.arena (eNs ns))) (name:Tx) :
  Zr E BY σ sq 11 0 true [.ref t 0,.str name]=some (.lst false ((L.filter fun x=>Z8 x.f name).map Zk),(σ.set t (.var (trV u (L.length:Int)))).set u (.arena (eNs ns)),{ any:=true,upd:=[(t,trV u (L.length:Int))] }):=by
 rw [<-ZC7]
 exact Zzl hI hL htu hs hm name
section
variable (sc:List Zeg) (i:Nat) {ns:List TN} (L:List Zh) (bn:Bool) (x:Zeg) (hx:sc[i]?=some x) (hi:i < 120) (hI:TInv ns L) (hl:L.length<=1000)
include hx hi hI hl
end
end
section
theorem Zya:E 13 [] []=some (.ref 0 0,ixH []):=Zbx.2 ⟨5,by kernel_rfl⟩
theorem ZxG (σ:Za) (sq:Nat) (hff:Zac σ sq 2=true):Zr E BY σ sq 13 2 false []=some (.ref sq 0,(σ.set sq (.var [.map (sq+1)])).set (sq+1) (.map (ixE [])),{ any:=true }) :=
 ZEM (args:=[]) (vs:=[]) (ts:=[]) (by kernel_rfl) rfl rfl rfl Zya hff
def Zcs (n:List UInt8) (v:Int) (M:List (List UInt8×Int)):Int×List (List UInt8×Int):=if ZaL n then (0,ZcG n v M) else (150,M)
theorem ZGU (M:List (List UInt8×Int)) (n:List UInt8) (v:Int):E 14 [.ref 0 0,.str n,.int .i64 v] (ixH M)=some (.int .i64 (Zcs n v M).1,ixH (Zcs n v M).2):=by
 have hq:=fun σ sq own view=>Zeb σ sq own view n
 unfold Zcs
 cases hn:ZaL n with
 | false =>
  rw [hn] at hq
  have ho:=ZfY (r:=.int .i64 150) rfl M
  simp only [Xf,if_false]
  unfold ixH at ho ⊢
  generalize ixE M=X at *
  rw [Zap (by rfl) Zm4]
  simp -implicitDefEqProofs only [EQA,Xt,Xg,Xe,unA,reduceCtorEq,↓reduceIte,Zp8,Ziu,Zoc,hq,ho]
 | true =>
  rw [hn] at hq
  have ho:=ZfY (r:=.int .i64 0) rfl (ZcG n v M)
  have hs:=fun σ t (hs:σ[t]?=some (.map (ixE M)))=>ZxM (σ:=σ) (t:=t) hs n v
  simp only [if_true]
  unfold ixH at ho ⊢
  generalize ixE (ZcG n v M)=X2 at *
  generalize ixE M=X at *
  rw [Zap (by rfl) Zm4]
  simp -implicitDefEqProofs only [EQA,Xt,Xg,Xe,unA,reduceCtorEq,↓reduceIte,Zp8,Ziu,Zoc,hq,hs,ho]
section
variable (M:List (List UInt8×Int)) (n:List UInt8) {σ:Za} {t m sq own:Nat} {view:Bool} (htm:t≠m) (hs:σ[t]?=some (.var [.map m])) (hm:σ[m]?=some (.map (ixE M))) (hff:Zac σ sq own=true)
include htm hs hm hff
theorem ZGp (v:Int):Zr E BY σ sq 14 own view [.ref t 0,.str n,.int .i64 v]=some (.int .i64 (Zcs n v M).1,(σ.set t (.var [.map m])).set m (.map (ixE (Zcs n v M).2)),{ any:=true,upd:=[(t,[.map m])] }) :=
 ZBE (O:=E) rfl rfl (ZGU M n v) (by kernel_rfl) rfl rfl htm hs hm hff
end
end
section
theorem ZsR {L S:List Zh} (hp:S.Perm L) (hs:S.Pairwise ltR) (hl:L.length < 4611686018427387904) {σ:Za} {t sq:Nat} (hσ:σ[t]?=some (.row 0 3 (L.map Zk))):Zr E BY σ sq 36 0 false [.sl t 0 0 L.length]=some (.sl t 0 0 L.length,σ.set t (.row 0 3 (S.map Zk)),{ any:=true }) :=
 ZFB hσ (by kernel_rfl) rfl rfl (fun ρ h=>by simp only [Zp,Ze,h]) (ZAq hp hs hl)
theorem Zs0 (σ:Za) (sq:Nat):Zr E BY σ sq 36 0 false [.lst true []]=some (.lst true [],σ,{}):=by
 have h:E 36 [.lst true []] []=some (.lst true [],[]):=Zbx.2 ⟨3,by kernel_rfl⟩
 unfold Zr Zbt
 rw [show BY 36=true by kernel_rfl]
 simp only [if_true,show Zu [AVal.lst true []]=[] from rfl,show Zo σ []=σ from rfl]
 rw [show Zj σ 1000 [] []=[] from rfl]
 unfold ZaS
 rw [if_pos (by rfl),show Zp (Zd σ 0 []) [AVal.lst true []]=[.lst true []] from rfl,show Zi σ 0 [] (Zd σ 0 []) [] 0=[] from rfl,h]
 rfl
def mkR (p:List UInt8×Int):Zh:=⟨p.1,[],p.2⟩
def ZaV (f:List UInt8) (l:List (List UInt8×Int)):List Zh:=(l.filter fun p=>Z8 f p.1).map mkR
def Zeh:List AOp:=[oI 16 (.ext (.t 15) 0),oI 17 (.ext (.t 15) 1),oM 6 16,oM 7 17]
def mT (f:List UInt8):List Zh->Tms
 | []=>[(11,.map 1),(5,.lst true []),(1,.str f)]
 | d=>[(11,.map 1),(5,.sl 2 0 0 d.length),(1,.str f)]
def mH (M:List (List UInt8×Int)):List Zh->Za
 | []=>[.var [.map 1],.map (ixE M)]
 | d=>[.var [.map 1],.map (ixE M),.row 0 3 (d.map Zk)]
theorem Zbs (M:List (List UInt8×Int)):Zu ((ixE M).map fun x=>x.2)=[]:=Zlb M
theorem ZGb (M:List (List UInt8×Int)) (n:Nat):((ixE M).all fun p=>ZeV n p.2)=true:=by
 rw [List.all_eq_true]
 unfold ixE
 intro p hp
 obtain ⟨x,_,rfl⟩:=Xq.1 hp
 rfl
noncomputable abbrev ZdM (M:List (List UInt8×Int)):=Za1 BY 11 15 1 false Zeh (fun m'=>evC FC PR BY m' ZiJ) 1 (.map (ixE M))
section
variable (M:List (List UInt8×Int)) (f:List UInt8) (hf:f.length*16<=140737488355328 - 64)
include hf
theorem Zwx (n:List UInt8) (v:Int) (hn:Z8 f n=false):ZdM M (.str n,.int .i64 v) (mT f []) (mH M [])=some ([(20,.bool false),(11,.map 1),(7,.int .i64 v),(6,.str n),(5,.lst true []),(1,.str f)],mH M []):=by
 have hq:=fun σ sq own view=>ZiX σ sq own view f n hf
 rw [hn] at hq
 unfold ZdM Za1 mT mH Zeh
 generalize ixE M=X at *
 simp -implicitDefEqProofs only [EQA,Xt,Xg,Xe,↓reduceIte,Zht,Zfv,hq,Zbo,roB,Zcn,Zb5,ZcU,Zcy,Zca]
theorem ZBZ (n:List UInt8) (v:Int) (hn:Z8 f n=false) (k:Nat) (Y:List AVal):ZdM M (.str n,.int .i64 v) [(11,.map 1),(5,.sl 2 0 0 k),(1,.str f)] [.var [.map 1],.map (ixE M),.row 0 3 Y]=some ([(20,.bool false),(11,.map 1),(7,.int .i64 v),(6,.str n),(5,.sl 2 0 0 k),(1,.str f)],[.var [.map 1],.map (ixE M),.row 0 3 Y]):=by
 have hq:=fun σ sq own view=>ZiX σ sq own view f n hf
 rw [hn] at hq
 unfold ZdM Za1 Zeh
 generalize ixE M=X at *
 simp -implicitDefEqProofs only [EQA,Xt,Xg,Xe,↓reduceIte,Zht,Zfv,hq,Zbo,roB,Zcn,Zb5,ZcU,Zcy,Zca]
theorem ZzP (n:List UInt8) (v:Int) (hn:Z8 f n=true):ZdM M (.str n,.int .i64 v) (mT f []) (mH M [])=some ([(11,.map 1),(5,.sl 2 0 0 1),(1,.str f)],mH M [mkR (n,v)]):=by
 have hq:=fun σ sq own view=>ZiX σ sq own view f n hf
 rw [hn] at hq
 have hv:∀ σ:Za,viewAs σ [.agg [.str n,.str [],.int .i64 v]]=some ([.agg [.str n,.str [],.int .i64 v]],[]):=fun _=>rfl
 have hm:[mkR (n,v)].map Zk=[.agg [.str n,.str [],.int .i64 v]]:=rfl
 unfold ZdM Za1 mT mH Zeh
 simp only [hm]
 generalize ixE M=X at *
 simp -implicitDefEqProofs only [EQA,ZiO,Xt,Xg,Xo,Xe,Xz,Zaf,↓reduceIte,Zht,Zfv,hq,hv,Zbo,roB,Zcn,Zb5,ZcU,Zcy,Zca,XaM,ZdK,Zay,kOk,Zo,Nat.one_mul,AVal.cells]
theorem ZGM (n:List UInt8) (v:Int) (hn:Z8 f n=true) (k:Nat) (Y:List AVal) (hY:Y.length=k) (hk:k<=1000000):ZdM M (.str n,.int .i64 v) [(11,.map 1),(5,.sl 2 0 0 k),(1,.str f)] [.var [.map 1],.map (ixE M),.row 0 3 Y]=some ([(11,.map 1),(5,.sl 2 1 0 (k+1)),(1,.str f)],[.var [.map 1],.map (ixE M),.row 1 3 (Y++[Zk (mkR (n,v))]),.free]):=by
 have hq:=fun σ sq own view=>ZiX σ sq own view f n hf
 rw [hn] at hq
 have hv:∀ σ:Za,viewAs σ [.agg [.str n,.str [],.int .i64 v]]=some ([.agg [.str n,.str [],.int .i64 v]],[]):=fun _=>rfl
 have A:∀ {σ:Za} {sq t g:Nat},σ[t]?=some (.row g 3 Y)->Zay σ sq 3 40 (.sl t g 0 k) (.lst true [.agg [.str n,.str [],.int .i64 v]])=some (.sl t (g+1) 0 (k+1),σ.set t (.row (g+1) 3 (Y++[Zk (mkR (n,v))])),{ wr:=[t] }):=by
  intro σ sq t g hs
  simp only [Zay,Zaf,hs]
  rw [if_pos (by rfl),if_pos ⟨trivial,trivial,trivial,by simp;omega⟩,if_pos hY.symm]
  rfl
 generalize Y++[Zk (mkR (n,v))]=Y2 at *
 unfold ZdM Za1 Zeh
 generalize ixE M=X at *
 simp -implicitDefEqProofs only [EQA,ZiO,Xt,Xg,Xo,Xe,Xz,↓reduceIte,Zht,Zfv,hq,hv,A,Zbo,roB,Zcn,Zb5,ZcU,Zcy,Zca,XaM,ZdK,Zo,AVal.cells]
end
section
variable (M:List (List UInt8×Int)) (f:List UInt8)
theorem Zzb (v:Int) (n:List UInt8) (d:List Zh):gcT 2 (keepL [11,5,1] [(20,.bool false),(11,.map 1),(7,.int .i64 v),(6,.str n),(5,.lst true []),(1,.str f)]) (mH M [])=(mT f [],mH M []):=by
 have hr:=Zbs M
 have hn':=fun ρ=>Za9 ρ M
 unfold mT mH
 generalize ixE M=X at *
 simp -implicitDefEqProofs only [EQA,Xg,Xo,Xe,Xz,reduceCtorEq,↓reduceIte,gcT,gcA,Zq,Zj,Zd,Zi,Zw,Zb,Zv,Zl,Zt,XU,hr,hn']
theorem ZuF (v:Int) (n:List UInt8) (k:Nat) (Y:List AVal):gcT 2 (keepL [11,5,1] [(20,.bool false),(11,.map 1),(7,.int .i64 v),(6,.str n),(5,.sl 2 0 0 k),(1,.str f)]) [.var [.map 1],.map (ixE M),.row 0 3 Y]=([(11,.map 1),(5,.sl 2 0 0 k),(1,.str f)],[.var [.map 1],.map (ixE M),.row 0 3 Y]):=by
 have hr:=Zbs M
 have hn':=fun ρ=>Za9 ρ M
 generalize ixE M=X at *
 simp -implicitDefEqProofs only [EQA,Xt,Xg,Xo,Xe,Xz,reduceCtorEq,↓reduceIte,gcT,gcA,Zq,Zj,Zd,Zi,Zw,Zb,Zv,Zl,Zt,XU,hr,hn']
theorem Ztc (k:Nat) (Y:List AVal):gcT 2 (keepL [11,5,1] [(11,.map 1),(5,.sl 2 0 0 k),(1,.str f)]) [.var [.map 1],.map (ixE M),.row 0 3 Y]=([(11,.map 1),(5,.sl 2 0 0 k),(1,.str f)],[.var [.map 1],.map (ixE M),.row 0 3 Y]):=by
 have hr:=Zbs M
 have hn':=fun ρ=>Za9 ρ M
 generalize ixE M=X at *
 simp -implicitDefEqProofs only [EQA,Xt,Xg,Xo,Xe,Xz,reduceCtorEq,↓reduceIte,gcT,gcA,Zq,Zj,Zd,Zi,Zw,Zb,Zv,Zl,Zt,XU,hr,hn']
theorem Zxe (k:Nat) (Y:List AVal):gcT 2 (keepL [11,5,1] [(11,.map 1),(5,.sl 2 1 0 k),(1,.str f)]) [.var [.map 1],.map (ixE M),.row 1 3 Y,.free]=([(11,.map 1),(5,.sl 2 0 0 k),(1,.str f)],[.var [.map 1],.map (ixE M),.row 0 3 Y]):=by
 have hr:=Zbs M
 have hn':=fun ρ=>Za9 ρ M
 generalize ixE M=X at *
 simp -implicitDefEqProofs only [EQA,Xt,Xg,Xo,Xe,Xz,reduceCtorEq,↓reduceIte,gcT,gcA,Zq,Zj,Zd,Zi,Zw,Zb,Zv,Zl,Zt,XU,hr,hn']
theorem ZnQ {tm:Tms} {σ:Za} {d:List Zh} (h:gcT 2 (keepL [11,5,1] tm) σ=(mT f d,mH M d)):ZcO 2 [11,5,1] 11 tm σ=some (1,.map (ixE M),ixE M,mT f d,mH M d):=by
 unfold ZcO
 rw [h]
 have h1:tget (mT f d) 11=.map 1:=by cases d <;> rfl
 have h2:(mH M d)[1]?=some (.map (ixE M)):=by cases d <;> rfl
 have h3:ZdP (mH M d) (.map 1)=some (1,.map (ixE M),ixE M):=by simp only [ZdP,h2]
 simp only [h1,h3,ZGb,if_true]
end
theorem ZAy (M:List (List UInt8×Int)) (f:List UInt8) (hf:f.length*16<=140737488355328 - 64) (n:List UInt8) (v:Int) (d:List Zh) (hd:d.length<=1000000):∃ tm' σ',ZdM M (.str n,.int .i64 v) (mT f d) (mH M d)=some (tm',σ')/\gcT 2 (keepL [11,5,1] tm') σ'=(mT f (d++ZaV f [(n,v)]),mH M (d++ZaV f [(n,v)])):=by
 cases hn:Z8 f n with
 | false =>
  have e:ZaV f [(n,v)]=[]:=by simp [ZaV,hn]
  rw [e,XE]
  cases d with
  | nil=>exact ⟨_,_,Zwx M f hf n v hn,Zzb M f v n []⟩
  | cons x d=>exact ⟨_,_,ZBZ M f hf n v hn _ _,ZuF M f v n _ _⟩
 | true =>
  have e:ZaV f [(n,v)]=[mkR (n,v)]:=by simp [ZaV,hn]
  rw [e]
  cases d with
  | nil =>
   refine ⟨_,_,ZzP M f hf n v hn,?_⟩
   exact Ztc M f _ _
  | cons x d =>
   refine ⟨_,_,ZGM M f hf n v hn _ _ (by simp) hd,?_⟩
   rw [Zxe]
   have h1:(x::d).length+1=(x::(d++[mkR (n,v)])).length:=by simp
   have h2:(x::d).map Zk++[Zk (mkR (n,v))]=(x::(d++[mkR (n,v)])).map Zk:=by simp
   rw [h1,h2]
   rfl
end
section
noncomputable abbrev Zl5:Nat->Tms->Za->Option (Zy×Tms×Za):=fun m'=>evC FC PR BY m' ZiJ
noncomputable abbrev ZfA:Nat->Tms->Za->Option (Zy×Tms×Za):=fun m'=>evC FC PR BY m' Zku
theorem ZDx (f:List UInt8) (p:List UInt8×Int) (r:List (List UInt8×Int)):ZaV f (p::r)=ZaV f [p]++ZaV f r:=by
 unfold ZaV
 rw [Xah]
 split <;> simp [*]
theorem ZnI (f:List UInt8) (r:List (List UInt8×Int)):(ZaV f r).length<=r.length:=by
 unfold ZaV
 rw [Wj]
 exact XaN _ _
section
variable (M:List (List UInt8×Int)) (f:List UInt8)
theorem ZnE (hf:f.length*16<=140737488355328 - 64):∀ (r:List (List UInt8×Int)) (d:List Zh) (tm:Tms) (σ:Za),d.length+r.length<=1000000->gcT 2 (keepL [11,5,1] tm) σ=(mT f d,mH M d) ->
  ∃ tm' σ',ZaB BY 2 [11,5,1] 11 15 1 false Zeh Zl5 (ixE M) (ixE r) tm σ=some (tm',σ')/\gcT 2 (keepL [11,5,1] tm') σ'=(mT f (d++ZaV f r),mH M (d++ZaV f r))
 | [],d,tm,σ,hb,h=>⟨tm,σ,rfl,by rw [show ZaV f []=[] from rfl,XE];exact h⟩
 | p::r,d,tm,σ,hb,h=>by
  obtain ⟨tm1,σ1,h1,h2⟩:=ZAy M f hf p.1 p.2 d (by simp only [XD] at hb;omega)
  have hlen:=ZnI f [(p.1,p.2)]
  obtain ⟨tm',σ',h3,h4⟩:=ZnE hf r (d++ZaV f [(p.1,p.2)]) tm1 σ1 (by simp only [XD,Xx,XT] at hb hlen ⊢;omega) h2
  rw [List.append_assoc] at h4
  refine ⟨tm',σ',?_,by rw [ZDx];exact h4⟩
  have e:ixE (p::r)=(.str p.1,.int .i64 p.2)::ixE r:=rfl
  rw [e]
  simp only [ZaB,ZnQ M f h,if_true]
  unfold ZdM at h1
  rw [h1]
  exact h3
theorem ZJd:ZfA 2 (mT f []) (mH M [])=some (.ret,[(4,.lst true [])],mH M []):=by
 have hs:=Zs0
 unfold ZfA mT mH
 generalize ixE M=X at *
 simp -implicitDefEqProofs only [EQA,Xt,Xg,Xe,↓reduceIte,ZpV,ZiH,hs]
theorem ZwA {d S:List Zh} (hp:S.Perm d) (hs:S.Pairwise ltR) (hl:d.length < 4611686018427387904):ZfA 2 [(11,.map 1),(5,.sl 2 0 0 d.length),(1,.str f)] [.var [.map 1],.map (ixE M),.row 0 3 (d.map Zk)]=some (.ret,[(4,.sl 2 0 0 d.length)],[.var [.map 1],.map (ixE M),.row 0 3 (S.map Zk)]):=by
 have hs:=fun {σ:Za} {sq:Nat} h=>ZsR hp hs hl (σ:=σ) (t:=2) (sq:=sq) h
 unfold ZfA
 generalize ixE M=X at *
 generalize S.map Zk=Z at *
 generalize d.map Zk=Y at *
 generalize d.length=k at *
 simp -implicitDefEqProofs only [EQA,Xt,Xg,Xe,↓reduceIte,ZpV,ZiH,hs]
end
def mO:List Zh->AVal
 | []=>.lst true []
 | d=>.sl 2 0 0 d.length
theorem Zx9 (M:List (List UInt8×Int)) (f:List UInt8) (hf:f.length*16<=140737488355328 - 64) (hM:M.length<=1000000) {S:List Zh} (hS:S.Perm (ZaV f M)) (hs:S.Pairwise ltR) (tm:Tms) (σ:Za) (h:gcT 2 (keepL [11,5,1] tm) σ=(mT f [],mH M [])):ZbK BY 2 [11,5,1] 11 15 1 false Zeh Zl5 ZfA tm σ=some (.ret,[(4,mO S)],mH M S):=by
 refine Zkd (ZnQ M f h) fun es' hp=>?_
 obtain ⟨l,hl,rfl⟩:=ZlO (fun p:List UInt8×Int=>(AVal.str p.1,AVal.int .i64 p.2)) (fun q=>(match q.1 with | .str s=>s | _=>[],match q.2 with | .int _ v=>v | _=>0)) (fun a=>rfl) hp
 obtain ⟨tm',σ',h1,h2⟩:=ZnE M f hf l [] tm σ (by have:=hl.length_eq;simp;omega) h
 have hp2:(ZaV f l).Perm (ZaV f M):=(hl.filter _).map _
 have hp3:S.Perm (ZaV f l):=hS.trans hp2.symm
 unfold ZaZ
 have e:l.map (fun p:List UInt8×Int=>(AVal.str p.1,AVal.int .i64 p.2))=ixE l:=rfl
 rw [e,h1]
 simp only [ZdC]
 rw [h2,Xr]
 have hlen:(ZaV f l).length<=1000000:=by have:=ZnI f l;have:=hl.length_eq;omega
 cases hd:ZaV f l with
 | nil =>
  have e2:S=[]:=by rw [hd] at hp3;exact hp3.eq_nil
  subst e2
  exact ZJd M f
 | cons x d =>
  rw [hd] at hp3 hlen
  cases S with
  | nil=>have:=hp3.length_eq;simp at this
  | cons y S =>
   have hle:=hp3.length_eq
   have:=ZwA M f hp3 hs (by omega)
   rw [<-hle] at this
   unfold mT mH mO
   simp only
   rw [<-hle]
   exact this
theorem ZBG (M:List (List UInt8×Int)) (S:List Zh):Zar 2 (mH M S) (mO S)=some (mO S,mH M S):=by
 cases S with
 | nil=>exact ZfY (r:=.lst true []) rfl M []
 | cons x S =>
  have hr:=Zbs M
  have hn':=fun ρ=>Za9 ρ M
  unfold mH mO
  simp only
  generalize (x::S).map Zk=Y at *
  generalize (x::S).length=k at *
  generalize ixE M=X at *
  simp -implicitDefEqProofs only [Zar,gcA,Zq,Zu,XE,Xr,XU,List.range_zero,XG,List.flatMap_nil,XK,X6,Zp,Zj,Zt,ZU,Zi,Zl,Ze,XL,List.contains_nil,Zd,Zw,Zb,Zv,ZK,eq_self,Xt,Xg,Xo,Xe,Xz,beq_self_eq_true,Xf,ne_eq,reduceCtorEq,↓reduceIte,gcA,Zq,Zj,Zd,Zi,Zw,Zb,Zv,Zl,Zt,XL,XU,hr,hn']
theorem ZC0 (M:List (List UInt8×Int)) (f:List UInt8) (hf:f.length*16<=140737488355328 - 64) (hM:M.length<=1000000) {S:List Zh} (hS:S.Perm (ZaV f M)) (hs:S.Pairwise ltR):E 15 [.ref 0 0,.str f] (ixH M)=some (mO S,mH M S):=by
 have ho:=ZBG M S
 have hrun:=Zx9 M f hf hM hS hs [(11,.map 1),(10,.ref 0 0),(9,.ref 0 0),(8,.ref 0 0),(5,.lst true []),(1,.str f),(0,.ref 0 0)] (ixH M) (by
  have hr:=Zbs M
  have hn':=fun ρ=>Za9 ρ M
  unfold ixH mT mH
  generalize ixE M=X at *
  simp -implicitDefEqProofs only [EQA,Xg,Xo,Xe,Xz,reduceCtorEq,↓reduceIte,gcT,gcA,Zq,Zj,Zd,Zi,Zw,Zb,Zv,Zl,Zt,XU,hr,hn'])
 unfold Zl5 ZfA Zeh at hrun
 unfold ixH at hrun ⊢
 generalize mH M S=H2 at *
 generalize mO S=O2 at *
 generalize ixE M=X at *
 rw [Zap (by rfl) ZDq]
 simp -implicitDefEqProofs only [EQA,Xt,Xg,Xe,reduceCtorEq,↓reduceIte,ZFH,Zk5,Ziy,Zbo,Zgb]
 simp only [oI,oM,oF,oL] at hrun
 rw [hrun]
 simp -implicitDefEqProofs only [Zoi,eq_self,tget,resA,resAll,resOne,↓reduceIte,Zvg,ho]
end
section
def ZgN (f:List UInt8) (a:Int×Bool) (l:List Zh):Int×Bool:=l.foldl (fun a x=>if x.f=f then (x.v,true) else a) a
section
variable (M:List (List UInt8×Int)) (L:List Zh) (hl:L.length<=1000000) (f ky:List UInt8) (i v dd vv:Int) (ok bn:Bool) (sc:List AVal)
include hl
end
end
section
def ZgF (M:List (List UInt8×Int)):List (List UInt8):=M.map (·.1)
theorem Zqw (n:List UInt8) (v:Int):∀ M:List (List UInt8×Int),(ZgF M).Nodup->(ZcG n v M).Perm ((n,v)::M.filter fun p=>!(p.1 == n))
 | [],_=>Xag _
 | p::r,h=>by
  obtain ⟨h1,h2⟩:=XV.1 h
  unfold ZcG
  by_cases e:n=p.1
  ·rw [if_pos e,Xah]
   have : (p.1 == n)=true:=by simp [e]
   rw [this]
   simp only [Xa2,Xf,if_false]
   rw [XaZ.2]
   intro q hq
   have : q.1≠n:=by rintro rfl;exact h1 (Xq.2 ⟨q,hq,e⟩)
   simpa using this
  ·rw [if_neg e,Xah]
   have : (p.1 == n)=false:=by simpa using fun e'=>e e'.symm
   rw [this]
   simp only [Xaq,if_true]
   exact ((Zqw n v r h2).cons p).trans (Xbb.swap _ _ _)
theorem Zq4 (n:List UInt8):∀ M:List (List UInt8×Int),(ZcN n M).isSome=M.any fun p=>p.1 == n
 | []=>rfl
 | p::r=>by
  unfold ZcN
  rw [Xal]
  by_cases e:n=p.1
  ·simp [e]
  ·have : (p.1 == n)=false:=by simpa using fun e'=>e e'.symm
   rw [if_neg e,this,Zq4 n r];rfl
theorem Zkg (n:List UInt8) (v:Int):∀ M:List (List UInt8×Int),(ZgF M).Nodup->(n,v) ∈ M->ZcN n M=some v
 | p::r,h,hm=>by
  obtain ⟨h1,h2⟩:=XV.1 h
  unfold ZcN
  rcases Xv.1 hm with rfl | hm
  ·simp
  ·have : ¬n=p.1:=by rintro rfl;exact h1 (Xq.2 ⟨_,hm,rfl⟩)
   rw [if_neg this]
   exact Zkg n v r h2 hm
structure Inv (M:List (List UInt8×Int)) (L:List Zh):Prop where
 sort:L.Pairwise ltR
 perm:L.Perm (M.map mkR)
theorem Inv.nil:Inv [] []:=⟨WA,Xag _⟩
theorem Inv.len {M:List (List UInt8×Int)} {L:List Zh} (h:Inv M L):L.length=M.length:=by
 have:=h.perm.length_eq;simpa using this
theorem Inv.keys {M:List (List UInt8×Int)} {L:List Zh} (h:Inv M L):(ZgF M).Nodup:=by
 have h1:(L.map kyR).Nodup:=by
  rw [XbP,XaP]
  exact h.sort.imp fun h e=>by unfold ltR at h;rw [e] at h;exact Zc4 _ h
 have h2:=(h.perm.map kyR).nodup_iff.1 h1
 rw [XY] at h2
 have e:M.map (kyR ∘ mkR)=(ZgF M).map fun x=>(x,[]):=by unfold ZgF;rw [XY];rfl
 rw [e] at h2
 rw [XbP,XaP] at h2
 exact h2.imp fun h e=>h (by rw [e])
theorem ZsY (p:List UInt8×Int) (n:List UInt8) (v:Int):Zak (mkR p) ⟨n,[],v⟩=(p.1 == n):=by
 unfold Zak mkR;simp
theorem Zyf (M:List (List UInt8×Int)) (n:List UInt8) (v:Int):(M.map mkR).filter (fun x=>!Zak x ⟨n,[],v⟩)=(M.filter fun p=>!(p.1 == n)).map mkR:=by
 rw [XbH]
 congr 1
 apply List.filter_congr
 intro p _
 simp only [Function.comp,ZsY]
theorem Inv.put {M:List (List UInt8×Int)} {L:List Zh} (h:Inv M L) (n:List UInt8) (v:Int):Inv (ZcG n v M) (ZcK L ⟨n,[],v⟩):=by
 rw [Zf4]
 refine ⟨ZlT _ L h.sort,(ZkD _ L h.sort).trans ?_⟩
 refine Xbb.trans ?_ ((Zqw n v M h.keys).map mkR).symm
 rw [XA,<-Zyf M n v]
 exact (h.perm.filter _).cons _
theorem Zjg (n:List UInt8):∀ (L:List Zh) (a:Int×Bool),(∀ x ∈ L,x.f≠n)->ZgN n a L=a
 | [],a,_=>rfl
 | x::r,a,h=>by
  have:=h x (by simp)
  unfold ZgN
  rw [XaK,if_neg this]
  exact Zjg n r a fun y hy=>h y (by simp [hy])
theorem Zrf (n:List UInt8):∀ (L:List Zh) (a:Int×Bool) (x:Zh),(L.map (·.f)).Nodup->x ∈ L->x.f=n->ZgN n a L=(x.v,true)
 | y::r,a,x,hn,hx,he=>by
  obtain ⟨h1,h2⟩:=XV.1 hn
  unfold ZgN
  rw [XaK]
  rcases Xv.1 hx with rfl | hx
  ·rw [if_pos he]
   exact Zjg n r _ fun z hz e=>h1 (Xq.2 ⟨z,hz,e.trans he.symm⟩)
  ·rw [if_neg (fun e=>h1 (Xq.2 ⟨x,hx,he.trans e.symm⟩))]
   exact Zrf n r a x h2 hx he
theorem Inv.want {M:List (List UInt8×Int)} {L:List Zh} (h:Inv M L) (n:List UInt8):ZgN n (0,false) L=((ZcN n M).getD 0,(ZcN n M).isSome):=by
 have hnd:(L.map (·.f)).Nodup:=by
  have h1:=(h.perm.map (·.f))
  rw [XY] at h1
  exact h1.nodup_iff.2 h.keys
 cases hg:ZcN n M with
 | none =>
  refine Zjg n L _ fun x hx e=>?_
  have hx:=h.perm.mem_iff.1 hx
  obtain ⟨p,hp,rfl⟩:=Xq.1 hx
  have:=Zkg p.1 p.2 M h.keys hp
  have e:p.1=n:=e
  rw [e,hg] at this;cases this
 | some v =>
  have : (n,v) ∈ M:=by
   have h2:=Zq4 n M
   rw [hg] at h2
   obtain ⟨p,hp,hpn⟩:=WZ.1 h2.symm
   simp at hpn
   subst hpn
   have:=Zkg p.1 p.2 M h.keys hp
   rw [hg] at this;injection this with this;subst this;exact hp
  exact Zrf n L _ (mkR (n,v)) hnd (h.perm.mem_iff.2 (Xq.2 ⟨_,this,rfl⟩)) rfl
theorem Inv.hit {M:List (List UInt8×Int)} {L:List Zh} (h:Inv M L) (f:List UInt8):(L.filter fun x=>Z8 f x.f).Perm (ZaV f M)/\(L.filter fun x=>Z8 f x.f).Pairwise ltR:=by
 refine ⟨?_,h.sort.filter _⟩
 unfold ZaV
 have e:(M.filter fun p=>Z8 f p.1).map mkR=(M.map mkR).filter fun x=>Z8 f x.f:=by
  rw [XbH];rfl
 rw [e]
 exact h.perm.filter _
end
section
theorem ZHg (M:List (List UInt8×Int)) (S:List Zh):Z4 true 2 (some (mO S,mH M S))=some (.lst false (S.map Zk),ixH M):=by
 cases S with
 | nil =>
  have:=ZfY (r:=.lst false []) rfl M []
  have e:Z4 true 2 (some (mO [],mH M []))=Zar 2 (mH M []) (.lst false []):=rfl
  rw [e];exact this
 | cons x S =>
  have hv:viewR (mH M (x::S)) (mO (x::S))=some (.lst false ((x::S).map Zk),[2]):=by
   unfold mH mO
   simp only [viewR,ZbH,ZaT,Zaf,XP,XB,Xw]
   rw [if_pos ⟨trivial,by simp⟩]
   simp [Wi]
  have e:Z4 true 2 (some (mO (x::S),mH M (x::S)))=(match viewR (mH M (x::S)) (mO (x::S)) with
   | some (r',ts)=>match gcA 2 [r'] (Zo (mH M (x::S)) ts) with
    | ([r''],σ')=>some (r'',σ')
    | _=>none
   | none=>none):=rfl
  rw [e,hv]
  have hn:ZP (.lst false ((x::S).map Zk))=true:=rfl
  have:=ZfY (r:=.lst false ((x::S).map Zk)) hn M [.frow 0 3 ((x::S).map Zk)]
  exact this
section
variable (M:List (List UInt8×Int)) {L:List Zh} (hI:Inv M L) (hM:M.length<=1000000) (f:List UInt8) (hf:f.length*16<=140737488355328 - 64) {σ:Za} {t m sq:Nat} (htm:t≠m) (hs:σ[t]?=some (.var [.map m])) (hm:σ[m]?=some (.map (ixE M)))
include hI hM hf htm hs hm
theorem ZCh:Zr E BY σ sq 15 0 true [.ref t 0,.str f]=some (.lst false ((L.filter fun x=>Z8 f x.f).map Zk),(σ.set t (.var [.map m])).set m (.map (ixE M)),{ any:=true,upd:=[(t,[.map m])] }) :=
 ZoP (O:=E) (args:=[.str f]) rfl (ZC0 M f hf hM (hI.hit f).1 (hI.hit f).2) (ZHg M _) (by kernel_rfl) rfl rfl htm hs hm rfl
end
section
variable (sc:List Zeg) (i:Nat) (M:List (List UInt8×Int)) (L:List Zh) (bn:Bool) (x:Zeg) (hx:sc[i]?=some x) (hi:i < 120) (hI:Inv M L) (hl:L.length<=1000)
include hx hi hI hl
end
end
section
abbrev bH (M:List (Tx×Int)) (A:List TN) (n:Int):Za:=[.var [.map 1],.map (ixE M),.var (trV 3 n),.arena (eNs A)]
theorem Zdb (l:List Tx):(l.map AVal.str).length=l.length:=by simp
def kK:Tx:=[107]
section
variable (fs ws:List Tx)
noncomputable abbrev kB9 (i:Nat) (M:List (Tx×Int)) (A:List TN) (n:Int):=Zek 0 [(7,.int .i64 (i:Int)),(6,.ref 0 0),(5,.ref 2 0),(1,.lst false (ws.map AVal.str)),(0,.lst false (fs.map AVal.str))] (bH M A n)
noncomputable abbrev ZdT (i:Nat) (M:List (Tx×Int)) (A:List TN) (n:Int):=Zi3 0 [(8,.int .i64 (i:Int)),(6,.ref 0 0),(5,.ref 2 0),(1,.lst false (ws.map AVal.str)),(0,.lst false (fs.map AVal.str))] (bH M A n)
noncomputable abbrev ZfV (i:Nat) (M:List (Tx×Int)) (A:List TN) (n:Int):=Zip 0 [(9,.int .i64 (i:Int)),(6,.ref 0 0),(5,.ref 2 0),(1,.lst false (ws.map AVal.str)),(0,.lst false (fs.map AVal.str))] (bH M A n)
variable {R:Option (AVal×Za)}
section
variable {i:Nat} {f:Tx} (hx:fs[i]?=some f) (hfs:fs.length<=12) (hf:f.length<=1048576) (M:List (Tx×Int)) (A:List TN)
include hx hfs hf
theorem ZG7 {L:List Zh} (hI:TInv A L) (hL:L.length<=1000) (hb:ZaK f=true) (hR:kB9 fs ws (i+1) M (ZR kK i (Zn f) A 0).1 ((ZcK L ⟨f,kK,i⟩).length)=R):kB9 fs ws i M A L.length=R:=by
 have hil:i < fs.length:=(Xc.1 hx).1
 have h1:(i:Int) < fs.length:=by omega
 have hm:=Zdb fs
 have e1:=iad hx AVal.str (k:=1) rfl
 have e3:IntKind.i64.wrap ((i:Int)+1)=((i+1:Nat):Int):=Zdf (n:=120) (by omega) (by decide)
 have q1:=fun {σ:Za} {sq:Nat} hs hm=>ZBA hI hL (σ:=σ) (t:=2) (u:=3) (sq:=sq) (by decide) hs hm f kK i hf hb
 have hr:=Zbs M
 have hn:=fun ρ=>Za9 ρ M
 subst hR
 unfold kB9 bH trV at *
 generalize eNs (ZR kK i (Zn f) A 0).1=A' at *
 generalize (ZcK L ⟨f,kK,i⟩).length=n' at *
 generalize (L.length:Int)=n at *
 generalize eNs A=EA at *
 generalize ixE M=X at *
 generalize fs.map AVal.str=FS1 at *
 generalize ws.map AVal.str=WS at *
 unfold kK at q1
 unfold Zek
 rw [Zaq]
 simp -implicitDefEqProofs only [EQA,ZS,ZaX,Xt,Xg,Xo,Xe,Xz,WJ,reduceCtorEq,↓reduceIte,gcT,gcA,Zq,Zj,Zd,Zi,Zw,Zb,Zv,Zl,Zt,Zj0,Zg7,h1,hm,e1,e3,q1,hr,hn,Zaz,AVal.cells]
theorem ZvF {L:List Zh} (hI:TInv A L) (hL:L.length<=1000) (hb:ZaK f=false) (hR:kB9 fs ws (i+1) M A L.length=R):kB9 fs ws i M A L.length=R:=by
 have hil:i < fs.length:=(Xc.1 hx).1
 have h1:(i:Int) < fs.length:=by omega
 have hm:=Zdb fs
 have e1:=iad hx AVal.str (k:=1) rfl
 have e3:IntKind.i64.wrap ((i:Int)+1)=((i+1:Nat):Int):=Zdf (n:=120) (by omega) (by decide)
 have q1:=fun {σ:Za} {sq:Nat} hs hm=>Ztp hI hL (σ:=σ) (t:=2) (u:=3) (sq:=sq) (by decide) hs hm f kK i hf hb
 have hr:=Zbs M
 have hn:=fun ρ=>Za9 ρ M
 subst hR
 unfold kB9 bH trV at *
 generalize (L.length:Int)=n at *
 generalize eNs A=EA at *
 generalize ixE M=X at *
 generalize fs.map AVal.str=FS1 at *
 generalize ws.map AVal.str=WS at *
 unfold kK at q1
 unfold Zek
 rw [Zaq]
 simp -implicitDefEqProofs only [EQA,ZS,ZaX,Xt,Xg,Xo,Xe,Xz,WJ,reduceCtorEq,↓reduceIte,gcT,gcA,Zq,Zj,Zd,Zi,Zw,Zb,Zv,Zl,Zt,Zj0,Zg7,h1,hm,e1,e3,q1,hr,hn,Zaz,AVal.cells]
end
section
variable {i:Nat} (M:List (Tx×Int)) (A:List TN) (n:Int)
theorem ZHY (h1:¬(i:Int) < fs.length) (hR:ZdT fs ws 0 M A n=R):kB9 fs ws i M A n=R:=by
 have hm:=Zdb fs
 have z0:((0:Nat):Int)=0:=rfl
 have hr:=Zbs M
 have hn:=fun ρ=>Za9 ρ M
 subst hR
 unfold kB9 ZdT bH trV at *
 rw [z0]
 generalize eNs A=EA at *
 generalize ixE M=X at *
 generalize fs.map AVal.str=FS1 at *
 generalize ws.map AVal.str=WS at *
 unfold Zek Zi3
 rw [Zaq]
 simp -implicitDefEqProofs only [EQA,ZS,ZaX,Xt,Xg,Xo,Xe,Xz,WJ,reduceCtorEq,↓reduceIte,gcT,gcA,Zq,Zj,Zd,Zi,Zw,Zb,Zv,Zl,Zt,ZIV,ZjO,Zj0,Zg7,h1,hm,hr,hn,Zaz]
theorem ZEg {w:Tx} (hx:ws[i]?=some w) (hws:ws.length<=12) (hR:ZdT fs ws (i+1) (Zcs w i M).2 A n=R):ZdT fs ws i M A n=R:=by
 have hil:i < ws.length:=(Xc.1 hx).1
 have h1:(i:Int) < ws.length:=by omega
 have hm:=Zdb ws
 have e1:=iad hx AVal.str (k:=1) rfl
 have e3:IntKind.i64.wrap ((i:Int)+1)=((i+1:Nat):Int):=Zdf (n:=120) (by omega) (by decide)
 have q1:=fun {σ:Za} {sq:Nat} {view:Bool} hs hm=>ZGp M w (σ:=σ) (t:=0) (m:=1) (sq:=sq) (own:=0) (view:=view) (by decide) hs hm rfl i
 have hr:=Zbs (Zcs w i M).2
 have hn:=fun ρ=>Za9 ρ (Zcs w i M).2
 subst hR
 unfold ZdT bH trV at *
 generalize eNs A=EA at *
 generalize ixE (Zcs w i M).2=X2 at *
 generalize (Zcs w i M).1=c at *
 generalize ixE M=X at *
 generalize fs.map AVal.str=FS1 at *
 generalize ws.map AVal.str=WS at *
 unfold Zi3
 rw [Zaq]
 simp -implicitDefEqProofs only [EQA,ZS,ZaX,Xt,Xg,Xo,Xe,Xz,WJ,reduceCtorEq,↓reduceIte,gcT,gcA,Zq,Zj,Zd,Zi,Zw,Zb,Zv,Zl,Zt,Zo0,ZiT,h1,hm,e1,e3,q1,hr,hn,Zaz,AVal.cells]
theorem ZtJ (h1:¬(i:Int) < ws.length) (hR:ZfV fs ws 0 M A n=R):ZdT fs ws i M A n=R:=by
 have hm:=Zdb ws
 have z0:((0:Nat):Int)=0:=rfl
 have hr:=Zbs M
 have hn:=fun ρ=>Za9 ρ M
 subst hR
 unfold ZfV ZdT bH trV at *
 rw [z0]
 generalize eNs A=EA at *
 generalize ixE M=X at *
 generalize fs.map AVal.str=FS1 at *
 generalize ws.map AVal.str=WS at *
 unfold Zi3 Zip
 rw [Zaq]
 simp -implicitDefEqProofs only [EQA,ZS,ZaX,Xt,Xg,Xo,Xe,Xz,WJ,reduceCtorEq,↓reduceIte,gcT,gcA,Zq,Zj,Zd,Zi,Zw,Zb,Zv,Zl,Zt,ZCu,ZjU,Zo0,ZiT,h1,hm,hr,hn,Zaz]
end
theorem b25 (T:List Zh) (hT:T.length<=1000) (u b:Bool) (k i:Nat) {f:Tx} (hx:fs[i]?=some f) (M:List (Tx×Int)) (A:List TN) (n:Int):∀ (r:List Zh) (j:Nat) (a:Bool),T.drop j=r->j<=T.length ->
  evL FC PR BY 0 [14,13,12,11,10,9,6,5,1,0] Zjr [(14,.int .i64 (j:Int)),(13,.lst b (T.map Zk)),(12,.bool u),(11,.bool a),(10,.int .i64 (k:Int)),(9,.int .i64 (i:Int)),(6,.ref 0 0),(5,.ref 2 0),(1,.lst false (ws.map AVal.str)),(0,.lst false (fs.map AVal.str))] (bH M A n)
  =some (.exit 8,[(85,.bool false),(14,.int .i64 (T.length:Int)),(13,.lst b (T.map Zk)),(12,.bool u),(11,.bool (a || r.any fun x=>x.f == f)),(10,.int .i64 (k:Int)),(9,.int .i64 (i:Int)),(6,.ref 0 0),(5,.ref 2 0),(1,.lst false (ws.map AVal.str)),(0,.lst false (fs.map AVal.str))],bH M A n)
 | [],j,a,h,hj=>by
  have h1:=ZdF h
  have hm:(T.map Zk).length=T.length:=by simp
  have ek:(T.length:Int)=j:=by have:=Wl.1 h;omega
  have hr:=Zbs M
  have hn:=fun ρ=>Za9 ρ M
  simp only [List.any_nil,Xae]
  unfold bH trV
  generalize eNs A=EA at *
  generalize ixE M=X at *
  generalize T.map Zk=S at *
  generalize fs.map AVal.str=FS1 at *
  generalize ws.map AVal.str=WS at *
  rw [Zaq]
  simp -implicitDefEqProofs only [EQA,Xt,Xg,Xe,reduceCtorEq,↓reduceIte,ZkB,Zgj,h1,hm]
  rw [ek]
 | x::r,j,a,h,hj=>by
  obtain ⟨g1,d1,l1⟩:=Zbf h
  have h1:(j:Int) < T.length:=by omega
  have hm:(T.map Zk).length=T.length:=by simp
  have e1:=iad g1 Zk (k:=3) rfl
  have hc:(Zk x).cells=[.str x.f,.str x.k,.int .i64 x.v]:=rfl
  rw [hc] at e1
  have e2:=iad hx AVal.str (k:=1) rfl
  have e3:=Zdf h1 (by omega)
  have hr:=Zbs M
  have hn:=fun ρ=>Za9 ρ M
  have ih:=b25 T hT u b k i hx M A n r (j+1) (a || x.f == f) d1 (by omega)
  rw [Bool.or_assoc] at ih
  rw [Xal]
  generalize (a || (x.f == f || r.any fun x=>x.f == f))=W at *
  generalize hmb:(x.f == f)=mb at *
  unfold bH trV at *
  generalize eNs A=EA at *
  generalize ixE M=X at *
  generalize T.map Zk=S at *
  generalize fs.map AVal.str=FS1 at *
  generalize ws.map AVal.str=WS at *
  cases a with
  | true =>
   rw [Xak] at ih
   rw [Zaq]
   simp -implicitDefEqProofs only [EQA,ZS,ZaX,Xt,Xg,Xo,Xe,Xz,WJ,ZG,ZaC,reduceCtorEq,↓reduceIte,gcT,gcA,Zq,Zj,Zd,Zi,Zw,Zb,Zv,Zl,Zt,ZkB,Zgj,h1,hm,e3,hr,hn,Zaz]
   exact ih
  | false =>
   rw [Xaz] at ih
   rw [Zaq]
   simp -implicitDefEqProofs only [EQA,ZS,ZaX,Xt,Xg,Xo,Xe,Xz,WJ,ZaU,ZG,unG,reduceCtorEq,↓reduceIte,gcT,gcA,Zq,Zj,Zd,Zi,Zw,Zb,Zv,Zl,Zt,ZkB,Zgj,h1,hm,e1,e2,e3,hr,hn,hmb,Zaz,AVal.cells]
   exact ih
theorem b30 (T:List Zh) (hT:T.length<=1000) (o b:Bool) (k i:Nat) {w:Tx} (hx:ws[k]?=some w) (M:List (Tx×Int)) (A:List TN) (n:Int):∀ (r:List Zh) (j:Nat) (a:Bool),T.drop j=r->j<=T.length ->
  evL FC PR BY 0 [15,13,12,11,10,9,6,5,1,0] ZkQ [(15,.int .i64 (j:Int)),(13,.lst b (T.map Zk)),(12,.bool a),(11,.bool o),(10,.int .i64 (k:Int)),(9,.int .i64 (i:Int)),(6,.ref 0 0),(5,.ref 2 0),(1,.lst false (ws.map AVal.str)),(0,.lst false (fs.map AVal.str))] (bH M A n)
  =some (.exit 10,[(110,.bool false),(15,.int .i64 (T.length:Int)),(13,.lst b (T.map Zk)),(12,.bool (a || r.any fun x=>x.f == w)),(11,.bool o),(10,.int .i64 (k:Int)),(9,.int .i64 (i:Int)),(6,.ref 0 0),(5,.ref 2 0),(1,.lst false (ws.map AVal.str)),(0,.lst false (fs.map AVal.str))],bH M A n)
 | [],j,a,h,hj=>by
  have h1:=ZdF h
  have hm:(T.map Zk).length=T.length:=by simp
  have ek:(T.length:Int)=j:=by have:=Wl.1 h;omega
  have hr:=Zbs M
  have hn:=fun ρ=>Za9 ρ M
  simp only [List.any_nil,Xae]
  unfold bH trV
  generalize eNs A=EA at *
  generalize ixE M=X at *
  generalize T.map Zk=S at *
  generalize fs.map AVal.str=FS1 at *
  generalize ws.map AVal.str=WS at *
  rw [Zaq]
  simp -implicitDefEqProofs only [EQA,Xt,Xg,Xe,reduceCtorEq,↓reduceIte,Zls,ZgI,h1,hm]
  rw [ek]
 | x::r,j,a,h,hj=>by
  obtain ⟨g1,d1,l1⟩:=Zbf h
  have h1:(j:Int) < T.length:=by omega
  have hm:(T.map Zk).length=T.length:=by simp
  have e1:=iad g1 Zk (k:=3) rfl
  have hc:(Zk x).cells=[.str x.f,.str x.k,.int .i64 x.v]:=rfl
  rw [hc] at e1
  have e2:=iad hx AVal.str (k:=1) rfl
  have e3:=Zdf h1 (by omega)
  have hr:=Zbs M
  have hn:=fun ρ=>Za9 ρ M
  have ih:=b30 T hT o b k i hx M A n r (j+1) (a || x.f == w) d1 (by omega)
  rw [Bool.or_assoc] at ih
  rw [Xal]
  generalize (a || (x.f == w || r.any fun x=>x.f == w))=W at *
  generalize hmb:(x.f == w)=mb at *
  unfold bH trV at *
  generalize eNs A=EA at *
  generalize ixE M=X at *
  generalize T.map Zk=S at *
  generalize fs.map AVal.str=FS1 at *
  generalize ws.map AVal.str=WS at *
  cases a with
  | true =>
   rw [Xak] at ih
   rw [Zaq]
   simp -implicitDefEqProofs only [EQA,ZS,ZaX,Xt,Xg,Xo,Xe,Xz,WJ,ZG,ZaC,reduceCtorEq,↓reduceIte,gcT,gcA,Zq,Zj,Zd,Zi,Zw,Zb,Zv,Zl,Zt,Zls,ZgI,h1,hm,e3,hr,hn,Zaz]
   exact ih
  | false =>
   rw [Xaz] at ih
   rw [Zaq]
   simp -implicitDefEqProofs only [EQA,ZS,ZaX,Xt,Xg,Xo,Xe,Xz,WJ,ZaU,ZG,unG,reduceCtorEq,↓reduceIte,gcT,gcA,Zq,Zj,Zd,Zi,Zw,Zb,Zv,Zl,Zt,Zls,ZgI,h1,hm,e1,e2,e3,hr,hn,hmb,Zaz,AVal.cells]
   exact ih
end
end
section
theorem Ztx {L:List Zh} {f w:Tx} (hL:ZaK f=true->∃ x ∈ L,x.f=f):((L.filter fun x=>Z8 x.f w).any fun x=>x.f == f)=Z8 f w:=by
 rw [WX,WZ]
 constructor
 ·rintro ⟨x,hx,he⟩
  have:=(X1.1 hx).2
  simp only [beq_iff_eq] at he
  rw [he] at this;exact this
 ·intro h
  have hf:ZaK f=true:=by
   unfold Z8 at h
   simp only [Xh] at h
   exact h.1.1.1
  obtain ⟨x,hx,rfl⟩:=hL hf
  exact ⟨x,X1.2 ⟨hx,h⟩,by simp⟩
theorem ZDi {L:List Zh} {f w:Tx} (hL:ZaL w=true->∃ x ∈ L,x.f=w):((L.filter fun x=>Z8 f x.f).any fun x=>x.f == w)=Z8 f w:=by
 rw [WX,WZ]
 constructor
 ·rintro ⟨x,hx,he⟩
  have:=(X1.1 hx).2
  simp only [beq_iff_eq] at he
  rw [he] at this;exact this
 ·intro h
  have hf:ZaL w=true:=by
   unfold Z8 at h
   simp only [Xh] at h
   exact h.1.1.2
  obtain ⟨x,hx,rfl⟩:=hL hf
  exact ⟨x,X1.2 ⟨hx,h⟩,by simp⟩
section
variable (fs ws:List Tx) (hfs:fs.length<=12) (hws:ws.length<=12) (hf:∀ f ∈ fs,f.length<=1048576) {M:List (Tx×Int)} {L2:List Zh} (hM:Inv M L2) (hM2:L2.length<=1000) {A:List TN} {L:List Zh} (hI:TInv A L) (hL:L.length<=1000)
 (h1:∀ f ∈ fs,ZaK f=true->∃ x ∈ L,x.f=f) (h2:∀ w ∈ ws,ZaL w=true->∃ x ∈ L2,x.f=w)
include hfs hws hf hM hM2 hI hL h1 h2
theorem b20 (i:Nat) (f:Tx) (hi:fs[i]?=some f):∀ (r:List Tx) (k:Nat),ws.drop k=r->k<=ws.length ->
  evL FC PR BY 0 [10,9,6,5,1,0] Zmq [(10,.int .i64 (k:Int)),(9,.int .i64 (i:Int)),(6,.ref 0 0),(5,.ref 2 0),(1,.lst false (ws.map AVal.str)),(0,.lst false (fs.map AVal.str))] (bH M A L.length)
  =some (.exit 6,[(73,.bool false),(10,.int .i64 (ws.length:Int)),(9,.int .i64 (i:Int)),(6,.ref 0 0),(5,.ref 2 0),(1,.lst false (ws.map AVal.str)),(0,.lst false (fs.map AVal.str))],bH M A L.length)
 | [],k,h,hk=>by
  have e1:=ZdF h
  have hm:=Zdb ws
  have ek:(ws.length:Int)=k:=by have:=Wl.1 h;omega
  have hr:=Zbs M
  have hn:=fun ρ=>Za9 ρ M
  unfold bH trV
  generalize (L.length:Int)=n at *
  generalize eNs A=EA at *
  generalize ixE M=X at *
  generalize fs.map AVal.str=FS1 at *
  generalize ws.map AVal.str=WS at *
  rw [Zaq]
  simp -implicitDefEqProofs only [EQA,Xt,Xg,Xe,reduceCtorEq,↓reduceIte,ZqU,Zir,e1,hm]
  rw [ek]
 | w::r,k,h,hk=>by
  obtain ⟨g1,d1,l1⟩:=Zbf h
  have e1:(k:Int) < ws.length:=by omega
  have hm:=Zdb ws
  have e2:=iad hi AVal.str (k:=1) rfl
  have e4:=iad g1 AVal.str (k:=1) rfl
  have e3:=Zdf e1 (by omega)
  have hr:=Zbs M
  have hn:=fun ρ=>Za9 ρ M
  have hfl:=hf f (Xn hi)
  have hMl:M.length<=1000000:=by rw [<-hM.len];omega
  have t1:(L.filter fun x=>Z8 x.f w).length<=1000:=by have:=XaN (fun x=>Z8 x.f w) L;omega
  have t2:(L2.filter fun x=>Z8 f x.f).length<=1000:=by have:=XaN (fun x=>Z8 f x.f) L2;omega
  have hA:=b25 fs ws (L.filter fun x=>Z8 x.f w) t1 false false k i hi M A L.length (L.filter fun x=>Z8 x.f w) 0 false rfl (Xao _)
  rw [Ztx (h1 f (Xn hi)),Xaz] at hA
  have hB:=b30 fs ws (L2.filter fun x=>Z8 f x.f) t2 (Z8 f w) false k i g1 M A L.length (L2.filter fun x=>Z8 f x.f) 0 false rfl (Xao _)
  rw [ZDi (h2 w (Xn g1)),Xaz] at hB
  have q1:=fun {σ:Za} {sq:Nat} hs hm=>ZDd hI hL (σ:=σ) (t:=2) (u:=3) (sq:=sq) (by decide) hs hm w
  have q2:=fun {σ:Za} {sq:Nat} hs hm=>ZCh M hM hMl f (by omega) (σ:=σ) (t:=0) (m:=1) (sq:=sq) (by decide) hs hm
  have ih:=b20 i f hi r (k+1) d1 (by omega)
  have z0:((0:Nat):Int)=0:=rfl
  rw [z0] at hA hB
  unfold bH trV at *
  generalize ((L.filter fun x=>Z8 x.f w).length:Int)=u1 at *
  generalize ((L2.filter fun x=>Z8 f x.f).length:Int)=u2 at *
  generalize (L.filter fun x=>Z8 x.f w).map Zk=T1 at *
  generalize (L2.filter fun x=>Z8 f x.f).map Zk=T2 at *
  generalize (L.length:Int)=n at *
  generalize Z8 f w=mb at *
  generalize eNs A=EA at *
  generalize ixE M=X at *
  generalize fs.map AVal.str=FS1 at *
  generalize ws.map AVal.str=WS at *
  rw [Zaq]
  simp -implicitDefEqProofs only [EQA,ZS,ZaX,Xt,Xg,Xo,Xe,Xz,WJ,reduceCtorEq,↓reduceIte,gcT,gcA,Zq,Zj,Zd,Zi,Zw,Zb,Zv,Zl,Zt,Zzy,Zj4,ZyN,ZjJ,ZxA,Zmj,ZqU,Zir,e1,hm,e2,e4,e3,hr,hn,q1,q2,hA,hB,bne_self_eq_false,Zaz,AVal.cells]
  exact ih
theorem b17:∀ (r:List Tx) (i:Nat),fs.drop i=r->i<=fs.length->ZfV fs ws i M A L.length=some (.bool true,[])
 | [],i,h,hk=>by
  have e1:=ZdF h
  have hm:=Zdb fs
  have hr:=Zbs M
  have hn:=fun ρ=>Za9 ρ M
  unfold ZfV bH trV
  generalize (L.length:Int)=n at *
  generalize eNs A=EA at *
  generalize ixE M=X at *
  generalize fs.map AVal.str=FS1 at *
  generalize ws.map AVal.str=WS at *
  unfold Zip
  rw [Zaq]
  simp -implicitDefEqProofs only [EQA,Xt,Xg,Xe,reduceCtorEq,↓reduceIte,ZzD,Zz9,Zk8,Zn8,ZiI,e1,hm]
 | f::r,i,h,hk=>by
  obtain ⟨g1,d1,l1⟩:=Zbf h
  have e1:(i:Int) < fs.length:=by omega
  have hm:=Zdb fs
  have e3:=Zdf e1 (by omega)
  have hr:=Zbs M
  have hn:=fun ρ=>Za9 ρ M
  have hA:=b20 fs ws hfs hws hf hM hM2 hI hL h1 h2 i f g1 ws 0 rfl (Xao _)
  have ih:=b17 r (i+1) d1 (by omega)
  have z0:((0:Nat):Int)=0:=rfl
  rw [z0] at hA
  unfold ZfV bH trV at *
  generalize (L.length:Int)=n at *
  generalize eNs A=EA at *
  generalize ixE M=X at *
  generalize fs.map AVal.str=FS1 at *
  generalize ws.map AVal.str=WS at *
  unfold Zip at *
  rw [Zaq]
  simp -implicitDefEqProofs only [EQA,ZS,ZaX,Xt,Xg,Xo,Xe,Xz,WJ,reduceCtorEq,↓reduceIte,gcT,gcA,Zq,Zj,Zd,Zi,Zw,Zb,Zv,Zl,Zt,ZBv,ZjI,Zn8,ZiI,e1,hm,e3,hr,hn,hA,Zaz]
  exact ih
end
theorem Zm3 {L:List Zh} (h:L.Pairwise ltR) (s:Zh) (f:Tx) (hk:∀ x ∈ L,x.k=s.k):(∃ x ∈ ZcK L s,x.f=f)↔f=s.f\/∃ x ∈ L,x.f=f:=by
 rw [Zf4]
 simp only [Zj5 s h]
 constructor
 ·rintro ⟨x,rfl | ⟨h1,_⟩,rfl⟩
  ·exact Xk rfl
  ·exact Xp ⟨x,h1,rfl⟩
 ·rintro (rfl | ⟨x,hx,rfl⟩)
  ·exact ⟨s,Xk rfl,rfl⟩
  ·cases hs:Zak x s with
   | true =>
    have:=(Zd9 x s.f s.k s.v).1 hs
    exact ⟨s,Xk rfl,this.1.symm⟩
   | false=>exact ⟨x,Xp ⟨hx,hs⟩,rfl⟩
theorem Znl {L:List Zh} (h:L.Pairwise ltR) (s:Zh) (hk:∀ x ∈ L,x.k=s.k):∀ x ∈ ZcK L s,x.k=s.k:=by
 rw [Zf4]
 intro x hx
 rcases (Zj5 s h x).1 hx with rfl | ⟨h1,_⟩
 ·rfl
 ·exact hk x h1
section
variable (fs ws:List Tx) (hfs:fs.length<=12) (hws:ws.length<=12) (hf:∀ f ∈ fs,f.length<=1048576) {R:Option (AVal×Za)}
include hfs hf
theorem Zju:∀ (r:List Tx) (i:Nat) (A:List TN) (L:List Zh),fs.drop i=r->i<=fs.length->St i A L->(∀ x ∈ L,x.k=kK)->(∀ f ∈ fs.take i,ZaK f=true->∃ x ∈ L,x.f=f) ->
  (∀ A' L',St 12 A' L'->(∀ f ∈ fs,ZaK f=true->∃ x ∈ L',x.f=f)->ZdT fs ws 0 [] A' L'.length=R)->kB9 fs ws i [] A L.length=R
 | [],i,A,L,h,hi,hS,hk,hh,hR=>by
  have e:fs.take i=fs:=Wi (Wl.1 h)
  rw [e] at hh
  exact ZHY fs ws [] A _ (ZdF h) (hR A L (hS.mono (by omega)) hh)
 | f::r,i,A,L,h,hi,hS,hk,hh,hR=>by
  obtain ⟨g1,d1,l1⟩:=Zbf h
  have hl:=hS.len
  have hx:=hf f (Xn g1)
  have et:fs.take (i+1)=fs.take i++[f]:=by rw [List.take_add_one,g1];rfl
  cases hb:ZaK f with
  | true =>
   refine ZG7 fs ws g1 hfs hx [] A hS.inv (by omega) hb ?_
   refine Zju r (i+1) _ _ d1 (by omega) (hS.put hb kK i) (Znl hS.inv.sort ⟨f,kK,i⟩ hk) ?_ hR
   intro g hg hgb
   rw [et,Xl,XM] at hg
   refine (Zm3 hS.inv.sort ⟨f,kK,i⟩ g hk).2 ?_
   rcases hg with hg | hg
   ·exact Xp (hh g hg hgb)
   ·exact Xk hg
  | false =>
   refine ZvF fs ws g1 hfs hx [] A hS.inv (by omega) hb ?_
   refine Zju r (i+1) _ _ d1 (by omega) (hS.mono (by omega)) hk ?_ hR
   intro g hg hgb
   rw [et,Xl,XM] at hg
   rcases hg with hg | hg
   ·exact hh g hg hgb
   ·rw [hg,hb] at hgb;cases hgb
end
section
variable (fs ws:List Tx) (hws:ws.length<=12) {R:Option (AVal×Za)} (A:List TN) (n:Int)
include hws
theorem Zl6:∀ (r:List Tx) (i:Nat) (M:List (Tx×Int)) (L:List Zh),ws.drop i=r->i<=ws.length->Inv M L->L.length<=i->(∀ x ∈ L,x.k=[])->(∀ w ∈ ws.take i,ZaL w=true->∃ x ∈ L,x.f=w) ->
  (∀ M' L',Inv M' L'->L'.length<=12->(∀ w ∈ ws,ZaL w=true->∃ x ∈ L',x.f=w)->ZfV fs ws 0 M' A n=R)->ZdT fs ws i M A n=R
 | [],i,M,L,h,hi,hS,hl,hk,hh,hR=>by
  have e:ws.take i=ws:=Wi (Wl.1 h)
  rw [e] at hh
  exact ZtJ fs ws M A n (ZdF h) (hR M L hS (by omega) hh)
 | w::r,i,M,L,h,hi,hS,hl,hk,hh,hR=>by
  obtain ⟨g1,d1,l1⟩:=Zbf h
  have et:ws.take (i+1)=ws.take i++[w]:=by rw [List.take_add_one,g1];rfl
  refine ZEg fs ws M A n g1 hws ?_
  cases hb:ZaL w with
  | true =>
   have e:(Zcs w i M).2=ZcG w i M:=by simp [Zcs,hb]
   rw [e]
   have hS2:=hS.put w i
   refine Zl6 r (i+1) _ _ d1 (by omega) hS2 ?_ (Znl hS.sort ⟨w,[],i⟩ hk) ?_ hR
   ·have h1:=Zkm ⟨w,[],i⟩ L hS.sort
    rw [<-Zf4] at h1
    split at h1 <;> omega
   ·intro g hg hgb
    rw [et,Xl,XM] at hg
    refine (Zm3 hS.sort ⟨w,[],i⟩ g hk).2 ?_
    rcases hg with hg | hg
    ·exact Xp (hh g hg hgb)
    ·exact Xk hg
  | false =>
   have e:(Zcs w i M).2=M:=by simp [Zcs,hb]
   rw [e]
   refine Zl6 r (i+1) _ _ d1 (by omega) hS (by omega) hk ?_ hR
   intro g hg hgb
   rw [et,Xl,XM] at hg
   rcases hg with hg | hg
   ·exact hh g hg hgb
   ·rw [hg,hb] at hgb;cases hgb
end
theorem Zic (fs ws:List Tx) (hfs:fs.length<=12) (hws:ws.length<=12) (hf:∀ f ∈ fs,f.length<=1048576):kB9 fs ws 0 [] [([],[])] 0=some (.bool true,[]):=by
 refine Zju fs ws hfs hf fs 0 _ [] rfl (Xao _) St.nil (by simp) (by simp) fun A' L' hA hh=>?_
 have hl:=hA.len
 refine Zl6 fs ws hws A' _ ws 0 [] [] rfl (Xao _) Inv.nil (XI _) (by simp) (by simp) fun M' L2 hM hl2 hh2=>?_
 exact b17 fs ws hfs hws hf hM (by omega) hA.inv (by omega) hh hh2 fs 0 rfl (Xao _)
theorem Ztg (fs ws:List Tx) (hf:∀ f ∈ fs,f.length<=1048576):E 4 [.lst false (fs.map AVal.str),.lst false (ws.map AVal.str)] []=some (.bool true,[]):=by
 have q0:=fun {σ:Za} {sq:Nat} hff=>ZCX (σ:=σ) (sq:=sq) hff
 have q1:=fun σ sq hff=>ZxG σ sq hff
 have q2:=Zsf
 have z0:((0:Nat):Int)=0:=rfl
 have m1:=Zdb fs
 have m2:=Zdb ws
 have hr:=Zbs []
 have hn:=fun ρ=>Za9 ρ []
 have s1:=fun (σ:Za) (kk:IntKind) h=>Zrz σ 1 fs AVal.str kk 12 (by decide) h
 have s2:=fun (σ:Za) (kk:IntKind) h=>Zrz σ 1 ws AVal.str kk 12 (by decide) h
 have t12:(12:Int).toNat=12:=rfl
 rw [t12] at s1 s2
 rw [Zap (by rfl) ZGu]
 by_cases c1:(fs.length:Int) > 12
 ·by_cases c2:(ws.length:Int) > 12
  ·have h:=Zic (fs.take 12) (ws.take 12) (by simp;omega) (by simp;omega) (fun x hx=>hf x (Wx hx))
   unfold kB9 bH Zek at h
   rw [z0] at h
   have g1:=fun (σ:Za) (kk:IntKind)=>s1 σ kk (by omega)
   have g2:=fun (σ:Za) (kk:IntKind)=>s2 σ kk (by omega)
   clear s1 s2
   generalize ixE []=X at *
   generalize (fs.take 12).map AVal.str=FS2 at *
   generalize (ws.take 12).map AVal.str=WS2 at *
   generalize fs.map AVal.str=FS1 at *
   generalize ws.map AVal.str=WS at *
   simp -implicitDefEqProofs only [EQA,ZS,ZaX,Xt,Xg,Xo,Xe,Xz,WJ,unA,ZG,unG,reduceCtorEq,↓reduceIte,gcT,gcA,Zq,Zj,Zd,Zi,Zw,Zb,Zv,Zl,Zt,ZhK,Zgh,q0,q1,q2,m1,m2,c1,c2,g1,g2,Zac,hr,hn,Zaz]
   exact h
  ·have h:=Zic (fs.take 12) ws (by simp;omega) (by omega) (fun x hx=>hf x (Wx hx))
   unfold kB9 bH Zek at h
   rw [z0] at h
   have g1:=fun (σ:Za) (kk:IntKind)=>s1 σ kk (by omega)
   clear s1 s2
   generalize ixE []=X at *
   generalize (fs.take 12).map AVal.str=FS2 at *
   generalize fs.map AVal.str=FS1 at *
   generalize ws.map AVal.str=WS at *
   simp -implicitDefEqProofs only [EQA,ZS,ZaX,Xt,Xg,Xo,Xe,Xz,WJ,unA,ZG,unG,reduceCtorEq,↓reduceIte,gcT,gcA,Zq,Zj,Zd,Zi,Zw,Zb,Zv,Zl,Zt,ZhK,Zgh,q0,q1,q2,m1,m2,c1,c2,g1,Zac,hr,hn,Zaz]
   exact h
 ·by_cases c2:(ws.length:Int) > 12
  ·have h:=Zic fs (ws.take 12) (by omega) (by simp;omega) hf
   unfold kB9 bH Zek at h
   rw [z0] at h
   have g2:=fun (σ:Za) (kk:IntKind)=>s2 σ kk (by omega)
   clear s1 s2
   generalize ixE []=X at *
   generalize (ws.take 12).map AVal.str=WS2 at *
   generalize fs.map AVal.str=FS1 at *
   generalize ws.map AVal.str=WS at *
   simp -implicitDefEqProofs only [EQA,ZS,ZaX,Xt,Xg,Xo,Xe,Xz,WJ,unA,ZG,unG,reduceCtorEq,↓reduceIte,gcT,gcA,Zq,Zj,Zd,Zi,Zw,Zb,Zv,Zl,Zt,ZhK,Zgh,q0,q1,q2,m1,m2,c1,c2,g2,Zac,hr,hn,Zaz]
   exact h
  ·have h:=Zic fs ws (by omega) (by omega) hf
   unfold kB9 bH Zek at h
   rw [z0] at h
   clear s1 s2
   generalize ixE []=X at *
   generalize fs.map AVal.str=FS1 at *
   generalize ws.map AVal.str=WS at *
   simp -implicitDefEqProofs only [EQA,ZS,ZaX,Xt,Xg,Xo,Xe,Xz,WJ,unA,ZG,unG,reduceCtorEq,↓reduceIte,gcT,gcA,Zq,Zj,Zd,Zi,Zw,Zb,Zv,Zl,Zt,ZhK,Zgh,q0,q1,q2,m1,m2,c1,c2,Zac,hr,hn,Zaz]
   exact h
end
section
open Go.RowKit
mutual
def TyR (R:Nat):Ty->List AVal->Prop
 | .bool,xs=>∃ b,xs=[.bool b]
 | .int k,xs=>∃ n,(Lit.int k n).wf=true/\xs=[.int k n]
 | .str,xs=>∃ l:List UInt8,l.length<=R/\xs=[.str l]
 | .slice s e,xs=>∃ ys:List (List AVal),xs=[.lst false (ys.map (ZbW s))]/\ys.length<=R/\∀ y ∈ ys,TyR R e y
 | .struct fs,xs=>Zhm R fs xs
def Zhm (R:Nat):List Ty->List AVal->Prop
 | [],xs=>xs=[]
 | f::fs,xs=>∃ a b,xs=a++b/\TyR R f a/\Zhm R fs b
end
section
variable {H:Type} {enc:TypeId×Value->H} {P:Program} {w:World} {spare:Nat->Bool} {held:Bool} {R:Nat}
theorem Zoo {n:Nat} {e:TypeId} {T:Ty} (hT:ZcF P n e=some T) (hs:ZcM (P.underlying e)=false) {xs:List AVal} (h:TyR R T xs):xs.length=1:=by
 cases n with
 | zero=>simp [ZcF] at hT
 | succ n =>
  simp only [ZcF] at hT
  split at hT
  ·injection hT with hT;subst hT;simp only [TyR] at h;obtain ⟨_,rfl⟩:=h;rfl
  ·injection hT with hT;subst hT;simp only [TyR] at h;obtain ⟨_,_,rfl⟩:=h;rfl
  ·injection hT with hT;subst hT;simp only [TyR] at h;obtain ⟨_,_,rfl⟩:=h;rfl
  ·split at hT
   ·simp only [Xi] at hT
    obtain ⟨T',_,rfl⟩:=hT
    simp only [TyR] at h;obtain ⟨_,rfl,_⟩:=h;rfl
   ·cases hT
  ·rename_i hu;rw [hu] at hs;simp [ZcM] at hs
  ·cases hT
def Zom (R:Nat) (s:Bool) (T:Ty) (x:AVal):Prop:=∃ xs,TyR R T xs/\x=ZbW s xs
end
end
section
open Go.Shelf
def ZuA:Ren:=⟨fun | 196=>64 | 259=>82 | n=>n,fun | 9=>9 | 4=>4 | 3=>3 | 5=>5 | 12=>12 | 119=>111 | 0=>0 | 46=>84 | 139=>114 | 138=>113 | 53=>105 | n=>n,fun | 3=>0 | 4=>1 | n=>n⟩
theorem ZoO:Go.Proofs.Lays.n196 Tryd.prog ZuA:={ mixed:=by kernel_rfl,f196:=Tryd.func64.trans (congrArg some (by kernel_rfl)),f259:=Tryd.func82.trans (congrArg some (by kernel_rfl)),t0:=Tryd.underlying0,a0:=Tryd.isAgg0,z0:=Tryd.sizeOf0,v0:=Tryd.zeroValue0,t3:=Tryd.underlying3,a3:=Tryd.isAgg3,z3:=Tryd.sizeOf3,v3:=Tryd.zeroValue3,t4:=Tryd.underlying4,a4:=Tryd.isAgg4,z4:=Tryd.sizeOf4,v4:=Tryd.zeroValue4,t5:=Tryd.underlying5,a5:=Tryd.isAgg5,z5:=Tryd.sizeOf5,v5:=Tryd.zeroValue5,t9:=Tryd.underlying9,a9:=Tryd.isAgg9,z9:=Tryd.sizeOf9,v9:=Tryd.zeroValue9,t12:=Tryd.underlying12,a12:=Tryd.isAgg12,z12:=Tryd.sizeOf12,v12:=Tryd.zeroValue12,t46:=Tryd.underlying84,a46:=Tryd.isAgg84,z46:=Tryd.sizeOf84,v46:=Tryd.zeroValue84,t53:=Tryd.underlying105,a53:=Tryd.isAgg105,z53:=Tryd.sizeOf105,v53:=Tryd.zeroValue105,t119:=Tryd.underlying111,a119:=Tryd.isAgg111,z119:=Tryd.sizeOf111,t138:=Tryd.underlying113,a138:=Tryd.isAgg113,z138:=Tryd.sizeOf113,v138:=Tryd.zeroValue113,t139:=Tryd.underlying114,a139:=Tryd.isAgg114,z139:=Tryd.sizeOf114,v139:=Tryd.zeroValue114,g3:=by kernel_rfl,g4:=by kernel_rfl }
end
section
open Go.RowKit Go.Shelf Go.Lib
theorem ZwO {W:World} (h:Lib.Utf8Tabs 0 1 W):Gl.le (Imm.of W):=by
 intro b o u hu
 unfold Gl at hu
 unfold Imm.of
 split at hu
 ·rename_i e;subst e
  split at hu
  ·rename_i ho
   rw [h.1 o ho,<-hu]
  ·cases hu
 ·split at hu
  ·rename_i e;subst e
   split at hu
   ·rename_i ho
    rw [<-hu]
    obtain ⟨h1,h2⟩:=h.2 (o / 2) (by omega)
    by_cases hp:o % 2=0
    ·rw [if_pos hp,<-h1];congr 2;omega
    ·rw [if_neg hp,<-h2];congr 2;omega
   ·cases hu
  ·cases hu
section
open Go.RowKit
variable {H:Type} {enc:TypeId×Value->H} {P:Program} {w:World} {spare:Nat->Bool} {held:Bool}
theorem ZoD {d:DataW H} {l:List (DataW H)} (h:d ∈ l):Rows.uptoBulk d<=Rows.uptoBulkAll l:=by
 induction l with
 | nil=>cases h
 | cons x r ih =>
  simp only [Rows.uptoBulkAll]
  rcases Xv.1 h with rfl | h
  ·omega
  ·have:=ih h;omega
theorem Ztr {d:DataW H} {l m:List (DataW H)} (h:d ∈ l):Rows.uptoBulk d<=Rows.uptoBulk (.slice l m):=by
 have:=ZoD h
 simp only [Rows.uptoBulk];omega
theorem Zot {d:DataW H} {l:List (DataW H)} (hb:Rows.uptoSmall H l=true) (h:d ∈ l):Rows.uptoBulk d<=1048576:=by
 have:=ZoD h
 have h2:Rows.uptoBulkAll l<=1048576:=by simpa [Rows.uptoSmall] using hb
 omega
end
end
section
open Go.RowKit
section
variable {H:Type} {enc:TypeId×Value->H} {P:Program} {w:World} {spare:Nat->Bool} {held:Bool} {R:Nat}
theorem ZFY (d:DataW H):1<=Rows.uptoBulk d:=by
 cases d with
 | lit l=>cases l <;> simp [Rows.uptoBulk]
 | _=>simp [Rows.uptoBulk]
theorem ZrS:∀ l:List (DataW H),l.length<=Rows.uptoBulkAll l
 | []=>by simp [Rows.uptoBulkAll]
 | d::l=>by
  have:=ZrS l
  have:=ZFY d
  simp only [Rows.uptoBulkAll,XD];omega
theorem Zoe {n fuel:Nat} {cs:List Value} (ih:∀ (t:TypeId) (cs:List Value) (x:DataW H×List MemPlace) (T:Ty),ZcF P n t=some T->Rows.uptoBulk x.1<=R->DataW.trod enc P w 0 spare held fuel t cs=some x->∃ xs,TyR R T xs/\VRs (Imm.of w) B0 xs cs/\ZX xs=true) :
  ∀ (fs:List Field) (at':Nat) (Ts:List Ty) (ys:List (DataW H×List MemPlace)),Rows.uptoBulkAll (ys.map (·.1))<=R->Zg8 P at' fs cs.length=true->fs.mapM (fun f=>ZcF P n f.type)=some Ts ->
   fs.mapM (fun f=>DataW.trod enc P w 0 spare held fuel f.type ((cs.drop f.offset).take (P.cellsOf f.type)))=some ys->∃ xs,Zhm R Ts xs/\VRs (Imm.of w) B0 xs (cs.drop at')/\ZX xs=true
 | [],at',Ts,ys,_,ho,hT,_=>by
  simp only [Zg8,beq_iff_eq] at ho
  simp only [List.mapM_nil,Option.pure_def,Xa] at hT
  subst hT ho
  exact ⟨[],by simp only [Zhm],by simp [VRs],rfl⟩
 | f::fs,at',Ts,ys,hwt,ho,hT,h=>by
  simp only [Zg8,Xh,beq_iff_eq] at ho
  obtain ⟨T,Ts',h1,h2,rfl⟩:=Zqq hT
  obtain ⟨y,ys',h3,h4,rfl⟩:=Zqq h
  simp only [XA,Rows.uptoBulkAll] at hwt
  obtain ⟨a,a1,a2,a3⟩:=ih _ _ _ _ h1 (by omega) h3
  obtain ⟨b,b1,b2,b3⟩:=Zoe ih fs _ _ _ (by omega) ho.2 h2 h4
  rw [ho.1] at a2
  refine ⟨a++b,by simp only [Zhm];exact ⟨a,b,rfl,a1,b1⟩,ZHA a2 (by rw [List.drop_drop];exact b2),ZBm a3 b3⟩
theorem ZlK:∀ (n fuel:Nat) (t:TypeId) (cs:List Value) (x:DataW H×List MemPlace) (T:Ty),ZcF P n t=some T->Rows.uptoBulk x.1<=R->DataW.trod enc P w 0 spare held fuel t cs=some x ->
  ∃ xs,TyR R T xs/\VRs (Imm.of w) B0 xs cs/\ZX xs=true
 | 0,fuel,t,cs,x,T,hT,_,_=>by simp [ZcF] at hT
 | n+1,0,t,cs,x,T,_,_,h=>by simp [DataW.trod] at h
 | n+1,fuel+1,t,cs,x,T,hT,hwt,h=>by
  have h0:=h
  simp only [ZcF] at hT
  unfold DataW.trod at h
  split at hT
  ·rename_i hu
   injection hT with hT;subst hT
   obtain ⟨b,rfl,_⟩:=DataW.trod_bool hu h0
   exact ⟨[.bool b],by simp only [TyR];exact ⟨b,rfl⟩,by simp [VRs,VR],rfl⟩
  ·rename_i k hu
   injection hT with hT;subst hT
   obtain ⟨n',rfl,_,hk⟩:=DataW.trod_int hu h0
   exact ⟨[.int k n'],by simp only [TyR];exact ⟨n',hk,rfl⟩,by simp [VRs,VR],rfl⟩
  ·rename_i hu
   injection hT with hT;subst hT
   obtain ⟨s,rfl,hx,hs⟩:=DataW.trod_string hu h0
   have hs':s.data.toList.length<=9223372036854775807:=by
    rw [Array.length_toList];exact XaI hs (by simp [maxLen])
   have hR:s.data.toList.length<=R:=by
    subst hx
    simp only [Rows.uptoBulk] at hwt
    omega
   exact ⟨[.str s.data.toList],by simp only [TyR];exact ⟨_,hR,rfl⟩,by simp only [VRs,VR];exact ⟨_,_,rfl,⟨by simp,hs'⟩,rfl⟩,rfl⟩
  ·rename_i e hu
   split at hT
   case isFalse=>cases hT
   rename_i hc
   simp only [Xi] at hT
   obtain ⟨T,hT,rfl⟩:=hT
   rcases Go.Deep.open_slice hu h0 with ⟨hcs,_⟩ | ⟨a,len,cap,m,n',D,Pl,hcs,_,hl,hm,hmm,hx,hi⟩
   ·subst hcs
    exact ⟨[.lst false []],by simp only [TyR];exact ⟨[],by simp,by simp,by simp⟩,by simp only [VRs,VR];exact ⟨_,_,rfl,⟨none,0,rfl,by simp,by simp,by simp,by simp,by simp [ZE]⟩,rfl⟩,rfl⟩
   ·have hlm:len<=m:=by split at hmm <;> omega
    have hlR:len<=R:=by
     rw [hx] at hwt
     simp only [Rows.uptoBulk] at hwt
     have:=ZrS ((Wm len).map D)
     simp only [Wj,List.length_range] at this
     omega
    have hspot:0 < len->a.spot=none:=by
     intro h0
     obtain ⟨cs',h1,h2⟩:=hi 0 (by omega)
     obtain ⟨_,h6,h7⟩:=World.cells?_some h1
     have h8:=h7 0 hc
     obtain ⟨u,hu⟩:∃ u,cs'[0]?=some u:=⟨cs'[0]'(by omega),by simp⟩
     rw [hu] at h8
     simp only [Nat.zero_mul,Addr.add,if_true] at h8
     exact ZvW (b:=a.block) (off:=a.off) (s:=a.spot) (u:=u) h8
    have hall:∀ i,∃ xs,i < len->TyR R T xs/\(ZbW (ZcM (P.underlying e)) xs).cells=xs/\xs.length=P.cellsOf e/\CR (Imm.of w) B0 xs a.block (a.off+i*P.cellsOf e)/\ZX xs=true:=by
     intro i
     by_cases hlt:i < len
     ·obtain ⟨cs',h1,h2⟩:=hi i (by omega)
      obtain ⟨xs,h3,h4,h5⟩:=ZlK n n' e cs' _ T hT (XaI (by rw [hx];exact Ztr (Xq.2 ⟨i,WR.2 hlt,rfl⟩)) hwt) h2
      obtain ⟨_,h6,h7⟩:=World.cells?_some h1
      have hlen:=ZQ h4
      refine ⟨xs,fun _=>⟨h3,ZI4 (fun hs=>Zoo hT hs h3) (fun _=>Zqd h5),by omega,Zm5 xs cs' _ h4 (fun j hj=>?_),h5⟩⟩
      have h8:=h7 j (by omega)
      rw [Go.Deep.add_add,ZDZ (hspot (by omega)),<-Nat.add_assoc] at h8
      exact h8
     ·exact ⟨[],fun h=>absurd h hlt⟩
    obtain ⟨Y,hY⟩:=Classical.axiomOfChoice hall
    subst hcs
    have hmx:maxLen=9223372036854775807:=by simp [maxLen]
    rw [hmx] at hm
    refine ⟨[.lst false ((Wm len).map fun i=>ZbW (ZcM (P.underlying e)) (Y i))],?_,?_,?_⟩
    ·simp only [TyR]
     refine ⟨(Wm len).map Y,by rw [XY];rfl,by simpa using hlR,?_⟩
     intro y hy
     obtain ⟨i,hi',rfl⟩:=Xq.1 hy
     exact (hY i (WR.1 hi')).1
    ·simp only [VRs,VR,Wj,List.length_range]
     refine ⟨_,_,rfl,⟨some a,cap,rfl,hl,hm,by simp,?_,Zjj len Y fun i hlt=>by rw [(hY i hlt).2.1];exact (hY i hlt).2.2.2.2⟩,rfl⟩
     cases len with
     | zero=>exact Xk (by simp)
     | succ len =>
      refine Xp ⟨a.block,a.off,P.cellsOf e,?_,hc,ZqA (len+1) a.off Y fun i hlt=>?_⟩
      ·have:=hspot (by omega)
       cases a;simp_all
      ·rw [(hY i hlt).2.1];exact ⟨(hY i hlt).2.2.1,(hY i hlt).2.2.2.1⟩
    ·simp only [ZX,ZV,XbA]
     exact Zjj len Y fun i hlt=>by rw [(hY i hlt).2.1];exact (hY i hlt).2.2.2.2
  ·rename_i fs hu
   split at hT
   case isFalse=>cases hT
   rename_i ho
   simp only [Xi] at hT
   obtain ⟨Ts,hT,rfl⟩:=hT
   rw [hu] at h
   simp only at h
   split at h
   ·rename_i hl
    simp only [Xi] at h
    obtain ⟨ys,hy,rfl⟩:=h
    simp only [Rows.uptoBulk] at hwt
    obtain ⟨xs,h1,h2,h3⟩:=Zoe (fun t cs x T h h1 h'=>ZlK n fuel t cs x T h h1 h') fs.toList 0 Ts ys (by omega) (by rw [hl];exact ho) hT hy
    exact ⟨xs,by simp only [TyR];exact h1,h2,h3⟩
   ·cases h
  ·cases hT
theorem Zr7 {n:Nat} {t:TypeId} {v:Value} {d:DataW H} {ps:List MemPlace} {T:Ty} {r:Reach} {b0:Nat} (hT:ZcF P n t=some T) (hwt:Rows.uptoBulk d<=R) (hv:Value.okWide P w r b0 t v) (h:DataW.Trod enc P w 0 spare held t v d ps) :
  ∃ x,Zom R (ZcM (P.underlying t)) T x/\VR (Imm.of w) B0 x v/\ZX x.cells=true:=by
 obtain ⟨fuel,h⟩:=h
 obtain ⟨xs,h1,h2,h3⟩:=ZlK n fuel t _ _ T hT hwt h
 refine ⟨ZbW (ZcM (P.underlying t)) xs,⟨xs,h1,rfl⟩,?_⟩
 by_cases hs:ZcM (P.underlying t)=true
 ·have : ∃ cs,v=.agg cs:=by
   unfold Value.okWide at hv
   cases hu:P.underlying t with
   | none=>rw [hu] at hs;simp [ZcM] at hs
   | some dd =>
    rw [hu] at hv hs
    cases dd <;> first | (simp [ZcM] at hs;done) | (obtain ⟨cs,e,_⟩:=hv;exact ⟨cs,e⟩)
  obtain ⟨cs,rfl⟩:=this
  rw [hs]
  exact ⟨by simp only [ZbW,if_true,VR];exact ⟨cs,rfl,h2⟩,h3⟩
 ·have hs':ZcM (P.underlying t)=false:=by simpa using hs
  have hl:=Zoo hT hs' h1
  have hlen:=ZQ h2
  rw [hs']
  match xs,hl with
  | [x],_ =>
   simp only [ZbW,Xf,if_false,Xau]
   have hvc:v.cells=#[v]:=by
    cases n with
    | zero=>simp [ZcF] at hT
    | succ n =>
     simp only [ZcF] at hT
     split at hT
     ·rename_i hu;obtain ⟨b,rfl⟩:=Go.WideShapes.okWide_bool hu hv;rfl
     ·rename_i k hu;obtain ⟨b,rfl⟩:=Go.WideShapes.okWide_int hu hv;rfl
     ·rename_i hu;obtain ⟨b,rfl⟩:=Go.WideShapes.okWide_string hu hv;rfl
     ·rename_i e hu;obtain ⟨a,l,c,rfl⟩:=Go.WideShapes.okWide_slice hu hv;rfl
     ·rename_i fs hu;rw [hu] at hs';simp [ZcM] at hs'
     ·cases hT
   rw [hvc] at h2
   simp only [VRs] at h2
   obtain ⟨v',vs',e,h2,_⟩:=h2
   simp only [WD] at e
   rw [e.1]
   refine ⟨h2,?_⟩
   have hok:=Zqd h3 x (by simp)
   have hx:x.cells=[x]:=by cases x <;> first | rfl | (simp [ZI] at hok;done)
   rw [hx];exact h3
end
end
section
open Go.RowKit
theorem Zqv {R:Nat} {x:AVal} (h:Zom R false (.slice false .str) x):∃ l:List (List UInt8),(∀ y ∈ l,y.length<=R)/\x=.lst false (l.map AVal.str):=by
 obtain ⟨y,h,rfl⟩:=h
 simp only [TyR] at h
 obtain ⟨ys,rfl,h1,h2⟩:=h
 have : ∀ ys:List (List AVal),(∀ y ∈ ys,TyR R .str y)->∃ l:List (List UInt8),(∀ y ∈ l,y.length<=R)/\ys.map (ZbW false)=l.map AVal.str:=by
  intro ys
  induction ys with
  | nil=>intro _;exact ⟨[],by simp,rfl⟩
  | cons y ys ih =>
   intro hy
   have hy0:=hy y (by simp)
   simp only [TyR] at hy0
   obtain ⟨a,ha1,ha⟩:=hy0
   obtain ⟨l,hok,hl⟩:=ih fun y' h'=>hy y' (by simp [h'])
   refine ⟨a::l,?_,by simp [ha,hl,ZbW]⟩
   intro z hz
   rcases Xv.1 hz with rfl | hz
   ·exact ha1
   ·exact hok z hz
 obtain ⟨l,hok,hl⟩:=this ys (fun y hy=>by simpa only [TyR] using h2 y hy)
 exact ⟨l,hok,by simp [ZbW,hl]⟩
end
section
theorem ZIW:ZW (Zfz Tryd.prog (fun _=>{ lr:=fun n=>if n=1 then [0] else [] })) (fun _=>none) (fun _=>false) 2 28 [] []=some (.ref 0 0,[.var [.map 1,.map 2],.map [],.map []]):=by kernel_rfl
theorem ZyO:Zhq Tryd.prog (fun _=>none):=by intro f g h;cases h
theorem ZIy {args:List AVal} {σ σ':Za} {r:AVal} (hp:Zjn args σ=some (r,σ')) :
  (∃ fn,Tryd.prog.funcs[28]?=some fn/\fn.body.isSome=true/\(fn.name == "runtime.NumGoroutine")=false) /\
  ∀ base w0 I0 I β w (vs:Array Value),KLt base w0->Rel base w0 I0 I β σ w->VRs I β args vs.toList->Calls Tryd.prog 28 vs w (fun e w'=>∃ u,Ends r e u/\Zbu σ.length base w0 I0 I β r σ' u w'):=by
 unfold Zjn at hp
 split at hp
 case h_2=>cases hp
 simp only [Xa,Xb] at hp
 obtain ⟨rfl,rfl⟩:=hp
 obtain ⟨h1,h2⟩:=Zjl (by kernel_rfl) ZyO _ _ 2 _ _ _ _ _ ZIW
 refine ⟨h1,fun base w0 I0 I β w vs hb R hv=>(h2 base w0 I0 I β w vs hb R hv).mono ?_⟩
 rintro e w' ⟨u,he,I',β',i1,i2,R',hv'⟩
 obtain ⟨β2,R2,hv2⟩:=R'.arena1
 exact ⟨u,he,I',β2,i1,fun t ht=>absurd ht (by simp),R2,hv2 _ hv'⟩
end
section
open Go.Shelf
def ZAl:Ren:=⟨fun | 6=>49 | 15=>57 | 14=>56 | 28=>76 | 29=>77 | 20=>68 | 21=>69 | 22=>70 | 23=>71 | 24=>72 | 25=>73 | 26=>74 | 27=>75 | 46=>87 | 47=>88 | 48=>89 | 49=>90 | 50=>91 | 57=>95 | n=>n,fun | 22=>31 | 24=>35 | 25=>80 | 3=>3 | 39=>84 | 0=>0 | 53=>103 | 55=>105 | 4=>4 | 46=>97 | 45=>96 | 50=>50 | 5=>5 | 9=>9 | 66=>118 | 70=>122 | 76=>124 | 77=>85 | n=>n,fun | n=>n⟩
theorem Zny:Go.Proofs.SlLaysF0.n6 Tryd.prog ZAl:={ mixed:=by kernel_rfl,f6:=⟨"slices.SortFunc[[]tidings/trie.Row[int],tidings/trie.Row[int]]",by kernel_rfl,Tryd.func49.trans (congrArg some (by kernel_rfl))⟩,f14:=⟨"slices.pdqsortCmpFunc[tidings/trie.Row[int]]",by kernel_rfl,Tryd.func56.trans (congrArg some (by kernel_rfl))⟩,f15:=Tryd.func57.trans (congrArg some (by kernel_rfl)),f20:=⟨"slices.insertionSortCmpFunc[tidings/trie.Row[int]]",by kernel_rfl,Tryd.func68.trans (congrArg some (by kernel_rfl))⟩,f21:=⟨"slices.heapSortCmpFunc[tidings/trie.Row[int]]",by kernel_rfl,Tryd.func69.trans (congrArg some (by kernel_rfl))⟩,f22:=⟨"slices.breakPatternsCmpFunc[tidings/trie.Row[int]]",by kernel_rfl,Tryd.func70.trans (congrArg some (by kernel_rfl))⟩,f23:=⟨"slices.choosePivotCmpFunc[tidings/trie.Row[int]]",by kernel_rfl,Tryd.func71.trans (congrArg some (by kernel_rfl))⟩,f24:=⟨"slices.reverseRangeCmpFunc[tidings/trie.Row[int]]",by kernel_rfl,Tryd.func72.trans (congrArg some (by kernel_rfl))⟩,f25:=⟨"slices.partialInsertionSortCmpFunc[tidings/trie.Row[int]]",by kernel_rfl,Tryd.func73.trans (congrArg some (by kernel_rfl))⟩,f26:=⟨"slices.partitionEqualCmpFunc[tidings/trie.Row[int]]",by kernel_rfl,Tryd.func74.trans (congrArg some (by kernel_rfl))⟩,f27:=⟨"slices.partitionCmpFunc[tidings/trie.Row[int]]",by kernel_rfl,Tryd.func75.trans (congrArg some (by kernel_rfl))⟩,f28:=Tryd.func76.trans (congrArg some (by kernel_rfl)),f29:=Tryd.func77.trans (congrArg some (by kernel_rfl)),f46:=⟨"slices.siftDownCmpFunc[tidings/trie.Row[int]]",by kernel_rfl,Tryd.func87.trans (congrArg some (by kernel_rfl))⟩,f47:=Tryd.func88.trans (congrArg some (by kernel_rfl)),f48:=Tryd.func89.trans (congrArg some (by kernel_rfl)),f49:=⟨"slices.medianAdjacentCmpFunc[tidings/trie.Row[int]]",by kernel_rfl,Tryd.func90.trans (congrArg some (by kernel_rfl))⟩,f50:=⟨"slices.medianCmpFunc[tidings/trie.Row[int]]",by kernel_rfl,Tryd.func91.trans (congrArg some (by kernel_rfl))⟩,f57:=⟨"slices.order2CmpFunc[tidings/trie.Row[int]]",by kernel_rfl,Tryd.func95.trans (congrArg some (by kernel_rfl))⟩,t0:=Tryd.underlying0,a0:=Tryd.isAgg0,z0:=Tryd.sizeOf0,v0:=Tryd.zeroValue0,t3:=Tryd.underlying3,a3:=Tryd.isAgg3,z3:=Tryd.sizeOf3,v3:=Tryd.zeroValue3,t4:=Tryd.underlying4,a4:=Tryd.isAgg4,z4:=Tryd.sizeOf4,v4:=Tryd.zeroValue4,t5:=Tryd.underlying5,a5:=Tryd.isAgg5,z5:=Tryd.sizeOf5,v5:=Tryd.zeroValue5,t9:=Tryd.underlying9,a9:=Tryd.isAgg9,z9:=Tryd.sizeOf9,v9:=Tryd.zeroValue9,t22:=Tryd.underlying31,a22:=Tryd.isAgg31,z22:=Tryd.sizeOf31,v22:=Tryd.zeroValue31,t25:=Tryd.underlying80,a25:=Tryd.isAgg80,z25:=Tryd.sizeOf80,v25:=Tryd.zeroValue80,t39:=Tryd.underlying84,a39:=Tryd.isAgg84,z39:=Tryd.sizeOf84,v39:=Tryd.zeroValue84,t45:=Tryd.underlying96,a45:=Tryd.isAgg96,z45:=Tryd.sizeOf96,v45:=Tryd.zeroValue96,t46:=Tryd.underlying97,a46:=Tryd.isAgg97,z46:=Tryd.sizeOf97,v46:=Tryd.zeroValue97,t50:=Tryd.underlying50,a50:=Tryd.isAgg50,z50:=Tryd.sizeOf50,v50:=Tryd.zeroValue50,t53:=Tryd.underlying103,a53:=Tryd.isAgg103,z53:=Tryd.sizeOf103,v53:=Tryd.zeroValue103,t55:=Tryd.underlying105,a55:=Tryd.isAgg105,z55:=Tryd.sizeOf105,v55:=Tryd.zeroValue105,t66:=Tryd.underlying118,a66:=Tryd.isAgg118,z66:=Tryd.sizeOf118,v66:=Tryd.zeroValue118,t70:=Tryd.underlying122,a70:=Tryd.isAgg122,z70:=Tryd.sizeOf122,v70:=Tryd.zeroValue122,t76:=Tryd.underlying124,a76:=Tryd.isAgg124,z76:=Tryd.sizeOf124,v76:=Tryd.zeroValue124,t77:=Tryd.underlying85,a77:=Tryd.isAgg85,z77:=Tryd.sizeOf85,v77:=Tryd.zeroValue85 }
end
section
open Go.RowKit Go.Sort Go.Lib
set_option maxRecDepth 100000
theorem ZxL {I:Imm} {β:Bmap} (x:AVal) (a:List UInt8×List UInt8) (l:List Value) (h:Zcj x=some a) (hv:VRs I β x.cells l):∃ t,l=[Value.string ⟨a.1.toArray⟩,Value.string ⟨a.2.toArray⟩]++t:=by
 unfold Zcj at h
 split at h
 ·injection h with h;subst h
  simp only [AVal.cells,VRs] at hv
  obtain ⟨v,vs,rfl,h1,v2,vs2,rfl,h2,_⟩:=hv
  simp only [VR] at h1 h2
  exact ⟨vs2,by rw [h1.1,h2.1];rfl⟩
 ·cases h
theorem ZyZ (A:ByteArray) (W:World):Calls Tryd.prog 58 #[.string A] W fun e w'=>e=.returned (.bool false)/\w'=W:=by
 go_enter Tryd.func58,Tryd.ntmps58
 go_wp2
 go_ret
 simp
theorem ZtQ (a b:List UInt8) (W:World):Calls Tryd.prog 51 #[.string ⟨a.toArray⟩,.string ⟨b.toArray⟩] W fun e w'=>e=.returned (.int .i64 (ZbZ a b))/\w'=W:=by
 have h1:Op.bytesLess (⟨a.toArray⟩:ByteArray).toList (⟨b.toArray⟩:ByteArray).toList=decide (a < b):=by
  rw [Go.Proofs.bytesLess_eq];simp
 have h3:((⟨a.toArray⟩:ByteArray).toList == (⟨b.toArray⟩:ByteArray).toList)=decide (a=b):=by
  by_cases h:a=b
  ·subst h;simp
  ·simp [h]
 have hn:=ZyZ
 by_cases hab:a < b
 ·rw [decide_eq_true hab] at h1
  have hr:ZbZ a b=-1:=by unfold ZbZ;rw [if_pos hab]
  rw [hr]
  clear h3 hr hab
  generalize (⟨a.toArray⟩:ByteArray)=A1 at *
  generalize (⟨b.toArray⟩:ByteArray)=B1 at *
  go_enter Tryd.func51,Tryd.ntmps51
  go_wp2_with (go_at_call 58;refine (hn _ _).mono ?_;rintro e w' ⟨rfl,rfl⟩)
  go_ret
  simp
 ·rw [decide_eq_false hab] at h1
  by_cases hba:b < a
  ·have hne:a≠b:=by rintro rfl;exact List.lt_irrefl _ hba
   have hr:ZbZ a b=1:=by unfold ZbZ;rw [if_neg hab,if_pos hba]
   rw [decide_eq_false hne] at h3
   rw [hr]
   clear hr hab hba hne
   generalize (⟨a.toArray⟩:ByteArray)=A1 at *
   generalize (⟨b.toArray⟩:ByteArray)=B1 at *
   go_enter Tryd.func51,Tryd.ntmps51
   go_wp2_with (go_at_call 58;refine (hn _ _).mono ?_;rintro e w' ⟨rfl,rfl⟩)
   go_ret
   simp
  ·have he:a=b:=List.le_antisymm (XaY.1 hba) (XaY.1 hab)
   have hr:ZbZ a b=0:=by unfold ZbZ;rw [if_neg hab,if_neg hba]
   rw [decide_eq_true he] at h3
   rw [hr]
   clear hr hab hba he
   generalize (⟨a.toArray⟩:ByteArray)=A1 at *
   generalize (⟨b.toArray⟩:ByteArray)=B1 at *
   go_enter Tryd.func51,Tryd.ntmps51
   go_wp2_with (go_at_call 58;refine (hn _ _).mono ?_;rintro e w' ⟨rfl,rfl⟩)
   go_ret
   simp
theorem ZyF (a b:List UInt8×List UInt8) (us vs:List Value) (W:World) (hu:2+us.length=3) (hv:2+vs.length=3):Calls Tryd.prog 50 #[.agg ([Value.string ⟨a.1.toArray⟩,Value.string ⟨a.2.toArray⟩]++us).toArray,.agg ([Value.string ⟨b.1.toArray⟩,Value.string ⟨b.2.toArray⟩]++vs).toArray] W fun e w'=>e=.returned (.int .i64 (Zal a b))/\∃ q os',w'=grow (W.drewN q) os':=by
 obtain ⟨a1,a2⟩:=a
 obtain ⟨b1,b2⟩:=b
 obtain ⟨u1,rfl⟩:∃ u1,us=[u1]:=by
  match us,hu with
  | [u1],_=>exact ⟨u1,rfl⟩
  | _::_::_,h=>simp at h;omega
 obtain ⟨v1,rfl⟩:∃ v1,vs=[v1]:=by
  match vs,hv with
  | [v1],_=>exact ⟨v1,rfl⟩
  | _::_::_,h=>simp at h;omega
 clear hu hv
 have hc:=ZtQ
 unfold Zal
 generalize ZbZ=cf at *
 go_enter Tryd.func50,Tryd.ntmps50
 go_wp2_with (go_at_call 51;refine (hc _ _ _).mono ?_;rintro e w' ⟨rfl,rfl⟩)
 all_goals first
  | (go_ret;exact ⟨rfl,0,_,by rw [alloc_eq_grow,alloc_eq_grow,grow_grow];rfl⟩)
  | (exfalso;have h1:=‹(_ != _)=(_:Bool)›;simp only [bne_iff_ne,bne_eq_false_iff_eq] at h1;contradiction)
theorem Zy2 {args:List AVal} {σ σ':Za} {r:AVal} (hp:Zdm 3 50 Zcj Zal args σ=some (r,σ')) :
  (∃ fn,Tryd.prog.funcs[49]?=some fn/\fn.body.isSome=true/\(fn.name == "runtime.NumGoroutine")=false) /\
  ∀ base w0 I0 I β w (vs:Array Value),KLt base w0->Rel base w0 I0 I β σ w->VRs I β args vs.toList ->
   Calls Tryd.prog 49 vs w (fun e w'=>∃ u,Ends r e u/\Zbu σ.length base w0 I0 I β r σ' u w') :=
 ZvT (κ:=List UInt8×List UInt8) (k:=3) (g:=50) (m:=2) (pre:=fun a=>[Value.string ⟨a.1.toArray⟩,Value.string ⟨a.2.toArray⟩]) ⟨_,Tryd.func49,by kernel_rfl,by kernel_rfl⟩ (by decide) (by decide) (by decide)
  (fun a=>⟨rfl,fun v hv=>by simp only [Xv,Xac,or_false] at hv;rcases hv with rfl | rfl <;> rfl⟩) ZxL ZyF
  (fun enc hk h1 blk off cap d w hcl hH hb hs=>AnyQ.slices_SortFunc_total Zny 3 Tryd.isAgg35 Tryd.sizeOf35 enc hk h1 Zal ZAF 50 #[] blk off cap d w (enters_of Tryd.func50 (by kernel_rfl) rfl) hcl hH hb hs Zys)
  (fun p cap fv w=>AnyF.slices_SortFunc_none Zny p cap fv w) hp
end
section
open Go.Shelf
def Zyo:Ren:=⟨fun | 137=>78 | 217=>92 | 266=>96 | n=>n,fun | 9=>9 | 5=>5 | 3=>3 | n=>n,fun | n=>n⟩
theorem ZBN:Go.Proofs.Lays.n137 Tryd.prog Zyo:={ mixed:=by kernel_rfl,f137:=Tryd.func78.trans (congrArg some (by kernel_rfl)),f217:=Tryd.func92.trans (congrArg some (by kernel_rfl)),f266:=Tryd.func96.trans (congrArg some (by kernel_rfl)),t3:=Tryd.underlying3,a3:=Tryd.isAgg3,z3:=Tryd.sizeOf3,v3:=Tryd.zeroValue3,t5:=Tryd.underlying5,a5:=Tryd.isAgg5,z5:=Tryd.sizeOf5,v5:=Tryd.zeroValue5,t9:=Tryd.underlying9,a9:=Tryd.isAgg9,z9:=Tryd.sizeOf9,v9:=Tryd.zeroValue9 }
def Zwi:Ren:=⟨fun | 217=>92 | 266=>96 | n=>n,fun | 9=>9 | 5=>5 | 3=>3 | n=>n,fun | n=>n⟩
theorem Zxa:Go.Proofs.Lays.n217 Tryd.prog Zwi:={ mixed:=by kernel_rfl,f217:=Tryd.func92.trans (congrArg some (by kernel_rfl)),f266:=Tryd.func96.trans (congrArg some (by kernel_rfl)),t3:=Tryd.underlying3,a3:=Tryd.isAgg3,z3:=Tryd.sizeOf3,v3:=Tryd.zeroValue3,t5:=Tryd.underlying5,a5:=Tryd.isAgg5,z5:=Tryd.sizeOf5,v5:=Tryd.zeroValue5,t9:=Tryd.underlying9,a9:=Tryd.isAgg9,z9:=Tryd.sizeOf9,v9:=Tryd.zeroValue9 }
section
open Go.Shelf
def ZIC:Ren:=⟨fun | 138=>66 | 195=>83 | 218=>85 | 143=>67 | 219=>86 | 217=>92 | 225=>81 | 224=>80 | 267=>94 | 266=>96 | 314=>97 | n=>n,fun | 9=>9 | 3=>3 | 4=>4 | 5=>5 | 0=>0 | 46=>84 | 146=>126 | 51=>103 | n=>n,fun | 1=>2 | n=>n⟩
theorem Zws:Go.Proofs.Lays.n138 Tryd.prog ZIC:={ mixed:=by kernel_rfl,f138:=Tryd.func66.trans (congrArg some (by kernel_rfl)),f143:=Tryd.func67.trans (congrArg some (by kernel_rfl)),f195:=Tryd.func83.trans (congrArg some (by kernel_rfl)),f217:=Tryd.func92.trans (congrArg some (by kernel_rfl)),f218:=Tryd.func85.trans (congrArg some (by kernel_rfl)),f219:=Tryd.func86.trans (congrArg some (by kernel_rfl)),f224:=Tryd.func80.trans (congrArg some (by kernel_rfl)),f225:=Tryd.func81.trans (congrArg some (by kernel_rfl)),f266:=Tryd.func96.trans (congrArg some (by kernel_rfl)),f267:=Tryd.func94.trans (congrArg some (by kernel_rfl)),f314:=Tryd.func97.trans (congrArg some (by kernel_rfl)),t0:=Tryd.underlying0,a0:=Tryd.isAgg0,z0:=Tryd.sizeOf0,v0:=Tryd.zeroValue0,t3:=Tryd.underlying3,a3:=Tryd.isAgg3,z3:=Tryd.sizeOf3,v3:=Tryd.zeroValue3,t4:=Tryd.underlying4,a4:=Tryd.isAgg4,z4:=Tryd.sizeOf4,v4:=Tryd.zeroValue4,t5:=Tryd.underlying5,a5:=Tryd.isAgg5,z5:=Tryd.sizeOf5,v5:=Tryd.zeroValue5,t9:=Tryd.underlying9,a9:=Tryd.isAgg9,z9:=Tryd.sizeOf9,v9:=Tryd.zeroValue9,t46:=Tryd.underlying84,a46:=Tryd.isAgg84,z46:=Tryd.sizeOf84,v46:=Tryd.zeroValue84,t51:=Tryd.underlying103,a51:=Tryd.isAgg103,z51:=Tryd.sizeOf103,v51:=Tryd.zeroValue103,t146:=Tryd.underlying126,a146:=Tryd.isAgg126,z146:=Tryd.sizeOf126,v146:=Tryd.zeroValue126,g1:=by kernel_rfl }
end
end
section
set_option maxRecDepth 100000
theorem ZIU:Tryd.prog.follows .mixedOrders=true:=by kernel_rfl
theorem ZqB {α:Type} {d v:α}:∀ {l:List (Nat×α)} {n:Nat},Zdt d l n=v->v=d\/(n,v) ∈ l
 | [],n,h=>Xk h.symm
 | (k,w)::r,n,h=>by
  simp only [Zdt] at h
  split at h
  ·rename_i e;subst e h;exact Xp (by simp)
  ·rcases ZqB h with h | h
   ·exact Xk h
   ·exact Xp (by simp [h])
theorem ZBd:Zhq Tryd.prog PR:=by
 intro f g h args σ r σ' hg
 rcases ZqB h with h | h
 ·cases h
 unfold Zpi at h
 simp only [Xv,Xb,Xa,Xac,or_false] at h
 rcases h with ⟨rfl,rfl⟩ | h
 ·exact Zrt ⟨Tryd.f78,Tryd.func78,by kernel_rfl,by kernel_rfl⟩ (fun s c w=>Any.strings_IndexByte ZBN s c w) hg
 rcases h with ⟨rfl,rfl⟩ | h
 ·exact Zrt ⟨Tryd.f92,Tryd.func92,by kernel_rfl,by kernel_rfl⟩ (fun s c w=>Any.stringslite_IndexByte Zxa s c w) hg
 rcases h with ⟨rfl,rfl⟩ | h
 ·exact ZsP ⟨Tryd.f66,Tryd.func66,by kernel_rfl,by kernel_rfl⟩ (fun s c w=>Any.strings_Count_one Zws s c w) hg
 rcases h with ⟨rfl,rfl⟩ | h
 ·exact ZEh ⟨Tryd.f64,Tryd.func64,by kernel_rfl,by kernel_rfl⟩ (fun s w hs hT=>Any.utf8_ValidString ZoO s w hs hT) hg
 rcases h with ⟨rfl,rfl⟩ | h
 ·exact ZuD (fun h=>Zy2 h) hg
 rcases h with ⟨rfl,rfl⟩ | h
 ·exact ZIy hg
 exact absurd h.2 (by simp)
theorem ZJk:Z1 Tryd.prog E:=by
 have h:E=EV CF PR BY:=ZFQ CF PR BY
 rw [h]
 exact Zsp ZIU ZBd ann BY
end
section
open Go.ChangeShapes Go.WideShapes Go.ChangeAt Go.RowKit Go.Deep
theorem Ztn:ownKnob Tryd.prog.godebug=none:=by kernel_rfl
theorem ZqD:laidOutB Tryd.prog=true:=by kernel_rfl
theorem Zu3 {W:World} (hLH:laidMetH Tryd.prog Rows.treeBothUptoRow.laid W):Gl.le (Imm.of W):=by
 have hL:laidMet Tryd.prog Rows.treeBothUptoRow.laid W:=by rw [<-MakeChecks.laidMetH_plain _ _ _ (by kernel_rfl)];exact hLH
 have e1:Rows.laid_unicode_utf8_first=Lib.firstData:=by kernel_rfl
 have e2:(Rows.laid_unicode_utf8_acceptRanges:DataW Unit)=Lib.acceptData:=by kernel_rfl
 have h1:Lib.VarReads Tryd.prog W "unicode/utf8.first" Lib.firstData:=by rw [<-e1];exact Lib.laidMet.reads hL (.tail _ (.head _))
 have h2:Lib.VarReads Tryd.prog W "unicode/utf8.acceptRanges" Lib.acceptData:=by rw [<-e2];exact Lib.laidMet.reads hL (.head _)
 exact ZwO (utf8Tabs_of_readsT (U8Types.of196 ZoO) ⟨by kernel_rfl,by kernel_rfl,by kernel_rfl,by kernel_rfl,by kernel_rfl,by kernel_rfl,by kernel_rfl⟩ h1 h2)
set_option maxRecDepth 100000 in
theorem Zwu (H:Type) (enc:TypeId×Value->H) (W:World) (base:Nat) (args:Array Value) (ds gs:List (DataW H)) (before:List MemPlace)
  (hval0:∀ (j:Nat) t v,Tryd.f4.params[j]?=some t->args[j]?=some v->Value.okWide Tryd.prog W .any base t v)
  (hW:DataW.Whole enc Tryd.prog Tryd.f4.params.toList Rows.treeBothSpec.vars false W args.toList ds gs before) (hL:laidMetH Tryd.prog Rows.treeBothUptoRow.laid W) (hbulk:Rows.uptoSmall H (ds++gs)=true) :
  Calls Tryd.prog 4 args W fun e W'=>∃ v,e=.returned v/\Rows.treeBothSpec.post enc Tryd.prog Tryd.f4 false true false false W args v W':=by
 have hW':=hW
 obtain ⟨p,q,hA0,hV,rfl,hfz,hnd⟩:=hW
 have hval:∀ (j:Nat) t v,Tryd.f4.params[j]?=some t->args[j]?=some v->Value.okWide Tryd.prog W .any base t v:=hval0
 have hA:DataW.TrodAll enc Tryd.prog W 0 (fun _=>true) true Tryd.f4.params.toList args.toList ds p:=hA0
 rw [Tryd.params4] at hA hval
 obtain ⟨v0,vs0,d0,ds0,p0,q0,hargs,rfl,rfl,h0,r0⟩:=trodAll_cons hA
 obtain ⟨v1,vs1,d1,ds1,p1,q1,rfl,rfl,rfl,h1,r1⟩:=trodAll_cons r0
 obtain ⟨rfl,rfl,rfl⟩:=trodAll_nil r1
 obtain rfl:args=#[v0,v1]:=by cases args;simp_all
 obtain ⟨rfl,rfl⟩:=trodVars_none hV
 simp only [XE] at hbulk
 have k0:=h0
 have lt0:∀ x ∈ p0,x.block < W.heap.size:=by obtain ⟨m,hm⟩:=k0;exact DataW.trod_lt m _ _ _ hm
 obtain ⟨x0,y0,z0,_⟩:=Zr7 (R:=1048576) (n:=12) (T:=.slice false .str) (by kernel_rfl) (Zot hbulk (by simp)) (hval 0 37 v0 rfl rfl) h0
 rw [Tryd.underlying37] at y0
 obtain ⟨a0,b0,rfl⟩:=Zqv y0
 have k1:=h1
 have lt1:∀ x ∈ p1,x.block < W.heap.size:=by obtain ⟨m,hm⟩:=k1;exact DataW.trod_lt m _ _ _ hm
 obtain ⟨x1,y1,z1,_⟩:=Zr7 (R:=1048576) (n:=12) (T:=.slice false .str) (by kernel_rfl) (Zot hbulk (by simp)) (hval 1 37 v1 rfl rfl) h1
 rw [Tryd.underlying37] at y1
 obtain ⟨a1,b1,rfl⟩:=Zqv y1
 clear hA0 hval0
 refine (Zyz ZJk (Zu3 hL) (args:=[.lst false (a0.map AVal.str),.lst false (a1.map AVal.str)]) (by simp only [VRs];exact ⟨_,_,rfl,z0,_,_,rfl,z1,rfl⟩) (Ztg a0 a1 b0)).mono fun e W' ⟨he,bel⟩=>?_
 subst he
 exact ⟨_,rfl,_,_,_,[],_,[],hW',trodAll_mk1 (shut_bool Tryd.underlying4 _),(trodAll_cons_mk (Below.trod ZqD (by kernel_rfl) (of_decide_eq_true (by kernel_rfl)) k0 bel lt0) (trodAll_cons_mk (Below.trod ZqD (by kernel_rfl) (of_decide_eq_true (by kernel_rfl)) k1 bel lt1) trodAll_mk0)),rfl,bel.frame _,fun h=>by cases h⟩
noncomputable def Zla (os:Os):World :=
 let w0:=World.holding Tryd.prog os ⟨#[],#[],[]⟩
 let put (h:Array Obj) (g:Nat) (us:Array Value):Array Obj:=h.modify g fun
  | .cells _ t frozen=>.cells us t frozen
  | o=>o
 let h1:=put w0.heap 0 (Lib.firstTab.map fun z=>Value.int .u8 z).toArray
 let h2:=put h1 1 ((Wm 16).flatMap fun i=>[Value.int .u8 (Lib.accLo i),Value.int .u8 (Lib.accHi i)]).toArray
 { w0 with heap:=h2 }
theorem ZAr (os:Os):laidMet Tryd.prog Rows.treeBothUptoRow.laid ((Zla os).forCall (fun _ _=>0) ⟨#[],#[.slice none 0 0,.slice none 0 0],[]⟩).memory :=
 laidMet_of_run' 8 (by kernel_rfl) (by kernel_rfl)
theorem ZHc (os:Os) {H:Type} (enc:TypeId×Value->H):∃ ds places,DataW.whole enc Tryd.prog ((Zla os).forCall (fun _ _=>0) ⟨#[],#[.slice none 0 0,.slice none 0 0],[]⟩).memory Tryd.f4.params.toList Rows.treeBothSpec.vars false #[.slice none 0 0,.slice none 0 0].toList 8=some (ds,[],places)/\Rows.uptoSmall H ds=true :=
 ⟨[.nil,.nil],[],by kernel_rfl,by kernel_rfl⟩
set_option maxRecDepth 100000 in
theorem ZJg (os:Os) (started:os.Started) (H:Type) (enc:TypeId×Value->H) (F:Stop.Interp) :
  ReturnsInHanded {} Tryd.checked os 4 .any ((Rows.OpenSpec.upto Rows.treeBothSpec).preRow enc Tryd.prog Tryd.f4 Rows.treeBothUptoRow.domain false Rows.treeBothUptoRow.laid) (((Rows.OpenSpec.upto Rows.treeBothSpec).at F).post enc Tryd.prog Tryd.f4 false true false false):=by
 obtain ⟨ds,places,hx,hb⟩:=ZHc os enc
 refine returnsInHanded_of_row (C:=Tryd.checked) (s:=(Rows.OpenSpec.upto Rows.treeBothSpec)) Ztn started (by kernel_rfl) Tryd.func4
  (witness_row_at (enc:=enc) (C:=Tryd.checked) false (Zla os) #[.slice none 0 0,.slice none 0 0] rfl (by kernel_rfl) (by kernel_rfl) (by kernel_rfl)
   (OpenSpec.preRow_of_cond 8 hx (by kernel_rfl) (fun k hk=>by cases hk;rw [XE];exact hb) (by kernel_rfl) (ZAr os))) ?_
 intro W base args ds gs before hval hW _ hcond _ hL _ _
 exact Zwu H enc W base args ds gs before hval hW hL (hcond _ rfl)
theorem ZDG:Rows.TreeBothUptoSaid :=
 OpenClaim.holds_of_cond 4 Tryd.f4 rfl rfl rfl rfl rfl rfl rfl ⟨rfl,rfl,rfl,rfl,rfl⟩ rfl rfl rfl rfl rfl (by kernel_rfl) Tryd.func4 (by kernel_rfl)
  (of_decide_eq_true (by kernel_rfl)) (by unfold Func.isWrapper;first | (rw [if_pos (by decide +kernel)];kernel_rfl) | (rw [if_neg (by decide +kernel)];exact ⟨rfl,rfl⟩))
  (fun os started H enc _ F=>by rw [OpenClaim.pre_eq_preRow];exact ZJg os started H enc F)
theorem ZAM (f:FuncId) (fn:Func) (hf:Tryd.pinned.checked.prog.funcNamed "tidings/tidingslaw15.TreeBoth"=some f) (hfn:Tryd.pinned.checked.prog.funcs[f]?=some fn) :
  false=Tryd.pinned.checked.prog.looks []/\∀ (j:Nat) t,fn.params[j]?=some t->Tryd.pinned.checked.prog.wantsStandIn t=false:=by
 obtain rfl:f=4:=XbE ((show Tryd.prog.funcNamed "tidings/tidingslaw15.TreeBoth"=some 4 by kernel_rfl).symm.trans hf) |>.symm
 obtain rfl:fn=Tryd.f4:=(XbE (Tryd.func4.symm.trans hfn)).symm
 refine ⟨by kernel_rfl,fun j t ht=>?_⟩
 rw [Tryd.params4] at ht
 have hm:t=37:=by
  have:=Array.mem_of_getElem? ht
  simp at this
  first | exact this | exact this.symm | omega | (rcases this with h | h | h <;> simp [h]) | (rcases this with h | h | h | h <;> simp [h]) | (rcases this with h | h | h | h | h <;> simp [h]) | (rcases this with h | h | h | h | h | h <;> simp [h]) | (rcases this with h | h | h | h | h | h | h <;> simp [h])
 subst hm
 exact (show Tryd.prog.wantsStandIn 37=false by kernel_rfl)
theorem treeBoth_card:Rows.TreeBothUptoCardSaid :=
 Claim7.holds_tied_plain_at .later [] _ _ _ _ ZDG (fun _ h=>by cases h) (by kernel_rfl) (fun _ h=>by cases h) treeBothUpto_row_tie rfl ⟨rfl,rfl⟩ (by kernel_rfl) rfl ZAM (by kernel_rfl)
#print axioms treeBoth_card
end
end Go.Proofs.YtbjflkbenobjjaaDoor
