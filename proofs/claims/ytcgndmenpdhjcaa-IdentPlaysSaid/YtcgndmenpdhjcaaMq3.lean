/- packed -/
import Derived.Test.YtcgndmenpdhjcaaProg
import Derived.Test.YtcgndmenpdhjcaaMq2
import Derived.Test.YtcgndmenpdhjcaaMq0
import Derived.RegionTactic
import Derived.Deep.RegionLaw
import Derived.Deep.DrawnRows
import Derived.Deep.QuietTactic
import Derived.BigQuiet
import Derived.Shelf.Sort.Plain
import Derived.Shelf.Slices.In.SortNone
set_option linter.defProp false
set_option linter.unusedSectionVars false
set_option linter.unusedSimpArgs false
set_option linter.unusedVariables false
open Option.some renaming injEq→Xa
open Prod.mk renaming injEq→Xb
open List renaming getElem?_eq_some_iff→Xc,getElem?_eq_getElem→Xe,getD_eq_getElem?_getD→Xi,range_succ→Xj,getElem?_set→Xq,mem_append→Xt,mem_of_getElem?→Xv,map_cons→Xy,length_map→Xz,eq_nil_of_length_eq_zero→XA,all_eq_true→XB,mem_cons→XC,replicate→XD,getElem?_cons_zero→XG,flatMap_cons→XI,mem_map→XJ,append_nil→XL,map_nil→XO,getD_cons_zero→XP,getElem?_cons_succ→XR,nil_append→XW,cons_append→XX,getD_cons_succ→XY,getElem?_append→XZ,getElem?_map→X4,take_of_length_le→X6,append_assoc→X7,all_cons→Wc,getElem?_set_ne→Wd,length_nil→Wf,singleton_append→Wh,range→Wi,map_append→Wk,getElem?_append_left→Wm,mem_filterMap→Wo,mem_iff_getElem?→Wp,length_cons→Ws,take_left→Wy,drop_eq_getElem_cons→Wz,getElem_mem→WB,map_map→WC,nodup_append→WD,filterMap_append→WF,contains_cons→WK,flatMap_nil→WQ,mem_cons_of_mem→WU,getElem?_singleton→WV,all_nil→WW,nodup_cons→WZ,isEmpty_nil→W1,zip_cons_cons→W8,getElem_append_right→Xab,drop_eq_nil_iff→Xac,getElem_map→Xak,getElem_cons_zero→Xal,mem_append_right→Xao,idxOf_cons→Xap,count_append→Xaq,drop_zero→Xar,filterMap_cons→Xax,count_cons→XaD,not_mem_nil→XaP,mem_append_left→XaQ,set_cons_zero→XaY,set_cons_succ→XaZ,Sublist→Xa1,count_eq_zero→Xa2,zip_nil_left→Xba,map_take→Xbb,map_set→Xbh
open Bool renaming decide_eq_true→Xd,not_eq_true→Xh,false_eq_true→Xw,and_self→Ww,false_and→Xas,true_or→Xay,false_or→XaT
open Nat renaming reduceLeDiff→Xf,reduceEqDiff→Xg,reduceAdd→Xk,reduceSub→Xl,reduceBEq→Xm,reduceMul→Xn,reduceLT→Xp,zero_add→XF,le_refl→XM,le_of_ble_eq_true→XT,add_zero→XU,add_assoc→Wu,le_trans→W2,lt_irrefl→W4,sub_self→W6,lt_or_ge→Xaf,lt_or_gt_of_ne→Xam,mul_one→XaH,le_of_lt→XaK,zero_le→XaV
open Option renaming map_eq_some_iff→Xo,map_some→XN,bind_some→Wr,map→Xad,mem_toList→Xa9
open Or renaming inl→Xs,inr→Xu
open Array renaming getElem?_eq_some_iff→Xx,getElem?_toList→W9
open UInt8 renaming ofNat→WH,toNat_ofNat'→Xa0
open And renaming intro→Xbk
namespace Go.Proofs.Ytcgndmenpdhjcaa
set_option maxHeartbeats 16000000
set_option maxRecDepth 10000
section
open Go.RowKit
theorem ZkO:Zcg Try.prog 56 5 (.int .u8 0) 1 1:=Zhw Try.underlying56 (by kernel_rfl) rfl (by omega) (by omega)
theorem Zuf:Zcg Try.prog 32 56 (.slice none 0 0) 1 24:=Zhw Try.underlying32 (by kernel_rfl) rfl (by omega) (by omega)
def Zdp (bs:List Value):Prop:=∀ (i j:Nat) (u v:Value) (g:Nat),i < j->bs[i]?=some u->bs[j]?=some v->Za0 u=some g->Za0 v≠some g
def BodsF (w:World) (bs:List Value) (ls:List (List UInt8)) (f:Nat->List UInt8->List UInt8):Prop :=
 ∀ (i:Nat) (v:Value) (l:List UInt8),bs[i]?=some v->ls[i]?=some l->∃ A c,v=.slice A l.length c/\OwnA w A c l.length (bVs (f i l))
theorem BodsF.store {w:World} {k j g c:Nat} {bs:List Value} {ls:List (List UInt8)} {f f':Nat->List UInt8->List UInt8} {l:List UInt8} (x:UInt8) (h:BodsF w bs ls f) (hap:Zdp bs) (hc:c≠0)
  (hb:bs[k]?=some (.slice (some ⟨g,0,none⟩) l.length c)) (hl:ls[k]?=some l) (hf:∀ i m,i≠k->f' i m=f i m) (hfk:f' k l=(f k l).set j x):BodsF (w.setCell ⟨g,j,none⟩ (bV x)) bs ls f':=by
 intro i v m hv hm
 by_cases hi:i=k
 ·subst hi
  rw [hb] at hv;rw [hl] at hm
  injection hv with hv;injection hm with hm
  subst hv hm
  obtain ⟨A,c',e,ho⟩:=h i _ _ hb hl
  injection e with e1 _ e2
  subst e1 e2
  refine ⟨_,_,rfl,?_⟩
  obtain ⟨g',ty,e,ho⟩:=ho.typed hc
  injection e with e;injection e with e;subst e
  have:=(ho.stored j (bV x)).1
  rw [hfk]
  have he:(bVs (f i l)).set j (bV x)=bVs ((f i l).set j x):=by simp [bVs,Xbh]
  rw [he] at this
  exact OwnA.of_owns this
 ·obtain ⟨A,c',e,ho⟩:=h i v m hv hm
  subst e
  refine ⟨A,c',rfl,?_⟩
  rw [hf i m hi]
  refine ho.kept (S:=(·=g)) (Kept.of_grown (S:=(·=g)) (Zjs w g j (bV x)) (fun k e _=>by injection e with e;exact e.symm)) (fun g' hg' e=>?_)
  subst e
  have hk:Za0 (.slice (some ⟨g',0,none⟩) l.length c)=some g':=Zc1 hc
  rcases Xam hi with h1 | h1
  ·exact hap i k _ _ g' h1 hv hb hg' hk
  ·exact hap k i _ _ g' h1 hb hv hk hg'
def Zbi (k:Nat) (l:List UInt8):List UInt8:=XD l.length (WH k)
def Zbs (k j:Nat) (i:Nat) (l:List UInt8):List UInt8:=if i < k then Zbi i l else if i=k then XD j (WH k)++l.drop j else l
theorem Zqq:Zbs 0 0=fun _ l=>l:=by funext i l;simp [Zbs]
theorem Zt5 (k:Nat) (ls:List (List UInt8)) (l:List UInt8) (hl:ls[k]?=some l) {w:World} {bs:List Value} (h:BodsF w bs ls (Zbs k l.length)):BodsF w bs ls (Zbs (k+1) 0):=by
 intro i v m hv hm
 obtain ⟨A,c,e,ho⟩:=h i v m hv hm
 refine ⟨A,c,e,?_⟩
 have : Zbs k l.length i m=Zbs (k+1) 0 i m:=by
  unfold Zbs
  by_cases h1:i < k
  ·rw [if_pos h1,if_pos (by omega)]
  ·by_cases h2:i=k
   ·subst h2
    rw [hl] at hm;injection hm with hm;subst hm
    rw [if_neg h1,if_pos rfl,if_pos (by omega)]
    simp [Zbi]
   ·rw [if_neg h1,if_neg h2,if_neg (by omega)]
    split <;> simp
 rw [<-this];exact ho
theorem Zqb (k j:Nat) (l:List UInt8) (hj:j < l.length):Zbs k (j+1) k l=(Zbs k j k l).set j (WH k):=by
 simp only [Zbs,W4,if_false,if_true]
 have hd:l.drop j=l[j]::l.drop (j+1):=Wz hj
 rw [List.replicate_succ',X7,List.set_append]
 simp
 rw [hd];rfl
theorem ZjL (k:Nat):Value.int .u8 ((k:Int) % 256)=bV (WH k):=by simp [bV,Xa0]
theorem ZfL (k c:Nat):bV (WH (k+c))=Value.int .u8 (((k:Int)+(c:Int)) % 256):=by
 simp [bV,Xa0]
def BookR (w:World) (kb:Nat) (A1:Option Addr) (c1:Nat) (bs:List Value):Prop :=
 w.cell? ⟨kb,0,none⟩=some (.slice A1 bs.length c1)/\Row w A1 bs
def Zdl (kb:Nat) (A1:Option Addr) (bs:List Value) (B1:Nat):Prop :=
 kb < B1/\(∀ b off,A1=some ⟨b,off,none⟩->b < B1)/\∀ (i:Nat) (v:Value) (g:Nat),bs[i]?=some v->Za0 v=some g->g≠kb/\(∀ b off,A1=some ⟨b,off,none⟩->b≠g)/\g < B1
theorem BookR.kept {w w':World} {S:Nat->Prop} {kb c1:Nat} {A1:Option Addr} {bs:List Value} (h:BookR w kb A1 c1 bs) (hk:Kept S w w') (h1:¬S kb) (h2:∀ b off,A1=some ⟨b,off,none⟩->¬S b):BookR w' kb A1 c1 bs :=
 ⟨hk.cell h.1 h1,hk.row h.2 (Xu h2)⟩
theorem Kept.then_grown {S:Nat->Prop} {a w w':World} {row:Option Nat} (h:Kept S a w) (hg:w.grownBy w' row) (hs:∀ k,row=some k->k < a.heap.size->S k):Kept S a w' :=
 ⟨hg.os.trans h.os,hg.tape.trans h.tape,hg.output.trans h.output,W2 h.size hg.size,fun i hi hn=>(hg.block i (Nat.lt_of_lt_of_le hi h.size) (fun e=>hn (hs i e.symm hi))).trans (h.block i hi hn)⟩
def Zcv (k:Nat) (l:List UInt8):List UInt8:=Zbi k l++[WH (k+100),WH (k+101)]
def bsS (bs:List Value) (k:Nat):Prop:=∃ (i:Nat) (v:Value),bs[i]?=some v/\Za0 v=some k
def ZiU (kb:Nat) (A1:Option Addr) (c1:Nat) (bs:List Value) (ls:List (List UInt8)) (B1:Nat) (w:World) (k:Nat) (grown:Value) (wr:World):Prop :=
 ∃ (Ag:Option Addr) (ng cg:Nat) (gs:List Value),grown=.slice Ag ng cg/\ng=k/\gs.length=k/\wr.ownsRow B1 56 1 (.slice Ag ng cg) ng gs/\BookR wr kb A1 c1 bs /\
  (∀ (i:Nat) (v:Value) (l:List UInt8),bs[i]?=some v->ls[i]?=some l->∃ A c,v=.slice A l.length c/\l.length<=c/\c<=maxLen/\Row wr A (bVs (Zbi i l))) /\
  (∀ (i:Nat) (v:Value) (l:List UInt8),k<=i->bs[i]?=some v->ls[i]?=some l->∃ A c,v=.slice A l.length c/\OwnA wr A c l.length (bVs (Zbi i l))) /\
  (∀ (i:Nat) (u v:Value) (l:List UInt8),gs[i]?=some u->bs[i]?=some v->ls[i]?=some l->∃ Au cu,u=.slice Au (l.length+2) cu/\OwnA wr Au cu (l.length+2) (bVs (Zcv i l))/\(Za0 u=Za0 v\/∃ g,Za0 u=some g/\B1<=g)) /\
  (∀ (i:Nat) (u:Value) (g:Nat),gs[i]?=some u->Za0 u=some g->Value.ownBlock (.slice Ag ng cg)≠some g)/\B1<=wr.heap.size/\Kept (bsS bs) w wr
theorem Row.keptO {S:Nat->Prop} {w w':World} {A:Option Addr} {c:Nat} {xs:List Value} (h:Row w A xs) (hl:xs.length<=c) (hk:Kept S w w') (hn:∀ b,ob A c=some b->¬S b):Row w' A xs:=by
 rcases xs with _ | ⟨x,xs⟩
 ·exact Xs rfl
 ·refine hk.row h (Xu fun b off e=>hn b ?_)
  subst e
  simp only [Ws] at hl
  simp only [ob,show c≠0 by omega,if_false,XN]
theorem ZiW (k:Nat) (l:List UInt8):(bVs (Zbi k l)).length=l.length:=by simp [bVs,Zbi]
theorem ZqS {kb B1 k cg c' ng n:Nat} {A1 Ag Ak A':Option Addr} {ck:Nat} {bs gs:List Value} {wr w1 w2:World} {X1 X2:Obj} (hL:Zdl kb A1 bs B1) (hbk:bs[k]?=some (.slice Ak n ck))
  (hgr:wr.ownsRow B1 56 1 (.slice Ag ng cg) ng gs) (hg1:(wr.alloc X1).grownBy w1 (ob Ak ck)) (hat1:ob A' c'=ob Ak ck\/ob A' c'=some (wr.alloc X1).heap.size)
  (hg2:(w1.alloc X2).grownBy w2 (ob A' c')):w2.ownsRow B1 56 1 (.slice Ag ng cg) ng gs:=by
 have k1:Kept (fun j=>ob Ak ck=some j) wr w1:=((Kept.refl _ wr).alloc X1).then_grown hg1 (fun _ e _=>e)
 have k2:Kept (fun j=>ob Ak ck=some j) wr w2:=(k1.alloc X2).then_grown hg2 (by
  intro j e hj
  rcases hat1 with h | h
  ·rw [h] at e;exact e
  ·rw [h] at e;injection e with e;simp at e;omega)
 refine k2.own hgr (fun g hg e=>?_)
 have h1:=(hgr.lt g hg).1
 have h2:=(hL.2.2 k _ g hbk e).2.2
 omega
theorem Zoa {kb c1 B1 k cg c' c'' cg' ng:Nat} {A1 Ag Ak A' A'' Ag':Option Addr} {ck:Nat} {bs gs:List Value} {ls:List (List UInt8)} {l:List UInt8} {w wr w1 w2 w3:World} {X1 X2 X3:Obj}
  (hap:Zdp bs) (hL:Zdl kb A1 bs B1) (hwB:w.heap.size<=B1) (hbk:bs[k]?=some (.slice Ak l.length ck)) (hlk:ls[k]?=some l) (hng:ng=k) (hgl:gs.length=k)
  (hgr:wr.ownsRow B1 56 1 (.slice Ag ng cg) ng gs) (hR:BookR wr kb A1 c1 bs)
  (hrd:∀ (i:Nat) (v:Value) (l:List UInt8),bs[i]?=some v->ls[i]?=some l->∃ A c,v=.slice A l.length c/\l.length<=c/\c<=maxLen/\Row wr A (bVs (Zbi i l)))
  (hown:∀ (i:Nat) (v:Value) (l:List UInt8),k<=i->bs[i]?=some v->ls[i]?=some l->∃ A c,v=.slice A l.length c/\OwnA wr A c l.length (bVs (Zbi i l)))
  (hgs:∀ (i:Nat) (u v:Value) (l:List UInt8),gs[i]?=some u->bs[i]?=some v->ls[i]?=some l->∃ Au cu,u=.slice Au (l.length+2) cu/\OwnA wr Au cu (l.length+2) (bVs (Zcv i l))/\(Za0 u=Za0 v\/∃ g,Za0 u=some g/\B1<=g))
  (hdis:∀ (i:Nat) (u:Value) (g:Nat),gs[i]?=some u->Za0 u=some g->Value.ownBlock (.slice Ag ng cg)≠some g) (hB1:B1<=wr.heap.size) (hK:Kept (bsS bs) w wr)
  (hok:OwnA wr Ak ck l.length (bVs (Zbi k l)))
  (hg1:(wr.alloc X1).grownBy w1 (ob Ak ck)) (hat1:ob A' c'=ob Ak ck\/ob A' c'=some (wr.alloc X1).heap.size)
  (hold1:Row w1 Ak (bVs (Zbi k l))) (hown1:OwnA w1 A' c' (l.length+1) (bVs (Zbi k l++[WH (k+100)])))
  (hg2:(w1.alloc X2).grownBy w2 (ob A' c')) (hat2:ob A'' c''=ob A' c'\/ob A'' c''=some (w1.alloc X2).heap.size)
  (hold2:Row w2 A' (bVs (Zbi k l++[WH (k+100)]))) (hown2:OwnA w2 A'' c'' (l.length+1+1) (bVs (Zcv k l)))
  (hg3:(w2.alloc X3).grownBy w3 (Value.ownBlock (.slice Ag ng cg))) (hown3:w3.ownsRow B1 56 1 (.slice Ag' (ng+1) cg') (ng+1) (gs++[.slice A'' (l.length+1+1) c'']))
  (hat3:Value.ownBlock (.slice Ag' (ng+1) cg')=Value.ownBlock (.slice Ag ng cg)\/Value.ownBlock (.slice Ag' (ng+1) cg')=some (w2.alloc X3).heap.size) :
  ZiU kb A1 c1 bs ls B1 w (k+1) (.slice Ag' (ng+1) cg') w3:=by
 have hs1:=hg1.size
 have hs2:=hg2.size
 have hs3:=hg3.size
 simp at hs1 hs2 hs3
 have k1:Kept (fun j=>ob Ak ck=some j) wr w1:=((Kept.refl _ wr).alloc X1).then_grown hg1 (fun _ e _=>e)
 have k2:Kept (fun j=>ob Ak ck=some j) wr w2:=(k1.alloc X2).then_grown hg2 (by
  intro j e hj
  rcases hat1 with h | h
  ·rw [h] at e;exact e
  ·rw [h] at e;injection e with e;simp at e;omega)
 have k3:Kept (fun j=>ob Ak ck=some j\/Value.ownBlock (.slice Ag ng cg)=some j) wr w3:=((k2.mono (S':=fun j=>ob Ak ck=some j\/Value.ownBlock (.slice Ag ng cg)=some j) (fun _ _ h=>Xs h)).alloc X3).then_grown hg3 (fun _ e _=>Xu e)
 have hAk:∀ j,ob Ak ck=some j->j≠kb/\(∀ b off,A1=some ⟨b,off,none⟩->b≠j)/\j < B1:=fun j hj=>hL.2.2 k _ j hbk hj
 have hAg:∀ j,Value.ownBlock (.slice Ag ng cg)=some j->B1<=j/\j < wr.heap.size:=fun j hj=>hgr.lt j hj
 have hkl:k<=bs.length:=XaK (Xc.1 hbk).1
 have hgsl:∀ (i:Nat) (u:Value),(gs++[Value.slice A'' (l.length+1+1) c''])[i]?=some u->(i < k/\gs[i]?=some u)\/(i=k/\u=.slice A'' (l.length+1+1) c''):=by
  intro i u hu
  rw [XZ] at hu
  split at hu
  ·exact Xs ⟨by omega,hu⟩
  ·rw [WV] at hu
   split at hu
   ·injection hu with hu
    exact Xu ⟨by omega,hu.symm⟩
   ·cases hu
 have hother:∀ (i:Nat) (v:Value) (j:Nat),i≠k->bs[i]?=some v->Za0 v=some j->ob Ak ck≠some j:=by
  intro i v j hi hv hj e
  rcases Xam hi with h | h
  ·exact hap i k _ _ j h hv hbk hj e
  ·exact hap k i _ _ j h hbk hv e hj
 have hnewg:∀ g,ob A'' c''=some g->Value.ownBlock (.slice Ag ng cg)≠some g:=by
  intro g hg h
  have h1:=hAg g h
  rcases hat2 with h2 | h2
  ·rcases hat1 with h3 | h3
   ·rw [h2,h3] at hg
    have:=(hAk g hg).2.2;omega
   ·rw [h2,h3] at hg;injection hg with hg;simp at hg;omega
  ·rw [h2] at hg;injection hg with hg;simp at hg;omega
 refine ⟨Ag',ng+1,cg',gs++[.slice A'' (l.length+1+1) c''],rfl,by omega,by simp [hgl],hown3,?_,?_,?_,?_,?_,by omega,?_⟩
 ·refine hR.kept k3 ?_ (fun b off e=>?_)
  ·rintro (h | h)
   ·exact (hAk kb h).1 rfl
   ·have:=(hAg kb h).1;have:=hL.1;omega
  ·rintro (h | h)
   ·exact (hAk b h).2.1 b off e rfl
   ·have:=(hAg b h).1;have:=hL.2.1 b off e;omega
 ·intro i v m hv hm
  obtain ⟨A,c,e,h1,h2,h3⟩:=hrd i v m hv hm
  by_cases hi:i=k
  ·subst hi
   rw [hbk] at hv;injection hv with hv;rw [hlk] at hm;injection hm with hm
   subst hv hm
   injection e with e1 _ e2
   subst e1 e2
   refine ⟨Ak,ck,rfl,h1,h2,?_⟩
   have r2:Row w2 Ak (bVs (Zbi i l)):=by
    rcases hat1 with h | h
    ·rcases hold1 with hz | ⟨b,off,e,hz⟩
     ·exact Xs hz
     ·subst e
      by_cases hck:ck=0
      ·have h0:=hok.1
       have h1:=hok.2.1
       exact Xs (XA (by omega))
      ·obtain ⟨g0,e0,e3,_⟩:=hok.typed hck
       injection e3 with e3
       injection e3 with e3 e4
       subst e3 e4
       have e2:=(hown1.addr (g:=b) (by rw [h];exact Zc1 hck)).1
       rw [<-e2]
       have:=hold2.take (bVs (Zbi i l)).length
       rwa [ZgY,Wy] at this
    ·refine (hold1.alloc X2).keptO (c:=ck) (by rw [ZiW];exact h1) (Kept.of_grown (S:=fun j=>ob A' c'=some j) hg2 (fun _ e _=>e)) (fun b hb hS=>?_)
     rw [h] at hS
     injection hS with hS
     simp at hS
     have:=(hAk b hb).2.2
     omega
   refine (r2.alloc X3).keptO (c:=ck) (by rw [ZiW];exact h1) (Kept.of_grown (S:=fun j=>Value.ownBlock (.slice Ag ng cg)=some j) hg3 (fun _ e _=>e)) (fun b hb hS=>?_)
   have:=(hAk b hb).2.2
   have:=(hAg b hS).1
   omega
  ·refine ⟨A,c,e,h1,h2,h3.keptO (c:=c) (by rw [ZiW];exact h1) k3 (fun b hb=>?_)⟩
   subst e
   rintro (h | h)
   ·exact hother i _ b hi hv hb h
   ·have:=(hAg b h).1;have:=(hL.2.2 i _ b hv hb).2.2;omega
 ·intro i v m hki hv hm
  obtain ⟨A,c,e,ho⟩:=hown i v m (by omega) hv hm
  refine ⟨A,c,e,ho.kept k3 (fun g hg=>?_)⟩
  subst e
  rintro (h | h)
  ·exact hother i _ g (by omega) hv hg h
  ·have:=(hAg g h).1;have:=(hL.2.2 i _ g hv hg).2.2;omega
 ·intro i u v m hu hv hm
  rcases hgsl i u hu with ⟨hi,hu'⟩ | ⟨hi,hu'⟩
  ·obtain ⟨Au,cu,e,ho,hat⟩:=hgs i u v m hu' hv hm
   refine ⟨Au,cu,e,ho.kept k3 (fun g hg=>?_),hat⟩
   rintro (h | h)
   ·subst e
    rcases hat with hat | ⟨g',hg',hge⟩
    ·exact hother i v g (by omega) hv (by rw [<-hat];exact hg) h
    ·have hg0:ob Au cu=some g':=hg'
     rw [hg] at hg0;injection hg0 with hg0
     have:=(hAk g h).2.2;omega
   ·subst e
    exact hdis i _ g hu' hg h
  ·subst hi hu'
   rw [hbk] at hv;injection hv with hv;rw [hlk] at hm;injection hm with hm
   subst hv hm
   refine ⟨A'',c'',rfl,?_,?_⟩
   ·exact (hown2.alloc X3).kept (Kept.of_grown (S:=fun j=>Value.ownBlock (.slice Ag ng cg)=some j) hg3 (fun _ e _=>e)) (fun g hg h=>hnewg g hg h)
   ·rcases hat2 with h | h
    ·rcases hat1 with h' | h'
     ·exact Xs (h.trans h')
     ·exact Xu ⟨_,h.trans h',by simp;omega⟩
    ·exact Xu ⟨_,h,by simp;omega⟩
 ·intro i u g hu hg h
  have hug:g < w2.heap.size/\Value.ownBlock (.slice Ag ng cg)≠some g:=by
   rcases hgsl i u hu with ⟨hi,hu'⟩ | ⟨hi,hu'⟩
   ·obtain ⟨v,hv⟩:∃ v,bs[i]?=some v:=⟨_,Xe (by omega)⟩
    obtain ⟨m,hm⟩:∃ m,ls[i]?=some m:=⟨_,Xe (by have:=(Xc.1 hlk).1;omega)⟩
    obtain ⟨Au,cu,e,ho,hat⟩:=hgs i u v m hu' hv hm
    subst e
    have:=(ho.addr hg).2
    exact ⟨by omega,hdis i _ g hu' hg⟩
   ·subst hu'
    exact ⟨(hown2.addr hg).2,hnewg g hg⟩
  rcases hat3 with h3 | h3
  ·rw [h3] at h;exact hug.2 h
  ·rw [h3] at h;injection h with h;simp at h;omega
 ·refine ((hK.mono (S':=fun j=>bsS bs j\/B1<=j) (fun _ _ h=>Xs h)).trans (k3.mono (fun j _ h=>?_))).mono (fun j hj h=>?_)
  ·rcases h with h | h
   ·exact Xs ⟨k,_,hbk,h⟩
   ·exact Xu (hAg j h).1
  ·rcases h with h | h
   ·exact h
   ·omega
set_option maxRecDepth 100000 in
theorem ZyK (kb : Nat) (A1 : Option Addr) (c1 : Nat) (bs : List Value) (ls : List (List UInt8)) (w : World) (hR : BookR w kb A1 c1 bs) (hL : Zdl kb A1 bs w.heap.size) (hF : BodsF w bs ls (fun _ l => l)) (hap : Zdp bs) (hlen : bs.length = ls.length) (hn : bs.length <= 400) (hsz : ∀ l ∈ ls, l.length <= 1099511627776) :
    Calls Try.prog 24 #[.pointer (some ⟨kb, 0, none⟩)] w fun e w' => e = .returned (.bool true) /\ Kept (bsS bs) w w' := by
  rw [<- Zqq] at hF
  have HL := Lib.hid hL
  clear hL
  have Hap := Lib.hid hap
  have Hlen := Lib.hid hlen
  clear hap hlen
  go_enter Try.func24, Try.ntmps24
  go_wp2
  go_loopw [3] (fun i wr => ∃ k : Nat, k <= bs.length /\ i = .int .i64 (k : Int) /\ BookR wr kb A1 c1 bs /\ BodsF wr bs ls (Zbs k 0) /\ Kept (bsS bs) w wr) (fun i _ => bs.length - (intOf i).toNat)
  case atStart => exact ⟨0, by omega, rfl, hR, hF, Kept.refl _ _⟩
  case round =>
    clear hR hF
    obtain ⟨k, hk, rfl, hR, hF, hK⟩ := hrel
    have q0 := hR.1
    by_cases hlt : k < bs.length
    . have hlt2 : k < ls.length := by rw [<- Hlen.out]; exact hlt
      obtain ⟨b, off, rfl, hc1⟩ := hR.2.at' hlt
      obtain ⟨Ak, ck, hv, hok⟩ := hF k bs[k] ls[k] (Xe hlt) (Xe hlt2)
      have hbk : bs[k]? = some (.slice Ak ls[k].length ck) := by rw [Xe hlt, hv]
      have hlk : ls[k]? = some ls[k] := Xe hlt2
      have hck := Xbk hok.2.1 hok.2.2.1
      generalize ls[k] = l at *
      have hll : l.length <= 9223372036854775807 := by have := hck.1; have := hck.2; simp only [maxLen] at *; omega
      have Hbk := Lib.hid hbk
      have Hlk := Lib.hid hlk
      clear hbk hlk hv hok hck hc1
      obtain ⟨wo, hwo⟩ : ∃ wo : World, wo = wr := ⟨_, rfl⟩
      subst hwo
      go_wp2
      clear q0
      go_loopw [4] (fun j wr => ∃ m : Nat, m <= l.length /\ j = .int .i64 (m : Int) /\ BookR wr kb (some ⟨b, off, none⟩) c1 bs /\ BodsF wr bs ls (Zbs k m) /\ Kept (bsS bs) w wr) (fun j _ => l.length - (intOf j).toNat)
      case atStart => exact ⟨0, by omega, rfl, hR, hF, hK⟩
      case round =>
        clear hR hF hK
        obtain ⟨m, hm, rfl, hR, hF, hK⟩ := hrel
        have q0 := hR.1
        have q1 : wr.cell? ⟨b, off + k, none⟩ = some (.slice Ak l.length ck) := by
          obtain ⟨b', off', e, h⟩ := hR.2.at' hlt
          injection e with e; injection e with e1 e2; subst e1 e2
          rw [h]
          have := Hbk.out
          rw [Xe hlt] at this
          exact this
        by_cases hlt3 : m < l.length
        . obtain ⟨Ak', ck', e, hok⟩ := hF k _ l Hbk.out Hlk.out
          injection e with e1 _ e2
          subst e1 e2
          have hc0 : ck ≠ 0 := by have := hok.2.1; omega
          obtain ⟨g, ty0, hAk0, hot⟩ := hok.typed hc0
          subst hAk0
          have hobg : ob (some ⟨g, 0, none⟩) ck = some g := Zc1 hc0
          have z1 := hot.cellAt m (by omega)
          have z2 := hot.frozenAt m
          have hfl : (Zbs k m k l).length = l.length := by have := hok.1; rw [Zdm] at this; omega
          rw [show (bVs (Zbs k m k l))[m]? = some (bV ((Zbs k m k l)[m]'(by omega))) by simp [bVs, show m < (Zbs k m k l).length by omega]] at z1
          unfold bV at z1
          generalize ((Zbs k m k l)[m]'(by omega)).toNat = y at z1
          have hst := Lib.hid (hF.store (f' := Zbs k (m + 1)) (WH k) Hap.out hc0 Hbk.out Hlk.out (fun i n hi => by simp [Zbs, hi]) (Zqb k m l hlt3))
          clear hok hot hfl
          go_wp2
          go_roundw
          case rel =>
            rw [ZjL]
            refine ⟨m + 1, by omega, by go_num, hR.kept (S := (· = g)) (Kept.setCell (S := (· = g)) (p := ⟨g, m, none⟩) (Kept.refl _ wr) (Xu rfl) _) (fun e => (HL.out.2.2 k _ g Hbk.out hobg).1 e.symm) (fun b' off' e => (HL.out.2.2 k _ g Hbk.out hobg).2.1 b' off' e), hst.out, hK.setCell (p := ⟨g, m, none⟩) (Xu ⟨k, _, Hbk.out, hobg⟩) _⟩
          case measure => simp [intOf]; omega
        . go_wp2
          go_roundw
          case rel =>
            obtain rfl : m = l.length := by omega
            exact ⟨k + 1, by omega, by go_num, hR, Zt5 k ls l Hlk.out hF, hK⟩
          case measure => simp [intOf]; omega
    . obtain rfl : k = bs.length := by omega
      have hfull : BodsF wr bs ls (fun i l => Zbi i l) := by
        intro i v l hv hl
        obtain ⟨A, c, e, ho⟩ := hF i v l hv hl
        have hi : i < bs.length := (Xc.1 hv).1
        simp only [Zbs, if_pos hi] at ho
        exact ⟨A, c, e, ho⟩
      have hrel0 : ZiU kb A1 c1 bs ls wr.heap.size w 0 (.slice none 0 0) wr := by
        refine ⟨none, 0, 0, [], rfl, rfl, rfl, World.ownsRow_nil _ _ _ _, hR, fun i v l hv hl => ?_, fun i v l _ hv hl => hfull i v l hv hl, by simp, by simp, XM _, hK⟩
        obtain ⟨A, c, e, ho⟩ := hfull i v l hv hl
        exact ⟨A, c, e, ho.2.1, ho.2.2.1, ho.row⟩
      have Hrel0 := Lib.hid hrel0
      have hB1 : w.heap.size <= wr.heap.size := hK.size
      have HL1 := Lib.hid (show Zdl kb A1 bs wr.heap.size from ⟨by have := HL.out.1; omega, fun b off e => by have := HL.out.2.1 b off e; omega, fun i v g hv hg => by obtain ⟨h1, h2, h3⟩ := HL.out.2.2 i v g hv hg; exact ⟨h1, h2, by omega⟩⟩)
      clear hrel0 hfull hF hR hK
      obtain ⟨W, hW⟩ : ∃ W : World, W = wr := ⟨_, rfl⟩
      subst hW
      go_wp2
      clear q0
      go_loopw [5, 6] (fun gr i wr => ∃ k : Nat, k <= bs.length /\ i = .int .i64 (k : Int) /\ ZiU kb A1 c1 bs ls W.heap.size w k gr wr) (fun _ i _ => bs.length - (intOf i).toNat)
      case atStart => exact ⟨0, by omega, rfl, Hrel0.out⟩
      case round =>
        clear Hrel0
        obtain ⟨k, hk, rfl, hrel⟩ := hrel
        obtain ⟨Ag, ng, cg, gs, rfl, hng, hgl, hgr, hR, hrd, hown, hgs, hdis, hBr, hK⟩ := hrel
        have q0 := hR.1
        by_cases hlt : k < bs.length
        . have hlt2 : k < ls.length := by rw [<- Hlen.out]; exact hlt
          obtain ⟨b, off, rfl, hc1⟩ := hR.2.at' hlt
          obtain ⟨Ak, ck, hv, hok⟩ := hown k bs[k] ls[k] (XM _) (Xe hlt) (Xe hlt2)
          have hbk : bs[k]? = some (.slice Ak ls[k].length ck) := by rw [Xe hlt, hv]
          have hlk : ls[k]? = some ls[k] := Xe hlt2
          rw [hv] at hc1
          generalize ls[k] = l at *
          have Hng := Lib.hid hng
          have Hgl := Lib.hid hgl
          have Hbk := Lib.hid hbk
          have Hlk := Lib.hid hlk
          have Hrd := Lib.hid hrd
          have Hown := Lib.hid hown
          have Hgs := Lib.hid hgs
          have Hdis := Lib.hid hdis
          have hngb : ng <= 400 := by omega
          have hsml : (l.length + 1 + 1) * 1 <= 140737488355328 := by have := hsz l (Xv hlk); omega
          have hs0 := hK.size
          have hroom : (ng + 1) * 24 <= 140737488355328 := by omega
          clear hng hgl hbk hlk hrd hown hgs hdis hv
          go_wp2_with (first
            | (at_builtin
               refine Zfd ZkO rfl (.tmp 58) (.tmp 62) rfl rfl (hok.alloc _) rfl (Row.newAt rfl rfl) (by simp [Value.oneCell']) (by omega) ?_
               intro A' c' w1 hown1 hg1 hat1 hold1
               have hs1 := hg1.size)
            | (at_builtin
               refine Zfd ZkO rfl (.tmp 65) (.tmp 69) rfl rfl (hown1.alloc _) rfl (Row.newAt rfl rfl) (by simp [Value.oneCell']) (by omega) ?_
               intro A'' c'' w2 hown2 hg2 hat2 hold2
               have hs2 := hg2.size)
            | (at_builtin
               refine Zlj Zuf rfl (.tmp 64) (.tmp 71) rfl rfl ((ZqS HL1.out Hbk.out hgr hg1 hat1 hg2).alloc _) rfl (by rfl) (Row.newAt rfl rfl) (by simp [Value.oneCell']) hroom (by simp at hs1 hs2 ⊢; omega) ?_
               intro Ag' cg' w3 hown3 hg3 hat3))
          go_roundw
          case rel =>
            refine ⟨k + 1, by omega, by go_num, Zoa (X1 := _) (X2 := _) (X3 := _) Hap.out HL1.out hB1 Hbk.out Hlk.out Hng.out Hgl.out hgr hR Hrd.out Hown.out Hgs.out Hdis.out hBr hK hok hg1 hat1 hold1 ?_ hg2 hat2 ?_ ?_ hg3 hown3 hat3⟩
            . rw [ZgY]; simp only [bVs, Xy, XO, ZfL]; exact hown1
            . rw [ZgY]; simp only [bVs, Xy, XO, ZfL]; exact hold2
            . rw [Zcv, ZgY]; simp only [bVs, Xy, XO, ZfL]; rw [X7] at hown2; exact hown2
          case measure => simp [intOf]; omega
        . obtain rfl : k = bs.length := by omega
          subst hng
          have hrg := Row.of_own hgr
          have Hgl := Lib.hid hgl
          have Hrd := Lib.hid hrd
          have Hgs := Lib.hid hgs
          have HK := Lib.hid hK
          clear hgl hrd hgs hown hgr hdis hK
          obtain ⟨V, hV⟩ : ∃ V : World, V = wr := ⟨_, rfl⟩
          subst hV
          go_wp2
          go_loop [8] (fun i => ∃ k : Nat, k <= bs.length /\ i = .int .i64 (k : Int)) (fun i => bs.length - (intOf i).toNat)
          case atStart => exact ⟨0, by omega, rfl⟩
          case round =>
            obtain ⟨k, hk, rfl⟩ := hrel
            by_cases hlt : k < bs.length
            . have hlt2 : k < ls.length := by rw [<- Hlen.out]; exact hlt
              have hlt3 : k < gs.length := by rw [Hgl.out]; exact hlt
              obtain ⟨b, off, rfl, hc1⟩ := hR.2.at' hlt
              obtain ⟨bg, offg, rfl, hc2⟩ := hrg.at' hlt3
              obtain ⟨Ak, ck, hv, h1, h2, hrk⟩ := Hrd.out k bs[k] ls[k] (Xe hlt) (Xe hlt2)
              obtain ⟨Au, cu, hu, hou, _⟩ := Hgs.out k gs[k] bs[k] ls[k] (Xe hlt3) (Xe hlt) (Xe hlt2)
              rw [hv] at hc1
              rw [hu] at hc2
              have hru := hou.row
              have hcu := Xbk hou.2.1 hou.2.2.1
              have hll := hsz ls[k] (WB hlt2)
              clear hv hu hou hcu h1 h2
              generalize ls[k] = l at *
              have hk8 : k <= 400 := by omega
              go_wp2
              go_loop [10] (fun j => ∃ m : Nat, m <= l.length /\ j = .int .i64 (m : Int)) (fun j => l.length - (intOf j).toNat)
              case atStart => exact ⟨0, by omega, rfl⟩
              case round =>
                obtain ⟨m, hm, rfl⟩ := hrel
                have hfl : (Zbi k l).length = l.length := by simp [Zbi]
                have hgl' : (Zcv k l).length = l.length + 2 := by simp [Zcv, Zbi]
                by_cases hlt4 : m < l.length
                . obtain ⟨b3, off3, rfl, z1⟩ := hrk.at' (i := m) (by rw [Zdm]; omega)
                  obtain ⟨b4, off4, rfl, z2⟩ := hru.at' (i := m) (by rw [Zdm]; omega)
                  have e1 : (bVs (Zbi k l))[m]'(by rw [Zdm]; omega) = .int .u8 ((k : Int) % 256) := by
                    rw [ZjL]; simp [bVs, Zbi]
                  have e2 : (bVs (Zcv k l))[m]'(by rw [Zdm]; omega) = .int .u8 ((k : Int) % 256) := by
                    rw [ZjL]; simp only [bVs, Xak, Zcv]; rw [List.getElem_append_left (by omega)]; simp [Zbi]
                  rw [e1] at z1
                  rw [e2] at z2
                  have hne : ((k : Int) % 256 != (k : Int) % 256) = false := by simp
                  have hmi : m < l.length + 2 := by omega
                  clear e1 e2 hfl hgl'
                  go_wp2
                  go_round
                  case rel => exact ⟨m + 1, by omega, by go_num⟩
                  case measure => simp [intOf]; omega
                . obtain rfl : m = l.length := by omega
                  obtain ⟨b4, off4, rfl, z2⟩ := hru.at' (i := l.length) (by rw [Zdm]; omega)
                  obtain ⟨b5, off5, e5, z3⟩ := hru.at' (i := l.length + 1) (by rw [Zdm]; omega)
                  injection e5 with e5; injection e5 with e5 e6; subst e5 e6
                  have e2 : (bVs (Zcv k l))[l.length]'(by rw [Zdm]; omega) = .int .u8 (((k : Int) + 100) % 256) := by
                    simp only [bVs, Xak, Zcv]; rw [Xab (by omega)]; simp only [hfl, W6, Xal]; exact ZfL k 100
                  have e3 : (bVs (Zcv k l))[l.length + 1]'(by rw [Zdm]; omega) = .int .u8 (((k : Int) + 101) % 256) := by
                    simp only [bVs, Xak, Zcv]; rw [Xab (by omega)]; simp only [hfl, show l.length + 1 - l.length = 1 by omega, List.getElem_cons_succ, Xal]; exact ZfL k 101
                  rw [e2] at z2
                  rw [e3] at z3
                  have hne1 : (((k : Int) + 100) % 256 != ((k : Int) + 100) % 256) = false := by simp
                  have hne2 : (((k : Int) + 101) % 256 != ((k : Int) + 101) % 256) = false := by simp
                  have hmi : l.length + 1 < l.length + 2 := by omega
                  clear e2 e3 hfl hgl'
                  go_wp2
                  go_round
                  case rel => exact ⟨k + 1, by omega, by go_num⟩
                  case measure => simp [intOf]; omega
            . go_wp2
              go_ret
              exact ⟨rfl, HK.out⟩
end
section
open Go.RowKit
theorem Zc0 (l:List Int):(ZZ l).length=l.length:=by simp [ZZ]
theorem Zf8 (l r:List Int):ZZ (l++r)=ZZ l++ZZ r:=by simp [ZZ]
theorem Zj2:Zcg Try.prog 22 3 (.int .i64 0) 1 8:=Zhw Try.underlying22 (by kernel_rfl) rfl (by omega) (by omega)
theorem ZhV:Zcg Try.prog 34 22 (.slice none 0 0) 1 24:=Zhw Try.underlying34 (by kernel_rfl) rfl (by omega) (by omega)
def BodsI (w:World) (bs:List Value) (ls:List (List Int)) (f:Nat->List Int->List Int):Prop :=
 ∀ (i:Nat) (v:Value) (l:List Int),bs[i]?=some v->ls[i]?=some l->∃ A c,v=.slice A l.length c/\OwnA w A c l.length (ZZ (f i l))
theorem BodsI.store {w:World} {k j g c:Nat} {bs:List Value} {ls:List (List Int)} {f f':Nat->List Int->List Int} {l:List Int} (x:Int) (h:BodsI w bs ls f) (hap:Zdp bs) (hc:c≠0)
  (hb:bs[k]?=some (.slice (some ⟨g,0,none⟩) l.length c)) (hl:ls[k]?=some l) (hf:∀ i m,i≠k->f' i m=f i m) (hfk:f' k l=(f k l).set j x):BodsI (w.setCell ⟨g,j,none⟩ (Value.int .i64 x)) bs ls f':=by
 intro i v m hv hm
 by_cases hi:i=k
 ·subst hi
  rw [hb] at hv;rw [hl] at hm
  injection hv with hv;injection hm with hm
  subst hv hm
  obtain ⟨A,c',e,ho⟩:=h i _ _ hb hl
  injection e with e1 _ e2
  subst e1 e2
  refine ⟨_,_,rfl,?_⟩
  obtain ⟨g',ty,e,ho⟩:=ho.typed hc
  injection e with e;injection e with e;subst e
  have:=(ho.stored j (Value.int .i64 x)).1
  rw [hfk]
  have he:(ZZ (f i l)).set j (Value.int .i64 x)=ZZ ((f i l).set j x):=by simp [ZZ,Xbh]
  rw [he] at this
  exact OwnA.of_owns this
 ·obtain ⟨A,c',e,ho⟩:=h i v m hv hm
  subst e
  refine ⟨A,c',rfl,?_⟩
  rw [hf i m hi]
  refine ho.kept (S:=(·=g)) (Kept.of_grown (S:=(·=g)) (Zjs w g j (Value.int .i64 x)) (fun k e _=>by injection e with e;exact e.symm)) (fun g' hg' e=>?_)
  subst e
  have hk:Za0 (.slice (some ⟨g',0,none⟩) l.length c)=some g':=Zc1 hc
  rcases Xam hi with h1 | h1
  ·exact hap i k _ _ g' h1 hv hb hg' hk
  ·exact hap k i _ _ g' h1 hb hv hk hg'
def Zbd (k:Nat) (l:List Int):List Int:=XD l.length (k:Int)
def Zbq (k j:Nat) (i:Nat) (l:List Int):List Int:=if i < k then Zbd i l else if i=k then XD j (k:Int)++l.drop j else l
theorem Zr6:Zbq 0 0=fun _ l=>l:=by funext i l;simp [Zbq]
theorem Zsn (k:Nat) (ls:List (List Int)) (l:List Int) (hl:ls[k]?=some l) {w:World} {bs:List Value} (h:BodsI w bs ls (Zbq k l.length)):BodsI w bs ls (Zbq (k+1) 0):=by
 intro i v m hv hm
 obtain ⟨A,c,e,ho⟩:=h i v m hv hm
 refine ⟨A,c,e,?_⟩
 have : Zbq k l.length i m=Zbq (k+1) 0 i m:=by
  unfold Zbq
  by_cases h1:i < k
  ·rw [if_pos h1,if_pos (by omega)]
  ·by_cases h2:i=k
   ·subst h2
    rw [hl] at hm;injection hm with hm;subst hm
    rw [if_neg h1,if_pos rfl,if_pos (by omega)]
    simp [Zbd]
   ·rw [if_neg h1,if_neg h2,if_neg (by omega)]
    split <;> simp
 rw [<-this];exact ho
theorem Ztl (k j:Nat) (l:List Int) (hj:j < l.length):Zbq k (j+1) k l=(Zbq k j k l).set j (k:Int):=by
 simp only [Zbq,W4,if_false,if_true]
 have hd:l.drop j=l[j]::l.drop (j+1):=Wz hj
 rw [List.replicate_succ',X7,List.set_append]
 simp
 rw [hd];rfl
def BookRI (w:World) (kb:Nat) (A1:Option Addr) (c1:Nat) (bs:List Value):Prop :=
 w.cell? ⟨kb,4,none⟩=some (.slice A1 bs.length c1)/\Row w A1 bs
theorem BookRI.kept {w w':World} {S:Nat->Prop} {kb c1:Nat} {A1:Option Addr} {bs:List Value} (h:BookRI w kb A1 c1 bs) (hk:Kept S w w') (h1:¬S kb) (h2:∀ b off,A1=some ⟨b,off,none⟩->¬S b):BookRI w' kb A1 c1 bs :=
 ⟨hk.cell h.1 h1,hk.row h.2 (Xu h2)⟩
def Zcl (k:Nat) (l:List Int):List Int:=Zbd k l++[((k:Int)+1000),((k:Int)+1001)]
def Zjz (kb:Nat) (A1:Option Addr) (c1:Nat) (bs:List Value) (ls:List (List Int)) (B1:Nat) (w:World) (k:Nat) (grown:Value) (wr:World):Prop :=
 ∃ (Ag:Option Addr) (ng cg:Nat) (gs:List Value),grown=.slice Ag ng cg/\ng=k/\gs.length=k/\wr.ownsRow B1 22 1 (.slice Ag ng cg) ng gs/\BookRI wr kb A1 c1 bs /\
  (∀ (i:Nat) (v:Value) (l:List Int),bs[i]?=some v->ls[i]?=some l->∃ A c,v=.slice A l.length c/\l.length<=c/\c<=maxLen/\Row wr A (ZZ (Zbd i l))) /\
  (∀ (i:Nat) (v:Value) (l:List Int),k<=i->bs[i]?=some v->ls[i]?=some l->∃ A c,v=.slice A l.length c/\OwnA wr A c l.length (ZZ (Zbd i l))) /\
  (∀ (i:Nat) (u v:Value) (l:List Int),gs[i]?=some u->bs[i]?=some v->ls[i]?=some l->∃ Au cu,u=.slice Au (l.length+2) cu/\OwnA wr Au cu (l.length+2) (ZZ (Zcl i l))/\(Za0 u=Za0 v\/∃ g,Za0 u=some g/\B1<=g)) /\
  (∀ (i:Nat) (u:Value) (g:Nat),gs[i]?=some u->Za0 u=some g->Value.ownBlock (.slice Ag ng cg)≠some g)/\B1<=wr.heap.size/\Kept (bsS bs) w wr
theorem Zi2 (k:Nat) (l:List Int):(ZZ (Zbd k l)).length=l.length:=by simp [ZZ,Zbd]
theorem ZvD {kb B1 k cg c' ng n:Nat} {A1 Ag Ak A':Option Addr} {ck:Nat} {bs gs:List Value} {wr w1 w2:World} {X1 X2:Obj} (hL:Zdl kb A1 bs B1) (hbk:bs[k]?=some (.slice Ak n ck))
  (hgr:wr.ownsRow B1 22 1 (.slice Ag ng cg) ng gs) (hg1:(wr.alloc X1).grownBy w1 (ob Ak ck)) (hat1:ob A' c'=ob Ak ck\/ob A' c'=some (wr.alloc X1).heap.size)
  (hg2:(w1.alloc X2).grownBy w2 (ob A' c')):w2.ownsRow B1 22 1 (.slice Ag ng cg) ng gs:=by
 have k1:Kept (fun j=>ob Ak ck=some j) wr w1:=((Kept.refl _ wr).alloc X1).then_grown hg1 (fun _ e _=>e)
 have k2:Kept (fun j=>ob Ak ck=some j) wr w2:=(k1.alloc X2).then_grown hg2 (by
  intro j e hj
  rcases hat1 with h | h
  ·rw [h] at e;exact e
  ·rw [h] at e;injection e with e;simp at e;omega)
 refine k2.own hgr (fun g hg e=>?_)
 have h1:=(hgr.lt g hg).1
 have h2:=(hL.2.2 k _ g hbk e).2.2
 omega
theorem Zy4 {kb c1 B1 k cg c' c'' cg' ng:Nat} {A1 Ag Ak A' A'' Ag':Option Addr} {ck:Nat} {bs gs:List Value} {ls:List (List Int)} {l:List Int} {w wr w1 w2 w3:World} {X1 X2 X3:Obj}
  (hap:Zdp bs) (hL:Zdl kb A1 bs B1) (hwB:w.heap.size<=B1) (hbk:bs[k]?=some (.slice Ak l.length ck)) (hlk:ls[k]?=some l) (hng:ng=k) (hgl:gs.length=k)
  (hgr:wr.ownsRow B1 22 1 (.slice Ag ng cg) ng gs) (hR:BookRI wr kb A1 c1 bs)
  (hrd:∀ (i:Nat) (v:Value) (l:List Int),bs[i]?=some v->ls[i]?=some l->∃ A c,v=.slice A l.length c/\l.length<=c/\c<=maxLen/\Row wr A (ZZ (Zbd i l)))
  (hown:∀ (i:Nat) (v:Value) (l:List Int),k<=i->bs[i]?=some v->ls[i]?=some l->∃ A c,v=.slice A l.length c/\OwnA wr A c l.length (ZZ (Zbd i l)))
  (hgs:∀ (i:Nat) (u v:Value) (l:List Int),gs[i]?=some u->bs[i]?=some v->ls[i]?=some l->∃ Au cu,u=.slice Au (l.length+2) cu/\OwnA wr Au cu (l.length+2) (ZZ (Zcl i l))/\(Za0 u=Za0 v\/∃ g,Za0 u=some g/\B1<=g))
  (hdis:∀ (i:Nat) (u:Value) (g:Nat),gs[i]?=some u->Za0 u=some g->Value.ownBlock (.slice Ag ng cg)≠some g) (hB1:B1<=wr.heap.size) (hK:Kept (bsS bs) w wr)
  (hok:OwnA wr Ak ck l.length (ZZ (Zbd k l)))
  (hg1:(wr.alloc X1).grownBy w1 (ob Ak ck)) (hat1:ob A' c'=ob Ak ck\/ob A' c'=some (wr.alloc X1).heap.size)
  (hold1:Row w1 Ak (ZZ (Zbd k l))) (hown1:OwnA w1 A' c' (l.length+1) (ZZ (Zbd k l++[((k:Int)+1000)])))
  (hg2:(w1.alloc X2).grownBy w2 (ob A' c')) (hat2:ob A'' c''=ob A' c'\/ob A'' c''=some (w1.alloc X2).heap.size)
  (hold2:Row w2 A' (ZZ (Zbd k l++[((k:Int)+1000)]))) (hown2:OwnA w2 A'' c'' (l.length+1+1) (ZZ (Zcl k l)))
  (hg3:(w2.alloc X3).grownBy w3 (Value.ownBlock (.slice Ag ng cg))) (hown3:w3.ownsRow B1 22 1 (.slice Ag' (ng+1) cg') (ng+1) (gs++[.slice A'' (l.length+1+1) c'']))
  (hat3:Value.ownBlock (.slice Ag' (ng+1) cg')=Value.ownBlock (.slice Ag ng cg)\/Value.ownBlock (.slice Ag' (ng+1) cg')=some (w2.alloc X3).heap.size) :
  Zjz kb A1 c1 bs ls B1 w (k+1) (.slice Ag' (ng+1) cg') w3:=by
 have hs1:=hg1.size
 have hs2:=hg2.size
 have hs3:=hg3.size
 simp at hs1 hs2 hs3
 have k1:Kept (fun j=>ob Ak ck=some j) wr w1:=((Kept.refl _ wr).alloc X1).then_grown hg1 (fun _ e _=>e)
 have k2:Kept (fun j=>ob Ak ck=some j) wr w2:=(k1.alloc X2).then_grown hg2 (by
  intro j e hj
  rcases hat1 with h | h
  ·rw [h] at e;exact e
  ·rw [h] at e;injection e with e;simp at e;omega)
 have k3:Kept (fun j=>ob Ak ck=some j\/Value.ownBlock (.slice Ag ng cg)=some j) wr w3:=((k2.mono (S':=fun j=>ob Ak ck=some j\/Value.ownBlock (.slice Ag ng cg)=some j) (fun _ _ h=>Xs h)).alloc X3).then_grown hg3 (fun _ e _=>Xu e)
 have hAk:∀ j,ob Ak ck=some j->j≠kb/\(∀ b off,A1=some ⟨b,off,none⟩->b≠j)/\j < B1:=fun j hj=>hL.2.2 k _ j hbk hj
 have hAg:∀ j,Value.ownBlock (.slice Ag ng cg)=some j->B1<=j/\j < wr.heap.size:=fun j hj=>hgr.lt j hj
 have hkl:k<=bs.length:=XaK (Xc.1 hbk).1
 have hgsl:∀ (i:Nat) (u:Value),(gs++[Value.slice A'' (l.length+1+1) c''])[i]?=some u->(i < k/\gs[i]?=some u)\/(i=k/\u=.slice A'' (l.length+1+1) c''):=by
  intro i u hu
  rw [XZ] at hu
  split at hu
  ·exact Xs ⟨by omega,hu⟩
  ·rw [WV] at hu
   split at hu
   ·injection hu with hu
    exact Xu ⟨by omega,hu.symm⟩
   ·cases hu
 have hother:∀ (i:Nat) (v:Value) (j:Nat),i≠k->bs[i]?=some v->Za0 v=some j->ob Ak ck≠some j:=by
  intro i v j hi hv hj e
  rcases Xam hi with h | h
  ·exact hap i k _ _ j h hv hbk hj e
  ·exact hap k i _ _ j h hbk hv e hj
 have hnewg:∀ g,ob A'' c''=some g->Value.ownBlock (.slice Ag ng cg)≠some g:=by
  intro g hg h
  have h1:=hAg g h
  rcases hat2 with h2 | h2
  ·rcases hat1 with h3 | h3
   ·rw [h2,h3] at hg
    have:=(hAk g hg).2.2;omega
   ·rw [h2,h3] at hg;injection hg with hg;simp at hg;omega
  ·rw [h2] at hg;injection hg with hg;simp at hg;omega
 refine ⟨Ag',ng+1,cg',gs++[.slice A'' (l.length+1+1) c''],rfl,by omega,by simp [hgl],hown3,?_,?_,?_,?_,?_,by omega,?_⟩
 ·refine hR.kept k3 ?_ (fun b off e=>?_)
  ·rintro (h | h)
   ·exact (hAk kb h).1 rfl
   ·have:=(hAg kb h).1;have:=hL.1;omega
  ·rintro (h | h)
   ·exact (hAk b h).2.1 b off e rfl
   ·have:=(hAg b h).1;have:=hL.2.1 b off e;omega
 ·intro i v m hv hm
  obtain ⟨A,c,e,h1,h2,h3⟩:=hrd i v m hv hm
  by_cases hi:i=k
  ·subst hi
   rw [hbk] at hv;injection hv with hv;rw [hlk] at hm;injection hm with hm
   subst hv hm
   injection e with e1 _ e2
   subst e1 e2
   refine ⟨Ak,ck,rfl,h1,h2,?_⟩
   have r2:Row w2 Ak (ZZ (Zbd i l)):=by
    rcases hat1 with h | h
    ·rcases hold1 with hz | ⟨b,off,e,hz⟩
     ·exact Xs hz
     ·subst e
      by_cases hck:ck=0
      ·have h0:=hok.1
       have h1:=hok.2.1
       exact Xs (XA (by omega))
      ·obtain ⟨g0,e0,e3,_⟩:=hok.typed hck
       injection e3 with e3
       injection e3 with e3 e4
       subst e3 e4
       have e2:=(hown1.addr (g:=b) (by rw [h];exact Zc1 hck)).1
       rw [<-e2]
       have:=hold2.take (ZZ (Zbd i l)).length
       rwa [Zf8,Wy] at this
    ·refine (hold1.alloc X2).keptO (c:=ck) (by rw [Zi2];exact h1) (Kept.of_grown (S:=fun j=>ob A' c'=some j) hg2 (fun _ e _=>e)) (fun b hb hS=>?_)
     rw [h] at hS
     injection hS with hS
     simp at hS
     have:=(hAk b hb).2.2
     omega
   refine (r2.alloc X3).keptO (c:=ck) (by rw [Zi2];exact h1) (Kept.of_grown (S:=fun j=>Value.ownBlock (.slice Ag ng cg)=some j) hg3 (fun _ e _=>e)) (fun b hb hS=>?_)
   have:=(hAk b hb).2.2
   have:=(hAg b hS).1
   omega
  ·refine ⟨A,c,e,h1,h2,h3.keptO (c:=c) (by rw [Zi2];exact h1) k3 (fun b hb=>?_)⟩
   subst e
   rintro (h | h)
   ·exact hother i _ b hi hv hb h
   ·have:=(hAg b h).1;have:=(hL.2.2 i _ b hv hb).2.2;omega
 ·intro i v m hki hv hm
  obtain ⟨A,c,e,ho⟩:=hown i v m (by omega) hv hm
  refine ⟨A,c,e,ho.kept k3 (fun g hg=>?_)⟩
  subst e
  rintro (h | h)
  ·exact hother i _ g (by omega) hv hg h
  ·have:=(hAg g h).1;have:=(hL.2.2 i _ g hv hg).2.2;omega
 ·intro i u v m hu hv hm
  rcases hgsl i u hu with ⟨hi,hu'⟩ | ⟨hi,hu'⟩
  ·obtain ⟨Au,cu,e,ho,hat⟩:=hgs i u v m hu' hv hm
   refine ⟨Au,cu,e,ho.kept k3 (fun g hg=>?_),hat⟩
   rintro (h | h)
   ·subst e
    rcases hat with hat | ⟨g',hg',hge⟩
    ·exact hother i v g (by omega) hv (by rw [<-hat];exact hg) h
    ·have hg0:ob Au cu=some g':=hg'
     rw [hg] at hg0;injection hg0 with hg0
     have:=(hAk g h).2.2;omega
   ·subst e
    exact hdis i _ g hu' hg h
  ·subst hi hu'
   rw [hbk] at hv;injection hv with hv;rw [hlk] at hm;injection hm with hm
   subst hv hm
   refine ⟨A'',c'',rfl,?_,?_⟩
   ·exact (hown2.alloc X3).kept (Kept.of_grown (S:=fun j=>Value.ownBlock (.slice Ag ng cg)=some j) hg3 (fun _ e _=>e)) (fun g hg h=>hnewg g hg h)
   ·rcases hat2 with h | h
    ·rcases hat1 with h' | h'
     ·exact Xs (h.trans h')
     ·exact Xu ⟨_,h.trans h',by simp;omega⟩
    ·exact Xu ⟨_,h,by simp;omega⟩
 ·intro i u g hu hg h
  have hug:g < w2.heap.size/\Value.ownBlock (.slice Ag ng cg)≠some g:=by
   rcases hgsl i u hu with ⟨hi,hu'⟩ | ⟨hi,hu'⟩
   ·obtain ⟨v,hv⟩:∃ v,bs[i]?=some v:=⟨_,Xe (by omega)⟩
    obtain ⟨m,hm⟩:∃ m,ls[i]?=some m:=⟨_,Xe (by have:=(Xc.1 hlk).1;omega)⟩
    obtain ⟨Au,cu,e,ho,hat⟩:=hgs i u v m hu' hv hm
    subst e
    have:=(ho.addr hg).2
    exact ⟨by omega,hdis i _ g hu' hg⟩
   ·subst hu'
    exact ⟨(hown2.addr hg).2,hnewg g hg⟩
  rcases hat3 with h3 | h3
  ·rw [h3] at h;exact hug.2 h
  ·rw [h3] at h;injection h with h;simp at h;omega
 ·refine ((hK.mono (S':=fun j=>bsS bs j\/B1<=j) (fun _ _ h=>Xs h)).trans (k3.mono (fun j _ h=>?_))).mono (fun j hj h=>?_)
  ·rcases h with h | h
   ·exact Xs ⟨k,_,hbk,h⟩
   ·exact Xu (hAg j h).1
  ·rcases h with h | h
   ·exact h
   ·omega
set_option maxRecDepth 100000 in
theorem Zyj (kb : Nat) (A1 : Option Addr) (c1 : Nat) (bs : List Value) (ls : List (List Int)) (w : World) (hR : BookRI w kb A1 c1 bs) (hL : Zdl kb A1 bs w.heap.size) (hF : BodsI w bs ls (fun _ l => l)) (hap : Zdp bs) (hlen : bs.length = ls.length) (hn : bs.length <= 400) (hsz : ∀ l ∈ ls, l.length <= 1099511627776) :
    Calls Try.prog 26 #[.pointer (some ⟨kb, 0, none⟩)] w fun e w' => e = .returned (.bool true) /\ Kept (bsS bs) w w' := by
  rw [<- Zr6] at hF
  have HL := Lib.hid hL
  clear hL
  have Hap := Lib.hid hap
  have Hlen := Lib.hid hlen
  clear hap hlen
  go_enter Try.func26, Try.ntmps26
  go_wp2
  go_loopw [3] (fun i wr => ∃ k : Nat, k <= bs.length /\ i = .int .i64 (k : Int) /\ BookRI wr kb A1 c1 bs /\ BodsI wr bs ls (Zbq k 0) /\ Kept (bsS bs) w wr) (fun i _ => bs.length - (intOf i).toNat)
  case atStart => exact ⟨0, by omega, rfl, hR, hF, Kept.refl _ _⟩
  case round =>
    clear hR hF
    obtain ⟨k, hk, rfl, hR, hF, hK⟩ := hrel
    have q0 := hR.1
    by_cases hlt : k < bs.length
    . have hlt2 : k < ls.length := by rw [<- Hlen.out]; exact hlt
      obtain ⟨b, off, rfl, hc1⟩ := hR.2.at' hlt
      obtain ⟨Ak, ck, hv, hok⟩ := hF k bs[k] ls[k] (Xe hlt) (Xe hlt2)
      have hbk : bs[k]? = some (.slice Ak ls[k].length ck) := by rw [Xe hlt, hv]
      have hlk : ls[k]? = some ls[k] := Xe hlt2
      have hck := Xbk hok.2.1 hok.2.2.1
      generalize ls[k] = l at *
      have hll : l.length <= 9223372036854775807 := by have := hck.1; have := hck.2; simp only [maxLen] at *; omega
      have Hbk := Lib.hid hbk
      have Hlk := Lib.hid hlk
      clear hbk hlk hv hok hck hc1
      obtain ⟨wo, hwo⟩ : ∃ wo : World, wo = wr := ⟨_, rfl⟩
      subst hwo
      go_wp2
      clear q0
      go_loopw [4] (fun j wr => ∃ m : Nat, m <= l.length /\ j = .int .i64 (m : Int) /\ BookRI wr kb (some ⟨b, off, none⟩) c1 bs /\ BodsI wr bs ls (Zbq k m) /\ Kept (bsS bs) w wr) (fun j _ => l.length - (intOf j).toNat)
      case atStart => exact ⟨0, by omega, rfl, hR, hF, hK⟩
      case round =>
        clear hR hF hK
        obtain ⟨m, hm, rfl, hR, hF, hK⟩ := hrel
        have q0 := hR.1
        have q1 : wr.cell? ⟨b, off + k, none⟩ = some (.slice Ak l.length ck) := by
          obtain ⟨b', off', e, h⟩ := hR.2.at' hlt
          injection e with e; injection e with e1 e2; subst e1 e2
          rw [h]
          have := Hbk.out
          rw [Xe hlt] at this
          exact this
        by_cases hlt3 : m < l.length
        . obtain ⟨Ak', ck', e, hok⟩ := hF k _ l Hbk.out Hlk.out
          injection e with e1 _ e2
          subst e1 e2
          have hc0 : ck ≠ 0 := by have := hok.2.1; omega
          obtain ⟨g, ty0, hAk0, hot⟩ := hok.typed hc0
          subst hAk0
          have hobg : ob (some ⟨g, 0, none⟩) ck = some g := Zc1 hc0
          have z1 := hot.cellAt m (by omega)
          have z2 := hot.frozenAt m
          have hfl : (Zbq k m k l).length = l.length := by have := hok.1; rw [Zc0] at this; omega
          rw [show (ZZ (Zbq k m k l))[m]? = some (Value.int .i64 ((Zbq k m k l)[m]'(by omega))) by simp [ZZ, show m < (Zbq k m k l).length by omega]] at z1
          generalize ((Zbq k m k l)[m]'(by omega)) = y at z1
          have hst := Lib.hid (hF.store (f' := Zbq k (m + 1)) (k : Int) Hap.out hc0 Hbk.out Hlk.out (fun i n hi => by simp [Zbq, hi]) (Ztl k m l hlt3))
          clear hok hot hfl
          go_wp2
          go_roundw
          case rel =>
            refine ⟨m + 1, by omega, by go_num, hR.kept (S := (· = g)) (Kept.setCell (S := (· = g)) (p := ⟨g, m, none⟩) (Kept.refl _ wr) (Xu rfl) _) (fun e => (HL.out.2.2 k _ g Hbk.out hobg).1 e.symm) (fun b' off' e => (HL.out.2.2 k _ g Hbk.out hobg).2.1 b' off' e), hst.out, hK.setCell (p := ⟨g, m, none⟩) (Xu ⟨k, _, Hbk.out, hobg⟩) _⟩
          case measure => simp [intOf]; omega
        . go_wp2
          go_roundw
          case rel =>
            obtain rfl : m = l.length := by omega
            exact ⟨k + 1, by omega, by go_num, hR, Zsn k ls l Hlk.out hF, hK⟩
          case measure => simp [intOf]; omega
    . obtain rfl : k = bs.length := by omega
      have hfull : BodsI wr bs ls (fun i l => Zbd i l) := by
        intro i v l hv hl
        obtain ⟨A, c, e, ho⟩ := hF i v l hv hl
        have hi : i < bs.length := (Xc.1 hv).1
        simp only [Zbq, if_pos hi] at ho
        exact ⟨A, c, e, ho⟩
      have hrel0 : Zjz kb A1 c1 bs ls wr.heap.size w 0 (.slice none 0 0) wr := by
        refine ⟨none, 0, 0, [], rfl, rfl, rfl, World.ownsRow_nil _ _ _ _, hR, fun i v l hv hl => ?_, fun i v l _ hv hl => hfull i v l hv hl, by simp, by simp, XM _, hK⟩
        obtain ⟨A, c, e, ho⟩ := hfull i v l hv hl
        exact ⟨A, c, e, ho.2.1, ho.2.2.1, ho.row⟩
      have Hrel0 := Lib.hid hrel0
      have hB1 : w.heap.size <= wr.heap.size := hK.size
      have HL1 := Lib.hid (show Zdl kb A1 bs wr.heap.size from ⟨by have := HL.out.1; omega, fun b off e => by have := HL.out.2.1 b off e; omega, fun i v g hv hg => by obtain ⟨h1, h2, h3⟩ := HL.out.2.2 i v g hv hg; exact ⟨h1, h2, by omega⟩⟩)
      clear hrel0 hfull hF hR hK
      obtain ⟨W, hW⟩ : ∃ W : World, W = wr := ⟨_, rfl⟩
      subst hW
      go_wp2
      clear q0
      go_loopw [5, 6] (fun gr i wr => ∃ k : Nat, k <= bs.length /\ i = .int .i64 (k : Int) /\ Zjz kb A1 c1 bs ls W.heap.size w k gr wr) (fun _ i _ => bs.length - (intOf i).toNat)
      case atStart => exact ⟨0, by omega, rfl, Hrel0.out⟩
      case round =>
        clear Hrel0
        obtain ⟨k, hk, rfl, hrel⟩ := hrel
        obtain ⟨Ag, ng, cg, gs, rfl, hng, hgl, hgr, hR, hrd, hown, hgs, hdis, hBr, hK⟩ := hrel
        have q0 := hR.1
        by_cases hlt : k < bs.length
        . have hlt2 : k < ls.length := by rw [<- Hlen.out]; exact hlt
          obtain ⟨b, off, rfl, hc1⟩ := hR.2.at' hlt
          obtain ⟨Ak, ck, hv, hok⟩ := hown k bs[k] ls[k] (XM _) (Xe hlt) (Xe hlt2)
          have hbk : bs[k]? = some (.slice Ak ls[k].length ck) := by rw [Xe hlt, hv]
          have hlk : ls[k]? = some ls[k] := Xe hlt2
          rw [hv] at hc1
          generalize ls[k] = l at *
          have Hng := Lib.hid hng
          have Hgl := Lib.hid hgl
          have Hbk := Lib.hid hbk
          have Hlk := Lib.hid hlk
          have Hrd := Lib.hid hrd
          have Hown := Lib.hid hown
          have Hgs := Lib.hid hgs
          have Hdis := Lib.hid hdis
          have hngb : ng <= 400 := by omega
          have hsml : (l.length + 1 + 1) * 8 <= 140737488355328 := by have := hsz l (Xv hlk); omega
          have hs0 := hK.size
          have hroom : (ng + 1) * 24 <= 140737488355328 := by omega
          clear hng hgl hbk hlk hrd hown hgs hdis hv
          go_wp2_with (first
            | (at_builtin
               refine Zfd Zj2 rfl (.tmp 57) (.tmp 60) rfl rfl (hok.alloc _) rfl (Row.newAt rfl rfl) (by simp [Value.oneCell']) (by omega) ?_
               intro A' c' w1 hown1 hg1 hat1 hold1
               have hs1 := hg1.size)
            | (at_builtin
               refine Zfd Zj2 rfl (.tmp 63) (.tmp 66) rfl rfl (hown1.alloc _) rfl (Row.newAt rfl rfl) (by simp [Value.oneCell']) (by omega) ?_
               intro A'' c'' w2 hown2 hg2 hat2 hold2
               have hs2 := hg2.size)
            | (at_builtin
               refine Zlj ZhV rfl (.tmp 62) (.tmp 68) rfl rfl ((ZvD HL1.out Hbk.out hgr hg1 hat1 hg2).alloc _) rfl (by rfl) (Row.newAt rfl rfl) (by simp [Value.oneCell']) hroom (by simp at hs1 hs2 ⊢; omega) ?_
               intro Ag' cg' w3 hown3 hg3 hat3))
          go_roundw
          case rel =>
            refine ⟨k + 1, by omega, by go_num, Zy4 (X1 := _) (X2 := _) (X3 := _) Hap.out HL1.out hB1 Hbk.out Hlk.out Hng.out Hgl.out hgr hR Hrd.out Hown.out Hgs.out Hdis.out hBr hK hok hg1 hat1 hold1 ?_ hg2 hat2 ?_ ?_ hg3 hown3 hat3⟩
            . rw [Zf8]; simp only [ZZ, Xy, XO, id]; exact hown1
            . rw [Zf8]; simp only [ZZ, Xy, XO, id]; exact hold2
            . rw [Zcl, Zf8]; simp only [ZZ, Xy, XO, id]; rw [X7] at hown2; exact hown2
          case measure => simp [intOf]; omega
        . obtain rfl : k = bs.length := by omega
          subst hng
          have hrg := Row.of_own hgr
          have Hgl := Lib.hid hgl
          have Hrd := Lib.hid hrd
          have Hgs := Lib.hid hgs
          have HK := Lib.hid hK
          clear hgl hrd hgs hown hgr hdis hK
          obtain ⟨V, hV⟩ : ∃ V : World, V = wr := ⟨_, rfl⟩
          subst hV
          go_wp2
          go_loop [8] (fun i => ∃ k : Nat, k <= bs.length /\ i = .int .i64 (k : Int)) (fun i => bs.length - (intOf i).toNat)
          case atStart => exact ⟨0, by omega, rfl⟩
          case round =>
            obtain ⟨k, hk, rfl⟩ := hrel
            by_cases hlt : k < bs.length
            . have hlt2 : k < ls.length := by rw [<- Hlen.out]; exact hlt
              have hlt3 : k < gs.length := by rw [Hgl.out]; exact hlt
              obtain ⟨b, off, rfl, hc1⟩ := hR.2.at' hlt
              obtain ⟨bg, offg, rfl, hc2⟩ := hrg.at' hlt3
              obtain ⟨Ak, ck, hv, h1, h2, hrk⟩ := Hrd.out k bs[k] ls[k] (Xe hlt) (Xe hlt2)
              obtain ⟨Au, cu, hu, hou, _⟩ := Hgs.out k gs[k] bs[k] ls[k] (Xe hlt3) (Xe hlt) (Xe hlt2)
              rw [hv] at hc1
              rw [hu] at hc2
              have hru := hou.row
              have hcu := Xbk hou.2.1 hou.2.2.1
              have hll := hsz ls[k] (WB hlt2)
              clear hv hu hou hcu h1 h2
              generalize ls[k] = l at *
              have hk8 : k <= 400 := by omega
              go_wp2
              go_loop [10] (fun j => ∃ m : Nat, m <= l.length /\ j = .int .i64 (m : Int)) (fun j => l.length - (intOf j).toNat)
              case atStart => exact ⟨0, by omega, rfl⟩
              case round =>
                obtain ⟨m, hm, rfl⟩ := hrel
                have hfl : (Zbd k l).length = l.length := by simp [Zbd]
                have hgl' : (Zcl k l).length = l.length + 2 := by simp [Zcl, Zbd]
                by_cases hlt4 : m < l.length
                . obtain ⟨b3, off3, rfl, z1⟩ := hrk.at' (i := m) (by rw [Zc0]; omega)
                  obtain ⟨b4, off4, rfl, z2⟩ := hru.at' (i := m) (by rw [Zc0]; omega)
                  have e1 : (ZZ (Zbd k l))[m]'(by rw [Zc0]; omega) = .int .i64 (k : Int) := by
                    simp [ZZ, Zbd]
                  have e2 : (ZZ (Zcl k l))[m]'(by rw [Zc0]; omega) = .int .i64 (k : Int) := by
                    simp only [ZZ, Xak, Zcl]; rw [List.getElem_append_left (by omega)]; simp [Zbd]
                  rw [e1] at z1
                  rw [e2] at z2
                  have hne : ((k : Int) != (k : Int)) = false := by simp
                  have hmi : m < l.length + 2 := by omega
                  clear e1 e2 hfl hgl'
                  go_wp2
                  go_round
                  case rel => exact ⟨m + 1, by omega, by go_num⟩
                  case measure => simp [intOf]; omega
                . obtain rfl : m = l.length := by omega
                  obtain ⟨b4, off4, rfl, z2⟩ := hru.at' (i := l.length) (by rw [Zc0]; omega)
                  obtain ⟨b5, off5, e5, z3⟩ := hru.at' (i := l.length + 1) (by rw [Zc0]; omega)
                  injection e5 with e5; injection e5 with e5 e6; subst e5 e6
                  have e2 : (ZZ (Zcl k l))[l.length]'(by rw [Zc0]; omega) = .int .i64 ((k : Int) + 1000) := by
                    simp only [ZZ, Xak, Zcl]; rw [Xab (by omega)]; simp only [hfl, W6, Xal]
                  have e3 : (ZZ (Zcl k l))[l.length + 1]'(by rw [Zc0]; omega) = .int .i64 ((k : Int) + 1001) := by
                    simp only [ZZ, Xak, Zcl]; rw [Xab (by omega)]; simp only [hfl, show l.length + 1 - l.length = 1 by omega, List.getElem_cons_succ, Xal]
                  rw [e2] at z2
                  rw [e3] at z3
                  have hne1 : (((k : Int) + 1000) != ((k : Int) + 1000)) = false := by simp
                  have hne2 : (((k : Int) + 1001) != ((k : Int) + 1001)) = false := by simp
                  have hmi : l.length + 1 < l.length + 2 := by omega
                  clear e2 e3 hfl hgl'
                  go_wp2
                  go_round
                  case rel => exact ⟨k + 1, by omega, by go_num⟩
                  case measure => simp [intOf]; omega
            . go_wp2
              go_ret
              exact ⟨rfl, HK.out⟩
end
section
open Go.RowKit
attribute [local go_sem ↓] Go.wp_at_zero Go.wp_at_succ
section
variable {P:Program} {t e:TypeId} {z:Value} {size bytes:Nat}
theorem Zo7 (T:Zcg P t e z size bytes) {w:World} {ops:Array Oper} {o:Oper} {a:Act} {K:Act->World->Prop} {Q:Exit->Act->World->Prop} {E:Prop} (hgd:o.guard=none) (s x:Operand)
  (ho:o.op=.call { callee:=.builtin .append,args:=#[s,x],argTypes:=#[t,t] })
  {base:Nat} {A0:Option Addr} {n c0:Nat} {xs:List Value} (hs:a.eval s=.slice A0 n c0) (hown:w.ownsRow base e size (.slice A0 n c0) n xs)
  {A:Option Addr} {m c:Nat} {news:List Value} (hx:a.eval x=.slice A m c) (hl:news.length=m*size) (hr:Row w A news) (h1:∀ u ∈ news,u.oneCell'=true)
  (hroom:(n+m)*bytes<=140737488355328) (hbase:base<=w.heap.size)
  (h:∀ A' c' w',w'.ownsRow base e size (.slice A' (n+m) c') (n+m) (xs++news)->w.grownBy w' (Value.ownBlock (.slice A0 n c0)) ->
   (Value.ownBlock (.slice A' (n+m) c')=Value.ownBlock (.slice A0 n c0)\/Value.ownBlock (.slice A' (n+m) c')=some w.heap.size)->K (a.put o.dst (.slice A' (n+m) c')) w') :
  if Region.wanted o (yielded ops a.tmps)=true then Oper.wp P o a w K Q else E:=by
 have hw:Region.wanted o (yielded ops a.tmps)=true:=by simp [Region.wanted,hgd]
 rw [if_pos hw]
 exact Znb T s x ho hs hown hx hl hr h1 hroom hbase h
end
section
variable {P:Program} {t e:TypeId} {z:Value} {bytes:Nat}
theorem ZwU (T:Zcg P t e z 1 bytes) {w:World} {ops:Array Oper} {o:Oper} {a:Act} {K:Act->World->Prop} {Q:Exit->Act->World->Prop} {F:Prop} (hgd:o.guard=none) (s x:Operand)
  (ho:o.op=.call { callee:=.builtin .append,args:=#[s,x],argTypes:=#[t,t] })
  {A0:Option Addr} {n c0:Nat} {xs:List Value} (hs:a.eval s=.slice A0 n c0) (hown:OwnA w A0 c0 n xs)
  {A:Option Addr} {c:Nat} {y:Value} (hx:a.eval x=.slice A 1 c) (hr:Row w A [y]) (h1:y.oneCell'=true)
  (hroom:(n+1)*bytes<=140737488355328)
  (h:∀ A' c' w',OwnA w' A' c' (n+1) (xs++[y])->w.grownBy w' (ob A0 c0) ->
   (ob A' c'=ob A0 c0\/ob A' c'=some w.heap.size)->K (a.put o.dst (.slice A' (n+1) c')) w') :
  if Region.wanted o (yielded ops a.tmps)=true then Oper.wp P o a w K Q else F:=by
 have hw:Region.wanted o (yielded ops a.tmps)=true:=by simp [Region.wanted,hgd]
 rw [if_pos hw]
 obtain ⟨A',c',w',hrun,h2,h3,h4,_⟩:=Zj7 T w o.type hown (c:=c) hr h1 hroom
 unfold Oper.wp execOp
 simp only [ho,resolve,invoke,builtin,Sem.run_bind,Sem.run_pure,Result.andThen_ok,List.map_toArray,Xy,XO,hs,hx,hrun]
 exact h A' c' w' h2 h3 h4
end
theorem OwnA.grown {w w':World} {A:Option Addr} {c n:Nat} {xs:List Value} {row:Option Nat} (h:OwnA w A c n xs) (hg:w.grownBy w' row) (hn:∀ g,ob A c=some g->row≠some g):OwnA w' A c n xs :=
 h.kept (S:=fun k=>row=some k) (Kept.of_grown hg (fun _ e _=>e)) hn
theorem OwnA.far {w:World} {A:Option Addr} {c n:Nat} {xs:List Value} (h:OwnA w A c n xs) {kb i:Nat} {u:Value} (hn:∀ g,ob A c=some g->g≠kb):OwnA (w.setCell ⟨kb,i,none⟩ u) A c n xs :=
 h.grown (Zjs w kb i u) (fun g hg e=>hn g hg (by injection e with e;exact e.symm))
theorem Kept.ownA {S:Nat->Prop} {w w':World} {A:Option Addr} {c n:Nat} {xs:List Value} (hk:Kept S w w') (h:OwnA w A c n xs) (hn:∀ g,ob A c=some g->¬S g):OwnA w' A c n xs:=h.kept hk hn
def ZbD (B0 B1 B2 B3:Option Addr) (v4 v5:Value):Array Value:=#[.slice B0 0 0,.slice B1 0 0,.slice B2 0 0,.slice B3 0 0,v4,v5]
def ZyJ (kb n:Nat) (ty:TypeId) (B0 B1 B2 B3 A1 A2:Option Addr) (c1 c2:Nat) (bs hs:List Value) (v:Value) (l:List Int) (w:World) (e:Ending) (w':World):Prop :=
 e=.returned (.tuple #[])/\∃ A3 c3 A5 c5 A6 c6,Blk w' kb ty (ZbD B0 B1 B2 B3 (.slice A3 (n+1) c3) (.slice A6 (n+1) c6))/\OwnA w' A3 c3 (n+1) (bs++[v])/\OwnA w' A5 c5 l.length (ZZ l)/\OwnA w' A6 c6 (n+1) (hs++[.slice A5 l.length c5]) /\
  (ob A3 c3=ob A1 c1\/ob A3 c3=some (w.heap.size+1))/\(∀ g,ob A5 c5=some g->w.heap.size < g/\ob A3 c3≠some g)/\(ob A6 c6=ob A2 c2\/∃ g,ob A6 c6=some g/\w.heap.size < g/\ob A3 c3≠some g)/\(∀ g,ob A5 c5=some g->ob A6 c6≠some g) /\
  Kept (fun g=>g=kb\/ob A1 c1=some g\/ob A2 c2=some g) w w'
theorem Ztz:Zcg Try.prog 22 3 (.int .i64 0) 1 8:=Zj2
theorem ZpL (l:List Int):∀ u ∈ ZZ l,u.oneCell'=true:=by
 intro u hu
 simp only [ZZ,XJ] at hu
 obtain ⟨c,_,rfl⟩:=hu
 rfl
theorem Zy0 {kb n:Nat} {ty:TypeId} {B0 B1 B2 B3 A1 A2 A3 A5 A6:Option Addr} {c1 c2 c3 c5 c6:Nat} {bs hs:List Value} {v:Value} {l:List Int} {w W w2 w4:World} {o:Obj}
  (hown5:w2.ownsRow W.heap.size 3 1 (.slice A5 l.length c5) l.length (ZZ l))
  (hk1:∀ g,ob A1 c1=some g->g≠kb) (hk2:∀ g,ob A2 c2=some g->g≠kb) (h12:∀ g,ob A1 c1=some g->ob A2 c2≠some g) (hk3:∀ g,ob A3 c3=some g->g≠kb)
  (hat1:ob A3 c3=ob A1 c1\/ob A3 c3=some w.heap.size.succ) (hpb:kb < w.heap.size) (hl2:∀ g,ob A2 c2=some g->g < w.heap.size) (hsW:w.heap.size < W.heap.size)
  (hkW:Kept (fun k=>k=kb\/ob A1 c1=some k) w W) (hbW:Blk W kb ty (ZbD B0 B1 B2 B3 (.slice A3 (n+1) c3) (.slice A2 n c2))) (hoW:OwnA W A3 c3 (n+1) (bs++[v]))
  (hB5:Below W.heap.size W w2)
  (hend:Blk w4 kb ty (ZbD B0 B1 B2 B3 (.slice A3 (n+1) c3) (.slice A2 n c2))/\OwnA w4 A6 c6 (n+1) (hs++[.slice A5 l.length c5])/\(w2.alloc o).grownBy w4 (ob A2 c2)/\(ob A6 c6=ob A2 c2\/ob A6 c6=some (w2.alloc o).heap.size)) :
  Blk (w4.setCell ⟨kb,5,none⟩ (.slice A6 (n+1) c6)) kb ty (ZbD B0 B1 B2 B3 (.slice A3 (n+1) c3) (.slice A6 (n+1) c6))/\OwnA (w4.setCell ⟨kb,5,none⟩ (.slice A6 (n+1) c6)) A3 c3 (n+1) (bs++[v]) /\
  OwnA (w4.setCell ⟨kb,5,none⟩ (.slice A6 (n+1) c6)) A5 c5 l.length (ZZ l)/\OwnA (w4.setCell ⟨kb,5,none⟩ (.slice A6 (n+1) c6)) A6 c6 (n+1) (hs++[.slice A5 l.length c5]) /\
  (ob A3 c3=ob A1 c1\/ob A3 c3=some (w.heap.size+1))/\(∀ g,ob A5 c5=some g->w.heap.size < g/\ob A3 c3≠some g)/\(ob A6 c6=ob A2 c2\/∃ g,ob A6 c6=some g/\w.heap.size < g/\ob A3 c3≠some g)/\(∀ g,ob A5 c5=some g->ob A6 c6≠some g) /\
  Kept (fun g=>g=kb\/ob A1 c1=some g\/ob A2 c2=some g) w (w4.setCell ⟨kb,5,none⟩ (.slice A6 (n+1) c6)):=by
 obtain ⟨hb4,ho6,hg6,hat6⟩:=hend
 have hs5:=hB5.size
 have hs6:=hg6.size
 simp at hs6
 have a5:=OwnA.of_owns hown5
 have l5:∀ g,ob A5 c5=some g->W.heap.size<=g/\g < w2.heap.size:=fun g hg=>by
  obtain ⟨e,hlt⟩:=a5.addr hg
  subst e
  exact ⟨(hown5.lt g rfl).1,hlt⟩
 have l3:∀ g,ob A3 c3=some g->g < W.heap.size:=fun g hg=>(hoW.addr hg).2
 have h2W:∀ g,ob A2 c2=some g->g < w.heap.size->ob A3 c3≠some g:=fun g hg hlt e=>by
  rcases hat1 with h | h
  ·exact h12 g (by rw [<-h];exact e) hg
  ·rw [h] at e;injection e with e;omega
 have l6:∀ g,ob A6 c6=some g->ob A2 c2=some g\/g=w2.heap.size+1:=fun g hg=>by
  rcases hat6 with h | h
  ·exact Xs (by rw [<-h];exact hg)
  ·rw [h] at hg;injection hg with hg;exact Xu (by simpa using hg.symm)
 have k24:Kept (fun k=>ob A2 c2=some k) w2 w4:=(Kept.refl _ w2).alloc o |>.trans (Kept.of_grown hg6 (fun k e _=>e))
 have kW4:Kept (fun k=>ob A2 c2=some k) W w4:=(Kept.of_below hB5).trans k24
 have a3:OwnA w4 A3 c3 (n+1) (bs++[v]):=kW4.ownA hoW (fun g hg e=>h2W g e (hl2 g e) hg)
 have a5':OwnA w4 A5 c5 l.length (ZZ l):=k24.ownA a5 (fun g hg e=>by have:=(l5 g hg).1;have:=hl2 g e;omega)
 have h6k:∀ g,ob A6 c6=some g->g≠kb:=fun g hg e=>by
  rcases l6 g hg with h | h
  ·exact hk2 g h e
  ·omega
 have hb5:=hb4.set_ 5 (.slice A6 (n+1) c6)
 simp only [ZbD,List.setIfInBounds_toArray,XaY,XaZ] at hb5
 refine ⟨hb5,a3.far hk3,a5'.far (fun g hg=>by have:=(l5 g hg).1;omega),ho6.far h6k,hat1,fun g hg=>⟨by have:=(l5 g hg).1;omega,fun e=>by have:=l3 g e;have:=(l5 g hg).1;omega⟩,?_,fun g hg e=>?_,?_⟩
 ·rcases hat6 with h | h
  ·exact Xs h
  ·refine Xu ⟨_,h,by simp;omega,fun e=>?_⟩
   have:=l3 _ e
   simp at this
   omega
 ·have h5:=l5 g hg
  rcases l6 g e with h | h
  ·have:=hl2 g h;omega
  ·omega
 ·refine Kept.setCell (S:=fun g=>g=kb\/ob A1 c1=some g\/ob A2 c2=some g) (p:=⟨kb,5,none⟩) ?_ (Xu (Xs rfl)) _
  refine (hkW.mono fun k _ h=>?_).trans (kW4.mono fun k _ h=>Xu (Xu h))
  rcases h with h | h
  ·exact Xs h
  ·exact Xu (Xs h)
theorem Zr8 {W w2:World} (hg:W.drew.grownBy w2 (Value.ownBlock (.slice none 0 0))):Below W.heap.size W w2:=⟨hg.os,hg.tape,hg.output,hg.size,fun i hi=>hg.block i hi (by simp [Value.ownBlock])⟩
set_option maxRecDepth 100000 in
theorem Zvs (kb n : Nat) (ty : TypeId) (B0 B1 B2 B3 A1 A2 : Option Addr) (c1 c2 : Nat) (bs hs : List Value) (A : Option Addr) (c : Nat) (l : List Int) (w : World)
    (hb : Blk w kb ty (ZbD B0 B1 B2 B3 (.slice A1 n c1) (.slice A2 n c2))) (o1 : OwnA w A1 c1 n bs) (o2 : OwnA w A2 c2 n hs) (hn : n < 400)
    (hk1 : ∀ g, ob A1 c1 = some g -> g ≠ kb) (hk2 : ∀ g, ob A2 c2 = some g -> g ≠ kb) (h12 : ∀ g, ob A1 c1 = some g -> ob A2 c2 ≠ some g)
    (hr : OwnA w A c l.length (ZZ l)) (hA : ∀ g, ob A c = some g -> g ≠ kb /\ ob A1 c1 ≠ some g /\ ob A2 c2 ≠ some g) (hl : l.length <= 65536) :
    Calls Try.prog 18 #[.pointer (some ⟨kb, 0, none⟩), .slice A l.length c] w (ZyJ kb n ty B0 B1 B2 B3 A1 A2 c1 c2 bs hs (.slice A l.length c) l w) := by
  have q0 := hb.cell 4
  simp [ZbD] at q0
  have hroom1 : (n + 1) * 24 <= 140737488355328 := by omega
  have hroom0 : (0 + l.length) * 8 <= 140737488355328 := by omega
  have hpb := hb.lt
  have Hk1 := Lib.hid hk1
  have Hk2 := Lib.hid hk2
  have H12 := Lib.hid h12
  have HA := Lib.hid hA
  clear hk1 hk2 h12 hA
  go_enter Try.func18, Try.ntmps18
  go_wp2_with (first
    | (at_builtin
       refine Zfd ZhV rfl (.tmp 15) (.tmp 17) rfl rfl (o1.alloc _) rfl (Row.newAt rfl rfl) (by simp [Value.oneCell']) hroom1 ?_
       intro A3 c3 w1 hown1 hg1 hat1 hold1
       have hb1 := (hb.alloc _).grown hg1 (fun e => Hk1.out _ e.symm rfl)
       have k0 := hb1.cell 4
       have k1 := hb1.frozen 4
       simp [ZbD] at k0))
  have hat1' : ob A3 c3 = ob A1 c1 \/ ob A3 c3 = some w.heap.size.succ := by simpa using hat1
  have hk3 : ∀ g, ob A3 c3 = some g -> g ≠ kb := by
    intro g hg
    rcases hat1' with h | h
    . exact Hk1.out g (by rw [<- h]; exact hg)
    . rw [h] at hg; injection hg with hg; omega
  have hkW : Kept (fun k => k = kb \/ ob A1 c1 = some k) w (w1.setCell ⟨kb, 4, none⟩ (.slice A3 (n + 1) c3)) :=
    Kept.setCell (S := fun k => k = kb \/ ob A1 c1 = some k) (p := ⟨kb, 4, none⟩) ((((Kept.refl _ w).alloc _)).trans (Kept.of_grown hg1 (fun k e _ => Xu e))) (Xu (Xs rfl)) _
  have hbW := hb1.set_ 4 (.slice A3 (n + 1) c3)
  simp only [ZbD, List.setIfInBounds_toArray, XaY, XaZ] at hbW
  have hoW : OwnA (w1.setCell ⟨kb, 4, none⟩ (.slice A3 (n + 1) c3)) A3 c3 (n + 1) (bs ++ [.slice A l.length c]) := hown1.far hk3
  have hoA : OwnA (w1.setCell ⟨kb, 4, none⟩ (.slice A3 (n + 1) c3)) A c l.length (ZZ l) := hkW.ownA hr (fun g hg => by
    rintro (h | h)
    . exact (HA.out g hg).1 h
    . exact (HA.out g hg).2.1 h)
  have ho2 : OwnA (w1.setCell ⟨kb, 4, none⟩ (.slice A3 (n + 1) c3)) A2 c2 n hs := hkW.ownA o2 (fun g hg => by
    rintro (h | h)
    . exact Hk2.out g hg h
    . exact H12.out g h hg)
  have hsW : w.heap.size < (w1.setCell ⟨kb, 4, none⟩ (.slice A3 (n + 1) c3)).heap.size := by
    have h1 := hg1.size
    simp at h1 ⊢
    omega
  generalize w1.setCell ⟨kb, 4, none⟩ (.slice A3 (n + 1) c3) = W at *
  have rA := hoA.row
  have x1 := hbW.cell 5
  have x2 := hbW.frozen 5
  simp at x1
  have hl2 : ∀ g, ob A2 c2 = some g -> g < w.heap.size := fun g hg => (o2.addr hg).2
  have HkW := Lib.hid hkW
  have HbW := Lib.hid hbW
  have HoW := Lib.hid hoW
  have HoA := Lib.hid hoA
  have hkbW := hbW.lt
  clear hkW hbW hoW hoA hb1 hown1 hg1 hat1 k0 k1 q0 hold1
  go_region_law (first
    | (refine Zo7 Ztz (by rfl) (.tmp 26) (.tmp 27) (by rfl) (by rfl) (World.ownsRow_nil _ W.heap.size _ _) (by rfl) (news := ZZ l) (by simp [ZZ]) (by first | exact rA | exact rA.drew) (ZpL l) hroom0 (by simp) ?_; intro A5 c5 w2 hown5 hg5 hat5; have hB5 := Zr8 hg5; have y1 := (HbW.out.below hB5 hkbW).cell 5; have y2 := (HbW.out.below hB5 hkbW).frozen 5; (simp at y1); have o22 := (Kept.of_below (S := fun _ => False) hB5).ownA ho2 (fun _ _ => id); have HB5 := Lib.hid hB5; have Hown5 := Lib.hid hown5; have hs5 := hB5.size; have hkb2 : kb < w2.heap.size := (by omega); have hkn2 : ¬ kb = w2.heap.size := (by omega); clear hg5 hat5 hB5 hown5)
    | (refine ZwU ZhV (by rfl) (.tmp 25) (.tmp 29) (by rfl) (by rfl) (o22.alloc _) (by rfl) (Row.newAt (by rfl) (by rfl)) (by simp [Value.oneCell']) hroom1 ?_; intro A6 c6 w4 hown6 hg6 hat6; have hbk4 := ((HbW.out.below HB5.out hkbW).alloc _).grown hg6 (fun e => Hk2.out _ e.symm rfl); have z1 := hbk4.cell 5; have z2 := hbk4.frozen 5; (simp at z1); have Hend := Lib.hid (aI hbk4 (aI hown6 (aI hg6 hat6))); clear hbk4 hown6 hg6 hat6))
  all_goals
    go_wp2
    go_end0
    refine ⟨rfl, A3, c3, A5, c5, A6, c6, ?_⟩
    exact Zy0 (by simpa using Hown5.out) Hk1.out Hk2.out H12.out hk3 hat1' hpb hl2 hsW HkW.out HbW.out HoW.out HB5.out Hend.out
end
section
open Go.RowKit
attribute [local go_sem ↓] Go.wp_at_zero Go.wp_at_succ
theorem Zmy {w:World} {A:Option Addr} {l:List Int} (h:Row w A (ZZ l)) {i:Nat} (hi:i < l.length):∃ b off,A=some ⟨b,off,none⟩/\w.cell? ⟨b,off+i,none⟩=some (.int .i64 l[i]):=by
 obtain ⟨b,off,e,hc⟩:=h.at' (i:=i) (by simpa [ZZ] using hi)
 exact ⟨b,off,e,by simpa [ZZ] using hc⟩
theorem Ztu {P:Program} {f:FuncId} {args:Array Value} {w:World} {a n:Nat} {v:Value} (h:Calls P f args (w.drewN (a+n)) fun e w'=>e=.returned v/\∃ m,w'=(w.drewN (a+n)).drewN m) :
  Calls P f args (w.drewN (a+n)) fun e w''=>e=.returned v/\∃ m,w''=w.drewN (a+m):=h.mono fun _ _ ⟨he,m,hm⟩=>⟨he,n+m,by rw [hm,World.drewN_drewN,Wu]⟩
set_option maxRecDepth 100000 in
theorem ZxJ (A B:Option Addr) (ca cb:Nat) (ps:List Int) (w:World) (ha:Row w A (ZZ ps)) (hb:Row w B (ZZ ps)) (hm:ps.length<=65536) :
  Calls Try.prog 19 #[.slice A ps.length ca,.slice B ps.length cb] w fun e w'=>e=.returned (.bool true)/\∃ n,w'=w.drewN n:=by
 go_enter Try.func19,Try.ntmps19
 go_wp2
 go_loopw [5] (fun i wr=>∃ k nq:Nat,k<=ps.length/\i=.int .i64 (k:Int)/\wr=w.drewN nq) (fun i _=>ps.length - (intOf i).toNat)
 case atStart=>exact ⟨0,0,by omega,rfl,rfl⟩
 case round =>
  obtain ⟨k,nq,hk,rfl,rfl⟩:=hrel
  by_cases hlt:k < ps.length
  ·obtain ⟨b,off,rfl,p1⟩:=Zmy ha hlt
   obtain ⟨b',off',rfl,q1⟩:=Zmy hb hlt
   generalize ps[k]=p at *
   have i1:(0:Int)<=(k:Int):=by omega
   have i2:(k:Int) < (ps.length:Int):=by omega
   have e2:(p != p)=false:=by simp
   go_wp2
   go_quiet (fail)
   go_wp2
   go_roundw
   case rel=>exact ⟨k+1,_,by omega,by go_num,rfl⟩
   case measure=>simp [intOf];omega
  ·go_wp2
   go_ret
   exact ⟨rfl,nq,rfl⟩
set_option maxRecDepth 100000 in
theorem ZzT (kb:Nat) (B:Option Addr) (w:World) (h:w.cell? ⟨kb,2,none⟩=some (.slice B 0 0)) :
  Calls Try.prog 25 #[.pointer (some ⟨kb,0,none⟩)] w fun e w'=>e=.returned (.bool true)/\w=w':=by
 go_enter Try.func25,Try.ntmps25
 go_wp2
 go_loop [3] (fun i=>i=.int .i64 0) (fun _=>0)
 case atStart=>exact rfl
 case round =>
  subst hrel
  go_wp2
  go_loop [5,6] (fun g i=>g=.slice none 0 0/\i=.int .i64 0) (fun _ _=>0)
  case atStart=>exact ⟨rfl,rfl⟩
  case round =>
   obtain ⟨rfl,rfl⟩:=hrel
   go_wp2
   go_loop [8] (fun i=>i=.int .i64 0) (fun _=>0)
   case atStart=>exact rfl
   case round =>
    subst hrel
    go_wp2
    go_ret
    exact ⟨rfl,rfl⟩
set_option maxRecDepth 100000 in
theorem ZwP (kb:Nat) (B:Option Addr) (w:World) (h:w.cell? ⟨kb,0,none⟩=some (.slice B 0 0)) :
  Calls Try.prog 24 #[.pointer (some ⟨kb,0,none⟩)] w fun e w'=>e=.returned (.bool true)/\w=w':=by
 go_enter Try.func24,Try.ntmps24
 go_wp2
 go_loop [3] (fun i=>i=.int .i64 0) (fun _=>0)
 case atStart=>exact rfl
 case round =>
  subst hrel
  go_wp2
  go_loop [5,6] (fun g i=>g=.slice none 0 0/\i=.int .i64 0) (fun _ _=>0)
  case atStart=>exact ⟨rfl,rfl⟩
  case round =>
   obtain ⟨rfl,rfl⟩:=hrel
   go_wp2
   go_loop [8] (fun i=>i=.int .i64 0) (fun _=>0)
   case atStart=>exact rfl
   case round =>
    subst hrel
    go_wp2
    go_ret
    exact ⟨rfl,rfl⟩
set_option maxRecDepth 100000 in
theorem Zu6 (kb:Nat) (B:Option Addr) (w:World) (h:w.cell? ⟨kb,4,none⟩=some (.slice B 0 0)) :
  Calls Try.prog 26 #[.pointer (some ⟨kb,0,none⟩)] w fun e w'=>e=.returned (.bool true)/\w=w':=by
 go_enter Try.func26,Try.ntmps26
 go_wp2
 go_loop [3] (fun i=>i=.int .i64 0) (fun _=>0)
 case atStart=>exact rfl
 case round =>
  subst hrel
  go_wp2
  go_loop [5,6] (fun g i=>g=.slice none 0 0/\i=.int .i64 0) (fun _ _=>0)
  case atStart=>exact ⟨rfl,rfl⟩
  case round =>
   obtain ⟨rfl,rfl⟩:=hrel
   go_wp2
   go_loop [8] (fun i=>i=.int .i64 0) (fun _=>0)
   case atStart=>exact rfl
   case round =>
    subst hrel
    go_wp2
    go_ret
    exact ⟨rfl,rfl⟩
def NumB (w:World) (kb n:Nat) (ty:TypeId) (B0 B1 B2 B3 A1 A2:Option Addr) (c1 c2:Nat) (bs hs:List Value) (ls:List (List Int)):Prop :=
 Blk w kb ty (ZbD B0 B1 B2 B3 (.slice A1 n c1) (.slice A2 n c2))/\OwnA w A1 c1 n bs/\OwnA w A2 c2 n hs/\ls.length=n /\
  (∀ (i:Nat) (b:Value) (l:List Int),bs[i]?=some b->ls[i]?=some l->∃ A c,b=.slice A l.length c/\OwnA w A c l.length (ZZ l)) /\
  (∀ (i:Nat) (h:Value) (l:List Int),hs[i]?=some h->ls[i]?=some l->∃ A c,h=.slice A l.length c/\OwnA w A c l.length (ZZ l))/\∀ l ∈ ls,l.length<=65536
set_option maxRecDepth 100000 in
theorem ZvX {w:World} {kb n:Nat} {ty:TypeId} {B0 B1 B2 B3 A1 A2:Option Addr} {c1 c2:Nat} {bs hs:List Value} {ls:List (List Int)} (hB:NumB w kb n ty B0 B1 B2 B3 A1 A2 c1 c2 bs hs ls) (hn:n<=400) :
  Calls Try.prog 23 #[.pointer (some ⟨kb,0,none⟩)] w fun e w'=>e=.returned (.bool true)/\∃ n,w'=w.drewN n:=by
 obtain ⟨hb,o1,o2,hl,b1,b2,hs⟩:=hB
 have q0:=hb.cell 0
 have q2:=hb.cell 2
 have q4:=hb.cell 4
 have q5:=hb.cell 5
 simp [ZbD] at q0 q2 q4 q5
 have r1:=o1.row
 have r2:=o2.row
 have l1:=Lib.hid o1.1
 have l2:=Lib.hid o2.1
 have hl:=Lib.hid hl
 have B1':=Lib.hid b1
 have B2':=Lib.hid b2
 have Hs:=Lib.hid hs
 clear b1 b2 o1 o2 hs
 go_enter Try.func23,Try.ntmps23
 go_wp2
 go_loopw [3] (fun i wr=>i=.int .i64 0/\wr=w.drewN 0) (fun i _=>0)
 case atStart=>exact ⟨rfl,rfl⟩
 case round =>
  obtain ⟨rfl,rfl⟩:=hrel
  go_wp2
  go_loopw [4] (fun i wr=>i=.int .i64 0/\wr=w.drewN 0) (fun i _=>0)
  case atStart=>exact ⟨rfl,rfl⟩
  case round =>
   obtain ⟨rfl,rfl⟩:=hrel
   go_wp2
   go_loopw [5] (fun i wr=>∃ k nq:Nat,k<=n/\i=.int .i64 (k:Int)/\wr=w.drewN nq) (fun i _=>n - (intOf i).toNat)
   case atStart=>exact ⟨0,0,by omega,rfl,rfl⟩
   case round =>
    obtain ⟨k,nq,hk,rfl,rfl⟩:=hrel
    by_cases hlt:k < n
    ·obtain ⟨b,off,rfl,h1⟩:=r1.at' (i:=k) (by rw [l1.out];exact hlt)
     obtain ⟨b',off',rfl,h2⟩:=r2.at' (i:=k) (by rw [l2.out];exact hlt)
     obtain ⟨l,hlk⟩:∃ l,ls[k]?=some l:=⟨_,Xe (by rw [hl.out];exact hlt)⟩
     obtain ⟨A3,c3,hv3,r3⟩:=B1'.out k _ l (Xe (by rw [l1.out];exact hlt)) hlk
     obtain ⟨A4,c4,hv4,r4⟩:=B2'.out k _ l (Xe (by rw [l2.out];exact hlt)) hlk
     have hlm:=Hs.out l (Xv hlk)
     rw [hv3] at h1
     rw [hv4] at h2
     have i1:(0:Int)<=(k:Int):=by omega
     have i2:(k:Int) < (n:Int):=by omega
     have Hsame:=Lib.hid (fun m=>ZxJ A3 A4 c3 c4 l (w.drewN m) (r3.row.drewN m) (r4.row.drewN m) hlm)
     clear hv3 hv4 hlk r1 r2 r3 r4
     go_wp2
     go_quiet ((go_at_call 19;exact Ztu (Hsame.out _)))
     go_wp2
     go_roundw
     case rel=>exact ⟨k+1,_,by omega,by go_num,rfl⟩
     case measure=>simp [intOf];omega
    ·go_wp2
     go_ret
     exact ⟨rfl,nq,rfl⟩
set_option maxRecDepth 100000 in
theorem Zq7 {w:World} {kb n:Nat} {ty:TypeId} {B0 B1 B2 B3 A1 A2:Option Addr} {c1 c2:Nat} {bs hs:List Value} {ls:List (List Int)} (hB:NumB w kb n ty B0 B1 B2 B3 A1 A2 c1 c2 bs hs ls) (hn:n<=400)
  (hap:Zdp bs) (hk1:∀ g,ob A1 c1=some g->g≠kb) (hd:∀ (i:Nat) (v:Value) (g:Nat),bs[i]?=some v->Za0 v=some g->g≠kb/\ob A1 c1≠some g) :
  Calls Try.prog 21 #[.pointer (some ⟨kb,0,none⟩)] w fun e w'=>e=.returned (.bool true)/\Kept (bsS bs) w w':=by
 have hlook:=Lib.hid (ZvX hB hn)
 obtain ⟨hb,o1,o2,hl,b1,b2,hs⟩:=hB
 have hbl:bs.length=n:=o1.1
 have hcap:∀ (i:Nat) (v:Value),bs[i]?=some v->∃ A c m xs,v=.slice A m c/\OwnA w A c m xs:=fun i v hv=>by
  have hil:i < ls.length:=by rw [hl,<-hbl];exact (Xc.1 hv).1
  obtain ⟨A,c,e,ho⟩:=b1 i v ls[i] hv (Xe hil)
  exact ⟨A,c,_,_,e,ho⟩
 have hcl:∀ m,Calls Try.prog 26 #[.pointer (some ⟨kb,0,none⟩)] (w.drewN m) fun e w'=>e=.returned (.bool true)/\Kept (bsS bs) (w.drewN m) w':=fun m=>by
  have q4:(w.drewN m).cell? ⟨kb,4,none⟩=some (.slice A1 n c1):=by
   have:=(hb.drewN m).cell 4
   simpa [ZbD] using this
  by_cases hc:c1=0
  ·subst hc
   have hn0:n=0:=by have:=o1.2.1;omega
   subst hn0
   exact (Zu6 kb A1 _ q4).mono fun e w' ⟨he,hw⟩=>⟨he,by subst hw;exact Kept.refl _ _⟩
  obtain ⟨g1,e1,rfl,_⟩:=o1.typed hc
  have hob:=Zc1 (g:=g1) hc
  refine Zyj kb _ c1 bs ls (w.drewN m) ⟨?_,(o1.row).drewN m⟩ ⟨hb.lt,fun b off e=>?_,fun i v g hv hg=>?_⟩ (fun i v l hv hl=>?_) hap (by rw [hl,hbl]) (by omega) (fun l h=>W2 (hs l h) (by decide))
  ·rw [hbl];exact q4
  ·injection e with e;injection e with e _;subst e;exact (o1.addr hob).2
  ·obtain ⟨A,c,m',xs,rfl,ho⟩:=hcap i v hv
   obtain ⟨h1,h2⟩:=hd i _ g hv hg
   refine ⟨h1,fun b off e=>?_,(ho.addr hg).2⟩
   injection e with e;injection e with e _;subst e
   rintro rfl
   exact h2 hob
  ·obtain ⟨A,c,e,ho⟩:=b1 i v l hv hl
   exact ⟨A,c,e,ho.kept (Kept.refl (fun _=>False) w |>.drewN m) (fun _ _=>id)⟩
 have hcell:∀ m,(w.drewN m).cell? ⟨kb,0,none⟩=some (.slice B0 0 0)/\(w.drewN m).cell? ⟨kb,2,none⟩=some (.slice B2 0 0):=fun m=>by
  have h0:=(hb.drewN m).cell 0
  have h2:=(hb.drewN m).cell 2
  simp [ZbD] at h0 h2
  exact ⟨h0,h2⟩
 have Hcl:=Lib.hid hcl
 have Hcell:=Lib.hid hcell
 clear hcl hcell b1 b2 hd hcap hap hk1 o1 o2 hs
 go_enter Try.func21,Try.ntmps21
 go_wp2_with (first
  | (go_at_call 23;refine hlook.out.mono ?_;rintro e w1 ⟨rfl,n1,rfl⟩;obtain ⟨z0,z2⟩:=Hcell.out n1)
  | (go_at_call 24;refine (ZwP kb B0 _ z0).mono ?_;rintro e w' ⟨rfl,rfl⟩)
  | (go_at_call 25;refine (ZzT kb B2 _ z2).mono ?_;rintro e w' ⟨rfl,rfl⟩)
  | (go_at_call 26;refine (Hcl.out n1).mono ?_;rintro e w' ⟨rfl,hk⟩))
 go_ret
 exact ⟨rfl,hk.os,hk.tape,hk.output,hk.size,hk.block⟩
end
section
open Go.RowKit
section
variable {base:Nat->Prop} {w0 w w':World} {I0 I:Imm} {β:Bmap} {σ:Za}
theorem Zma:∀ {l:List UInt8} {vs:List Value},VRs I β (l.map Zbg) vs->vs=bVs l
 | [],vs,h=>by simp only [XO,VRs] at h;subst h;rfl
 | b::l,vs,h=>by
  simp only [Xy,VRs,Zbg,VR] at h
  obtain ⟨v,vs',rfl,rfl,h⟩:=h
  rw [Zma (l:=l) h];rfl
theorem ZjC:∀ xs:List AVal,(∀ x ∈ xs,x.cells=[x])->xs.flatMap AVal.cells=xs
 | [],_=>rfl
 | x::xs,h=>by rw [XI,h x (by simp),ZjC xs (fun y hy=>h y (by simp [hy]))];rfl
theorem ZxC (R:Rel base w0 I0 I β σ w) {t:Nat} {ys:List AVal} {l:List UInt8} {v:Value} (hs:σ[t]?=some (.row 0 1 ys)) (hy:Zed ys=some l) (hv:VR I β (.sl t 0 0 l.length) v) :
  ∃ A c,v=.slice A l.length c/\OwnA w A c l.length (bVs l)/\∀ g,ob A c=some g->Zh w β t (.row 0 1 ys) g:=by
 have e:=Zk9 hy
 subst e
 obtain ⟨bi,e1,e2,e3,e4,e5,e6,e7,e8⟩:=R.blk t _ hs
 rw [Zbt] at hv
 obtain ⟨bi',f1,f2,f3,f4⟩:=hv
 rw [e1] at f1
 injection f1 with f1
 subst f1
 have hlen:(bVs l).length=l.length:=by simp [bVs]
 rcases f4 with ⟨b,hb,rfl⟩ | ⟨hbn,hc0,A,rfl⟩
 ·rcases e8 with ⟨e8,_⟩ | ⟨b2,us,ty,q1,q2,q3,q4⟩
  ·rw [e8] at hb;cases hb
  rw [hb] at q1;injection q1 with q1;subst q1
  refine ⟨_,_,rfl,⟨hlen,f2,by simp only [maxLen];omega,Xu ⟨b,us,ty,rfl,q2,by omega,?_⟩⟩,fun g hg=>?_⟩
  ·rw [Zh4,XaH,Xz] at q4
   exact Zma q4
  ·obtain ⟨_,a,ea,eg⟩:=ZjP hg
   injection ea with ea;subst ea
   simp only at eg
   subst eg
   simp [Zh,e1,hb]
 ·have h0:l.length=0:=by omega
  refine ⟨A,0,by rw [h0],⟨hlen,by omega,by simp [maxLen],Xs rfl⟩,fun g hg=>?_⟩
  simp [ob] at hg
theorem Rel.release (R:Rel base w0 I0 I β σ w) {t:Nat} {ys:List AVal} (hs:σ[t]?=some (.row 0 1 ys)):Rel base w0 I0 I β (σ.set t (.frow 0 1 [])) w:=by
 have hsl:t < σ.length:=(Xc.1 hs).1
 obtain ⟨bi,e1,e2,e3,e4,e5,_⟩:=R.blk t _ hs
 refine R.upd (Imm.le.refl I) (Bmap.le.refl β) (KB.refl base w) (fun _ _ _=>rfl) R.imm t _ rfl hsl (fun _ _ _=>rfl) (fun t' x b _ hx hb=>⟨rfl,(R.own t' x b hx hb).2,by simp [Zh]⟩) ⟨bi,e1,e2,e3,e4,by simp,rfl,Xs rfl⟩ (fun b hb=>by simp [Zh] at hb) (fun g hg=>R.gen t _ g hs hg) (by simp)
theorem Rel.relB:∀ {ts:List Nat} {σ:Za},Rel base w0 I0 I β σ w->(∀ t ∈ ts,∃ ys,σ[t]?=some (.row 0 1 ys))->ts.Nodup->Rel base w0 I0 I β (relB σ ts) w
 | [],_,R,_,_=>R
 | t::ts,σ,R,h,hn=>by
  obtain ⟨ys,hs⟩:=h t (by simp)
  rw [WZ] at hn
  refine Rel.relB (ts:=ts) (R.release hs) (fun u hu=>?_) hn.2
  obtain ⟨zs,hz⟩:=h u (by simp [hu])
  exact ⟨zs,by rw [Wd (by rintro rfl;exact hn.1 hu)];exact hz⟩
theorem Zq0 {args:List AVal} {σ σ':Za} {r:AVal} (hp:ZhR args σ=some (r,σ')) :
  (∃ fn,Try.prog.funcs[24]?=some fn/\fn.body.isSome=true/\(fn.name == "runtime.NumGoroutine")=false) /\
  ∀ base w0 I0 I β w (vs:Array Value),KLt base w0->Rel base w0 I0 I β σ w->VRs I β args vs.toList ->
   Calls Try.prog 24 vs w (fun e w'=>∃ u,Ends r e u/\Zbh σ.length base w0 I0 I β r σ' u w'):=by
 refine ⟨⟨Try.f24,Try.func24,by kernel_rfl,by kernel_rfl⟩,fun base w0 I0 I β w vs hb R hv=>?_⟩
 obtain ⟨vs⟩:=vs
 unfold ZhR at hp
 split at hp
 case h_2=>cases hp
 split at hp
 case h_2=>cases hp
 rename_i tb nb cs hs0
 unfold Zl2 at hp
 split at hp
 case h_2=>cases hp
 rename_i xs hsb
 split at hp
 case h_2=>cases hp
 rename_i rows hrows
 split at hp
 case isFalse=>cases hp
 rename_i hc
 obtain ⟨rfl,hn,hnd⟩:=hc
 simp only [Xa,Xb] at hp
 obtain ⟨rfl,rfl⟩:=hp
 obtain ⟨hrl,hrg⟩:=Zm2 hrows
 simp only [VRs,VR] at hv
 obtain ⟨v,vs',rfl,⟨kb,kk,kc,hβ0,rfl⟩,rfl⟩:=hv
 obtain ⟨b0,k0,c0,us,ty,hβ1,hh0,hvs⟩:=R.blk 0 _ hs0
 rw [hβ0] at hβ1
 simp only [Xa,BI.mk.injEq] at hβ1
 obtain ⟨rfl,rfl,rfl⟩:=hβ1
 simp only [VRs] at hvs
 obtain ⟨u0,us',hus,hu0,_⟩:=hvs
 obtain ⟨bi,e1,e2,e3,e4,e5,e6,b1,us1,ty1,e7,e8,e9,e10⟩:=R.blk tb _ hsb
 rw [Zbt] at hu0
 obtain ⟨bi',f1,f2,f3,f4⟩:=hu0
 rw [e1] at f1
 injection f1 with f1
 subst f1
 have hu0':u0=.slice (some ⟨b1,0,none⟩) xs.length bi.cap:=by
  rcases f4 with ⟨b,hb',rfl⟩ | ⟨hbn,_⟩
  ·rw [e7] at hb';injection hb' with hb';subst hb';rfl
  ·rw [e7] at hbn;cases hbn
 have hcells:xs.flatMap AVal.cells=xs:=by
  have : ∀ x ∈ xs,x.cells=[x]:=by
   intro x hx
   obtain ⟨i,hi⟩:=Wp.1 hx
   have hlt:i < rows.length:=by rw [hrl];exact (Xc.1 hi).1
   obtain ⟨h1,_⟩:=hrg i rows[i].1 rows[i].2 (Xe hlt)
   rw [hi] at h1;injection h1 with h1;subst h1;rfl
  exact ZjC xs this
 rw [hcells,XaH] at e10
 have hbl:(us1.toList.take xs.length).length=xs.length:=(Zay e10).symm
 generalize hbs:us1.toList.take xs.length=bs at e10 hbl
 have hlen0:kb < w.heap.size:=(Xx.1 hh0).1
 have hlen1:b1 < w.heap.size:=(Xx.1 e8).1
 have how0:Zh w β 0 (.var (.sl tb 0 0 xs.length::cs)) kb:=by simp [Zh,hβ0]
 have how1:Zh w β tb (.rrow 0 1 xs) b1:=by simp [Zh,e1,e7]
 have hus':us.toList=.slice (some ⟨b1,0,none⟩) bs.length bi.cap::us':=by rw [hus,hu0',hbl]
 have hget:∀ (i:Nat) (v:Value) (l:List UInt8),bs[i]?=some v->(rows.map (·.2))[i]?=some l->∃ t ys A c,rows[i]?=some (t,l)/\σ[t]?=some (.row 0 1 ys)/\v=.slice A l.length c/\OwnA w A c l.length (bVs l)/\∀ g,ob A c=some g->Zh w β t (.row 0 1 ys) g:=by
  intro i v l hv hl
  rw [X4,Xo] at hl
  obtain ⟨⟨t,l'⟩,hr,rfl⟩:=hl
  obtain ⟨h1,h2,ys,h3,h4⟩:=hrg i t l' hr
  obtain ⟨v',hv',hvr⟩:=Zbo e10 h1
  rw [hv] at hv';injection hv' with hv';subst hv'
  obtain ⟨A,c,e,ho,hob⟩:=ZxC R h3 h4 hvr
  exact ⟨t,ys,A,c,hr,h3,e,ho,hob⟩
 have hrowl:(rows.map (·.2)).length=bs.length:=by rw [Xz,hrl,hbl]
 have hcap:∀ (i:Nat) (v:Value) (g:Nat),bs[i]?=some v->Za0 v=some g->∃ t l ys,rows[i]?=some (t,l)/\σ[t]?=some (.row 0 1 ys)/\Zh w β t (.row 0 1 ys) g:=by
  intro i v g hv hg
  have hi:i < (rows.map (·.2)).length:=by rw [hrowl];exact (Xc.1 hv).1
  obtain ⟨t,ys,A,c,h1,h2,rfl,h4,h5⟩:=hget i v _ hv (Xe hi)
  exact ⟨t,_,ys,h1,h2,h5 g hg⟩
 have hR:BookR w kb (some ⟨b1,0,none⟩) bi.cap bs:=by
  refine ⟨?_,Xu ⟨b1,0,rfl,fun i u hu=>?_⟩⟩
  ·rw [cell_of_row w kb 0 us ty (0,0) hh0,<-W9,hus'];rfl
  ·rw [cell_of_row w b1 (0+i) us1 ty1 (0,0) e8,<-W9,XF]
   rw [<-hbs,List.getElem?_take] at hu
   split at hu
   ·exact hu
   ·cases hu
 have hL:Zdl kb (some ⟨b1,0,none⟩) bs w.heap.size:=by
  refine ⟨hlen0,fun b off e=>by injection e with e;injection e with e;subst e;exact hlen1,fun i v g hv hg=>?_⟩
  obtain ⟨t,l,ys,h1,h2,h3⟩:=hcap i v g hv hg
  refine ⟨?_,fun b off e=>?_,(R.blk t _ h2).owns_lt h3⟩
  ·rintro rfl
   have:=R.apart t _ 0 _ g h2 hs0 h3 how0
   subst this
   rw [hs0] at h2;cases h2
  ·injection e with e;injection e with e;subst e
   rintro rfl
   have:=R.apart t _ tb _ _ h2 hsb h3 how1
   subst this
   rw [hsb] at h2;cases h2
 have hF:BodsF w bs (rows.map (·.2)) (fun _ l=>l):=by
  intro i v l hv hl
  obtain ⟨t,ys,A,c,h1,h2,h3,h4,h5⟩:=hget i v l hv hl
  exact ⟨A,c,h3,h4⟩
 have hap:Zdp bs:=by
  intro i j u v g hij hu hv hg hg'
  obtain ⟨t,l,ys,h1,h2,h3⟩:=hcap i u g hu hg
  obtain ⟨t',l',ys',h1',h2',h3'⟩:=hcap j v g hv hg'
  have e:=R.apart t _ t' _ g h2 h2' h3 h3'
  subst e
  have hi:=(Xc.1 h1)
  have hj:=(Xc.1 h1')
  obtain ⟨hi,hi'⟩:=hi
  obtain ⟨hj,hj'⟩:=hj
  have:=(List.pairwise_iff_getElem.1 hnd) i j (by simpa using hi) (by simpa using hj) hij
  simp [hi',hj'] at this
 have hsz:∀ l ∈ rows.map (·.2),l.length<=1099511627776:=by
  intro l hl
  obtain ⟨⟨t,l'⟩,hm,rfl⟩:=XJ.1 hl
  obtain ⟨i,hi⟩:=Wp.1 hm
  exact (hrg i t l' hi).2.1
 refine (ZyK kb _ bi.cap bs (rows.map (·.2)) w hR hL hF hap hrowl.symm (by rw [hbl];exact hn) hsz).mono ?_
 rintro e w' ⟨rfl,hk⟩
 refine ⟨.bool true,rfl,I,β,Imm.le.refl I,KeptE.refl _ β,?_,by simp [ZaA,VR]⟩
 have hts:∀ t ∈ rows.map (·.1),∃ ys,σ[t]?=some (.row 0 1 ys):=by
  intro t ht
  obtain ⟨⟨t',l'⟩,hm,rfl⟩:=XJ.1 ht
  obtain ⟨i,hi⟩:=Wp.1 hm
  obtain ⟨_,_,ys,h3,_⟩:=hrg i t' l' hi
  exact ⟨ys,h3⟩
 have hno:∀ k,bsS bs k->∃ t ys,t ∈ rows.map (·.1)/\σ[t]?=some (.row 0 1 ys)/\Zh w β t (.row 0 1 ys) k:=by
  rintro k ⟨i,v,hv,hg⟩
  obtain ⟨t,l,ys,h1,h2,h3⟩:=hcap i v k hv hg
  exact ⟨t,ys,XJ.2 ⟨(t,l),Xv h1,rfl⟩,h2,h3⟩
 have hblk:=R.base_le hb
 refine (R.relB hts hnd).stay (Imm.le.refl I) ⟨hk.os,hk.tape,hk.output,hk.size,fun k hk'=>hk.block k (hblk k hk') ?_⟩ (fun _ _ _=>rfl) (fun b o u hi=>?_) (fun t x b hx hb'=>?_)
 ·intro hS
  obtain ⟨t,ys,_,h2,h3⟩:=hno k hS
  exact (R.own t _ k h2 h3).1 hk'
 ·refine hk.cell (R.imm b o u hi) (fun hS=>?_)
  obtain ⟨t,ys,_,h2,h3⟩:=hno b hS
  have:=(R.own t _ b h2 h3).2 o
  rw [this] at hi;cases hi
 ·rcases Zni hx with ⟨_,rfl⟩ | ⟨hnt,hx'⟩
  ·cases hb'
  ·refine ⟨hk.block b ((R.blk t x hx').owns_lt hb') (fun hS=>?_),(R.own t x b hx' hb').2⟩
   obtain ⟨t',ys,h1,h2,h3⟩:=hno b hS
   have:=R.apart t _ t' _ b hx' h2 hb' h3
   subst this
   exact hnt h1
end
end
section
open Go.RowKit
theorem OwnV.ownA {w:World} {v:Value} {xs:List Value} (h:OwnV w v xs):∃ A c,v=.slice A xs.length c/\OwnA w A c xs.length xs:=by
 obtain ⟨A,n,c,rfl,rfl,h2,h3,h4⟩:=h
 exact ⟨A,c,rfl,rfl,h2,by simpa only [maxLen] using h3,h4⟩
theorem OwnA.ownV {w:World} {A:Option Addr} {c n:Nat} {xs:List Value} (h:OwnA w A c n xs):OwnV w (.slice A n c) xs:=by
 obtain ⟨rfl,h2,h3,h4⟩:=h
 exact ⟨A,_,c,rfl,rfl,h2,by simpa only [maxLen] using h3,h4⟩
theorem Zjk (v:Value):Za0 v=Zat v:=by cases v <;> rfl
theorem Zii {w:World} {A:Option Addr} {c n:Nat} {xs ps:List Value} (h:OwnA w A c n (xs++ps)):Za1 w ps.length (.slice A n c)=(ob A c).toList++xs.filterMap Zat:=by
 obtain ⟨h1,h2,h3,h4⟩:=h
 rw [List.length_append] at h1
 by_cases hc:c=0
 ·subst hc
  have : xs=[]:=XA (by omega)
  subst this
  simp [Za1,ob]
 ·rcases h4 with h4 | ⟨g,cur,e,rfl,hg,hs,ht⟩
  ·exact absurd h4 hc
  ·have e1:(cur.toList.take (n - ps.length))=xs:=by
    have : (cur.toList.take n).take (n - ps.length)=xs:=by rw [ht,show n - ps.length=xs.length by omega,Wy]
    rwa [List.take_take,Nat.min_eq_left (by omega)] at this
   simp [Za1,hc,ob,Zba,hg,e1]
theorem Zds {w:World} {A:Option Addr} {c n:Nat} {xs:List Value} (h:OwnA w A c n xs):Za1 w 0 (.slice A n c)=(ob A c).toList++xs.filterMap Zat:=Zii (ps:=[]) (by rw [XL];exact h)
def Zaf (kb:Nat) (o1 o2:Option Nat) (bs hs:List Value):List Nat:=kb::(o1.toList++bs.filterMap Zat++(o2.toList++hs.filterMap Zat))
theorem BookW.num {w:World} {kb n:Nat} (h:BookW w kb n []):∃ ty B0 B1 B2 B3 A1 A2 c1 c2 bs hs ls,NumB w kb n ty B0 B1 B2 B3 A1 A2 c1 c2 bs hs ls/\Zar w kb 0=Zaf kb (ob A1 c1) (ob A2 c2) bs hs/\(Zaf kb (ob A1 c1) (ob A2 c2) bs hs).Nodup/\∀ b ∈ Zaf kb (ob A1 c1) (ob A2 c2) bs hs,b < w.heap.size:=by
 have hlt:=Zmr h
 obtain ⟨h0,us,ty,B0,B1,B2,B3,v4,v5,bs,hs,h1,h2,h3,h4,h5,h6,h7,_⟩:=h
 simp only [XO,XL,Wf,XU] at h3 h6 h0 hlt
 obtain ⟨A1,c1,rfl,o1⟩:=h3.ownA
 obtain ⟨A2,c2,rfl,o2⟩:=h4.ownA
 have hus:us=ZbD B0 B1 B2 B3 (.slice A1 bs.length c1) (.slice A2 hs.length c2):=by
  apply Array.ext';rw [h2];rfl
 have hbk:Zar w kb 0=Zaf kb (ob A1 c1) (ob A2 c2) bs hs:=by
  have hc:Zba w kb=us.toList:=by simp [Zba,h1]
  unfold Zar Zaf
  rw [hc,h2]
  simp only [XY,XP]
  rw [Zds o1,Zds o2]
 have hex:∀ i:Nat,∃ l:List Int,∀ b h,bs[i]?=some b->hs[i]?=some h->l.length<=65536/\OwnV w b (ZZ l)/\OwnV w h (ZZ l):=by
  intro i
  cases hb:bs[i]? with
  | none=>exact ⟨[],fun b h e _=>by cases e⟩
  | some b =>
   cases hh:hs[i]? with
   | none=>exact ⟨[],fun b h _ e=>by cases e⟩
   | some h =>
    obtain ⟨l,hl⟩:=h7 i b h hb hh
    exact ⟨l,fun b' h' e e'=>by injection e with e;injection e' with e';subst e e';exact hl⟩
 obtain ⟨f,hf⟩:=Classical.axiomOfChoice hex
 have hg:∀ (i:Nat) (l:List Int),((Wi n).map f)[i]?=some l->i < n/\l=f i:=by
  intro i l hl
  rw [X4,Xo] at hl
  obtain ⟨j,hj,rfl⟩:=hl
  obtain ⟨hi,hj⟩:=Xc.1 hj
  simp at hi hj
  exact ⟨hi,by rw [hj]⟩
 have conv:∀ {v:Value} {l:List Int},OwnV w v (ZZ l)->∃ A c,v=.slice A l.length c/\OwnA w A c l.length (ZZ l):=by
  intro v l hv
  obtain ⟨A,c,e,ho⟩:=hv.ownA
  rw [Zc0] at e ho
  exact ⟨A,c,e,ho⟩
 refine ⟨ty,B0,B1,B2,B3,A1,A2,c1,c2,bs,hs,(Wi n).map f,⟨?_,h5 ▸ o1,h6 ▸ o2,by simp,fun i b l hb hl=>?_,fun i h l hh hl=>?_,fun l hl=>?_⟩,hbk,hbk ▸ h0,hbk ▸ hlt⟩
 ·unfold Blk;rw [h1,hus,h5,h6]
 ·obtain ⟨hi,rfl⟩:=hg i l hl
  exact conv (hf i b hs[i] hb (Xe (by omega))).2.1
 ·obtain ⟨hi,rfl⟩:=hg i l hl
  exact conv (hf i bs[i] h (Xe (by omega)) hh).2.2
 ·obtain ⟨i,hi⟩:=Wp.1 hl
  obtain ⟨hi,rfl⟩:=hg i l hi
  exact (hf i bs[i] hs[i] (Xe (by omega)) (Xe (by omega))).1
theorem NumB.book {w:World} {kb n:Nat} {ty:TypeId} {B0 B1 B2 B3 A1 A2:Option Addr} {c1 c2:Nat} {bs hs:List Value} {ls:List (List Int)} (h:NumB w kb n ty B0 B1 B2 B3 A1 A2 c1 c2 bs hs ls)
  (hnd:(Zaf kb (ob A1 c1) (ob A2 c2) bs hs).Nodup):BookW w kb n []/\Zar w kb 0=Zaf kb (ob A1 c1) (ob A2 c2) bs hs:=by
 obtain ⟨hb,o1,o2,hl,b1,b2,hs'⟩:=h
 have hbk:Zar w kb 0=Zaf kb (ob A1 c1) (ob A2 c2) bs hs:=by
  have hc:Zba w kb=(ZbD B0 B1 B2 B3 (.slice A1 n c1) (.slice A2 n c2)).toList:=by unfold Zba;rw [hb]
  unfold Zar Zaf
  rw [hc]
  simp only [ZbD,XY,XP]
  rw [Zds o1,Zds o2]
 refine ⟨⟨hbk ▸ hnd,_,ty,B0,B1,B2,B3,_,_,bs,hs,hb,rfl,by simpa using o1.ownV,o2.ownV,o1.1,o2.1,fun i b h hb hh=>?_,fun i v h l hi=>by simp at hi⟩,hbk⟩
 have hil:i < ls.length:=by rw [hl,<-o1.1];exact (Xc.1 hb).1
 obtain ⟨A,c,rfl,r1⟩:=b1 i b ls[i] hb (Xe hil)
 obtain ⟨A',c',rfl,r2⟩:=b2 i h ls[i] hh (Xe hil)
 exact ⟨ls[i],hs' _ (WB hil),r1.ownV,r2.ownV⟩
theorem Zph {kb:Nat} {o1 o2:Option Nat} {bs hs:List Value} {v:Value} (h:(Zaf kb o1 o2 (bs++[v]) hs).Nodup):(Zaf kb o1 o2 bs hs).Nodup:=by
 unfold Zaf at h ⊢
 rw [WF] at h
 refine h.sublist (Xa1.cons_cons _ (Xa1.append (Xa1.append (Xa1.refl _) ?_) (Xa1.refl _)))
 exact List.sublist_append_left _ _
theorem NumB.bookP {w:World} {kb n:Nat} {ty:TypeId} {B0 B1 B2 B3 A1 A2:Option Addr} {c1 c2:Nat} {bs hs:List Value} {v:Value} {l:List Int} {ls:List (List Int)} (h:NumB w kb (n+1) ty B0 B1 B2 B3 A1 A2 c1 c2 (bs++[v]) hs (ls++[l]))
  (hnd:(Zaf kb (ob A1 c1) (ob A2 c2) (bs++[v]) hs).Nodup):BookW w kb n [(v,l)]/\Zar w kb 1=Zaf kb (ob A1 c1) (ob A2 c2) bs hs:=by
 obtain ⟨hb,o1,o2,hl,b1,b2,hs'⟩:=h
 have hbl:bs.length=n:=by have:=o1.1;simpa using this
 have hll:ls.length=n:=by simpa using hl
 have hbk:Zar w kb 1=Zaf kb (ob A1 c1) (ob A2 c2) bs hs:=by
  have hc:Zba w kb=(ZbD B0 B1 B2 B3 (.slice A1 (n+1) c1) (.slice A2 (n+1) c2)).toList:=by unfold Zba;rw [hb]
  unfold Zar Zaf
  rw [hc]
  simp only [ZbD,XY,XP]
  have r1:Za1 w 1 (.slice A1 (n+1) c1)=_:=Zii (ps:=[v]) o1
  rw [Zds o2,r1]
 have hn2:=Zph hnd
 refine ⟨⟨by rw [show ([(v,l)]:List (Value×List Int)).length=1 from rfl,hbk];exact hn2,_,ty,B0,B1,B2,B3,_,_,bs,hs,hb,rfl,o1.ownV,o2.ownV,hbl,o2.1,fun i b h hb hh=>?_,fun i v' h' l' hv hh=>?_⟩,hbk⟩
 ·have hi:=(Xc.1 hb).1
  have hil:i < ls.length:=by omega
  have e1:(ls++[l])[i]?=some ls[i]:=by rw [Wm hil];exact Xe hil
  obtain ⟨A,c,rfl,r1⟩:=b1 i b ls[i] (by rw [Wm hi];exact hb) e1
  obtain ⟨A',c',rfl,r2⟩:=b2 i h ls[i] hh e1
  exact ⟨ls[i],hs' _ (XaQ _ (WB hil)),r1.ownV,r2.ownV⟩
 ·have hi:i=0:=by have:=(Xc.1 hv).1;simp at this;omega
  subst hi
  simp only [XG,Xa,Xb] at hv
  obtain ⟨rfl,rfl⟩:=hv
  obtain ⟨A',c',rfl,r2⟩:=b2 n h' l (by rw [XU] at hh;exact hh) (by rw [List.getElem?_append_right (by omega),hll];simp)
  exact ⟨hs' _ (by simp),r2.ownV⟩
theorem ZfV (a:Nat) (o:Option Nat):o.toList.count a=if o=some a then 1 else 0:=by
 cases o with
 | none=>simp
 | some x=>by_cases h:x=a <;> simp [h]
theorem Zve {kb B:Nat} {o1 o2 o3 o5 o6 ov:Option Nat} {bs hs:List Value} {v t:Value} (h:(Zaf kb o1 o2 bs hs).Nodup) (hlt:∀ b ∈ Zaf kb o1 o2 bs hs,b < B)
  (hv:Zat v=ov) (ht:Zat t=o5) (hov:∀ g,ov=some g->g < B/\g ∉ Zaf kb o1 o2 bs hs) (h3:o3=o1\/o3=some (B+1)) (h5:∀ g,o5=some g->B < g/\o3≠some g) (h6:o6=o2\/∃ g,o6=some g/\B < g/\o3≠some g) (h56:∀ g,o5=some g->o6≠some g) :
  (Zaf kb o3 o6 (bs++[v]) (hs++[t])).Nodup:=by
 have e1:∀ (x:Value) (o:Option Nat),Zat x=o->List.filterMap Zat [x]=o.toList:=by
  rintro x o rfl
  cases hx:Zat x <;> simp [Xax,hx]
 rw [List.nodup_iff_count] at h ⊢
 intro a
 have h:=h a
 unfold Zaf at h hlt hov ⊢
 rw [WF,WF,e1 v ov hv,e1 t o5 ht]
 by_cases ha:a < B
 ·simp only [XaD,Xaq,ZfV] at h ⊢
  have c3:(if o3=some a then 1 else 0)<=(if o1=some a then 1 else 0):=by
   rcases h3 with rfl | rfl
   ·exact XM _
   ·rw [if_neg (by intro e;injection e with e;omega)];exact XaV _
  have c6:(if o6=some a then 1 else 0)<=(if o2=some a then 1 else 0):=by
   rcases h6 with rfl | ⟨g,rfl,hg,_⟩
   ·exact XM _
   ·rw [if_neg (by intro e;injection e with e;omega)];exact XaV _
  have c5:(if o5=some a then 1 else 0)=0:=by
   rw [if_neg (by intro e;have:=(h5 a e).1;omega)]
  by_cases hva:ov=some a
  ·have hm:=(hov a hva).2
   rw [<-Xa2] at hm
   simp only [XaD,Xaq,ZfV] at hm
   rw [if_pos hva]
   omega
  ·rw [if_neg hva]
   omega
 ·have hm:List.count a (kb::(o1.toList++bs.filterMap Zat++(o2.toList++hs.filterMap Zat)))=0:=Xa2.2 fun hm=>ha (hlt a hm)
  simp only [XaD,Xaq,ZfV] at hm ⊢
  have cv:(if ov=some a then 1 else 0)=0:=by
   rw [if_neg (by intro e;exact ha (hov a e).1)]
  have c1:¬o1=some a:=by intro e;rw [if_pos e] at hm;omega
  have c2:¬o2=some a:=by intro e;rw [if_pos e] at hm;omega
  by_cases ca:o3=some a
  ·have n5:¬o5=some a:=fun e=>(h5 a e).2 ca
   have n6:¬o6=some a:=fun e=>by
    rcases h6 with rfl | ⟨g,hg,_,hne⟩
    ·exact c2 e
    ·rw [hg] at e;injection e with e;subst e;exact hne ca
   rw [if_neg n5,if_neg n6,cv,if_pos ca]
   omega
  ·rw [if_neg ca,cv]
   have b6:(if o6=some a then 1 else 0)<=1:=by split <;> omega
   by_cases cb:o5=some a
   ·rw [if_neg (h56 a cb),if_pos cb];omega
   ·rw [if_neg cb]
    omega
theorem BookW.join {w:World} {kb n:Nat} {v:Value} {l:List Int} (h:BookW w kb n [(v,l)]) (hv:OwnV w v (ZZ l)) (hd:∀ g,Zat v=some g->g ∉ Zar w kb 1):BookW w kb (n+1) []/\∀ b ∈ Zar w kb 0,b ∈ Zar w kb 1\/Zat v=some b:=by
 obtain ⟨h0,us,ty,B0,B1,B2,B3,v4,v5,bs,hs,h1,h2,h3,h4,h5,h6,h7,h8⟩:=h
 rw [show ([(v,l)]:List (Value×List Int)).length=1 from rfl] at h0 h6
 rw [show ([(v,l)]:List (Value×List Int)).map (·.1)=[v] from rfl] at h3
 obtain ⟨A1,c1,rfl,o1⟩:=h3.ownA
 obtain ⟨A2,c2,rfl,o2⟩:=h4.ownA
 have hc:Zba w kb=us.toList:=by simp [Zba,h1]
 have e0:Zar w kb 0=Zaf kb (ob A1 c1) (ob A2 c2) (bs++[v]) hs:=by
  unfold Zar Zaf
  rw [hc,h2]
  simp only [XY,XP]
  rw [Zds o1,Zds o2]
 have e1:Zar w kb 1=Zaf kb (ob A1 c1) (ob A2 c2) bs hs:=by
  unfold Zar Zaf
  rw [hc,h2]
  simp only [XY,XP]
  have r1:Za1 w 1 (.slice A1 (bs++[v]).length c1)=_:=Zii (ps:=[v]) o1
  rw [r1,Zds o2]
 rw [e1] at h0 hd
 have hmem:∀ b ∈ Zaf kb (ob A1 c1) (ob A2 c2) (bs++[v]) hs,b ∈ Zaf kb (ob A1 c1) (ob A2 c2) bs hs\/Zat v=some b:=by
  intro b hb
  unfold Zaf at hb ⊢
  simp only [XC,Xt,WF,Xa9,Wo,XaP,or_false,exists_eq_left,false_and,exists_false] at hb ⊢
  rcases hb with h | ((h | (h | h)) | h)
  ·exact Xs (Xs h)
  ·exact Xs (Xu (Xs (Xs h)))
  ·exact Xs (Xu (Xs (Xu h)))
  ·exact Xu h
  ·exact Xs (Xu (Xu h))
 refine ⟨⟨?_,us,ty,B0,B1,B2,B3,_,_,bs++[v],hs,h1,h2,by simpa using h3,h4,by simp [h5],by simpa using h6,fun i b h hb hh=>?_,fun i v h l hi=>by simp at hi⟩,by rw [e0,e1];exact hmem⟩
 ·rw [show ([]:List (Value×List Int)).length=0 from rfl,e0]
  rw [List.nodup_iff_count] at h0 ⊢
  intro a
  have k0:=h0 a
  unfold Zaf at k0 hd ⊢
  rw [WF,show List.filterMap Zat [v]=(Zat v).toList by cases hx:Zat v <;> simp [Xax,hx]]
  simp only [XaD,Xaq,ZfV] at k0 ⊢
  by_cases hva:Zat v=some a
  ·have hm:=hd a hva
   rw [<-Xa2] at hm
   simp only [XaD,Xaq,ZfV] at hm
   rw [if_pos hva]
   omega
  ·rw [if_neg hva]
   omega
 ·rw [XZ] at hb
  split at hb
  ·exact h7 i b h hb hh
  ·rw [WV] at hb
   split at hb
   ·injection hb with hb;subst hb
    obtain ⟨hl,l2⟩:=h8 0 v h l rfl (by rw [show n+0=i by omega];exact hh)
    exact ⟨l,hl,hv,l2⟩
   ·cases hb
theorem ZhZ {kb:Nat} {o1 o2:Option Nat} {bs hs:List Value} {b:Value} {g:Nat} (hb:b ∈ bs) (hg:Zat b=some g):g ∈ Zaf kb o1 o2 bs hs:=by
 unfold Zaf
 exact WU _ (XaQ _ (Xao _ (Wo.2 ⟨b,hb,hg⟩)))
theorem Zlh {kb:Nat} {o1 o2:Option Nat} {bs hs:List Value} {b:Value} {g:Nat} (hb:b ∈ hs) (hg:Zat b=some g):g ∈ Zaf kb o1 o2 bs hs:=by
 unfold Zaf
 exact WU _ (Xao _ (Xao _ (Wo.2 ⟨b,hb,hg⟩)))
theorem Zfx {kb:Nat} {o1 o2:Option Nat} {bs hs:List Value} {g:Nat} (hg:o1=some g):g ∈ Zaf kb o1 o2 bs hs:=by subst hg;simp [Zaf]
theorem Zfj {kb:Nat} {o1 o2:Option Nat} {bs hs:List Value} {g:Nat} (hg:o2=some g):g ∈ Zaf kb o1 o2 bs hs:=by subst hg;simp [Zaf]
theorem ZkS {kb:Nat} {o1 o2:Option Nat} {bs hs:List Value} (h:(Zaf kb o1 o2 bs hs).Nodup) :
  (∀ g,o1=some g->g≠kb)/\(∀ g,o2=some g->g≠kb)/\(∀ g,o1=some g->o2≠some g) /\
  (∀ b g,b ∈ bs->Zat b=some g->g≠kb/\o1≠some g/\o2≠some g)/\(∀ b g,b ∈ hs->Zat b=some g->g≠kb/\o1≠some g/\o2≠some g):=by
 unfold Zaf at h
 rw [WZ,WD,WD,WD] at h
 obtain ⟨h0,⟨_,_,h1⟩,⟨_,_,h2⟩,h3⟩:=h
 simp only [Xt,not_or] at h0 h3
 have m1:∀ b g,b ∈ bs->Zat b=some g->g ∈ bs.filterMap Zat:=fun b g hb hg=>Wo.2 ⟨b,hb,hg⟩
 have m2:∀ b g,b ∈ hs->Zat b=some g->g ∈ hs.filterMap Zat:=fun b g hb hg=>Wo.2 ⟨b,hb,hg⟩
 refine ⟨fun g e e'=>?_,fun g e e'=>?_,fun g e e'=>?_,fun b g hb hg=>⟨fun e=>?_,fun e=>?_,fun e=>?_⟩,fun b g hb hg=>⟨fun e=>?_,fun e=>?_,fun e=>?_⟩⟩
 ·subst e e';simp at h0
 ·subst e e';simp at h0
 ·subst e;exact h3 g (Xs (by simp)) g (Xs (by rw [e'];simp)) rfl
 ·subst e;exact h0.1.2 (m1 b g hb hg)
 ·subst e;exact h1 g (by simp) g (m1 b g hb hg) rfl
 ·subst e;exact h3 g (Xu (m1 b g hb hg)) g (Xs (by simp)) rfl
 ·subst e;exact h0.2.2 (m2 b g hb hg)
 ·subst e;exact h3 g (Xs (by simp)) g (Xu (m2 b g hb hg)) rfl
 ·subst e;exact h2 g (by simp) g (m2 b g hb hg) rfl
theorem Zkx:∀ {bs:List Value} (_:(bs.filterMap Zat).Nodup) {i j:Nat} {u v:Value} {g:Nat},i < j->bs[i]?=some u->bs[j]?=some v->Zat u=some g->Zat v=some g->False
 | [],_,i,j,u,v,g,_,hu,_,_,_=>by simp at hu
 | x::bs,h,i,j,u,v,g,hij,hu,hv,hg,hg'=>by
  cases j with
  | zero=>omega
  | succ j =>
   simp only [XR] at hv
   have hm:g ∈ bs.filterMap Zat:=Wo.2 ⟨v,Xv hv,hg'⟩
   cases i with
   | zero =>
    simp only [XG,Xa] at hu
    subst hu
    rw [Xax,hg] at h
    exact (WZ.1 h).1 hm
   | succ i =>
    simp only [XR] at hu
    refine Zkx ?_ (Nat.lt_of_succ_lt_succ hij) hu hv hg hg'
    rw [Xax] at h
    split at h
    ·exact h
    ·exact (WZ.1 h).2
section
variable {base:Nat->Prop} {w0 w w':World} {I0 I:Imm} {β:Bmap} {σ:Za}
theorem ZkQ (R:Rel base w0 I0 I β σ w) {t:Nat} {l:List Int} {v:Value} (hs:σ[t]?=some (.row 0 1 (l.map (AVal.int .i64 ·)))) (hv:VR I β (.sl t 0 0 l.length) v) :
  ∃ A c,v=.slice A l.length c/\OwnA w A c l.length (ZZ l)/\∀ g,ob A c=some g->Zh w β t (.row 0 1 (l.map (AVal.int .i64 ·))) g:=by
 obtain ⟨bi,e1,e2,e3,e4,e5,e6,e7,e8⟩:=R.blk t _ hs
 rw [Zbt] at hv
 obtain ⟨bi',f1,f2,f3,f4⟩:=hv
 rw [e1] at f1
 injection f1 with f1
 subst f1
 have hlen:(ZZ l).length=l.length:=by simp [ZZ]
 have ints:∀ {l:List Int} {vs:List Value},VRs I β (l.map (AVal.int .i64 ·)) vs->vs=ZZ l:=by
  intro l
  induction l with
  | nil=>intro vs h;simp only [XO,VRs] at h;subst h;rfl
  | cons x l ih =>
   intro vs h
   simp only [Xy,VRs,VR] at h
   obtain ⟨v,vs',rfl,rfl,h⟩:=h
   rw [ih h];rfl
 have flat:(l.map (AVal.int .i64 ·)).flatMap AVal.cells=l.map (AVal.int .i64 ·):=by
  refine ZjC _ (fun x hx=>?_)
  obtain ⟨n,_,rfl⟩:=XJ.1 hx
  rfl
 rcases f4 with ⟨b,hb,rfl⟩ | ⟨hbn,hc0,A,rfl⟩
 ·rcases e8 with ⟨e8,_⟩ | ⟨b2,us,ty,q1,q2,q3,q4⟩
  ·rw [e8] at hb;cases hb
  rw [hb] at q1;injection q1 with q1;subst q1
  refine ⟨_,_,rfl,⟨hlen,f2,by simp only [maxLen];omega,Xu ⟨b,us,ty,rfl,q2,by omega,?_⟩⟩,fun g hg=>?_⟩
  ·rw [flat,XaH,Xz] at q4
   exact ints q4
  ·obtain ⟨_,a,ea,eg⟩:=ZjP hg
   injection ea with ea;subst ea
   simp only at eg
   subst eg
   simp [Zh,e1,hb]
 ·have h0:l.length=0:=by omega
  refine ⟨A,0,by rw [h0],⟨hlen,by omega,by simp [maxLen],Xs rfl⟩,fun g hg=>?_⟩
  simp [ob] at hg
theorem Rel.release1 (R:Rel base w0 I0 I β σ w) {t k:Nat} {ys:List AVal} (hs:σ[t]?=some (.row 0 k ys)):Rel base w0 I0 I β (σ.set t (.frow 0 k [])) w:=by
 have hsl:t < σ.length:=(Xc.1 hs).1
 obtain ⟨bi,e1,e2,e3,e4,e5,_⟩:=R.blk t _ hs
 refine R.upd (Imm.le.refl I) (Bmap.le.refl β) (KB.refl base w) (fun _ _ _=>rfl) R.imm t _ rfl hsl (fun _ _ _=>rfl) (fun t' x b _ hx hb=>⟨rfl,(R.own t' x b hx hb).2,by simp [Zh]⟩) ⟨bi,e1,e2,e3,e4,by simp,rfl,Xs rfl⟩ (fun b hb=>by simp [Zh] at hb) (fun g hg=>R.gen t _ g hs hg) (by simp)
theorem ZkH {kb n:Nat} (hB:BookW w kb n []) (hn:n < 400) {A:Option Addr} {c:Nat} {l:List Int} (hr:OwnA w A c l.length (ZZ l)) (hl:l.length<=65536) (hA:∀ g,ob A c=some g->g ∉ Zar w kb 0) :
  Calls Try.prog 18 #[.pointer (some ⟨kb,0,none⟩),.slice A l.length c] w fun e w'=>e=.returned (.tuple #[])/\Kept (· ∈ Zar w kb 0) w w'/\(BookW w' kb (n+1) []/\∀ b ∈ Zar w' kb 0,b ∈ Zar w kb 0\/ob A c=some b\/w.heap.size<=b) /\
   BookW w' kb n [(.slice A l.length c,l)]/\∀ b ∈ Zar w' kb 1,b ∈ Zar w kb 0\/w.heap.size<=b:=by
 obtain ⟨ty,B0,B1,B2,B3,A1,A2,c1,c2,bs,hs,ls,hN,hbk,hnd,hlt⟩:=hB.num
 rw [hbk] at hA ⊢
 obtain ⟨p1,p2,p3,p4,p5⟩:=ZkS hnd
 obtain ⟨hb,o1,o2,hls,b1,b2,hsm⟩:=hN
 refine (Zvs kb n ty B0 B1 B2 B3 A1 A2 c1 c2 bs hs A c l w hb o1 o2 hn p1 p2 p3 hr (fun g hg=>⟨fun e=>hA g hg (by subst e;simp [Zaf]),fun e=>hA g hg (Zfx e),fun e=>hA g hg (Zfj e)⟩) hl).mono ?_
 rintro e w' ⟨rfl,A3,c3,A5,c5,A6,c6,q1,q2,q3,q4,q5,q6,q7,q8,hk⟩
 have hnd':(Zaf kb (ob A3 c3) (ob A6 c6) (bs++[.slice A l.length c]) (hs++[.slice A5 l.length c5])).Nodup :=
  Zve (B:=w.heap.size) hnd hlt (ov:=ob A c) (o5:=ob A5 c5) rfl rfl (fun g hg=>⟨(hr.addr hg).2,hA g hg⟩) q5 q6 q7 q8
 have hlb:bs.length=n:=o1.1
 have hlh:hs.length=n:=o2.1
 have keepB:∀ {A':Option Addr} {c':Nat} {m:List Int},OwnA w A' c' m.length (ZZ m)->(∀ g,ob A' c'=some g->g≠kb/\ob A1 c1≠some g/\ob A2 c2≠some g)->OwnA w' A' c' m.length (ZZ m):=fun ho hg=>hk.ownA ho (fun g e=>by
  obtain ⟨x1,x2,x3⟩:=hg g e
  rintro (h | h | h)
  ·exact x1 h
  ·exact x2 h
  ·exact x3 h)
 have hN':NumB w' kb (n+1) ty B0 B1 B2 B3 A3 A6 c3 c6 (bs++[.slice A l.length c]) (hs++[.slice A5 l.length c5]) (ls++[l]):=by
  refine ⟨q1,q2,q4,by simp [hls],fun i b m hb hm=>?_,fun i h m hh hm=>?_,fun m hm=>?_⟩
  ·rw [XZ] at hb hm
   split at hb
   ·rw [if_pos (by omega)] at hm
    obtain ⟨A',c',rfl,ho⟩:=b1 i b m hb hm
    exact ⟨A',c',rfl,keepB ho (fun g hg=>p4 _ g (Xv hb) hg)⟩
   ·rw [if_neg (by omega)] at hm
    rw [WV] at hb hm
    split at hb
    ·rw [if_pos (by omega)] at hm
     injection hb with hb;injection hm with hm;subst hb hm
     exact ⟨A,c,rfl,keepB hr (fun g hg=>⟨fun e=>hA g hg (by subst e;simp [Zaf]),fun e=>hA g hg (Zfx e),fun e=>hA g hg (Zfj e)⟩)⟩
    ·cases hb
  ·rw [XZ] at hh hm
   split at hh
   ·rw [if_pos (by omega)] at hm
    obtain ⟨A',c',rfl,ho⟩:=b2 i h m hh hm
    exact ⟨A',c',rfl,keepB ho (fun g hg=>p5 _ g (Xv hh) hg)⟩
   ·rw [if_neg (by omega)] at hm
    rw [WV] at hh hm
    split at hh
    ·rw [if_pos (by omega)] at hm
     injection hh with hh;injection hm with hm;subst hh hm
     exact ⟨A5,c5,rfl,q3⟩
    ·cases hh
  ·rcases Xt.1 hm with hm | hm
   ·exact hsm m hm
   ·rw [List.mem_singleton] at hm;subst hm;exact hl
 obtain ⟨r1,r2⟩:=hN'.book hnd'
 obtain ⟨r3,r4⟩:=hN'.bookP hnd'
 refine ⟨rfl,hk.mono (fun k _ h=>?_),⟨r1,fun b hb=>?_⟩,r3,fun b hb=>?_⟩
 ·rcases h with rfl | h | h
  ·simp [Zaf]
  ·exact Zfx h
  ·exact Zfj h
 ·rw [r2] at hb
  unfold Zaf at hb
  simp only [XC,Xt,WF,Xa9,Wo,XaP,or_false,exists_eq_left,false_and,exists_false] at hb
  rcases hb with rfl | ((h | (⟨x,hx,hg⟩ | hg)) | (h | (⟨x,hx,hg⟩ | hg)))
  ·exact Xs (by simp [Zaf])
  ·rcases q5 with q5 | q5
   ·exact Xs (Zfx (by rw [<-q5];exact h))
   ·rw [q5] at h;injection h with h;exact Xu (Xu (by omega))
  ·exact Xs (ZhZ hx hg)
  ·exact Xu (Xs hg)
  ·rcases q7 with q7 | ⟨g,q7,q7',_⟩
   ·exact Xs (Zfj (by rw [<-q7];exact h))
   ·rw [q7] at h;injection h with h;exact Xu (Xu (by omega))
  ·exact Xs (Zlh hx hg)
  ·exact Xu (Xu (XaK (q6 b hg).1))
 ·rw [r4] at hb
  unfold Zaf at hb
  simp only [XC,Xt,WF,Xa9,Wo,XaP,or_false,exists_eq_left,false_and,exists_false] at hb
  rcases hb with rfl | ((h | ⟨x,hx,hg⟩) | (h | (⟨x,hx,hg⟩ | hg)))
  ·exact Xs (by simp [Zaf])
  ·rcases q5 with q5 | q5
   ·exact Xs (Zfx (by rw [<-q5];exact h))
   ·rw [q5] at h;injection h with h;exact Xu (by omega)
  ·exact Xs (ZhZ hx hg)
  ·rcases q7 with q7 | ⟨g,q7,q7',_⟩
   ·exact Xs (Zfj (by rw [<-q7];exact h))
   ·rw [q7] at h;injection h with h;exact Xu (by omega)
  ·exact Xs (Zlh hx hg)
  ·exact Xu (XaK (q6 b hg).1)
theorem Rel.rebook (R:Rel base w0 I0 I β σ w) (hbl:KLt base w) {t kb n m:Nat} {p p':List (AVal×List Int)} (ht:σ[t]?=some (.book n p)) (hkb:(β t 0).bind (·.b)=some kb) (hk:Kept (· ∈ Zar w kb p.length) w w') {vs:List Value} (hvs:VRs I β (p'.map (·.1)) vs) (hB:BookW w' kb m (vs.zip (p'.map (·.2))))
  (hnew:∀ b ∈ Zar w' kb p'.length,b ∈ Zar w kb p.length\/(¬base b/\(∀ o,I b o=none)/\∀ u x,u≠t->σ[u]?=some x->¬Zh w β u x b)\/w.heap.size<=b):Rel base w0 I0 I β (σ.set t (.book m p')) w':=by
 have hsl:t < σ.length:=(Xc.1 ht).1
 have hown:∀ b,b ∈ Zar w kb p.length->Zh w β t (.book n p) b:=fun b hb=>⟨kb,hkb,hb⟩
 obtain ⟨b0,k0,c0,vs0,hβ,_⟩:=R.blk t _ ht
 have e0:b0=kb:=by rw [hβ] at hkb;simpa using hkb
 subst e0
 have hI:∀ b,w.heap.size<=b->∀ o,I b o=none:=fun b hb o=>by
  cases h:I b o with
  | none=>rfl
  | some u=>have:=Zb9 (R.imm _ _ _ h);omega
 refine R.upd (Imm.le.refl I) (Bmap.le.refl β) ⟨hk.os,hk.tape,hk.output,hk.size,fun k h=>hk.block k (hbl k h) (fun hm=>(R.own t _ k ht (hown k hm)).1 h)⟩ (fun _ _ _=>rfl) (fun b o u h=>?_) t _ rfl hsl (fun _ _ _=>rfl) (fun u x b hne hx hb=>?_) ⟨b0,k0,c0,vs,hβ,hvs,hB⟩ (fun b hb=>?_) (fun g hg=>R.gen t _ g ht hg) (by simp)
 ·exact hk.cell (R.imm b o u h) (fun hm=>by have:=(R.own t _ b ht (hown b hm)).2 o;rw [this] at h;cases h)
 ·have hlt:=(R.blk u x hx).owns_lt hb
  refine ⟨hk.block b hlt (fun hm=>hne (R.apart u x t _ b hx ht hb (hown b hm))),(R.own u x b hx hb).2,?_⟩
  rintro ⟨kb',e,hm⟩
  rw [hβ] at e
  simp only [Wr,Xa] at e
  subst e
  rcases hnew b hm with h | ⟨_,_,h⟩ | h
  ·exact hne (R.apart u x t _ b hx ht hb (hown b h))
  ·exact h u x hne hx hb
  ·omega
 ·obtain ⟨kb',e,hm⟩:=hb
  rw [hβ] at e
  simp only [Wr,Xa] at e
  subst e
  rcases hnew b hm with h | ⟨h1,h2,_⟩ | h
  ·exact R.own t _ b ht (hown b h)
  ·exact ⟨h1,h2⟩
  ·exact ⟨fun hb=>by have:=hbl b hb;omega,hI b h⟩
theorem Rel.joinB (R:Rel base w0 I0 I β σ w) (hbl:KLt base w) {t u n m0:Nat} {l0:List Int} {xs0:List AVal} (htu:u≠t) (ht:σ[t]?=some (.book n [(.sl u 0 0 m0,l0)])) (hu:σ[u]?=some (.row 0 1 xs0)) (hx:Zb6 xs0=some l0) (hm:m0=l0.length):Rel base w0 I0 I β ((σ.set u (.frow 0 1 [])).set t (.book (n+1) [])) w:=by
 subst hm
 have:=ZjN hx
 subst this
 obtain ⟨kb,k0,c0,vs,hβ,hvs,hB⟩:=R.blk t _ ht
 simp only [Xy,XO,VRs] at hvs
 obtain ⟨v,vs',rfl,hv,rfl⟩:=hvs
 obtain ⟨A,c,rfl,ho,hob⟩:=ZkQ R (t:=u) (l:=l0) hu hv
 have hkb:(β t 0).bind (·.b)=some kb:=by rw [hβ];rfl
 have hdis:∀ g,Zat (.slice A l0.length c)=some g->g ∉ Zar w kb 1:=fun g hg hmem=>htu (R.apart u _ t _ g hu ht (hob g hg) ⟨kb,hkb,hmem⟩)
 obtain ⟨j1,j2⟩:=BookW.join hB ho.ownV hdis
 have R1:=R.release1 hu
 have ht1:(σ.set u (.frow 0 1 []))[t]?=some (.book n [(.sl u 0 0 l0.length,l0)]):=by rw [Wd htu];exact ht
 refine Rel.rebook R1 hbl (t:=t) (p':=[]) ht1 hkb (Kept.refl _ w) (vs:=[]) rfl j1 (fun b hb=>?_)
 rcases j2 b hb with h | h
 ·exact Xs h
 ·refine Xu (Xs ⟨(R.own u _ b hu (hob b h)).1,(R.own u _ b hu (hob b h)).2,fun u' x hne hx hbx=>?_⟩)
  by_cases e:u=u'
  ·subst e
   rw [Xq] at hx
   simp only [if_true] at hx
   split at hx
   ·injection hx with hx;subst hx;exact hbx
   ·cases hx
  ·rw [Wd e] at hx
   exact e (R.apart u _ u' x b hu hx (hob b h) hbx)
theorem Zkf (R:Rel base w0 I0 I β σ w) (hbl:KLt base w) {t u n m kb:Nat} {l:List Int} {xs:List AVal} {v:Value} (htu:u≠t) (ht:σ[t]?=some (.book n [])) (hkb:(β t 0).bind (·.b)=some kb) (hu:σ[u]?=some (.row 0 1 xs)) (hx:Zb6 xs=some l) (hm:m=l.length) (hl:l.length<=65536) (hn:n < 400) (hv:VR I β (.sl u 0 0 m) v) :
  Calls Try.prog 18 #[.pointer (some ⟨kb,0,none⟩),v] w fun e w'=>e=.returned (.tuple #[])/\Rel base w0 I0 I β (σ.set t (.book n [(.sl u 0 0 m,l)])) w':=by
 subst hm
 have:=ZjN hx
 subst this
 obtain ⟨kb',k0,c0,vs,hβ,hvs,hB⟩:=R.blk t _ ht
 have e0:kb'=kb:=by rw [hβ] at hkb;simpa using hkb
 subst e0
 simp only [XO,VRs] at hvs
 subst hvs
 obtain ⟨A,c,rfl,ho,hob⟩:=ZkQ R (t:=u) (l:=l) hu hv
 refine (ZkH hB hn ho hl (fun g hg hmem=>htu (R.apart u _ t _ g hu ht (hob g hg) ⟨kb',hkb,hmem⟩))).mono ?_
 rintro e w' ⟨rfl,hk,_,hP,hnew⟩
 refine ⟨rfl,Rel.rebook R hbl (t:=t) (p':=[(.sl u 0 0 l.length,l)]) ht hkb hk (vs:=[.slice A l.length c]) (by simp only [Xy,XO,VRs];exact ⟨_,_,rfl,hv,rfl⟩) hP (fun b hb=>?_)⟩
 rcases hnew b hb with h | h
 ·exact Xs h
 ·exact Xu (Xu h)
theorem Zmm (R:Rel base w0 I0 I β σ w) (hbl:KLt base w) {t n kb:Nat} {v:Value} (ht:σ[t]?=some (.book n [])) (hkb:(β t 0).bind (·.b)=some kb) (hn:n < 400) (hv:VR I β (.lst true []) v) :
  Calls Try.prog 18 #[.pointer (some ⟨kb,0,none⟩),v] w fun e w'=>e=.returned (.tuple #[])/\Rel base w0 I0 I β (σ.set t (.book (n+1) [])) w':=by
 obtain ⟨kb',k0,c0,vs,hβ,hvs,hB⟩:=R.blk t _ ht
 have e0:kb'=kb:=by rw [hβ] at hkb;simpa using hkb
 subst e0
 simp only [XO,VRs] at hvs
 subst hvs
 simp only [VR,Wf] at hv
 obtain ⟨A,cap,rfl,_,_,hc0,_⟩:=hv
 have : cap=0:=hc0 trivial
 subst this
 refine (ZkH hB hn (A:=A) (c:=0) (l:=[]) ⟨rfl,XM _,by simp [maxLen],Xs rfl⟩ (by simp) (fun g hg=>by simp [ob] at hg)).mono ?_
 rintro e w' ⟨rfl,hk,⟨hF,hnew⟩,_⟩
 refine ⟨rfl,Rel.rebook R hbl (t:=t) (p':=[]) ht hkb hk (vs:=[]) rfl hF (fun b hb=>?_)⟩
 rcases hnew b hb with h | h | h
 ·exact Xs h
 ·simp [ob] at h
 ·exact Xu (Xu h)
end
theorem Zev {base:Nat->Prop} {w0 w:World} {I0 I:Imm} {β:Bmap} {σ:Za} (R:Rel base w0 I0 I β σ w) {n:Nat} {p:List (AVal×List Int)} (ht:σ[0]?=some (.book n p)) {v:Value} (hv:VR I β (.ref 0 0) v):∃ kb,v=.pointer (some ⟨kb,0,none⟩)/\(β 0 0).bind (·.b)=some kb:=by
 simp only [VR] at hv
 obtain ⟨kb,k0,c0,hβ,rfl⟩:=hv
 exact ⟨kb,rfl,by rw [hβ];rfl⟩
theorem ZqR {args:List AVal} {σ σ':Za} {r:AVal} (hp:Zdz args σ=some (r,σ')) :
  (∃ fn,Try.prog.funcs[18]?=some fn/\fn.body.isSome=true/\(fn.name == "runtime.NumGoroutine")=false) /\
  ∀ base w0 I0 I β w (vs:Array Value),KLt base w0->Rel base w0 I0 I β σ w->VRs I β args vs.toList ->
   Calls Try.prog 18 vs w (fun e w'=>∃ u,Ends r e u/\Zbh σ.length base w0 I0 I β r σ' u w'):=by
 refine ⟨⟨Try.f18,Try.func18,by kernel_rfl,by kernel_rfl⟩,fun base w0 I0 I β w vs hb R hv=>?_⟩
 obtain ⟨vs⟩:=vs
 have hbl:=R.base_le hb
 have fin:∀ {e:Ending} {w':World} {m:Nat} {σ2:Za},e=.returned (.tuple #[])->Rel base w0 I0 I β σ2 w'->∃ u,Ends (.tup []) e u/\Zbh m base w0 I0 I β (.tup []) σ2 u w':=fun he hR =>
  ⟨.tuple #[],he,I,β,Imm.le.refl I,KeptE.refl _ β,hR,by simp [ZaA,VR,VRs]⟩
 unfold Zdz at hp
 split at hp
 ·split at hp
  case h_2=>cases hp
  rename_i l hl
  split at hp
  case isFalse=>cases hp
  rename_i hc
  simp only [Xa,Xb] at hp
  obtain ⟨rfl,rfl⟩:=hp
  simp only [VRs] at hv
  obtain ⟨v1,vs1,rfl,hv1,v2,vs2,rfl,hv2,rfl⟩:=hv
  obtain ⟨kb,rfl,hkb⟩:=Zev R rfl hv1
  exact (Zkf R hbl (t:=0) (u:=1) (by decide) rfl hkb rfl hl hc.1 hc.2.1 hc.2.2 hv2).mono fun e w' h=>fin h.1 h.2
 ·split at hp
  case h_2=>cases hp
  rename_i k0 l hk0 hl
  split at hp
  case isFalse=>cases hp
  rename_i hc
  obtain ⟨rfl,hm0,hm,hl2,hn⟩:=hc
  simp only [Xa,Xb] at hp
  obtain ⟨rfl,rfl⟩:=hp
  simp only [VRs] at hv
  obtain ⟨v1,vs1,rfl,hv1,v2,vs2,rfl,hv2,rfl⟩:=hv
  obtain ⟨kb,rfl,hkb⟩:=Zev R rfl hv1
  have R1:=R.joinB hbl (t:=0) (u:=1) (by decide) rfl rfl hk0 hm0
  exact (Zkf R1 hbl (t:=0) (u:=2) (by decide) rfl hkb rfl hl hm hl2 hn hv2).mono fun e w' h=>fin h.1 h.2
 ·split at hp
  case isFalse=>cases hp
  rename_i hn
  simp only [Xa,Xb] at hp
  obtain ⟨rfl,rfl⟩:=hp
  simp only [VRs] at hv
  obtain ⟨v1,vs1,rfl,hv1,v2,vs2,rfl,hv2,rfl⟩:=hv
  obtain ⟨kb,rfl,hkb⟩:=Zev R rfl hv1
  exact (Zmm R hbl (t:=0) rfl hkb hn hv2).mono fun e w' h=>fin h.1 h.2
 ·split at hp
  case h_2=>cases hp
  rename_i k0 hk0
  split at hp
  case isFalse=>cases hp
  rename_i hc
  obtain ⟨rfl,hm0,hn⟩:=hc
  simp only [Xa,Xb] at hp
  obtain ⟨rfl,rfl⟩:=hp
  simp only [VRs] at hv
  obtain ⟨v1,vs1,rfl,hv1,v2,vs2,rfl,hv2,rfl⟩:=hv
  obtain ⟨kb,rfl,hkb⟩:=Zev R rfl hv1
  have R1:=R.joinB hbl (t:=0) (u:=1) (by decide) rfl rfl hk0 hm0
  exact (Zmm R1 hbl (t:=0) rfl hkb hn hv2).mono fun e w' h=>fin h.1 h.2
 ·cases hp
section
variable {base:Nat->Prop} {w0 w w':World} {I0 I:Imm} {β:Bmap} {σ:Za}
theorem Zm9 (R:Rel base w0 I0 I β σ w) (hbl:KLt base w) {t n kb:Nat} (ht:σ[t]?=some (.book n [])) (hkb:(β t 0).bind (·.b)=some kb) (hn:n<=400) :
  Calls Try.prog 21 #[.pointer (some ⟨kb,0,none⟩)] w fun e w'=>e=.returned (.bool true)/\Rel base w0 I0 I β (σ.set t Zc3) w':=by
 have hsl:t < σ.length:=(Xc.1 ht).1
 obtain ⟨kb',k0,c0,vs,hβ,hvs,hB⟩:=R.blk t _ ht
 have e0:kb'=kb:=by rw [hβ] at hkb;simpa using hkb
 subst e0
 simp only [XO,VRs] at hvs
 subst hvs
 obtain ⟨ty,B0,B1,B2,B3,A1,A2,c1,c2,bs,hs,ls,hN,hbk,hnd,hlt⟩:=BookW.num hB
 obtain ⟨p1,p2,p3,p4,p5⟩:=ZkS hnd
 have hap:Zdp bs:=by
  intro i j u v g hij hu hv hg hg'
  rw [Zjk] at hg hg'
  have hbs:(bs.filterMap Zat).Nodup:=by
   unfold Zaf at hnd
   rw [WZ,WD,WD] at hnd
   exact hnd.2.1.2.1
  exact Zkx hbs hij hu hv hg hg'
 have hS:∀ k,bsS bs k->k ∈ Zar w kb' 0/\k≠kb':=by
  rintro k ⟨i,v,hv,hg⟩
  rw [Zjk] at hg
  rw [hbk]
  exact ⟨ZhZ (Xv hv) hg,(p4 v k (Xv hv) hg).1⟩
 refine (Zq7 hN hn hap p1 (fun i v g hv hg=>by
  rw [Zjk] at hg
  have:=p4 v g (Xv hv) hg
  exact ⟨this.1,this.2.1⟩)).mono ?_
 rintro e w' ⟨rfl,hk⟩
 refine ⟨rfl,?_⟩
 have hown:∀ b,b ∈ Zar w kb' 0->Zh w β t (.book n []) b:=fun b hb=>⟨kb',hkb,hb⟩
 have hcells:=hk.blk hN.1 (fun h=>(hS kb' h).2 rfl)
 refine R.upd (Imm.le.refl I) (Bmap.le.refl β) ⟨hk.os,hk.tape,hk.output,hk.size,fun k h=>hk.block k (hbl k h) (fun hm=>(R.own t _ k ht (hown k (hS k hm).1)).1 h)⟩ (fun _ _ _=>rfl) (fun b o u h=>?_) t _ rfl hsl (fun _ _ _=>rfl) (fun u x b hne hx hb=>?_) ⟨kb',k0,c0,_,ty,hβ,hcells,?_⟩ (fun b hb=>?_) (fun g hg=>R.gen t _ g ht hg) (by simp [Zc3])
 ·exact hk.cell (R.imm b o u h) (fun hm=>by have:=(R.own t _ b ht (hown b (hS b hm).1)).2 o;rw [this] at h;cases h)
 ·refine ⟨hk.block b ((R.blk u x hx).owns_lt hb) (fun hm=>hne (R.apart u x t _ b hx ht hb (hown b (hS b hm).1))),(R.own u x b hx hb).2,fun ho=>?_⟩
  have : some kb'=some b:=by rw [<-hkb];exact ho
  injection this with this
  subst this
  exact hne (R.apart u x t _ kb' hx ht hb (hown kb' (by rw [hbk];simp [Zaf])))
 ·simp only [ZbD,VRs,VR]
  exact ⟨_,_,rfl,⟨rfl,rfl⟩,_,_,rfl,⟨rfl,rfl⟩,_,_,rfl,⟨rfl,rfl⟩,_,_,rfl,⟨rfl,rfl⟩,_,_,rfl,⟨rfl,rfl⟩,_,_,rfl,⟨rfl,rfl⟩,rfl⟩
 ·refine R.own t _ b ht (hown b ?_)
  have : some kb'=some b:=by rw [<-hkb];exact hb
  injection this with this
  subst this
  rw [hbk];simp [Zaf]
end
theorem ZoQ {args:List AVal} {σ σ':Za} {r:AVal} (hp:ZeU args σ=some (r,σ')) :
  (∃ fn,Try.prog.funcs[21]?=some fn/\fn.body.isSome=true/\(fn.name == "runtime.NumGoroutine")=false) /\
  ∀ base w0 I0 I β w (vs:Array Value),KLt base w0->Rel base w0 I0 I β σ w->VRs I β args vs.toList ->
   Calls Try.prog 21 vs w (fun e w'=>∃ u,Ends r e u/\Zbh σ.length base w0 I0 I β r σ' u w'):=by
 refine ⟨⟨Try.f21,Try.func21,by kernel_rfl,by kernel_rfl⟩,fun base w0 I0 I β w vs hb R hv=>?_⟩
 obtain ⟨vs⟩:=vs
 have hbl:=R.base_le hb
 have fin:∀ {e:Ending} {w':World} {m:Nat} {σ2:Za},e=.returned (.bool true)->Rel base w0 I0 I β σ2 w'->∃ u,Ends (.bool true) e u/\Zbh m base w0 I0 I β (.bool true) σ2 u w':=fun he hR =>
  ⟨.bool true,he,I,β,Imm.le.refl I,KeptE.refl _ β,hR,by simp [ZaA,VR]⟩
 unfold ZeU at hp
 split at hp
 ·split at hp
  case isFalse=>cases hp
  rename_i hn
  simp only [Xa,Xb] at hp
  obtain ⟨rfl,rfl⟩:=hp
  simp only [VRs] at hv
  obtain ⟨v1,vs1,rfl,hv1,rfl⟩:=hv
  obtain ⟨kb,rfl,hkb⟩:=Zev R rfl hv1
  exact (Zm9 R hbl (t:=0) rfl hkb hn).mono fun e w' h=>fin h.1 h.2
 ·split at hp
  case h_2=>cases hp
  rename_i k0 hk0
  split at hp
  case isFalse=>cases hp
  rename_i hc
  obtain ⟨rfl,hm0,hn⟩:=hc
  simp only [Xa,Xb] at hp
  obtain ⟨rfl,rfl⟩:=hp
  simp only [VRs] at hv
  obtain ⟨v1,vs1,rfl,hv1,rfl⟩:=hv
  obtain ⟨kb,rfl,hkb⟩:=Zev R rfl hv1
  have R1:=R.joinB hbl (t:=0) (u:=1) (by decide) rfl rfl hk0 hm0
  exact (Zm9 R1 hbl (t:=0) rfl hkb hn).mono fun e w' h=>fin h.1 h.2
 ·cases hp
end
section
open Go.Shelf
def Zx1:Ren:=⟨fun | 189=>22 | 125=>28 | 257=>27 | 128=>40 | 129=>41 | 294=>31 | 295=>32 | 296=>33 | 297=>34 | 298=>35 | 299=>36 | 216=>37 | 300=>38 | 301=>39 | 328=>42 | 329=>43 | 330=>44 | 331=>45 | 332=>46 | 215=>47 | 343=>48 | n=>n,fun | 28=>22 | 3=>3 | 46=>47 | 0=>0 | 51=>69 | 53=>59 | 4=>4 | 183=>62 | 182=>61 | 131=>40 | 5=>5 | 9=>9 | 218=>71 | 222=>75 | 228=>77 | 229=>78 | n=>n,fun | n=>n⟩
theorem ZkI:Go.Proofs.Lays.n189 Try.prog Zx1:={ mixed:=by kernel_rfl,f125:=Try.func28.trans (congrArg some (by kernel_rfl)),f128:=Try.func40.trans (congrArg some (by kernel_rfl)),f129:=Try.func41.trans (congrArg some (by kernel_rfl)),f189:=Try.func22.trans (congrArg some (by kernel_rfl)),f215:=Try.func47.trans (congrArg some (by kernel_rfl)),f216:=Try.func37.trans (congrArg some (by kernel_rfl)),f257:=Try.func27.trans (congrArg some (by kernel_rfl)),f294:=Try.func31.trans (congrArg some (by kernel_rfl)),f295:=Try.func32.trans (congrArg some (by kernel_rfl)),f296:=Try.func33.trans (congrArg some (by kernel_rfl)),f297:=Try.func34.trans (congrArg some (by kernel_rfl)),f298:=Try.func35.trans (congrArg some (by kernel_rfl)),f299:=Try.func36.trans (congrArg some (by kernel_rfl)),f300:=Try.func38.trans (congrArg some (by kernel_rfl)),f301:=Try.func39.trans (congrArg some (by kernel_rfl)),f328:=Try.func42.trans (congrArg some (by kernel_rfl)),f329:=Try.func43.trans (congrArg some (by kernel_rfl)),f330:=Try.func44.trans (congrArg some (by kernel_rfl)),f331:=Try.func45.trans (congrArg some (by kernel_rfl)),f332:=Try.func46.trans (congrArg some (by kernel_rfl)),f343:=Try.func48.trans (congrArg some (by kernel_rfl)),t0:=Try.underlying0,a0:=Try.isAgg0,z0:=Try.sizeOf0,v0:=Try.zeroValue0,t3:=Try.underlying3,a3:=Try.isAgg3,z3:=Try.sizeOf3,v3:=Try.zeroValue3,t4:=Try.underlying4,a4:=Try.isAgg4,z4:=Try.sizeOf4,v4:=Try.zeroValue4,t5:=Try.underlying5,a5:=Try.isAgg5,z5:=Try.sizeOf5,v5:=Try.zeroValue5,t9:=Try.underlying9,a9:=Try.isAgg9,z9:=Try.sizeOf9,v9:=Try.zeroValue9,t28:=Try.underlying22,a28:=Try.isAgg22,z28:=Try.sizeOf22,v28:=Try.zeroValue22,t46:=Try.underlying47,a46:=Try.isAgg47,z46:=Try.sizeOf47,v46:=Try.zeroValue47,t51:=Try.underlying69,a51:=Try.isAgg69,z51:=Try.sizeOf69,v51:=Try.zeroValue69,t53:=Try.underlying59,a53:=Try.isAgg59,z53:=Try.sizeOf59,v53:=Try.zeroValue59,t131:=Try.underlying40,a131:=Try.isAgg40,z131:=Try.sizeOf40,v131:=Try.zeroValue40,t182:=Try.underlying61,a182:=Try.isAgg61,z182:=Try.sizeOf61,v182:=Try.zeroValue61,t183:=Try.underlying62,a183:=Try.isAgg62,z183:=Try.sizeOf62,v183:=Try.zeroValue62,t218:=Try.underlying71,a218:=Try.isAgg71,z218:=Try.sizeOf71,v218:=Try.zeroValue71,t222:=Try.underlying75,a222:=Try.isAgg75,z222:=Try.sizeOf75,v222:=Try.zeroValue75,t228:=Try.underlying77,a228:=Try.isAgg77,z228:=Try.sizeOf77,v228:=Try.zeroValue77,t229:=Try.underlying78,a229:=Try.isAgg78,z229:=Try.sizeOf78,v229:=Try.zeroValue78 }
end
section
set_option maxRecDepth 100000
theorem Zi3:Try.prog.follows .mixedOrders=true:=by kernel_rfl
theorem ZkZ {α:Type} {d v:α}:∀ {l:List (Nat×α)} {n:Nat},ZcX d l n=v->v=d\/(n,v) ∈ l
 | [],n,h=>Xs h.symm
 | (k,w)::r,n,h=>by
  simp only [ZcX] at h
  split at h
  ·rename_i e;subst e h;exact Xu (by simp)
  ·rcases ZkZ h with h | h
   ·exact Xs h
   ·exact Xu (by simp [h])
theorem ZmX:Zg5 Try.prog PR:=by
 intro f g h args σ r σ' hg
 rcases ZkZ h with h | h
 ·cases h
 unfold Zm1 at h
 simp only [XC,Xb,Xa,XaP,or_false] at h
 rcases h with ⟨rfl,rfl⟩ | h
 ·exact Zpp ⟨Try.f22,Try.func22,by kernel_rfl,by kernel_rfl⟩ (fun blk off cap zs w=>Any.slices_Sort_int ZkI blk off cap zs w) (fun p cap w=>Any.slices_Sort_int_none ZkI p cap w) hg
 rcases h with ⟨rfl,rfl⟩ | h
 ·exact Zq0 hg
 rcases h with ⟨rfl,rfl⟩ | h
 ·exact ZqR hg
 rcases h with ⟨rfl,rfl⟩ | h
 ·exact ZoQ hg
 rcases h with ⟨rfl,rfl⟩ | h
 ·exact ZvB hg
 exact absurd h.2 (by simp)
end
section
def Zja:Zs:=(.seq (.region [oI 4 (.mov (.c (.bool false)))] none [1,0]) (.seq (.region [oM 6 0,oM 7 1,oI 8 (.call 15 0 true [(.t 6),(.t 7)]),oM 5 8] none [5,1,0]) (.seq (.region [oM 9 0,oI 10 (.nilchk (.t 9)),oF 11 0 10,oL 12 11,oM 13 1,oN (.mdel 0 (.t 12) (.t 13))] none [5]) (.seq (.region [oM 14 5,oM 4 14] none [4]) .ret))))
def Zie:Zau:=⟨[(.tmp 4)],Zja⟩
theorem Zs2:FC 13=some Zie:=by kernel_rfl
theorem Zzw:Zie.body=Zja:=rfl
theorem Zth:Zie.res=[(.tmp 4)]:=rfl
def ZcC:Zs:=(.seq (.region [oI 4 (.mov (.c (.bool false)))] none [1,0]) (.seq (.region [oM 8 0,oI 9 (.nilchk (.t 8)),oF 10 0 9,oL 11 10,oM 12 1,oI 13 (.look 0 (.agg []) true (.t 11) (.t 12)),oM 7 13,oI 14 (.ext (.t 7) 0),oI 15 (.ext (.t 7) 1),oI 5 (.alloc []),oN (.st 0 (.t 5) (.t 14)),oM 6 15] none [6]) (.seq (.region [oM 16 6,oM 4 16] none [4]) .ret)))
def Zit:Zau:=⟨[(.tmp 4)],ZcC⟩
theorem ZAo:FC 15=some Zit:=by kernel_rfl
theorem Zc5:Zit.body=ZcC:=rfl
theorem Zda:Zit.res=[(.tmp 4)]:=rfl
def ZeM:Zs:=(.seq (.region [oI 4 (.mov (.c (.bool false)))] none [1,0]) (.seq (.seq (.region [oM 5 1,oI 6 (.bin .lss (.t 5) (.c (.int .i64 1))),oM 7 6,⟨(some 8),(.mov (.t 1)),(some (7,false)),[]⟩,⟨(some 9),(.bin .gtr (.t 8) (.c (.int .i64 65535))),(some (7,false)),[]⟩,oI 10 (.pick (.t 7) (.c (.bool true)) (.t 9)),oM 11 10,⟨(some 12),(.mov (.t 0)),(some (11,false)),[]⟩,⟨(some 13),(.mov (.t 1)),(some (11,false)),[]⟩,⟨(some 14),(.call 15 0 true [(.t 12),(.t 13)]),(some (11,false)),[]⟩,oI 15 (.pick (.t 11) (.c (.bool true)) (.t 14))] none [15,1,0]) (.cond (.t 15) (.seq (.region [oI 4 (.mov (.c (.bool false)))] none [4]) .ret) .skip)) (.seq (.region [oM 16 0,oI 17 (.nilchk (.t 16)),oF 18 0 17,oL 19 18,oM 20 1,oI 21 (.build [] []),oN (.mset 0 (.t 19) (.t 20) (.t 21))] none []) (.seq (.region [oI 4 (.mov (.c (.bool true)))] none [4]) .ret))))
def Zh8:Zau:=⟨[(.tmp 4)],ZeM⟩
theorem ZhE:FC 12=some Zh8:=by kernel_rfl
theorem Zg4:Zh8.body=ZeM:=rfl
theorem ZgT:Zh8.res=[(.tmp 4)]:=rfl
def ZhS:Zs:=(.seq (.region [oI 2 (.mov (.c (.int .i64 0)))] none [0]) (.seq (.region [oM 3 0,oI 4 (.nilchk (.t 3)),oF 5 0 4,oL 6 5,oI 7 (.mlen (.t 6)),oM 2 7] none [2]) .ret))
def ZiM:Zau:=⟨[(.tmp 2)],ZhS⟩
theorem Znz:FC 20=some ZiM:=by kernel_rfl
theorem ZqJ:ZiM.body=ZhS:=rfl
theorem ZvS:ZiM.res=[(.tmp 2)]:=rfl
def Ze0:Zs:=(.seq (.region [oI 2 (.mov (.c (.int .i64 0))),oI 3 (.mov (.c (.bool false)))] none [3,2]) .ret)
def Zh9:Zs:=Ze0
def ZgG:=xw Zh9 Ze0 rfl
def ZeO:Zs:=(.seq (.seq (.region [oM 5 4,oI 6 (.bin .leq (.t 5) (.c (.int .i64 65535)))] none [6,4,0]) (.cond (.t 6) .skip (.exit 0))) (.seq (.block 1 (.seq (.region [oM 9 0,oM 10 4,oI 11 (.call 12 0 true [(.t 9),(.t 10)])] none [11,4,0]) (.cond (.t 11) (.seq (.region [oM 12 4,oM 2 12,oI 3 (.mov (.c (.bool true)))] none [3,2]) .ret) .skip))) (.region [oM 7 4,oI 8 (.bin .add (.t 7) (.c (.int .i64 1))),oM 4 8] none [4,0])))
def ZjG:Zs:=ZeO
def ZgR:=xw ZjG ZeO rfl
def ZeE:Zs:=(.seq (.region [oI 2 (.mov (.c (.int .i64 0))),oI 3 (.mov (.c (.bool false)))] none [0]) (.seq (.seq (.region [oI 4 (.mov (.c (.int .i64 1)))] none [4,0]) (.block 0 (.loop [4,0] ZjG))) Zh9))
def Zhv:Zau:=⟨[(.tmp 2),(.tmp 3)],ZeE⟩
theorem Zxt:FC 10=some Zhv:=by kernel_rfl
theorem ZhA:Zhv.body=ZeE:=rfl
theorem Zhu:Zhv.res=[(.tmp 2),(.tmp 3)]:=rfl
noncomputable def ZfI (m:Nat) (tm:Tms) (σ:Za):Option (AVal×Za):=(ZaS m Zhv (ZbY FC PR BY m Zh9 (Xad (Zbl 0) (evL FC PR BY m [4,0] ZjG tm σ))))
def ZeC:Zs:=(.seq (.region [oI 4 (.mov (.c (.bool false)))] none [4]) .ret)
def Zjj:Zs:=ZeC
def ZgJ:=xw Zjj ZeC rfl
def Ze3:Zs:=(.seq (.seq (.region [oM 7 5,oM 8 0,oI 9 (.nilchk (.t 8)),oF 10 0 9,oL 11 10,oI 12 (.len (.t 11)),oI 13 (.bin .lss (.t 7) (.t 12))] none [13,5,1,0]) (.cond (.t 13) .skip (.exit 0))) (.seq (.block 1 (.seq (.region [oM 16 0,oI 17 (.nilchk (.t 16)),oF 18 0 17,oL 19 18,oM 20 5,oI 21 (.iaddr 1 (.t 19) (.t 20)),oL 22 21,oM 23 1,oI 24 (.bin .eql (.t 22) (.t 23))] none [24,5,1,0]) (.cond (.t 24) (.seq (.region [oI 6 (.mov (.c (.lst true [])))] none [6,5,0]) (.seq (.region [oM 25 0,oM 26 6,oM 27 0,oI 28 (.nilchk (.t 27)),oF 29 0 28,oL 30 29,oM 31 5,oI 32 (.slice 1 (.t 30) none (some (.t 31)) none),oI 33 (.app 1 8 (.int .i64 0) (.t 26) (.t 32)),oM 34 0,oI 35 (.nilchk (.t 34)),oF 36 0 35,oL 37 36,oM 38 5,oI 39 (.bin .add (.t 38) (.c (.int .i64 1))),oI 40 (.slice 1 (.t 37) (some (.t 39)) none none),oI 41 (.app 1 8 (.int .i64 0) (.t 33) (.t 40)),oI 42 (.nilchk (.t 25)),oF 43 0 42,oN (.st 1 (.t 43) (.t 41))] (some [(5,12),(7,12),(8,12),(5,15),(7,15),(8,15)]) []) (.seq (.region [oI 4 (.mov (.c (.bool true)))] none [4]) .ret))) .skip))) (.region [oM 14 5,oI 15 (.bin .add (.t 14) (.c (.int .i64 1))),oM 5 15] none [5,1,0])))
def ZhT:Zs:=Ze3
def Zhb:=xw ZhT Ze3 rfl
def ZeS:Zs:=(.seq (.region [oI 4 (.mov (.c (.bool false)))] none [1,0]) (.seq (.seq (.region [oI 5 (.mov (.c (.int .i64 0)))] none [5,1,0]) (.block 0 (.loop [5,1,0] ZhT))) Zjj))
def Zgs:Zau:=⟨[(.tmp 4)],ZeS⟩
theorem ZyS:FC 14=some Zgs:=by kernel_rfl
theorem Zhl:Zgs.body=ZeS:=rfl
theorem Zge:Zgs.res=[(.tmp 4)]:=rfl
noncomputable def ZfO (m:Nat) (tm:Tms) (σ:Za):Option (AVal×Za):=(ZaS m Zgs (ZbY FC PR BY m Zjj (Xad (Zbl 0) (evL FC PR BY m [5,1,0] ZhT tm σ))))
def Zet:Zs:=(.seq (.region [oI 4 (.mov (.c (.bool false)))] none [4]) .ret)
def ZiH:Zs:=Zet
def Zgq:=xw ZiH Zet rfl
def ZeH:Zs:=(.seq (.seq (.region [oM 6 5,oM 7 0,oI 8 (.nilchk (.t 7)),oF 9 0 8,oL 10 9,oI 11 (.len (.t 10)),oI 12 (.bin .lss (.t 6) (.t 11))] none [12,5,1,0]) (.cond (.t 12) .skip (.exit 0))) (.seq (.block 1 (.seq (.region [oM 15 0,oI 16 (.nilchk (.t 15)),oF 17 0 16,oL 18 17,oM 19 5,oI 20 (.iaddr 1 (.t 18) (.t 19)),oL 21 20,oM 22 1,oI 23 (.bin .eql (.t 21) (.t 22))] none [23,5,1,0]) (.cond (.t 23) (.seq (.region [oI 4 (.mov (.c (.bool true)))] none [4]) .ret) .skip))) (.region [oM 13 5,oI 14 (.bin .add (.t 13) (.c (.int .i64 1))),oM 5 14] none [5,1,0])))
def Ziq:Zs:=ZeH
def Zhq:=xw Ziq ZeH rfl
def ZeF:Zs:=(.seq (.region [oI 4 (.mov (.c (.bool false)))] none [1,0]) (.seq (.seq (.region [oI 5 (.mov (.c (.int .i64 0)))] none [5,1,0]) (.block 0 (.loop [5,1,0] Ziq))) ZiH))
def ZhI:Zau:=⟨[(.tmp 4)],ZeF⟩
theorem Ztf:FC 16=some ZhI:=by kernel_rfl
theorem Zhm:ZhI.body=ZeF:=rfl
theorem Zgp:ZhI.res=[(.tmp 4)]:=rfl
noncomputable def Zfc (m:Nat) (tm:Tms) (σ:Za):Option (AVal×Za):=(ZaS m ZhI (ZbY FC PR BY m ZiH (Xad (Zbl 0) (evL FC PR BY m [5,1,0] Ziq tm σ))))
def Zcy:Zs:=(.seq (.seq (.region [oM 33 5,oM 34 0,oI 35 (.nilchk (.t 34)),oF 36 0 35,oL 37 36,oI 38 (.len (.t 37)),oI 39 (.bin .lss (.t 33) (.t 38)),oM 40 39,⟨(some 41),(.mov (.t 0)),(some (40,true)),[]⟩,⟨(some 42),(.nilchk (.t 41)),(some (40,true)),[]⟩,⟨(some 43),(.faddr 0 (.t 42)),(some (40,true)),[]⟩,⟨(some 44),(.ld none (.t 43)),(some (40,true)),[]⟩,⟨(some 45),(.mov (.t 5)),(some (40,true)),[]⟩,⟨(some 46),(.iaddr 1 (.t 44) (.t 45)),(some (40,true)),[]⟩,⟨(some 47),(.ld none (.t 46)),(some (40,true)),[]⟩,⟨(some 48),(.mov (.t 1)),(some (40,true)),[]⟩,⟨(some 49),(.bin .eql (.t 47) (.t 48)),(some (40,true)),[]⟩,oI 50 (.pick (.t 40) (.t 49) (.c (.bool false)))] none [50,5,1,0]) (.cond (.t 50) (.seq (.region [oI 4 (.mov (.c (.bool false)))] none [4]) .ret) .skip)) (.seq (.region [oI 6 (.mov (.c (.lst true [])))] none [6,5,1,0]) (.seq (.region [oM 51 0,oM 52 6,oM 53 0,oI 54 (.nilchk (.t 53)),oF 55 0 54,oL 56 55,oM 57 5,oI 58 (.slice 1 (.t 56) none (some (.t 57)) none),oI 59 (.app 1 8 (.int .i64 0) (.t 52) (.t 58)),oM 60 1,oI 61 (.bslice false 1 1 (.int .i64 0) [(0,(.t 60))]),oI 62 (.app 1 8 (.int .i64 0) (.t 59) (.t 61)),oM 63 0,oI 64 (.nilchk (.t 63)),oF 65 0 64,oL 66 65,oM 67 5,oI 68 (.slice 1 (.t 66) (some (.t 67)) none none),oI 69 (.app 1 8 (.int .i64 0) (.t 62) (.t 68)),oI 70 (.nilchk (.t 51)),oF 71 0 70,oN (.st 1 (.t 71) (.t 69))] (some [(5,10),(7,10),(8,10),(5,15),(7,15),(8,15),(10,15),(11,15),(5,17),(7,17),(8,17),(10,17),(11,17)]) []) (.seq (.region [oI 4 (.mov (.c (.bool true)))] none [4]) .ret))))
def ZmN:Zs:=Zcy
def ZcO:=xw ZmN Zcy rfl
def Zck:Zs:=(.seq (.seq (.region [oM 13 5,oM 14 0,oI 15 (.nilchk (.t 14)),oF 16 0 15,oL 17 16,oI 18 (.len (.t 17)),oI 19 (.bin .lss (.t 13) (.t 18)),oM 20 19,⟨(some 21),(.mov (.t 0)),(some (20,true)),[]⟩,⟨(some 22),(.nilchk (.t 21)),(some (20,true)),[]⟩,⟨(some 23),(.faddr 0 (.t 22)),(some (20,true)),[]⟩,⟨(some 24),(.ld none (.t 23)),(some (20,true)),[]⟩,⟨(some 25),(.mov (.t 5)),(some (20,true)),[]⟩,⟨(some 26),(.iaddr 1 (.t 24) (.t 25)),(some (20,true)),[]⟩,⟨(some 27),(.ld none (.t 26)),(some (20,true)),[]⟩,⟨(some 28),(.mov (.t 1)),(some (20,true)),[]⟩,⟨(some 29),(.bin .lss (.t 27) (.t 28)),(some (20,true)),[]⟩,oI 30 (.pick (.t 20) (.t 29) (.c (.bool false)))] none [30,5,1,0]) (.cond (.t 30) .skip (.exit 0))) (.block 1 (.region [oM 31 5,oI 32 (.bin .add (.t 31) (.c (.int .i64 1))),oM 5 32] none [5,1,0])))
def ZhK:Zs:=Zck
def ZcZ:=xw ZhK Zck rfl
def Zcs:Zs:=(.seq (.region [oI 4 (.mov (.c (.bool false)))] none [1,0]) (.seq (.seq (.region [oM 7 1,oI 8 (.bin .lss (.t 7) (.c (.int .i64 1))),oM 9 8,⟨(some 10),(.mov (.t 1)),(some (9,false)),[]⟩,⟨(some 11),(.bin .gtr (.t 10) (.c (.int .i64 65535))),(some (9,false)),[]⟩,oI 12 (.pick (.t 9) (.c (.bool true)) (.t 11))] none [12,1,0]) (.cond (.t 12) (.seq (.region [oI 4 (.mov (.c (.bool false)))] none [4]) .ret) .skip)) (.seq (.region [oI 5 (.mov (.c (.int .i64 0)))] none [5,1,0]) (.seq (.block 0 (.loop [5,1,0] ZhK)) ZmN))))
def Zjm:Zau:=⟨[(.tmp 4)],Zcs⟩
theorem ZhF:FC 8=some Zjm:=by kernel_rfl
theorem ZcS:Zjm.body=Zcs:=rfl
theorem ZcJ:Zjm.res=[(.tmp 4)]:=rfl
def ZeD:Zs:=(.seq (.region [oM 28 4,oM 29 0,oM 30 4,oI 31 (.call 8 1 true [(.t 29),(.t 30)]),oM 2 28,oM 3 31] none [3,2]) .ret)
def ZlP:Zs:=ZeD
def ZhD:=xw ZlP ZeD rfl
def ZeR:Zs:=(.seq (.seq (.region [oM 6 5,oM 7 0,oI 8 (.nilchk (.t 7)),oF 9 0 8,oL 10 9,oI 11 (.len (.t 10)),oI 12 (.bin .lss (.t 6) (.t 11)),oM 13 12,⟨(some 14),(.mov (.t 0)),(some (13,true)),[]⟩,⟨(some 15),(.nilchk (.t 14)),(some (13,true)),[]⟩,⟨(some 16),(.faddr 0 (.t 15)),(some (13,true)),[]⟩,⟨(some 17),(.ld none (.t 16)),(some (13,true)),[]⟩,⟨(some 18),(.mov (.t 5)),(some (13,true)),[]⟩,⟨(some 19),(.iaddr 1 (.t 17) (.t 18)),(some (13,true)),[]⟩,⟨(some 20),(.ld none (.t 19)),(some (13,true)),[]⟩,⟨(some 21),(.mov (.t 4)),(some (13,true)),[]⟩,⟨(some 22),(.bin .eql (.t 20) (.t 21)),(some (13,true)),[]⟩,oI 23 (.pick (.t 13) (.t 22) (.c (.bool false)))] none [23,5,4,0]) (.cond (.t 23) .skip (.exit 0))) (.seq (.block 1 (.region [oM 26 4,oI 27 (.bin .add (.t 26) (.c (.int .i64 1))),oM 4 27] none [5,4,0])) (.region [oM 24 5,oI 25 (.bin .add (.t 24) (.c (.int .i64 1))),oM 5 25] none [5,4,0])))
def Ziu:Zs:=ZeR
def Zf7:=xw Ziu ZeR rfl
def ZeJ:Zs:=(.seq (.region [oI 2 (.mov (.c (.int .i64 0))),oI 3 (.mov (.c (.bool false)))] none [0]) (.seq (.region [oI 4 (.mov (.c (.int .i64 1)))] none [4,0]) (.seq (.seq (.region [oI 5 (.mov (.c (.int .i64 0)))] none [5,4,0]) (.block 0 (.loop [5,4,0] Ziu))) ZlP)))
def Zi5:Zau:=⟨[(.tmp 2),(.tmp 3)],ZeJ⟩
theorem ZAI:FC 11=some Zi5:=by kernel_rfl
theorem Zhj:Zi5.body=ZeJ:=rfl
theorem ZgF:Zi5.res=[(.tmp 2),(.tmp 3)]:=rfl
def ZfY:Zs:=(.seq (.region [oM 19 3,oM 2 19] none [2]) .ret)
def Zjv:Zs:=ZfY
def Ziy:=xw Zjv ZfY rfl
def ZfF:Zs:=(.seq (.region [oI 12 (.bin .lss (.t 11) (.t 10))] none [12,11,10,9,3]) (.seq (.cond (.t 12) .skip (.exit 0)) (.seq (.block 1 (.seq (.region [oI 13 (.iaddr 1 (.t 9) (.t 11)),oL 14 13,oM 5 14] none [11,10,9,5,3]) (.region [oM 15 3,oM 16 5,oI 17 (.call 12 0 true [(.t 15),(.t 16)])] none [11,10,9,3]))) (.region [oI 18 (.bin .add (.t 11) (.c (.int .i64 1))),oM 11 18] none [11,10,9,3]))))
def Zj3:Zs:=ZfF
def ZiA:=xw Zj3 ZfF rfl
def Zf1:Zs:=(.seq (.region [oI 2 (.mov (.c .nilp))] none [0]) (.seq (.region [oI 6 .mkmap,oI 7 (.build [.nilm] [(0,1,(.t 6))]),oI 8 (.box (.t 7)),oM 3 8] none [3,0]) (.seq (.seq (.region [oM 9 0,oI 10 (.len (.t 9)),oI 11 (.mov (.c (.int .i64 0)))] none [11,10,9,3]) (.block 0 (.loop [11,10,9,3] Zj3))) Zjv)))
def Zhr:Zau:=⟨[(.tmp 2)],Zf1⟩
theorem ZsU:FC 6=some Zhr:=by kernel_rfl
theorem ZjQ:Zhr.body=Zf1:=rfl
theorem ZiZ:Zhr.res=[(.tmp 2)]:=rfl
noncomputable def Zhf (m:Nat) (tm:Tms) (σ:Za):Option (AVal×Za):=(ZaS m Zhr (ZbY FC PR BY m Zjv (Xad (Zbl 0) (evL FC PR BY m [11,10,9,3] Zj3 tm σ))))
end
section
set_option maxRecDepth 100000
def ZvF:Ann:={ nt:=21,lr:=fun i=>if i=0 then [0] else if i=1 then [3,0] else if i=6 then [3] else [2] }
def Znx:Ann:={ nt:=21,keep:=[9,8],lr:=fun _=>[8,3] }
def c1A:Zs:=.seq (.region [oI 2 (.mov (.c (.lst true [])))] none [0]) (.seq (.region [oI 3 (.mov (.c (.lst true [])))] none [3,0]) .skip)
def Zg3:List AOp:=[⟨some 5,.mov (.t 0),none,[]⟩,⟨some 6,.nilchk (.t 5),none,[0]⟩,⟨some 7,.faddr 0 (.t 6),none,[1]⟩,⟨some 8,.ld none (.t 7),none,[2]⟩]
def Zb2:List AOp:=[⟨some 13,.ext (.t 12) 0,none,[0]⟩,⟨some 4,.mov (.t 13),none,[1,0,1]⟩]
def c2A:Zs:=.region [oM 14 3,oM 15 4,oI 16 (.bslice false 1 1 (.int .i64 0) [(0,(.t 15))]),oI 17 (.app 1 8 (.int .i64 0) (.t 14) (.t 16)),oM 3 17] none [8,3]
def c3A:Zs:=.seq (.region [oM 18 3,oI 19 (.call 22 0 true [(.t 18)])] none [3]) (.seq (.region [oM 20 3,oM 2 20] none [2]) .ret)
theorem Zsy:ZmL Try.prog 17 ZvF Znx 21 2 4 8 9 10 11 12 0 1 [8,3] Zg3 Zb2 c1A c2A c3A [.tmp 2] :=
 ⟨_,_,_,_,_,_,_,_,_,_,_,_,_,_,_,_,_,_,_,Try.func17,by kernel_rfl,rfl,by kernel_rfl,rfl,rfl,rfl,rfl,rfl,rfl,rfl,rfl,Try.underlying48,rfl,rfl,rfl,rfl,rfl,rfl,rfl,rfl,rfl,by kernel_rfl,by kernel_rfl,by kernel_rfl,by kernel_rfl,by kernel_rfl,rfl,rfl,rfl,by decide⟩
noncomputable def ZgI:List AVal->Za->Option (AVal×Za):=ZgB FC PR BY [8,3] 8 12 1 Zg3 Zb2 c1A c2A c3A [.tmp 2]
noncomputable def PR2:Zbr:=fun f=>if f=17 then some ZgI else PR f
noncomputable abbrev E2:ZV:=EV FC PR2 BY
theorem Zns:OLe E E2:=by
 refine ZqU (fun f hf=>?_) (fun f g hg=>?_)
 ·unfold PR2
  rw [if_neg (by rintro rfl;revert hf;decide)]
  exact hf
 ·by_cases h1:f=17
  ·subst h1
   have : PR 17=some Ziv:=by rfl
   rw [this] at hg;injection hg with hg;subst hg
   exact Xu fun _ _=>rfl
  refine Xs ?_
  unfold PR2
  rw [if_neg h1]
  exact hg
theorem Zks {f:Nat} {fn:Zau} (hp:PR2 f=none) (hf:FC f=some fn) (args:List AVal) (σ:Za):E2 f args σ=ZaS σ.length fn (evC FC PR2 BY σ.length fn.body (enterA 0 args []) σ):=Zk1 hp hf args σ
theorem Zz7 (args:List AVal) (σ:Za):E2 17 args σ=ZgI args σ:=ZjI (by rfl) args σ
theorem Zte {args:List AVal} {σ σ':Za} {r:AVal} (hg:ZgI args σ=some (r,σ')) :
  (∃ fn,Try.prog.funcs[17]?=some fn/\fn.body.isSome=true/\(fn.name == "runtime.NumGoroutine")=false) /\
  ∀ base w0 I0 I β w (vs:Array Value),KLt base w0->Rel base w0 I0 I β σ w->VRs I β args vs.toList ->
   Calls Try.prog 17 vs w (fun e w'=>∃ u,Ends r e u/\Zbh σ.length base w0 I0 I β r σ' u w') :=
 Zpw Zi3 (fun n=>by
  have h:Zam FC PR BY n=Zam CF PR BY n:=ZhP CF PR BY n
  rw [h]
  exact Zik Zi3 ZmX ann BY n) Zsy hg
theorem Zox:Zg5 Try.prog PR2:=by
 intro f g h args σ r σ' hg
 unfold PR2 at h
 split at h
 ·rename_i e;subst e
  injection h with h;subst h
  exact Zte hg
 ·exact ZmX f g h args σ r σ' hg
theorem Zpo:Zao Try.prog E2:=by
 have h:E2=EV CF PR2 BY:=Zo2 CF PR2 BY
 rw [h]
 exact ZwX Zi3 Zox ann BY
end
section
open Go.RowKit
theorem ZzL (id:Nat) (tm:Tms) (σ:Za):Zbl id (.normal,tm,σ)=(.normal,tm,σ):=rfl
theorem Zyd (id i:Nat) (tm:Tms) (σ:Za):Zbl id (.exit i,tm,σ)=if i=id then (.normal,tm,σ) else (.exit i,tm,σ):=by simp only [Zbl]
theorem Zu1 (id:Nat) (tm:Tms) (σ:Za):Zbl id (.ret,tm,σ)=(.ret,tm,σ):=rfl
theorem ZoG (id:Nat) (x:AVal) (tm:Tms) (σ:Za):Zbl id (.panic x,tm,σ)=(.panic x,tm,σ):=rfl
section
variable (O:ZV) (bf:Nat->Bool)
def Zcq (c:Cls):Option (Tms×Za×List Cls×Option AVal)->Option (Tms×Za×List Cls×Option AVal)
 | none=>none
 | some (tm,σ,cs,p)=>some (tm,σ,c::cs,p)
def Zd4 (c:List Cls):Option (Tms×Za×List Cls×Option AVal)->Option (Tms×Za×List Cls×Option AVal)
 | none=>none
 | some (tm,σ,cs,p)=>some (tm,σ,c++cs,p)
def kC (d:Option Nat) (os:List AOp) (s:Nat) (tm:Tms):Option (AVal×Za×Cls)->Option (Tms×Za×List Cls×Option AVal)
 | none=>none
 | some (v,σ,c)=>if ZaD v then some (tput tm d v,σ,[c],some (ZaA v)) else Zcq c (ZY O bf os s (tput tm d v) σ)
def ZdG (ops:List AOp) (L:Nat) (l:List (Nat×Nat)) (live:List Nat):Option (Tms×Za×List Cls×Option AVal)->Option (ZaB×Tms×Za)
 | none=>none
 | some (_,σ,cs,some x)=>if Zej ops L l cs then some (.panic x,[],σ) else none
 | some (tm,σ,cs,none)=>if Zcd ops L l cs then some (.normal,keepL live tm,σ) else none
variable {O bf}
theorem ZlC (s:Nat) (tm:Tms) (σ:Za):ZY O bf [] s tm σ=some (tm,σ,[],none):=rfl
theorem Zpk (c:Cls) (tm:Tms) (σ:Za) (cs:List Cls) (p:Option AVal):Zcq c (some (tm,σ,cs,p))=some (tm,σ,c::cs,p):=rfl
theorem ZrS (c:Cls):Zcq c none=none:=rfl
theorem ZtK (c:Cls) (q:Prop) [Decidable q] (x y:Option (Tms×Za×List Cls×Option AVal)):Zcq c (if q then x else y)=if q then Zcq c x else Zcq c y:=by split <;> rfl
theorem Zy6 (c:List Cls) (tm:Tms) (σ:Za) (cs:List Cls) (p:Option AVal):Zd4 c (some (tm,σ,cs,p))=some (tm,σ,c++cs,p):=rfl
theorem ZpT (c:List Cls):Zd4 c none=none:=rfl
theorem ZxL (c:List Cls) (q:Prop) [Decidable q] (x y:Option (Tms×Za×List Cls×Option AVal)):Zd4 c (if q then x else y)=if q then Zd4 c x else Zd4 c y:=by split <;> rfl
theorem Zgu {o:AOp} {os:List AOp} {s:Nat} {tm tm1:Tms} {σ σ1:Za} {v:AVal} {c:Cls} (h:ZS O bf o s tm σ=some (v,tm1,σ1,c)) (hn:ZaD v=false):ZY O bf (o::os) s tm σ=Zcq c (ZY O bf os (s+nsite o.ins) tm1 σ1):=by
 rw [Zl7 h hn]
 cases ZY O bf os (s+nsite o.ins) tm1 σ1 <;> rfl
theorem Zi4 (d:Option Nat) (i:Ins) (af:List Nat) (os:List AOp) (s:Nat) (tm:Tms) (σ:Za):ZY O bf (⟨d,i,none,af⟩::os) s tm σ=kC O bf d os (s+nsite i) tm (exI O bf i s tm σ):=by
 cases h:exI O bf i s tm σ with
 | none=>exact Ze7 (by rw [ZgO,h];rfl)
 | some q =>
  obtain ⟨v,σ1,c⟩:=q
  have hs:ZS O bf ⟨d,i,none,af⟩ s tm σ=some (v,tput tm d v,σ1,c):=by rw [ZgO,h];rfl
  cases hp:ZaD v with
  | true =>
   obtain ⟨x,rfl⟩:=Zgr hp
   exact Zhi hs
  | false =>
   rw [Zgu hs hp]
   simp only [kC,hp,Xw,if_false]
theorem Zh0 (d:Option Nat) (os:List AOp) (s:Nat) (tm:Tms) (v:AVal) (σ:Za) (c:Cls) (h:ZaD v=false):kC O bf d os s tm (some (v,σ,c))=Zcq c (ZY O bf os s (tput tm d v) σ):=by
 simp only [kC,h,Xw,if_false]
theorem ZzX (d:Option Nat) (os:List AOp) (s:Nat) (tm:Tms) (x:AVal) (σ:Za) (c:Cls):kC O bf d os s tm (some (.pan x,σ,c))=some (tput tm d (.pan x),σ,[c],some x):=rfl
theorem ZrE (d:Option Nat) (os:List AOp) (s:Nat) (tm:Tms):kC O bf d os s tm none=none:=rfl
theorem Zv8 (d:Option Nat) (os:List AOp) (s:Nat) (tm:Tms) (q:Prop) [Decidable q] (x y:Option (AVal×Za×Cls)):kC O bf d os s tm (if q then x else y)=if q then kC O bf d os s tm x else kC O bf d os s tm y:=by split <;> rfl
theorem Za4 (ops:List AOp) (l:List (Nat×Nat)) (live:List Nat) (tm:Tms) (σ:Za):ZbL O bf ops (some l) live tm σ=ZdG ops σ.length l live (ZY O bf ops σ.length tm (σ++XD (sitesOf ops) .free)):=by
 unfold ZbL
 cases ZY O bf ops σ.length tm (σ++XD (sitesOf ops) .free) with
 | none=>rfl
 | some q =>
  obtain ⟨tm',σ',cs,p⟩:=q
  cases p <;> rfl
theorem Za5 (ops:List AOp) (L:Nat) (l:List (Nat×Nat)) (live:List Nat) (tm:Tms) (σ:Za) (cs:List Cls) (h:Zcd ops L l cs=true):ZdG ops L l live (some (tm,σ,cs,none))=some (.normal,keepL live tm,σ):=by
 simp only [ZdG,h,if_true]
theorem Znu (ops:List AOp) (L:Nat) (l:List (Nat×Nat)) (live:List Nat):ZdG ops L l live none=none:=rfl
theorem Zzn (ops:List AOp) (L:Nat) (l:List (Nat×Nat)) (live:List Nat) (q:Prop) [Decidable q] (x y:Option (Tms×Za×List Cls×Option AVal)):ZdG ops L l live (if q then x else y)=if q then ZdG ops L l live x else ZdG ops L l live y:=by split <;> rfl
theorem ZAr (ops:List AOp) (L:Nat) (l:List (Nat×Nat)) (cs:List Cls) (h:(cs.all fun c=>c.wr.isEmpty && !c.any)=true) (hs:(l.all fun p=>p.1 == p.2 || nsite (ops.getD p.1 default).ins == 0)=true):Zcd ops L l cs=true:=by
 have hd:∀ i,Zb3 (cs.getD i {})=true:=by
  intro i
  rw [XB] at h
  rw [Xi]
  cases hi:cs[i]? with
  | none=>rfl
  | some c=>exact h c (Xv hi)
 unfold Zcd
 rw [XB] at hs ⊢
 intro p hp
 have:=hs p hp
 rw [Bool.or_eq_true] at this ⊢
 rcases this with this | this
 ·exact Xs this
 ·refine Xu ?_
  unfold ZbQ
  simp only [hd,this,Bool.and_true,Bool.true_and,Xay,Bool.or_true]
theorem ZoV (ops:List AOp) (L:Nat) (l:List (Nat×Nat)) (live:List Nat) (tm:Tms) (σ:Za) (cs:List Cls) (h:(cs.all fun c=>c.wr.isEmpty && !c.any)=true) (hs:(l.all fun p=>p.1 == p.2 || nsite (ops.getD p.1 default).ins == 0)=true):ZdG ops L l live (some (tm,σ,cs,none))=some (.normal,keepL live tm,σ) :=
 Za5 _ _ _ _ _ _ _ (ZAr _ _ _ _ h hs)
variable (O bf) in
def gKC (os:List AOp) (s:Nat):Option (Tms×Za×List Cls×Option AVal)->Option (Tms×Za×List Cls×Option AVal)
 | none=>none
 | some (tm,σ,cs,some x)=>some (tm,σ,cs,some x)
 | some (tm,σ,cs,none)=>Zd4 cs (ZY O bf os s tm σ)
theorem Zv5 (os:List AOp) (s:Nat) (tm:Tms) (σ:Za) (cs:List Cls):gKC O bf os s (some (tm,σ,cs,none))=Zd4 cs (ZY O bf os s tm σ):=rfl
theorem ZzJ (os:List AOp) (s:Nat) (q:Prop) [Decidable q] (x y:Option (Tms×Za×List Cls×Option AVal)):gKC O bf os s (if q then x else y)=if q then gKC O bf os s x else gKC O bf os s y:=by split <;> rfl
theorem ZAh (os:List AOp) (s:Nat) (c:Cls) (r:Option (Tms×Za×List Cls×Option AVal)):gKC O bf os s (Zcq c r)=Zcq c (gKC O bf os s r):=by
 cases r with
 | none=>rfl
 | some q =>
  obtain ⟨tm,σ,cs,p⟩:=q
  cases p with
  | some x=>rfl
  | none =>
   simp only [Zcq,gKC]
   cases ZY O bf os s tm σ <;> rfl
theorem Zl5:∀ (a b:List AOp) (s:Nat) (tm:Tms) (σ:Za),ZY O bf (a++b) s tm σ=gKC O bf b (s+sitesOf a) (ZY O bf a s tm σ)
 | [],b,s,tm,σ=>by
  simp only [XW,ZlC,gKC,sitesOf,XO,List.sum_nil,XU]
  cases ZY O bf b s tm σ <;> rfl
 | o::a,b,s,tm,σ=>by
  have ih:=Zl5 a b
  simp only [XX]
  have hs:s+nsite o.ins+sitesOf a=s+sitesOf (o::a):=by simp [sitesOf,Wu]
  cases hst:ZS O bf o s tm σ with
  | none=>rw [Ze7 hst,Ze7 hst];rfl
  | some q =>
   obtain ⟨v,tm1,σ1,c⟩:=q
   cases hp:ZaD v with
   | true =>
    obtain ⟨x,rfl⟩:=Zgr hp
    rw [Zhi hst,Zhi hst];rfl
   | false=>rw [Zgu hst hp,Zgu hst hp,ih,hs,ZAh]
variable (O bf) in
def ZcP (j:Nat) (w:Bool) (g:List AOp) (s:Nat) (tm:Tms) (σ:Za):Option (Tms×Za×List Cls×Option AVal):=match Za7 (some (j,w)) tm with
 | none=>none
 | some false=>some (Zr g tm,σ,g.map fun _=>{},none)
 | some true=>ZY O bf (g.map unG) s tm σ
theorem Zkq (j:Nat) (w:Bool):∀ (g:List AOp),(∀ o ∈ g,o.guard=some (j,w)/\o.dst≠some j)->∀ (s:Nat) (tm:Tms) (σ:Za),g≠[]->ZY O bf g s tm σ=ZcP O bf j w g s tm σ
 | [],_,_,_,_,h=>absurd rfl h
 | o::g,hall,s,tm,σ,_=>by
  obtain ⟨hg,hd⟩:=hall o (by simp)
  have ih:∀ (tm:Tms) (σ:Za) (s:Nat),Za7 (some (j,w)) tm≠none->ZY O bf g s tm σ=ZcP O bf j w g s tm σ:=by
   intro tm σ s hw
   by_cases he:g=[]
   ·subst he
    unfold ZcP
    cases hx:Za7 (some (j,w)) tm with
    | none=>exact absurd hx hw
    | some b=>cases b <;> rfl
   ·exact Zkq j w g (fun o ho=>hall o (by simp [ho])) s tm σ he
  cases hx:Za7 (some (j,w)) tm with
  | none =>
   rw [Ze7 (by simp only [ZS,hg,hx])]
   simp only [ZcP,hx]
  | some b =>
   cases b with
   | false =>
    have h1:ZY O bf (o::g) s tm σ=Zcq {} (ZY O bf g (s+nsite o.ins) (tput tm o.dst (.tup [])) σ) :=
     Zgu (v:=.tup []) (c:={}) (by simp only [ZS,hg,hx]) rfl
    rw [h1,ih _ _ _ (by rw [ZdN hd,hx];simp)]
    unfold ZcP
    rw [ZdN hd,hx]
    rfl
   | true =>
    have key:∀ r:Option (AVal×Za×Cls),(∀ v σ' c,r=some (v,σ',c)->ZaD v=false->ZY O bf g (s+nsite o.ins) (tput tm o.dst v) σ'=ZY O bf (g.map unG) (s+nsite o.ins) (tput tm o.dst v) σ')->kC O bf o.dst g (s+nsite o.ins) tm r=kC O bf o.dst (g.map unG) (s+nsite o.ins) tm r:=by
     intro r hr
     cases r with
     | none=>rfl
     | some q =>
      obtain ⟨v,σ',c⟩:=q
      cases hp:ZaD v with
      | true=>simp only [kC,hp,if_true]
      | false=>rw [Zh0 _ _ _ _ _ _ _ hp,Zh0 _ _ _ _ _ _ _ hp,hr v σ' c rfl hp]
    have h1:ZY O bf (o::g) s tm σ=kC O bf o.dst g (s+nsite o.ins) tm (exI O bf o.ins s tm σ):=by
     have h0:ZY O bf (o::g) s tm σ=ZY O bf (⟨o.dst,o.ins,none,o.after⟩::g) s tm σ:=by
      have hst:ZS O bf o s tm σ=ZS O bf ⟨o.dst,o.ins,none,o.after⟩ s tm σ:=by
       unfold ZS
       simp only [hg,hx]
       rfl
      simp only [ZY,hst]
     rw [h0,Zi4]
    rw [h1]
    unfold ZcP
    rw [hx]
    simp only [Xy]
    rw [show unG o=⟨o.dst,o.ins,none,o.after⟩ from rfl,Zi4]
    refine key _ fun v σ' c _ _=>?_
    rw [ih _ _ _ (by rw [ZdN hd,hx];simp)]
    unfold ZcP
    rw [ZdN hd,hx]
theorem ZnH (d:Option Nat) (i:Ins) (j:Nat) (w:Bool) (af:List Nat) (os:List AOp) (s:Nat) (tm:Tms) (σ:Za) (hd:decide (d=some j)=false) :
  ZY O bf (⟨d,i,some (j,w),af⟩::os) s tm σ=gKC O bf (Zo j w os).2 (s+sitesOf (⟨d,i,some (j,w),af⟩::(Zo j w os).1)) (ZcP O bf j w (⟨d,i,some (j,w),af⟩::(Zo j w os).1) s tm σ):=by
 have h:=Zij j w os
 have hall:∀ o ∈ (⟨d,i,some (j,w),af⟩::(Zo j w os).1:List AOp),o.guard=some (j,w)/\o.dst≠some j:=by
  intro o ho
  rcases XC.1 ho with rfl | ho
  ·exact ⟨rfl,by simpa using hd⟩
  ·exact ZjE j w os o ho
 rw [<-Zkq j w _ hall s tm σ (by simp),<-Zl5,XX,h]
variable (O bf) in
def gWC (w:Bool) (g:List AOp) (s:Nat) (tm:Tms) (σ:Za):AVal->Option (Tms×Za×List Cls×Option AVal)
 | .bool b=>if b=w then ZY O bf (g.map unG) s tm σ else some (Zr g tm,σ,g.map fun _=>{},none)
 | .tup []=>some (Zr g tm,σ,g.map fun _=>{},none)
 | _=>none
theorem Zx8 (j:Nat) (w:Bool) (g:List AOp) (s:Nat) (tm:Tms) (σ:Za):ZcP O bf j w g s tm σ=gWC O bf w g s tm σ (tget tm j):=by
 unfold ZcP Za7
 simp only
 generalize tget tm j=v
 cases v
 case bool b=>cases b <;> cases w <;> rfl
 case tup vs=>cases vs <;> rfl
 all_goals rfl
theorem ZpO (w:Bool) (g:List AOp) (s:Nat) (tm:Tms) (σ:Za) (b:Bool):gWC O bf w g s tm σ (.bool b)=if b=w then ZY O bf (g.map unG) s tm σ else some (Zr g tm,σ,g.map fun _=>{},none):=rfl
theorem Zr0 (w:Bool) (g:List AOp) (s:Nat) (tm:Tms) (σ:Za):gWC O bf w g s tm σ (.tup [])=some (Zr g tm,σ,g.map fun _=>{},none):=rfl
theorem ZuO (q:Prop) [Decidable q] (t1 t2:Tms) (σ1 σ2:Za) (cs:List Cls):(if q then some (t1,σ1,cs,(none:Option AVal)) else some (t2,σ2,cs,none))=some ((if q then t1 else t2),(if q then σ1 else σ2),cs,none):=by split <;> rfl
end
section
theorem Zp7 {r:AVal} {cs:List AVal} {σ:Za} (hr:Zas r=true) (hc:Zq cs=true):gcA 1 [r] (.var cs::σ)=([r],[.var cs]):=by
 have e1:=(Zco (Zd (.var cs::σ) 1 [0]) r hr)
 have e2:=(Zfm (Zd (.var cs::σ) 1 [0]) cs hc)
 have h1:Zl 1 [r] (.var cs::σ)=[0]:=by
  have : Z3 [r]=[]:=by simp only [Z3,e1.2,XL]
  simp only [Zl,this,XW,List.range_one,XI,WQ,XL,XP,Zn,e2.2]
  rfl
 simp only [gcA,h1,ZX,e1.1,Ze,XP,Zk,Zc,Zg,e2.1]
theorem Zsa {r:AVal} {cs:List AVal} {σ:Za} (hr:Zas r=true) (hc:Zq cs=true):Za8 1 (.var cs::σ) r=some (r,[.var cs]):=by
 simp only [Za8,Zp7 hr hc]
end
end
section
section
variable (c:Prop) [Decidable c]
theorem ZwD (t1 t2:Tms) (σ1 σ2:Za):(if c then some (ZaB.normal,t1,σ1) else some (ZaB.normal,t2,σ2))=some (ZaB.normal,(if c then t1 else t2),(if c then σ1 else σ2)):=by split <;> rfl
theorem ZvH (t1 t2:Tms) (σ1 σ2:Za):(if c then some (ZaB.ret,t1,σ1) else some (ZaB.ret,t2,σ2))=some (ZaB.ret,(if c then t1 else t2),(if c then σ1 else σ2)):=by split <;> rfl
theorem Zty (t1 t2:Tms) (σ1 σ2:Za):(if c then some (t1,σ1,(none:Option AVal)) else some (t2,σ2,none))=some ((if c then t1 else t2),(if c then σ1 else σ2),none):=by split <;> rfl
theorem Zqm (n:Nat) (a b:AVal):(if c then (n,a) else (n,b))=(n,if c then a else b):=by split <;> rfl
theorem ZAE (a b:AVal) (σ1 σ2:Za):(if c then some (a,σ1) else some (b,σ2))=some ((if c then a else b),(if c then σ1 else σ2)):=by split <;> rfl
theorem ZAF (a b:AVal) (σ1 σ2:Za) (x y:Cls):(if c then some (a,σ1,x) else some (b,σ2,y))=some ((if c then a else b),(if c then σ1 else σ2),if c then x else y):=by split <;> rfl
end
theorem ZD {α:Type} (p:Bool) (x y z:α):(if p=true then x else (if p=false then y else z))=if p=true then x else y:=by cases p <;> rfl
theorem ZM {α:Type} (p:Bool) (x y z:α):(if p=false then x else (if p=true then y else z))=if p=false then x else y:=by cases p <;> rfl
theorem ZP {α:Type} (p:Bool) (x y z:α):(if p=true then (if p=false then x else y) else z)=if p=true then y else z:=by cases p <;> rfl
theorem ZF {α:Type} (p:Bool) (x y z:α):(if p=false then (if p=true then x else y) else z)=if p=false then y else z:=by cases p <;> rfl
theorem Zyr (ops:List AOp) (b:Nat) (cs:List Cls):Zcd ops b [] cs=true:=rfl
theorem Znw (ops:List AOp) (b:Nat) (p:Nat×Nat) (l:List (Nat×Nat)) (cs:List Cls):Zcd ops b (p::l) cs=((p.1 == p.2 || ZbQ (ops.getD p.1 default) (ops.getD p.2 default) (cs.getD p.1 {}) (cs.getD p.2 {}) (b+sitesOf (ops.take p.1))) && Zcd ops b l cs):=by
 simp only [Zcd,Wc]
theorem Zr5 (oj oi:AOp) (cj ci:Cls) (sj:Nat):ZbQ oj oi cj ci sj=(Zbv oj cj || Zbv oi ci || (Zb3 cj && Zb3 ci && (nsite oj.ins == 0 || !ci.rd.contains sj)) || ((ZbT oj.ins || (Zb7 oj.ins && !cj.any)) && (Zb3 ci && ci.rd.isEmpty)) || (Zb8 oj.ins && ZbT oi.ins && ci.any && ZcD cj ci) || (Zb8 oj.ins && (Zb7 oi.ins || (Zgm oi.ins && Zjn cj ci)) && ZcD cj ci) || (ZgL oj.ins && Zfw oi.ins) || (ZbT oj.ins && Zb8 oi.ins && cj.any && ZjX cj ci sj) || (Zb7 oj.ins && !cj.any && Zb3 ci && nsite oi.ins == 0 && ci.rd.all fun t=>!cj.wr.contains t && t != sj)):=rfl
theorem ZoO (o:AOp) (rd wr:List Nat) (any:Bool) (got:List (Nat×Option Nat×Nat×AVal)) (upd:List (Nat×List AVal)):Zbv o ⟨rd,wr,any,got,upd⟩=(nsite o.ins == 0 && rd.isEmpty && wr.isEmpty && !any):=rfl
theorem Zvh (rd wr:List Nat) (any:Bool) (got:List (Nat×Option Nat×Nat×AVal)) (upd:List (Nat×List AVal)):Zb3 ⟨rd,wr,any,got,upd⟩=(wr.isEmpty && !any):=rfl
theorem Zcu {α:Type} {l:List α} {i:Nat} {x:α} {r:List α} (h:l.drop i=x::r):l[i]?=some x/\l.drop (i+1)=r/\i < l.length:=by
 have h1:i < l.length:=by
  rcases Xaf i l.length with h1 | h1
  ·exact h1
  ·rw [List.drop_eq_nil_of_le h1] at h;cases h
 rw [Wz h1] at h
 injection h with h2 h3
 exact ⟨by rw [Xe h1,h2],h3,h1⟩
theorem ZeK {α:Type} {l:List α} {i:Nat} (h:l.drop i=[]):¬(i:Int) < l.length:=by
 have:=Xac.1 h;omega
theorem iad {α:Type} {l:List α} {i:Nat} {x:α} (h:l[i]?=some x) (f:α->AVal) {k:Nat} (hk:(f x).cells.length=k) (σ:Za) (n:Bool) (kk:IntKind):Zbw σ k (.lst n (l.map f)) (.int kk (i:Int))=some (.iptr (f x).cells 0,σ,{}):=by
 have h0:(0:Int)<=(i:Int):=Int.natCast_nonneg i
 unfold Zbw
 simp only [h0,if_true,Int.toNat_natCast,X4,h,XN,hk]
theorem Za6 {n:Int} (h0:-9223372036854775808<=n) (h:n<=9223372036854775807):IntKind.i64.wrap n=n:=by
 rw [IntKind.wrap_i64];omega
theorem ZpJ {α β:Type} {a:List α} {b:List β} (h:a.length=b.length):((a.length:Int) != (b.length:Int))=false:=by simp [h]
theorem Zzr {α β:Type} {a:List α} {b:List β} (h:a.length≠b.length):((a.length:Int) != (b.length:Int))=true:=by
 simp only [bne_iff_ne,ne_eq];omega
theorem Zum {α:Type} [BEq α] [LawfulBEq α] {a b:List α} (h:a.length≠b.length):(a == b)=false:=by
 simp only [beq_eq_false_iff_ne,ne_eq];rintro rfl;exact h rfl
theorem Zd3 {i n:Nat} (h:(i:Int) < n) (hn:n<=9223372036854775807):IntKind.i64.wrap ((i:Int)+1)=((i+1:Nat):Int):=by
 rw [Za6 (by omega) (by omega)];rfl
theorem Zys {α:Type} (σ:Za) (k:Nat) (l:List α) (f:α->AVal) (kk:IntKind) (n:Int) (h0:0<=n) (h:n<=(l.length:Int)):Zbz σ k (.lst false (l.map f)) none (some (.int kk n)) none=some (.lst false ((l.take n.toNat).map f),σ,{}):=by
 simp only [Zbz,ZaU,ZcQ,Xz,h0,h,and_self,if_true,beq_self_eq_true,Xay,Option.isSome_none,Xw,if_false,Xas,Xar,Xbb]
abbrev Zfb:=List UInt8
def Zw (b:Zfb):AVal:=.lst false (b.map Zbg)
structure ZhM where
 id:Int
 num:Int
 text:Zfb
 pair:Zfb
 data:Zfb
 deriving DecidableEq
def Zy (p:ZhM):List AVal:=[.int .i64 p.id,.int .i64 p.num,.str p.text,.str p.pair,Zw p.data]
def Zz (p:ZhM):AVal:=.agg (Zy p)
def ZC (l:List ZhM):AVal:=.lst false (l.map Zz)
def ZN (l:List Int):AVal:=.lst false (l.map (.int .i64 ·))
theorem Zx (l:Zfb):ZdM (l.map Zbg)=some l:=by
 induction l with
 | nil=>rfl
 | cons b l ih =>
  simp only [Xy,ZdM,ih,Zbg,Zi0,Int.toNat_natCast,UInt8.ofNat_toNat]
end
section
def ZxM:=(aI (aI (aI (aI (aI (aI @Zoe @Zos) (aI @ZyQ @ZAl)) (aI (aI @Zn1 @Zuz) (aI @ZzN @Zwu))) (aI (aI (aI @Zlb @Ziw) (aI @ZrZ @Zjd)) (aI (aI @ZwK @ZnZ) (aI @Zq8 @ZAc)))) (aI (aI (aI (aI @Zp0 @Zpt) (aI @ZAP @Zpu)) (aI (aI @ZsZ @Znv) (aI @ZtN @Zur))) (aI (aI (aI @ZoH @ZxD) (aI @Zzx @ZnA)) (aI (aI @ZxX @Zx) (aI @ZwD @ZvH))))) (aI (aI (aI (aI (aI @Zty @Zqm) (aI @ZAE @ZAF)) (aI (aI @ZrO @Zo1) (aI @Zu2 @ZpK))) (aI (aI (aI @ZAj @ZyY) (aI @Zqe @Za4)) (aI (aI @ZlC @Zi4) (aI @ZnH @Zpk)))) (aI (aI (aI (aI @ZrS @ZtK) (aI @Zy6 @ZpT)) (aI (aI @ZxL @Zh0) (aI @ZzX @ZrE))) (aI (aI (aI @Zv8 @ZoV) (aI @Znu @Zzn)) (aI (aI @Zv5 @ZzJ) (aI @Zx8 @ZpO))))))
def Zxv:=(aI (aI (aI (aI (aI (aI @Zr0 @ZuO) (aI @ZzL @Zyd)) (aI (aI @Zu1 @ZoG) (aI @Zyr @Znw))) (aI (aI (aI @Zr5 @ZoO) (aI @Zvh @Za5)) (aI (aI @ZrC @Zrp) (aI @Zvx @Znr)))) (aI (aI (aI (aI @Zrl @ZwT) (aI @Zor @ZoC)) (aI (aI @ZuJ @Zno) (aI @Zyb @Ztv))) (aI (aI (aI @ZqB @ZzW) (aI @ZAz @Zvy)) (aI (aI @Zyq @ZzV) (aI @ZwQ @ZoY))))) (aI (aI (aI (aI (aI @ZAJ @Zsg) (aI @Zy9 @Zqk)) (aI (aI @Zq1 @ZqI) (aI @ZyC @ZuB))) (aI (aI (aI @ZtT @ZzH) (aI @ZvQ @Zou)) (aI (aI @Zy3 @Zrw) (aI @Zvd @Zxb)))) (aI (aI (aI (aI @ZwE @Zuj) (aI @Zzc @ZzC)) (aI (aI @Zz6 @ZsQ) (aI @ZtH @ZpV))) (aI (aI (aI @Zw1 @Zsb) (aI @ZqV @ZpE)) (aI (aI @Zzk @Zp5) (aI @ZqA @Zw2))))))
def ZG:=(aI (aI (aI (aI (aI (aI @ZvJ @Zrm) (aI @Zsm @ZuN)) (aI (aI @ZoZ @Zwb) (aI @ZuZ @Zsd))) (aI (aI (aI @Zon @ZuP) (aI @Zz0 @Zru)) (aI (aI @Zpj @ZuK) (aI @ZyB @Zpz)))) (aI (aI (aI (aI @ZsR @ZzB) (aI @ZnU @ZyO)) (aI (aI @ZuL @Zu8) (aI @Zow @Zs9))) (aI (aI (aI @ZnR @Zwc) (aI @Zrr @Zrd)) (aI (aI @ZsS @ZuG) (aI @ZoW @Zzd))))) (aI (aI (aI (aI (aI @ZwL @Zwd) (aI @Zzs @ZuW)) (aI (aI @Zn9 @Zri) (aI @Zn4 @Zvp))) (aI (aI (aI @ZrQ @ZpU) (aI @Zuq @ZyD)) (aI (aI @Zod @ZqH) (aI @ZvI @Zup)))) (aI (aI (aI (aI @Zn7 @ZoD) (aI @ZzK @ZvV)) (aI (aI @ZAa @Zwj) (aI @ZrH @Zt0))) (aI (aI (aI @ZxW @ZzG) (aI @Zo8 @Zql)) (aI (aI @Zxo @ZnN) (aI @ZAs @ZoU))))))
def ZH:=(aI (aI (aI (aI (aI (aI @Zny @ZsG) (aI @ZwZ @Zwr)) (aI (aI @ZsK @ZoM) (aI @ZnI @Zwv))) (aI (aI (aI @ZpB @Zs4) (aI @ZvO @Zso)) (aI (aI @Zrs @Zwh) (aI @ZuV @Zxp)))) (aI (aI (aI (aI @ZyT @ZpF) (aI @ZyP @Zse)) (aI (aI @Zvv @ZAq) (aI @ZoS @Ztj))) (aI (aI (aI @Zqy @Zs7) (aI @Zq3 @Zwn)) (aI (aI @Zoj @Zpn) (aI @ZxG @ZnC))))) (aI (aI (aI (aI (aI @ZxU @ZpZ) (aI @Zq9 @Zoq)) (aI (aI @ZAD @Zwz) (aI @Zo5 @ZvA))) (aI (aI (aI @ZsI @Zyo) (aI @ZxT @ZnX)) (aI (aI @ZyI @Zuh) (aI @ZtG @Zrn)))) (aI (aI (aI (aI @Zuu @ZsX) (aI @ZxF @Zpr)) (aI (aI @Zvj @ZAy) (aI @ZAn @Zzq))) (aI (aI (aI @Zua @Zr2) (aI @Zw8 @Zo6)) (aI (aI @ZwA @Zvr) (aI @Zva @Zyz))))))
def ZL:=(aI (aI (aI (aI (aI (aI @Zz9 @Zxk) (aI @ZoX @Zv3)) (aI (aI @ZtU @ZrA) (aI @Zuo @ZAw))) (aI (aI (aI @Zrg @Zze) (aI @ZsA @ZqZ)) (aI (aI @Zpa @Zt3) (aI @Zok @ZoA)))) (aI (aI (aI (aI @Zs1 @Zt2) (aI @ZzM @Zs8)) (aI (aI @Zwq @Zxr) (aI @Ztc @ZoE))) (aI (aI (aI @Zww @Zti) (aI @ZvP @ZwR)) (aI (aI @Zxz @Zx6) (aI @ZqW @Zpd))))) (aI (aI (aI (aI (aI @Zrb @ZxO) (aI @Zpy @ZyF)) (aI (aI @Zqi @ZqL) (aI @Zsj @ZtB))) (aI (aI (aI @Zt1 @ZtQ) (aI @ZAH @ZAL)) (aI (aI @Zn8 @Zyl) (aI @Zs0 @Znm)))) (aI (aI (aI (aI @ZoL @ZAt) (aI @Zt4 @Zt7)) (aI (aI @ZnJ @Zut) (aI @Zuk @ZpW))) (aI (aI (aI @ZrM @Zss) (aI @Zoh @Zyi)) (aI (aI @Zu0 @Zx7) (aI @Zwf @Znn))))))
def ZyX:=(aI (aI (aI (aI (aI (aI @ZqP @ZuX) (aI @ZrW @ZuY)) (aI (aI @Zv0 @ZrF) (aI @ZnD @Zwp))) (aI (aI (aI @ZwF @Zzz) (aI @ZAk @Ztg)) (aI (aI @ZAe @ZAM) (aI @Zx0 @ZsH)))) (aI (aI (aI (aI @ZtI @ZAb) (aI @ZwV @ZnM)) (aI (aI @ZwW @Zoy) (aI @Zuw @Zwo))) (aI (aI (aI @ZoR @Zzi) (aI @Zvm @Zsl)) (aI (aI @Zq5 @ZAi) (aI @ZnG @Zx9))))) (aI (aI (aI (aI (aI @Zxm @Zu4) (aI @Ztr @ZrJ)) (aI (aI @Zot @ZpX) (aI @ZvK @ZqM))) (aI (aI (aI @Zu9 @ZsY) (aI @Zvq @Zun)) (aI (aI @Zxd @ZtX) (aI @Zyg @Ztn)))) (aI (aI (aI (aI @Zq2 @Zxy) (aI @ZvC @Zvc)) (aI (aI @Zzh @Zxf) (aI @Zp9 @Zrc))) (aI (aI (aI @ZsW @Zt8) (aI @ZsM @ZnV)) (aI (aI @ZuU @Zqh) (aI @Zzl @Zvz))))))
def ZE:=(aI (aI (aI (aI (aI (aI @Zvf @Zza) (aI @ZzY @Zxc)) (aI (aI @ZpI @ZtC) (aI @ZAN @Zsf))) (aI (aI (aI @Zr7 @Zue) (aI @Zud @Zqu)) (aI (aI @Zom @Zx2) (aI @Zye @ZtA)))) (aI (aI (aI (aI @ZvM @ZAO) (aI @Zyu @Zst)) (aI (aI @Zxq @Ztk) (aI @ZuQ @Zyh))) (aI (aI (aI @Zv7 @Zrq) (aI @Ztd @Zwx)) (aI (aI @ZyG @Zrh) (aI @Zw9 @ZwJ))))) (aI (aI (aI (aI (aI @ZrI @ZsC) (aI @Zxu @Ztx)) (aI (aI @ZoB @Zqg) (aI @ZtP @Zzo))) (aI (aI (aI @ZpN @ZnQ) (aI @ZoN @Zo4)) (aI (aI @Zuc @ZtR) (aI @Zop @ZsT)))) (aI (aI (aI (aI @ZtS @Znq) (aI @Zv9 @ZrP)) (aI (aI @Zub @Zp6) (aI @Zzm @Zr9))) (aI (aI (aI @Zn0 @Zob) (aI @ZnL @Zn5)) (aI (aI @Zzt @ZqY) (aI @ZxH @Zn3))))))
def ZO:=(aI (aI (aI (aI (aI @ZzO (aI @Zyn @Zyv)) (aI (aI @Zvb @Zqd) (aI @Zyp @Zsi))) (aI (aI @Zvl (aI @Zx4 @Zzb)) (aI (aI @Zvi @ZzP) (aI @Zya @ZyN)))) (aI (aI (aI @ZpQ (aI @ZoP @Zxs)) (aI (aI @Zpi @Zxj) (aI @Zs5 @ZyZ))) (aI (aI (aI @Zpe @Zv6) (aI @ZoT @Zog)) (aI (aI @ZAp @Zz4) (aI @Zxl @Zn2))))) (aI (aI (aI (aI @Zrv (aI @Zrz @Zvn)) (aI (aI @ZAd @Zxg) (aI @ZAK @ZwC))) (aI (aI (aI @Zyy @Zzu) (aI @ZxY @ZnY)) (aI (aI @ZrT @Zqj) (aI @ZwS @ZyH)))) (aI (aI (aI @Zqc (aI @ZwG @Zsx)) (aI (aI @ZyM @Zrf) (aI @Zwi @Zzj))) (aI (aI (aI @ZuT @Zta) (aI @ZpP @ZxP)) (aI (aI @ZsV @Zsa) (aI @ZzS @Zk0))))))
def Zw7:=(aI (aI (aI (aI (aI (aI @List.map_cons.{0,0} @List.map_nil.{0,0}) (aI @List.length_cons.{0} @List.length_nil.{0})) (aI (aI @List.replicate_zero.{0} @List.replicate_succ.{0}) (aI @List.append_nil.{0} @List.nil_append.{0}))) (aI (aI (aI @List.cons_append.{0} @List.getElem?_cons_zero.{0}) (aI @List.getElem?_cons_succ.{0} @List.set_cons_zero.{0})) (aI (aI @List.set_cons_succ.{0} @Nat.add_zero) (aI @Nat.zero_add @Bool.true_or)))) (aI (aI (aI (aI @Bool.false_or @Bool.or_true) (aI @Bool.or_false @Bool.and_true)) (aI (aI @Bool.true_and @Bool.and_self) (aI @Bool.and_false @Bool.false_and))) (aI (aI (aI @if_true.{1} @if_false.{1}) (aI @ite_true.{1} @ite_false.{1})) (aI (aI @Option.map_some.{0,0} @Option.map_none.{0,0}) (aI @and_self @and_true))))) (aI (aI (aI (aI (aI @true_and @and_false) (aI @false_and @true_or)) (aI (aI @or_true @false_or) (aI @or_false @not_true_eq_false))) (aI (aI (aI @not_false_eq_true @List.drop_zero.{0}) (aI @List.drop_succ_cons.{0} @List.take_succ_cons.{0})) (aI (aI @List.take_zero.{0} @List.all_cons.{0}) (aI @List.all_nil.{0} @List.isEmpty_nil.{0})))) (aI (aI (aI (aI @Bool.not_false @Bool.not_true) (aI @List.length_map.{0,0} @Bool.bne_false)) (aI (aI @Bool.bne_true @List.isEmpty_cons.{0}) (aI @List.getD_cons_zero.{0} @List.getD_cons_succ.{0}))) (aI (aI (aI @List.getD_nil.{0} @List.contains_nil.{0}) (aI @List.range_zero @List.flatMap_cons.{0,0})) (aI (aI @List.flatMap_nil.{0,0} @List.zip_cons_cons.{0,0}) (aI @List.zip_nil_left.{0,0} @List.zip_nil_right.{0,0}))))))
def ZI:=@Nat.not_lt_zero
def EQA := (aI (aI (aI (aI (aI (aI (aI ZxM Zxv) (aI ZyX Zw7)) (aI (aI @exI.eq_1 @nsite.eq_1) (aI @nsite.eq_2 @nsite.eq_3))) (aI (aI (aI @nsite.eq_4 @nsite.eq_5) (aI @nsite.eq_6 @nsite.eq_7)) (aI (aI @nsite.eq_8 @nsite.eq_9) (aI @nsite.eq_10 (aI @nsite.eq_11 @nsite.eq_12))))) (aI (aI (aI (aI @nsite.eq_13 @freeAt.eq_1) (aI @execI.eq_1 @execI.eq_2)) (aI (aI @execI.eq_3 @execI.eq_4) (aI @execI.eq_5 @execI.eq_6))) (aI (aI (aI @execI.eq_7 @execI.eq_8) (aI @execI.eq_9 @execI.eq_10)) (aI (aI @execI.eq_11 @execI.eq_12) (aI @execI.eq_13 (aI @execI.eq_14 @execI.eq_15)))))) (aI (aI (aI (aI (aI @execI.eq_16 @execI.eq_17) (aI @execI.eq_18 @execI.eq_19)) (aI (aI @execI.eq_20 @execI.eq_21) (aI @execI.eq_22 @execI.eq_23))) (aI (aI (aI @execI.eq_24 @execI.eq_25) (aI @execI.eq_26 @execI.eq_27)) (aI (aI @execI.eq_28 @execI.eq_29) (aI @execI.eq_30 (aI @execI.eq_31 @execI.eq_32))))) (aI (aI (aI (aI @execI.eq_33 @execI.eq_34) (aI @execI.eq_35 @execI.eq_36)) (aI (aI @execI.eq_37 @execI.eq_38) (aI @execI.eq_39 (aI @execI.eq_40 @execI.eq_41)))) (aI (aI (aI @execI.eq_42 @execI.eq_43) (aI @execI.eq_44 @execI.eq_45)) (aI (aI @execI.eq_46 @execI.eq_47) (aI @execI.eq_48 (aI @execI.eq_49 @execI.eq_50))))))) (aI (aI (aI (aI (aI (aI @execI.eq_51 @Opd.ev.eq_1) (aI @Opd.ev.eq_2 @tget.eq_1)) (aI (aI @tget.eq_2 @tins.eq_1) (aI @tins.eq_2 @tput.eq_1))) (aI (aI (aI @tput.eq_2 @keepL.eq_1) (aI @sitesOf.eq_1 @resA.eq_1)) (aI (aI @resAll.eq_1 @resAll.eq_2) (aI @resOne.eq_1 (aI @resOne.eq_2 @enterA.eq_1))))) (aI (aI (aI (aI @enterA.eq_2 @partA.eq_1) (aI @partA.eq_2 @faddrA.eq_1)) (aI (aI @faddrA.eq_2 @faddrA.eq_3) (aI @faddrA.eq_4 (aI @setAt.eq_1 @binA.eq_1)))) (aI (aI (aI @binA.eq_2 @binA.eq_3) (aI @binA.eq_4 @binA.eq_5)) (aI (aI @arithA.eq_1 @arithA.eq_2) (aI @arithA.eq_3 (aI @arithA.eq_4 @arithA.eq_5)))))) (aI (aI (aI (aI (aI @arithA.eq_6 @arithA.eq_7) (aI @arithA.eq_8 @arithA.eq_9)) (aI (aI @arithA.eq_10 @arithA.eq_11) (aI @arithA.eq_12 @arithA.eq_13))) (aI (aI (aI @arithA.eq_14 @arithA.eq_15) (aI @arithA.eq_16 @ldA.eq_1)) (aI (aI @ldA.eq_2 @ldA.eq_3) (aI @ldA.eq_4 (aI @stA.eq_1 @stA.eq_2))))) (aI (aI (aI (aI @stA.eq_3 @oI.eq_1) (aI @oN.eq_1 @oM.eq_1)) (aI (aI @oF.eq_1 @oL.eq_1) (aI @List.sum_cons.{0} (aI @List.sum_nil.{0} @eq_self.{1})))) (aI (aI (aI @beq_self_eq_true.{0} @Bool.false_eq_true) (aI @Option.some.injEq.{0} @decide_true)) (aI (aI @decide_false @List.foldl_cons.{0, 0}) (aI @List.foldl_nil.{0, 0} (aI @List.contains_cons.{0} @ne_eq.{1}))))))))
end
section
theorem ZdP {O:ZV} {bf:Nat->Bool} {σ:Za} {sq f own:Nat} {view:Bool} {args vs vs':List AVal} {ids:List Nat} {h0 h:Za} {r0 r:AVal} (hb:bf f=false) (hsh:showAs σ args=some (vs,[])) (hre:Zf σ 1000 (Z3 vs) []=ids) (hne:ids.isEmpty=false)
  (hall:(ids.all fun t=>okB (σ.getD t .free))=true) (hvs:ZX (Zd σ 0 ids) vs=vs') (hh:Ze σ 0 ids (Zd σ 0 ids) ids 0=h0) {hh0:Za} (hO:O f vs' h0=some (r0,hh0)) (hv:ZaX view ids.length (some (r0,hh0))=some (r,h))
  (hl1:h.length<=ids.length+own) (hl2:ids.length<=h.length) (hk:Za3 σ ids h 0=true) (hff:Z8 σ sq own=true) {r':AVal} (hr:Zp (ZaL σ ids sq) r=r') {σ':Za} (hlay:ZaT σ ids sq h 0 σ=σ') {u:List (Nat×List AVal)} (hu:Zbx σ' ids=u) :
  ZR O bf σ sq f own view args=some (r',σ',{ any:=true,upd:=u }):=by
 subst hr hlay hu
 unfold ZR ZbZ
 rw [hb]
 simp only [Xw,if_false,hsh,show ZT σ []=σ from rfl,hre]
 unfold Zby
 rw [if_pos hall,hvs,hh,hO,hv]
 simp only [ZaJ,hne,Xas,Xw,if_false,hl1,hl2,decide_true,hk,hff,Ww,if_true]
theorem ZoJ {O:ZV} {bf:Nat->Bool} {σ:Za} {t sq f own k:Nat} {view:Bool} {args args' xs xs':List AVal} {r:AVal} {b':Z0} (hs:σ[t]?=some (.row 0 k xs)) (hb:bf f=true) (hff:Z8 σ sq own=true)
  (href:Z3 args=[t]) (hren:∀ ρ:Rho,ρ t 0=some (0,0)->ZX ρ args=args') (hr:∀ ρ:Rho,Zp ρ r=r) (hb':b'=.row 0 k xs'\/b'=.frow 0 k xs')
  (h:ZaX view 1 (O f args' [.row 0 k xs])=some (r,[b'])):ZR O bf σ sq f own view args=some (r,σ.set t b',{ any:=true }):=by
 have hd:σ.getD t .free=.row 0 k xs:=by simp [Xi,hs]
 have hf0:ZT σ []=σ:=rfl
 unfold ZR ZbZ
 rw [hb]
 simp only [if_true,hf0,href]
 have hreach:Zf σ 1000 [t] []=[t]:=by
  simp only [Zf,List.contains_nil,Xw,if_false,hd,Zn,XW]
 rw [hreach]
 unfold Zby
 have hall:([t].all fun t=>okB (σ.getD t .free))=true:=by simp [Wc,WW,hs,okB]
 rw [if_pos hall]
 have hρ:Zd σ 0 [t] t 0=some (0,0):=by simp [Zd,Zm,hs,Zc,Zk]
 have hheap:Ze σ 0 [t] (Zd σ 0 [t]) [t] 0=[.row 0 k xs]:=by
  simp only [Ze,hd,Zk,Zc,Zg,Nat.not_lt_zero,false_and,if_false]
 rw [hren _ hρ,hheap]
 simp only [Ws,Wf,XF]
 rw [h]
 have hk:Za3 σ [t] [b'] 0=true:=by
  rcases hb' with rfl | rfl <;> simp [Za3,okB,hs,ZcT,Zc]
 have hren':∀ ρ,Zg ρ (Zbn σ [t] 0 b') b'=b':=by
  intro ρ
  rcases hb' with rfl | rfl <;> simp [Zbn,hs,Zc,Zg]
 simp only [ZaJ,List.isEmpty_cons,Xas,Xw,if_false,Ws,Wf,XF,Nat.le_add_right,XM,decide_true,hk,hff,Ww,if_true,ZaT,Zbx,ZaH,XP,hr,hren']
 have htl:t < σ.length:=(Xc.1 hs).1
 have hg:(σ.set t b')[t]?=some b':=by simp [htl]
 simp only [XI,WQ,XL,hg]
 rcases hb' with rfl | rfl <;> rfl
end
section
def Zb (l:List Int):List (AVal×AVal):=l.map fun k=>(AVal.int .i64 k,AVal.agg [])
def ZW (l:List Int):Za:=[.var [.map 1],.map (Zb l)]
theorem Zhg (k:Int):∀ (l:List Int) (i:Nat),Zdj (.int .i64 k) (Zb l) i=some (if l.contains k=true then some (i+l.idxOf k,AVal.agg []) else none)
 | [],i=>rfl
 | x::l,i=>by
  have ih:=Zhg k l (i+1)
  show (match Zcx (.int .i64 k) (.int .i64 x) with | some true=>some (some (i,AVal.agg [])) | some false=>Zdj (.int .i64 k) (Zb l) (i+1) | none=>none)=_
  have h1:Zcx (.int .i64 k) (.int .i64 x)=some (k == x):=by simp [Zcx]
  rw [h1]
  by_cases h:k=x
  ·subst h;simp [Xap]
  ·have h2:(k == x)=false:=by simpa using h
   have h3:(x == k)=false:=by simpa using fun e=>h e.symm
   rw [h2]
   simp only
   rw [ih,WK,h2,XaT,Xap,h3]
   simp only [cond_false]
   by_cases hc:l.contains k=true
   ·rw [if_pos hc,if_pos hc]
    congr 3;omega
   ·rw [if_neg hc,if_neg hc]
theorem ZkC (k:Int):∀ l:List Int,(Zb l).eraseIdx (l.idxOf k)=Zb (l.erase k)
 | []=>rfl
 | x::l=>by
  rw [Xap,List.erase_cons]
  by_cases h:x=k
  ·subst h;simp [Zb]
  ·have h3:(x == k)=false:=by simpa using h
   rw [h3]
   simp only [cond_false,Xw,if_false]
   show (_::Zb l).eraseIdx (l.idxOf k+1)=_
   rw [List.eraseIdx_cons_succ,ZkC k l];rfl
section
variable {σ:Za} {t:Nat} {l:List Int}
theorem Zyt (hs:σ[t]?=some (.map (Zb l))) (k:Int):Zcz σ 0 (.agg []) true (.map t) (.int .i64 k)=some (.tup [.agg [],.bool (l.contains k)],σ,{ rd:=[t] }):=by
 unfold Zcz
 rw [if_pos (show ZaN (AVal.int .i64 k)=0 from rfl)]
 simp only [hs,Zhg]
 cases hc:l.contains k <;> simp [Zht]
theorem ZzQ (hs:σ[t]?=some (.map (Zb l))) {k:Int} (hc:l.contains k=false):ZeZ σ 0 (.map t) (.int .i64 k) (.agg [])=some (.tup [],σ.set t (.map (Zb (l++[k]))),{ wr:=[t] }):=by
 unfold ZeZ
 rw [if_pos ⟨rfl,rfl,rfl⟩]
 simp only [hs,Zhg,hc,Xw,if_false]
 simp [Zb]
theorem Zq6 (hs:σ[t]?=some (.map (Zb l))) (k:Int):ZdS σ 0 (.map t) (.int .i64 k)=some (.tup [],σ.set t (.map (Zb (l.erase k))),{ wr:=[t] }):=by
 unfold ZdS
 rw [if_pos (show ZaN (AVal.int .i64 k)=0 from rfl)]
 simp only [hs,Zhg]
 by_cases hc:l.contains k=true
 ·rw [if_pos hc]
  simp only [XF]
  rw [ZkC]
 ·rw [if_neg hc]
  simp only
  have : l.erase k=l:=List.erase_of_not_mem (by simpa using hc)
  rw [this]
theorem Zpx (hs:σ[t]?=some (.map (Zb l))):Zdf σ (.map t)=some (.int .i64 l.length,σ,{ rd:=[t] }):=by
 simp [Zdf,hs,Zb]
end
theorem Zfy (l:List Int):Zn (.map (Zb l))=[]:=by
 induction l with
 | nil=>rfl
 | cons x l ih =>
  show ZaG (.agg [])++Zn (.map (Zb l))=[]
  rw [ih];rfl
theorem Zmo (ρ:Rho) (g:Nat) (l:List Int):Zg ρ g (.map (Zb l))=.map (Zb l):=by
 show Z0.map ((Zb l).map fun p=>(p.1,Zp ρ p.2))=_
 congr 1
 unfold Zb
 rw [WC]
 rfl
theorem Zag (ρ:Rho) (l:List Int):(Zb l).map (fun p=>(p.1,Zp ρ p.2))=Zb l:=by
 unfold Zb
 rw [WC]
 rfl
theorem ZcI {r:AVal} (hr:Zas r=true) (l:List Int) (σ:Za):Za8 2 (.var [.map 1]::.map (Zb l)::σ) r=some (r,ZW l):=by
 have hi:Zl 2 [r] (.var [.map 1]::.map (Zb l)::σ)=[0,1]:=by
  have hR:Wi 2=[0,1]:=rfl
  have h1:(Z0.var [.map 1]::.map (Zb l)::σ).getD 1 .free=.map (Zb l):=rfl
  have h0:(Z0.var [.map 1]::.map (Zb l)::σ).getD 0 .free=.var [.map 1]:=rfl
  have hb0:Zn (.var [.map 1])=[1]:=rfl
  simp only [Zl,Z3,(Zco (fun _ _=>none) r hr).2,XW,hR,XI,WQ,XL,h0,h1,Zfy,hb0]
  rfl
 have hρ:Zd (.var [.map 1]::.map (Zb l)::σ) 2 [0,1] 1 0=some (1,0):=rfl
 simp only [Za8,gcA,hi,Ze,ZX,(Zco _ r hr).1]
 have h1:(Z0.var [.map 1]::.map (Zb l)::σ).getD 1 .free=.map (Zb l):=rfl
 have h0:(Z0.var [.map 1]::.map (Zb l)::σ).getD 0 .free=.var [.map 1]:=rfl
 rw [h0,h1,Zmo]
 simp only [Zg,ZX,Zp,hρ,ZW]
theorem Zih {O:ZV} {f own:Nat} {view:Bool} {args:List AVal} {l l':List Int} {q r0:AVal} {h0:Za} (hq:Zas q=true) (h:O f (.ref 0 0::args) (ZW l)=some (r0,h0)) (hask:ZaX view 2 (some (r0,h0))=some (q,ZW l')) (hb:BY f=false) (hp:args.all ZaC=true) (hn:args.map Z9=args) {σ:Za} {t m sq:Nat} (htm:t≠m) (hs:σ[t]?=some (.var [.map m])) (hm:σ[m]?=some (.map (Zb l))) (hff:Z8 σ sq own=true) :
  ZR O BY σ sq f own view (.ref t 0::args)=some (q,(σ.set t (.var [.map m])).set m (.map (Zb l')),{ any:=true,upd:=[(t,[.map m])] }):=by
 have htl:t < σ.length:=(Xc.1 hs).1
 have hml:m < σ.length:=(Xc.1 hm).1
 have h1:σ.getD t .free=.var [.map m]:=by simp [Xi,hs]
 have h2:σ.getD m .free=.map (Zb l):=by simp [Xi,hm]
 have hsh:showAs σ (.ref t 0::args)=some (.ref t 0::args.map Z9,[]):=by
  rw [showAs,show showA σ (.ref t 0)=some (.ref t 0,[]) from rfl,Zf3 hp]
  rfl
 have href:Z3 (.ref t 0::args.map Z9)=[t]:=by
  rw [Z3,Zd6 hp];rfl
 have hre:Zf σ 1000 (Z3 (.ref t 0::args.map Z9)) []=[t,m]:=by
  have e0:([]:List Nat).contains t=false:=rfl
  have e1:([t]:List Nat).contains m=false:=by simp;exact fun e=>htm e.symm
  rw [href,show (1000:Nat)=997+1+1+1 from rfl]
  have hb0:Zn (.var [.map m])=[m]:=rfl
  simp only [Zf,e0,h1,hb0,XL,XW,Wh,Xw,if_false,e1,h2,Zfy,XX]
 have hρt:Zd σ 0 [t,m] t 0=some (0,0):=by simp [Zd,Zm,hs,Zc,Zk]
 have hρm:Zd σ 0 [t,m] m 0=some (1,0):=by
  simp [Zd,Zm,hm,Zc,Zk,htm]
 have hvs:ZX (Zd σ 0 [t,m]) (.ref t 0::args.map Z9)=.ref 0 0::args:=by
  rw [ZX,Zeb hp,hn]
  simp only [Zp,hρt]
 have hh:Ze σ 0 [t,m] (Zd σ 0 [t,m]) [t,m] 0=ZW l:=by
  simp only [Ze,h1,h2,Zg,Zag,ZX,Zp,hρm,ZW]
 have hall:([t,m].all fun t=>okB (σ.getD t .free))=true:=by simp only [Wc,WW,h1,h2,okB,Ww]
 have hk:Za3 σ [t,m] (ZW l') 0=true:=by simp [ZW,Za3,okB,ZcT,Zc,hs,hm]
 have hρb:ZaL σ [t,m] sq 1 0=some (m,0):=by simp [ZaL,Zc,hm]
 have hlay:ZaT σ [t,m] sq (ZW l') 0 σ=(σ.set t (.var [.map m])).set m (.map (Zb l')):=by
  simp [ZW,ZaT,ZaH,Zbn,Zc,Zg,Zag,ZX,Zp,hρb,hs,hm,Xi]
 refine ZdP hb hsh hre rfl hall hvs hh h hask (by simp [ZW]) (by simp [ZW]) hk hff (Zco _ q hq).1 hlay ?_
 have h3:((σ.set t (.var [.map m])).set m (.map (Zb l')))[t]?=some (.var [.map m]):=by
  rw [Xq,if_neg (fun e=>htm e.symm),Xq,if_pos rfl,if_pos htl]
 have h4:((σ.set t (.var [.map m])).set m (.map (Zb l')))[m]?=some (.map (Zb l')):=by
  rw [Xq,if_pos rfl,if_pos (by simpa using hml)]
 simp [Zbx,h3,h4]
theorem Zzy {view:Bool} {l':List Int} {q:AVal} (hq:Zas q=true) (hv:viewR (ZW l') q=some (q,[])):ZaX view 2 (some (q,ZW l'))=some (q,ZW l'):=by
 unfold ZaX
 split
 ·have hnp:∀ x,q=.pan x->False:=by rintro x rfl;simp [viewR,ZbI,Zbj] at hv
  have : Zcw 2 (some (q,ZW l'))=(match viewR (ZW l') q with
   | some (r',ts)=>match gcA 2 [r'] (ZT (ZW l') ts) with
    | ([r''],σ')=>some (r'',σ')
    | _=>none
   | none=>none):=by
   cases q <;> first | rfl | exact (hnp _ rfl).elim
  rw [this,hv]
  exact ZcI hq l' []
 ·rfl
theorem Ze9 {O:ZV} {f own:Nat} {view:Bool} {args:List AVal} {l l':List Int} {q:AVal} (hq:Zas q=true) (hv:viewR (ZW l') q=some (q,[])) (h:O f (.ref 0 0::args) (ZW l)=some (q,ZW l')) (hb:BY f=false) (hp:args.all ZaC=true) (hn:args.map Z9=args) {σ:Za} {t m sq:Nat} (htm:t≠m) (hs:σ[t]?=some (.var [.map m])) (hm:σ[m]?=some (.map (Zb l))) (hff:Z8 σ sq own=true) :
  ZR O BY σ sq f own view (.ref t 0::args)=some (q,(σ.set t (.var [.map m])).set m (.map (Zb l')),{ any:=true,upd:=[(t,[.map m])] }) :=
 Zih hq h (Zzy hq hv) hb hp hn htm hs hm hff
theorem Zqt {O:ZV} {f:Nat} {args vs:List AVal} {ts:List Nat} {l:List Int} {σ:Za} {sq:Nat} (hb:BY f=false) (hsh:showAs σ args=some (vs,ts)) (hp:vs.all ZaC=true) (hn:vs.map Z9=vs) (h:O f vs []=some (.ref 0 0,ZW l)) (hff:Z8 (ZT σ ts) sq 2=true) :
  ZR O BY σ sq f 2 false args=some (.ref sq 0,((ZT σ ts).set sq (.var [.map (sq+1)])).set (sq+1) (.map (Zb l)),{ any:=true }):=by
 have hr:=Zd6 hp
 have hn':=fun ρ=>Zeb (ρ:=ρ) hp
 rw [hn] at hr
 simp only [hn] at hn'
 have hd:ZfS 2 (.ref 0 0) (ZW l)=none:=rfl
 have hk:Za3 (ZT σ ts) [] (ZW l) 0=true:=rfl
 unfold ZR ZbZ
 rw [hb]
 simp only [Xw,if_false,hsh]
 rw [hr]
 have h2:∀ σ,Zf σ 1000 [] []=[]:=fun _=>rfl
 rw [h2]
 unfold Zby
 simp only [WW,if_true,hn',Ze,Wf,h]
 have hk2:decide ((ZW l).length<=0+2)=true:=rfl
 simp only [ZaX,Xw,if_false,ZaJ,W1,show (ZW l).isEmpty=false from rfl,Bool.and_false,if_true,hd,Wf,hk2,XaV,decide_true,hk,hff,Ww]
 simp [ZW,ZaT,ZaH,Zbn,ZaL,Zg,ZX,Zp,Zc,Zag,Zbx]
end
section
theorem ZsO {O:ZV} {bf:Nat->Bool} {σ:Za} {f:Nat} {args vs:List AVal} {ts:List Nat} {r r':AVal} (hb:bf f=false) (hsh:showAs σ args=some (vs,ts)) (hp:vs.all ZaC=true) (hm:vs.map Z9=vs) (h:O f vs []=some (r,[])) (hv:Zcw 0 (some (r,[]))=some (r',[])) (sq own:Nat) :
  ZR O bf σ sq f own true args=if Za2 r' then some (r',σ,{ rd:=ts }) else if ZcH σ ts r' then some (r',σ,{ rd:=ts }) else some (Zp (ZaL [] [] sq) r',ZT σ ts,{ rd:=ts,wr:=ts }):=by
 have hr:=Zd6 hp
 have hn:=fun ρ=>Zeb (ρ:=ρ) hp
 rw [hm] at hr
 simp only [hm] at hn
 unfold ZR ZbZ
 rw [hb]
 simp only [Xw,if_false,hsh]
 rw [hr]
 have h2:∀ σ,Zf σ 1000 [] []=[]:=fun _=>rfl
 rw [h2]
 unfold Zby
 simp only [WW,if_true,hn,Ze,Wf,h]
 have : ZaX true 0 (some (r,[]))=some (r',[]):=by unfold ZaX;rw [if_pos rfl,hv]
 rw [this]
 simp only [ZaJ,W1,Ww,if_true]
theorem Zne {O:ZV} {bf:Nat->Bool} {σ:Za} {f:Nat} {args vs:List AVal} {ts:List Nat} {r r':AVal} (hb:bf f=false) (hsh:showAs σ args=some (vs,ts)) (hp:vs.all ZaC=true) (hm:vs.map Z9=vs) (h:O f vs []=some (r,[])) (hv:Zcw 0 (some (r,[]))=some (r',[])) (hf:Za2 r'=true) (sq own:Nat) :
  ZR O bf σ sq f own true args=some (r',σ,{ rd:=ts }):=by
 rw [ZsO hb hsh hp hm h hv,if_pos hf]
theorem ZhL {O:ZV} {bf:Nat->Bool} {f:Nat} {args args':List AVal} {r r':AVal} (h:O f args' []=some (r,[])) (hb:bf f=false) (hp:args.all ZaC=true) (hn:args.map Z9=args') (hv:Zcw 0 (some (r,[]))=some (r',[])) (hr:∀ sq,Zp (ZaL [] [] sq) r'=r') (σ:Za) (sq own:Nat):ZR O bf σ sq f own true args=some (r',σ,{}):=by
 rw [Zy2 hb hp,hn,h]
 have : ZaX true 0 (some (r,[]))=some (r',[]):=by
  unfold ZaX
  rw [if_pos rfl];exact hv
 rw [this,ZvZ _ _ _ _ (hr sq)]
end
section
theorem ZqF (l:List Int) (k:Int):E 15 [.ref 0 0,.int .i64 k] (ZW l)=some (.bool (l.contains k),ZW l):=by
 have hl:=fun σ t (hs:σ[t]?=some (.map (Zb l)))=>Zyt (σ:=σ) (t:=t) hs k
 have ho:=ZcI (r:=.bool (l.contains k)) rfl l
 unfold ZW at ho ⊢
 generalize Zb l=M at *
 rw [ZbG (by rfl) ZAo]
 simp -implicitDefEqProofs only [EQA,ZG,ZH,ZL,ZE,ZO,ZI,ZD,ZM,ZP,ZF,ZQ,ZJ,ZA,ZB,ZK,implies_true,forall_const,Xk,Xl,Xp,Xf,Xg,Xm,Xn,Zu,Zv,unA,Zo,Zr,unG,reduceCtorEq,Zi,decide_eq_true_eq,Xh,Xd,ite_self,↓reduceIte,Zq,Zt,gcT,gcA,Zl,Zf,Zd,Ze,Zm,Zc,Zk,Zg,Zn,Xj,Zc5,ZcC,Zda,ZN,Zw,ZC,Zz,Zy,Zx,hl,ho,AVal.cells,WW]
theorem ZgE (l:List Int) (k:Int) {σ:Za} {t m sq own:Nat} {view:Bool} (htm:t≠m) (hs:σ[t]?=some (.var [.map m])) (hm:σ[m]?=some (.map (Zb l))) (hff:Z8 σ sq own=true) :
  ZR E BY σ sq 15 own view [.ref t 0,.int .i64 k]=some (.bool (l.contains k),(σ.set t (.var [.map m])).set m (.map (Zb l)),{ any:=true,upd:=[(t,[.map m])] }) :=
 Ze9 (O:=E) rfl rfl (ZqF l k) (by kernel_rfl) rfl rfl htm hs hm hff
theorem Zaq (l:List Int):Z3 ((Zb l).map fun x=>x.2)=[]:=Zfy l
def Zaz (l:List Int) (k:Int):Bool×List Int:=if k < 1\/k > 65535\/l.contains k=true then (false,l) else (true,l++[k])
theorem Zto (l:List Int) (k:Int):E 12 [.ref 0 0,.int .i64 k] (ZW l)=some (.bool (Zaz l k).1,ZW (Zaz l k).2):=by
 have hh:=fun {σ:Za} {sq:Nat} {view:Bool} hs hm=>ZgE l k (σ:=σ) (t:=0) (m:=1) (sq:=sq) (own:=0) (view:=view) (by decide) hs hm rfl
 unfold Zaz
 by_cases h1:k < 1
 ·rw [if_pos (Xs h1)]
  have ho:=ZcI (r:=.bool false) rfl l
  unfold ZW at ho ⊢
  clear hh
  generalize Zb l=M at *
  rw [ZbG (by rfl) ZhE]
  simp -implicitDefEqProofs only [EQA,ZG,ZH,ZL,ZE,ZO,ZI,ZD,ZM,ZP,ZF,ZQ,ZJ,ZA,ZB,ZK,implies_true,forall_const,Xk,Xl,Xp,Xf,Xg,Xm,Xn,Zu,Zv,unA,Zo,Zr,unG,reduceCtorEq,Zi,decide_eq_true_eq,Xh,Xd,ite_self,↓reduceIte,Zq,Zt,gcT,gcA,Zl,Zf,Zd,Ze,Zm,Zc,Zk,Zg,Zn,Xj,Zg4,ZeM,ZgT,ZN,Zw,ZC,Zz,Zy,Zx,h1,ho]
 by_cases h2:k > 65535
 ·rw [if_pos (Xu (Xs h2))]
  have ho:=ZcI (r:=.bool false) rfl l
  unfold ZW at ho ⊢
  clear hh
  generalize Zb l=M at *
  rw [ZbG (by rfl) ZhE]
  simp -implicitDefEqProofs only [EQA,ZG,ZH,ZL,ZE,ZO,ZI,ZD,ZM,ZP,ZF,ZQ,ZJ,ZA,ZB,ZK,implies_true,forall_const,Xk,Xl,Xp,Xf,Xg,Xm,Xn,Zu,Zv,unA,Zo,Zr,unG,reduceCtorEq,Zi,decide_eq_true_eq,Xh,Xd,ite_self,↓reduceIte,Zq,Zt,gcT,gcA,Zl,Zf,Zd,Ze,Zm,Zc,Zk,Zg,Zn,Xj,Zg4,ZeM,ZgT,ZN,Zw,ZC,Zz,Zy,Zx,h1,h2,ho]
 cases h3:l.contains k with
 | true =>
  rw [if_pos (Xu (Xu rfl))]
  have ho:=ZcI (r:=.bool false) rfl l
  rw [h3] at hh
  unfold ZW at ho ⊢
  generalize Zb l=M at *
  rw [ZbG (by rfl) ZhE]
  simp -implicitDefEqProofs only [EQA,ZG,ZH,ZL,ZE,ZO,ZI,ZD,ZM,ZP,ZF,ZQ,ZJ,ZA,ZB,ZK,implies_true,forall_const,Xk,Xl,Xp,Xf,Xg,Xm,Xn,Zu,Zv,unA,Zo,Zr,unG,reduceCtorEq,Zi,decide_eq_true_eq,Xh,Xd,ite_self,↓reduceIte,Zq,Zt,gcT,gcA,Zl,Zf,Zd,Ze,Zm,Zc,Zk,Zg,Zn,Xj,Zg4,ZeM,ZgT,ZN,Zw,ZC,Zz,Zy,Zx,h1,h2,hh,ho]
 | false =>
  rw [if_neg (by simp [h1,h2,h3])]
  have hs:=fun σ t (hs:σ[t]?=some (.map (Zb l)))=>ZzQ (σ:=σ) (t:=t) hs h3
  have ho:=ZcI (r:=.bool true) rfl (l++[k])
  rw [h3] at hh
  unfold ZW at ho ⊢
  generalize Zb (l++[k])=M2 at *
  generalize Zb l=M at *
  rw [ZbG (by rfl) ZhE]
  simp -implicitDefEqProofs only [EQA,ZG,ZH,ZL,ZE,ZO,ZI,ZD,ZM,ZP,ZF,ZQ,ZJ,ZA,ZB,ZK,implies_true,forall_const,Xk,Xl,Xp,Xf,Xg,Xm,Xn,Zu,Zv,unA,Zo,Zr,unG,reduceCtorEq,Zi,decide_eq_true_eq,Xh,Xd,ite_self,↓reduceIte,Zq,Zt,gcT,gcA,Zl,Zf,Zd,Ze,Zm,Zc,Zk,Zg,Zn,Xj,Zg4,ZeM,ZgT,ZN,Zw,ZC,Zz,Zy,Zx,h1,h2,hh,hs,ho,Zcp,AVal.cells]
theorem Zem (l:List Int) (k:Int) {σ:Za} {t m sq own:Nat} {view:Bool} (htm:t≠m) (hs:σ[t]?=some (.var [.map m])) (hm:σ[m]?=some (.map (Zb l))) (hff:Z8 σ sq own=true) :
  ZR E BY σ sq 12 own view [.ref t 0,.int .i64 k]=some (.bool (Zaz l k).1,(σ.set t (.var [.map m])).set m (.map (Zb (Zaz l k).2)),{ any:=true,upd:=[(t,[.map m])] }) :=
 Ze9 (O:=E) rfl rfl (Zto l k) (by kernel_rfl) rfl rfl htm hs hm hff
theorem Zqr (l:List Int) (k:Int):E 13 [.ref 0 0,.int .i64 k] (ZW l)=some (.bool (l.contains k),ZW (l.erase k)):=by
 have hh:=fun {σ:Za} {sq:Nat} {view:Bool} hs hm=>ZgE l k (σ:=σ) (t:=0) (m:=1) (sq:=sq) (own:=0) (view:=view) (by decide) hs hm rfl
 have hs:=fun σ t (hs:σ[t]?=some (.map (Zb l)))=>Zq6 (σ:=σ) (t:=t) hs k
 have ho:=ZcI (r:=.bool (l.contains k)) rfl (l.erase k)
 unfold ZW at ho ⊢
 generalize Zb (l.erase k)=M2 at *
 generalize Zb l=M at *
 rw [ZbG (by rfl) Zs2]
 simp -implicitDefEqProofs only [EQA,ZG,ZH,ZL,ZE,ZO,ZI,ZD,ZM,ZP,ZF,ZQ,ZJ,ZA,ZB,ZK,implies_true,forall_const,Xk,Xl,Xp,Xf,Xg,Xm,Xn,Zu,Zv,unA,Zo,Zr,unG,reduceCtorEq,Zi,decide_eq_true_eq,Xh,Xd,ite_self,↓reduceIte,Zq,Zt,gcT,gcA,Zl,Zf,Zd,Ze,Zm,Zc,Zk,Zg,Zn,Xj,Zzw,Zja,Zth,ZN,Zw,ZC,Zz,Zy,Zx,hh,hs,ho]
theorem Zes (l:List Int) (k:Int) {σ:Za} {t m sq own:Nat} {view:Bool} (htm:t≠m) (hs:σ[t]?=some (.var [.map m])) (hm:σ[m]?=some (.map (Zb l))) (hff:Z8 σ sq own=true) :
  ZR E BY σ sq 13 own view [.ref t 0,.int .i64 k]=some (.bool (l.contains k),(σ.set t (.var [.map m])).set m (.map (Zb (l.erase k))),{ any:=true,upd:=[(t,[.map m])] }) :=
 Ze9 (O:=E) rfl rfl (Zqr l k) (by kernel_rfl) rfl rfl htm hs hm hff
theorem ZyW (l:List Int):E 20 [.ref 0 0] (ZW l)=some (.int .i64 l.length,ZW l):=by
 have hs:=fun σ t (hs:σ[t]?=some (.map (Zb l)))=>Zpx (σ:=σ) (t:=t) hs
 have ho:=ZcI (r:=.int .i64 l.length) rfl l
 unfold ZW at ho ⊢
 generalize Zb l=M at *
 rw [ZbG (by rfl) Znz]
 simp -implicitDefEqProofs only [EQA,ZG,ZH,ZL,ZE,ZO,ZI,ZD,ZM,ZP,ZF,ZQ,ZJ,ZA,ZB,ZK,implies_true,forall_const,Xk,Xl,Xp,Xf,Xg,Xm,Xn,Zu,Zv,unA,Zo,Zr,unG,reduceCtorEq,Zi,decide_eq_true_eq,Xh,Xd,ite_self,↓reduceIte,Zq,Zt,gcT,gcA,Zl,Zf,Zd,Ze,Zm,Zc,Zk,Zg,Zn,Xj,ZqJ,ZhS,ZvS,ZN,Zw,ZC,Zz,Zy,Zx,hs,ho]
theorem ZbP (l:List Int) {σ:Za} {t m sq own:Nat} {view:Bool} (htm:t≠m) (hs:σ[t]?=some (.var [.map m])) (hm:σ[m]?=some (.map (Zb l))) (hff:Z8 σ sq own=true) :
  ZR E BY σ sq 20 own view [.ref t 0]=some (.int .i64 l.length,(σ.set t (.var [.map m])).set m (.map (Zb l)),{ any:=true,upd:=[(t,[.map m])] }) :=
 Ze9 (O:=E) (args:=[]) rfl rfl (ZyW l) (by kernel_rfl) rfl rfl htm hs hm hff
def ZcM (l:List Int):Nat->Int->(Int×Bool)×List Int
 | 0,_=>((0,false),l)
 | n+1,k=>if l.contains k=true then ZcM l n (k+1) else ((k,true),l++[k])
def ZcU (l:List Int):(Int×Bool)×List Int:=ZcM l 65535 1
theorem ZlS (l:List Int):∀ (n:Nat) (k:Int),k=65536 - (n:Int)->1<=k ->
  ZfI 2 [(4,.int .i64 k),(0,.ref 0 0)] (ZW l)=some (.tup [.int .i64 (ZcM l n k).1.1,.bool (ZcM l n k).1.2],ZW (ZcM l n k).2)
 | 0,k,hk,h1=>by
  have h2:¬k<=65535:=by omega
  unfold ZcM
  have ho:=ZcI (r:=.tup [.int .i64 0,.bool false]) rfl l
  unfold ZW at ho ⊢
  generalize Zb l=M at *
  unfold ZfI
  rw [Zaw]
  simp -implicitDefEqProofs only [EQA,ZG,ZH,ZL,ZE,ZO,ZI,ZD,ZM,ZP,ZF,ZQ,ZJ,ZA,ZB,ZK,implies_true,forall_const,Xk,Xl,Xp,Xf,Xg,Xm,Xn,Zu,Zv,unA,Zo,Zr,unG,reduceCtorEq,Zi,decide_eq_true_eq,Xh,Xd,ite_self,↓reduceIte,Zq,Zt,gcT,gcA,Zl,Zf,Zd,Ze,Zm,Zc,Zk,Zg,Zn,Xj,ZhA,ZeE,Zhu,ZgG,Ze0,ZgR,ZeO,ZN,Zw,ZC,Zz,Zy,Zx,h2,ho]
 | n+1,k,hk,h1=>by
  have h2:k<=65535:=by omega
  have ih:=ZlS l n (k+1) (by omega) (by omega)
  have hh:=fun {σ:Za} {sq:Nat} {view:Bool} hs hm=>Zem l k (σ:=σ) (t:=0) (m:=1) (sq:=sq) (own:=0) (view:=view) (by decide) hs hm rfl
  have hw:IntKind.i64.wrap (k+1)=k+1:=Za6 (by omega) (by omega)
  have gm:∀ (σ:Za) (ρ:Rho),ZX ρ []=[]:=fun _ _=>rfl
  unfold ZcM
  cases hc:l.contains k with
  | true =>
   rw [if_pos rfl]
   have e:Zaz l k=(false,l):=by unfold Zaz;rw [if_pos (Xu (Xu hc))]
   rw [e] at hh
   unfold ZW at ih ⊢
   have hr:=Zaq l
   have hn:=fun ρ=>Zag ρ l
   generalize Zb l=M at *
   unfold ZfI at ih ⊢
   rw [Zaw]
   simp -implicitDefEqProofs only [EQA,ZG,ZH,ZL,ZE,ZO,ZI,ZD,ZM,ZP,ZF,ZQ,ZJ,ZA,ZB,ZK,implies_true,forall_const,Xk,Xl,Xp,Xf,Xg,Xm,Xn,Zu,Zv,unA,Zo,Zr,unG,reduceCtorEq,Zi,decide_eq_true_eq,Xh,Xd,ite_self,↓reduceIte,Zq,Zt,gcT,gcA,Zl,Zf,Zd,Ze,Zm,Zc,Zk,Zg,Zn,Xj,ZhA,ZeE,Zhu,ZgG,Ze0,ZgR,ZeO,ZN,Zw,ZC,Zz,Zy,Zx,h2,hh,hw,hr,hn]
   exact ih
  | false =>
   rw [if_neg (by simp)]
   have e:Zaz l k=(true,l++[k]):=by unfold Zaz;rw [if_neg (by rintro (h | h | h);omega;omega;rw [hc] at h;cases h)]
   rw [e] at hh
   have ho:=ZcI (r:=.tup [.int .i64 k,.bool true]) rfl (l++[k])
   unfold ZW at ho ⊢
   have hr:=Zaq l
   have hn:=fun ρ=>Zag ρ l
   generalize Zb (l++[k])=M2 at *
   generalize Zb l=M at *
   unfold ZfI
   rw [Zaw]
   simp -implicitDefEqProofs only [EQA,ZG,ZH,ZL,ZE,ZO,ZI,ZD,ZM,ZP,ZF,ZQ,ZJ,ZA,ZB,ZK,implies_true,forall_const,Xk,Xl,Xp,Xf,Xg,Xm,Xn,Zu,Zv,unA,Zo,Zr,unG,reduceCtorEq,Zi,decide_eq_true_eq,Xh,Xd,ite_self,↓reduceIte,Zq,Zt,gcT,gcA,Zl,Zf,Zd,Ze,Zm,Zc,Zk,Zg,Zn,Xj,ZhA,ZeE,Zhu,ZgG,Ze0,ZgR,ZeO,ZN,Zw,ZC,Zz,Zy,Zx,h2,hh,hw,hr,hn,ho]
theorem Zs6 (l:List Int):E 10 [.ref 0 0] (ZW l)=some (.tup [.int .i64 (ZcU l).1.1,.bool (ZcU l).1.2],ZW (ZcU l).2):=by
 have h:=ZlS l 65535 1 (by decide) (by decide)
 unfold ZcU
 generalize ZcM l 65535 1=R at *
 have hr:=Zaq l
 have hn:=fun ρ=>Zag ρ l
 unfold ZW at h ⊢
 generalize Zb l=M at *
 unfold ZfI at h
 rw [ZbG (by rfl) Zxt]
 simp -implicitDefEqProofs only [EQA,ZG,ZH,ZL,ZE,ZO,ZI,ZD,ZM,ZP,ZF,ZQ,ZJ,ZA,ZB,ZK,implies_true,forall_const,Xk,Xl,Xp,Xf,Xg,Xm,Xn,Zu,Zv,unA,Zo,Zr,unG,reduceCtorEq,Zi,decide_eq_true_eq,Xh,Xd,ite_self,↓reduceIte,Zq,Zt,gcT,gcA,Zl,Zf,Zd,Ze,Zm,Zc,Zk,Zg,Zn,Xj,ZhA,ZeE,Zhu,ZgG,Ze0,ZgR,ZeO,ZN,Zw,ZC,Zz,Zy,Zx,hr,hn]
 exact h
theorem Zgy (l:List Int) {σ:Za} {t m sq own:Nat} {view:Bool} (htm:t≠m) (hs:σ[t]?=some (.var [.map m])) (hm:σ[m]?=some (.map (Zb l))) (hff:Z8 σ sq own=true) :
  ZR E BY σ sq 10 own view [.ref t 0]=some (.tup [.int .i64 (ZcU l).1.1,.bool (ZcU l).1.2],(σ.set t (.var [.map m])).set m (.map (Zb (ZcU l).2)),{ any:=true,upd:=[(t,[.map m])] }) :=
 Ze9 (O:=E) (args:=[]) rfl rfl (Zs6 l) (by kernel_rfl) rfl rfl htm hs hm hff
end
section
def iS (X:List Int):List AVal:=X.map (AVal.int .i64 ·)
def pR (X:List Int):Za:=[.var [.sl 1 0 0 X.length],.row 0 1 (iS X)]
theorem ZeV {X:List Int} {i:Nat} {x:Int} (h:X[i]?=some x):(iS X)[i]?=some (.int .i64 x):=by simp [iS,h]
theorem ZcB (X:List Int):(iS X).length=X.length:=by simp [iS]
theorem Zha (X:List Int):kOk 1 (iS X)=true:=by cases X <;> rfl
theorem ZeY {σ:Za} {X:List Int} (hs:σ[1]?=some (.row 0 1 (iS X))) {i:Nat} (h:i < X.length):Zbw σ 1 (.sl 1 0 0 X.length) (.int .i64 (i:Int))=some (.eref 1 0 i 0,σ,{ rd:=[1] }):=by
 simp [Zbw,hs,h]
theorem Zfz (X:List Int) (r:AVal) (hr:Zas r=true):Za8 2 (pR X) r=some (r,pR X):=by
 have hi:Zl 2 [r] (pR X)=[0,1]:=by
  unfold Zl pR
  simp only [Z3,(Zco (fun _ _=>none) r hr).2,XW]
  rfl
 simp only [Za8,gcA,hi,Ze,ZX,(Zco _ r hr).1]
 rfl
theorem ZmK (X:List Int) (hl:X.length<=9223372036854775807) (m:Int):∀ (r:List Int) (i:Nat),X.drop i=r ->
  Zfc 2 [(5,.int .i64 (i:Int)),(1,.int .i64 m),(0,.ref 0 0)] (pR X)=some (.bool (r.contains m),pR X)
 | [],i,h=>by
  have h1:=ZeK h
  have ho:=Zfz X (.bool false) rfl
  rw [show ([]:List Int).contains m=false from rfl]
  unfold Zfc
  rw [Zaw]
  unfold pR at ho ⊢
  generalize iS X=S at *
  simp -implicitDefEqProofs only [EQA,ZG,ZH,ZL,ZE,ZO,ZI,ZD,ZM,ZP,ZF,ZQ,ZJ,ZA,ZB,ZK,implies_true,forall_const,Xk,Xl,Xp,Xf,Xg,Xm,Xn,Zu,Zv,unA,Zo,Zr,unG,reduceCtorEq,Zi,decide_eq_true_eq,Xh,Xd,ite_self,↓reduceIte,Zq,Zt,gcT,gcA,Zl,Zf,Zd,Ze,Zm,Zc,Zk,Zg,Zn,Xj,Zhm,ZeF,Zgp,Zgq,Zet,Zhq,ZeH,ZN,Zw,ZC,Zz,Zy,Zx,h1,ho,AVal.cells]
 | x::r,i,h=>by
  have ih:=ZmK X hl m r (i+1) (Zcu h).2.1
  obtain ⟨g1,d1,l1⟩:=Zcu h
  have h1:(i:Int) < X.length:=by omega
  have e3:=Zd3 h1 hl
  have hel:=fun {σ:Za} hs=>ZeY (σ:=σ) (X:=X) hs l1
  have hXi:=ZeV g1
  have ho:=Zfz X (.bool true) rfl
  cases h2:(x == m)
  case true =>
   have e:(x::r).contains m=true:=by
    rw [WK];have:=beq_iff_eq.1 h2;subst this;simp
   rw [e]
   unfold pR at ih hel ho ⊢
   generalize iS X=S at *
   unfold Zfc at ih ⊢
   rw [Zaw]
   simp -implicitDefEqProofs only [EQA,ZG,ZH,ZL,ZE,ZO,ZI,ZD,ZM,ZP,ZF,ZQ,ZJ,ZA,ZB,ZK,implies_true,forall_const,Xk,Xl,Xp,Xf,Xg,Xm,Xn,Zu,Zv,unA,Zo,Zr,unG,reduceCtorEq,Zi,decide_eq_true_eq,Xh,Xd,ite_self,↓reduceIte,Zq,Zt,gcT,gcA,Zl,Zf,Zd,Ze,Zm,Zc,Zk,Zg,Zn,Xj,Zhm,ZeF,Zgp,Zgq,Zet,Zhq,ZeH,ZN,Zw,ZC,Zz,Zy,Zx,h1,h2,e3,hel,hXi,ho,AVal.cells]
  case false =>
   have e:(x::r).contains m=r.contains m:=by
    rw [WK]
    have : (m == x)=false:=by rw [beq_eq_false_iff_ne] at h2 ⊢;exact fun e=>h2 e.symm
    rw [this,XaT]
   rw [e]
   unfold pR at ih hel ho ⊢
   generalize iS X=S at *
   unfold Zfc at ih ⊢
   rw [Zaw]
   simp -implicitDefEqProofs only [EQA,ZG,ZH,ZL,ZE,ZO,ZI,ZD,ZM,ZP,ZF,ZQ,ZJ,ZA,ZB,ZK,implies_true,forall_const,Xk,Xl,Xp,Xf,Xg,Xm,Xn,Zu,Zv,unA,Zo,Zr,unG,reduceCtorEq,Zi,decide_eq_true_eq,Xh,Xd,ite_self,↓reduceIte,Zq,Zt,gcT,gcA,Zl,Zf,Zd,Ze,Zm,Zc,Zk,Zg,Zn,Xj,Zhm,ZeF,Zgp,Zgq,Zet,Zhq,ZeH,ZN,Zw,ZC,Zz,Zy,Zx,h1,h2,e3,hel,hXi,AVal.cells]
   exact ih
theorem ZrV (X:List Int) (hl:X.length<=9223372036854775807) (m:Int):E 16 [.ref 0 0,.int .i64 m] (pR X)=some (.bool (X.contains m),pR X):=by
 have h:=ZmK X hl m X 0 rfl
 have z0:((0:Nat):Int)=0:=rfl
 rw [z0] at h
 unfold Zfc at h
 unfold pR at h ⊢
 generalize iS X=S at *
 rw [ZbG (by rfl) Ztf]
 simp -implicitDefEqProofs only [EQA,ZG,ZH,ZL,ZE,ZO,ZI,ZD,ZM,ZP,ZF,ZQ,ZJ,ZA,ZB,ZK,implies_true,forall_const,Xk,Xl,Xp,Xf,Xg,Xm,Xn,Zu,Zv,unA,Zo,Zr,unG,reduceCtorEq,Zi,decide_eq_true_eq,Xh,Xd,ite_self,↓reduceIte,Zq,Zt,gcT,gcA,Zl,Zf,Zd,Ze,Zm,Zc,Zk,Zg,Zn,Xj,Zhm,ZeF,Zgp,Zgq,Zet,Zhq,ZeH,ZN,Zw,ZC,Zz,Zy,Zx,AVal.cells]
 exact h
def pos (m:Int):List Int->Nat
 | []=>0
 | x::r=>if x < m then pos m r+1 else 0
theorem ZkR (m:Int):∀ X:List Int,pos m X<=X.length
 | []=>XM _
 | x::r=>by
  unfold pos;split
  ·have:=ZkR m r;simp;omega
  ·simp
def hin (m:Int) (X:List Int):Bool:=X[pos m X]? == some m
def ZaF (m:Int) (X:List Int):List Int:=X.take (pos m X)++m::X.drop (pos m X)
def Zch (m:Int):Prop:=m < 1\/m > 65535
instance (m:Int):Decidable (Zch m):=by unfold Zch;infer_instance
def hH (m:Int) (X:List Int):Za:=if Zch m\/hin m X=true then pR X else [.var [.sl 2 0 0 (X.length+1)],.row 0 1 (iS X),.row 0 1 (iS (ZaF m X))]
def hOk (m:Int) (X:List Int):Bool:=!(decide (Zch m) || hin m X)
theorem Zhe {σ:Za} {X:List Int} (hs:σ[1]?=some (.row 0 1 (iS X))) {p n:Nat} (h:p+n<=X.length):Zi σ (.sl 1 0 p n)=some (iS ((X.drop p).take n),[1]):=by
 have h':p+n<=(iS X).length:=by rw [ZcB];exact h
 simp only [Zi,hs,h',and_self,if_true]
 simp only [iS,<-List.map_drop,<-Xbb]
theorem ZhW (X:List Int) (hl:X.length<=1000000) (m:Int):∀ (r:List Int) (i:Nat),X.drop i=r ->
  evL FC PR BY 2 [5,1,0] ZhK [(5,.int .i64 (i:Int)),(1,.int .i64 m),(0,.ref 0 0)] (pR X)=some (.exit 0,[(30,.bool false),(5,.int .i64 ((i+pos m r:Nat):Int)),(1,.int .i64 m),(0,.ref 0 0)],pR X)
 | [],i,h=>by
  have h1:=ZeK h
  rw [show pos m []=0 from rfl,XU]
  unfold pR
  generalize iS X=S at *
  rw [Zaw]
  simp -implicitDefEqProofs only [EQA,ZG,ZH,ZL,ZE,ZO,ZI,ZD,ZM,ZP,ZF,ZQ,ZJ,ZA,ZB,ZK,implies_true,forall_const,Xk,Xl,Xp,Xf,Xg,Xm,Xn,Zu,Zv,unA,Zo,Zr,unG,reduceCtorEq,Zi,decide_eq_true_eq,Xh,Xd,ite_self,↓reduceIte,Zq,Zt,gcT,gcA,Zl,Zf,Zd,Ze,Zm,Zc,Zk,Zg,Zn,Xj,ZcS,Zcs,ZcJ,ZcO,Zcy,ZcZ,Zck,ZN,Zw,ZC,Zz,Zy,Zx,h1,AVal.cells]
 | x::r,i,h=>by
  have ih:=ZhW X hl m r (i+1) (Zcu h).2.1
  obtain ⟨g1,d1,l1⟩:=Zcu h
  have h1:(i:Int) < X.length:=by omega
  have e3:=Zd3 h1 (W2 hl (by decide))
  have hel:=fun {σ:Za} hs=>ZeY (σ:=σ) (X:=X) hs l1
  have hXi:=ZeV g1
  by_cases h2:x < m
  ·rw [show pos m (x::r)=pos m r+1 by rw [pos,if_pos h2],show i+(pos m r+1)=i+1+pos m r by omega]
   generalize i+1+pos m r=P at *
   unfold pR at ih hel ⊢
   generalize iS X=S at *
   rw [Zaw]
   simp -implicitDefEqProofs only [EQA,ZG,ZH,ZL,ZE,ZO,ZI,ZD,ZM,ZP,ZF,ZQ,ZJ,ZA,ZB,ZK,implies_true,forall_const,Xk,Xl,Xp,Xf,Xg,Xm,Xn,Zu,Zv,unA,Zo,Zr,unG,reduceCtorEq,Zi,decide_eq_true_eq,Xh,Xd,ite_self,↓reduceIte,Zq,Zt,gcT,gcA,Zl,Zf,Zd,Ze,Zm,Zc,Zk,Zg,Zn,Xj,ZcS,Zcs,ZcJ,ZcO,Zcy,ZcZ,Zck,ZN,Zw,ZC,Zz,Zy,Zx,h1,h2,e3,hel,hXi,AVal.cells]
   exact ih
  ·rw [show pos m (x::r)=0 by rw [pos,if_neg h2],XU]
   unfold pR at hel ⊢
   generalize iS X=S at *
   rw [Zaw]
   simp -implicitDefEqProofs only [EQA,ZG,ZH,ZL,ZE,ZO,ZI,ZD,ZM,ZP,ZF,ZQ,ZJ,ZA,ZB,ZK,implies_true,forall_const,Xk,Xl,Xp,Xf,Xg,Xm,Xn,Zu,Zv,unA,Zo,Zr,unG,reduceCtorEq,Zi,decide_eq_true_eq,Xh,Xd,ite_self,↓reduceIte,Zq,Zt,gcT,gcA,Zl,Zf,Zd,Ze,Zm,Zc,Zk,Zg,Zn,Xj,ZcS,Zcs,ZcJ,ZcO,Zcy,ZcZ,Zck,ZN,Zw,ZC,Zz,Zy,Zx,h1,h2,e3,hel,hXi,AVal.cells]
theorem Ztb (X:List Int) (m:Int) (h:Zch m):E 8 [.ref 0 0,.int .i64 m] (pR X)=some (.bool false,pR X):=by
 have ho:=Zfz X (.bool false) rfl
 unfold pR at ho ⊢
 generalize iS X=S at *
 rw [ZbG (by rfl) ZhF]
 by_cases h1:m < 1
 ·simp -implicitDefEqProofs only [EQA,ZG,ZH,ZL,ZE,ZO,ZI,ZD,ZM,ZP,ZF,ZQ,ZJ,ZA,ZB,ZK,implies_true,forall_const,Xk,Xl,Xp,Xf,Xg,Xm,Xn,Zu,Zv,unA,Zo,Zr,unG,reduceCtorEq,Zi,decide_eq_true_eq,Xh,Xd,ite_self,↓reduceIte,Zq,Zt,gcT,gcA,Zl,Zf,Zd,Ze,Zm,Zc,Zk,Zg,Zn,Xj,ZcS,Zcs,ZcJ,ZcO,Zcy,ZcZ,Zck,ZN,Zw,ZC,Zz,Zy,Zx,h1,ho,AVal.cells]
 ·have h2:m > 65535:=by rcases h with h | h <;> omega
  simp -implicitDefEqProofs only [EQA,ZG,ZH,ZL,ZE,ZO,ZI,ZD,ZM,ZP,ZF,ZQ,ZJ,ZA,ZB,ZK,implies_true,forall_const,Xk,Xl,Xp,Xf,Xg,Xm,Xn,Zu,Zv,unA,Zo,Zr,unG,reduceCtorEq,Zi,decide_eq_true_eq,Xh,Xd,ite_self,↓reduceIte,Zq,Zt,gcT,gcA,Zl,Zf,Zd,Ze,Zm,Zc,Zk,Zg,Zn,Xj,ZcS,Zcs,ZcJ,ZcO,Zcy,ZcZ,Zck,ZN,Zw,ZC,Zz,Zy,Zx,h1,h2,ho,AVal.cells]
theorem Zu5 (X:List Int) (hl:X.length<=1000000) (m:Int) (h:¬Zch m) (hi:hin m X=true):E 8 [.ref 0 0,.int .i64 m] (pR X)=some (.bool false,pR X):=by
 have h1:¬m < 1:=fun e=>h (Xs e)
 have h2:¬m > 65535:=fun e=>h (Xu e)
 have hL:=ZhW X hl m X 0 rfl
 have z0:((0:Nat):Int)=0:=rfl
 rw [z0,XF] at hL
 have hg:X[pos m X]?=some m:=by simpa [hin] using hi
 have hlt:pos m X < X.length:=(Xc.1 hg).1
 have hlt':((pos m X:Nat):Int) < X.length:=by omega
 have hel:=fun {σ:Za} hs=>ZeY (σ:=σ) (X:=X) hs hlt
 have hXi:=ZeV hg
 have ho:=Zfz X (.bool false) rfl
 generalize pos m X=p at *
 unfold pR at hL ho ⊢
 generalize iS X=S at *
 rw [ZbG (by rfl) ZhF]
 simp -implicitDefEqProofs only [EQA,ZG,ZH,ZL,ZE,ZO,ZI,ZD,ZM,ZP,ZF,ZQ,ZJ,ZA,ZB,ZK,implies_true,forall_const,Xk,Xl,Xp,Xf,Xg,Xm,Xn,Zu,Zv,unA,Zo,Zr,unG,reduceCtorEq,Zi,decide_eq_true_eq,Xh,Xd,ite_self,↓reduceIte,Zq,Zt,gcT,gcA,Zl,Zf,Zd,Ze,Zm,Zc,Zk,Zg,Zn,Xj,ZcS,Zcs,ZcJ,ZcO,Zcy,ZcZ,Zck,ZN,Zw,ZC,Zz,Zy,Zx,h1,h2,hL,hlt',hel,hXi,ho,AVal.cells]
theorem Zl9 {σ:Za} {X:List Int} (hs:σ[1]?=some (.row 0 1 (iS X))) {p:Nat} (h:p<=X.length):Zbz σ 1 (.sl 1 0 0 X.length) none (some (.int .i64 (p:Int))) none=some (.sl 1 0 0 p,σ,{ rd:=[1] }):=by
 have h':(p:Int)<=((X.length:Nat):Int):=by omega
 simp [Zbz,Zi,hs,ZaU,ZcQ,ZcB,h]
theorem Zmj {σ:Za} {X:List Int} (hs:σ[1]?=some (.row 0 1 (iS X))) {p:Nat} (h:p<=X.length):Zbz σ 1 (.sl 1 0 0 X.length) (some (.int .i64 (p:Int))) none none=some (.sl 1 0 p (X.length - p),σ,{ rd:=[1] }):=by
 have h':(p:Int)<=((X.length:Nat):Int):=by omega
 simp [Zbz,Zi,hs,ZaU,ZcQ,ZcB,h]
theorem Zmt (X:List Int) (hl:X.length<=1000000) (m:Int) (h:¬Zch m) (hi:hin m X=false):E 8 [.ref 0 0,.int .i64 m] (pR X)=some (.bool true,[.var [.sl 2 0 0 (X.length+1)],.row 0 1 (iS X),.row 0 1 (iS (ZaF m X))]):=by
 have h1:¬m < 1:=fun e=>h (Xs e)
 have h2:¬m > 65535:=fun e=>h (Xu e)
 have hL:=ZhW X hl m X 0 rfl
 have z0:((0:Nat):Int)=0:=rfl
 rw [z0,XF] at hL
 have hple:=ZkR m X
 have s1:=fun {σ:Za} hs=>Zl9 (σ:=σ) (X:=X) hs hple
 have s2:=fun {σ:Za} hs=>Zmj (σ:=σ) (X:=X) hs hple
 have a1:∀ {σ:Za} (hs:σ[1]?=some (.row 0 1 (iS X))) (sq:Nat),ZaM σ sq 1 8 (.lst true []) (.sl 1 0 0 (pos m X))=some (.sl sq 0 0 (pos m X),σ.set sq (.row 0 1 (iS (X.take (pos m X)))),{ rd:=[1] }):=by
  intro σ hs sq
  have e:=Zhe hs (p:=0) (n:=pos m X) (by omega)
  rw [Xar] at e
  have hlen:(iS (X.take (pos m X))).length=pos m X:=by rw [ZcB];simp;omega
  have b:pos m X*8<=140737488355328:=by omega
  simp only [ZaM,e,Zha,if_true,hlen,b]
 have a2:∀ {σ:Za} {t:Nat} (hs:σ[t]?=some (.row 0 1 (iS (X.take (pos m X))))) (sq:Nat),ZaM σ sq 1 8 (.sl t 0 0 (pos m X)) (.lst true [.int .i64 m])=some (.sl t 1 0 (pos m X+1),σ.set t (.row 1 1 (iS (X.take (pos m X)++[m]))),{ rd:=[],wr:=[t] }):=by
  intro σ t hs sq
  have b:(pos m X+1)*8<=140737488355328:=by omega
  have hlen:pos m X=(iS (X.take (pos m X))).length:=by rw [ZcB];simp;omega
  have hk:kOk 1 [AVal.int .i64 m]=true:=rfl
  simp only [ZaM,Zi,hk,if_true,hs,List.length_singleton,b,and_self,<-hlen]
  simp [iS]
 have a3:∀ {σ:Za} {t:Nat} (ht:σ[t]?=some (.row 1 1 (iS (X.take (pos m X)++[m])))) (hs:σ[1]?=some (.row 0 1 (iS X))) (sq:Nat),ZaM σ sq 1 8 (.sl t 1 0 (pos m X+1)) (.sl 1 0 (pos m X) (X.length - pos m X))=some (.sl t 2 0 (X.length+1),σ.set t (.row 2 1 (iS (ZaF m X))),{ rd:=[1],wr:=[t] }):=by
  intro σ t ht hs sq
  have e:=Zhe hs (p:=pos m X) (n:=X.length - pos m X) (by omega)
  have hlen:(iS ((X.drop (pos m X)).take (X.length - pos m X))).length=X.length - pos m X:=by rw [ZcB];simp
  have b:(pos m X+1+(X.length - pos m X))*8<=140737488355328:=by omega
  have hlen2:pos m X+1=(iS (X.take (pos m X)++[m])).length:=by rw [ZcB];simp;omega
  simp only [ZaM,e,Zha,if_true,ht,hlen,b,and_self,<-hlen2]
  rw [show pos m X+1+(X.length - pos m X)=X.length+1 by omega]
  simp only [ZaF,iS,<-Wk,X7,Wh]
  rw [X6 (l:=X.drop (pos m X)) (by simp)]
 have hXi:(iS X)[pos m X]?=some (.int .i64 (X.getD (pos m X) 0))\/X.length<=pos m X:=by
  rcases Xaf (pos m X) X.length with h | h
  ·exact Xs (ZeV (by rw [Xi,Xe h];rfl))
  ·exact Xu h
 have hv:∀ σ:Za,viewAs σ [.int .i64 m]=some ([.int .i64 m],[]):=fun _=>rfl
 by_cases hp:pos m X < X.length
 ·have h3:((pos m X:Nat):Int) < X.length:=by omega
  have hel:=fun {σ:Za} hs=>ZeY (σ:=σ) (X:=X) hs hp
  have hne:((X.getD (pos m X) 0) == m)=false:=by
   rw [beq_eq_false_iff_ne]
   intro e
   have hgg:X.getD (pos m X) 0=X[pos m X]:=by rw [Xi,Xe hp];rfl
   rw [hgg] at e
   have : X[pos m X]?=some m:=by rw [Xe hp,e]
   rw [hin,this] at hi
   simp at hi
  have hXi':(iS X)[pos m X]?=some (.int .i64 (X.getD (pos m X) 0)):=by
   rcases hXi with h | h
   ·exact h
   ·omega
  clear hi hXi hp h hple
  unfold pR at hL ⊢
  generalize X.getD (pos m X) 0=q at *
  generalize ZaF m X=Y at *
  generalize hA:iS (X.take (pos m X)++[m])=SA at *
  generalize hB:iS (X.take (pos m X))=SB at *
  generalize iS Y=SY at *
  generalize iS X=S at *
  generalize pos m X=p at *
  generalize X.length=n at *
  rw [ZbG (by rfl) ZhF]
  simp -implicitDefEqProofs only [EQA,ZG,ZH,ZL,ZE,ZO,ZI,ZD,ZM,ZP,ZF,ZQ,ZJ,ZA,ZB,ZK,implies_true,forall_const,Xk,Xl,Xp,Xf,Xg,Xm,Xn,Zu,Zv,unA,Zo,Zr,unG,reduceCtorEq,Zi,decide_eq_true_eq,Xh,Xd,ite_self,↓reduceIte,Zq,Zt,gcT,gcA,Zl,Zf,Zd,Ze,Zm,Zc,Zk,Zg,Zn,Xj,ZcS,Zcs,ZcJ,ZcO,Zcy,ZcZ,Zck,ZN,Zw,ZC,Zz,Zy,Zx,h1,h2,hL,h3,hel,hXi',hne,s1,s2,a1,a2,a3,hv,AVal.cells,ZT,W8,Xba,Zcp,Z5,Za4]
  rw [Za5 _ _ _ _ _ _ _ (by rfl)]
  simp -implicitDefEqProofs only [EQA,ZG,ZH,ZL,ZE,ZO,ZI,ZD,ZM,ZP,ZF,ZQ,ZJ,ZA,ZB,ZK,implies_true,forall_const,Xk,Xl,Xp,Xf,Xg,Xm,Xn,Zu,Zv,unA,Zo,Zr,unG,reduceCtorEq,Zi,decide_eq_true_eq,Xh,Xd,ite_self,↓reduceIte,Zq,Zt,gcT,gcA,Zl,Zf,Zd,Ze,Zm,Zc,Zk,Zg,Zn,Xj,ZcS,Zcs,ZcJ,ZcO,Zcy,ZcZ,Zck,ZN,Zw,ZC,Zz,Zy,Zx,AVal.cells]
  rfl
 ·have h3:¬((pos m X:Nat):Int) < X.length:=by omega
  clear hi hXi hp h hple
  unfold pR at hL ⊢
  generalize ZaF m X=Y at *
  generalize hA:iS (X.take (pos m X)++[m])=SA at *
  generalize hB:iS (X.take (pos m X))=SB at *
  generalize iS Y=SY at *
  generalize iS X=S at *
  generalize pos m X=p at *
  generalize X.length=n at *
  rw [ZbG (by rfl) ZhF]
  simp -implicitDefEqProofs only [EQA,ZG,ZH,ZL,ZE,ZO,ZI,ZD,ZM,ZP,ZF,ZQ,ZJ,ZA,ZB,ZK,implies_true,forall_const,Xk,Xl,Xp,Xf,Xg,Xm,Xn,Zu,Zv,unA,Zo,Zr,unG,reduceCtorEq,Zi,decide_eq_true_eq,Xh,Xd,ite_self,↓reduceIte,Zq,Zt,gcT,gcA,Zl,Zf,Zd,Ze,Zm,Zc,Zk,Zg,Zn,Xj,ZcS,Zcs,ZcJ,ZcO,Zcy,ZcZ,Zck,ZN,Zw,ZC,Zz,Zy,Zx,h1,h2,hL,h3,s1,s2,a1,a2,a3,hv,AVal.cells,ZT,W8,Xba,Zcp,Z5,Za4]
  rw [Za5 _ _ _ _ _ _ _ (by rfl)]
  simp -implicitDefEqProofs only [EQA,ZG,ZH,ZL,ZE,ZO,ZI,ZD,ZM,ZP,ZF,ZQ,ZJ,ZA,ZB,ZK,implies_true,forall_const,Xk,Xl,Xp,Xf,Xg,Xm,Xn,Zu,Zv,unA,Zo,Zr,unG,reduceCtorEq,Zi,decide_eq_true_eq,Xh,Xd,ite_self,↓reduceIte,Zq,Zt,gcT,gcA,Zl,Zf,Zd,Ze,Zm,Zc,Zk,Zg,Zn,Xj,ZcS,Zcs,ZcJ,ZcO,Zcy,ZcZ,Zck,ZN,Zw,ZC,Zz,Zy,Zx,AVal.cells]
  rfl
end
section
def Zbk (X:List Int) (i:Nat):List Int:=X.take i++X.drop (i+1)
theorem Zq4 (X:List Int) (hl:X.length<=1000000) (i:Nat) (hi:i<=X.length):∀ {σ:Za} (hs:σ[1]?=some (.row 0 1 (iS X))) (sq:Nat),ZaM σ sq 1 8 (.lst true []) (.sl 1 0 0 i)=some (.sl sq 0 0 i,σ.set sq (.row 0 1 (iS (X.take i))),{ rd:=[1] }):=by
 intro σ hs sq
 have e:=Zhe hs (p:=0) (n:=i) (by omega)
 rw [Xar] at e
 have hlen:(iS (X.take i)).length=i:=by rw [ZcB];simp;omega
 have b:i*8<=140737488355328:=by omega
 simp only [ZaM,e,Zha,if_true,hlen,b]
theorem ZmS (X:List Int) (hl:X.length<=1000000) (m:Int):∀ (r:List Int) (i:Nat),X.drop i=r ->
  ZfO 2 [(5,.int .i64 (i:Int)),(1,.int .i64 m),(0,.ref 0 0)] (pR X)=if r.contains m=true then some (.bool true,[.var [.sl 2 0 0 (X.length - 1)],.row 0 1 (iS X),.row 0 1 (iS (Zbk X (i+r.idxOf m)))]) else some (.bool false,pR X)
 | [],i,h=>by
  have h1:=ZeK h
  have ho:=Zfz X (.bool false) rfl
  rw [show ([]:List Int).contains m=false from rfl,if_neg (by simp)]
  unfold ZfO
  rw [Zaw]
  unfold pR at ho ⊢
  generalize iS X=S at *
  simp -implicitDefEqProofs only [EQA,ZG,ZH,ZL,ZE,ZO,ZI,ZD,ZM,ZP,ZF,ZQ,ZJ,ZA,ZB,ZK,implies_true,forall_const,Xk,Xl,Xp,Xf,Xg,Xm,Xn,Zu,Zv,unA,Zo,Zr,unG,reduceCtorEq,Zi,decide_eq_true_eq,Xh,Xd,ite_self,↓reduceIte,Zq,Zt,gcT,gcA,Zl,Zf,Zd,Ze,Zm,Zc,Zk,Zg,Zn,Xj,Zhl,ZeS,Zge,ZgJ,ZeC,Zhb,Ze3,ZN,Zw,ZC,Zz,Zy,Zx,h1,ho,AVal.cells]
 | x::r,i,h=>by
  have ih:=ZmS X hl m r (i+1) (Zcu h).2.1
  obtain ⟨g1,d1,l1⟩:=Zcu h
  have h1:(i:Int) < X.length:=by omega
  have e3:=Zd3 h1 (W2 hl (by decide))
  have hel:=fun {σ:Za} hs=>ZeY (σ:=σ) (X:=X) hs l1
  have hXi:=ZeV g1
  cases h2:(x == m)
  case true =>
   have e:(x::r).contains m=true:=by
    rw [WK];have:=beq_iff_eq.1 h2;subst this;simp
   have e':(x::r).idxOf m=0:=by rw [Xap,h2];rfl
   rw [if_pos e,e',XU]
   have s1:=fun {σ:Za} hs=>Zl9 (σ:=σ) (X:=X) hs (XaK l1)
   have s2:=fun {σ:Za} hs=>Zmj (σ:=σ) (X:=X) hs (p:=i+1) l1
   have a1:=fun {σ:Za} hs=>Zq4 X hl i (XaK l1) (σ:=σ) hs
   have a3:∀ {σ:Za} {t:Nat} (ht:σ[t]?=some (.row 0 1 (iS (X.take i)))) (hs:σ[1]?=some (.row 0 1 (iS X))) (sq:Nat),ZaM σ sq 1 8 (.sl t 0 0 i) (.sl 1 0 (i+1) (X.length - (i+1)))=some (.sl t 1 0 (X.length - 1),σ.set t (.row 1 1 (iS (Zbk X i))),{ rd:=[1],wr:=[t] }):=by
    intro σ t ht hs sq
    have e:=Zhe hs (p:=i+1) (n:=X.length - (i+1)) (by omega)
    have hlen:(iS ((X.drop (i+1)).take (X.length - (i+1)))).length=X.length - (i+1):=by rw [ZcB];simp
    have b:(i+(X.length - (i+1)))*8<=140737488355328:=by omega
    have hlen2:i=(iS (X.take i)).length:=by rw [ZcB];simp;omega
    simp only [ZaM,e,Zha,if_true,ht,hlen,b,and_self,<-hlen2]
    rw [show i+(X.length - (i+1))=X.length - 1 by omega]
    simp only [Zbk,iS,<-Wk]
    rw [X6 (l:=X.drop (i+1)) (by simp)]
   clear ih
   unfold pR at hel ⊢
   generalize Zbk X i=Y at *
   generalize hB:iS (X.take i)=SB at *
   generalize iS Y=SY at *
   generalize iS X=S at *
   generalize X.length - (i+1)=q at *
   generalize X.length - 1=n1 at *
   generalize X.length=n at *
   unfold ZfO
   rw [Zaw]
   simp -implicitDefEqProofs only [EQA,ZG,ZH,ZL,ZE,ZO,ZI,ZD,ZM,ZP,ZF,ZQ,ZJ,ZA,ZB,ZK,implies_true,forall_const,Xk,Xl,Xp,Xf,Xg,Xm,Xn,Zu,Zv,unA,Zo,Zr,unG,reduceCtorEq,Zi,decide_eq_true_eq,Xh,Xd,ite_self,↓reduceIte,Zq,Zt,gcT,gcA,Zl,Zf,Zd,Ze,Zm,Zc,Zk,Zg,Zn,Xj,Zhl,ZeS,Zge,ZgJ,ZeC,Zhb,Ze3,ZN,Zw,ZC,Zz,Zy,Zx,h1,h2,e3,hel,hXi,s1,s2,a1,a3,AVal.cells,ZT,Z5,Za4]
   rfl
  case false =>
   have hx:(m == x)=false:=by rw [beq_eq_false_iff_ne] at h2 ⊢;exact fun e=>h2 e.symm
   have e:(x::r).contains m=r.contains m:=by
    rw [WK,hx,XaT]
   have e':(x::r).idxOf m=r.idxOf m+1:=by rw [Xap,h2];rfl
   rw [e,e',show i+(r.idxOf m+1)=i+1+r.idxOf m by omega]
   generalize i+1+r.idxOf m=P at *
   generalize (if r.contains m=true then some (AVal.bool true,[Z0.var [.sl 2 0 0 (X.length - 1)],.row 0 1 (iS X),.row 0 1 (iS (Zbk X P))]) else some (AVal.bool false,pR X))=R at *
   unfold pR at ih hel ⊢
   generalize iS X=S at *
   unfold ZfO at ih ⊢
   rw [Zaw]
   simp -implicitDefEqProofs only [EQA,ZG,ZH,ZL,ZE,ZO,ZI,ZD,ZM,ZP,ZF,ZQ,ZJ,ZA,ZB,ZK,implies_true,forall_const,Xk,Xl,Xp,Xf,Xg,Xm,Xn,Zu,Zv,unA,Zo,Zr,unG,reduceCtorEq,Zi,decide_eq_true_eq,Xh,Xd,ite_self,↓reduceIte,Zq,Zt,gcT,gcA,Zl,Zf,Zd,Ze,Zm,Zc,Zk,Zg,Zn,Xj,Zhl,ZeS,Zge,ZgJ,ZeC,Zhb,Ze3,ZN,Zw,ZC,Zz,Zy,Zx,h1,h2,e3,hel,hXi,AVal.cells]
   exact ih
theorem Zj4 (X:List Int) (hl:X.length<=1000000) (m:Int):E 14 [.ref 0 0,.int .i64 m] (pR X)=if X.contains m=true then some (.bool true,[.var [.sl 2 0 0 (X.length - 1)],.row 0 1 (iS X),.row 0 1 (iS (Zbk X (X.idxOf m)))]) else some (.bool false,pR X):=by
 have h:=ZmS X hl m X 0 rfl
 have z0:((0:Nat):Int)=0:=rfl
 rw [z0,XF] at h
 rw [<-h]
 clear h
 unfold ZfO pR
 generalize iS X=S at *
 rw [ZbG (by rfl) ZyS]
 simp -implicitDefEqProofs only [EQA,ZG,ZH,ZL,ZE,ZO,ZI,ZD,ZM,ZP,ZF,ZQ,ZJ,ZA,ZB,ZK,implies_true,forall_const,Xk,Xl,Xp,Xf,Xg,Xm,Xn,Zu,Zv,unA,Zo,Zr,unG,reduceCtorEq,Zi,decide_eq_true_eq,Xh,Xd,ite_self,↓reduceIte,Zq,Zt,gcT,gcA,Zl,Zf,Zd,Ze,Zm,Zc,Zk,Zg,Zn,Xj,Zhl,ZeS,Zge,ZgJ,ZeC,Zhb,Ze3,ZN,Zw,ZC,Zz,Zy,Zx,AVal.cells]
def ZaV (k:Int):List Int->Nat
 | []=>0
 | x::r=>if x=k then ZaV (k+1) r+1 else 0
theorem ZjK:∀ (k:Int) (X:List Int),ZaV k X<=X.length
 | _,[]=>XM _
 | k,x::r=>by
  unfold ZaV;split
  ·have:=ZjK (k+1) r;simp;omega
  ·simp
theorem ZmO (X:List Int) (hl:X.length<=1000000):∀ (r:List Int) (i:Nat) (k:Int),X.drop i=r->k=(i:Int)+1 ->
  evL FC PR BY 2 [5,4,0] Ziu [(5,.int .i64 (i:Int)),(4,.int .i64 k),(0,.ref 0 0)] (pR X)=some (.exit 0,[(23,.bool false),(5,.int .i64 ((i+ZaV k r:Nat):Int)),(4,.int .i64 (k+(ZaV k r:Nat))),(0,.ref 0 0)],pR X)
 | [],i,k,h,hk=>by
  have h1:=ZeK h
  rw [show ZaV k []=0 from rfl,XU,show k+((0:Nat):Int)=k by simp]
  unfold pR
  generalize iS X=S at *
  rw [Zaw]
  simp -implicitDefEqProofs only [EQA,ZG,ZH,ZL,ZE,ZO,ZI,ZD,ZM,ZP,ZF,ZQ,ZJ,ZA,ZB,ZK,implies_true,forall_const,Xk,Xl,Xp,Xf,Xg,Xm,Xn,Zu,Zv,unA,Zo,Zr,unG,reduceCtorEq,Zi,decide_eq_true_eq,Xh,Xd,ite_self,↓reduceIte,Zq,Zt,gcT,gcA,Zl,Zf,Zd,Ze,Zm,Zc,Zk,Zg,Zn,Xj,Zhj,ZeJ,ZgF,ZhD,ZeD,Zf7,ZeR,ZN,Zw,ZC,Zz,Zy,Zx,h1,AVal.cells]
 | x::r,i,k,h,hk=>by
  have ih:=ZmO X hl r (i+1) (k+1) (Zcu h).2.1 (by omega)
  obtain ⟨g1,d1,l1⟩:=Zcu h
  have h1:(i:Int) < X.length:=by omega
  have e3:=Zd3 h1 (W2 hl (by decide))
  have e4:IntKind.i64.wrap (k+1)=k+1:=Za6 (by omega) (by omega)
  have hel:=fun {σ:Za} hs=>ZeY (σ:=σ) (X:=X) hs l1
  have hXi:=ZeV g1
  by_cases h2:x=k
  ·have h2':(x == k)=true:=by simpa using h2
   rw [show ZaV k (x::r)=ZaV (k+1) r+1 by rw [ZaV,if_pos h2],show i+(ZaV (k+1) r+1)=i+1+ZaV (k+1) r by omega,show k+((ZaV (k+1) r+1:Nat):Int)=k+1+(ZaV (k+1) r:Nat) by omega]
   generalize i+1+ZaV (k+1) r=P at *
   generalize k+1+((ZaV (k+1) r:Nat):Int)=Q at *
   unfold pR at ih hel ⊢
   generalize iS X=S at *
   rw [Zaw]
   simp -implicitDefEqProofs only [EQA,ZG,ZH,ZL,ZE,ZO,ZI,ZD,ZM,ZP,ZF,ZQ,ZJ,ZA,ZB,ZK,implies_true,forall_const,Xk,Xl,Xp,Xf,Xg,Xm,Xn,Zu,Zv,unA,Zo,Zr,unG,reduceCtorEq,Zi,decide_eq_true_eq,Xh,Xd,ite_self,↓reduceIte,Zq,Zt,gcT,gcA,Zl,Zf,Zd,Ze,Zm,Zc,Zk,Zg,Zn,Xj,Zhj,ZeJ,ZgF,ZhD,ZeD,Zf7,ZeR,ZN,Zw,ZC,Zz,Zy,Zx,h1,h2',e3,e4,hel,hXi,AVal.cells]
   exact ih
  ·have h2':(x == k)=false:=by simpa using h2
   rw [show ZaV k (x::r)=0 by rw [ZaV,if_neg h2],XU,show k+((0:Nat):Int)=k by simp]
   unfold pR at hel ⊢
   generalize iS X=S at *
   rw [Zaw]
   simp -implicitDefEqProofs only [EQA,ZG,ZH,ZL,ZE,ZO,ZI,ZD,ZM,ZP,ZF,ZQ,ZJ,ZA,ZB,ZK,implies_true,forall_const,Xk,Xl,Xp,Xf,Xg,Xm,Xn,Zu,Zv,unA,Zo,Zr,unG,reduceCtorEq,Zi,decide_eq_true_eq,Xh,Xd,ite_self,↓reduceIte,Zq,Zt,gcT,gcA,Zl,Zf,Zd,Ze,Zm,Zc,Zk,Zg,Zn,Xj,Zhj,ZeJ,ZgF,ZhD,ZeD,Zf7,ZeR,ZN,Zw,ZC,Zz,Zy,Zx,h1,h2',e3,e4,hel,hXi,AVal.cells]
def tk (X:List Int):Int:=1+(ZaV 1 X:Nat)
theorem ZuD (X Y:List Int) (n:Nat) (m:Int) (h:E 8 [.ref 0 0,.int .i64 m] (pR X)=some (.bool true,[.var [.sl 2 0 0 n],.row 0 1 (iS X),.row 0 1 (iS Y)])):ZR E BY [.var [.sl 1 0 0 X.length],.row 0 1 (iS X),.free] 2 8 1 true [.ref 0 0,.int .i64 m]=some (.bool true,[.var [.sl 2 0 0 n],.row 0 1 (iS X),.row 0 1 (iS Y)],{ any:=true,upd:=[(0,[.sl 2 0 0 n])] }):=by
 unfold pR at h
 exact ZdP (vs:=[.ref 0 0,.int .i64 m]) (vs':=[.ref 0 0,.int .i64 m]) (ids:=[0,1]) (h0:=[.var [.sl 1 0 0 X.length],.row 0 1 (iS X)]) (h:=[.var [.sl 2 0 0 n],.row 0 1 (iS X),.row 0 1 (iS Y)]) (r:=.bool true) (by kernel_rfl) rfl rfl rfl rfl rfl rfl h rfl (XT rfl) (XT rfl) rfl rfl rfl rfl rfl
theorem ZAv (X:List Int) (hl:X.length<=60000) (hi:hin (tk X) X=false):E 11 [.ref 0 0] (pR X)=some (.tup [.int .i64 (tk X),.bool true],[.var [.sl 2 0 0 (X.length+1)],.row 0 1 (iS X),.row 0 1 (iS (ZaF (tk X) X))]):=by
 have hL:=ZmO X (by omega) X 0 1 rfl rfl
 have z0:((0:Nat):Int)=0:=rfl
 rw [z0,XF] at hL
 have hr:=ZjK 1 X
 have hb:¬Zch (tk X):=by unfold Zch tk;omega
 have hC:=ZuD X _ _ _ (Zmt X (by omega) (tk X) hb hi)
 rw [show (1:Int)+((ZaV 1 X:Nat):Int)=tk X from rfl] at hL
 generalize ZaF (tk X) X=Y at *
 generalize tk X=k at *
 generalize ZaV 1 X=P at *
 unfold pR at hL ⊢
 generalize iS Y=SY at *
 generalize iS X=S at *
 rw [ZbG (by rfl) ZAI]
 simp -implicitDefEqProofs only [EQA,ZG,ZH,ZL,ZE,ZO,ZI,ZD,ZM,ZP,ZF,ZQ,ZJ,ZA,ZB,ZK,implies_true,forall_const,Xk,Xl,Xp,Xf,Xg,Xm,Xn,Zu,Zv,unA,Zo,Zr,unG,reduceCtorEq,Zi,decide_eq_true_eq,Xh,Xd,ite_self,↓reduceIte,Zq,Zt,gcT,gcA,Zl,Zf,Zd,Ze,Zm,Zc,Zk,Zg,Zn,Xj,Zhj,ZeJ,ZgF,ZhD,ZeD,Zf7,ZeR,ZN,Zw,ZC,Zz,Zy,Zx,hL,hC,AVal.cells]
 rfl
end
section
def ZbW (xs:List Int):List Int:=xs.foldl (fun a k=>(Zaz a k).2) []
theorem ZAB (l:List Int):Za8 0 (ZW l) (.ref 0 0)=some (.ref 0 0,ZW l):=by
 have e0:([]:List Nat).contains 0=false:=rfl
 have e1:([0]:List Nat).contains 1=false:=rfl
 have hr0:Z3 [AVal.ref 0 0]=[0]:=rfl
 have hb0:Zn (.var [.map 1])=[1]:=rfl
 have g0:(ZW l).getD 0 .free=.var [.map 1]:=rfl
 have g1:(ZW l).getD 1 .free=.map (Zb l):=rfl
 have hi:Zl 0 [.ref 0 0] (ZW l)=[0,1]:=by
  unfold Zl
  rw [show Wi 0=[] from rfl,WQ,XL,hr0,show (1000:Nat)=997+1+1+1 from rfl]
  simp only [Zf,e0,e1,g0,g1,hb0,XL,XW,Wh,Xw,if_false,Zfy,XX]
 have hρ0:Zd (ZW l) 0 [0,1] 0 0=some (0,0):=rfl
 have hρ1:Zd (ZW l) 0 [0,1] 1 0=some (1,0):=rfl
 simp only [Za8,gcA,hi,Ze,ZX,g0,g1,Zmo]
 unfold ZW at hρ0 hρ1 ⊢
 simp only [Zg,ZX,Zp,hρ0,hρ1]
theorem ZlY (xs:List Int) (hx:xs.length<=9223372036854775807):∀ (r acc:List Int) (i:Nat),xs.drop i=r ->
  Zhf 0 [(11,.int .i64 (i:Int)),(10,.int .i64 (xs.length:Int)),(9,.lst false (xs.map (.int .i64 ·))),(3,.ref 0 0)] (ZW acc)=some (.ref 0 0,ZW (r.foldl (fun a k=>(Zaz a k).2) acc))
 | [],acc,i,hi=>by
  have h0:¬(i:Int) < (xs.length:Int):=by
   have:=Xac.1 hi;omega
  rw [List.foldl_nil]
  have ho:=ZAB acc
  unfold ZW at ho ⊢
  generalize Zb acc=M at *
  unfold Zhf
  rw [Zaw]
  simp -implicitDefEqProofs only [EQA,ZG,ZH,ZL,ZE,ZO,ZI,ZD,ZM,ZP,ZF,ZQ,ZJ,ZA,ZB,ZK,implies_true,forall_const,Xk,Xl,Xp,Xf,Xg,Xm,Xn,Zu,Zv,unA,Zo,Zr,unG,reduceCtorEq,Zi,decide_eq_true_eq,Xh,Xd,ite_self,↓reduceIte,Zq,Zt,gcT,gcA,Zl,Zf,Zd,Ze,Zm,Zc,Zk,Zg,Zn,Xj,ZjQ,Zf1,ZiZ,Ziy,ZfY,ZiA,ZfF,ZN,Zw,ZC,Zz,Zy,Zx,h0,ho]
 | x::r,acc,i,hi=>by
  have hlt:i < xs.length:=by
   rcases Xaf i xs.length with h | h
   ·exact h
   ·rw [Xac.2 h] at hi;cases hi
  have h0:(i:Int) < (xs.length:Int):=by omega
  have hg:xs[i]?=some x:=by
   have:=congrArg List.head? hi
   simpa using this
  have hnx:xs.drop (i+1)=r:=by
   have : (xs.drop i).drop 1=r:=by rw [hi];rfl
   rwa [List.drop_drop] at this
  have ha:=fun σ kk=>iad hg (AVal.int IntKind.i64 ·) (k:=1) rfl σ false kk
  have hw:=Zd3 (i:=i) h0 hx
  have ih:=ZlY xs hx r (Zaz acc x).2 (i+1) hnx
  have hh:=fun {σ:Za} {sq:Nat} {view:Bool} hs hm=>Zem acc x (σ:=σ) (t:=0) (m:=1) (sq:=sq) (own:=0) (view:=view) (by decide) hs hm rfl
  have ho:=Zaq (Zaz acc x).2
  have hn:=fun ρ=>Zag ρ (Zaz acc x).2
  rw [List.foldl_cons]
  unfold ZW at ih ⊢
  generalize (Zaz acc x).1=R at *
  generalize r.foldl (fun a k=>(Zaz a k).2) (Zaz acc x).2=M3 at *
  generalize Zb (Zaz acc x).2=M2 at *
  generalize Zb acc=M at *
  generalize hL:xs.map (AVal.int IntKind.i64 ·)=L at *
  unfold Zhf at ih ⊢
  rw [Zaw]
  simp -implicitDefEqProofs only [EQA,ZG,ZH,ZL,ZE,ZO,ZI,ZD,ZM,ZP,ZF,ZQ,ZJ,ZA,ZB,ZK,implies_true,forall_const,Xk,Xl,Xp,Xf,Xg,Xm,Xn,Zu,Zv,unA,Zo,Zr,unG,reduceCtorEq,Zi,decide_eq_true_eq,Xh,Xd,ite_self,↓reduceIte,Zq,Zt,gcT,gcA,Zl,Zf,Zd,Ze,Zm,Zc,Zk,Zg,Zn,Xj,ZjQ,Zf1,ZiZ,Ziy,ZfY,ZiA,ZfF,ZN,Zw,ZC,Zz,Zy,Zx,h0,ha,hw,hh,ho,hn]
  exact ih
theorem Zpb (xs:List Int) (hx:xs.length<=9223372036854775807):E 6 [.lst false (xs.map (.int .i64 ·))] []=some (.ref 0 0,ZW (ZbW xs)):=by
 have h:=ZlY xs hx xs [] 0 rfl
 unfold ZbW
 generalize xs.foldl (fun a k=>(Zaz a k).2) []=R at *
 have z:((0:Nat):Int)=0:=rfl
 rw [z] at h
 unfold ZW at h ⊢
 rw [show Zb []=[] from rfl] at h
 unfold Zhf at h
 rw [ZbG (by rfl) ZsU]
 simp -implicitDefEqProofs only [EQA,ZG,ZH,ZL,ZE,ZO,ZI,ZD,ZM,ZP,ZF,ZQ,ZJ,ZA,ZB,ZK,implies_true,forall_const,Xk,Xl,Xp,Xf,Xg,Xm,Xn,Zu,Zv,unA,Zo,Zr,unG,reduceCtorEq,Zi,decide_eq_true_eq,Xh,Xd,ite_self,↓reduceIte,Zq,Zt,gcT,gcA,Zl,Zf,Zd,Ze,Zm,Zc,Zk,Zg,Zn,Xj,ZjQ,Zf1,ZiZ,Ziy,ZfY,ZiA,ZfF,ZN,Zw,ZC,Zz,Zy,Zx,Zcp,AVal.cells,XO,Xz]
 exact h
end
end Go.Proofs.Ytcgndmenpdhjcaa
