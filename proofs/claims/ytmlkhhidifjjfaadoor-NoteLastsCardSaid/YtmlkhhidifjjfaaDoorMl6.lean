/- The card of NoteLasts: for every input the law returns true, and each argument reads afterwards as it read before. No other condition; the tables of unicode/utf8 are tied to the program. -/
import Derived.Test.YtmlkhhidifjjfaaDoorMl5
import Derived.Lib.BufferSrc
import Derived.Test.YtmlkhhidifjjfaaDoorMl4
import Derived.Test.YtmlkhhidifjjfaaDoorMl1
import Derived.Test.YtmlkhhidifjjfaaDoorProg
import Derived.Shelf.LaysM
import Derived.Test.YtmlkhhidifjjfaaDoorCards
import Derived.Test.YtmlkhhidifjjfaaDoorTie
import Derived.WalkKit
import Derived.ProofKit
import Derived.OpenShut
import Derived.ShutString
import Derived.ChangeOld
import Derived.Below
import Derived.SevenTiedAt
import Derived.LaidByTextLater
import Derived.Lib.LaidU8T
import Derived.Lib.LaidIn
import Derived.Deep.DeepHandedRow
import Derived.MakeChecks
set_option linter.unusedSimpArgs false
set_option linter.unusedVariables false
namespace Go.Proofs.YtmlkhhidifjjfaaDoor
set_option maxHeartbeats 16000000
set_option maxRecDepth 10000
section
open Go.Shelf Go.RowKit
section
variable {P:Program} {ρ:Ren}
def BufRow (w:World) (b:Nat) (A:Option Addr) (l cap:Nat) (olds:List Value):Prop :=
 olds.length=l/\l<=cap/\cap<=maxLen/\(∀ v ∈ olds,v.oneCell'=true)/\(cap=0\/∃ g cur t,A=some ⟨g,0,none⟩/\g≠b/\w.heap[g]?=some (.cells cur t (0,0))/\cur.size=cap/\cur.toList.take l=olds)
theorem BufRow.hold {w:World} {b:Nat} {A:Option Addr} {l cap:Nat} {olds:List Value} (h:BufRow w b A l cap olds):l=0\/∃ a,A=some a/\∀ j v,olds[j]?=some v->w.cell? (a.add j)=some v:=by
 obtain ⟨h1,h2,h3,h4,h5 | ⟨g,cur,t,h5,h6,h7,h8,h9⟩⟩:=h
 ·exact Or.inl (by omega)
 ·exact Or.inr ⟨_,h5,by rw [<-h9];exact Lib.cells_of_row h7 l⟩
theorem ZCu (L:LaysM.n252 P ρ) (T:TypeId) (R:Nat->Option Value) (b:Nat) (A:Option Addr) (l cap:Nat) (olds:List Value) (n:Nat) (lr:Int) (w:World)
  (hbk:LibA.Three w b 0 T R (.slice A l cap) (.int .i64 0) (.int .i8 lr)) (hr:BufRow w b A l cap olds) (hA:A=none->cap=0) (hroom:cap - l < n) (hlim:l+n<=70368744177664) :
  Calls P (ρ.f 252) #[.pointer (some ⟨b,0,none⟩),.int .i64 n] w fun e w'=>e=.returned (.int .i64 l)/\ZjL w T R b l n olds lr (ρ.t 5) w':=by
 have hold:=hr.hold
 obtain ⟨h1,h2,h3,h4,h5⟩:=hr
 cases A with
 | none =>
  have hc:=hA rfl
  subst hc
  have hl0:l=0:=by omega
  subst hl0
  have ho:olds=[]:=List.eq_nil_of_length_eq_zero h1
  subst ho
  by_cases h64:n<=64
  ·exact ZxX L T R b n lr w hbk (by omega) h64
  ·exact ZOt L T R b n lr w hbk (by omega) (by omega)
 | some x =>
  by_cases hl0:l=0
  ·subst hl0
   have ho:olds=[]:=List.eq_nil_of_length_eq_zero h1
   subst ho
   exact ZFm L T R b x cap n lr w hbk (by omega) (by omega)
  ·exact Zw6 L T R b x l cap olds n lr w hbk hl0 h1 h4 h2 hroom hlim hold
def Zvs (w:World) (T:TypeId) (R:Nat->Option Value) (b:Nat) (A:Option Addr) (l n cap:Nat) (all:List Value) (w':World):Prop :=
 ∃ A' cap',LibA.Three w' b 0 T R (.slice A' (l+n) cap') (.int .i64 0) (.int .i8 0)/\l+n<=cap'/\cap'<=maxLen /\
  ((n=0/\A'=A/\cap'=cap/\w.grownBy w' (some b)) \/
   ∃ G W1 Y t,A'=some ⟨G,0,none⟩/\(G=w.heap.size\/(A=some ⟨G,0,none⟩/\cap≠0))/\G≠b/\w.grownBy W1 (some b)/\W1.grownBy w' (some G)/\w'.heap[G]?=some (.cells Y t (0,0))/\Y.size=cap'/\Y.toList.take (l+n)=all)
set_option maxRecDepth 100000 in
theorem ZOh (L:LaysM.n180 P ρ) (T:TypeId) (R:Nat->Option Value) (b:Nat) (A:Option Addr) (l cap:Nat) (lr:Int) (olds news:List Value) (pa:Option Addr) (n pc:Nat) (w:World)
  (hbk:LibA.Three w b 0 T R (.slice A l cap) (.int .i64 0) (.int .i8 lr)) (hr:BufRow w b A l cap olds) (hA:A=none->cap=0) (hnews:news.length=n) (h1c:∀ v ∈ news,v.oneCell'=true)
  (hsrc:n=0\/∃ a,pa=some a/\a.block≠b/\∀ j v,news[j]?=some v->w.cell? (a.add j)=some v) (hlim:l+n<=70368744177664) :
  Calls P (ρ.f 180) #[.pointer (some ⟨b,0,none⟩),.slice pa n pc] w fun e w'=>e=.returned (.tuple #[.int .i64 n,.nilIface])/\Zvs w T R b A l n cap (olds++news) w':=by
 have mixed:=L.mixed
 have t5:=L.t5;have a5:=L.a5;have z5:=L.z5;have v5:=L.v5
 have t130:=L.t130;have a130:=L.a130;have z130:=L.z130;have v130:=L.v130
 have t37:=L.t37;have a37:=L.a37;have z37:=L.z37;have v37:=L.v37
 have t3:=L.t3;have a3:=L.a3;have z3:=L.z3;have v3:=L.v3
 have t75:=L.t75;have a75:=L.a75;have z75:=L.z75;have v75:=L.v75
 have t0:=L.t0;have a0:=L.a0;have z0:=L.z0;have v0:=L.v0
 have t93:=L.t93;have u93:=run_underlying L.t93;have a93:=L.a93;have z93:=L.z93;have v93:=L.v93
 have t91:=L.t91;have a91:=L.a91;have z91:=L.z91;have v91:=L.v91
 have t131:=L.t131;have a131:=L.a131;have z131:=L.z131;have v131:=L.v131
 have t4:=L.t4;have a4:=L.a4;have z4:=L.z4;have v4:=L.v4
 have e251:∀ args w,(callFunc (ρ.f 251) args).run P w=.ok (.enter (ρ.f 251) args) w:=enters_of L.f251 (by kernel_rfl) rfl
 have e252:∀ args w,(callFunc (ρ.f 252) args).run P w=.ok (.enter (ρ.f 252) args) w:=enters_of L.f252 (by kernel_rfl) rfl
 have c2:w.cell? ⟨b,2,none⟩=some (.int .i8 lr):=hbk.c2
 have f2:w.frozen? ⟨b,2,none⟩=false:=hbk.f 2
 have hinfo:(P.info? (ρ.t 5)).map (·.size)=some 1:=by
  obtain ⟨i0,hi,-,hz1,-⟩:=info_parts L.i5
  rw [hi];simp [hz1]
 obtain ⟨ho,hlc,hcm,h1,hrow⟩:=id hr
 have hbkA:LibA.Three (w.setCell ⟨b,2,none⟩ (.int .i8 0)) b 0 T R (.slice A l cap) (.int .i64 0) (.int .i8 0):=hbk.set2 _
 have hgA:w.grownBy (w.setCell ⟨b,2,none⟩ (.int .i8 0)) (some b):=Lib.grownBy_setCell w b 2 _
 have hszA:(w.setCell ⟨b,2,none⟩ (.int .i8 0)).heap.size=w.heap.size:=by simp [World.setCell]
 have hrA:BufRow (w.setCell ⟨b,2,none⟩ (.int .i8 0)) b A l cap olds:=⟨ho,hlc,hcm,h1,hrow.imp id fun ⟨g,cur,t,e,hgb,hg,r⟩=>⟨g,cur,t,e,hgb,(Below.heap_setCell _ _ _ _ hgb).trans hg,r⟩⟩
 by_cases hroom:n<=cap - l
 ·by_cases hs0:n=0
  ·
   subst hs0
   have hc0:news=[]:=List.eq_nil_of_length_eq_zero hnews
   subst hc0
   have hce:∀ d dLen dCap W,(Builtin.copy_ #[(ρ.t 37),(ρ.t 37)] (ρ.t 3) #[.slice d dLen dCap,.slice pa 0 pc]).run P W=.ok (goInt 0) W:=fun d dLen dCap W=>run_copy_none W (ρ.t 37) (ρ.t 37) (ρ.t 3) (ρ.t 5) d pa dLen dCap 0 pc L.t37 hinfo (by simp)
   have hT:∀ W,W.cell? ⟨b,0,none⟩=some (.slice A l cap)->W.frozen? ⟨b,0,none⟩=false->Calls P (ρ.f 251) #[.pointer (some ⟨b,0,none⟩),.int .i64 0] W (fun e w'=>e=.returned (.tuple #[.int .i64 l,.bool true])/\w'=W.setCell ⟨b,0,none⟩ (.slice A l cap)):=fun W q1 q2=>Any.Buffer_tryGrow_room_at { L with } b 0 A l cap 0 W q1 q2 hlc hcm (Nat.zero_le _)
   clear hsrc hroom hlim
   go_enter L.f180,Body.n180_ntmps ρ
   go_wp2_with (go_at_fn (ρ.f 251);refine (hT _ ?_ ?_).mono ?_)
   ·exact hbkA.c0
   ·exact hbkA.f 0
   rintro e W1 ⟨rfl,hW1⟩
   have hbk1:LibA.Three W1 b 0 T R (.slice A l cap) (.int .i64 0) (.int .i8 0):=by rw [hW1];exact hbkA.set0 _
   have hgW:w.grownBy W1 (some b):=by rw [hW1];exact Lib.grownBy_setB hgA 0 _
   clear hW1 hbkA hgA hszA hrA c2 f2 hT
   have d0:W1.cell? ⟨b,0,none⟩=some (.slice A l cap):=hbk1.c0
   have hcm':=hcm
   unfold maxLen at hcm'
   have hfin:Zvs w T R b A l 0 cap (olds++[]) W1:=⟨A,cap,hbk1,hlc,hcm,Or.inl ⟨rfl,rfl,rfl,hgW⟩⟩
   clear hrow hr
   cases A
   all_goals (go_wp2;all_goals (go_ret2;first | exact ⟨rfl,hfin⟩ | exact ⟨by simp,by simpa using hfin⟩ | (refine ⟨by simp,?_⟩;have hcl:l=cap:=(by omega);simpa [hcl] using hfin)))
  ·
   go_enter L.f180,Body.n180_ntmps ρ
   go_wp2_with (go_at_fn (ρ.f 251);refine (Any.Buffer_tryGrow_room_at { L with } b 0 A l cap n _ ?_ ?_ hlc hcm hroom).mono ?_)
   ·exact hbkA.c0
   ·exact hbkA.f 0
   rintro e W1 ⟨rfl,hW1⟩
   obtain ⟨G,cap',cur,t,hbk1,hG,hcs,htk,hlc',hcm',hGb,hGw,hgW⟩:∃ G cap' cur t,LibA.Three W1 b 0 T R (.slice (some ⟨G,0,none⟩) (l+n) cap') (.int .i64 0) (.int .i8 0)/\W1.heap[G]?=some (.cells cur t (0,0))/\cur.size=cap'/\cur.toList.take l=olds/\l+n<=cap'/\cap'<=maxLen/\G≠b/\(G=w.heap.size\/(A=some ⟨G,0,none⟩/\cap≠0))/\w.grownBy W1 (some b):=by
    obtain hc | ⟨g,cur,t,e,hgb,hg,hcs,htk⟩:=hrow
    ·omega
    ·refine ⟨g,cap,cur,t,?_,?_,hcs,htk,by omega,hcm,hgb,Or.inr ⟨e,by omega⟩,?_⟩
     ·rw [hW1,e];rw [e] at hbkA;exact hbkA.set0 _
     ·rw [hW1,Below.heap_setCell _ _ _ _ hgb,Below.heap_setCell _ _ _ _ hgb];exact hg
     ·rw [hW1];exact Lib.grownBy_setB hgA 0 _
   clear hW1 hbkA hgA hszA hrA c2 f2 hrow
   have d0:W1.cell? ⟨b,0,none⟩=some (.slice (some ⟨G,0,none⟩) (l+n) cap'):=hbk1.c0
   have hne:¬cap'=l:=by omega
   have hsrc1:n=0\/∃ a,pa=some a/\∀ j v,news[j]?=some v->W1.cell? (a.add j)=some v:=hsrc.imp id fun ⟨a,e,hab,h⟩=>⟨a,e,fun j v hj=>hgW.cell (h j v hj) (by rw [Lib.block_add];exact fun e=>hab (Option.some.inj e))⟩
   obtain ⟨W2,Y,hcp,hY,hYl,hgb,hsz⟩:=Zko (P:=P) W1 (ρ.t 37) (ρ.t 37) (ρ.t 3) (ρ.t 5) G l n (cap' - l) pa n pc cur t news L.t37 hinfo hG hnews (Nat.le_refl _) hsrc1 (by omega) h1c
   have hYs:Y.size=cap':=by
    have h3:=congrArg List.length hYl
    simp only [List.length_append,List.length_drop,List.length_take,Array.length_toList] at h3
    omega
   have hYt:Y.toList.take (l+n)=olds++news:=by
    rw [hYl,htk,List.take_append_of_le_length (by simp;omega),List.take_of_length_le (by simp;omega)]
   have hW2:LibA.Three W2 b 0 T R (.slice (some ⟨G,0,none⟩) (l+n) cap') (.int .i64 0) (.int .i8 0):=hbk1.of_heap (hgb.block b hbk1.lt (fun e=>hGb (Option.some.inj e).symm))
   have hcm2:=hcm'
   unfold maxLen at hcm2
   have hgb0:=hgb
   have hYr:=hY
   clear hsrc hsrc1 hr hA
   go_wp2
   go_ret2
   exact ⟨rfl,_,_,hW2,hlc',hcm',Or.inr ⟨G,W1,Y,t,rfl,hGw,hGb,hgW,hgb0,hYr,hYs,hYt⟩⟩
 ·
  go_enter L.f180,Body.n180_ntmps ρ
  go_wp2_with (go_at_fn (ρ.f 251);refine (Any.Buffer_tryGrow_none_at { L with } b 0 A l cap n _ ?_ hlc hcm (by omega)).mono ?_)
  ·exact hbkA.c0
  rintro e W0 ⟨rfl,hW0⟩
  rw [<-hW0] at hbkA hgA hszA hrA
  clear hW0 c2 f2
  have hroom':cap - l < n:=by omega
  go_wp2_with (go_at_fn (ρ.f 252);refine (ZCu { L with } T R b A l cap olds n 0 _ ?_ ?_ hA hroom' hlim).mono ?_)
  ·exact hbkA
  ·exact hrA
  rintro e W1 ⟨rfl,cap',cur,hbk1,hG,hcs,htk,hlc',hcm',hgB⟩
  obtain ⟨G,hGe⟩:∃ G,G=w.heap.size:=⟨_,rfl⟩
  rw [hszA,<-hGe] at hbk1 hG
  have hGw:G=w.heap.size\/(A=some ⟨G,0,none⟩/\cap≠0):=Or.inl hGe
  have hGb:G≠b:=by have:=hbk.lt;omega
  have hgW:w.grownBy W1 (some b):=Lib.grownBy_trans hgA hgB
  obtain ⟨t,ht⟩:∃ t,t=ρ.t 5:=⟨_,rfl⟩
  rw [<-ht] at hG
  clear hbkA hgA hszA hrA hgB hGe hrow hroom
  have d0:W1.cell? ⟨b,0,none⟩=some (.slice (some ⟨G,0,none⟩) (l+n) cap'):=hbk1.c0
  have hne:¬cap'=l:=by omega
  have hsrc1:n=0\/∃ a,pa=some a/\∀ j v,news[j]?=some v->W1.cell? (a.add j)=some v:=hsrc.imp id fun ⟨a,e,hab,h⟩=>⟨a,e,fun j v hj=>hgW.cell (h j v hj) (by rw [Lib.block_add];exact fun e=>hab (Option.some.inj e))⟩
  obtain ⟨W2,Y,hcp,hY,hYl,hgb,hsz⟩:=Zko (P:=P) W1 (ρ.t 37) (ρ.t 37) (ρ.t 3) (ρ.t 5) G l n (cap' - l) pa n pc cur t news L.t37 hinfo hG hnews (Nat.le_refl _) hsrc1 (by omega) h1c
  have hYs:Y.size=cap':=by
   have h3:=congrArg List.length hYl
   simp only [List.length_append,List.length_drop,List.length_take,Array.length_toList] at h3
   omega
  have hYt:Y.toList.take (l+n)=olds++news:=by
   rw [hYl,htk,List.take_append_of_le_length (by simp;omega),List.take_of_length_le (by simp;omega)]
  have hW2:LibA.Three W2 b 0 T R (.slice (some ⟨G,0,none⟩) (l+n) cap') (.int .i64 0) (.int .i8 0):=hbk1.of_heap (hgb.block b hbk1.lt (fun e=>hGb (Option.some.inj e).symm))
  have hcm2:=hcm'
  unfold maxLen at hcm2
  have hgb0:=hgb
  have hYr:=hY
  clear hsrc hsrc1 hr hA
  go_wp2
  go_ret2
  exact ⟨rfl,_,_,hW2,hlc',hcm',Or.inr ⟨G,W1,Y,t,rfl,hGw,hGb,hgW,hgb0,hYr,hYs,hYt⟩⟩
end
end
section
open Go.Shelf Go.RowKit
section
variable {P:Program} {ρ:Ren} {base:Nat->Prop} {w0 w w':World} {I0 I:Imm} {β:Bmap} {σ:Za}
theorem ZG9 {b:Nat} {ty:TypeId} {x y z:Value} (h:LibA.Three w b 0 ty (fun _=>none) x y z):w.heap[b]?=some (.cells #[x,y,z] ty (0,0)):=by
 obtain ⟨cs,hb,h0,h1,h2,hr⟩:=h
 rw [hb]
 have : cs=#[x,y,z]:=by
  apply Array.ext_getElem?
  intro i
  match i with
  | 0=>exact h0
  | 1=>exact h1
  | 2=>exact h2
  | i+3=>rw [hr (i+3) (Or.inr (by omega))];exact (Array.getElem?_eq_none (by simp)).symm
 rw [this]
theorem ZB3 {k:Nat} {y:AVal} {ys:List AVal} {b off:Nat} (h:LR I β k (y::ys) b off) (hk:0 < k):∃ u,I b off=some u:=by
 rw [ZfR] at h
 obtain ⟨⟨h1,h2⟩,_⟩:=h
 cases hc:y.cells with
 | nil=>rw [hc] at h1;simp at h1;omega
 | cons c cs =>
  rw [hc] at h2
  simp only [CR] at h2
  obtain ⟨⟨u,hu,_⟩,_⟩:=h2
  exact ⟨u,hu⟩
theorem Zys (R:Rel base w0 I0 I β σ w) {b:Nat} (hb:∀ o,I b o=none) {y:Bool} {ys:List AVal} {v:Value} (hv:VR I β (.lst y ys) v) (hk:kOk 1 ys=true) :
  ∃ A cap news,v=.slice A ys.length cap/\news.length=ys.length/\VRs I β (ys.flatMap AVal.cells) news/\Zae ys=true/\(∀ x ∈ ys,x.cells.length=1)/\(∀ v ∈ news,v.oneCell'=true) /\
   (ys.length=0\/∃ a,A=some a/\a.block≠b/\∀ j v,news[j]?=some v->w.cell? (a.add j)=some v):=by
 have hv0:=hv
 obtain ⟨A,cap,e,_,_,htree,hc⟩:=ZmV R hv
 by_cases hne:ys=[]
 ·subst hne
  exact ⟨A,cap,[],e,rfl,by simp [VRs],rfl,by simp,by simp,Or.inl rfl⟩
 ·rcases hc with hc | ⟨b',off,k,us,hA,hk0,hl,hvs,hcell⟩
  ·exact absurd hc hne
  have e1:=ZkM hk hl hne
  subst e1
  refine ⟨A,cap,us,e,by rw [<-ZaZ hvs,Zek hl,Nat.mul_one],hvs,htree,hl,ZgW (fun z hz=>ZjA (Zc0.1 (ZlG htree) z hz)) hvs,Or.inr ⟨⟨b',off,none⟩,hA,?_,fun j v hj=>by rw [Addr.add_mid];exact hcell j v hj⟩⟩
  rintro rfl
  simp only [VR] at hv0
  obtain ⟨A',cap',e',_,_,_,h5,_⟩:=hv0
  rcases h5 with h5 | ⟨b2,off2,k2,e2,hk2,h5⟩
  ·exact hne h5
  ·rw [e] at e'
   injection e' with e' _ _
   rw [e'] at hA
   rw [hA] at e2
   injection e2 with e2
   injection e2 with e2 e3
   cases ys with
   | nil=>exact hne rfl
   | cons z zs =>
    obtain ⟨u,hu⟩:=ZB3 h5 hk2
    rw [<-e2,hb] at hu;cases hu
theorem Zvp (L : LaysM.n180 P ρ) (hb : KLt base w0) {c0 : AVal} {lr : Int} {g : Nat} {xs : List AVal} (R : Rel base w0 I0 I β [.var [c0, .int .i64 0, .int .i8 lr], .row g 1 xs] w)
    {bi : BI} (hbi : β 1 g = some bi) {b kk cc : Nat} (hβ0 : β 0 0 = some ⟨some b, kk, cc⟩) {A : Option Addr} {cap : Nat} {ty : TypeId}
    (hheap : w.heap[b]? = some (.cells #[.slice A xs.length cap, .int .i64 0, .int .i8 lr] ty (0, 0)))
    (hA : (∃ gb, bi.b = some gb /\ A = some ⟨gb, 0, none⟩ /\ cap = bi.cap) \/ (bi.b = none /\ cap = 0 /\ bi.cap = 0))
    {y : Bool} {ys : List AVal} {v1 : Value} (hv1 : VR I β (.lst y ys) v1) (hlim : xs.length + ys.length <= ZbQ) (hk : kOk 1 ys = true) :
    Calls P (ρ.f 180) #[.pointer (some ⟨b, 0, none⟩), v1] w (fun e w' => ∃ u, Ends (.tup [.int .i64 ys.length, .nili]) e u /\ ∃ β', β.le β' /\
      Rel base w0 I0 I β' [.var [.sl 1 (g + 1) 0 (xs ++ ys).length, .int .i64 0, .int .i8 0], .row (g + 1) 1 (xs ++ ys)] w' /\ VR I β' (.tup [.int .i64 ys.length, .nili]) u) := by
  have hbw := R.base_le hb
  have how : ZF β 0 (.var [c0, .int .i64 0, .int .i8 lr]) = some b := by simp only [ZF, hβ0, Option.bind_some]
  have hob := R.own 0 _ b rfl how
  obtain ⟨bi', hbi', hk1, _, hcap63, hxl, htree, hlens, hrow⟩ := R.blk 1 (.row g 1 xs) rfl
  rw [hbi] at hbi'; injection hbi' with hbi'; subst hbi'
  have hor : ZF β 1 (.row g 1 xs) = bi.b := by simp only [ZF, hbi, Option.bind_some]
  obtain ⟨olds, hBR, hvo, hA0⟩ : ∃ olds, BufRow w b A xs.length cap olds /\ VRs I β (xs.flatMap AVal.cells) olds /\ (A = none -> cap = 0) := by
    rcases hA with ⟨gb, e1, e2, e3⟩ | ⟨e1, e2, e3⟩
    . rcases hrow with ⟨h1, h2⟩ | ⟨gb', us, ty', h1, h2, h3, h4⟩
      . rw [e1] at h1; cases h1
      . rw [e1] at h1; injection h1 with h1; subst h1
        rw [Nat.mul_one] at h3 h4
        have hgb : gb ≠ b := by
          rintro rfl
          have := R.apart 0 _ 1 _ gb rfl rfl how (by rw [hor, e1])
          omega
        refine ⟨us.toList.take xs.length, ⟨by have h9 : us.toList.length = us.size := us.length_toList; rw [List.length_take]; omega, by omega, by unfold maxLen; omega, ZgW (fun z hz => ZjA (Zc0.1 (ZlG htree) z hz)) h4, Or.inr ⟨gb, us, ty', e2, hgb, h2, by omega, rfl⟩⟩, h4, by rw [e2]; intro h; cases h⟩
    . have hx : xs = [] := List.eq_nil_of_length_eq_zero (by omega)
      subst hx
      exact ⟨[], ⟨rfl, by simp, by unfold maxLen; omega, by simp, Or.inl e2⟩, by simp [VRs], fun _ => e2⟩
  obtain ⟨A1, cap1, news, rfl, hnl, hvn, htn, hln, hn1, hsrc⟩ := Zys R hob.2 hv1 hk
  refine (ZOh L ty (fun _ => none) b A xs.length cap lr olds news A1 ys.length cap1 w (LibA.three_whole hheap) hBR hA0 hnl hn1 hsrc (by unfold ZbQ at hlim; omega)).mono ?_
  rintro e w' ⟨rfl, A', cap', hT, hle, hcm, hcase⟩
  refine ⟨_, rfl, ?_⟩
  have hT' := ZG9 hT
  unfold maxLen at hcm
  obtain ⟨w1, hw1⟩ : ∃ w1 : World, w1 = { w with heap := w.heap.setIfInBounds b (.cells #[.slice A' (xs.length + ys.length) cap', .int .i64 0, .int .i8 0] ty (0, 0)) } := ⟨_, rfl⟩
  have hbl : b < w.heap.size := Lib.lt_of_heap hheap
  have h1b : w1.heap[b]? = w'.heap[b]? := by rw [hw1, hT']; simp [hbl]
  have h1o : ∀ k, k ≠ b -> w1.heap[k]? = w.heap[k]? := fun k hk => by rw [hw1]; exact Array.getElem?_setIfInBounds_ne (fun e => hk e.symm)
  have h1s : w1.heap.size = w.heap.size := by rw [hw1]; simp
  have R1 : Rel base w0 I0 I β [.var [.top, .int .i64 0, .int .i8 0], .row g 1 xs] w1 := by
    have := R.putObj (t := 0) (x' := .var [.top, .int .i64 0, .int .i8 0]) rfl how (by simp only [ZF, hβ0, Option.bind_some]) (.cells #[.slice A' (xs.length + ys.length) cap', .int .i64 0, .int .i8 0] ty (0, 0))
      ⟨b, kk, cc, _, ty, hβ0, by simp [hbl]; rfl, by simp [VRs, VR]⟩ rfl
    rw [hw1]; exact this
  obtain ⟨bi2, hB, keep, hbi2, hblk, hv2⟩ : ∃ bi2 : BI, KB base w1 w' /\ (∀ b', ZF β 1 (.row g 1 xs) ≠ some b' -> b' < w1.heap.size -> w'.heap[b']? = w1.heap[b']?) /\ (bi2.b = none \/ ∃ b', bi2.b = some b' /\ (ZF β 1 (.row g 1 xs) = some b' \/ b' = w1.heap.size)) /\
      BR I (β.put 1 (g + 1) bi2) w' 1 (.row (g + 1) 1 (xs ++ ys)) /\ VR I (β.put 1 (g + 1) bi2) (.sl 1 (g + 1) 0 (xs ++ ys).length) (.slice A' (xs.length + ys.length) cap') := by
    have hle2 : β.le (β.put 1 (g + 1) bi) -> True := fun _ => trivial
    have hnone : β 1 (g + 1) = none := R.gen 1 _ (g + 1) rfl (by simp [Zl])
    rcases hcase with ⟨hn0, rfl, rfl, hgB⟩ | ⟨G, W1, Y, t, rfl, hGw, hGb, hg1, hg2, hY, hYs, hYt⟩
    . have hy : ys = [] := List.eq_nil_of_length_eq_zero hn0
      subst hy
      simp only [List.append_nil, List.length_nil, Nat.add_zero]
      have hbl' : β.le (β.put 1 (g + 1) bi) := Bmap.put_le hnone
      have same : ∀ k, k < w.heap.size -> w'.heap[k]? = w1.heap[k]? := by
        intro k hk
        by_cases e : k = b
        . rw [e, h1b]
        . rw [h1o k e]; exact hgB.block k hk (fun h => e (Option.some.inj h))
      refine ⟨bi, ⟨by rw [hw1]; exact hgB.os, by rw [hw1]; exact hgB.tape, by rw [hw1]; exact hgB.output, by rw [h1s]; exact hgB.size, fun k hk => same k (hbw k hk)⟩, fun b' _ hb' => same b' (by omega), ?_, ?_, ?_⟩
      . rw [hor]
        cases bi.b with
        | none => exact Or.inl rfl
        | some x => exact Or.inr ⟨x, rfl, Or.inl rfl⟩
      . refine ⟨bi, Bmap.put_same β 1 (g + 1) bi, hk1, by omega, hcap63, hxl, htree, hlens, hrow.imp id ?_⟩
        rintro ⟨gb, us, ty', q1, q2, q3, q4⟩
        have hgb : gb ≠ b := by
          rintro rfl
          have := R.apart 0 _ 1 _ gb rfl rfl how (by rw [hor, q1])
          omega
        exact ⟨gb, us, ty', q1, by rw [same gb (Lib.lt_of_heap q2), h1o gb hgb]; exact q2, q3, VRs.mono (Imm.le.refl I) hbl' _ _ q4⟩
      . rw [Zb6]
        refine ⟨bi, Bmap.put_same β 1 (g + 1) bi, hxl, hcap63, ?_⟩
        rcases hA with ⟨gb, e1, e2, e3⟩ | ⟨e1, e2, e3⟩
        . exact Or.inl ⟨gb, e1, by rw [e2, e3]⟩
        . have hx : xs.length = 0 := by omega
          exact Or.inr ⟨e1, e3, _, by rw [hx, e2]⟩
    . have hbl' : β.le (β.put 1 (g + 1) ⟨some G, 1, cap'⟩) := Bmap.put_le hnone
      have hGo : ZF β 1 (.row g 1 xs) = some G \/ G = w1.heap.size := by
        rcases hGw with e | ⟨e, hc0⟩
        . exact Or.inr (by rw [h1s]; exact e)
        . refine Or.inl ?_
          rw [hor]
          rcases hA with ⟨gb, e1, e2, e3⟩ | ⟨e1, e2, e3⟩
          . rw [e2] at e; injection e with e; injection e with e; rw [e1, e]
          . exact absurd e2 hc0
      have hsz1 : w.heap.size <= W1.heap.size := hg1.size
      have same : ∀ k, k < w.heap.size -> k ≠ G -> w'.heap[k]? = w1.heap[k]? := by
        intro k hk hkG
        by_cases e : k = b
        . rw [e, h1b]
        . rw [h1o k e]; exact (hg2.block k (by omega) (fun h => hkG (Option.some.inj h))).trans (hg1.block k hk (fun h => e (Option.some.inj h)))
      refine ⟨⟨some G, 1, cap'⟩, ⟨by rw [hw1]; exact hg2.os.trans hg1.os, by rw [hw1]; exact hg2.tape.trans hg1.tape, by rw [hw1]; exact hg2.output.trans hg1.output, by rw [h1s]; exact Nat.le_trans hg1.size hg2.size, fun k hk => same k (hbw k hk) ?_⟩, fun b' hb1 hb' => same b' (by omega) ?_, Or.inr ⟨G, rfl, hGo⟩, ?_, ?_⟩
      . rintro rfl
        rcases hGo with e | e
        . exact (R.own 1 _ _ rfl e).1 hk
        . have := hbw _ hk; omega
      . rintro rfl
        rcases hGo with e | e
        . exact hb1 e
        . omega
      . refine ⟨_, Bmap.put_same β 1 (g + 1) _, rfl, by omega, hcm, by rw [List.length_append]; exact hle, by rw [Zhe htree htn], ?_, Or.inr ⟨G, Y, t, rfl, hY, by rw [hYs, Nat.mul_one], ?_⟩⟩
        . intro x hx
          rcases List.mem_append.1 hx with h | h
          . exact hlens x h
          . exact hln x h
        . rw [List.length_append, Nat.mul_one, hYt, Zfv]
          exact ZcG (VRs.mono (Imm.le.refl I) hbl' _ _ hvo) (VRs.mono (Imm.le.refl I) hbl' _ _ hvn)
      . rw [Zb6]
        exact ⟨_, Bmap.put_same β 1 (g + 1) _, by rw [List.length_append]; exact hle, hcm, Or.inl ⟨G, rfl, by rw [List.length_append]⟩⟩
  have hbw1 : KLt base w1 := fun k hk => by rw [h1s]; exact hbw k hk
  obtain ⟨R2, hle2⟩ := R1.grow (t := 1) (g := g) (k := 1) (xs := xs) (xs' := xs ++ ys) rfl bi2 hB (by
    intro b' o u hI
    have hne : b' ≠ b := by rintro rfl; rw [hob.2 o] at hI; cases hI
    have hlt : b' < w1.heap.size := by rw [h1s]; exact Zec (R.imm _ _ _ hI)
    have hno : ZF β 1 (.row g 1 xs) ≠ some b' := fun e => by have := (R.own 1 _ b' rfl e).2 o; rw [this] at hI; cases hI
    rw [<- R1.imm b' o u hI]
    simp only [World.cell?, keep b' hno hlt]) keep hbi2 hbw1 hblk
  have hβ2 : (β.put 1 (g + 1) bi2) 0 0 = some ⟨some b, kk, cc⟩ := hle2 _ _ _ hβ0
  refine ⟨β.put 1 (g + 1) bi2, hle2, ?_, by simp [VR, VRs]⟩
  refine R2.upd (Imm.le.refl I) (Bmap.le.refl _) (KB.refl _ _) (fun _ _ _ => rfl) R2.imm 0 (.var [.sl 1 (g + 1) 0 (xs ++ ys).length, .int .i64 0, .int .i8 0]) rfl (by simp) (fun _ _ _ => rfl) ?_ ?_ ?_ ?_ (by simp)
  . intro t' x b' hne hx hb'
    refine ⟨rfl, (R2.own t' x b' hx hb').2, ?_⟩
    simp only [ZF, hβ2, Option.bind_some]
    intro e; injection e with e; subst e
    exact hne (R2.apart t' x 0 _ b hx rfl hb' (by simp only [ZF, hβ2, Option.bind_some]))
  . exact ⟨b, kk, cc, _, ty, hβ2, hT', by simp only [VRs]; exact ⟨_, _, rfl, hv2, _, _, rfl, by simp [VR], _, _, rfl, by simp [VR], rfl⟩⟩
  . intro b' e
    simp only [ZF, hβ2, Option.bind_some] at e; injection e with e; subst e
    exact R2.own 0 _ b rfl (by simp only [ZF, hβ2, Option.bind_some])
  . intro g' hg'
    exact R2.gen 0 _ g' rfl (by simpa [Zl] using hg')
theorem ZK2 (L:LaysM.n180 P ρ) {f:FuncId} (hf:ρ.f 180=f) (hx:∃ fn,P.funcs[f]?=some fn/\fn.body.isSome=true/\(fn.name == "runtime.NumGoroutine")=false) {args:List AVal} {σ σ':Za} {r:AVal} (hg:Ziw args σ=some (r,σ')) :
  (∃ fn,P.funcs[f]?=some fn/\fn.body.isSome=true/\(fn.name == "runtime.NumGoroutine")=false) /\
  ∀ base w0 I0 I β w (vs:Array Value),KLt base w0->Rel base w0 I0 I β σ w->VRs I β args vs.toList ->
   Calls P f vs w (fun e w'=>∃ u,Ends r e u/\ZbV σ.length base w0 I0 I β r σ' u w'):=by
 refine ⟨hx,?_⟩
 intro base w0 I0 I β w vs hb R hargs
 subst hf
 unfold Ziw at hg
 split at hg
 ·
  rename_i y ys lr
  split at hg
  case isFalse=>cases hg
  rename_i hc
  simp only [Option.some.injEq,Prod.mk.injEq] at hg
  obtain ⟨rfl,rfl⟩:=hg
  simp only [VRs] at hargs
  obtain ⟨v0,_,hvs,h0,v1,_,rfl,h1,rfl⟩:=hargs
  have hvs':vs=#[v0,v1]:=by rw [<-Array.toList_inj];exact hvs
  subst hvs'
  simp only [VR] at h0
  obtain ⟨b,k,c,hβ0,rfl⟩:=h0
  obtain ⟨b',k',c',us,ty,hβ,hheap,hcs⟩:=R.blk 0 _ rfl
  rw [hβ0] at hβ;injection hβ with hβ;injection hβ with hβ1 hβ2 hβ3;injection hβ1 with hβ1;subst hβ1 hβ2 hβ3
  simp only [VRs] at hcs
  obtain ⟨u0,_,hus,hu0,u1,_,rfl,hu1,u2,_,rfl,hu2,rfl⟩:=hcs
  simp only [VR] at hu0 hu1 hu2
  obtain ⟨A,cap,rfl,_,_,hcap,_,_⟩:=hu0
  have hcap0:cap=0:=by simpa using hcap
  subst hu1 hu2 hcap0
  have hus':us=#[.slice A 0 0,.int .i64 0,.int .i8 lr]:=by rw [<-Array.toList_inj];simpa using hus
  subst hus'
  have R1:=R.reserve 1
  have hfree:([.var [.lst true [],.int .i64 0,.int .i8 lr]]++List.replicate 1 ZN.free)[1]?=some .free:=rfl
  obtain ⟨R2,hle⟩:=R1.newNone hfree 1 (by omega)
  have R3:Rel base w0 I0 I (β.put 1 0 ⟨none,1,0⟩) [.var [.lst true [],.int .i64 0,.int .i8 lr],.row 0 1 []] w:=R2
  refine (Zvp L hb R3 (bi:=⟨none,1,0⟩) (Bmap.put_same β 1 0 _) (hle _ _ _ hβ0) (A:=A) (cap:=0) hheap (Or.inr ⟨rfl,rfl,rfl⟩) (h1.mono (Imm.le.refl I) hle _ _) (by simpa using hc.1) hc.2).mono ?_
  rintro e w' ⟨u,he,β',hb',hR,hv⟩
  obtain ⟨β2,hk2,hR2,_⟩:=Zpu hR 1 []
  refine ⟨u,he,I,β2,Imm.le.refl I,(KeptE.of_le (hle.trans hb')).trans hk2,?_,by simpa [ZaT,VR,VRs] using hv⟩
  have hgc:(gcA 1 [] [.var [.sl 1 (0+1) 0 ([]++ys).length,.int .i64 0,.int .i8 0],.row (0+1) 1 ([]++ys)]).2=[.var [.sl 1 0 0 ys.length,.int .i64 0,.int .i8 0],.row 0 1 ys]:=rfl
  rw [hgc] at hR2
  exact hR2
 ·rename_i y ys g m lr g' xs
  split at hg
  case isFalse=>cases hg
  rename_i hc
  obtain ⟨rfl,rfl,hc1,hc2⟩:=hc
  simp only [Option.some.injEq,Prod.mk.injEq] at hg
  obtain ⟨rfl,rfl⟩:=hg
  simp only [VRs] at hargs
  obtain ⟨v0,_,hvs,h0,v1,_,rfl,h1,rfl⟩:=hargs
  have hvs':vs=#[v0,v1]:=by rw [<-Array.toList_inj];exact hvs
  subst hvs'
  simp only [VR] at h0
  obtain ⟨b,k,c,hβ0,rfl⟩:=h0
  obtain ⟨b',k',c',us,ty,hβ,hheap,hcs⟩:=R.blk 0 _ rfl
  rw [hβ0] at hβ;injection hβ with hβ;injection hβ with hβ1 hβ2 hβ3;injection hβ1 with hβ1;subst hβ1 hβ2 hβ3
  obtain ⟨bi,hbi,hk1,_⟩:=R.blk 1 (.row g 1 xs) rfl
  simp only [VRs] at hcs
  obtain ⟨u0,_,hus,hu0,u1,_,rfl,hu1,u2,_,rfl,hu2,rfl⟩:=hcs
  rw [Zb6] at hu0
  simp only [VR] at hu1 hu2
  subst hu1 hu2
  obtain ⟨bi',hbi',_,_,hcase⟩:=hu0
  rw [hbi] at hbi';injection hbi' with hbi';subst hbi'
  obtain ⟨A,cap,rfl,hA⟩:∃ A cap,u0=.slice A xs.length cap/\((∃ gb,bi.b=some gb/\A=some ⟨gb,0,none⟩/\cap=bi.cap)\/(bi.b=none/\cap=0/\bi.cap=0)):=by
   rcases hcase with ⟨gb,e1,e2⟩ | ⟨e1,e2,A,e3⟩
   ·exact ⟨_,_,e2,Or.inl ⟨gb,e1,rfl,rfl⟩⟩
   ·obtain ⟨bi2,hbi2,_,_,_,hxl,_⟩:=R.blk 1 (.row g 1 xs) rfl
    rw [hbi] at hbi2;injection hbi2 with hbi2;subst hbi2
    exact ⟨A,0,by rw [e3,show xs.length=0 by omega],Or.inr ⟨e1,rfl,e2⟩⟩
  have hus':us=#[.slice A xs.length cap,.int .i64 0,.int .i8 lr]:=by rw [<-Array.toList_inj];simpa using hus
  subst hus'
  refine (Zvp L hb R hbi hβ0 hheap hA h1 hc1 hc2).mono ?_
  rintro e w' ⟨u,he,β',hb',hR,hv⟩
  exact ⟨u,he,I,β',Imm.le.refl I,KeptE.of_le hb',hR,hv⟩
 ·cases hg
end
end
section
open Go.Shelf
def Zxw:Ren:=⟨fun | 180=>130 | 251=>150 | 252=>151 | 181=>159 | 184=>160 | 290=>161 | 324=>164 | n=>n,fun | 130=>190 | 37=>22 | 3=>3 | 75=>187 | 0=>0 | 93=>135 | 91=>133 | 131=>123 | 4=>4 | 20=>20 | 5=>5 | 80=>118 | 9=>9 | n=>n,fun | 14=>2 | n=>n⟩
theorem ZHg:Go.Proofs.LaysM.n180 Tryd.prog Zxw:={ mixed:=by kernel_rfl,f180:=Tryd.func130.trans (congrArg some (by kernel_rfl)),f181:=Tryd.func159.trans (congrArg some (by kernel_rfl)),f184:=Tryd.func160.trans (congrArg some (by kernel_rfl)),f251:=Tryd.func150.trans (congrArg some (by kernel_rfl)),f252:=Tryd.func151.trans (congrArg some (by kernel_rfl)),f290:=Tryd.func161.trans (congrArg some (by kernel_rfl)),f324:=Tryd.func164.trans (congrArg some (by kernel_rfl)),t0:=Tryd.underlying0,a0:=Tryd.isAgg0,z0:=Tryd.sizeOf0,v0:=Tryd.zeroValue0,t3:=Tryd.underlying3,a3:=Tryd.isAgg3,z3:=Tryd.sizeOf3,v3:=Tryd.zeroValue3,t4:=Tryd.underlying4,a4:=Tryd.isAgg4,z4:=Tryd.sizeOf4,v4:=Tryd.zeroValue4,t20:=Tryd.underlying20,a20:=Tryd.isAgg20,z20:=Tryd.sizeOf20,v20:=Tryd.zeroValue20,t37:=Tryd.underlying22,a37:=Tryd.isAgg22,z37:=Tryd.sizeOf22,v37:=Tryd.zeroValue22,t75:=Tryd.underlying187,a75:=Tryd.isAgg187,z75:=Tryd.sizeOf187,v75:=Tryd.zeroValue187,t91:=Tryd.underlying133,a91:=Tryd.isAgg133,z91:=Tryd.sizeOf133,v91:=Tryd.zeroValue133,t93:=Tryd.underlying135,a93:=Tryd.isAgg135,z93:=Tryd.sizeOf135,v93:=Tryd.zeroValue135,t130:=Tryd.underlying190,a130:=Tryd.isAgg190,z130:=Tryd.sizeOf190,v130:=Tryd.zeroValue190,t131:=Tryd.underlying123,a131:=Tryd.isAgg123,z131:=Tryd.sizeOf123,v131:=Tryd.zeroValue123,g14:=by kernel_rfl,t5:=Tryd.underlying5,a5:=Tryd.isAgg5,z5:=Tryd.sizeOf5,v5:=Tryd.zeroValue5,t9:=Tryd.underlying9,a9:=Tryd.isAgg9,z9:=Tryd.sizeOf9,v9:=Tryd.zeroValue9,t80:=Tryd.underlying118,a80:=Tryd.isAgg118,z80:=Tryd.sizeOf118,v80:=Tryd.zeroValue118,i0:=by kernel_rfl,i3:=by kernel_rfl,i4:=by kernel_rfl,i5:=by kernel_rfl,i9:=by kernel_rfl,i20:=by kernel_rfl,i37:=by kernel_rfl,i75:=by kernel_rfl,i80:=by kernel_rfl,i91:=by kernel_rfl,i93:=by kernel_rfl,i130:=by kernel_rfl,i131:=by kernel_rfl,m14:=by kernel_rfl }
end
section
theorem ZKn:∃ fn,Tryd.prog.funcs[130]?=some fn/\fn.body.isSome=true/\(fn.name == "runtime.NumGoroutine")=false:=⟨Tryd.f130,Tryd.func130,by kernel_rfl,by kernel_rfl⟩
theorem ZOp:Zmf Tryd.prog PR1:=by
 intro f g h args σ r σ' hg
 unfold PR1 at h
 split at h
 ·rename_i e;subst e
  injection h with h;subst h
  exact ZG7 hg
 ·split at h
  ·rename_i e;subst e
   injection h with h;subst h
   exact ZK2 ZHg rfl ZKn hg
  ·exact Zwz f g h args σ r σ' hg
theorem ZyX:ZaO Tryd.prog E1:=by
 have h:E1=EV CF PR1 BY:=ZBM CF PR1 BY
 rw [h]
 exact ZJu ZiR ZOp ann BY
end
section
open Go.ChangeShapes Go.WideShapes Go.ChangeAt Go.RowKit Go.Deep
theorem Zxh:ownKnob Tryd.prog.godebug=none:=by kernel_rfl
theorem ZpQ:laidOutB Tryd.prog=true:=by kernel_rfl
theorem Zz5 {W:World} (hLH:laidMetH Tryd.prog Rows.noteLastsRow.laid W):Gl.le (Imm.of W):=by
 have hL:laidMet Tryd.prog Rows.noteLastsRow.laid W:=by rw [<-MakeChecks.laidMetH_plain _ _ _ (by kernel_rfl)];exact hLH
 have e1:Rows.laid_unicode_utf8_first=Lib.firstData:=by kernel_rfl
 have e2:(Rows.laid_unicode_utf8_acceptRanges:DataW Unit)=Lib.acceptData:=by kernel_rfl
 have h1:Lib.VarReads Tryd.prog W "unicode/utf8.first" Lib.firstData:=by rw [<-e1];exact Lib.laidMet.reads hL (.tail _ (.tail _ (.head _)))
 have h2:Lib.VarReads Tryd.prog W "unicode/utf8.acceptRanges" Lib.acceptData:=by rw [<-e2];exact Lib.laidMet.reads hL (.head _)
 exact ZBa (utf8Tabs_of_readsT (U8Types.of196 Zs1) ⟨by kernel_rfl,by kernel_rfl,by kernel_rfl,by kernel_rfl,by kernel_rfl,by kernel_rfl,by kernel_rfl⟩ h1 h2)
set_option maxRecDepth 100000 in
theorem ZFt (H:Type) (enc:TypeId×Value->H) (W:World) (base:Nat) (args:Array Value) (ds gs:List (DataW H)) (before:List MemPlace)
  (hval0:∀ (j:Nat) t v,Tryd.f11.params[j]?=some t->args[j]?=some v->Value.okWide Tryd.prog W .any base t v)
  (hW:DataW.Whole enc Tryd.prog Tryd.f11.params.toList Rows.noteLastsSpec.vars false W args.toList ds gs before) (hL:laidMetH Tryd.prog Rows.noteLastsRow.laid W) :
  Calls Tryd.prog 11 args W fun e W'=>∃ v,e=.returned v/\Rows.noteLastsSpec.post enc Tryd.prog Tryd.f11 false true false false W args v W':=by
 have hW':=hW
 obtain ⟨p,q,hA0,hV,rfl,hfz,hnd⟩:=hW
 have hval:∀ (j:Nat) t v,Tryd.f11.params[j]?=some t->args[j]?=some v->Value.okWide Tryd.prog W .any base t v:=hval0
 have hA:DataW.TrodAll enc Tryd.prog W 0 (fun _=>true) true Tryd.f11.params.toList args.toList ds p:=hA0
 rw [Tryd.params11] at hA hval
 obtain ⟨v0,vs0,d0,ds0,p0,q0,hargs,rfl,rfl,h0,r0⟩:=trodAll_cons hA
 obtain ⟨v1,vs1,d1,ds1,p1,q1,rfl,rfl,rfl,h1,r1⟩:=trodAll_cons r0
 obtain ⟨v2,vs2,d2,ds2,p2,q2,rfl,rfl,rfl,h2,r2⟩:=trodAll_cons r1
 obtain ⟨rfl,rfl,rfl⟩:=trodAll_nil r2
 obtain rfl:args=#[v0,v1,v2]:=by cases args;simp_all
 obtain ⟨rfl,rfl⟩:=trodVars_none hV
 have k0:=h0
 have lt0:∀ x ∈ p0,x.block < W.heap.size:=by obtain ⟨m,hm⟩:=k0;exact DataW.trod_lt m _ _ _ hm
 obtain ⟨x0,y0,z0,_⟩:=Zn1 (n:=12) (T:=ZnQ) (by kernel_rfl) (hval 0 27 v0 rfl rfl) h0
 rw [Tryd.underlying27] at y0
 obtain ⟨a0,b0,rfl⟩:=ZBy y0
 have k1:=h1
 have lt1:∀ x ∈ p1,x.block < W.heap.size:=by obtain ⟨m,hm⟩:=k1;exact DataW.trod_lt m _ _ _ hm
 obtain ⟨x1,y1,z1,_⟩:=Zn1 (n:=12) (T:=(.int .i64)) (by kernel_rfl) (hval 1 3 v1 rfl rfl) h1
 rw [Tryd.underlying3] at y1
 obtain ⟨a1,b1,rfl⟩:=ZuN y1
 have k2:=h2
 have lt2:∀ x ∈ p2,x.block < W.heap.size:=by obtain ⟨m,hm⟩:=k2;exact DataW.trod_lt m _ _ _ hm
 obtain ⟨x2,y2,z2,_⟩:=Zn1 (n:=12) (T:=(.int .i64)) (by kernel_rfl) (hval 2 3 v2 rfl rfl) h2
 rw [Tryd.underlying3] at y2
 obtain ⟨a2,b2,rfl⟩:=ZuN y2
 clear hA0 hval0
 refine (ZGu ZyX (Zz5 hL) (args:=[.agg (mC a0),.int .i64 a1,.int .i64 a2]) (by simp only [VRs];exact ⟨_,_,rfl,z0,_,_,rfl,z1,_,_,rfl,z2,rfl⟩) (Zxe a0 b0 a1 a2)).mono fun e W' ⟨he,bel⟩=>?_
 subst he
 exact ⟨_,rfl,_,_,_,[],_,[],hW',trodAll_mk1 (shut_bool Tryd.underlying4 _),(trodAll_cons_mk (Below.trod ZpQ (by kernel_rfl) (of_decide_eq_true (by kernel_rfl)) k0 bel lt0) (trodAll_cons_mk (Below.trod ZpQ (by kernel_rfl) (of_decide_eq_true (by kernel_rfl)) k1 bel lt1) (trodAll_cons_mk (Below.trod ZpQ (by kernel_rfl) (of_decide_eq_true (by kernel_rfl)) k2 bel lt2) trodAll_mk0))),rfl,bel.frame _,fun h=>by cases h⟩
noncomputable def ZqS (os:Os):World :=
 let w0:=World.holding Tryd.prog os ⟨#[],#[],[]⟩
 let put (h:Array Obj) (g:Nat) (us:Array Value):Array Obj:=h.modify g fun
  | .cells _ t frozen=>.cells us t frozen
  | o=>o
 let h1:=put w0.heap 0 (Lib.firstTab.map fun z=>Value.int .u8 z).toArray
 let h2:=put h1 1 ((List.range 16).flatMap fun i=>[Value.int .u8 (Lib.accLo i),Value.int .u8 (Lib.accHi i)]).toArray
 let h3:=(put h2 2 #[Value.iface 221 (.pointer (some ⟨h2.size,0,none⟩))]).push (.cells #[Value.string ⟨#[98,121,116,101,115,46,66,117,102,102,101,114,58,32,116,111,111,32,108,97,114,103,101]⟩] 237)
 { w0 with heap:=h3 }
theorem ZLi (os:Os):laidMet Tryd.prog Rows.noteLastsRow.laid ((ZqS os).forCall (fun _ _=>0) ⟨#[],#[.agg #[.slice none 0 0,.slice none 0 0,.slice none 0 0,.slice none 0 0,.int .i64 0,.int .i64 0,.bool false,.bool false,.int .i64 0,.int .i64 0,.slice none 0 0,.slice none 0 0,.slice none 0 0,.slice none 0 0,.int .i64 0,.int .i64 0],.int .i64 0,.int .i64 0],[]⟩).memory :=
 laidMet_of_run' 8 (by kernel_rfl) (by kernel_rfl)
theorem ZBo (os:Os) {H:Type} (enc:TypeId×Value->H):∃ ds places,DataW.whole enc Tryd.prog ((ZqS os).forCall (fun _ _=>0) ⟨#[],#[.agg #[.slice none 0 0,.slice none 0 0,.slice none 0 0,.slice none 0 0,.int .i64 0,.int .i64 0,.bool false,.bool false,.int .i64 0,.int .i64 0,.slice none 0 0,.slice none 0 0,.slice none 0 0,.slice none 0 0,.int .i64 0,.int .i64 0],.int .i64 0,.int .i64 0],[]⟩).memory Tryd.f11.params.toList Rows.noteLastsSpec.vars false #[.agg #[.slice none 0 0,.slice none 0 0,.slice none 0 0,.slice none 0 0,.int .i64 0,.int .i64 0,.bool false,.bool false,.int .i64 0,.int .i64 0,.slice none 0 0,.slice none 0 0,.slice none 0 0,.slice none 0 0,.int .i64 0,.int .i64 0],.int .i64 0,.int .i64 0].toList 8=some (ds,[],places) :=
 ⟨[.agg [.nil,.nil,.nil,.nil,.lit (.int .i64 0),.lit (.int .i64 0),.lit (.bool false),.lit (.bool false),.lit (.int .i64 0),.agg [.lit (.int .i64 0),.nil,.nil,.nil],.nil,.lit (.int .i64 0),.lit (.int .i64 0)],.lit (.int .i64 0),.lit (.int .i64 0)],[],by kernel_rfl⟩
set_option maxRecDepth 100000 in
theorem ZDa (os:Os) (started:os.Started) (H:Type) (enc:TypeId×Value->H) (F:Stop.Interp) :
  ReturnsInHanded {} Tryd.checked os 11 .any ((OpenSpec.ofChange Rows.noteLastsSpec).preRow enc Tryd.prog Tryd.f11 Rows.noteLastsRow.domain false Rows.noteLastsRow.laid) (((OpenSpec.ofChange Rows.noteLastsSpec).at F).post enc Tryd.prog Tryd.f11 false true false false):=by
 obtain ⟨ds,places,hx⟩:=ZBo os enc
 refine returnsInHanded_of_row (C:=Tryd.checked) (s:=(OpenSpec.ofChange Rows.noteLastsSpec)) Zxh started (by kernel_rfl) Tryd.func11
  (witness_row_at (enc:=enc) (C:=Tryd.checked) false (ZqS os) #[.agg #[.slice none 0 0,.slice none 0 0,.slice none 0 0,.slice none 0 0,.int .i64 0,.int .i64 0,.bool false,.bool false,.int .i64 0,.int .i64 0,.slice none 0 0,.slice none 0 0,.slice none 0 0,.slice none 0 0,.int .i64 0,.int .i64 0],.int .i64 0,.int .i64 0] rfl (by kernel_rfl) (by kernel_rfl) (by kernel_rfl)
   (OpenSpec.preRow_of_cond 8 hx (by kernel_rfl) (fun k hk=>by cases hk) (by kernel_rfl) (ZLi os))) ?_
 intro W base args ds gs before hval hW _ hcond _ hL _ _
 exact ZFt H enc W base args ds gs before hval hW hL
theorem Zx4:Rows.NoteLastsSaid :=
 OpenClaim.holds_of_cond 11 Tryd.f11 rfl rfl rfl rfl rfl rfl rfl ⟨rfl,rfl,rfl,rfl,rfl⟩ rfl rfl rfl rfl rfl (by kernel_rfl) Tryd.func11 (by kernel_rfl)
  (of_decide_eq_true (by kernel_rfl)) (by unfold Func.isWrapper;first | (rw [if_pos (by decide +kernel)];kernel_rfl) | (rw [if_neg (by decide +kernel)];exact ⟨rfl,rfl⟩))
  (fun os started H enc _ F=>by rw [OpenClaim.pre_eq_preRow];exact ZDa os started H enc F)
theorem ZGF (f:FuncId) (fn:Func) (hf:Tryd.pinned.checked.prog.funcNamed "tidings/tidingslaw19.NoteLasts"=some f) (hfn:Tryd.pinned.checked.prog.funcs[f]?=some fn) :
  true=Tryd.pinned.checked.prog.looks []/\∀ (j:Nat) t,fn.params[j]?=some t->Tryd.pinned.checked.prog.wantsStandIn t=false:=by
 obtain rfl:f=11:=Option.some.inj ((show Tryd.prog.funcNamed "tidings/tidingslaw19.NoteLasts"=some 11 by kernel_rfl).symm.trans hf) |>.symm
 obtain rfl:fn=Tryd.f11:=(Option.some.inj (Tryd.func11.symm.trans hfn)).symm
 refine ⟨by kernel_rfl,fun j t ht=>?_⟩
 rw [Tryd.params11] at ht
 have hm:t=3\/t=27:=by
  have:=Array.mem_of_getElem? ht
  simp at this
  first | exact this | exact this.symm | omega | (rcases this with h | h | h <;> simp [h]) | (rcases this with h | h | h | h <;> simp [h]) | (rcases this with h | h | h | h | h <;> simp [h]) | (rcases this with h | h | h | h | h | h <;> simp [h]) | (rcases this with h | h | h | h | h | h | h <;> simp [h])
 rcases hm with rfl | rfl
 ·exact (show Tryd.prog.wantsStandIn 3=false by kernel_rfl)
 ·exact (show Tryd.prog.wantsStandIn 27=false by kernel_rfl)
theorem noteLasts_card:Rows.NoteLastsCardSaid :=
 Claim7.holds_tied_plain_at .later [] _ _ _ _ Zx4 (fun _ h=>by cases h) (by kernel_rfl) (fun _ h=>by cases h) noteLasts_row_tie rfl ⟨rfl,rfl⟩ (by kernel_rfl) rfl ZGF (by kernel_rfl)
#print axioms noteLasts_card
end
end Go.Proofs.YtmlkhhidifjjfaaDoor
