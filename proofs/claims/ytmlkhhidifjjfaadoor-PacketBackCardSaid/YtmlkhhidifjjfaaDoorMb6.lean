/- The card of PacketBack: for every input the law returns true, and each argument reads afterwards as it read before. No other condition; the tables of unicode/utf8 are tied to the program. -/
import Derived.Test.YtmlkhhidifjjfaaDoorMb4
import Derived.Test.YtmlkhhidifjjfaaDoorMb5
import Derived.Test.YtmlkhhidifjjfaaDoorMb1
import Derived.Test.YtmlkhhidifjjfaaDoorProg
import Derived.Shelf.LaysM
import Derived.Test.YtmlkhhidifjjfaaDoorMb2
import Derived.Lib.LaidU8T
import Derived.Test.YtmlkhhidifjjfaaDoorRows
import Derived.Deep.Slices
import Derived.Test.YtmlkhhidifjjfaaDoorCards
import Derived.Test.YtmlkhhidifjjfaaDoorTie
import Derived.WalkKit
import Derived.ProofKit
import Derived.OpenShut
import Derived.ShutString
import Derived.ChangeOld
import Derived.Below
import Derived.SevenTiedAt
import Derived.LaidByTextLater
import Derived.Lib.LaidIn
import Derived.Deep.DeepHandedRow
import Derived.MakeChecks
import Derived.SizedLaws
set_option linter.unusedSimpArgs false
set_option linter.unusedVariables false
namespace Go.Proofs.YtmlkhhidifjjfaaDoor
set_option maxHeartbeats 16000000
set_option maxRecDepth 10000
section
open Go.Shelf Go.RowKit
section
variable {P:Program} {ρ:Ren} {base:Nat->Prop} {w0 w w':World} {I0 I:Imm} {β:Bmap} {σ:Za}
theorem ZNE {b:Nat} {ty:TypeId} {x y z:Value} (h:LibA.Three w b 0 ty (fun _=>none) x y z):w.heap[b]?=some (.cells #[x,y,z] ty (0,0)):=by
 obtain ⟨cs,hb,h0,h1,h2,hr⟩:=h
 rw [hb]
 have : cs=#[x,y,z]:=by
  apply Array.ext_getElem?
  intro i
  match i with
  | 0=>exact h0
  | 1=>exact h1
  | 2=>exact h2
  | i+3=>rw [hr (i+3) (Or.inr (by omega))];exact (Array.getElem?_eq_none (by simp)).symm
 rw [this]
theorem ZHl {k:Nat} {y:AVal} {ys:List AVal} {b off:Nat} (h:LR I β k (y::ys) b off) (hk:0 < k):∃ u,I b off=some u:=by
 rw [ZfA] at h
 obtain ⟨⟨h1,h2⟩,_⟩:=h
 cases hc:y.cells with
 | nil=>rw [hc] at h1;simp at h1;omega
 | cons c cs =>
  rw [hc] at h2
  simp only [CR] at h2
  obtain ⟨⟨u,hu,_⟩,_⟩:=h2
  exact ⟨u,hu⟩
theorem ZO2 (R:Rel base w0 I0 I β σ w) {b:Nat} (hb:∀ o,I b o=none) {y:Bool} {ys:List AVal} {v:Value} (hv:VR I β (.lst y ys) v) (hk:kOk 1 ys=true) :
  ∃ A cap news,v=.slice A ys.length cap/\news.length=ys.length/\VRs I β (ys.flatMap AVal.cells) news/\Zab ys=true/\(∀ x ∈ ys,x.cells.length=1)/\(∀ v ∈ news,v.oneCell'=true) /\
   (ys.length=0\/∃ a,A=some a/\a.block≠b/\∀ j v,news[j]?=some v->w.cell? (a.add j)=some v):=by
 have hv0:=hv
 obtain ⟨A,cap,e,_,_,htree,hc⟩:=Zlf R hv
 by_cases hne:ys=[]
 ·subst hne
  exact ⟨A,cap,[],e,rfl,by simp [VRs],rfl,by simp,by simp,Or.inl rfl⟩
 ·rcases hc with hc | ⟨b',off,k,us,hA,hk0,hl,hvs,hcell⟩
  ·exact absurd hc hne
  have e1:=Zl6 hk hl hne
  subst e1
  refine ⟨A,cap,us,e,by rw [<-ZaV hvs,Zeo hl,Nat.mul_one],hvs,htree,hl,ZgU (fun z hz=>Ziw (Zc5.1 (ZkC htree) z hz)) hvs,Or.inr ⟨⟨b',off,none⟩,hA,?_,fun j v hj=>by rw [Addr.add_mid];exact hcell j v hj⟩⟩
  rintro rfl
  simp only [VR] at hv0
  obtain ⟨A',cap',e',_,_,_,h5,_⟩:=hv0
  rcases h5 with h5 | ⟨b2,off2,k2,e2,hk2,h5⟩
  ·exact hne h5
  ·rw [e] at e'
   injection e' with e' _ _
   rw [e'] at hA
   rw [hA] at e2
   injection e2 with e2
   injection e2 with e2 e3
   cases ys with
   | nil=>exact hne rfl
   | cons z zs =>
    obtain ⟨u,hu⟩:=ZHl h5 hk2
    rw [<-e2,hb] at hu;cases hu
theorem Zr5 (L : LaysM.n180 P ρ) (hb : KLt base w0) {c0 : AVal} {lr : Int} {g : Nat} {xs : List AVal} (R : Rel base w0 I0 I β [.var [c0, .int .i64 0, .int .i8 lr], .row g 1 xs] w)
    {bi : BI} (hbi : β 1 g = some bi) {b kk cc : Nat} (hβ0 : β 0 0 = some ⟨some b, kk, cc⟩) {A : Option Addr} {cap : Nat} {ty : TypeId}
    (hheap : w.heap[b]? = some (.cells #[.slice A xs.length cap, .int .i64 0, .int .i8 lr] ty (0, 0)))
    (hA : (∃ gb, bi.b = some gb /\ A = some ⟨gb, 0, none⟩ /\ cap = bi.cap) \/ (bi.b = none /\ cap = 0 /\ bi.cap = 0))
    {y : Bool} {ys : List AVal} {v1 : Value} (hv1 : VR I β (.lst y ys) v1) (hlim : xs.length + ys.length <= ZbU) (hk : kOk 1 ys = true) :
    Calls P (ρ.f 180) #[.pointer (some ⟨b, 0, none⟩), v1] w (fun e w' => ∃ u, Ends (.tup [.int .i64 ys.length, .nili]) e u /\ ∃ β', β.le β' /\
      Rel base w0 I0 I β' [.var [.sl 1 (g + 1) 0 (xs ++ ys).length, .int .i64 0, .int .i8 0], .row (g + 1) 1 (xs ++ ys)] w' /\ VR I β' (.tup [.int .i64 ys.length, .nili]) u) := by
  have hbw := R.base_le hb
  have how : ZA β 0 (.var [c0, .int .i64 0, .int .i8 lr]) = some b := by simp only [ZA, hβ0, Option.bind_some]
  have hob := R.own 0 _ b rfl how
  obtain ⟨bi', hbi', hk1, _, hcap63, hxl, htree, hlens, hrow⟩ := R.blk 1 (.row g 1 xs) rfl
  rw [hbi] at hbi'; injection hbi' with hbi'; subst hbi'
  have hor : ZA β 1 (.row g 1 xs) = bi.b := by simp only [ZA, hbi, Option.bind_some]
  obtain ⟨olds, hBR, hvo, hA0⟩ : ∃ olds, BufRow w b A xs.length cap olds /\ VRs I β (xs.flatMap AVal.cells) olds /\ (A = none -> cap = 0) := by
    rcases hA with ⟨gb, e1, e2, e3⟩ | ⟨e1, e2, e3⟩
    . rcases hrow with ⟨h1, h2⟩ | ⟨gb', us, ty', h1, h2, h3, h4⟩
      . rw [e1] at h1; cases h1
      . rw [e1] at h1; injection h1 with h1; subst h1
        rw [Nat.mul_one] at h3 h4
        have hgb : gb ≠ b := by
          rintro rfl
          have := R.apart 0 _ 1 _ gb rfl rfl how (by rw [hor, e1])
          omega
        refine ⟨us.toList.take xs.length, ⟨by have h9 : us.toList.length = us.size := us.length_toList; rw [List.length_take]; omega, by omega, by unfold maxLen; omega, ZgU (fun z hz => Ziw (Zc5.1 (ZkC htree) z hz)) h4, Or.inr ⟨gb, us, ty', e2, hgb, h2, by omega, rfl⟩⟩, h4, by rw [e2]; intro h; cases h⟩
    . have hx : xs = [] := List.eq_nil_of_length_eq_zero (by omega)
      subst hx
      exact ⟨[], ⟨rfl, by simp, by unfold maxLen; omega, by simp, Or.inl e2⟩, by simp [VRs], fun _ => e2⟩
  obtain ⟨A1, cap1, news, rfl, hnl, hvn, htn, hln, hn1, hsrc⟩ := ZO2 R hob.2 hv1 hk
  refine (ZJC L ty (fun _ => none) b A xs.length cap lr olds news A1 ys.length cap1 w (LibA.three_whole hheap) hBR hA0 hnl hn1 hsrc (by unfold ZbU at hlim; omega)).mono ?_
  rintro e w' ⟨rfl, A', cap', hT, hle, hcm, hcase⟩
  refine ⟨_, rfl, ?_⟩
  have hT' := ZNE hT
  unfold maxLen at hcm
  obtain ⟨w1, hw1⟩ : ∃ w1 : World, w1 = { w with heap := w.heap.setIfInBounds b (.cells #[.slice A' (xs.length + ys.length) cap', .int .i64 0, .int .i8 0] ty (0, 0)) } := ⟨_, rfl⟩
  have hbl : b < w.heap.size := Lib.lt_of_heap hheap
  have h1b : w1.heap[b]? = w'.heap[b]? := by rw [hw1, hT']; simp [hbl]
  have h1o : ∀ k, k ≠ b -> w1.heap[k]? = w.heap[k]? := fun k hk => by rw [hw1]; exact Array.getElem?_setIfInBounds_ne (fun e => hk e.symm)
  have h1s : w1.heap.size = w.heap.size := by rw [hw1]; simp
  have R1 : Rel base w0 I0 I β [.var [.top, .int .i64 0, .int .i8 0], .row g 1 xs] w1 := by
    have := R.putObj (t := 0) (x' := .var [.top, .int .i64 0, .int .i8 0]) rfl how (by simp only [ZA, hβ0, Option.bind_some]) (.cells #[.slice A' (xs.length + ys.length) cap', .int .i64 0, .int .i8 0] ty (0, 0))
      ⟨b, kk, cc, _, ty, hβ0, by simp [hbl]; rfl, by simp [VRs, VR]⟩ rfl
    rw [hw1]; exact this
  obtain ⟨bi2, hB, keep, hbi2, hblk, hv2⟩ : ∃ bi2 : BI, KB base w1 w' /\ (∀ b', ZA β 1 (.row g 1 xs) ≠ some b' -> b' < w1.heap.size -> w'.heap[b']? = w1.heap[b']?) /\ (bi2.b = none \/ ∃ b', bi2.b = some b' /\ (ZA β 1 (.row g 1 xs) = some b' \/ b' = w1.heap.size)) /\
      BR I (β.put 1 (g + 1) bi2) w' 1 (.row (g + 1) 1 (xs ++ ys)) /\ VR I (β.put 1 (g + 1) bi2) (.sl 1 (g + 1) 0 (xs ++ ys).length) (.slice A' (xs.length + ys.length) cap') := by
    have hle2 : β.le (β.put 1 (g + 1) bi) -> True := fun _ => trivial
    have hnone : β 1 (g + 1) = none := R.gen 1 _ (g + 1) rfl (by simp [Zq])
    rcases hcase with ⟨hn0, rfl, rfl, hgB⟩ | ⟨G, W1, Y, t, rfl, hGw, hGb, hg1, hg2, hY, hYs, hYt⟩
    . have hy : ys = [] := List.eq_nil_of_length_eq_zero hn0
      subst hy
      simp only [List.append_nil, List.length_nil, Nat.add_zero]
      have hbl' : β.le (β.put 1 (g + 1) bi) := Bmap.put_le hnone
      have same : ∀ k, k < w.heap.size -> w'.heap[k]? = w1.heap[k]? := by
        intro k hk
        by_cases e : k = b
        . rw [e, h1b]
        . rw [h1o k e]; exact hgB.block k hk (fun h => e (Option.some.inj h))
      refine ⟨bi, ⟨by rw [hw1]; exact hgB.os, by rw [hw1]; exact hgB.tape, by rw [hw1]; exact hgB.output, by rw [h1s]; exact hgB.size, fun k hk => same k (hbw k hk)⟩, fun b' _ hb' => same b' (by omega), ?_, ?_, ?_⟩
      . rw [hor]
        cases bi.b with
        | none => exact Or.inl rfl
        | some x => exact Or.inr ⟨x, rfl, Or.inl rfl⟩
      . refine ⟨bi, Bmap.put_same β 1 (g + 1) bi, hk1, by omega, hcap63, hxl, htree, hlens, hrow.imp id ?_⟩
        rintro ⟨gb, us, ty', q1, q2, q3, q4⟩
        have hgb : gb ≠ b := by
          rintro rfl
          have := R.apart 0 _ 1 _ gb rfl rfl how (by rw [hor, q1])
          omega
        exact ⟨gb, us, ty', q1, by rw [same gb (Lib.lt_of_heap q2), h1o gb hgb]; exact q2, q3, VRs.mono (Imm.le.refl I) hbl' _ _ q4⟩
      . rw [Zca]
        refine ⟨bi, Bmap.put_same β 1 (g + 1) bi, hxl, hcap63, ?_⟩
        rcases hA with ⟨gb, e1, e2, e3⟩ | ⟨e1, e2, e3⟩
        . exact Or.inl ⟨gb, e1, by rw [e2, e3]⟩
        . have hx : xs.length = 0 := by omega
          exact Or.inr ⟨e1, e3, _, by rw [hx, e2]⟩
    . have hbl' : β.le (β.put 1 (g + 1) ⟨some G, 1, cap'⟩) := Bmap.put_le hnone
      have hGo : ZA β 1 (.row g 1 xs) = some G \/ G = w1.heap.size := by
        rcases hGw with e | ⟨e, hc0⟩
        . exact Or.inr (by rw [h1s]; exact e)
        . refine Or.inl ?_
          rw [hor]
          rcases hA with ⟨gb, e1, e2, e3⟩ | ⟨e1, e2, e3⟩
          . rw [e2] at e; injection e with e; injection e with e; rw [e1, e]
          . exact absurd e2 hc0
      have hsz1 : w.heap.size <= W1.heap.size := hg1.size
      have same : ∀ k, k < w.heap.size -> k ≠ G -> w'.heap[k]? = w1.heap[k]? := by
        intro k hk hkG
        by_cases e : k = b
        . rw [e, h1b]
        . rw [h1o k e]; exact (hg2.block k (by omega) (fun h => hkG (Option.some.inj h))).trans (hg1.block k hk (fun h => e (Option.some.inj h)))
      refine ⟨⟨some G, 1, cap'⟩, ⟨by rw [hw1]; exact hg2.os.trans hg1.os, by rw [hw1]; exact hg2.tape.trans hg1.tape, by rw [hw1]; exact hg2.output.trans hg1.output, by rw [h1s]; exact Nat.le_trans hg1.size hg2.size, fun k hk => same k (hbw k hk) ?_⟩, fun b' hb1 hb' => same b' (by omega) ?_, Or.inr ⟨G, rfl, hGo⟩, ?_, ?_⟩
      . rintro rfl
        rcases hGo with e | e
        . exact (R.own 1 _ _ rfl e).1 hk
        . have := hbw _ hk; omega
      . rintro rfl
        rcases hGo with e | e
        . exact hb1 e
        . omega
      . refine ⟨_, Bmap.put_same β 1 (g + 1) _, rfl, by omega, hcm, by rw [List.length_append]; exact hle, by rw [ZgL htree htn], ?_, Or.inr ⟨G, Y, t, rfl, hY, by rw [hYs, Nat.mul_one], ?_⟩⟩
        . intro x hx
          rcases List.mem_append.1 hx with h | h
          . exact hlens x h
          . exact hln x h
        . rw [List.length_append, Nat.mul_one, hYt, Zfq]
          exact ZcJ (VRs.mono (Imm.le.refl I) hbl' _ _ hvo) (VRs.mono (Imm.le.refl I) hbl' _ _ hvn)
      . rw [Zca]
        exact ⟨_, Bmap.put_same β 1 (g + 1) _, by rw [List.length_append]; exact hle, hcm, Or.inl ⟨G, rfl, by rw [List.length_append]⟩⟩
  have hbw1 : KLt base w1 := fun k hk => by rw [h1s]; exact hbw k hk
  obtain ⟨R2, hle2⟩ := R1.grow (t := 1) (g := g) (k := 1) (xs := xs) (xs' := xs ++ ys) rfl bi2 hB (by
    intro b' o u hI
    have hne : b' ≠ b := by rintro rfl; rw [hob.2 o] at hI; cases hI
    have hlt : b' < w1.heap.size := by rw [h1s]; exact Zed (R.imm _ _ _ hI)
    have hno : ZA β 1 (.row g 1 xs) ≠ some b' := fun e => by have := (R.own 1 _ b' rfl e).2 o; rw [this] at hI; cases hI
    rw [<- R1.imm b' o u hI]
    simp only [World.cell?, keep b' hno hlt]) keep hbi2 hbw1 hblk
  have hβ2 : (β.put 1 (g + 1) bi2) 0 0 = some ⟨some b, kk, cc⟩ := hle2 _ _ _ hβ0
  refine ⟨β.put 1 (g + 1) bi2, hle2, ?_, by simp [VR, VRs]⟩
  refine R2.upd (Imm.le.refl I) (Bmap.le.refl _) (KB.refl _ _) (fun _ _ _ => rfl) R2.imm 0 (.var [.sl 1 (g + 1) 0 (xs ++ ys).length, .int .i64 0, .int .i8 0]) rfl (by simp) (fun _ _ _ => rfl) ?_ ?_ ?_ ?_ (by simp)
  . intro t' x b' hne hx hb'
    refine ⟨rfl, (R2.own t' x b' hx hb').2, ?_⟩
    simp only [ZA, hβ2, Option.bind_some]
    intro e; injection e with e; subst e
    exact hne (R2.apart t' x 0 _ b hx rfl hb' (by simp only [ZA, hβ2, Option.bind_some]))
  . exact ⟨b, kk, cc, _, ty, hβ2, hT', by simp only [VRs]; exact ⟨_, _, rfl, hv2, _, _, rfl, by simp [VR], _, _, rfl, by simp [VR], rfl⟩⟩
  . intro b' e
    simp only [ZA, hβ2, Option.bind_some] at e; injection e with e; subst e
    exact R2.own 0 _ b rfl (by simp only [ZA, hβ2, Option.bind_some])
  . intro g' hg'
    exact R2.gen 0 _ g' rfl (by simpa [Zq] using hg')
theorem ZwU (L:LaysM.n180 P ρ) {f:FuncId} (hf:ρ.f 180=f) (hx:∃ fn,P.funcs[f]?=some fn/\fn.body.isSome=true/\(fn.name == "runtime.NumGoroutine")=false) {args:List AVal} {σ σ':Za} {r:AVal} (hg:Zhm args σ=some (r,σ')) :
  (∃ fn,P.funcs[f]?=some fn/\fn.body.isSome=true/\(fn.name == "runtime.NumGoroutine")=false) /\
  ∀ base w0 I0 I β w (vs:Array Value),KLt base w0->Rel base w0 I0 I β σ w->VRs I β args vs.toList ->
   Calls P f vs w (fun e w'=>∃ u,Ends r e u/\Zb7 σ.length base w0 I0 I β r σ' u w'):=by
 refine ⟨hx,?_⟩
 intro base w0 I0 I β w vs hb R hargs
 subst hf
 unfold Zhm at hg
 split at hg
 ·
  rename_i y ys lr
  split at hg
  case isFalse=>cases hg
  rename_i hc
  simp only [Option.some.injEq,Prod.mk.injEq] at hg
  obtain ⟨rfl,rfl⟩:=hg
  simp only [VRs] at hargs
  obtain ⟨v0,_,hvs,h0,v1,_,rfl,h1,rfl⟩:=hargs
  have hvs':vs=#[v0,v1]:=by rw [<-Array.toList_inj];exact hvs
  subst hvs'
  simp only [VR] at h0
  obtain ⟨b,k,c,hβ0,rfl⟩:=h0
  obtain ⟨b',k',c',us,ty,hβ,hheap,hcs⟩:=R.blk 0 _ rfl
  rw [hβ0] at hβ;injection hβ with hβ;injection hβ with hβ1 hβ2 hβ3;injection hβ1 with hβ1;subst hβ1 hβ2 hβ3
  simp only [VRs] at hcs
  obtain ⟨u0,_,hus,hu0,u1,_,rfl,hu1,u2,_,rfl,hu2,rfl⟩:=hcs
  simp only [VR] at hu0 hu1 hu2
  obtain ⟨A,cap,rfl,_,_,hcap,_,_⟩:=hu0
  have hcap0:cap=0:=by simpa using hcap
  subst hu1 hu2 hcap0
  have hus':us=#[.slice A 0 0,.int .i64 0,.int .i8 lr]:=by rw [<-Array.toList_inj];simpa using hus
  subst hus'
  have R1:=R.reserve 1
  have hfree:([.var [.lst true [],.int .i64 0,.int .i8 lr]]++List.replicate 1 ZK.free)[1]?=some .free:=rfl
  obtain ⟨R2,hle⟩:=R1.newNone hfree 1 (by omega)
  have R3:Rel base w0 I0 I (β.put 1 0 ⟨none,1,0⟩) [.var [.lst true [],.int .i64 0,.int .i8 lr],.row 0 1 []] w:=R2
  refine (Zr5 L hb R3 (bi:=⟨none,1,0⟩) (Bmap.put_same β 1 0 _) (hle _ _ _ hβ0) (A:=A) (cap:=0) hheap (Or.inr ⟨rfl,rfl,rfl⟩) (h1.mono (Imm.le.refl I) hle _ _) (by simpa using hc.1) hc.2).mono ?_
  rintro e w' ⟨u,he,β',hb',hR,hv⟩
  obtain ⟨β2,hk2,hR2,_⟩:=Zog hR 1 []
  refine ⟨u,he,I,β2,Imm.le.refl I,(KeptE.of_le (hle.trans hb')).trans hk2,?_,by simpa [ZaS,VR,VRs] using hv⟩
  have hgc:(gcA 1 [] [.var [.sl 1 (0+1) 0 ([]++ys).length,.int .i64 0,.int .i8 0],.row (0+1) 1 ([]++ys)]).2=[.var [.sl 1 0 0 ys.length,.int .i64 0,.int .i8 0],.row 0 1 ys]:=rfl
  rw [hgc] at hR2
  exact hR2
 ·rename_i y ys g m lr g' xs
  split at hg
  case isFalse=>cases hg
  rename_i hc
  obtain ⟨rfl,rfl,hc1,hc2⟩:=hc
  simp only [Option.some.injEq,Prod.mk.injEq] at hg
  obtain ⟨rfl,rfl⟩:=hg
  simp only [VRs] at hargs
  obtain ⟨v0,_,hvs,h0,v1,_,rfl,h1,rfl⟩:=hargs
  have hvs':vs=#[v0,v1]:=by rw [<-Array.toList_inj];exact hvs
  subst hvs'
  simp only [VR] at h0
  obtain ⟨b,k,c,hβ0,rfl⟩:=h0
  obtain ⟨b',k',c',us,ty,hβ,hheap,hcs⟩:=R.blk 0 _ rfl
  rw [hβ0] at hβ;injection hβ with hβ;injection hβ with hβ1 hβ2 hβ3;injection hβ1 with hβ1;subst hβ1 hβ2 hβ3
  obtain ⟨bi,hbi,hk1,_⟩:=R.blk 1 (.row g 1 xs) rfl
  simp only [VRs] at hcs
  obtain ⟨u0,_,hus,hu0,u1,_,rfl,hu1,u2,_,rfl,hu2,rfl⟩:=hcs
  rw [Zca] at hu0
  simp only [VR] at hu1 hu2
  subst hu1 hu2
  obtain ⟨bi',hbi',_,_,hcase⟩:=hu0
  rw [hbi] at hbi';injection hbi' with hbi';subst hbi'
  obtain ⟨A,cap,rfl,hA⟩:∃ A cap,u0=.slice A xs.length cap/\((∃ gb,bi.b=some gb/\A=some ⟨gb,0,none⟩/\cap=bi.cap)\/(bi.b=none/\cap=0/\bi.cap=0)):=by
   rcases hcase with ⟨gb,e1,e2⟩ | ⟨e1,e2,A,e3⟩
   ·exact ⟨_,_,e2,Or.inl ⟨gb,e1,rfl,rfl⟩⟩
   ·obtain ⟨bi2,hbi2,_,_,_,hxl,_⟩:=R.blk 1 (.row g 1 xs) rfl
    rw [hbi] at hbi2;injection hbi2 with hbi2;subst hbi2
    exact ⟨A,0,by rw [e3,show xs.length=0 by omega],Or.inr ⟨e1,rfl,e2⟩⟩
  have hus':us=#[.slice A xs.length cap,.int .i64 0,.int .i8 lr]:=by rw [<-Array.toList_inj];simpa using hus
  subst hus'
  refine (Zr5 L hb R hbi hβ0 hheap hA h1 hc1 hc2).mono ?_
  rintro e w' ⟨u,he,β',hb',hR,hv⟩
  exact ⟨u,he,I,β',Imm.le.refl I,KeptE.of_le hb',hR,hv⟩
 ·cases hg
end
end
section
open Go.Shelf
def Zw9:Ren:=⟨fun | 180=>130 | 251=>150 | 252=>151 | 181=>159 | 184=>160 | 290=>161 | 324=>164 | n=>n,fun | 130=>190 | 37=>22 | 3=>3 | 75=>187 | 0=>0 | 93=>135 | 91=>133 | 131=>123 | 4=>4 | 20=>20 | 5=>5 | 80=>118 | 9=>9 | n=>n,fun | 14=>2 | n=>n⟩
theorem ZN9:Go.Proofs.LaysM.n180 Tryd.prog Zw9:={ mixed:=by kernel_rfl,f180:=Tryd.func130.trans (congrArg some (by kernel_rfl)),f181:=Tryd.func159.trans (congrArg some (by kernel_rfl)),f184:=Tryd.func160.trans (congrArg some (by kernel_rfl)),f251:=Tryd.func150.trans (congrArg some (by kernel_rfl)),f252:=Tryd.func151.trans (congrArg some (by kernel_rfl)),f290:=Tryd.func161.trans (congrArg some (by kernel_rfl)),f324:=Tryd.func164.trans (congrArg some (by kernel_rfl)),t0:=Tryd.underlying0,a0:=Tryd.isAgg0,z0:=Tryd.sizeOf0,v0:=Tryd.zeroValue0,t3:=Tryd.underlying3,a3:=Tryd.isAgg3,z3:=Tryd.sizeOf3,v3:=Tryd.zeroValue3,t4:=Tryd.underlying4,a4:=Tryd.isAgg4,z4:=Tryd.sizeOf4,v4:=Tryd.zeroValue4,t20:=Tryd.underlying20,a20:=Tryd.isAgg20,z20:=Tryd.sizeOf20,v20:=Tryd.zeroValue20,t37:=Tryd.underlying22,a37:=Tryd.isAgg22,z37:=Tryd.sizeOf22,v37:=Tryd.zeroValue22,t75:=Tryd.underlying187,a75:=Tryd.isAgg187,z75:=Tryd.sizeOf187,v75:=Tryd.zeroValue187,t91:=Tryd.underlying133,a91:=Tryd.isAgg133,z91:=Tryd.sizeOf133,v91:=Tryd.zeroValue133,t93:=Tryd.underlying135,a93:=Tryd.isAgg135,z93:=Tryd.sizeOf135,v93:=Tryd.zeroValue135,t130:=Tryd.underlying190,a130:=Tryd.isAgg190,z130:=Tryd.sizeOf190,v130:=Tryd.zeroValue190,t131:=Tryd.underlying123,a131:=Tryd.isAgg123,z131:=Tryd.sizeOf123,v131:=Tryd.zeroValue123,g14:=by kernel_rfl,t5:=Tryd.underlying5,a5:=Tryd.isAgg5,z5:=Tryd.sizeOf5,v5:=Tryd.zeroValue5,t9:=Tryd.underlying9,a9:=Tryd.isAgg9,z9:=Tryd.sizeOf9,v9:=Tryd.zeroValue9,t80:=Tryd.underlying118,a80:=Tryd.isAgg118,z80:=Tryd.sizeOf118,v80:=Tryd.zeroValue118,i0:=by kernel_rfl,i3:=by kernel_rfl,i4:=by kernel_rfl,i5:=by kernel_rfl,i9:=by kernel_rfl,i20:=by kernel_rfl,i37:=by kernel_rfl,i75:=by kernel_rfl,i80:=by kernel_rfl,i91:=by kernel_rfl,i93:=by kernel_rfl,i130:=by kernel_rfl,i131:=by kernel_rfl,m14:=by kernel_rfl }
end
section
theorem Zza:∃ fn,Tryd.prog.funcs[130]?=some fn/\fn.body.isSome=true/\(fn.name == "runtime.NumGoroutine")=false:=⟨Tryd.f130,Tryd.func130,by kernel_rfl,by kernel_rfl⟩
theorem ZFo:ZjQ Tryd.prog PR1:=by
 intro f g h args σ r σ' hg
 unfold PR1 at h
 split at h
 ·rename_i e;subst e
  injection h with h;subst h
  exact ZDT hg
 ·split at h
  ·rename_i e;subst e
   injection h with h;subst h
   exact ZwU ZN9 rfl Zza hg
  ·exact ZrT f g h args σ r σ' hg
theorem ZxD:ZaK Tryd.prog E1:=by
 have h:E1=EV CF PR1 BY:=ZAp CF PR1 BY
 rw [h]
 exact ZGE Zim ZFo ann BY
end
section
open Go.RowKit
variable {R:Nat}
def Zpd:Ty:=.struct [.int .u8,.slice false (.int .u8)]
theorem ZEU {x:AVal} (h:Zqn R true Zpd x):∃ f:UInt8×Zb,f.2.length<=R/\x=.agg [Zc f.1,.lst false (f.2.map Zc)]:=by
 obtain ⟨y,h,rfl⟩:=h
 unfold Zpd at h
 rw [TyR] at h
 simp only [Ze4] at h
 obtain ⟨_,_,rfl,h1,_,_,rfl,h2,rfl⟩:=h
 obtain ⟨b,_,h3⟩:=ZrB h1
 obtain ⟨l,h4,rfl⟩:=Zjy h2
 rw [TyR] at h1
 obtain ⟨n,hw,rfl⟩:=h1
 simp only [ZbS,Bool.false_eq_true,if_false,List.headD_cons] at h3
 exact ⟨(b,l),h4,by simp only [ZbS,if_true,List.cons_append,List.nil_append,h3];rfl⟩
end
section
open Go.RowKit Go.Shelf Go.Lib
theorem ZMY {W:World} (h:Lib.Utf8Tabs 0 1 W):Gl.le (Imm.of W):=by
 intro b o u hu
 unfold Gl at hu
 unfold Imm.of
 split at hu
 ·rename_i e;subst e
  split at hu
  ·rename_i ho
   rw [h.1 o ho,<-hu]
  ·cases hu
 ·split at hu
  ·rename_i e;subst e
   split at hu
   ·rename_i ho
    rw [<-hu]
    obtain ⟨h1,h2⟩:=h.2 (o / 2) (by omega)
    by_cases hp:o % 2=0
    ·rw [if_pos hp,<-h1];congr 2;omega
    ·rw [if_neg hp,<-h2];congr 2;omega
   ·cases hu
  ·cases hu
section
open Go.RowKit
variable {H:Type} {enc:TypeId×Value->H} {P:Program} {w:World} {spare:Nat->Bool} {held:Bool}
end
end
section
open Go.ChangeShapes Go.WideShapes Go.ChangeAt Go.RowKit Go.Deep
theorem ZKT:ownKnob Tryd.prog.godebug=none:=by kernel_rfl
theorem ZsS:laidOutB Tryd.prog=true:=by kernel_rfl
theorem ZGx {W:World} (hLH:laidMetH Tryd.prog Rows.packetBackRow.laid W):Gl.le (Imm.of W):=by
 have hL:laidMet Tryd.prog Rows.packetBackRow.laid W:=by rw [<-MakeChecks.laidMetH_plain _ _ _ (by kernel_rfl)];exact hLH
 have e1:Rows.laid_unicode_utf8_first=Lib.firstData:=by kernel_rfl
 have e2:(Rows.laid_unicode_utf8_acceptRanges:DataW Unit)=Lib.acceptData:=by kernel_rfl
 have h1:Lib.VarReads Tryd.prog W "unicode/utf8.first" Lib.firstData:=by rw [<-e1];exact Lib.laidMet.reads hL (.tail _ (.tail _ (.head _)))
 have h2:Lib.VarReads Tryd.prog W "unicode/utf8.acceptRanges" Lib.acceptData:=by rw [<-e2];exact Lib.laidMet.reads hL (.head _)
 exact ZMY (utf8Tabs_of_readsT (U8Types.of196 ZrN) ⟨by kernel_rfl,by kernel_rfl,by kernel_rfl,by kernel_rfl,by kernel_rfl,by kernel_rfl,by kernel_rfl⟩ h1 h2)
set_option maxRecDepth 100000 in
theorem ZFz (H:Type) (enc:TypeId×Value->H) (W:World) (base:Nat) (args:Array Value) (ds gs:List (DataW H)) (before:List MemPlace) (vts:List TypeId)
  (hval0:∀ (j:Nat) t v,Tryd.f5.params[j]?=some t->args[j]?=some v->Value.okWide Tryd.prog W .any base t v)
  (hW:DataW.Whole enc Tryd.prog Tryd.f5.params.toList Rows.packetBackSpec.vars false W args.toList ds gs before) (hL:laidMetH Tryd.prog Rows.packetBackRow.laid W) (hwt:(DataW.weightsEach Tryd.prog (Tryd.f5.params.toList++vts) (ds++gs)).all (·<=reachBytes)=true) :
  Calls Tryd.prog 5 args W fun e W'=>∃ v,e=.returned v/\Rows.packetBackSpec.post enc Tryd.prog Tryd.f5 false true false false W args v W':=by
 have hW':=hW
 obtain ⟨p,q,hA0,hV,rfl,hfz,hnd⟩:=hW
 have hval:∀ (j:Nat) t v,Tryd.f5.params[j]?=some t->args[j]?=some v->Value.okWide Tryd.prog W .any base t v:=hval0
 have hA:DataW.TrodAll enc Tryd.prog W 0 (fun _=>true) true Tryd.f5.params.toList args.toList ds p:=hA0
 rw [Tryd.params5] at hA hval hwt
 obtain ⟨v0,vs0,d0,ds0,p0,q0,hargs,rfl,rfl,h0,r0⟩:=trodAll_cons hA
 obtain ⟨v1,vs1,d1,ds1,p1,q1,rfl,rfl,rfl,h1,r1⟩:=trodAll_cons r0
 obtain ⟨rfl,rfl,rfl⟩:=trodAll_nil r1
 obtain rfl:args=#[v0,v1]:=by cases args;simp_all
 obtain ⟨rfl,rfl⟩:=trodVars_none hV
 have k0:=h0
 have lt0:∀ x ∈ p0,x.block < W.heap.size:=by obtain ⟨m,hm⟩:=k0;exact DataW.trod_lt m _ _ _ hm
 obtain ⟨x0,y0,z0,_⟩:=Zu3 (R:=reachBytes) (n:=12) (T:=Zpd) (by kernel_rfl) (by kernel_rfl) (fun m hm=>of_decide_eq_true (List.all_eq_true.1 hwt m (DataW.weights_mem_each (j:=0) rfl rfl m hm))) (hval 0 60 v0 rfl rfl) h0
 rw [Tryd.underlying60] at y0
 obtain ⟨a0,b0,rfl⟩:=ZEU y0
 have k1:=h1
 have lt1:∀ x ∈ p1,x.block < W.heap.size:=by obtain ⟨m,hm⟩:=k1;exact DataW.trod_lt m _ _ _ hm
 obtain ⟨x1,y1,z1,_⟩:=Zu3 (R:=reachBytes) (n:=12) (T:=Zqh) (by kernel_rfl) (by kernel_rfl) (fun m hm=>of_decide_eq_true (List.all_eq_true.1 hwt m (DataW.weights_mem_each (j:=1) rfl rfl m hm))) (hval 1 68 v1 rfl rfl) h1
 rw [Tryd.underlying68] at y1
 obtain ⟨a1,b1,rfl⟩:=ZN7 y1
 clear hA0 hval0
 have rb:reachBytes<=9223372036854775807:=by decide
 have hq:=Zy6 a0.1 a0.2 a1 (ZJm b1 rb)
 refine (Zxm ZxD (ZGx hL) (args:=[.agg [Zc a0.1,.lst false (a0.2.map Zc)],Z4 a1]) (by simp only [VRs];exact ⟨_,_,rfl,z0,_,_,rfl,z1,rfl⟩) (hq)).mono fun e W' ⟨he,bel⟩=>?_
 subst he
 exact ⟨_,rfl,_,_,_,[],_,[],hW',trodAll_mk1 (shut_bool Tryd.underlying4 _),(trodAll_cons_mk (Below.trod ZsS (by kernel_rfl) (of_decide_eq_true (by kernel_rfl)) k0 bel lt0) (trodAll_cons_mk (Below.trod ZsS (by kernel_rfl) (of_decide_eq_true (by kernel_rfl)) k1 bel lt1) trodAll_mk0)),rfl,bel.frame _,fun h=>by cases h⟩
noncomputable def ZnW (os:Os):World :=
 let w0:=World.holding Tryd.prog os ⟨#[],#[],[]⟩
 let put (h:Array Obj) (g:Nat) (us:Array Value):Array Obj:=h.modify g fun
  | .cells _ t frozen=>.cells us t frozen
  | o=>o
 let h1:=put w0.heap 0 (Lib.firstTab.map fun z=>Value.int .u8 z).toArray
 let h2:=put h1 1 ((List.range 16).flatMap fun i=>[Value.int .u8 (Lib.accLo i),Value.int .u8 (Lib.accHi i)]).toArray
 let h3:=(put h2 2 #[Value.iface 221 (.pointer (some ⟨h2.size,0,none⟩))]).push (.cells #[Value.string ⟨#[98,121,116,101,115,46,66,117,102,102,101,114,58,32,116,111,111,32,108,97,114,103,101]⟩] 237)
 { w0 with heap:=h3 }
theorem ZE3 (os:Os):laidMet Tryd.prog Rows.packetBackRow.laid ((ZnW os).forCall (fun _ _=>0) ⟨#[],#[.agg #[.int .u8 0,.slice none 0 0],.agg #[.int .i64 0,.bool false,.int .i64 0,.bool false,.int .i64 0,.string ByteArray.empty,.slice none 0 0,.int .i64 0,.slice none 0 0,.slice none 0 0,.slice none 0 0,.slice none 0 0,.bool false,.int .i64 0,.string ByteArray.empty,.bool false,.string ByteArray.empty,.slice none 0 0,.int .i64 0,.bool false,.slice none 0 0,.bool false,.string ByteArray.empty,.bool false,.slice none 0 0,.bool false]],[]⟩).memory :=
 laidMet_of_run' 8 (by kernel_rfl) (by kernel_rfl)
theorem ZIQ (os:Os) {H:Type} (enc:TypeId×Value->H):∃ ds places,DataW.whole enc Tryd.prog ((ZnW os).forCall (fun _ _=>0) ⟨#[],#[.agg #[.int .u8 0,.slice none 0 0],.agg #[.int .i64 0,.bool false,.int .i64 0,.bool false,.int .i64 0,.string ByteArray.empty,.slice none 0 0,.int .i64 0,.slice none 0 0,.slice none 0 0,.slice none 0 0,.slice none 0 0,.bool false,.int .i64 0,.string ByteArray.empty,.bool false,.string ByteArray.empty,.slice none 0 0,.int .i64 0,.bool false,.slice none 0 0,.bool false,.string ByteArray.empty,.bool false,.slice none 0 0,.bool false]],[]⟩).memory Tryd.f5.params.toList Rows.packetBackSpec.vars false #[.agg #[.int .u8 0,.slice none 0 0],.agg #[.int .i64 0,.bool false,.int .i64 0,.bool false,.int .i64 0,.string ByteArray.empty,.slice none 0 0,.int .i64 0,.slice none 0 0,.slice none 0 0,.slice none 0 0,.slice none 0 0,.bool false,.int .i64 0,.string ByteArray.empty,.bool false,.string ByteArray.empty,.slice none 0 0,.int .i64 0,.bool false,.slice none 0 0,.bool false,.string ByteArray.empty,.bool false,.slice none 0 0,.bool false]].toList 8=some (ds,[],places) :=
 ⟨[.agg [.lit (.int .u8 0),.nil],.agg [.lit (.int .i64 0),.lit (.bool false),.lit (.int .i64 0),.lit (.bool false),.lit (.int .i64 0),.lit (.string []),.nil,.lit (.int .i64 0),.nil,.nil,.nil,.nil,.lit (.bool false),.lit (.int .i64 0),.lit (.string []),.lit (.bool false),.agg [.lit (.string []),.nil,.lit (.int .i64 0),.lit (.bool false),.nil],.lit (.bool false),.lit (.string []),.lit (.bool false),.nil,.lit (.bool false)]],[],by kernel_rfl⟩
set_option maxRecDepth 100000 in
theorem ZBk (os:Os) (started:os.Started) (H:Type) (enc:TypeId×Value->H) (F:Stop.Interp) :
  ReturnsInHanded {} Tryd.checked os 5 .any ((OpenSpec.ofChange Rows.packetBackSpec).preRow enc Tryd.prog Tryd.f5 Rows.packetBackRow.domain false Rows.packetBackRow.laid) (((OpenSpec.ofChange Rows.packetBackSpec).at F).post enc Tryd.prog Tryd.f5 false true false false):=by
 obtain ⟨ds,places,hx⟩:=ZIQ os enc
 refine returnsInHanded_of_row (C:=Tryd.checked) (s:=(OpenSpec.ofChange Rows.packetBackSpec)) ZKT started (by kernel_rfl) Tryd.func5
  (witness_row_at (enc:=enc) (C:=Tryd.checked) false (ZnW os) #[.agg #[.int .u8 0,.slice none 0 0],.agg #[.int .i64 0,.bool false,.int .i64 0,.bool false,.int .i64 0,.string ByteArray.empty,.slice none 0 0,.int .i64 0,.slice none 0 0,.slice none 0 0,.slice none 0 0,.slice none 0 0,.bool false,.int .i64 0,.string ByteArray.empty,.bool false,.string ByteArray.empty,.slice none 0 0,.int .i64 0,.bool false,.slice none 0 0,.bool false,.string ByteArray.empty,.bool false,.slice none 0 0,.bool false]] rfl (by kernel_rfl) (by kernel_rfl) (by kernel_rfl)
   (OpenSpec.preRow_of_cond 8 hx (by kernel_rfl) (fun k hk=>by cases hk) (by kernel_rfl) (ZE3 os))) ?_
 intro W base args ds gs before hval hW _ hcond hwt hL _ _
 exact ZFz H enc W base args ds gs before _ hval hW hL hwt
theorem ZFO:Rows.PacketBackSaid :=
 OpenClaim.holds_of_cond 5 Tryd.f5 rfl rfl rfl rfl rfl rfl rfl ⟨rfl,rfl,rfl,rfl,rfl⟩ rfl rfl rfl rfl rfl (by kernel_rfl) Tryd.func5 (by kernel_rfl)
  (of_decide_eq_true (by kernel_rfl)) (by unfold Func.isWrapper;first | (rw [if_pos (by decide +kernel)];kernel_rfl) | (rw [if_neg (by decide +kernel)];exact ⟨rfl,rfl⟩))
  (fun os started H enc _ F=>by rw [OpenClaim.pre_eq_preRow];exact ZBk os started H enc F)
theorem ZKH (f:FuncId) (fn:Func) (hf:Tryd.pinned.checked.prog.funcNamed "tidings/tidingslaw12.PacketBack"=some f) (hfn:Tryd.pinned.checked.prog.funcs[f]?=some fn) :
  true=Tryd.pinned.checked.prog.looks []/\∀ (j:Nat) t,fn.params[j]?=some t->Tryd.pinned.checked.prog.wantsStandIn t=false:=by
 obtain rfl:f=5:=Option.some.inj ((show Tryd.prog.funcNamed "tidings/tidingslaw12.PacketBack"=some 5 by kernel_rfl).symm.trans hf) |>.symm
 obtain rfl:fn=Tryd.f5:=(Option.some.inj (Tryd.func5.symm.trans hfn)).symm
 refine ⟨by kernel_rfl,fun j t ht=>?_⟩
 rw [Tryd.params5] at ht
 have hm:t=60\/t=68:=by
  have:=Array.mem_of_getElem? ht
  simp at this
  first | exact this | exact this.symm | omega | (rcases this with h | h | h <;> simp [h]) | (rcases this with h | h | h | h <;> simp [h]) | (rcases this with h | h | h | h | h <;> simp [h]) | (rcases this with h | h | h | h | h | h <;> simp [h]) | (rcases this with h | h | h | h | h | h | h <;> simp [h])
 rcases hm with rfl | rfl
 ·exact (show Tryd.prog.wantsStandIn 60=false by kernel_rfl)
 ·exact (show Tryd.prog.wantsStandIn 68=false by kernel_rfl)
theorem packetBack_card:Rows.PacketBackCardSaid :=
 Claim7.holds_tied_plain_at .later [] _ _ _ _ ZFO (fun _ h=>by cases h) (by kernel_rfl) (fun _ h=>by cases h) packetBack_row_tie rfl ⟨rfl,rfl⟩ (by kernel_rfl) rfl ZKH (by kernel_rfl)
#print axioms packetBack_card
end
end Go.Proofs.YtmlkhhidifjjfaaDoor
