/- ABS: regions whose order is open, for simp. The program's data as trees. The evaluation lemmas in packs. Printed by a program. ConnNames, by evaluation. Calls: plain arguments, whether own rows are handed as such or not; arguments whose own rows are shown. prop.Find and what asks it; proof.Secret, Enter. Numbers of properties; users: proof.Secret, the reference's. Users: proof.Secret and the reference's; names of clients, the reference's. Packets as data. The code of functions as the interpreter reads it: Slices. Printed by a program. Who comes in by a password: proof.Enter and the reference's. The code of functions as the interpreter reads it: Topic. Printed by a program. The code of functions as the interpreter reads it: StrAny. Printed by a program. The code of functions as the interpreter reads it: Octet. Printed by a program. -/
import Derived.Test.YtaaflagbhneakaaDoorMq2
namespace Go.Proofs.YtaaflagbhneakaaDoor
set_option linter.unusedSimpArgs false
set_option linter.unusedVariables false
open Go.RowKit
theorem blockA_n (id : Nat) (tm : Tms) (σ : AHeap) : blockA id (.normal, tm, σ) = (.normal, tm, σ) := rfl
theorem blockA_e (id i : Nat) (tm : Tms) (σ : AHeap) : blockA id (.exit i, tm, σ) = if i = id then (.normal, tm, σ) else (.exit i, tm, σ) := by simp only [blockA]
theorem blockA_r (id : Nat) (tm : Tms) (σ : AHeap) : blockA id (.ret, tm, σ) = (.ret, tm, σ) := rfl
theorem blockA_p (id : Nat) (x : AVal) (tm : Tms) (σ : AHeap) : blockA id (.panic x, tm, σ) = (.panic x, tm, σ) := rfl
section
variable (O : Oracle) (byref : Nat → Bool)
def consC (c : Cls) : Option (Tms × AHeap × List Cls × Option AVal) → Option (Tms × AHeap × List Cls × Option AVal)
  | none => none
  | some (tm, σ, cs, p) => some (tm, σ, c :: cs, p)
def appC (c : List Cls) : Option (Tms × AHeap × List Cls × Option AVal) → Option (Tms × AHeap × List Cls × Option AVal)
  | none => none
  | some (tm, σ, cs, p) => some (tm, σ, c ++ cs, p)
def kC (d : Option Nat) (os : List AOp) (s : Nat) (tm : Tms) : Option (AVal × AHeap × Cls) → Option (Tms × AHeap × List Cls × Option AVal)
  | none => none
  | some (v, σ, c) => if isPan v then some (tput tm d v, σ, [c], some (valOf v)) else consC c (runOps O byref os s (tput tm d v) σ)
def regC (ops : List AOp) (L : Nat) (l : List (Nat × Nat)) (live : List Nat) : Option (Tms × AHeap × List Cls × Option AVal) → Option (AExit × Tms × AHeap)
  | none => none
  | some (_, _, _, some _) => none
  | some (tm, σ, cs, none) => if chkA ops L l cs then some (.normal, keepL live tm, σ) else none
variable {O byref}
theorem C_nil (s : Nat) (tm : Tms) (σ : AHeap) : runOps O byref [] s tm σ = some (tm, σ, [], none) := rfl
theorem consC_some (c : Cls) (tm : Tms) (σ : AHeap) (cs : List Cls) (p : Option AVal) : consC c (some (tm, σ, cs, p)) = some (tm, σ, c :: cs, p) := rfl
theorem consC_none (c : Cls) : consC c none = none := rfl
theorem consC_ite (c : Cls) (q : Prop) [Decidable q] (x y : Option (Tms × AHeap × List Cls × Option AVal)) : consC c (if q then x else y) = if q then consC c x else consC c y := by split <;> rfl
theorem appC_some (c : List Cls) (tm : Tms) (σ : AHeap) (cs : List Cls) (p : Option AVal) : appC c (some (tm, σ, cs, p)) = some (tm, σ, c ++ cs, p) := rfl
theorem appC_none (c : List Cls) : appC c none = none := rfl
theorem appC_ite (c : List Cls) (q : Prop) [Decidable q] (x y : Option (Tms × AHeap × List Cls × Option AVal)) : appC c (if q then x else y) = if q then appC c x else appC c y := by split <;> rfl
theorem C_step {o : AOp} {os : List AOp} {s : Nat} {tm tm1 : Tms} {σ σ1 : AHeap} {v : AVal} {c : Cls} (h : stepA O byref o s tm σ = some (v, tm1, σ1, c)) (hn : isPan v = false) : runOps O byref (o :: os) s tm σ = consC c (runOps O byref os (s + nsite o.ins) tm1 σ1) := by
  rw [runOps_step h hn]
  cases runOps O byref os (s + nsite o.ins) tm1 σ1 <;> rfl
theorem C_cons (d : Option Nat) (i : Ins) (af : List Nat) (os : List AOp) (s : Nat) (tm : Tms) (σ : AHeap) : runOps O byref (⟨d, i, none, af⟩ :: os) s tm σ = kC O byref d os (s + nsite i) tm (exI O byref i s tm σ) := by
  cases h : exI O byref i s tm σ with
  | none => exact runOps_none (by rw [step_one, h]; rfl)
  | some q =>
    obtain ⟨v, σ1, c⟩ := q
    have hs : stepA O byref ⟨d, i, none, af⟩ s tm σ = some (v, tput tm d v, σ1, c) := by rw [step_one, h]; rfl
    cases hp : isPan v with
    | true =>
      obtain ⟨x, rfl⟩ := isPan_true hp
      exact runOps_pan hs
    | false =>
      rw [C_step hs hp]
      simp only [kC, hp, Bool.false_eq_true, if_false]
theorem kC_some (d : Option Nat) (os : List AOp) (s : Nat) (tm : Tms) (v : AVal) (σ : AHeap) (c : Cls) (h : isPan v = false) : kC O byref d os s tm (some (v, σ, c)) = consC c (runOps O byref os s (tput tm d v) σ) := by
  simp only [kC, h, Bool.false_eq_true, if_false]
theorem kC_pan (d : Option Nat) (os : List AOp) (s : Nat) (tm : Tms) (x : AVal) (σ : AHeap) (c : Cls) : kC O byref d os s tm (some (.pan x, σ, c)) = some (tput tm d (.pan x), σ, [c], some x) := rfl
theorem kC_none (d : Option Nat) (os : List AOp) (s : Nat) (tm : Tms) : kC O byref d os s tm none = none := rfl
theorem kC_ite (d : Option Nat) (os : List AOp) (s : Nat) (tm : Tms) (q : Prop) [Decidable q] (x y : Option (AVal × AHeap × Cls)) : kC O byref d os s tm (if q then x else y) = if q then kC O byref d os s tm x else kC O byref d os s tm y := by split <;> rfl
theorem reg_some (ops : List AOp) (l : List (Nat × Nat)) (live : List Nat) (tm : Tms) (σ : AHeap) : runRegion O byref ops (some l) live tm σ = regC ops σ.length l live (runOps O byref ops σ.length tm (σ ++ List.replicate (sitesOf ops) .free)) := by
  unfold runRegion
  cases runOps O byref ops σ.length tm (σ ++ List.replicate (sitesOf ops) .free) with
  | none => rfl
  | some q =>
    obtain ⟨tm', σ', cs, p⟩ := q
    cases p <;> rfl
theorem regC_some (ops : List AOp) (L : Nat) (l : List (Nat × Nat)) (live : List Nat) (tm : Tms) (σ : AHeap) (cs : List Cls) (h : chkA ops L l cs = true) : regC ops L l live (some (tm, σ, cs, none)) = some (.normal, keepL live tm, σ) := by
  simp only [regC, h, if_true]
theorem regC_none (ops : List AOp) (L : Nat) (l : List (Nat × Nat)) (live : List Nat) : regC ops L l live none = none := rfl
theorem regC_ite (ops : List AOp) (L : Nat) (l : List (Nat × Nat)) (live : List Nat) (q : Prop) [Decidable q] (x y : Option (Tms × AHeap × List Cls × Option AVal)) : regC ops L l live (if q then x else y) = if q then regC ops L l live x else regC ops L l live y := by split <;> rfl
/-- a check of classes that touch nothing -/
theorem chk_quiet (ops : List AOp) (L : Nat) (l : List (Nat × Nat)) (cs : List Cls) (h : (cs.all fun c => c.wr.isEmpty && !c.any) = true) (hs : (l.all fun p => nsite (ops.getD p.1 default).ins == 0) = true) : chkA ops L l cs = true := by
  have hd : ∀ i, noWr (cs.getD i {}) = true := by
    intro i
    rw [List.all_eq_true] at h
    rw [List.getD_eq_getElem?_getD]
    cases hi : cs[i]? with
    | none => rfl
    | some c => exact h c (List.mem_of_getElem? hi)
  unfold chkA
  rw [List.all_eq_true] at hs ⊢
  intro p hp
  unfold pairFree
  simp only [hd, hs p hp, Bool.and_true, Bool.true_and, Bool.true_or, Bool.or_true]
/-- a region whose classes write nothing -/
theorem regC_quiet (ops : List AOp) (L : Nat) (l : List (Nat × Nat)) (live : List Nat) (tm : Tms) (σ : AHeap) (cs : List Cls) (h : (cs.all fun c => c.wr.isEmpty && !c.any) = true) (hs : (l.all fun p => nsite (ops.getD p.1 default).ins == 0) = true) : regC ops L l live (some (tm, σ, cs, none)) = some (.normal, keepL live tm, σ) :=
  regC_some _ _ _ _ _ _ _ (chk_quiet _ _ _ _ h hs)
variable (O byref) in
def gKC (os : List AOp) (s : Nat) : Option (Tms × AHeap × List Cls × Option AVal) → Option (Tms × AHeap × List Cls × Option AVal)
  | none => none
  | some (tm, σ, cs, some x) => some (tm, σ, cs, some x)
  | some (tm, σ, cs, none) => appC cs (runOps O byref os s tm σ)
theorem gKC_some (os : List AOp) (s : Nat) (tm : Tms) (σ : AHeap) (cs : List Cls) : gKC O byref os s (some (tm, σ, cs, none)) = appC cs (runOps O byref os s tm σ) := rfl
theorem gKC_ite (os : List AOp) (s : Nat) (q : Prop) [Decidable q] (x y : Option (Tms × AHeap × List Cls × Option AVal)) : gKC O byref os s (if q then x else y) = if q then gKC O byref os s x else gKC O byref os s y := by split <;> rfl
theorem gKC_cons (os : List AOp) (s : Nat) (c : Cls) (r : Option (Tms × AHeap × List Cls × Option AVal)) : gKC O byref os s (consC c r) = consC c (gKC O byref os s r) := by
  cases r with
  | none => rfl
  | some q =>
    obtain ⟨tm, σ, cs, p⟩ := q
    cases p with
    | some x => rfl
    | none =>
      simp only [consC, gKC]
      cases runOps O byref os s tm σ <;> rfl
theorem C_append : ∀ (a b : List AOp) (s : Nat) (tm : Tms) (σ : AHeap), runOps O byref (a ++ b) s tm σ = gKC O byref b (s + sitesOf a) (runOps O byref a s tm σ)
  | [], b, s, tm, σ => by
    simp only [List.nil_append, C_nil, gKC, sitesOf, List.map_nil, List.sum_nil, Nat.add_zero]
    cases runOps O byref b s tm σ <;> rfl
  | o :: a, b, s, tm, σ => by
    have ih := C_append a b
    simp only [List.cons_append]
    have hs : s + nsite o.ins + sitesOf a = s + sitesOf (o :: a) := by simp [sitesOf, Nat.add_assoc]
    cases hst : stepA O byref o s tm σ with
    | none => rw [runOps_none hst, runOps_none hst]; rfl
    | some q =>
      obtain ⟨v, tm1, σ1, c⟩ := q
      cases hp : isPan v with
      | true =>
        obtain ⟨x, rfl⟩ := isPan_true hp
        rw [runOps_pan hst, runOps_pan hst]; rfl
      | false => rw [C_step hst hp, C_step hst hp, ih, hs, gKC_cons]
variable (O byref) in
def gRunC (j : Nat) (w : Bool) (g : List AOp) (s : Nat) (tm : Tms) (σ : AHeap) : Option (Tms × AHeap × List Cls × Option AVal) := match wantedA (some (j, w)) tm with
  | none => none
  | some false => some (gSkip g tm, σ, g.map fun _ => {}, none)
  | some true => runOps O byref (g.map unG) s tm σ
theorem C_group (j : Nat) (w : Bool) : ∀ (g : List AOp), (∀ o ∈ g, o.guard = some (j, w) ∧ o.dst ≠ some j) → ∀ (s : Nat) (tm : Tms) (σ : AHeap), g ≠ [] → runOps O byref g s tm σ = gRunC O byref j w g s tm σ
  | [], _, _, _, _, h => absurd rfl h
  | o :: g, hall, s, tm, σ, _ => by
    obtain ⟨hg, hd⟩ := hall o (by simp)
    have ih : ∀ (tm : Tms) (σ : AHeap) (s : Nat), wantedA (some (j, w)) tm ≠ none → runOps O byref g s tm σ = gRunC O byref j w g s tm σ := by
      intro tm σ s hw
      by_cases he : g = []
      · subst he
        unfold gRunC
        cases hx : wantedA (some (j, w)) tm with
        | none => exact absurd hx hw
        | some b => cases b <;> rfl
      · exact C_group j w g (fun o ho => hall o (by simp [ho])) s tm σ he
    cases hx : wantedA (some (j, w)) tm with
    | none =>
      rw [runOps_none (by simp only [stepA, hg, hx])]
      simp only [gRunC, hx]
    | some b =>
      cases b with
      | false =>
        have h1 : runOps O byref (o :: g) s tm σ = consC {} (runOps O byref g (s + nsite o.ins) (tput tm o.dst (.tup [])) σ) :=
          C_step (v := .tup []) (c := {}) (by simp only [stepA, hg, hx]) rfl
        rw [h1, ih _ _ _ (by rw [wanted_put hd, hx]; simp)]
        unfold gRunC
        rw [wanted_put hd, hx]
        rfl
      | true =>
        have key : ∀ r : Option (AVal × AHeap × Cls), (∀ v σ' c, r = some (v, σ', c) → isPan v = false → runOps O byref g (s + nsite o.ins) (tput tm o.dst v) σ' = runOps O byref (g.map unG) (s + nsite o.ins) (tput tm o.dst v) σ') → kC O byref o.dst g (s + nsite o.ins) tm r = kC O byref o.dst (g.map unG) (s + nsite o.ins) tm r := by
          intro r hr
          cases r with
          | none => rfl
          | some q =>
            obtain ⟨v, σ', c⟩ := q
            cases hp : isPan v with
            | true => simp only [kC, hp, if_true]
            | false => rw [kC_some _ _ _ _ _ _ _ hp, kC_some _ _ _ _ _ _ _ hp, hr v σ' c rfl hp]
        have h1 : runOps O byref (o :: g) s tm σ = kC O byref o.dst g (s + nsite o.ins) tm (exI O byref o.ins s tm σ) := by
          have h0 : runOps O byref (o :: g) s tm σ = runOps O byref (⟨o.dst, o.ins, none, o.after⟩ :: g) s tm σ := by
            have hst : stepA O byref o s tm σ = stepA O byref ⟨o.dst, o.ins, none, o.after⟩ s tm σ := by
              unfold stepA
              simp only [hg, hx]
              rfl
            simp only [runOps, hst]
          rw [h0, C_cons]
        rw [h1]
        unfold gRunC
        rw [hx]
        simp only [List.map_cons]
        rw [show unG o = ⟨o.dst, o.ins, none, o.after⟩ from rfl, C_cons]
        refine key _ fun v σ' c _ _ => ?_
        rw [ih _ _ _ (by rw [wanted_put hd, hx]; simp)]
        unfold gRunC
        rw [wanted_put hd, hx]
theorem C_guard (d : Option Nat) (i : Ins) (j : Nat) (w : Bool) (af : List Nat) (os : List AOp) (s : Nat) (tm : Tms) (σ : AHeap) (hd : decide (d = some j) = false) :
    runOps O byref (⟨d, i, some (j, w), af⟩ :: os) s tm σ = gKC O byref (gSpan j w os).2 (s + sitesOf (⟨d, i, some (j, w), af⟩ :: (gSpan j w os).1)) (gRunC O byref j w (⟨d, i, some (j, w), af⟩ :: (gSpan j w os).1) s tm σ) := by
  have h := gSpan_eq j w os
  have hall : ∀ o ∈ (⟨d, i, some (j, w), af⟩ :: (gSpan j w os).1 : List AOp), o.guard = some (j, w) ∧ o.dst ≠ some j := by
    intro o ho
    rcases List.mem_cons.1 ho with rfl | ho
    · exact ⟨rfl, by simpa using hd⟩
    · exact gSpan_all j w os o ho
  rw [← C_group j w _ hall s tm σ (by simp), ← C_append, List.cons_append, h]
variable (O byref) in
def gWC (w : Bool) (g : List AOp) (s : Nat) (tm : Tms) (σ : AHeap) : AVal → Option (Tms × AHeap × List Cls × Option AVal)
  | .bool b => if b = w then runOps O byref (g.map unG) s tm σ else some (gSkip g tm, σ, g.map fun _ => {}, none)
  | .tup [] => some (gSkip g tm, σ, g.map fun _ => {}, none)
  | _ => none
theorem gRunC_eq (j : Nat) (w : Bool) (g : List AOp) (s : Nat) (tm : Tms) (σ : AHeap) : gRunC O byref j w g s tm σ = gWC O byref w g s tm σ (tget tm j) := by
  unfold gRunC wantedA
  simp only
  generalize tget tm j = v
  cases v
  case bool b => cases b <;> cases w <;> rfl
  case tup vs => cases vs <;> rfl
  all_goals rfl
theorem gWC_bool (w : Bool) (g : List AOp) (s : Nat) (tm : Tms) (σ : AHeap) (b : Bool) : gWC O byref w g s tm σ (.bool b) = if b = w then runOps O byref (g.map unG) s tm σ else some (gSkip g tm, σ, g.map fun _ => {}, none) := rfl
theorem gWC_off (w : Bool) (g : List AOp) (s : Nat) (tm : Tms) (σ : AHeap) : gWC O byref w g s tm σ (.tup []) = some (gSkip g tm, σ, g.map fun _ => {}, none) := rfl
theorem ite_exc (q : Prop) [Decidable q] (t1 t2 : Tms) (σ1 σ2 : AHeap) (cs : List Cls) : (if q then some (t1, σ1, cs, (none : Option AVal)) else some (t2, σ2, cs, none)) = some ((if q then t1 else t2), (if q then σ1 else σ2), cs, none) := by split <;> rfl
theorem cls_quiet : (Cls.mk [] [] false) = {} := rfl
end
section
theorem gc_one {r : AVal} {cs : List AVal} {σ : AHeap} (hr : noRef r = true) (hc : noRefL cs = true) : gcA 1 [r] (.var cs :: σ) = ([r], [.var cs]) := by
  have e1 := (noRef_spec (rhoOf (.var cs :: σ) 1 [0]) r hr)
  have e2 := (noRefL_spec (rhoOf (.var cs :: σ) 1 [0]) cs hc)
  have h1 : gcIds 1 [r] (.var cs :: σ) = [0] := by
    have : refsL [r] = [] := by simp only [refsL, e1.2, List.append_nil]
    simp only [gcIds, this, List.nil_append, List.range_one, List.flatMap_cons, List.flatMap_nil, List.append_nil, List.getD_cons_zero, refsB, e2.2]
    rfl
  simp only [gcA, h1, renL, e1.1, heapOf, List.getD_cons_zero, newGen, genB, renB, e2.1]
/-- an answer without blocks, of a function that was handed one variable -/
theorem out_one {r : AVal} {cs : List AVal} {σ : AHeap} (hr : noRef r = true) (hc : noRefL cs = true) : outA 1 (.var cs :: σ) r = some (r, [.var cs]) := by
  simp only [outA, gc_one hr hc]
theorem reach_one {σ : AHeap} {t : Nat} {cs : List AVal} (hs : σ[t]? = some (.var cs)) (hc : noRefL cs = true) : reach σ 1000 [t] [] = [t] := by
  have hd : σ.getD t .free = .var cs := by simp [List.getD_eq_getElem?_getD, hs]
  have e2 := (noRefL_spec (fun _ _ => none) cs hc).2
  show reach σ (999 + 1) [t] [] = [t]
  simp only [reach, List.contains_nil, Bool.false_eq_true, if_false, hd, refsB, e2, List.nil_append]
theorem call_ref {O : Oracle} {byref : Nat → Bool} {σ : AHeap} {t site f : Nat} {view : Bool} {rest : List AVal} {cs cs' : List AVal} {r : AVal} (hs : σ[t]? = some (.var cs)) (hc : noRefL cs = true) (hc' : noRefL cs' = true) (hb : byref f = false) (hp : rest.all plainV = true) (hr : flatA r = true) (hn : noRef r = true) (hv : viewR [.var cs'] r = some (r, []))
    (h : O f (.ref 0 0 :: rest.map normV) [.var cs] = some (r, [.var cs'])) : callG O byref σ site f 0 view (.ref t 0 :: rest) = some (r, σ.set t (.var cs'), { any := true }) := by
  have hd : σ.getD t .free = .var cs := by simp [List.getD_eq_getElem?_getD, hs]
  have hf0 : freezeA σ [] = σ := rfl
  have hsh : showAs σ (.ref t 0 :: rest) = some (.ref t 0 :: rest.map normV, []) := by
    rw [showAs, show showA σ (.ref t 0) = some (.ref t 0, []) from rfl, plainVs_show hp]
    rfl
  have href : refsL (.ref t 0 :: rest.map normV) = [t] := by
    rw [refsL, normVs_refs hp]; rfl
  unfold callG showIf
  rw [hb]
  simp only [Bool.false_eq_true, if_false, hsh, hf0, href, reach_one hs hc]
  unfold callI
  have hall : ([t].all fun t => okB (σ.getD t .free)) = true := by simp [List.all_cons, List.all_nil, hs, okB]
  rw [if_pos hall]
  have hρ : rhoOf σ 0 [t] t 0 = some (0, 0) := by simp [rhoOf, idxA, hs, genB, newGen]
  have hheap : heapOf σ 0 [t] (rhoOf σ 0 [t]) [t] 0 = [.var cs] := by
    simp only [heapOf, hd, newGen, genB, renB, (noRefL_spec _ cs hc).1]
  have hargs : renL (rhoOf σ 0 [t]) (.ref t 0 :: rest.map normV) = .ref 0 0 :: rest.map normV := by
    rw [renL, normVs_ren hp]
    simp only [renV, hρ]
  rw [hargs, hheap, h]
  have hask : askO view [t].length (some (r, [.var cs'])) = some (r, [.var cs']) := by
    unfold askO
    split
    · have hnp : ∀ x, r ≠ .pan x := by rintro x rfl; simp [viewR, viewA, viewA1] at hv
      rw [show resV [t].length (some (r, [.var cs'])) = (match viewR [.var cs'] r with
        | some (r', ts) => match gcA [t].length [r'] (freezeA [.var cs'] ts) with
          | ([r''], σ') => some (r'', σ')
          | _ => none
        | none => none) from by cases r <;> first | rfl | exact absurd rfl (hnp _)]
      rw [hv]
      simp only [List.length_cons, List.length_nil, Nat.zero_add, show freezeA [ABlk.var cs'] [] = [.var cs'] from rfl, gc_one hn hc']
    · rfl
  rw [hask]
  have hk : okBack σ [t] [.var cs'] 0 = true := by
    simp [okBack, okB, hs, sameKind, genB]
  simp only [backG, List.isEmpty_cons, Bool.false_and, Bool.false_eq_true, if_false, List.length_cons, List.length_nil, Nat.zero_add, Nat.add_zero, Nat.le_refl, decide_true, hk, freeFrom, Bool.and_self, if_true, layBack, tgtBack, List.getD_cons_zero, genBack, List.getElem?_cons_zero, hd, genB, renB, (noRef_spec _ r hn).1, (noRefL_spec _ cs' hc').1]
end
end Go.Proofs.YtaaflagbhneakaaDoor
namespace Go.Proofs.YtaaflagbhneakaaDoor
set_option linter.unusedSimpArgs false
set_option linter.unusedVariables false
section
variable (c : Prop) [Decidable c]
theorem ite_exn (t1 t2 : Tms) (σ1 σ2 : AHeap) : (if c then some (AExit.normal, t1, σ1) else some (AExit.normal, t2, σ2)) = some (AExit.normal, (if c then t1 else t2), (if c then σ1 else σ2)) := by split <;> rfl
theorem ite_exr (t1 t2 : Tms) (σ1 σ2 : AHeap) : (if c then some (AExit.ret, t1, σ1) else some (AExit.ret, t2, σ2)) = some (AExit.ret, (if c then t1 else t2), (if c then σ1 else σ2)) := by split <;> rfl
theorem ite_exg (t1 t2 : Tms) (σ1 σ2 : AHeap) : (if c then some (t1, σ1, (none : Option AVal)) else some (t2, σ2, none)) = some ((if c then t1 else t2), (if c then σ1 else σ2), none) := by split <;> rfl
theorem ite_slot (n : Nat) (a b : AVal) : (if c then (n, a) else (n, b)) = (n, if c then a else b) := by split <;> rfl
theorem ite_val (a b : AVal) (σ1 σ2 : AHeap) : (if c then some (a, σ1) else some (b, σ2)) = some ((if c then a else b), (if c then σ1 else σ2)) := by split <;> rfl
theorem ite_vcl (a b : AVal) (σ1 σ2 : AHeap) (x y : Cls) : (if c then some (a, σ1, x) else some (b, σ2, y)) = some ((if c then a else b), (if c then σ1 else σ2), if c then x else y) := by split <;> rfl
end
theorem ite_tf {α : Type} (p : Bool) (x y z : α) : (if p = true then x else (if p = false then y else z)) = if p = true then x else y := by cases p <;> rfl
theorem ite_ft {α : Type} (p : Bool) (x y z : α) : (if p = false then x else (if p = true then y else z)) = if p = false then x else y := by cases p <;> rfl
theorem ite_tft {α : Type} (p : Bool) (x y z : α) : (if p = true then (if p = false then x else y) else z) = if p = true then y else z := by cases p <;> rfl
theorem ite_ftf {α : Type} (p : Bool) (x y z : α) : (if p = false then (if p = true then x else y) else z) = if p = false then y else z := by cases p <;> rfl
/-! ### the check of an open order -/
theorem chkA_nil (ops : List AOp) (b : Nat) (cs : List Cls) : chkA ops b [] cs = true := rfl
theorem chkA_cons (ops : List AOp) (b : Nat) (p : Nat × Nat) (l : List (Nat × Nat)) (cs : List Cls) : chkA ops b (p :: l) cs = (pairFree (ops.getD p.1 default) (ops.getD p.2 default) (cs.getD p.1 {}) (cs.getD p.2 {}) (b + sitesOf (ops.take p.1)) && chkA ops b l cs) := by
  simp only [chkA, List.all_cons]
theorem pairFree_eq (oj oi : AOp) (cj ci : Cls) (sj : Nat) : pairFree oj oi cj ci sj = (emptyOp oj cj || emptyOp oi ci || (noWr cj && noWr ci && (nsite oj.ins == 0 || !ci.rd.contains sj))) := rfl
theorem emptyOp_eq (o : AOp) (rd wr : List Nat) (any : Bool) : emptyOp o ⟨rd, wr, any⟩ = (nsite o.ins == 0 && rd.isEmpty && wr.isEmpty && !any) := rfl
theorem noWr_eq (rd wr : List Nat) (any : Bool) : noWr ⟨rd, wr, any⟩ = (wr.isEmpty && !any) := rfl
/-! ### elements of rows -/
theorem drop_at {α : Type} {l : List α} {i : Nat} {x : α} {r : List α} (h : l.drop i = x :: r) : l[i]? = some x ∧ l.drop (i + 1) = r ∧ i < l.length := by
  have h1 : i < l.length := by
    rcases Nat.lt_or_ge i l.length with h1 | h1
    · exact h1
    · rw [List.drop_eq_nil_of_le h1] at h; cases h
  rw [List.drop_eq_getElem_cons h1] at h
  injection h with h2 h3
  exact ⟨by rw [List.getElem?_eq_getElem h1, h2], h3, h1⟩
theorem drop_nil {α : Type} {l : List α} {i : Nat} (h : l.drop i = []) : ¬ (i : Int) < l.length := by
  have := List.drop_eq_nil_iff.1 h; omega
theorem iad {α : Type} {l : List α} {i : Nat} {x : α} (h : l[i]? = some x) (f : α → AVal) {k : Nat} (hk : (f x).cells.length = k) (σ : AHeap) (n : Bool) (kk : IntKind) : iaddrA σ k (.lst n (l.map f)) (.int kk (i : Int)) = some (.iptr (f x).cells 0, σ, {}) := by
  have h0 : (0 : Int) ≤ (i : Int) := Int.natCast_nonneg i
  unfold iaddrA
  simp only [h0, if_true, Int.toNat_natCast, List.getElem?_map, h, Option.map_some, hk]
theorem wrap_nat {n : Int} (h0 : -9223372036854775808 ≤ n) (h : n ≤ 9223372036854775807) : IntKind.i64.wrap n = n := by
  rw [IntKind.wrap_i64]; omega
theorem len_eq {α β : Type} {a : List α} {b : List β} (h : a.length = b.length) : ((a.length : Int) != (b.length : Int)) = false := by simp [h]
theorem len_ne {α β : Type} {a : List α} {b : List β} (h : a.length ≠ b.length) : ((a.length : Int) != (b.length : Int)) = true := by
  simp only [bne_iff_ne, ne_eq]; omega
theorem beq_len {α : Type} [BEq α] [LawfulBEq α] {a b : List α} (h : a.length ≠ b.length) : (a == b) = false := by
  simp only [beq_eq_false_iff_ne, ne_eq]; rintro rfl; exact h rfl
theorem wrap_succ {i n : Nat} (h : (i : Int) < n) (hn : n ≤ 9223372036854775807) : IntKind.i64.wrap ((i : Int) + 1) = ((i + 1 : Nat) : Int) := by
  rw [wrap_nat (by omega) (by omega)]; rfl
/-! ### calls of plain things -/
theorem call_flat {O : Oracle} {byref : Nat → Bool} {f : Nat} {args : List AVal} {r : AVal} (h : O f args [] = some (r, [])) (hb : byref f = false) (hp : args.all plainV = true) (hn : args.map normV = args) (hv : resV 0 (some (r, [])) = some (r, [])) (hr : ∀ site, renV (rhoBack [] [] site) r = r) (σ : AHeap) (site own : Nat) (view : Bool) : callG O byref σ site f own view args = some (r, σ, {}) := by
  rw [callG_plain hb hp, hn, h]
  have : askO view 0 (some (r, [])) = some (r, []) := by
    unfold askO
    split
    · exact hv
    · rfl
  rw [this, backG_plain _ _ _ _ (hr site)]
theorem slice_hi {α : Type} (σ : AHeap) (k : Nat) (l : List α) (f : α → AVal) (kk : IntKind) (n : Int) (h0 : 0 ≤ n) (h : n ≤ (l.length : Int)) : sliceA σ k (.lst false (l.map f)) none (some (.int kk n)) none = some (.lst false ((l.take n.toNat).map f), σ, {}) := by
  simp only [sliceA, optB, boundA, List.length_map, h0, h, and_self, if_true, beq_self_eq_true, Bool.true_or, Option.isSome_none, Bool.false_eq_true, if_false, Bool.false_and, List.drop_zero, List.map_take]
abbrev Bytes := List UInt8
def bytesV (b : Bytes) : AVal := .lst false (b.map byteV)
structure PropD where
  id : Int
  num : Int
  text : Bytes
  pair : Bytes
  data : Bytes
  deriving DecidableEq
def propC (p : PropD) : List AVal := [.int .i64 p.id, .int .i64 p.num, .str p.text, .str p.pair, bytesV p.data]
def propV (p : PropD) : AVal := .agg (propC p)
def propsV (l : List PropD) : AVal := .lst false (l.map propV)
def intsV (l : List Int) : AVal := .lst false (l.map (.int .i64 ·))
theorem bytesOf_map (l : Bytes) : bytesOf (l.map byteV) = some l := by
  induction l with
  | nil => rfl
  | cons b l ih =>
    simp only [List.map_cons, bytesOf, ih, byteV, byteOf, Int.toNat_natCast, UInt8.ofNat_toNat]
end Go.Proofs.YtaaflagbhneakaaDoor
namespace Go.Proofs.YtaaflagbhneakaaDoor
set_option linter.unusedSimpArgs false
set_option linter.unusedVariables false
set_option linter.defProp false
def EVS0 := (And.intro (And.intro (And.intro (And.intro (And.intro (And.intro @x_seq @x_cond) (And.intro @evC_block @evC_region)) (And.intro (And.intro @evC_skip @evC_exit) (And.intro @evC_ret @reg_none))) (And.intro (And.intro (And.intro @runN_nil @runN_cons) (And.intro @runN_guard @kN_some)) (And.intro (And.intro @kN_pan @kN_none) (And.intro @isPan_ite @seqX_n)))) (And.intro (And.intro (And.intro (And.intro @seqX_e @seqX_r) (And.intro @seqX_p @condX_b)) (And.intro (And.intro @block_n @block_e) (And.intro @block_r @block_p))) (And.intro (And.intro (And.intro @pickX_b @gRun_eq) (And.intro @gW_bool @gW_off)) (And.intro (And.intro @gK_some @bytesOf_map) (And.intro @ite_exn @ite_exr))))) (And.intro (And.intro (And.intro (And.intro (And.intro @ite_exg @ite_slot) (And.intro @ite_val @ite_vcl)) (And.intro (And.intro @seqX_ite @block_ite) (And.intro @fin_ite @evM_ite))) (And.intro (And.intro (And.intro @evM_e @evM_r) (And.intro @evM_p @reg_some)) (And.intro (And.intro @C_nil @C_cons) (And.intro @C_guard @consC_some)))) (And.intro (And.intro (And.intro (And.intro @consC_none @consC_ite) (And.intro @appC_some @appC_none)) (And.intro (And.intro @appC_ite @kC_some) (And.intro @kC_pan @kC_none))) (And.intro (And.intro (And.intro @kC_ite @regC_quiet) (And.intro @regC_none @regC_ite)) (And.intro (And.intro @gKC_some @gKC_ite) (And.intro @gRunC_eq @gWC_bool))))))
def EVS1 := (And.intro (And.intro (And.intro (And.intro (And.intro (And.intro @gWC_off @ite_exc) (And.intro @blockA_n @blockA_e)) (And.intro (And.intro @blockA_r @blockA_p) (And.intro @chkA_nil @chkA_cons))) (And.intro (And.intro (And.intro @pairFree_eq @emptyOp_eq) (And.intro @noWr_eq @regC_some)) (And.intro (And.intro @ite_int @ite_bool) (And.intro @ite_str @ite_lst)))) (And.intro (And.intro (And.intro (And.intro @ite_agg @ite_var) (And.intro @ite_row @ite_ref)) (And.intro (And.intro @out_tree @fin_ret) (And.intro @fin_normal @fin_panic))) (And.intro (And.intro (And.intro @s_isPan_top @s_isPan_any) (And.intro @s_isPan_int @s_isPan_bool)) (And.intro (And.intro @s_isPan_str @s_isPan_nilp) (And.intro @s_isPan_ref @s_isPan_eref))))) (And.intro (And.intro (And.intro (And.intro (And.intro @s_isPan_iptr @s_isPan_lst) (And.intro @s_isPan_sl @s_isPan_agg)) (And.intro (And.intro @s_isPan_tup @s_isPan_fn) (And.intro @s_isPan_nilm @s_isPan_map))) (And.intro (And.intro (And.intro @s_isPan_nili @s_isPan_iface) (And.intro @s_isPan_pan @s_okCell_top)) (And.intro (And.intro @s_okCell_any @s_okCell_int) (And.intro @s_okCell_bool @s_okCell_str)))) (And.intro (And.intro (And.intro (And.intro @s_okCell_nilp @s_okCell_ref) (And.intro @s_okCell_eref @s_okCell_iptr)) (And.intro (And.intro @s_okCell_lst @s_okCell_sl) (And.intro @s_okCell_agg @s_okCell_tup))) (And.intro (And.intro (And.intro @s_okCell_fn @s_okCell_nilm) (And.intro @s_okCell_map @s_okCell_nili)) (And.intro (And.intro @s_okCell_iface @s_okCell_pan) (And.intro @s_ntop_top @s_ntop_any))))))
def EVS2 := (And.intro (And.intro (And.intro (And.intro (And.intro (And.intro @s_ntop_int @s_ntop_bool) (And.intro @s_ntop_str @s_ntop_nilp)) (And.intro (And.intro @s_ntop_ref @s_ntop_eref) (And.intro @s_ntop_iptr @s_ntop_lst))) (And.intro (And.intro (And.intro @s_ntop_sl @s_ntop_agg) (And.intro @s_ntop_tup @s_ntop_fn)) (And.intro (And.intro @s_ntop_nilm @s_ntop_map) (And.intro @s_ntop_nili @s_ntop_iface)))) (And.intro (And.intro (And.intro (And.intro @s_ntop_pan @s_flat1_top) (And.intro @s_flat1_any @s_flat1_int)) (And.intro (And.intro @s_flat1_bool @s_flat1_str) (And.intro @s_flat1_nilp @s_flat1_ref))) (And.intro (And.intro (And.intro @s_flat1_eref @s_flat1_iptr) (And.intro @s_flat1_lst @s_flat1_sl)) (And.intro (And.intro @s_flat1_agg @s_flat1_tup) (And.intro @s_flat1_fn @s_flat1_nilm))))) (And.intro (And.intro (And.intro (And.intro (And.intro @s_flat1_map @s_flat1_nili) (And.intro @s_flat1_iface @s_flat1_pan)) (And.intro (And.intro @s_flat2_top @s_flat2_any) (And.intro @s_flat2_int @s_flat2_bool))) (And.intro (And.intro (And.intro @s_flat2_str @s_flat2_nilp) (And.intro @s_flat2_ref @s_flat2_eref)) (And.intro (And.intro @s_flat2_iptr @s_flat2_lst) (And.intro @s_flat2_sl @s_flat2_agg)))) (And.intro (And.intro (And.intro (And.intro @s_flat2_tup @s_flat2_fn) (And.intro @s_flat2_nilm @s_flat2_map)) (And.intro (And.intro @s_flat2_nili @s_flat2_iface) (And.intro @s_flat2_pan @s_flatA_top))) (And.intro (And.intro (And.intro @s_flatA_any @s_flatA_int) (And.intro @s_flatA_bool @s_flatA_str)) (And.intro (And.intro @s_flatA_nilp @s_flatA_ref) (And.intro @s_flatA_eref @s_flatA_iptr))))))
def EVS3 := (And.intro (And.intro (And.intro (And.intro (And.intro (And.intro @s_flatA_lst @s_flatA_sl) (And.intro @s_flatA_agg @s_flatA_tup)) (And.intro (And.intro @s_flatA_fn @s_flatA_nilm) (And.intro @s_flatA_map @s_flatA_nili))) (And.intro (And.intro (And.intro @s_flatA_iface @s_plain1_top) (And.intro @s_plain1_any @s_plain1_int)) (And.intro (And.intro @s_plain1_bool @s_plain1_str) (And.intro @s_plain1_nilp @s_plain1_ref)))) (And.intro (And.intro (And.intro (And.intro @s_plain1_eref @s_plain1_iptr) (And.intro @s_plain1_lst @s_plain1_sl)) (And.intro (And.intro @s_plain1_agg @s_plain1_tup) (And.intro @s_plain1_nilm @s_plain1_map))) (And.intro (And.intro (And.intro @s_plain1_nili @s_plain1_iface) (And.intro @s_plain1_pan @s_plainV_top)) (And.intro (And.intro @s_plainV_any @s_plainV_int) (And.intro @s_plainV_bool @s_plainV_str))))) (And.intro (And.intro (And.intro (And.intro (And.intro @s_plainV_nilp @s_plainV_ref) (And.intro @s_plainV_eref @s_plainV_iptr)) (And.intro (And.intro @s_plainV_lst @s_plainV_sl) (And.intro @s_plainV_agg @s_plainV_tup))) (And.intro (And.intro (And.intro @s_plainV_nilm @s_plainV_map) (And.intro @s_plainV_nili @s_plainV_iface)) (And.intro (And.intro @s_plainV_pan @s_norm1_top) (And.intro @s_norm1_any @s_norm1_int)))) (And.intro (And.intro (And.intro (And.intro @s_norm1_bool @s_norm1_str) (And.intro @s_norm1_nilp @s_norm1_ref)) (And.intro (And.intro @s_norm1_eref @s_norm1_iptr) (And.intro @s_norm1_lst @s_norm1_sl))) (And.intro (And.intro (And.intro @s_norm1_agg @s_norm1_tup) (And.intro @s_norm1_fn @s_norm1_nilm)) (And.intro (And.intro @s_norm1_map @s_norm1_nili) (And.intro @s_norm1_iface @s_norm1_pan))))))
def EVS4 := (And.intro (And.intro (And.intro (And.intro (And.intro (And.intro @s_normV_top @s_normV_any) (And.intro @s_normV_int @s_normV_bool)) (And.intro (And.intro @s_normV_str @s_normV_nilp) (And.intro @s_normV_ref @s_normV_eref))) (And.intro (And.intro (And.intro @s_normV_iptr @s_normV_lst) (And.intro @s_normV_sl @s_normV_agg)) (And.intro (And.intro @s_normV_tup @s_normV_fn) (And.intro @s_normV_nilm @s_normV_map)))) (And.intro (And.intro (And.intro (And.intro @s_normV_nili @s_normV_iface) (And.intro @s_normV_pan @s_cells_top)) (And.intro (And.intro @s_cells_any @s_cells_int) (And.intro @s_cells_bool @s_cells_str))) (And.intro (And.intro (And.intro @s_cells_nilp @s_cells_ref) (And.intro @s_cells_eref @s_cells_iptr)) (And.intro (And.intro @s_cells_lst @s_cells_sl) (And.intro @s_cells_agg @s_cells_tup))))) (And.intro (And.intro (And.intro (And.intro (And.intro @s_cells_fn @s_cells_nilm) (And.intro @s_cells_map @s_cells_nili)) (And.intro (And.intro @s_cells_iface @s_cells_pan) (And.intro @s_valOf_top @s_valOf_any))) (And.intro (And.intro (And.intro @s_valOf_int @s_valOf_bool) (And.intro @s_valOf_str @s_valOf_nilp)) (And.intro (And.intro @s_valOf_ref @s_valOf_eref) (And.intro @s_valOf_iptr @s_valOf_lst)))) (And.intro (And.intro (And.intro (And.intro @s_valOf_sl @s_valOf_agg) (And.intro @s_valOf_tup @s_valOf_fn)) (And.intro (And.intro @s_valOf_nilm @s_valOf_map) (And.intro @s_valOf_nili @s_valOf_iface))) (And.intro (And.intro (And.intro @s_valOf_pan @s_kindA_top) (And.intro @s_kindA_any @s_kindA_int)) (And.intro (And.intro @s_kindA_bool @s_kindA_str) (And.intro @s_kindA_nilp @s_kindA_ref))))))
def EVS5 := (And.intro (And.intro (And.intro (And.intro (And.intro (And.intro @s_kindA_eref @s_kindA_iptr) (And.intro @s_kindA_lst @s_kindA_sl)) (And.intro (And.intro @s_kindA_agg @s_kindA_tup) (And.intro @s_kindA_fn @s_kindA_nilm))) (And.intro (And.intro (And.intro @s_kindA_map @s_kindA_nili) (And.intro @s_kindA_iface @s_kindA_pan)) (And.intro (And.intro @s_refsV_top @s_refsV_any) (And.intro @s_refsV_int @s_refsV_bool)))) (And.intro (And.intro (And.intro (And.intro @s_refsV_str @s_refsV_nilp) (And.intro @s_refsV_ref @s_refsV_eref)) (And.intro (And.intro @s_refsV_iptr @s_refsV_lst) (And.intro @s_refsV_sl @s_refsV_agg))) (And.intro (And.intro (And.intro @s_refsV_tup @s_refsV_fn) (And.intro @s_refsV_nilm @s_refsV_map)) (And.intro (And.intro @s_refsV_nili @s_refsV_iface) (And.intro @s_refsV_pan @s_renV_top))))) (And.intro (And.intro (And.intro (And.intro (And.intro @s_renV_any @s_renV_int) (And.intro @s_renV_bool @s_renV_str)) (And.intro (And.intro @s_renV_nilp @s_renV_iptr) (And.intro @s_renV_lst @s_renV_agg))) (And.intro (And.intro (And.intro @s_renV_tup @s_renV_fn) (And.intro @s_renV_nilm @s_renV_nili)) (And.intro (And.intro @s_renV_iface @s_renV_pan) (And.intro @s_plain1_fn @s_plainV_fn)))) (And.intro (And.intro (And.intro (And.intro @s_flatA_pan @s_regN_some) (And.intro @s_regN_pan @s_regN_none)) (And.intro (And.intro @s_renV_ref @s_renV_map) (And.intro @s_renV_sl @s_renV_eref))) (And.intro (And.intro (And.intro @s_refsL_nil @s_refsL_cons) (And.intro @s_renL_nil @s_renL_cons)) (And.intro (And.intro @s_noRef_top @s_noRef_any) (And.intro @s_noRef_int @s_noRef_bool))))))
def EVS6 := (And.intro (And.intro (And.intro (And.intro (And.intro (And.intro @s_noRef_str @s_noRef_nilp) (And.intro @s_noRef_ref @s_noRef_eref)) (And.intro (And.intro @s_noRef_iptr @s_noRef_lst) (And.intro @s_noRef_sl @s_noRef_agg))) (And.intro (And.intro (And.intro @s_noRef_tup @s_noRef_fn) (And.intro @s_noRef_nilm @s_noRef_map)) (And.intro (And.intro @s_noRef_nili @s_noRef_iface) (And.intro @s_noRef_pan @s_nofn1_top)))) (And.intro (And.intro (And.intro (And.intro @s_nofn1_any @s_nofn1_int) (And.intro @s_nofn1_bool @s_nofn1_str)) (And.intro (And.intro @s_nofn1_nilp @s_nofn1_ref) (And.intro @s_nofn1_eref @s_nofn1_iptr))) (And.intro (And.intro (And.intro @s_nofn1_lst @s_nofn1_sl) (And.intro @s_nofn1_agg @s_nofn1_tup)) (And.intro (And.intro @s_nofn1_fn @s_nofn1_nilm) (And.intro @s_nofn1_map @s_nofn1_nili))))) (And.intro (And.intro (And.intro (And.intro (And.intro @s_nofn1_iface @s_nofn1_pan) (And.intro @s_nofnV_top @s_nofnV_any)) (And.intro (And.intro @s_nofnV_int @s_nofnV_bool) (And.intro @s_nofnV_str @s_nofnV_nilp))) (And.intro (And.intro (And.intro @s_nofnV_ref @s_nofnV_eref) (And.intro @s_nofnV_iptr @s_nofnV_lst)) (And.intro (And.intro @s_nofnV_sl @s_nofnV_agg) (And.intro @s_nofnV_tup @s_nofnV_fn)))) (And.intro (And.intro (And.intro (And.intro @s_nofnV_nilm @s_nofnV_map) (And.intro @s_nofnV_nili @s_nofnV_iface)) (And.intro (And.intro @s_nofnV_pan @s_nofnR_top) (And.intro @s_nofnR_any @s_nofnR_int))) (And.intro (And.intro (And.intro @s_nofnR_bool @s_nofnR_str) (And.intro @s_nofnR_nilp @s_nofnR_ref)) (And.intro (And.intro @s_nofnR_eref @s_nofnR_iptr) (And.intro @s_nofnR_lst @s_nofnR_sl))))))
def EVS7 := (And.intro (And.intro (And.intro (And.intro (And.intro @s_nofnR_agg (And.intro @s_nofnR_tup @s_nofnR_fn)) (And.intro (And.intro @s_nofnR_nilm @s_nofnR_map) (And.intro @s_nofnR_nili @s_nofnR_iface))) (And.intro (And.intro @s_nofnR_pan (And.intro @s_plainR_top @s_plainR_any)) (And.intro (And.intro @s_plainR_int @s_plainR_bool) (And.intro @s_plainR_str @s_plainR_nilp)))) (And.intro (And.intro (And.intro @s_plainR_ref (And.intro @s_plainR_eref @s_plainR_iptr)) (And.intro (And.intro @s_plainR_lst @s_plainR_sl) (And.intro @s_plainR_agg @s_plainR_tup))) (And.intro (And.intro (And.intro @s_plainR_nilm @s_plainR_map) (And.intro @s_plainR_nili @s_plainR_iface)) (And.intro (And.intro @s_plainR_pan @s_normR_top) (And.intro @s_normR_any @s_normR_int))))) (And.intro (And.intro (And.intro (And.intro @s_normR_bool (And.intro @s_normR_str @s_normR_nilp)) (And.intro (And.intro @s_normR_ref @s_normR_eref) (And.intro @s_normR_iptr @s_normR_lst))) (And.intro (And.intro (And.intro @s_normR_sl @s_normR_agg) (And.intro @s_normR_tup @s_normR_fn)) (And.intro (And.intro @s_normR_nilm @s_normR_map) (And.intro @s_normR_nili @s_normR_iface)))) (And.intro (And.intro (And.intro @s_normR_pan (And.intro @s_noRefL_nil @s_noRefL_cons)) (And.intro (And.intro @s_plainR_fn @s_if_and) (And.intro @s_if_or @s_if_nand))) (And.intro (And.intro (And.intro @s_if_nor @s_if_fand) (And.intro @s_if_for @s_if_fnand)) (And.intro (And.intro @s_if_fnor @out_one) (And.intro @evM_n @x_loop))))))
def EVL0 := (And.intro (And.intro (And.intro (And.intro (And.intro (And.intro @List.map_cons.{0, 0} @List.map_nil.{0, 0}) (And.intro @List.length_cons.{0} @List.length_nil.{0})) (And.intro (And.intro @List.replicate_zero.{0} @List.replicate_succ.{0}) (And.intro @List.append_nil.{0} @List.nil_append.{0}))) (And.intro (And.intro (And.intro @List.cons_append.{0} @List.getElem?_cons_zero.{0}) (And.intro @List.getElem?_cons_succ.{0} @List.set_cons_zero.{0})) (And.intro (And.intro @List.set_cons_succ.{0} @Nat.add_zero) (And.intro @Nat.zero_add @Bool.true_or)))) (And.intro (And.intro (And.intro (And.intro @Bool.false_or @Bool.or_true) (And.intro @Bool.or_false @Bool.and_true)) (And.intro (And.intro @Bool.true_and @Bool.and_self) (And.intro @Bool.and_false @Bool.false_and))) (And.intro (And.intro (And.intro @if_true.{1} @if_false.{1}) (And.intro @ite_true.{1} @ite_false.{1})) (And.intro (And.intro @Option.map_some.{0, 0} @Option.map_none.{0, 0}) (And.intro @and_self @and_true))))) (And.intro (And.intro (And.intro (And.intro (And.intro @true_and @and_false) (And.intro @false_and @true_or)) (And.intro (And.intro @or_true @false_or) (And.intro @or_false @not_true_eq_false))) (And.intro (And.intro (And.intro @not_false_eq_true @List.drop_zero.{0}) (And.intro @List.drop_succ_cons.{0} @List.take_succ_cons.{0})) (And.intro (And.intro @List.take_zero.{0} @List.all_cons.{0}) (And.intro @List.all_nil.{0} @List.isEmpty_nil.{0})))) (And.intro (And.intro (And.intro (And.intro @Bool.not_false @Bool.not_true) (And.intro @List.length_map.{0, 0} @Bool.bne_false)) (And.intro (And.intro @Bool.bne_true @List.isEmpty_cons.{0}) (And.intro @List.getD_cons_zero.{0} @List.getD_cons_succ.{0}))) (And.intro (And.intro (And.intro @List.getD_nil.{0} @List.contains_nil.{0}) (And.intro @List.range_zero @List.flatMap_cons.{0, 0})) (And.intro (And.intro @List.flatMap_nil.{0, 0} @List.zip_cons_cons.{0, 0}) (And.intro @List.zip_nil_left.{0, 0} @List.zip_nil_right.{0, 0}))))))
def EVL1 := @Nat.not_lt_zero
end Go.Proofs.YtaaflagbhneakaaDoor
namespace Go.Proofs.YtaaflagbhneakaaDoor
set_option linter.unusedSimpArgs false
set_option linter.unusedVariables false
set_option maxHeartbeats 4000000
set_option maxRecDepth 10000
/-- to a function that is handed own rows as such -/
theorem call_by {O : Oracle} {byref : Nat → Bool} {f : Nat} {args : List AVal} {r r' : AVal} (h : O f args [] = some (r, [])) (hb : byref f = true) (hr : refsL args = []) (hn : ∀ ρ : Rho, renL ρ args = args) (hv : resV 0 (some (r, [])) = some (r', [])) (hr' : ∀ site, renV (rhoBack [] [] site) r' = r') (σ : AHeap) (site own : Nat) : callG O byref σ site f own true args = some (r', σ, {}) := by
  unfold callG showIf
  rw [hb]
  simp only [if_true]
  have h1 : freezeA σ [] = σ := rfl
  rw [h1, hr]
  have h2 : reach σ 1000 [] [] = [] := rfl
  rw [h2]
  unfold callI
  simp only [List.all_nil, if_true, hn, heapOf, List.length_nil, h]
  have : askO true 0 (some (r, [])) = some (r', []) := by unfold askO; rw [if_pos rfl, hv]
  rw [this, backG_plain _ _ _ _ (hr' site)]
theorem call_norm {O : Oracle} {byref : Nat → Bool} {f : Nat} {args args' : List AVal} {r r' : AVal} (h : O f args' [] = some (r, [])) (hb : byref f = false) (hp : args.all plainV = true) (hn : args.map normV = args') (hv : resV 0 (some (r, [])) = some (r', [])) (hr : ∀ site, renV (rhoBack [] [] site) r' = r') (σ : AHeap) (site own : Nat) : callG O byref σ site f own true args = some (r', σ, {}) := by
  rw [callG_plain hb hp, hn, h]
  have : askO true 0 (some (r, [])) = some (r', []) := by
    unfold askO
    rw [if_pos rfl]; exact hv
  rw [this, backG_plain _ _ _ _ (hr site)]
def noProp (b : Bool) : AVal := .tup [.agg [.int .i64 0, .int .i64 0, .str [], .str [], .lst b []], .bool false]
theorem q_find0 (id : Int) : E 18 [.int .i64 id, .lst false []] [] = some (noProp true, []) := by
  rw [E_eq (by rfl) cf_prop_Find]
  have z0 : ((0 : Nat) : Int) = 0 := rfl
  simp -implicitDefEqProofs only [EVS0, EVS1, EVS2, EVS3, EVS4, EVS5, EVS6, EVS7, EVL0, EVL1, ite_tf, ite_ft, ite_tft, ite_ftf, ite_list, ite_tt, ite_ee, ite_nt, ite_ne, eq_self, implies_true, forall_const, exI, nsite, freeAt, execI, Opd.ev, tget, tins, tput, keepL, sitesOf, List.sum_cons, List.sum_nil, Nat.reduceAdd, Nat.reduceSub, Nat.reduceLT, Nat.reduceLeDiff, Nat.reduceEqDiff, Nat.reduceBEq, Nat.reduceMul, beq_self_eq_true, Bool.false_eq_true, ldA, stA, partA, faddrA, setAt, binA, arithA, shiftA, strA, unA, gSpan, gSkip, unG, ne_eq, Option.some.injEq, reduceCtorEq, decide_true, decide_false, elemsA, resA, resAll, resOne, enterA, decide_eq_true_eq, Bool.not_eq_true, Bool.decide_eq_true, ite_self, ↓reduceIte, noRefL, clrA, gcT, gcA, gcIds, reach, rhoOf, heapOf, idxA, genB, newGen, renB, refsB, List.contains_cons, List.range_succ, cb_prop_Find, b_prop_Find, cr_prop_Find, x_prop_Find_k0, x_prop_Find_l2, intsV, bytesV, propsV, propV, propC, bytesOf_map, evL_eq, noProp, z0, Int.lt_irrefl, fillA, AVal.cells]
theorem q_find0C (σ : AHeap) (site own : Nat) (lb : Bool) (id : Int) : callG E BY σ site 18 own true [.int .i64 id, .lst lb []] = some (noProp false, σ, {}) :=
  call_norm (q_find0 id) (by kernel_rfl) rfl rfl rfl (fun _ => rfl) _ _ _
theorem q_num0 (id n : Int) : E 19 [.lst false [], .int .i64 id, .int .i64 n] [] = some (.int .i64 n, []) := by
  rw [E_eq (by rfl) cf_conn_number]
  simp -implicitDefEqProofs only [EVS0, EVS1, EVS2, EVS3, EVS4, EVS5, EVS6, EVS7, EVL0, EVL1, ite_tf, ite_ft, ite_tft, ite_ftf, ite_list, ite_tt, ite_ee, ite_nt, ite_ne, eq_self, implies_true, forall_const, exI, nsite, freeAt, execI, Opd.ev, tget, tins, tput, keepL, sitesOf, List.sum_cons, List.sum_nil, Nat.reduceAdd, Nat.reduceSub, Nat.reduceLT, Nat.reduceLeDiff, Nat.reduceEqDiff, Nat.reduceBEq, Nat.reduceMul, beq_self_eq_true, Bool.false_eq_true, ldA, stA, partA, faddrA, setAt, binA, arithA, shiftA, strA, unA, gSpan, gSkip, unG, ne_eq, Option.some.injEq, reduceCtorEq, decide_true, decide_false, elemsA, resA, resAll, resOne, enterA, decide_eq_true_eq, Bool.not_eq_true, Bool.decide_eq_true, ite_self, ↓reduceIte, noRefL, clrA, gcT, gcA, gcIds, reach, rhoOf, heapOf, idxA, genB, newGen, renB, refsB, List.contains_cons, List.range_succ, cb_conn_number, b_conn_number, cr_conn_number, intsV, bytesV, propsV, propV, propC, bytesOf_map, q_find0C, noProp]
theorem q_num0C (σ : AHeap) (site own : Nat) (lb : Bool) (id n : Int) : callG E BY σ site 19 own true [.lst lb [], .int .i64 id, .int .i64 n] = some (.int .i64 n, σ, {}) :=
  call_norm (q_num0 id n) (by kernel_rfl) rfl rfl rfl (fun _ => rfl) _ _ _
theorem q_sec0 : E 33 [.agg [.int .i64 1, .bool true, .lst false []], .str []] [] = some (.tup [.lst true [], .bool false], []) := EV_some.2 ⟨20, by kernel_rfl⟩
theorem q_sec0C (σ : AHeap) (site own : Nat) (lb : Bool) : callG E BY σ site 33 own true [.agg [.int .i64 1, .bool true, .lst lb []], .str []] = some (.tup [.lst false [], .bool false], σ, {}) :=
  call_norm q_sec0 (by kernel_rfl) rfl rfl rfl (fun _ => rfl) _ _ _
theorem q_wakes23 : E 15 [] [] = some (.bool true, []) := EV_some.2 ⟨30, by kernel_rfl⟩
theorem q_wakes23C (σ : AHeap) (site own : Nat) : callG E BY σ site 15 own true [] = some (.bool true, σ, {}) :=
  call_norm q_wakes23 (by kernel_rfl) rfl rfl rfl (fun _ => rfl) _ _ _
/-- a name's byte -/
def orC (b : UInt8) : Int := IntKind.u8.wrap ((BitVec.ofInt IntKind.u8.bits (b.toNat : Int) ||| BitVec.ofInt IntKind.u8.bits 32).toNat : Int)
def nmB (b : UInt8) : Bool := !((decide ((b.toNat : Int) < 48) || decide ((b.toNat : Int) > 57)) && (decide (orC b < 97) || decide (orC b > 122)))
def cnameB (s : List UInt8) : Bool := s.all nmB && (decide ((s.length : Int) ≥ 1) && decide ((s.length : Int) ≤ 23))
theorem q_cnamel (s : List UInt8) (hl : s.length ≤ 9223372036854775807) : ∀ (r : List UInt8) (i : Nat), s.drop i = r → K_conn_Name_l2 0 [(8, .int .i64 i), (7, .int .i64 s.length), (6, .lst false (s.map byteV)), (0, .str s)] [] = some (.bool (r.all nmB && (decide ((s.length : Int) ≥ 1) && decide ((s.length : Int) ≤ 23))), [])
  | [], i, h => by
    have h1 := drop_nil h
    unfold K_conn_Name_l2
    rw [evL_eq]
    by_cases h2 : (s.length : Int) ≥ 1
    · simp -implicitDefEqProofs only [EVS0, EVS1, EVS2, EVS3, EVS4, EVS5, EVS6, EVS7, EVL0, EVL1, ite_tf, ite_ft, ite_tft, ite_ftf, ite_list, ite_tt, ite_ee, ite_nt, ite_ne, eq_self, implies_true, forall_const, exI, nsite, freeAt, execI, Opd.ev, tget, tins, tput, keepL, sitesOf, List.sum_cons, List.sum_nil, Nat.reduceAdd, Nat.reduceSub, Nat.reduceLT, Nat.reduceLeDiff, Nat.reduceEqDiff, Nat.reduceBEq, Nat.reduceMul, beq_self_eq_true, Bool.false_eq_true, ldA, stA, partA, faddrA, setAt, binA, arithA, shiftA, strA, unA, gSpan, gSkip, unG, ne_eq, Option.some.injEq, reduceCtorEq, decide_true, decide_false, elemsA, resA, resAll, resOne, enterA, decide_eq_true_eq, Bool.not_eq_true, Bool.decide_eq_true, ite_self, ↓reduceIte, noRefL, clrA, gcT, gcA, gcIds, reach, rhoOf, heapOf, idxA, genB, newGen, renB, refsB, List.contains_cons, List.range_succ, cb_conn_Name, b_conn_Name, cr_conn_Name, x_conn_Name_k0, x_conn_Name_l2, intsV, bytesV, propsV, propV, propC, bytesOf_map, h1, h2, List.all_nil]
    · simp -implicitDefEqProofs only [EVS0, EVS1, EVS2, EVS3, EVS4, EVS5, EVS6, EVS7, EVL0, EVL1, ite_tf, ite_ft, ite_tft, ite_ftf, ite_list, ite_tt, ite_ee, ite_nt, ite_ne, eq_self, implies_true, forall_const, exI, nsite, freeAt, execI, Opd.ev, tget, tins, tput, keepL, sitesOf, List.sum_cons, List.sum_nil, Nat.reduceAdd, Nat.reduceSub, Nat.reduceLT, Nat.reduceLeDiff, Nat.reduceEqDiff, Nat.reduceBEq, Nat.reduceMul, beq_self_eq_true, Bool.false_eq_true, ldA, stA, partA, faddrA, setAt, binA, arithA, shiftA, strA, unA, gSpan, gSkip, unG, ne_eq, Option.some.injEq, reduceCtorEq, decide_true, decide_false, elemsA, resA, resAll, resOne, enterA, decide_eq_true_eq, Bool.not_eq_true, Bool.decide_eq_true, ite_self, ↓reduceIte, noRefL, clrA, gcT, gcA, gcIds, reach, rhoOf, heapOf, idxA, genB, newGen, renB, refsB, List.contains_cons, List.range_succ, cb_conn_Name, b_conn_Name, cr_conn_Name, x_conn_Name_k0, x_conn_Name_l2, intsV, bytesV, propsV, propV, propC, bytesOf_map, h1, h2, List.all_nil]
  | b :: r, i, h => by
    have ih := q_cnamel s hl r (i + 1) (drop_at h).2.1
    have h1 : (i : Int) < s.length := by have := (drop_at h).2.2; omega
    have e1 := iad (drop_at h).1 byteV (k := 1) rfl
    have e3 := wrap_succ h1 hl
    have ho : IntKind.u8.wrap ((BitVec.ofInt IntKind.u8.bits (b.toNat : Int) ||| BitVec.ofInt IntKind.u8.bits 32).toNat : Int) = orC b := rfl
    unfold K_conn_Name_l2 at ih ⊢
    rw [evL_eq]
    rw [List.all_cons]
    have hn : nmB b = !((decide ((b.toNat : Int) < 48) || decide ((b.toNat : Int) > 57)) && (decide (orC b < 97) || decide (orC b > 122))) := rfl
    generalize orC b = z at *
    by_cases c1 : (b.toNat : Int) < 48 <;> by_cases c2 : (b.toNat : Int) > 57 <;> by_cases c3 : z < 97 <;> by_cases c4 : z > 122
    all_goals (simp only [c1, c2, c3, c4, decide_true, decide_false, Bool.or_false, Bool.or_true, Bool.and_true, Bool.and_false, Bool.not_true, Bool.not_false, Bool.or_self, Bool.and_self] at hn; rw [hn]; simp only [Bool.true_and, Bool.false_and])
    all_goals (simp -implicitDefEqProofs only [EVS0, EVS1, EVS2, EVS3, EVS4, EVS5, EVS6, EVS7, EVL0, EVL1, ite_tf, ite_ft, ite_tft, ite_ftf, ite_list, ite_tt, ite_ee, ite_nt, ite_ne, eq_self, implies_true, forall_const, exI, nsite, freeAt, execI, Opd.ev, tget, tins, tput, keepL, sitesOf, List.sum_cons, List.sum_nil, Nat.reduceAdd, Nat.reduceSub, Nat.reduceLT, Nat.reduceLeDiff, Nat.reduceEqDiff, Nat.reduceBEq, Nat.reduceMul, beq_self_eq_true, Bool.false_eq_true, ldA, stA, partA, faddrA, setAt, binA, arithA, shiftA, strA, unA, gSpan, gSkip, unG, ne_eq, Option.some.injEq, reduceCtorEq, decide_true, decide_false, elemsA, resA, resAll, resOne, enterA, decide_eq_true_eq, Bool.not_eq_true, Bool.decide_eq_true, ite_self, ↓reduceIte, noRefL, clrA, gcT, gcA, gcIds, reach, rhoOf, heapOf, idxA, genB, newGen, renB, refsB, List.contains_cons, List.range_succ, cb_conn_Name, b_conn_Name, cr_conn_Name, x_conn_Name_k0, x_conn_Name_l2, intsV, bytesV, propsV, propV, propC, bytesOf_map, h1, e1, e3, c1, c2, c3, c4, byteV, ho, gt_iff_lt])
    all_goals (first | exact ih | rfl)
theorem q_cname (s : List UInt8) (hl : s.length ≤ 9223372036854775807) : E 13 [.str s] [] = some (.bool (cnameB s), []) := by
  rw [E_eq (by rfl) cf_conn_Name]
  have := q_cnamel s hl s 0 rfl
  have z0 : ((0 : Nat) : Int) = 0 := rfl
  rw [z0] at this
  unfold K_conn_Name_l2 at this
  simp -implicitDefEqProofs only [EVS0, EVS1, EVS2, EVS3, EVS4, EVS5, EVS6, EVS7, EVL0, EVL1, ite_tf, ite_ft, ite_tft, ite_ftf, ite_list, ite_tt, ite_ee, ite_nt, ite_ne, eq_self, implies_true, forall_const, exI, nsite, freeAt, execI, Opd.ev, tget, tins, tput, keepL, sitesOf, List.sum_cons, List.sum_nil, Nat.reduceAdd, Nat.reduceSub, Nat.reduceLT, Nat.reduceLeDiff, Nat.reduceEqDiff, Nat.reduceBEq, Nat.reduceMul, beq_self_eq_true, Bool.false_eq_true, ldA, stA, partA, faddrA, setAt, binA, arithA, shiftA, strA, unA, gSpan, gSkip, unG, ne_eq, Option.some.injEq, reduceCtorEq, decide_true, decide_false, elemsA, resA, resAll, resOne, enterA, decide_eq_true_eq, Bool.not_eq_true, Bool.decide_eq_true, ite_self, ↓reduceIte, noRefL, clrA, gcT, gcA, gcIds, reach, rhoOf, heapOf, idxA, genB, newGen, renB, refsB, List.contains_cons, List.range_succ, cb_conn_Name, b_conn_Name, cr_conn_Name, x_conn_Name_k0, x_conn_Name_l2, intsV, bytesV, propsV, propV, propC, bytesOf_map, byteV]
  exact this
theorem q_cnameC (σ : AHeap) (site own : Nat) (s : List UInt8) (hl : s.length ≤ 9223372036854775807) : callG E BY σ site 13 own true [.str s] = some (.bool (cnameB s), σ, {}) :=
  call_norm (q_cname s hl) (by kernel_rfl) rfl rfl rfl (fun _ => rfl) _ _ _
def pk (s : List UInt8) (b : Bool) : AVal := .agg [.int .i64 1, .bool false, .int .i64 0, .bool false, .int .i64 0, .str [], .lst false [], .int .i64 0, .lst false [], .lst false [], .lst false [], .lst false [], .bool b, .int .i64 0, .str s, .bool false, .str [], .lst false [], .int .i64 0, .bool false, .lst false [], .bool false, .str [], .bool false, .lst false [], .bool false]
def pk0 (s : List UInt8) (b : Bool) : AVal := .agg [.int .i64 1, .bool false, .int .i64 0, .bool false, .int .i64 0, .str [], .lst true [], .int .i64 0, .lst true [], .lst true [], .lst true [], .lst true [], .bool b, .int .i64 0, .str s, .bool false, .str [], .lst true [], .int .i64 0, .bool false, .lst true [], .bool false, .str [], .bool false, .lst true [], .bool false]
def cfg0 (b : Bool) : AVal := .agg [.int .i64 1, .bool true, .lst b []]
theorem q_enter (s : List UInt8) (b : Bool) : E 35 [cfg0 false, pk s b] [] = some (.int .i64 0, []) := by
  rw [E_eq (by rfl) cf_proof_Enter]
  unfold cfg0 pk
  simp -implicitDefEqProofs only [EVS0, EVS1, EVS2, EVS3, EVS4, EVS5, EVS6, EVS7, EVL0, EVL1, ite_tf, ite_ft, ite_tft, ite_ftf, ite_list, ite_tt, ite_ee, ite_nt, ite_ne, eq_self, implies_true, forall_const, exI, nsite, freeAt, execI, Opd.ev, tget, tins, tput, keepL, sitesOf, List.sum_cons, List.sum_nil, Nat.reduceAdd, Nat.reduceSub, Nat.reduceLT, Nat.reduceLeDiff, Nat.reduceEqDiff, Nat.reduceBEq, Nat.reduceMul, beq_self_eq_true, Bool.false_eq_true, ldA, stA, partA, faddrA, setAt, binA, arithA, shiftA, strA, unA, gSpan, gSkip, unG, ne_eq, Option.some.injEq, reduceCtorEq, decide_true, decide_false, elemsA, resA, resAll, resOne, enterA, decide_eq_true_eq, Bool.not_eq_true, Bool.decide_eq_true, ite_self, ↓reduceIte, noRefL, clrA, gcT, gcA, gcIds, reach, rhoOf, heapOf, idxA, genB, newGen, renB, refsB, List.contains_cons, List.range_succ, cb_proof_Enter, b_proof_Enter, cr_proof_Enter, intsV, bytesV, propsV, propV, propC, bytesOf_map, intsV]
theorem q_enterC (σ : AHeap) (site own : Nat) (s : List UInt8) (b : Bool) : callG E BY σ site 35 own true [.agg [.int .i64 1, .bool true, .lst false []], .agg [.int .i64 1, .bool false, .int .i64 0, .bool false, .int .i64 0, .str [], .lst false [], .int .i64 0, .lst false [], .lst false [], .lst false [], .lst false [], .bool b, .int .i64 0, .str s, .bool false, .str [], .lst false [], .int .i64 0, .bool false, .lst false [], .bool false, .str [], .bool false, .lst false [], .bool false]] = some (.int .i64 0, σ, {}) :=
  call_norm (q_enter s b) (by kernel_rfl) rfl rfl rfl (fun _ => rfl) _ _ _
def codeB (s : List UInt8) (b : Bool) : Bool := (s == [] && !b) || (s != [] && !cnameB s)
theorem q_refused (s : List UInt8) (b : Bool) (hl : s.length ≤ 9223372036854775807) : E 17 [cfg0 false, pk s b] [] = some (.int .i64 (if codeB s b then 133 else 0), []) := by
  have hN := fun σ site own => q_cnameC σ site own s hl
  rw [E_eq (by rfl) cf_conn_refused]
  unfold cfg0 pk codeB
  cases s with
  | nil =>
    cases b
    · simp -implicitDefEqProofs only [EVS0, EVS1, EVS2, EVS3, EVS4, EVS5, EVS6, EVS7, EVL0, EVL1, ite_tf, ite_ft, ite_tft, ite_ftf, ite_list, ite_tt, ite_ee, ite_nt, ite_ne, eq_self, implies_true, forall_const, exI, nsite, freeAt, execI, Opd.ev, tget, tins, tput, keepL, sitesOf, List.sum_cons, List.sum_nil, Nat.reduceAdd, Nat.reduceSub, Nat.reduceLT, Nat.reduceLeDiff, Nat.reduceEqDiff, Nat.reduceBEq, Nat.reduceMul, beq_self_eq_true, Bool.false_eq_true, ldA, stA, partA, faddrA, setAt, binA, arithA, shiftA, strA, unA, gSpan, gSkip, unG, ne_eq, Option.some.injEq, reduceCtorEq, decide_true, decide_false, elemsA, resA, resAll, resOne, enterA, decide_eq_true_eq, Bool.not_eq_true, Bool.decide_eq_true, ite_self, ↓reduceIte, noRefL, clrA, gcT, gcA, gcIds, reach, rhoOf, heapOf, idxA, genB, newGen, renB, refsB, List.contains_cons, List.range_succ, cb_conn_refused, b_conn_refused, cr_conn_refused, intsV, bytesV, propsV, propV, propC, bytesOf_map, q_find0C, noProp, q_sec0C, q_enterC, bytesOf, AVal.cells, bne]
    · simp -implicitDefEqProofs only [EVS0, EVS1, EVS2, EVS3, EVS4, EVS5, EVS6, EVS7, EVL0, EVL1, ite_tf, ite_ft, ite_tft, ite_ftf, ite_list, ite_tt, ite_ee, ite_nt, ite_ne, eq_self, implies_true, forall_const, exI, nsite, freeAt, execI, Opd.ev, tget, tins, tput, keepL, sitesOf, List.sum_cons, List.sum_nil, Nat.reduceAdd, Nat.reduceSub, Nat.reduceLT, Nat.reduceLeDiff, Nat.reduceEqDiff, Nat.reduceBEq, Nat.reduceMul, beq_self_eq_true, Bool.false_eq_true, ldA, stA, partA, faddrA, setAt, binA, arithA, shiftA, strA, unA, gSpan, gSkip, unG, ne_eq, Option.some.injEq, reduceCtorEq, decide_true, decide_false, elemsA, resA, resAll, resOne, enterA, decide_eq_true_eq, Bool.not_eq_true, Bool.decide_eq_true, ite_self, ↓reduceIte, noRefL, clrA, gcT, gcA, gcIds, reach, rhoOf, heapOf, idxA, genB, newGen, renB, refsB, List.contains_cons, List.range_succ, cb_conn_refused, b_conn_refused, cr_conn_refused, intsV, bytesV, propsV, propV, propC, bytesOf_map, q_find0C, noProp, q_sec0C, q_enterC, bytesOf, AVal.cells, bne]
  | cons c t =>
    have h1 : ((c :: t : List UInt8) == []) = false := rfl
    have h2 : ((c :: t : List UInt8) != []) = true := rfl
    cases h3 : cnameB (c :: t)
    · rw [h3] at hN
      simp -implicitDefEqProofs only [EVS0, EVS1, EVS2, EVS3, EVS4, EVS5, EVS6, EVS7, EVL0, EVL1, ite_tf, ite_ft, ite_tft, ite_ftf, ite_list, ite_tt, ite_ee, ite_nt, ite_ne, eq_self, implies_true, forall_const, exI, nsite, freeAt, execI, Opd.ev, tget, tins, tput, keepL, sitesOf, List.sum_cons, List.sum_nil, Nat.reduceAdd, Nat.reduceSub, Nat.reduceLT, Nat.reduceLeDiff, Nat.reduceEqDiff, Nat.reduceBEq, Nat.reduceMul, beq_self_eq_true, Bool.false_eq_true, ldA, stA, partA, faddrA, setAt, binA, arithA, shiftA, strA, unA, gSpan, gSkip, unG, ne_eq, Option.some.injEq, reduceCtorEq, decide_true, decide_false, elemsA, resA, resAll, resOne, enterA, decide_eq_true_eq, Bool.not_eq_true, Bool.decide_eq_true, ite_self, ↓reduceIte, noRefL, clrA, gcT, gcA, gcIds, reach, rhoOf, heapOf, idxA, genB, newGen, renB, refsB, List.contains_cons, List.range_succ, cb_conn_refused, b_conn_refused, cr_conn_refused, intsV, bytesV, propsV, propV, propC, bytesOf_map, q_find0C, noProp, q_sec0C, q_enterC, bytesOf, AVal.cells, h1, h2, hN]
    · rw [h3] at hN
      simp -implicitDefEqProofs only [EVS0, EVS1, EVS2, EVS3, EVS4, EVS5, EVS6, EVS7, EVL0, EVL1, ite_tf, ite_ft, ite_tft, ite_ftf, ite_list, ite_tt, ite_ee, ite_nt, ite_ne, eq_self, implies_true, forall_const, exI, nsite, freeAt, execI, Opd.ev, tget, tins, tput, keepL, sitesOf, List.sum_cons, List.sum_nil, Nat.reduceAdd, Nat.reduceSub, Nat.reduceLT, Nat.reduceLeDiff, Nat.reduceEqDiff, Nat.reduceBEq, Nat.reduceMul, beq_self_eq_true, Bool.false_eq_true, ldA, stA, partA, faddrA, setAt, binA, arithA, shiftA, strA, unA, gSpan, gSkip, unG, ne_eq, Option.some.injEq, reduceCtorEq, decide_true, decide_false, elemsA, resA, resAll, resOne, enterA, decide_eq_true_eq, Bool.not_eq_true, Bool.decide_eq_true, ite_self, ↓reduceIte, noRefL, clrA, gcT, gcA, gcIds, reach, rhoOf, heapOf, idxA, genB, newGen, renB, refsB, List.contains_cons, List.range_succ, cb_conn_refused, b_conn_refused, cr_conn_refused, intsV, bytesV, propsV, propV, propC, bytesOf_map, q_find0C, noProp, q_sec0C, q_enterC, bytesOf, AVal.cells, h1, h2, hN]
theorem q_refusedC (σ : AHeap) (site own : Nat) (s : List UInt8) (b : Bool) (hl : s.length ≤ 9223372036854775807) : callG E BY σ site 17 own true [.agg [.int .i64 1, .bool true, .lst true []], .agg [.int .i64 1, .bool false, .int .i64 0, .bool false, .int .i64 0, .str [], .lst true [], .int .i64 0, .lst true [], .lst true [], .lst true [], .lst true [], .bool b, .int .i64 0, .str s, .bool false, .str [], .lst true [], .int .i64 0, .bool false, .lst true [], .bool false, .str [], .bool false, .lst true [], .bool false]] = some (.int .i64 (if codeB s b then 133 else 0), σ, {}) :=
  call_norm (q_refused s b hl) (by kernel_rfl) rfl rfl rfl (fun _ => rfl) _ _ _
def dealV (l : Bool) (c : List UInt8) (b : Bool) (r m : Int) : AVal := .agg [.str c, .bool b, .int .i64 0, .int .i64 0, .int .i64 r, .int .i64 m, .int .i64 0, .str [], .str [], .bool false, .str [], .lst l [], .int .i64 0, .bool false, .str [], .int .i64 0, .lst l [], .int .i64 0, .int .i64 0, .int .i64 0, .int .i64 0, .int .i64 0]
def meetV (l : Bool) (s : List UInt8) (b : Bool) (fresh : List UInt8) : AVal := if codeB s b then .tup [dealV l [] false 0 0, .int .i64 133] else .tup [dealV l (if s == [] then fresh else s) b 65535 268435460, .int .i64 0]
theorem q_meet (s fresh : List UInt8) (b : Bool) (hl : s.length ≤ 9223372036854775807) : E 9 [cfg0 true, pk0 s b, .str fresh, .int .i64 7] [] = some (meetV true s b fresh, []) := by
  have hR := fun σ site own => q_refusedC σ site own s b hl
  rw [E_eq (by rfl) cf_conn_Meet]
  unfold cfg0 pk0 meetV dealV
  cases h : codeB s b
  · rw [h] at hR
    simp only [Bool.false_eq_true, if_false] at hR ⊢
    have hz : ((0 : Int) != 0) = false := rfl
    cases h2 : (s == [])
    · simp -implicitDefEqProofs only [EVS0, EVS1, EVS2, EVS3, EVS4, EVS5, EVS6, EVS7, EVL0, EVL1, ite_tf, ite_ft, ite_tft, ite_ftf, ite_list, ite_tt, ite_ee, ite_nt, ite_ne, eq_self, implies_true, forall_const, exI, nsite, freeAt, execI, Opd.ev, tget, tins, tput, keepL, sitesOf, List.sum_cons, List.sum_nil, Nat.reduceAdd, Nat.reduceSub, Nat.reduceLT, Nat.reduceLeDiff, Nat.reduceEqDiff, Nat.reduceBEq, Nat.reduceMul, beq_self_eq_true, Bool.false_eq_true, ldA, stA, partA, faddrA, setAt, binA, arithA, shiftA, strA, unA, gSpan, gSkip, unG, ne_eq, Option.some.injEq, reduceCtorEq, decide_true, decide_false, elemsA, resA, resAll, resOne, enterA, decide_eq_true_eq, Bool.not_eq_true, Bool.decide_eq_true, ite_self, ↓reduceIte, noRefL, clrA, gcT, gcA, gcIds, reach, rhoOf, heapOf, idxA, genB, newGen, renB, refsB, List.contains_cons, List.range_succ, cb_conn_Meet, b_conn_Meet, cr_conn_Meet, intsV, bytesV, propsV, propV, propC, bytesOf_map, hR, q_find0C, noProp, q_num0C, h2, hz, fillA, setAt, AVal.cells]
    · simp -implicitDefEqProofs only [EVS0, EVS1, EVS2, EVS3, EVS4, EVS5, EVS6, EVS7, EVL0, EVL1, ite_tf, ite_ft, ite_tft, ite_ftf, ite_list, ite_tt, ite_ee, ite_nt, ite_ne, eq_self, implies_true, forall_const, exI, nsite, freeAt, execI, Opd.ev, tget, tins, tput, keepL, sitesOf, List.sum_cons, List.sum_nil, Nat.reduceAdd, Nat.reduceSub, Nat.reduceLT, Nat.reduceLeDiff, Nat.reduceEqDiff, Nat.reduceBEq, Nat.reduceMul, beq_self_eq_true, Bool.false_eq_true, ldA, stA, partA, faddrA, setAt, binA, arithA, shiftA, strA, unA, gSpan, gSkip, unG, ne_eq, Option.some.injEq, reduceCtorEq, decide_true, decide_false, elemsA, resA, resAll, resOne, enterA, decide_eq_true_eq, Bool.not_eq_true, Bool.decide_eq_true, ite_self, ↓reduceIte, noRefL, clrA, gcT, gcA, gcIds, reach, rhoOf, heapOf, idxA, genB, newGen, renB, refsB, List.contains_cons, List.range_succ, cb_conn_Meet, b_conn_Meet, cr_conn_Meet, intsV, bytesV, propsV, propV, propC, bytesOf_map, hR, q_find0C, noProp, q_num0C, h2, hz, fillA, setAt, AVal.cells]
  · rw [h] at hR
    simp only [if_true] at hR ⊢
    have hz : ((133 : Int) != 0) = true := rfl
    simp -implicitDefEqProofs only [EVS0, EVS1, EVS2, EVS3, EVS4, EVS5, EVS6, EVS7, EVL0, EVL1, ite_tf, ite_ft, ite_tft, ite_ftf, ite_list, ite_tt, ite_ee, ite_nt, ite_ne, eq_self, implies_true, forall_const, exI, nsite, freeAt, execI, Opd.ev, tget, tins, tput, keepL, sitesOf, List.sum_cons, List.sum_nil, Nat.reduceAdd, Nat.reduceSub, Nat.reduceLT, Nat.reduceLeDiff, Nat.reduceEqDiff, Nat.reduceBEq, Nat.reduceMul, beq_self_eq_true, Bool.false_eq_true, ldA, stA, partA, faddrA, setAt, binA, arithA, shiftA, strA, unA, gSpan, gSkip, unG, ne_eq, Option.some.injEq, reduceCtorEq, decide_true, decide_false, elemsA, resA, resAll, resOne, enterA, decide_eq_true_eq, Bool.not_eq_true, Bool.decide_eq_true, ite_self, ↓reduceIte, noRefL, clrA, gcT, gcA, gcIds, reach, rhoOf, heapOf, idxA, genB, newGen, renB, refsB, List.contains_cons, List.range_succ, cb_conn_Meet, b_conn_Meet, cr_conn_Meet, intsV, bytesV, propsV, propV, propC, bytesOf_map, hR, hz, fillA, setAt, AVal.cells]
theorem q_meetC (σ : AHeap) (site own : Nat) (s fresh : List UInt8) (b : Bool) (hl : s.length ≤ 9223372036854775807) : callG E BY σ site 9 own true [.agg [.int .i64 1, .bool true, .lst true []], .agg [.int .i64 1, .bool false, .int .i64 0, .bool false, .int .i64 0, .str [], .lst true [], .int .i64 0, .lst true [], .lst true [], .lst true [], .lst true [], .bool b, .int .i64 0, .str s, .bool false, .str [], .lst true [], .int .i64 0, .bool false, .lst true [], .bool false, .str [], .bool false, .lst true [], .bool false], .str fresh, .int .i64 7] = some (meetV false s b fresh, σ, {}) := by
  have h := q_meet s fresh b hl
  unfold meetV at h ⊢
  cases hc : codeB s b
  · rw [hc] at h
    simp only [Bool.false_eq_true, if_false] at h ⊢
    exact call_by h (by kernel_rfl) rfl (fun _ => rfl) rfl (fun _ => rfl) _ _ _
  · rw [hc] at h
    simp only [if_true] at h ⊢
    exact call_by h (by kernel_rfl) rfl (fun _ => rfl) rfl (fun _ => rfl) _ _ _
theorem q_names (s fresh : List UInt8) (b : Bool) (hl : s.length ≤ 9223372036854775807) : E 4 [.str s, .bool b, .str fresh] [] = some (.bool true, []) := by
  have hM := fun σ site own => q_meetC σ site own s fresh b hl
  have hN := fun σ site own => q_cnameC σ site own s hl
  rw [E_eq (by rfl) cf_tidingslaw23_ConnNames]
  unfold meetV dealV codeB at hM
  cases s with
  | nil =>
    cases b
    · have e : ((([] : List UInt8) == []) && !false || (([] : List UInt8) != []) && !cnameB []) = true := rfl
      rw [e] at hM
      simp only [if_true] at hM
      simp -implicitDefEqProofs only [EVS0, EVS1, EVS2, EVS3, EVS4, EVS5, EVS6, EVS7, EVL0, EVL1, ite_tf, ite_ft, ite_tft, ite_ftf, ite_list, ite_tt, ite_ee, ite_nt, ite_ne, eq_self, implies_true, forall_const, exI, nsite, freeAt, execI, Opd.ev, tget, tins, tput, keepL, sitesOf, List.sum_cons, List.sum_nil, Nat.reduceAdd, Nat.reduceSub, Nat.reduceLT, Nat.reduceLeDiff, Nat.reduceEqDiff, Nat.reduceBEq, Nat.reduceMul, beq_self_eq_true, Bool.false_eq_true, ldA, stA, partA, faddrA, setAt, binA, arithA, shiftA, strA, unA, gSpan, gSkip, unG, ne_eq, Option.some.injEq, reduceCtorEq, decide_true, decide_false, elemsA, resA, resAll, resOne, enterA, decide_eq_true_eq, Bool.not_eq_true, Bool.decide_eq_true, ite_self, ↓reduceIte, noRefL, clrA, gcT, gcA, gcIds, reach, rhoOf, heapOf, idxA, genB, newGen, renB, refsB, List.contains_cons, List.range_succ, cb_tidingslaw23_ConnNames, b_tidingslaw23_ConnNames, cr_tidingslaw23_ConnNames, intsV, bytesV, propsV, propV, propC, bytesOf_map, hM, q_wakes23C, fillA, setAt, AVal.cells]
    · have e : ((([] : List UInt8) == []) && !true || (([] : List UInt8) != []) && !cnameB []) = false := rfl
      rw [e] at hM
      simp only [Bool.false_eq_true, if_false] at hM
      simp -implicitDefEqProofs only [EVS0, EVS1, EVS2, EVS3, EVS4, EVS5, EVS6, EVS7, EVL0, EVL1, ite_tf, ite_ft, ite_tft, ite_ftf, ite_list, ite_tt, ite_ee, ite_nt, ite_ne, eq_self, implies_true, forall_const, exI, nsite, freeAt, execI, Opd.ev, tget, tins, tput, keepL, sitesOf, List.sum_cons, List.sum_nil, Nat.reduceAdd, Nat.reduceSub, Nat.reduceLT, Nat.reduceLeDiff, Nat.reduceEqDiff, Nat.reduceBEq, Nat.reduceMul, beq_self_eq_true, Bool.false_eq_true, ldA, stA, partA, faddrA, setAt, binA, arithA, shiftA, strA, unA, gSpan, gSkip, unG, ne_eq, Option.some.injEq, reduceCtorEq, decide_true, decide_false, elemsA, resA, resAll, resOne, enterA, decide_eq_true_eq, Bool.not_eq_true, Bool.decide_eq_true, ite_self, ↓reduceIte, noRefL, clrA, gcT, gcA, gcIds, reach, rhoOf, heapOf, idxA, genB, newGen, renB, refsB, List.contains_cons, List.range_succ, cb_tidingslaw23_ConnNames, b_tidingslaw23_ConnNames, cr_tidingslaw23_ConnNames, intsV, bytesV, propsV, propV, propC, bytesOf_map, hM, q_wakes23C, fillA, setAt, AVal.cells]
  | cons c t =>
    have h1 : ((c :: t : List UInt8) == []) = false := rfl
    have h2 : ((c :: t : List UInt8) != []) = true := rfl
    cases h3 : cnameB (c :: t)
    · rw [h3] at hN
      rw [h1, h2, h3] at hM
      simp only [Bool.false_and, Bool.true_and, Bool.not_false, Bool.false_or, if_true] at hM
      simp -implicitDefEqProofs only [EVS0, EVS1, EVS2, EVS3, EVS4, EVS5, EVS6, EVS7, EVL0, EVL1, ite_tf, ite_ft, ite_tft, ite_ftf, ite_list, ite_tt, ite_ee, ite_nt, ite_ne, eq_self, implies_true, forall_const, exI, nsite, freeAt, execI, Opd.ev, tget, tins, tput, keepL, sitesOf, List.sum_cons, List.sum_nil, Nat.reduceAdd, Nat.reduceSub, Nat.reduceLT, Nat.reduceLeDiff, Nat.reduceEqDiff, Nat.reduceBEq, Nat.reduceMul, beq_self_eq_true, Bool.false_eq_true, ldA, stA, partA, faddrA, setAt, binA, arithA, shiftA, strA, unA, gSpan, gSkip, unG, ne_eq, Option.some.injEq, reduceCtorEq, decide_true, decide_false, elemsA, resA, resAll, resOne, enterA, decide_eq_true_eq, Bool.not_eq_true, Bool.decide_eq_true, ite_self, ↓reduceIte, noRefL, clrA, gcT, gcA, gcIds, reach, rhoOf, heapOf, idxA, genB, newGen, renB, refsB, List.contains_cons, List.range_succ, cb_tidingslaw23_ConnNames, b_tidingslaw23_ConnNames, cr_tidingslaw23_ConnNames, intsV, bytesV, propsV, propV, propC, bytesOf_map, hM, hN, h1, h2, q_wakes23C, fillA, setAt, AVal.cells]
    · rw [h3] at hN
      rw [h1, h2, h3] at hM
      simp only [Bool.false_and, Bool.true_and, Bool.not_true, Bool.false_or, Bool.false_eq_true, if_false] at hM
      simp -implicitDefEqProofs only [EVS0, EVS1, EVS2, EVS3, EVS4, EVS5, EVS6, EVS7, EVL0, EVL1, ite_tf, ite_ft, ite_tft, ite_ftf, ite_list, ite_tt, ite_ee, ite_nt, ite_ne, eq_self, implies_true, forall_const, exI, nsite, freeAt, execI, Opd.ev, tget, tins, tput, keepL, sitesOf, List.sum_cons, List.sum_nil, Nat.reduceAdd, Nat.reduceSub, Nat.reduceLT, Nat.reduceLeDiff, Nat.reduceEqDiff, Nat.reduceBEq, Nat.reduceMul, beq_self_eq_true, Bool.false_eq_true, ldA, stA, partA, faddrA, setAt, binA, arithA, shiftA, strA, unA, gSpan, gSkip, unG, ne_eq, Option.some.injEq, reduceCtorEq, decide_true, decide_false, elemsA, resA, resAll, resOne, enterA, decide_eq_true_eq, Bool.not_eq_true, Bool.decide_eq_true, ite_self, ↓reduceIte, noRefL, clrA, gcT, gcA, gcIds, reach, rhoOf, heapOf, idxA, genB, newGen, renB, refsB, List.contains_cons, List.range_succ, cb_tidingslaw23_ConnNames, b_tidingslaw23_ConnNames, cr_tidingslaw23_ConnNames, intsV, bytesV, propsV, propV, propC, bytesOf_map, hM, hN, h1, h2, q_wakes23C, fillA, setAt, AVal.cells]
end Go.Proofs.YtaaflagbhneakaaDoor
namespace Go.Proofs.YtaaflagbhneakaaDoor
set_option linter.unusedSimpArgs false
set_option linter.unusedVariables false
theorem callG_norm {O : Oracle} {byref : Nat → Bool} {σ : AHeap} {site f own : Nat} {view : Bool} {args : List AVal} (h : args.all plainV = true) (hm : args.map normV = args) :
    callG O byref σ site f own view args = backG σ σ [] [] site own (askO view 0 (O f args [])) := by
  cases hb : byref f
  · rw [callG_plain hb h, hm]
  · have hr := normVs_refs h
    have hn := fun ρ => normVs_ren (ρ := ρ) h
    rw [hm] at hr
    simp only [hm] at hn
    unfold callG showIf
    rw [hb]
    simp only [if_true]
    have h1 : freezeA σ [] = σ := rfl
    rw [h1, hr]
    have h2 : reach σ 1000 [] [] = [] := rfl
    rw [h2]
    unfold callI
    simp only [List.all_nil, if_true, hn, heapOf, List.length_nil]
theorem call_rown {O : Oracle} {byref : Nat → Bool} {f : Nat} {args : List AVal} {k n : Nat} {xs : List AVal} (h : O f args [] = some (.sl 0 0 0 n, [.row 0 k xs])) (hn : xs.length = n) (hp : args.all plainV = true) (hm : args.map normV = args) (σ : AHeap) (site own : Nat) : callG O byref σ site f own true args = some (.lst false xs, σ, {}) := by
  rw [callG_norm hp hm, h]
  have : askO true 0 (some (.sl 0 0 0 n, [.row 0 k xs])) = some (.lst false xs, []) := by
    unfold askO
    rw [if_pos rfl, resV_row (k := k) (g := 0) (t := 0) (xs := xs) rfl (by omega), List.take_of_length_le (by omega)]
  rw [this, backG_plain _ _ _ _ rfl]
/-- the answer is a new row: the caller's own, if it wants it so -/
theorem call_own {O : Oracle} {byref : Nat → Bool} {f : Nat} {args : List AVal} {k n : Nat} {xs : List AVal} (h : O f args [] = some (.sl 0 0 0 n, [.row 0 k xs])) (hp : args.all plainV = true) (hm : args.map normV = args) (σ : AHeap) (site : Nat) (hs : freeAt σ site = true) : callG O byref σ site f 1 false args = some (.sl site 0 0 n, σ.set site (.row 0 k xs), if xs.all flat2 then {} else { any := true }) := by
  rw [callG_norm hp hm, h]
  cases hx : xs.all flat2 <;> simp [askO, backG, cloneR, hx, okBack, okB, genB, freeFrom, hs, renV, rhoBack, layBack, tgtBack, genBack, renB]
/-- own rows are shown; a plain answer -/
theorem call_shown {O : Oracle} {byref : Nat → Bool} {σ : AHeap} {f : Nat} {args vs : List AVal} {ts : List Nat} {r r' : AVal} (hb : byref f = false) (hsh : showAs σ args = some (vs, ts)) (hp : vs.all plainV = true) (hm : vs.map normV = vs) (h : O f vs [] = some (r, [])) (hv : resV 0 (some (r, [])) = some (r', [])) (site own : Nat) :
    callG O byref σ site f own true args = if flatA r' then some (r', σ, { rd := ts }) else some (renV (rhoBack [] [] site) r', freezeA σ ts, { rd := ts, wr := ts }) := by
  have hr := normVs_refs hp
  have hn := fun ρ => normVs_ren (ρ := ρ) hp
  rw [hm] at hr
  simp only [hm] at hn
  unfold callG showIf
  rw [hb]
  simp only [Bool.false_eq_true, if_false, hsh]
  rw [hr]
  have h2 : ∀ σ, reach σ 1000 [] [] = [] := fun _ => rfl
  rw [h2]
  unfold callI
  simp only [List.all_nil, if_true, hn, heapOf, List.length_nil, h]
  have : askO true 0 (some (r, [])) = some (r', []) := by unfold askO; rw [if_pos rfl, hv]
  rw [this]
  simp only [backG, List.isEmpty_nil, Bool.and_self, if_true]
theorem call_shown_flat {O : Oracle} {byref : Nat → Bool} {σ : AHeap} {f : Nat} {args vs : List AVal} {ts : List Nat} {r r' : AVal} (hb : byref f = false) (hsh : showAs σ args = some (vs, ts)) (hp : vs.all plainV = true) (hm : vs.map normV = vs) (h : O f vs [] = some (r, [])) (hv : resV 0 (some (r, [])) = some (r', [])) (hf : flatA r' = true) (site own : Nat) :
    callG O byref σ site f own true args = some (r', σ, { rd := ts }) := by
  rw [call_shown hb hsh hp hm h hv, if_pos hf]
theorem call_shown_tree {O : Oracle} {byref : Nat → Bool} {σ : AHeap} {f : Nat} {args vs : List AVal} {ts : List Nat} {r r' : AVal} (hb : byref f = false) (hsh : showAs σ args = some (vs, ts)) (hp : vs.all plainV = true) (hm : vs.map normV = vs) (h : O f vs [] = some (r, [])) (hv : resV 0 (some (r, [])) = some (r', [])) (hf : flatA r' = false) (hr : ∀ site, renV (rhoBack [] [] site) r' = r') (site own : Nat) :
    callG O byref σ site f own true args = some (r', freezeA σ ts, { rd := ts, wr := ts }) := by
  rw [call_shown hb hsh hp hm h hv, hf, if_neg (by simp), hr]
end Go.Proofs.YtaaflagbhneakaaDoor
namespace Go.Proofs.YtaaflagbhneakaaDoor
set_option linter.unusedSimpArgs false
set_option linter.unusedVariables false
set_option maxHeartbeats 4000000
set_option maxRecDepth 10000
theorem kOk_bytes (l : Bytes) : kOk 1 (l.map byteV) = true := by cases l <;> rfl
theorem q_cloneB (l : Bytes) (h : l.length ≤ 140737488355328) : E 38 [.lst false (l.map byteV)] [] = some (.sl 0 0 0 (l.map byteV).length, [.row 0 1 (l.map byteV)]) := by
  refine EV_some.2 ⟨1, ?_⟩
  show clonePrim 1 1 [.lst false (l.map byteV)] [] = _
  have h1 : (l.map byteV).length * 1 ≤ 140737488355328 ∧ kOk 1 (l.map byteV) = true := ⟨by simpa using h, kOk_bytes l⟩
  simp only [clonePrim, elemsA]
  rw [if_pos h1]; rfl
theorem q_cloneBC (σ : AHeap) (site own : Nat) (l : Bytes) (h : l.length ≤ 140737488355328) : callG E BY σ site 38 own true [.lst false (l.map byteV)] = some (.lst false (l.map byteV), σ, {}) :=
  call_rown (byref := BY) (q_cloneB l h) rfl rfl rfl σ site own
theorem q_copied (p : PropD) (h : p.data.length ≤ 140737488355328) : E 36 [propV p] [] = some (propV p, []) := by
  have hC := fun σ site own => q_cloneBC σ site own p.data h
  rw [E_eq (by rfl) cf_prop_copied]
  simp -implicitDefEqProofs only [EVS0, EVS1, EVS2, EVS3, EVS4, EVS5, EVS6, EVS7, EVL0, EVL1, ite_tf, ite_ft, ite_tft, ite_ftf, ite_list, ite_tt, ite_ee, ite_nt, ite_ne, eq_self, implies_true, forall_const, exI, nsite, freeAt, execI, Opd.ev, tget, tins, tput, keepL, sitesOf, List.sum_cons, List.sum_nil, Nat.reduceAdd, Nat.reduceSub, Nat.reduceLT, Nat.reduceLeDiff, Nat.reduceEqDiff, Nat.reduceBEq, Nat.reduceMul, beq_self_eq_true, Bool.false_eq_true, ldA, stA, partA, faddrA, setAt, binA, arithA, shiftA, strA, unA, gSpan, gSkip, unG, ne_eq, Option.some.injEq, reduceCtorEq, decide_true, decide_false, elemsA, resA, resAll, resOne, enterA, decide_eq_true_eq, Bool.not_eq_true, Bool.decide_eq_true, ite_self, ↓reduceIte, noRefL, clrA, gcT, gcA, gcIds, reach, rhoOf, heapOf, idxA, genB, newGen, renB, refsB, List.contains_cons, List.range_succ, cb_prop_copied, b_prop_copied, cr_prop_copied, intsV, bytesV, propsV, propV, propC, bytesOf_map, hC]
theorem q_copiedC (σ : AHeap) (site own : Nat) (p : PropD) (h : p.data.length ≤ 140737488355328) : callG E BY σ site 36 own true [.agg [.int .i64 p.id, .int .i64 p.num, .str p.text, .str p.pair, .lst false (p.data.map byteV)]] = some (.agg [.int .i64 p.id, .int .i64 p.num, .str p.text, .str p.pair, .lst false (p.data.map byteV)], σ, {}) :=
  call_flat (q_copied p h) (by kernel_rfl) (by simp -implicitDefEqProofs only [EVS0, EVS1, EVS2, EVS3, EVS4, EVS5, EVS6, EVS7, EVL0, EVL1, eq_self, implies_true, Bool.false_eq_true, intsV, bytesV, propsV, propV, propC, intsV]) (by simp -implicitDefEqProofs only [EVS0, EVS1, EVS2, EVS3, EVS4, EVS5, EVS6, EVS7, EVL0, EVL1, eq_self, implies_true, Bool.false_eq_true, intsV, bytesV, propsV, propV, propC, intsV]) rfl (fun _ => rfl) _ _ _ _
def findV (id : Int) : List PropD → AVal
  | [] => noProp true
  | p :: r => if p.id == id then .tup [propV p, .bool true] else findV id r
theorem q_findl (l : List PropD) (hl : l.length ≤ 9223372036854775807) (hd : ∀ p ∈ l, p.data.length ≤ 140737488355328) (id : Int) : ∀ (r : List PropD) (i : Nat), l.drop i = r →
    K_prop_Find_l2 0 [(10, .int .i64 i), (9, .int .i64 l.length), (8, .lst false (l.map propV)), (4, .ref 0 0), (0, .int .i64 id)] [.var [.int .i64 0, .int .i64 0, .str [], .str [], .lst true []]] = some (findV id r, [])
  | [], i, h => by
    have h1 := drop_nil h
    unfold K_prop_Find_l2
    rw [evL_eq, findV]
    simp -implicitDefEqProofs only [EVS0, EVS1, EVS2, EVS3, EVS4, EVS5, EVS6, EVS7, EVL0, EVL1, ite_tf, ite_ft, ite_tft, ite_ftf, ite_list, ite_tt, ite_ee, ite_nt, ite_ne, eq_self, implies_true, forall_const, exI, nsite, freeAt, execI, Opd.ev, tget, tins, tput, keepL, sitesOf, List.sum_cons, List.sum_nil, Nat.reduceAdd, Nat.reduceSub, Nat.reduceLT, Nat.reduceLeDiff, Nat.reduceEqDiff, Nat.reduceBEq, Nat.reduceMul, beq_self_eq_true, Bool.false_eq_true, ldA, stA, partA, faddrA, setAt, binA, arithA, shiftA, strA, unA, gSpan, gSkip, unG, ne_eq, Option.some.injEq, reduceCtorEq, decide_true, decide_false, elemsA, resA, resAll, resOne, enterA, decide_eq_true_eq, Bool.not_eq_true, Bool.decide_eq_true, ite_self, ↓reduceIte, noRefL, clrA, gcT, gcA, gcIds, reach, rhoOf, heapOf, idxA, genB, newGen, renB, refsB, List.contains_cons, List.range_succ, cb_prop_Find, b_prop_Find, cr_prop_Find, x_prop_Find_k0, x_prop_Find_l2, intsV, bytesV, propsV, propV, propC, bytesOf_map, h1, noProp, fillA, AVal.cells]
  | p :: r, i, h => by
    have ih := q_findl l hl hd id r (i + 1) (drop_at h).2.1
    have h1 : (i : Int) < l.length := by have := (drop_at h).2.2; omega
    have e1 := iad (drop_at h).1 propV (k := 5) rfl
    have e3 := wrap_succ h1 hl
    have hC := fun σ site own => q_copiedC σ site own p (hd p (List.mem_of_getElem? (drop_at h).1))
    unfold K_prop_Find_l2 at ih ⊢
    rw [evL_eq, findV]
    cases hb : (p.id == id)
    · simp -implicitDefEqProofs only [EVS0, EVS1, EVS2, EVS3, EVS4, EVS5, EVS6, EVS7, EVL0, EVL1, ite_tf, ite_ft, ite_tft, ite_ftf, ite_list, ite_tt, ite_ee, ite_nt, ite_ne, eq_self, implies_true, forall_const, exI, nsite, freeAt, execI, Opd.ev, tget, tins, tput, keepL, sitesOf, List.sum_cons, List.sum_nil, Nat.reduceAdd, Nat.reduceSub, Nat.reduceLT, Nat.reduceLeDiff, Nat.reduceEqDiff, Nat.reduceBEq, Nat.reduceMul, beq_self_eq_true, Bool.false_eq_true, ldA, stA, partA, faddrA, setAt, binA, arithA, shiftA, strA, unA, gSpan, gSkip, unG, ne_eq, Option.some.injEq, reduceCtorEq, decide_true, decide_false, elemsA, resA, resAll, resOne, enterA, decide_eq_true_eq, Bool.not_eq_true, Bool.decide_eq_true, ite_self, ↓reduceIte, noRefL, clrA, gcT, gcA, gcIds, reach, rhoOf, heapOf, idxA, genB, newGen, renB, refsB, List.contains_cons, List.range_succ, cb_prop_Find, b_prop_Find, cr_prop_Find, x_prop_Find_k0, x_prop_Find_l2, intsV, bytesV, propsV, propV, propC, bytesOf_map, h1, e1, e3, hb]
      exact ih
    · simp -implicitDefEqProofs only [EVS0, EVS1, EVS2, EVS3, EVS4, EVS5, EVS6, EVS7, EVL0, EVL1, ite_tf, ite_ft, ite_tft, ite_ftf, ite_list, ite_tt, ite_ee, ite_nt, ite_ne, eq_self, implies_true, forall_const, exI, nsite, freeAt, execI, Opd.ev, tget, tins, tput, keepL, sitesOf, List.sum_cons, List.sum_nil, Nat.reduceAdd, Nat.reduceSub, Nat.reduceLT, Nat.reduceLeDiff, Nat.reduceEqDiff, Nat.reduceBEq, Nat.reduceMul, beq_self_eq_true, Bool.false_eq_true, ldA, stA, partA, faddrA, setAt, binA, arithA, shiftA, strA, unA, gSpan, gSkip, unG, ne_eq, Option.some.injEq, reduceCtorEq, decide_true, decide_false, elemsA, resA, resAll, resOne, enterA, decide_eq_true_eq, Bool.not_eq_true, Bool.decide_eq_true, ite_self, ↓reduceIte, noRefL, clrA, gcT, gcA, gcIds, reach, rhoOf, heapOf, idxA, genB, newGen, renB, refsB, List.contains_cons, List.range_succ, cb_prop_Find, b_prop_Find, cr_prop_Find, x_prop_Find_k0, x_prop_Find_l2, intsV, bytesV, propsV, propV, propC, bytesOf_map, h1, e1, e3, hb, hC]
theorem q_find (l : List PropD) (hl : l.length ≤ 9223372036854775807) (hd : ∀ p ∈ l, p.data.length ≤ 140737488355328) (id : Int) : E 18 [.int .i64 id, propsV l] [] = some (findV id l, []) := by
  have := q_findl l hl hd id l 0 rfl
  have z0 : ((0 : Nat) : Int) = 0 := rfl
  rw [z0] at this
  unfold K_prop_Find_l2 at this
  rw [E_eq (by rfl) cf_prop_Find]
  simp -implicitDefEqProofs only [EVS0, EVS1, EVS2, EVS3, EVS4, EVS5, EVS6, EVS7, EVL0, EVL1, ite_tf, ite_ft, ite_tft, ite_ftf, ite_list, ite_tt, ite_ee, ite_nt, ite_ne, eq_self, implies_true, forall_const, exI, nsite, freeAt, execI, Opd.ev, tget, tins, tput, keepL, sitesOf, List.sum_cons, List.sum_nil, Nat.reduceAdd, Nat.reduceSub, Nat.reduceLT, Nat.reduceLeDiff, Nat.reduceEqDiff, Nat.reduceBEq, Nat.reduceMul, beq_self_eq_true, Bool.false_eq_true, ldA, stA, partA, faddrA, setAt, binA, arithA, shiftA, strA, unA, gSpan, gSkip, unG, ne_eq, Option.some.injEq, reduceCtorEq, decide_true, decide_false, elemsA, resA, resAll, resOne, enterA, decide_eq_true_eq, Bool.not_eq_true, Bool.decide_eq_true, ite_self, ↓reduceIte, noRefL, clrA, gcT, gcA, gcIds, reach, rhoOf, heapOf, idxA, genB, newGen, renB, refsB, List.contains_cons, List.range_succ, cb_prop_Find, b_prop_Find, cr_prop_Find, x_prop_Find_k0, x_prop_Find_l2, intsV, bytesV, propsV, propV, propC, bytesOf_map, intsV]
  exact this
end Go.Proofs.YtaaflagbhneakaaDoor
namespace Go.Proofs.YtaaflagbhneakaaDoor
set_option linter.unusedSimpArgs false
set_option linter.unusedVariables false
set_option maxHeartbeats 4000000
set_option maxRecDepth 10000
def findP (id : Int) (l : List PropD) : Option PropD := l.find? (fun p => p.id == id)
def fndV (b : Bool) : Option PropD → AVal
  | none => noProp b
  | some p => .tup [propV p, .bool true]
theorem findV_eq (id : Int) : ∀ l : List PropD, findV id l = fndV true (findP id l)
  | [] => rfl
  | p :: r => by
    have ih := findV_eq id r
    unfold findP at ih ⊢
    rw [findV, List.find?_cons]
    cases h : (p.id == id)
    · simpa using ih
    · rfl
theorem q_findC (σ : AHeap) (site own : Nat) (l : List PropD) (hl : l.length ≤ 9223372036854775807) (hd : ∀ p ∈ l, p.data.length ≤ 140737488355328) (id : Int) : callG E BY σ site 18 own true [.int .i64 id, .lst false (l.map propV)] = some (fndV false (findP id l), σ, {}) := by
  have h := q_find l hl hd id
  rw [findV_eq] at h
  cases hf : findP id l with
  | none => rw [hf] at h; exact call_norm h (by kernel_rfl) rfl rfl rfl (fun _ => rfl) σ site own
  | some p =>
    rw [hf] at h
    exact call_norm h (by kernel_rfl) rfl rfl rfl (fun _ => rfl) σ site own
theorem q_rfindl (l : List PropD) (hl : l.length ≤ 9223372036854775807) (id : Int) : ∀ (r : List PropD) (i : Nat), l.drop i = r →
    K_tidingsref11_Find_l2 0 [(6, .int .i64 i), (4, .ref 0 0), (1, .lst false (l.map propV)), (0, .int .i64 id)] [.var [.int .i64 0, .int .i64 0, .str [], .str [], .lst true []]] = some (findV id r, [])
  | [], i, h => by
    have h1 := drop_nil h
    unfold K_tidingsref11_Find_l2
    rw [evL_eq, findV]
    simp -implicitDefEqProofs only [EVS0, EVS1, EVS2, EVS3, EVS4, EVS5, EVS6, EVS7, EVL0, EVL1, ite_tf, ite_ft, ite_tft, ite_ftf, ite_list, ite_tt, ite_ee, ite_nt, ite_ne, eq_self, implies_true, forall_const, exI, nsite, freeAt, execI, Opd.ev, tget, tins, tput, keepL, sitesOf, List.sum_cons, List.sum_nil, Nat.reduceAdd, Nat.reduceSub, Nat.reduceLT, Nat.reduceLeDiff, Nat.reduceEqDiff, Nat.reduceBEq, Nat.reduceMul, beq_self_eq_true, Bool.false_eq_true, ldA, stA, partA, faddrA, setAt, binA, arithA, shiftA, strA, unA, gSpan, gSkip, unG, ne_eq, Option.some.injEq, reduceCtorEq, decide_true, decide_false, elemsA, resA, resAll, resOne, enterA, decide_eq_true_eq, Bool.not_eq_true, Bool.decide_eq_true, ite_self, ↓reduceIte, noRefL, clrA, gcT, gcA, gcIds, reach, rhoOf, heapOf, idxA, genB, newGen, renB, refsB, List.contains_cons, List.range_succ, cb_tidingsref11_Find, b_tidingsref11_Find, cr_tidingsref11_Find, x_tidingsref11_Find_k0, x_tidingsref11_Find_l2, intsV, bytesV, propsV, propV, propC, bytesOf_map, h1, noProp, fillA, AVal.cells]
  | p :: r, i, h => by
    have ih := q_rfindl l hl id r (i + 1) (drop_at h).2.1
    have h1 : (i : Int) < l.length := by have := (drop_at h).2.2; omega
    have e1 := iad (drop_at h).1 propV (k := 5) rfl
    have e3 := wrap_succ h1 hl
    unfold K_tidingsref11_Find_l2 at ih ⊢
    rw [evL_eq, findV]
    cases hb : (p.id == id)
    · simp -implicitDefEqProofs only [EVS0, EVS1, EVS2, EVS3, EVS4, EVS5, EVS6, EVS7, EVL0, EVL1, ite_tf, ite_ft, ite_tft, ite_ftf, ite_list, ite_tt, ite_ee, ite_nt, ite_ne, eq_self, implies_true, forall_const, exI, nsite, freeAt, execI, Opd.ev, tget, tins, tput, keepL, sitesOf, List.sum_cons, List.sum_nil, Nat.reduceAdd, Nat.reduceSub, Nat.reduceLT, Nat.reduceLeDiff, Nat.reduceEqDiff, Nat.reduceBEq, Nat.reduceMul, beq_self_eq_true, Bool.false_eq_true, ldA, stA, partA, faddrA, setAt, binA, arithA, shiftA, strA, unA, gSpan, gSkip, unG, ne_eq, Option.some.injEq, reduceCtorEq, decide_true, decide_false, elemsA, resA, resAll, resOne, enterA, decide_eq_true_eq, Bool.not_eq_true, Bool.decide_eq_true, ite_self, ↓reduceIte, noRefL, clrA, gcT, gcA, gcIds, reach, rhoOf, heapOf, idxA, genB, newGen, renB, refsB, List.contains_cons, List.range_succ, cb_tidingsref11_Find, b_tidingsref11_Find, cr_tidingsref11_Find, x_tidingsref11_Find_k0, x_tidingsref11_Find_l2, intsV, bytesV, propsV, propV, propC, bytesOf_map, h1, e1, e3, hb]
      exact ih
    · simp -implicitDefEqProofs only [EVS0, EVS1, EVS2, EVS3, EVS4, EVS5, EVS6, EVS7, EVL0, EVL1, ite_tf, ite_ft, ite_tft, ite_ftf, ite_list, ite_tt, ite_ee, ite_nt, ite_ne, eq_self, implies_true, forall_const, exI, nsite, freeAt, execI, Opd.ev, tget, tins, tput, keepL, sitesOf, List.sum_cons, List.sum_nil, Nat.reduceAdd, Nat.reduceSub, Nat.reduceLT, Nat.reduceLeDiff, Nat.reduceEqDiff, Nat.reduceBEq, Nat.reduceMul, beq_self_eq_true, Bool.false_eq_true, ldA, stA, partA, faddrA, setAt, binA, arithA, shiftA, strA, unA, gSpan, gSkip, unG, ne_eq, Option.some.injEq, reduceCtorEq, decide_true, decide_false, elemsA, resA, resAll, resOne, enterA, decide_eq_true_eq, Bool.not_eq_true, Bool.decide_eq_true, ite_self, ↓reduceIte, noRefL, clrA, gcT, gcA, gcIds, reach, rhoOf, heapOf, idxA, genB, newGen, renB, refsB, List.contains_cons, List.range_succ, cb_tidingsref11_Find, b_tidingsref11_Find, cr_tidingsref11_Find, x_tidingsref11_Find_k0, x_tidingsref11_Find_l2, intsV, bytesV, propsV, propV, propC, bytesOf_map, h1, e1, e3, hb]
theorem q_rfind (l : List PropD) (hl : l.length ≤ 9223372036854775807) (id : Int) : E 25 [.int .i64 id, propsV l] [] = some (findV id l, []) := by
  have := q_rfindl l hl id l 0 rfl
  have z0 : ((0 : Nat) : Int) = 0 := rfl
  rw [z0] at this
  unfold K_tidingsref11_Find_l2 at this
  rw [E_eq (by rfl) cf_tidingsref11_Find]
  simp -implicitDefEqProofs only [EVS0, EVS1, EVS2, EVS3, EVS4, EVS5, EVS6, EVS7, EVL0, EVL1, ite_tf, ite_ft, ite_tft, ite_ftf, ite_list, ite_tt, ite_ee, ite_nt, ite_ne, eq_self, implies_true, forall_const, exI, nsite, freeAt, execI, Opd.ev, tget, tins, tput, keepL, sitesOf, List.sum_cons, List.sum_nil, Nat.reduceAdd, Nat.reduceSub, Nat.reduceLT, Nat.reduceLeDiff, Nat.reduceEqDiff, Nat.reduceBEq, Nat.reduceMul, beq_self_eq_true, Bool.false_eq_true, ldA, stA, partA, faddrA, setAt, binA, arithA, shiftA, strA, unA, gSpan, gSkip, unG, ne_eq, Option.some.injEq, reduceCtorEq, decide_true, decide_false, elemsA, resA, resAll, resOne, enterA, decide_eq_true_eq, Bool.not_eq_true, Bool.decide_eq_true, ite_self, ↓reduceIte, noRefL, clrA, gcT, gcA, gcIds, reach, rhoOf, heapOf, idxA, genB, newGen, renB, refsB, List.contains_cons, List.range_succ, cb_tidingsref11_Find, b_tidingsref11_Find, cr_tidingsref11_Find, x_tidingsref11_Find_k0, x_tidingsref11_Find_l2, intsV, bytesV, propsV, propV, propC, bytesOf_map, intsV]
  exact this
theorem q_rfindC (σ : AHeap) (site own : Nat) (l : List PropD) (hl : l.length ≤ 9223372036854775807) (id : Int) : callG E BY σ site 25 own true [.int .i64 id, .lst false (l.map propV)] = some (fndV false (findP id l), σ, {}) := by
  have h := q_rfind l hl id
  rw [findV_eq] at h
  cases hf : findP id l with
  | none => rw [hf] at h; exact call_norm h (by kernel_rfl) rfl rfl rfl (fun _ => rfl) σ site own
  | some p =>
    rw [hf] at h
    exact call_norm h (by kernel_rfl) rfl rfl rfl (fun _ => rfl) σ site own
def numP (id : Int) (l : List PropD) (none : Int) : Int := match findP id l with
  | Option.none => none
  | some p => p.num
theorem q_num (l : List PropD) (hl : l.length ≤ 9223372036854775807) (hd : ∀ p ∈ l, p.data.length ≤ 140737488355328) (id n : Int) : E 19 [propsV l, .int .i64 id, .int .i64 n] [] = some (.int .i64 (numP id l n), []) := by
  have hC := fun σ site own => q_findC σ site own l hl hd id
  rw [E_eq (by rfl) cf_conn_number]
  unfold numP
  cases hf : findP id l with
  | none => rw [hf] at hC; simp -implicitDefEqProofs only [EVS0, EVS1, EVS2, EVS3, EVS4, EVS5, EVS6, EVS7, EVL0, EVL1, ite_tf, ite_ft, ite_tft, ite_ftf, ite_list, ite_tt, ite_ee, ite_nt, ite_ne, eq_self, implies_true, forall_const, exI, nsite, freeAt, execI, Opd.ev, tget, tins, tput, keepL, sitesOf, List.sum_cons, List.sum_nil, Nat.reduceAdd, Nat.reduceSub, Nat.reduceLT, Nat.reduceLeDiff, Nat.reduceEqDiff, Nat.reduceBEq, Nat.reduceMul, beq_self_eq_true, Bool.false_eq_true, ldA, stA, partA, faddrA, setAt, binA, arithA, shiftA, strA, unA, gSpan, gSkip, unG, ne_eq, Option.some.injEq, reduceCtorEq, decide_true, decide_false, elemsA, resA, resAll, resOne, enterA, decide_eq_true_eq, Bool.not_eq_true, Bool.decide_eq_true, ite_self, ↓reduceIte, noRefL, clrA, gcT, gcA, gcIds, reach, rhoOf, heapOf, idxA, genB, newGen, renB, refsB, List.contains_cons, List.range_succ, cb_conn_number, b_conn_number, cr_conn_number, intsV, bytesV, propsV, propV, propC, bytesOf_map, hC, fndV, noProp]
  | some p => rw [hf] at hC; simp -implicitDefEqProofs only [EVS0, EVS1, EVS2, EVS3, EVS4, EVS5, EVS6, EVS7, EVL0, EVL1, ite_tf, ite_ft, ite_tft, ite_ftf, ite_list, ite_tt, ite_ee, ite_nt, ite_ne, eq_self, implies_true, forall_const, exI, nsite, freeAt, execI, Opd.ev, tget, tins, tput, keepL, sitesOf, List.sum_cons, List.sum_nil, Nat.reduceAdd, Nat.reduceSub, Nat.reduceLT, Nat.reduceLeDiff, Nat.reduceEqDiff, Nat.reduceBEq, Nat.reduceMul, beq_self_eq_true, Bool.false_eq_true, ldA, stA, partA, faddrA, setAt, binA, arithA, shiftA, strA, unA, gSpan, gSkip, unG, ne_eq, Option.some.injEq, reduceCtorEq, decide_true, decide_false, elemsA, resA, resAll, resOne, enterA, decide_eq_true_eq, Bool.not_eq_true, Bool.decide_eq_true, ite_self, ↓reduceIte, noRefL, clrA, gcT, gcA, gcIds, reach, rhoOf, heapOf, idxA, genB, newGen, renB, refsB, List.contains_cons, List.range_succ, cb_conn_number, b_conn_number, cr_conn_number, intsV, bytesV, propsV, propV, propC, bytesOf_map, hC, fndV, noProp]
theorem q_rnum (l : List PropD) (hl : l.length ≤ 9223372036854775807) (id n : Int) : E 28 [.int .i64 id, propsV l, .int .i64 n] [] = some (.int .i64 (numP id l n), []) := by
  have hC := fun σ site own => q_rfindC σ site own l hl id
  rw [E_eq (by rfl) cf_tidingsref11_Num]
  unfold numP
  cases hf : findP id l with
  | none => rw [hf] at hC; simp -implicitDefEqProofs only [EVS0, EVS1, EVS2, EVS3, EVS4, EVS5, EVS6, EVS7, EVL0, EVL1, ite_tf, ite_ft, ite_tft, ite_ftf, ite_list, ite_tt, ite_ee, ite_nt, ite_ne, eq_self, implies_true, forall_const, exI, nsite, freeAt, execI, Opd.ev, tget, tins, tput, keepL, sitesOf, List.sum_cons, List.sum_nil, Nat.reduceAdd, Nat.reduceSub, Nat.reduceLT, Nat.reduceLeDiff, Nat.reduceEqDiff, Nat.reduceBEq, Nat.reduceMul, beq_self_eq_true, Bool.false_eq_true, ldA, stA, partA, faddrA, setAt, binA, arithA, shiftA, strA, unA, gSpan, gSkip, unG, ne_eq, Option.some.injEq, reduceCtorEq, decide_true, decide_false, elemsA, resA, resAll, resOne, enterA, decide_eq_true_eq, Bool.not_eq_true, Bool.decide_eq_true, ite_self, ↓reduceIte, noRefL, clrA, gcT, gcA, gcIds, reach, rhoOf, heapOf, idxA, genB, newGen, renB, refsB, List.contains_cons, List.range_succ, cb_tidingsref11_Num, b_tidingsref11_Num, cr_tidingsref11_Num, intsV, bytesV, propsV, propV, propC, bytesOf_map, hC, fndV, noProp]
  | some p => rw [hf] at hC; simp -implicitDefEqProofs only [EVS0, EVS1, EVS2, EVS3, EVS4, EVS5, EVS6, EVS7, EVL0, EVL1, ite_tf, ite_ft, ite_tft, ite_ftf, ite_list, ite_tt, ite_ee, ite_nt, ite_ne, eq_self, implies_true, forall_const, exI, nsite, freeAt, execI, Opd.ev, tget, tins, tput, keepL, sitesOf, List.sum_cons, List.sum_nil, Nat.reduceAdd, Nat.reduceSub, Nat.reduceLT, Nat.reduceLeDiff, Nat.reduceEqDiff, Nat.reduceBEq, Nat.reduceMul, beq_self_eq_true, Bool.false_eq_true, ldA, stA, partA, faddrA, setAt, binA, arithA, shiftA, strA, unA, gSpan, gSkip, unG, ne_eq, Option.some.injEq, reduceCtorEq, decide_true, decide_false, elemsA, resA, resAll, resOne, enterA, decide_eq_true_eq, Bool.not_eq_true, Bool.decide_eq_true, ite_self, ↓reduceIte, noRefL, clrA, gcT, gcA, gcIds, reach, rhoOf, heapOf, idxA, genB, newGen, renB, refsB, List.contains_cons, List.range_succ, cb_tidingsref11_Num, b_tidingsref11_Num, cr_tidingsref11_Num, intsV, bytesV, propsV, propV, propC, bytesOf_map, hC, fndV, noProp]
end Go.Proofs.YtaaflagbhneakaaDoor
namespace Go.Proofs.YtaaflagbhneakaaDoor
set_option linter.unusedSimpArgs false
set_option linter.unusedVariables false
set_option maxHeartbeats 4000000
set_option maxRecDepth 10000
structure UserD where
  name : Bytes
  secret : Bytes
  deriving DecidableEq
def userV (u : UserD) : AVal := .agg [.str u.name, .lst false (u.secret.map byteV)]
def secP (n : Bytes) (l : List UserD) : Option UserD := l.find? (fun u => u.name == n)
def secV (b : Bool) : Option UserD → AVal
  | none => .tup [.lst b [], .bool false]
  | some u => .tup [.lst false (u.secret.map byteV), .bool true]
def secL (n : Bytes) : List UserD → AVal
  | [] => secV true none
  | u :: r => if u.name == n then secV true (some u) else secL n r
theorem secL_eq (n : Bytes) : ∀ l : List UserD, secL n l = secV true (secP n l)
  | [] => rfl
  | u :: r => by
    have ih := secL_eq n r
    unfold secP at ih ⊢
    rw [secL, List.find?_cons]
    cases h : (u.name == n)
    · simpa using ih
    · rfl
theorem q_secl (l : List UserD) (hl : l.length ≤ 9223372036854775807) (hd : ∀ u ∈ l, u.secret.length ≤ 140737488355328) (n : Bytes) : ∀ (r : List UserD) (i : Nat), l.drop i = r →
    K_proof_Secret_l2 0 [(11, .int .i64 i), (10, .int .i64 l.length), (9, .lst false (l.map userV)), (1, .str n)] [] = some (secL n r, [])
  | [], i, h => by
    have h1 := drop_nil h
    unfold K_proof_Secret_l2
    rw [evL_eq, secL]
    simp -implicitDefEqProofs only [EVS0, EVS1, EVS2, EVS3, EVS4, EVS5, EVS6, EVS7, EVL0, EVL1, ite_tf, ite_ft, ite_tft, ite_ftf, ite_list, ite_tt, ite_ee, ite_nt, ite_ne, eq_self, implies_true, forall_const, exI, nsite, freeAt, execI, Opd.ev, tget, tins, tput, keepL, sitesOf, List.sum_cons, List.sum_nil, Nat.reduceAdd, Nat.reduceSub, Nat.reduceLT, Nat.reduceLeDiff, Nat.reduceEqDiff, Nat.reduceBEq, Nat.reduceMul, beq_self_eq_true, Bool.false_eq_true, ldA, stA, partA, faddrA, setAt, binA, arithA, shiftA, strA, unA, gSpan, gSkip, unG, ne_eq, Option.some.injEq, reduceCtorEq, decide_true, decide_false, elemsA, resA, resAll, resOne, enterA, decide_eq_true_eq, Bool.not_eq_true, Bool.decide_eq_true, ite_self, ↓reduceIte, noRefL, clrA, gcT, gcA, gcIds, reach, rhoOf, heapOf, idxA, genB, newGen, renB, refsB, List.contains_cons, List.range_succ, cb_proof_Secret, b_proof_Secret, cr_proof_Secret, x_proof_Secret_k0, x_proof_Secret_l2, intsV, bytesV, propsV, propV, propC, bytesOf_map, h1, secV]
  | u :: r, i, h => by
    have ih := q_secl l hl hd n r (i + 1) (drop_at h).2.1
    have h1 : (i : Int) < l.length := by have := (drop_at h).2.2; omega
    have e1 := iad (drop_at h).1 userV (k := 2) rfl
    have e3 := wrap_succ h1 hl
    have hC := fun σ site own => q_cloneBC σ site own u.secret (hd u (List.mem_of_getElem? (drop_at h).1))
    unfold K_proof_Secret_l2 at ih ⊢
    rw [evL_eq, secL]
    cases hb : (u.name == n)
    · simp -implicitDefEqProofs only [EVS0, EVS1, EVS2, EVS3, EVS4, EVS5, EVS6, EVS7, EVL0, EVL1, ite_tf, ite_ft, ite_tft, ite_ftf, ite_list, ite_tt, ite_ee, ite_nt, ite_ne, eq_self, implies_true, forall_const, exI, nsite, freeAt, execI, Opd.ev, tget, tins, tput, keepL, sitesOf, List.sum_cons, List.sum_nil, Nat.reduceAdd, Nat.reduceSub, Nat.reduceLT, Nat.reduceLeDiff, Nat.reduceEqDiff, Nat.reduceBEq, Nat.reduceMul, beq_self_eq_true, Bool.false_eq_true, ldA, stA, partA, faddrA, setAt, binA, arithA, shiftA, strA, unA, gSpan, gSkip, unG, ne_eq, Option.some.injEq, reduceCtorEq, decide_true, decide_false, elemsA, resA, resAll, resOne, enterA, decide_eq_true_eq, Bool.not_eq_true, Bool.decide_eq_true, ite_self, ↓reduceIte, noRefL, clrA, gcT, gcA, gcIds, reach, rhoOf, heapOf, idxA, genB, newGen, renB, refsB, List.contains_cons, List.range_succ, cb_proof_Secret, b_proof_Secret, cr_proof_Secret, x_proof_Secret_k0, x_proof_Secret_l2, intsV, bytesV, propsV, propV, propC, bytesOf_map, h1, e1, e3, hb, userV]
      exact ih
    · simp -implicitDefEqProofs only [EVS0, EVS1, EVS2, EVS3, EVS4, EVS5, EVS6, EVS7, EVL0, EVL1, ite_tf, ite_ft, ite_tft, ite_ftf, ite_list, ite_tt, ite_ee, ite_nt, ite_ne, eq_self, implies_true, forall_const, exI, nsite, freeAt, execI, Opd.ev, tget, tins, tput, keepL, sitesOf, List.sum_cons, List.sum_nil, Nat.reduceAdd, Nat.reduceSub, Nat.reduceLT, Nat.reduceLeDiff, Nat.reduceEqDiff, Nat.reduceBEq, Nat.reduceMul, beq_self_eq_true, Bool.false_eq_true, ldA, stA, partA, faddrA, setAt, binA, arithA, shiftA, strA, unA, gSpan, gSkip, unG, ne_eq, Option.some.injEq, reduceCtorEq, decide_true, decide_false, elemsA, resA, resAll, resOne, enterA, decide_eq_true_eq, Bool.not_eq_true, Bool.decide_eq_true, ite_self, ↓reduceIte, noRefL, clrA, gcT, gcA, gcIds, reach, rhoOf, heapOf, idxA, genB, newGen, renB, refsB, List.contains_cons, List.range_succ, cb_proof_Secret, b_proof_Secret, cr_proof_Secret, x_proof_Secret_k0, x_proof_Secret_l2, intsV, bytesV, propsV, propV, propC, bytesOf_map, h1, e1, e3, hb, hC, userV, secV]
theorem q_rsecl (l : List UserD) (hl : l.length ≤ 9223372036854775807) (n : Bytes) (o : Int) (b : Bool) : ∀ (r : List UserD) (i : Nat), l.drop i = r →
    K_tidingsref22_Secret_l2 0 [(6, .int .i64 i), (2, .ref 0 0), (1, .str n)] [.var [.int .i64 o, .bool b, .lst false (l.map userV)]] = some (secL n r, [])
  | [], i, h => by
    have h1 := drop_nil h
    unfold K_tidingsref22_Secret_l2
    rw [evL_eq, secL]
    simp -implicitDefEqProofs only [EVS0, EVS1, EVS2, EVS3, EVS4, EVS5, EVS6, EVS7, EVL0, EVL1, ite_tf, ite_ft, ite_tft, ite_ftf, ite_list, ite_tt, ite_ee, ite_nt, ite_ne, eq_self, implies_true, forall_const, exI, nsite, freeAt, execI, Opd.ev, tget, tins, tput, keepL, sitesOf, List.sum_cons, List.sum_nil, Nat.reduceAdd, Nat.reduceSub, Nat.reduceLT, Nat.reduceLeDiff, Nat.reduceEqDiff, Nat.reduceBEq, Nat.reduceMul, beq_self_eq_true, Bool.false_eq_true, ldA, stA, partA, faddrA, setAt, binA, arithA, shiftA, strA, unA, gSpan, gSkip, unG, ne_eq, Option.some.injEq, reduceCtorEq, decide_true, decide_false, elemsA, resA, resAll, resOne, enterA, decide_eq_true_eq, Bool.not_eq_true, Bool.decide_eq_true, ite_self, ↓reduceIte, noRefL, clrA, gcT, gcA, gcIds, reach, rhoOf, heapOf, idxA, genB, newGen, renB, refsB, List.contains_cons, List.range_succ, cb_tidingsref22_Secret, b_tidingsref22_Secret, cr_tidingsref22_Secret, x_tidingsref22_Secret_k0, x_tidingsref22_Secret_l2, intsV, bytesV, propsV, propV, propC, bytesOf_map, h1, secV]
  | u :: r, i, h => by
    have ih := q_rsecl l hl n o b r (i + 1) (drop_at h).2.1
    have h1 : (i : Int) < l.length := by have := (drop_at h).2.2; omega
    have e1 := iad (drop_at h).1 userV (k := 2) rfl
    have e3 := wrap_succ h1 hl
    unfold K_tidingsref22_Secret_l2 at ih ⊢
    rw [evL_eq, secL]
    cases hb : (u.name == n)
    · simp -implicitDefEqProofs only [EVS0, EVS1, EVS2, EVS3, EVS4, EVS5, EVS6, EVS7, EVL0, EVL1, ite_tf, ite_ft, ite_tft, ite_ftf, ite_list, ite_tt, ite_ee, ite_nt, ite_ne, eq_self, implies_true, forall_const, exI, nsite, freeAt, execI, Opd.ev, tget, tins, tput, keepL, sitesOf, List.sum_cons, List.sum_nil, Nat.reduceAdd, Nat.reduceSub, Nat.reduceLT, Nat.reduceLeDiff, Nat.reduceEqDiff, Nat.reduceBEq, Nat.reduceMul, beq_self_eq_true, Bool.false_eq_true, ldA, stA, partA, faddrA, setAt, binA, arithA, shiftA, strA, unA, gSpan, gSkip, unG, ne_eq, Option.some.injEq, reduceCtorEq, decide_true, decide_false, elemsA, resA, resAll, resOne, enterA, decide_eq_true_eq, Bool.not_eq_true, Bool.decide_eq_true, ite_self, ↓reduceIte, noRefL, clrA, gcT, gcA, gcIds, reach, rhoOf, heapOf, idxA, genB, newGen, renB, refsB, List.contains_cons, List.range_succ, cb_tidingsref22_Secret, b_tidingsref22_Secret, cr_tidingsref22_Secret, x_tidingsref22_Secret_k0, x_tidingsref22_Secret_l2, intsV, bytesV, propsV, propV, propC, bytesOf_map, h1, e1, e3, hb, userV]
      exact ih
    · simp -implicitDefEqProofs only [EVS0, EVS1, EVS2, EVS3, EVS4, EVS5, EVS6, EVS7, EVL0, EVL1, ite_tf, ite_ft, ite_tft, ite_ftf, ite_list, ite_tt, ite_ee, ite_nt, ite_ne, eq_self, implies_true, forall_const, exI, nsite, freeAt, execI, Opd.ev, tget, tins, tput, keepL, sitesOf, List.sum_cons, List.sum_nil, Nat.reduceAdd, Nat.reduceSub, Nat.reduceLT, Nat.reduceLeDiff, Nat.reduceEqDiff, Nat.reduceBEq, Nat.reduceMul, beq_self_eq_true, Bool.false_eq_true, ldA, stA, partA, faddrA, setAt, binA, arithA, shiftA, strA, unA, gSpan, gSkip, unG, ne_eq, Option.some.injEq, reduceCtorEq, decide_true, decide_false, elemsA, resA, resAll, resOne, enterA, decide_eq_true_eq, Bool.not_eq_true, Bool.decide_eq_true, ite_self, ↓reduceIte, noRefL, clrA, gcT, gcA, gcIds, reach, rhoOf, heapOf, idxA, genB, newGen, renB, refsB, List.contains_cons, List.range_succ, cb_tidingsref22_Secret, b_tidingsref22_Secret, cr_tidingsref22_Secret, x_tidingsref22_Secret_k0, x_tidingsref22_Secret_l2, intsV, bytesV, propsV, propV, propC, bytesOf_map, h1, e1, e3, hb, userV, secV]
theorem q_sec (l : List UserD) (hl : l.length ≤ 9223372036854775807) (hd : ∀ u ∈ l, u.secret.length ≤ 140737488355328) (n : Bytes) (o : Int) (b : Bool) : E 33 [.agg [.int .i64 o, .bool b, .lst false (l.map userV)], .str n] [] = some (secL n l, []) := by
  have := q_secl l hl hd n l 0 rfl
  have z0 : ((0 : Nat) : Int) = 0 := rfl
  rw [z0] at this
  unfold K_proof_Secret_l2 at this
  rw [E_eq (by rfl) cf_proof_Secret]
  simp -implicitDefEqProofs only [EVS0, EVS1, EVS2, EVS3, EVS4, EVS5, EVS6, EVS7, EVL0, EVL1, ite_tf, ite_ft, ite_tft, ite_ftf, ite_list, ite_tt, ite_ee, ite_nt, ite_ne, eq_self, implies_true, forall_const, exI, nsite, freeAt, execI, Opd.ev, tget, tins, tput, keepL, sitesOf, List.sum_cons, List.sum_nil, Nat.reduceAdd, Nat.reduceSub, Nat.reduceLT, Nat.reduceLeDiff, Nat.reduceEqDiff, Nat.reduceBEq, Nat.reduceMul, beq_self_eq_true, Bool.false_eq_true, ldA, stA, partA, faddrA, setAt, binA, arithA, shiftA, strA, unA, gSpan, gSkip, unG, ne_eq, Option.some.injEq, reduceCtorEq, decide_true, decide_false, elemsA, resA, resAll, resOne, enterA, decide_eq_true_eq, Bool.not_eq_true, Bool.decide_eq_true, ite_self, ↓reduceIte, noRefL, clrA, gcT, gcA, gcIds, reach, rhoOf, heapOf, idxA, genB, newGen, renB, refsB, List.contains_cons, List.range_succ, cb_proof_Secret, b_proof_Secret, cr_proof_Secret, x_proof_Secret_k0, x_proof_Secret_l2, intsV, bytesV, propsV, propV, propC, bytesOf_map, intsV]
  exact this
theorem q_rsec (l : List UserD) (hl : l.length ≤ 9223372036854775807) (n : Bytes) (o : Int) (b : Bool) : E 26 [.agg [.int .i64 o, .bool b, .lst false (l.map userV)], .str n] [] = some (secL n l, []) := by
  have := q_rsecl l hl n o b l 0 rfl
  have z0 : ((0 : Nat) : Int) = 0 := rfl
  rw [z0] at this
  unfold K_tidingsref22_Secret_l2 at this
  rw [E_eq (by rfl) cf_tidingsref22_Secret]
  simp -implicitDefEqProofs only [EVS0, EVS1, EVS2, EVS3, EVS4, EVS5, EVS6, EVS7, EVL0, EVL1, ite_tf, ite_ft, ite_tft, ite_ftf, ite_list, ite_tt, ite_ee, ite_nt, ite_ne, eq_self, implies_true, forall_const, exI, nsite, freeAt, execI, Opd.ev, tget, tins, tput, keepL, sitesOf, List.sum_cons, List.sum_nil, Nat.reduceAdd, Nat.reduceSub, Nat.reduceLT, Nat.reduceLeDiff, Nat.reduceEqDiff, Nat.reduceBEq, Nat.reduceMul, beq_self_eq_true, Bool.false_eq_true, ldA, stA, partA, faddrA, setAt, binA, arithA, shiftA, strA, unA, gSpan, gSkip, unG, ne_eq, Option.some.injEq, reduceCtorEq, decide_true, decide_false, elemsA, resA, resAll, resOne, enterA, decide_eq_true_eq, Bool.not_eq_true, Bool.decide_eq_true, ite_self, ↓reduceIte, noRefL, clrA, gcT, gcA, gcIds, reach, rhoOf, heapOf, idxA, genB, newGen, renB, refsB, List.contains_cons, List.range_succ, cb_tidingsref22_Secret, b_tidingsref22_Secret, cr_tidingsref22_Secret, x_tidingsref22_Secret_k0, x_tidingsref22_Secret_l2, intsV, bytesV, propsV, propV, propC, bytesOf_map, intsV]
  exact this
theorem q_secC (σ : AHeap) (site own : Nat) (l : List UserD) (hl : l.length ≤ 9223372036854775807) (hd : ∀ u ∈ l, u.secret.length ≤ 140737488355328) (n : Bytes) (o : Int) (b : Bool) : callG E BY σ site 33 own true [.agg [.int .i64 o, .bool b, .lst false (l.map userV)], .str n] = some (secV false (secP n l), σ, {}) := by
  have h := q_sec l hl hd n o b
  rw [secL_eq] at h
  cases hf : secP n l with
  | none => rw [hf] at h; exact call_norm h (by kernel_rfl) rfl rfl rfl (fun _ => rfl) σ site own
  | some p => rw [hf] at h; exact call_norm h (by kernel_rfl) rfl rfl rfl (fun _ => rfl) σ site own
theorem q_rsecC (σ : AHeap) (site own : Nat) (l : List UserD) (hl : l.length ≤ 9223372036854775807) (n : Bytes) (o : Int) (b : Bool) : callG E BY σ site 26 own true [.agg [.int .i64 o, .bool b, .lst false (l.map userV)], .str n] = some (secV false (secP n l), σ, {}) := by
  have h := q_rsec l hl n o b
  rw [secL_eq] at h
  cases hf : secP n l with
  | none => rw [hf] at h; exact call_norm h (by kernel_rfl) rfl rfl rfl (fun _ => rfl) σ site own
  | some p => rw [hf] at h; exact call_norm h (by kernel_rfl) rfl rfl rfl (fun _ => rfl) σ site own
end Go.Proofs.YtaaflagbhneakaaDoor
namespace Go.Proofs.YtaaflagbhneakaaDoor
set_option linter.unusedSimpArgs false
set_option linter.unusedVariables false
structure SubD where
  filter : Bytes
  qos : Int
  noLocal : Bool
  asPublished : Bool
  handling : Int
  id : Int
  deriving DecidableEq
def subV (s : SubD) : AVal := .agg [.str s.filter, .int .i64 s.qos, .bool s.noLocal, .bool s.asPublished, .int .i64 s.handling, .int .i64 s.id]
structure WillD where
  topic : Bytes
  data : Bytes
  qos : Int
  retain : Bool
  props : List PropD
  deriving DecidableEq
structure PacketD where
  type : Int
  dup : Bool
  qos : Int
  retain : Bool
  id : Int
  topic : Bytes
  payload : Bytes
  code : Int
  codes : List Int
  props : List PropD
  subs : List SubD
  filters : List Bytes
  clean : Bool
  keep : Int
  client : Bytes
  hasWill : Bool
  will : WillD
  hasUser : Bool
  user : Bytes
  hasPassword : Bool
  password : Bytes
  present : Bool
  deriving DecidableEq
def packV (p : PacketD) : AVal := .agg [.int .i64 p.type, .bool p.dup, .int .i64 p.qos, .bool p.retain, .int .i64 p.id, .str p.topic, .lst false (p.payload.map byteV), .int .i64 p.code, .lst false (p.codes.map (AVal.int .i64)), .lst false (p.props.map propV), .lst false (p.subs.map subV), .lst false (p.filters.map AVal.str), .bool p.clean, .int .i64 p.keep, .str p.client, .bool p.hasWill, .str p.will.topic, .lst false (p.will.data.map byteV), .int .i64 p.will.qos, .bool p.will.retain, .lst false (p.will.props.map propV), .bool p.hasUser, .str p.user, .bool p.hasPassword, .lst false (p.password.map byteV), .bool p.present]
end Go.Proofs.YtaaflagbhneakaaDoor
namespace Go.Proofs.YtaaflagbhneakaaDoor
set_option linter.unusedSimpArgs false
set_option linter.unusedVariables false
def b_bytes_Equal : ACode := (.seq (.region [⟨(some 4), (.mov (.c (.bool false))), none, []⟩] none [1, 0]) (.seq (.region [⟨(some 5), (.mov (.t 0)), none, []⟩, ⟨(some 6), (.b2s (.t 5)), none, []⟩, ⟨(some 7), (.mov (.t 1)), none, []⟩, ⟨(some 8), (.b2s (.t 7)), none, []⟩, ⟨(some 9), (.bin .eql (.t 6) (.t 8)), none, []⟩, ⟨(some 4), (.mov (.t 9)), none, []⟩] none [4]) .ret))
def c_bytes_Equal : AFunc := ⟨[(.tmp 4)], b_bytes_Equal⟩
theorem cf_bytes_Equal : FC 46 = some c_bytes_Equal := by kernel_rfl
theorem cb_bytes_Equal : c_bytes_Equal.body = b_bytes_Equal := rfl
theorem cr_bytes_Equal : c_bytes_Equal.res = [(.tmp 4)] := rfl
def b_slices_Contains_int_int : ACode := (.seq (.region [⟨(some 4), (.mov (.c (.bool false))), none, []⟩] none [1, 0]) (.seq (.region [⟨(some 5), (.mov (.t 0)), none, []⟩, ⟨(some 6), (.mov (.t 1)), none, []⟩, ⟨(some 7), (.call 60 0 true [(.t 5), (.t 6)]), none, []⟩, ⟨(some 8), (.bin .geq (.t 7) (.c (.int .i64 0))), none, []⟩, ⟨(some 4), (.mov (.t 8)), none, []⟩] none [4]) .ret))
def c_slices_Contains_int_int : AFunc := ⟨[(.tmp 4)], b_slices_Contains_int_int⟩
theorem cf_slices_Contains_int_int : FC 53 = some c_slices_Contains_int_int := by kernel_rfl
theorem cb_slices_Contains_int_int : c_slices_Contains_int_int.body = b_slices_Contains_int_int := rfl
theorem cr_slices_Contains_int_int : c_slices_Contains_int_int.res = [(.tmp 4)] := rfl
def c_slices_DeleteFunc_api_Prop_api_Prop_k0 : ACode := (.seq (.region [⟨(some 36), (.mov (.t 0)), none, []⟩, ⟨(some 37), (.mov (.t 5)), none, []⟩, ⟨(some 38), (.slice 5 (.t 36) (some (.t 37)) none none), none, []⟩, ⟨none, (.clr 5 (.agg [(.int .i64 0), (.int .i64 0), (.str []), (.str []), (.lst true [])]) (.t 38)), none, []⟩] none [5, 0]) (.seq (.region [⟨(some 39), (.mov (.t 0)), none, []⟩, ⟨(some 40), (.mov (.t 5)), none, []⟩, ⟨(some 41), (.slice 5 (.t 39) none (some (.t 40)) none), none, []⟩, ⟨(some 4), (.mov (.t 41)), none, []⟩] none [4]) .ret))
theorem x_slices_DeleteFunc_api_Prop_api_Prop_k0 (m : Nat) (tm : Tms) (σ : AHeap) : evC FC PR BY m c_slices_DeleteFunc_api_Prop_api_Prop_k0 tm σ = evC FC PR BY m (.seq (.region [⟨(some 36), (.mov (.t 0)), none, []⟩, ⟨(some 37), (.mov (.t 5)), none, []⟩, ⟨(some 38), (.slice 5 (.t 36) (some (.t 37)) none none), none, []⟩, ⟨none, (.clr 5 (.agg [(.int .i64 0), (.int .i64 0), (.str []), (.str []), (.lst true [])]) (.t 38)), none, []⟩] none [5, 0]) (.seq (.region [⟨(some 39), (.mov (.t 0)), none, []⟩, ⟨(some 40), (.mov (.t 5)), none, []⟩, ⟨(some 41), (.slice 5 (.t 39) none (some (.t 40)) none), none, []⟩, ⟨(some 4), (.mov (.t 41)), none, []⟩] none [4]) .ret)) tm σ := rfl
def c_slices_DeleteFunc_api_Prop_api_Prop_l5 : ACode := (.seq (.seq (.region [⟨(some 16), (.mov (.t 6)), none, []⟩, ⟨(some 17), (.mov (.t 0)), none, []⟩, ⟨(some 18), (.len (.t 17)), none, []⟩, ⟨(some 19), (.bin .lss (.t 16) (.t 18)), none, []⟩] none [19, 6, 5, 1, 0]) (.cond (.t 19) .skip (.exit 0))) (.seq (.block 1 (.seq (.region [⟨(some 22), (.mov (.t 0)), none, []⟩, ⟨(some 23), (.mov (.t 6)), none, []⟩, ⟨(some 24), (.iaddr 5 (.t 22) (.t 23)), none, []⟩, ⟨(some 25), (.ld (some 5) (.t 24)), none, []⟩, ⟨(some 7), (.alloc [(.int .i64 0), (.int .i64 0), (.str []), (.str []), (.lst true [])]), none, []⟩, ⟨none, (.st 5 (.t 7) (.t 25)), none, []⟩] none [7, 6, 5, 1, 0]) (.seq (.region [⟨(some 26), (.mov (.t 1)), none, []⟩, ⟨(some 27), (.ld (some 5) (.t 7)), none, []⟩, ⟨(some 28), (.callv (.t 26) [(.t 27)]), none, []⟩, ⟨(some 29), (.un .not (.t 28)), none, []⟩] none [29, 7, 6, 5, 1, 0]) (.cond (.t 29) (.seq (.region [⟨(some 30), (.mov (.t 0)), none, []⟩, ⟨(some 31), (.mov (.t 5)), none, []⟩, ⟨(some 32), (.ld (some 5) (.t 7)), none, []⟩, ⟨(some 33), (.iaddr 5 (.t 30) (.t 31)), none, []⟩, ⟨none, (.st 5 (.t 33) (.t 32)), none, []⟩] none [6, 5, 1, 0]) (.region [⟨(some 34), (.mov (.t 5)), none, []⟩, ⟨(some 35), (.bin .add (.t 34) (.c (.int .i64 1))), none, []⟩, ⟨(some 5), (.mov (.t 35)), none, []⟩] none [6, 5, 1, 0])) .skip)))) (.region [⟨(some 20), (.mov (.t 6)), none, []⟩, ⟨(some 21), (.bin .add (.t 20) (.c (.int .i64 1))), none, []⟩, ⟨(some 6), (.mov (.t 21)), none, []⟩] none [6, 5, 1, 0])))
theorem x_slices_DeleteFunc_api_Prop_api_Prop_l5 (m : Nat) (tm : Tms) (σ : AHeap) : evC FC PR BY m c_slices_DeleteFunc_api_Prop_api_Prop_l5 tm σ = evC FC PR BY m (.seq (.seq (.region [⟨(some 16), (.mov (.t 6)), none, []⟩, ⟨(some 17), (.mov (.t 0)), none, []⟩, ⟨(some 18), (.len (.t 17)), none, []⟩, ⟨(some 19), (.bin .lss (.t 16) (.t 18)), none, []⟩] none [19, 6, 5, 1, 0]) (.cond (.t 19) .skip (.exit 0))) (.seq (.block 1 (.seq (.region [⟨(some 22), (.mov (.t 0)), none, []⟩, ⟨(some 23), (.mov (.t 6)), none, []⟩, ⟨(some 24), (.iaddr 5 (.t 22) (.t 23)), none, []⟩, ⟨(some 25), (.ld (some 5) (.t 24)), none, []⟩, ⟨(some 7), (.alloc [(.int .i64 0), (.int .i64 0), (.str []), (.str []), (.lst true [])]), none, []⟩, ⟨none, (.st 5 (.t 7) (.t 25)), none, []⟩] none [7, 6, 5, 1, 0]) (.seq (.region [⟨(some 26), (.mov (.t 1)), none, []⟩, ⟨(some 27), (.ld (some 5) (.t 7)), none, []⟩, ⟨(some 28), (.callv (.t 26) [(.t 27)]), none, []⟩, ⟨(some 29), (.un .not (.t 28)), none, []⟩] none [29, 7, 6, 5, 1, 0]) (.cond (.t 29) (.seq (.region [⟨(some 30), (.mov (.t 0)), none, []⟩, ⟨(some 31), (.mov (.t 5)), none, []⟩, ⟨(some 32), (.ld (some 5) (.t 7)), none, []⟩, ⟨(some 33), (.iaddr 5 (.t 30) (.t 31)), none, []⟩, ⟨none, (.st 5 (.t 33) (.t 32)), none, []⟩] none [6, 5, 1, 0]) (.region [⟨(some 34), (.mov (.t 5)), none, []⟩, ⟨(some 35), (.bin .add (.t 34) (.c (.int .i64 1))), none, []⟩, ⟨(some 5), (.mov (.t 35)), none, []⟩] none [6, 5, 1, 0])) .skip)))) (.region [⟨(some 20), (.mov (.t 6)), none, []⟩, ⟨(some 21), (.bin .add (.t 20) (.c (.int .i64 1))), none, []⟩, ⟨(some 6), (.mov (.t 21)), none, []⟩] none [6, 5, 1, 0]))) tm σ := rfl
def b_slices_DeleteFunc_api_Prop_api_Prop : ACode := (.seq (.region [⟨(some 4), (.mov (.c (.lst true []))), none, []⟩] none [1, 0]) (.seq (.region [⟨(some 8), (.mov (.t 0)), none, []⟩, ⟨(some 9), (.mov (.t 1)), none, []⟩, ⟨(some 10), (.call 37 0 true [(.t 8), (.t 9)]), none, []⟩, ⟨(some 5), (.mov (.t 10)), none, []⟩] none [5, 1, 0]) (.seq (.seq (.region [⟨(some 11), (.mov (.t 5)), none, []⟩, ⟨(some 12), (.bin .eql (.t 11) (.c (.int .i64 (-1)))), none, []⟩] none [12, 5, 1, 0]) (.cond (.t 12) (.seq (.region [⟨(some 13), (.mov (.t 0)), none, []⟩, ⟨(some 4), (.mov (.t 13)), none, []⟩] none [4]) .ret) .skip)) (.seq (.seq (.region [⟨(some 14), (.mov (.t 5)), none, []⟩, ⟨(some 15), (.bin .add (.t 14) (.c (.int .i64 1))), none, []⟩, ⟨(some 6), (.mov (.t 15)), none, []⟩] none [6, 5, 1, 0]) (.block 0 (.loop [6, 5, 1, 0] c_slices_DeleteFunc_api_Prop_api_Prop_l5))) c_slices_DeleteFunc_api_Prop_api_Prop_k0))))
def c_slices_DeleteFunc_api_Prop_api_Prop : AFunc := ⟨[(.tmp 4)], b_slices_DeleteFunc_api_Prop_api_Prop⟩
theorem cf_slices_DeleteFunc_api_Prop_api_Prop : FC 20 = some c_slices_DeleteFunc_api_Prop_api_Prop := by kernel_rfl
theorem cb_slices_DeleteFunc_api_Prop_api_Prop : c_slices_DeleteFunc_api_Prop_api_Prop.body = b_slices_DeleteFunc_api_Prop_api_Prop := rfl
theorem cr_slices_DeleteFunc_api_Prop_api_Prop : c_slices_DeleteFunc_api_Prop_api_Prop.res = [(.tmp 4)] := rfl
/-- slots [6, 5, 1, 0] -/
noncomputable def K_slices_DeleteFunc_api_Prop_api_Prop_l5 (m : Nat) (tm : Tms) (σ : AHeap) : Option (AVal × AHeap) := (finA m c_slices_DeleteFunc_api_Prop_api_Prop (seqX FC PR BY m c_slices_DeleteFunc_api_Prop_api_Prop_k0 (Option.map (blockA 0) (evL FC PR BY m [6, 5, 1, 0] c_slices_DeleteFunc_api_Prop_api_Prop_l5 tm σ))))
def c_slices_IndexFunc_api_Prop_api_Prop_k0 : ACode := (.seq (.region [⟨(some 4), (.mov (.c (.int .i64 (-1)))), none, []⟩] none [4]) .ret)
theorem x_slices_IndexFunc_api_Prop_api_Prop_k0 (m : Nat) (tm : Tms) (σ : AHeap) : evC FC PR BY m c_slices_IndexFunc_api_Prop_api_Prop_k0 tm σ = evC FC PR BY m (.seq (.region [⟨(some 4), (.mov (.c (.int .i64 (-1)))), none, []⟩] none [4]) .ret) tm σ := rfl
def c_slices_IndexFunc_api_Prop_api_Prop_l2 : ACode := (.seq (.region [⟨(some 9), (.bin .lss (.t 8) (.t 7)), none, []⟩] none [9, 8, 7, 1, 0]) (.seq (.cond (.t 9) .skip (.exit 0)) (.seq (.block 1 (.seq (.region [⟨(some 10), (.mov (.t 8)), none, []⟩, ⟨(some 5), (.mov (.t 10)), none, []⟩] none [8, 7, 5, 1, 0]) (.seq (.region [⟨(some 11), (.mov (.t 1)), none, []⟩, ⟨(some 12), (.mov (.t 0)), none, []⟩, ⟨(some 13), (.mov (.t 5)), none, []⟩, ⟨(some 14), (.iaddr 5 (.t 12) (.t 13)), none, []⟩, ⟨(some 15), (.ld (some 5) (.t 14)), none, []⟩, ⟨(some 16), (.callv (.t 11) [(.t 15)]), none, []⟩] none [16, 8, 7, 5, 1, 0]) (.cond (.t 16) (.seq (.region [⟨(some 17), (.mov (.t 5)), none, []⟩, ⟨(some 4), (.mov (.t 17)), none, []⟩] none [4]) .ret) .skip)))) (.region [⟨(some 18), (.bin .add (.t 8) (.c (.int .i64 1))), none, []⟩, ⟨(some 8), (.mov (.t 18)), none, []⟩] none [8, 7, 1, 0]))))
theorem x_slices_IndexFunc_api_Prop_api_Prop_l2 (m : Nat) (tm : Tms) (σ : AHeap) : evC FC PR BY m c_slices_IndexFunc_api_Prop_api_Prop_l2 tm σ = evC FC PR BY m (.seq (.region [⟨(some 9), (.bin .lss (.t 8) (.t 7)), none, []⟩] none [9, 8, 7, 1, 0]) (.seq (.cond (.t 9) .skip (.exit 0)) (.seq (.block 1 (.seq (.region [⟨(some 10), (.mov (.t 8)), none, []⟩, ⟨(some 5), (.mov (.t 10)), none, []⟩] none [8, 7, 5, 1, 0]) (.seq (.region [⟨(some 11), (.mov (.t 1)), none, []⟩, ⟨(some 12), (.mov (.t 0)), none, []⟩, ⟨(some 13), (.mov (.t 5)), none, []⟩, ⟨(some 14), (.iaddr 5 (.t 12) (.t 13)), none, []⟩, ⟨(some 15), (.ld (some 5) (.t 14)), none, []⟩, ⟨(some 16), (.callv (.t 11) [(.t 15)]), none, []⟩] none [16, 8, 7, 5, 1, 0]) (.cond (.t 16) (.seq (.region [⟨(some 17), (.mov (.t 5)), none, []⟩, ⟨(some 4), (.mov (.t 17)), none, []⟩] none [4]) .ret) .skip)))) (.region [⟨(some 18), (.bin .add (.t 8) (.c (.int .i64 1))), none, []⟩, ⟨(some 8), (.mov (.t 18)), none, []⟩] none [8, 7, 1, 0])))) tm σ := rfl
def b_slices_IndexFunc_api_Prop_api_Prop : ACode := (.seq (.region [⟨(some 4), (.mov (.c (.int .i64 0))), none, []⟩] none [1, 0]) (.seq (.seq (.region [⟨(some 6), (.mov (.t 0)), none, []⟩, ⟨(some 7), (.len (.t 6)), none, []⟩, ⟨(some 8), (.mov (.c (.int .i64 0))), none, []⟩] none [8, 7, 1, 0]) (.block 0 (.loop [8, 7, 1, 0] c_slices_IndexFunc_api_Prop_api_Prop_l2))) c_slices_IndexFunc_api_Prop_api_Prop_k0))
def c_slices_IndexFunc_api_Prop_api_Prop : AFunc := ⟨[(.tmp 4)], b_slices_IndexFunc_api_Prop_api_Prop⟩
theorem cf_slices_IndexFunc_api_Prop_api_Prop : FC 37 = some c_slices_IndexFunc_api_Prop_api_Prop := by kernel_rfl
theorem cb_slices_IndexFunc_api_Prop_api_Prop : c_slices_IndexFunc_api_Prop_api_Prop.body = b_slices_IndexFunc_api_Prop_api_Prop := rfl
theorem cr_slices_IndexFunc_api_Prop_api_Prop : c_slices_IndexFunc_api_Prop_api_Prop.res = [(.tmp 4)] := rfl
/-- slots [8, 7, 1, 0] -/
noncomputable def K_slices_IndexFunc_api_Prop_api_Prop_l2 (m : Nat) (tm : Tms) (σ : AHeap) : Option (AVal × AHeap) := (finA m c_slices_IndexFunc_api_Prop_api_Prop (seqX FC PR BY m c_slices_IndexFunc_api_Prop_api_Prop_k0 (Option.map (blockA 0) (evL FC PR BY m [8, 7, 1, 0] c_slices_IndexFunc_api_Prop_api_Prop_l2 tm σ))))
def c_slices_Index_int_int_k0 : ACode := (.seq (.region [⟨(some 4), (.mov (.c (.int .i64 (-1)))), none, []⟩] none [4]) .ret)
theorem x_slices_Index_int_int_k0 (m : Nat) (tm : Tms) (σ : AHeap) : evC FC PR BY m c_slices_Index_int_int_k0 tm σ = evC FC PR BY m (.seq (.region [⟨(some 4), (.mov (.c (.int .i64 (-1)))), none, []⟩] none [4]) .ret) tm σ := rfl
def c_slices_Index_int_int_l2 : ACode := (.seq (.region [⟨(some 9), (.bin .lss (.t 8) (.t 7)), none, []⟩] none [9, 8, 7, 1, 0]) (.seq (.cond (.t 9) .skip (.exit 0)) (.seq (.block 1 (.seq (.region [⟨(some 10), (.mov (.t 8)), none, []⟩, ⟨(some 5), (.mov (.t 10)), none, []⟩] none [8, 7, 5, 1, 0]) (.seq (.region [⟨(some 11), (.mov (.t 1)), none, []⟩, ⟨(some 12), (.mov (.t 0)), none, []⟩, ⟨(some 13), (.mov (.t 5)), none, []⟩, ⟨(some 14), (.iaddr 1 (.t 12) (.t 13)), none, []⟩, ⟨(some 15), (.ld none (.t 14)), none, []⟩, ⟨(some 16), (.bin .eql (.t 11) (.t 15)), none, []⟩] none [16, 8, 7, 5, 1, 0]) (.cond (.t 16) (.seq (.region [⟨(some 17), (.mov (.t 5)), none, []⟩, ⟨(some 4), (.mov (.t 17)), none, []⟩] none [4]) .ret) .skip)))) (.region [⟨(some 18), (.bin .add (.t 8) (.c (.int .i64 1))), none, []⟩, ⟨(some 8), (.mov (.t 18)), none, []⟩] none [8, 7, 1, 0]))))
theorem x_slices_Index_int_int_l2 (m : Nat) (tm : Tms) (σ : AHeap) : evC FC PR BY m c_slices_Index_int_int_l2 tm σ = evC FC PR BY m (.seq (.region [⟨(some 9), (.bin .lss (.t 8) (.t 7)), none, []⟩] none [9, 8, 7, 1, 0]) (.seq (.cond (.t 9) .skip (.exit 0)) (.seq (.block 1 (.seq (.region [⟨(some 10), (.mov (.t 8)), none, []⟩, ⟨(some 5), (.mov (.t 10)), none, []⟩] none [8, 7, 5, 1, 0]) (.seq (.region [⟨(some 11), (.mov (.t 1)), none, []⟩, ⟨(some 12), (.mov (.t 0)), none, []⟩, ⟨(some 13), (.mov (.t 5)), none, []⟩, ⟨(some 14), (.iaddr 1 (.t 12) (.t 13)), none, []⟩, ⟨(some 15), (.ld none (.t 14)), none, []⟩, ⟨(some 16), (.bin .eql (.t 11) (.t 15)), none, []⟩] none [16, 8, 7, 5, 1, 0]) (.cond (.t 16) (.seq (.region [⟨(some 17), (.mov (.t 5)), none, []⟩, ⟨(some 4), (.mov (.t 17)), none, []⟩] none [4]) .ret) .skip)))) (.region [⟨(some 18), (.bin .add (.t 8) (.c (.int .i64 1))), none, []⟩, ⟨(some 8), (.mov (.t 18)), none, []⟩] none [8, 7, 1, 0])))) tm σ := rfl
def b_slices_Index_int_int : ACode := (.seq (.region [⟨(some 4), (.mov (.c (.int .i64 0))), none, []⟩] none [1, 0]) (.seq (.seq (.region [⟨(some 6), (.mov (.t 0)), none, []⟩, ⟨(some 7), (.len (.t 6)), none, []⟩, ⟨(some 8), (.mov (.c (.int .i64 0))), none, []⟩] none [8, 7, 1, 0]) (.block 0 (.loop [8, 7, 1, 0] c_slices_Index_int_int_l2))) c_slices_Index_int_int_k0))
def c_slices_Index_int_int : AFunc := ⟨[(.tmp 4)], b_slices_Index_int_int⟩
theorem cf_slices_Index_int_int : FC 60 = some c_slices_Index_int_int := by kernel_rfl
theorem cb_slices_Index_int_int : c_slices_Index_int_int.body = b_slices_Index_int_int := rfl
theorem cr_slices_Index_int_int : c_slices_Index_int_int.res = [(.tmp 4)] := rfl
/-- slots [8, 7, 1, 0] -/
noncomputable def K_slices_Index_int_int_l2 (m : Nat) (tm : Tms) (σ : AHeap) : Option (AVal × AHeap) := (finA m c_slices_Index_int_int (seqX FC PR BY m c_slices_Index_int_int_k0 (Option.map (blockA 0) (evL FC PR BY m [8, 7, 1, 0] c_slices_Index_int_int_l2 tm σ))))
end Go.Proofs.YtaaflagbhneakaaDoor
namespace Go.Proofs.YtaaflagbhneakaaDoor
set_option linter.unusedSimpArgs false
set_option linter.unusedVariables false
set_option maxHeartbeats 4000000
set_option maxRecDepth 10000
theorem q_bequal (a b : Bytes) : E 46 [bytesV a, bytesV b] [] = some (.bool (a == b), []) := by
  rw [E_eq (by rfl) cf_bytes_Equal]
  simp -implicitDefEqProofs only [EVS0, EVS1, EVS2, EVS3, EVS4, EVS5, EVS6, EVS7, EVL0, EVL1, ite_tf, ite_ft, ite_tft, ite_ftf, ite_list, ite_tt, ite_ee, ite_nt, ite_ne, eq_self, implies_true, forall_const, exI, nsite, freeAt, execI, Opd.ev, tget, tins, tput, keepL, sitesOf, List.sum_cons, List.sum_nil, Nat.reduceAdd, Nat.reduceSub, Nat.reduceLT, Nat.reduceLeDiff, Nat.reduceEqDiff, Nat.reduceBEq, Nat.reduceMul, beq_self_eq_true, Bool.false_eq_true, ldA, stA, partA, faddrA, setAt, binA, arithA, shiftA, strA, unA, gSpan, gSkip, unG, ne_eq, Option.some.injEq, reduceCtorEq, decide_true, decide_false, elemsA, resA, resAll, resOne, enterA, decide_eq_true_eq, Bool.not_eq_true, Bool.decide_eq_true, ite_self, ↓reduceIte, noRefL, clrA, gcT, gcA, gcIds, reach, rhoOf, heapOf, idxA, genB, newGen, renB, refsB, List.contains_cons, List.range_succ, cb_bytes_Equal, b_bytes_Equal, cr_bytes_Equal, intsV, bytesV, propsV, propV, propC, bytesOf_map, intsV]
theorem q_bequalC (σ : AHeap) (site own : Nat) (view : Bool) (a b : Bytes) : callG E BY σ site 46 own view [.lst false (a.map byteV), .lst false (b.map byteV)] = some (.bool (a == b), σ, {}) :=
  call_flat (q_bequal a b) (by kernel_rfl) (by simp -implicitDefEqProofs only [EVS0, EVS1, EVS2, EVS3, EVS4, EVS5, EVS6, EVS7, EVL0, EVL1, eq_self, implies_true, Bool.false_eq_true, intsV, bytesV, propsV, propV, propC, intsV]) (by simp -implicitDefEqProofs only [EVS0, EVS1, EVS2, EVS3, EVS4, EVS5, EVS6, EVS7, EVL0, EVL1, eq_self, implies_true, Bool.false_eq_true, intsV, bytesV, propsV, propV, propC, intsV]) rfl (fun _ => rfl) _ _ _ _
def enterI (l : List UserD) (op : Bool) (p : PacketD) : Int :=
  if p.hasUser then (match secP p.user l with
    | none => 134
    | some u => if p.hasPassword && u.secret == p.password then 0 else 134)
  else if p.hasPassword then 134 else if op then 0 else 135
theorem q_enterG (l : List UserD) (hl : l.length ≤ 9223372036854775807) (hd : ∀ u ∈ l, u.secret.length ≤ 140737488355328) (o : Int) (op : Bool) (p : PacketD) : E 35 [.agg [.int .i64 o, .bool op, .lst false (l.map userV)], packV p] [] = some (.int .i64 (enterI l op p), []) := by
  have hS := fun σ site own => q_secC σ site own l hl hd p.user o op
  rw [E_eq (by rfl) cf_proof_Enter]
  unfold packV enterI
  cases h1 : p.hasUser
  · cases h2 : p.hasPassword
    · cases op
      · simp -implicitDefEqProofs only [EVS0, EVS1, EVS2, EVS3, EVS4, EVS5, EVS6, EVS7, EVL0, EVL1, ite_tf, ite_ft, ite_tft, ite_ftf, ite_list, ite_tt, ite_ee, ite_nt, ite_ne, eq_self, implies_true, forall_const, exI, nsite, freeAt, execI, Opd.ev, tget, tins, tput, keepL, sitesOf, List.sum_cons, List.sum_nil, Nat.reduceAdd, Nat.reduceSub, Nat.reduceLT, Nat.reduceLeDiff, Nat.reduceEqDiff, Nat.reduceBEq, Nat.reduceMul, beq_self_eq_true, Bool.false_eq_true, ldA, stA, partA, faddrA, setAt, binA, arithA, shiftA, strA, unA, gSpan, gSkip, unG, ne_eq, Option.some.injEq, reduceCtorEq, decide_true, decide_false, elemsA, resA, resAll, resOne, enterA, decide_eq_true_eq, Bool.not_eq_true, Bool.decide_eq_true, ite_self, ↓reduceIte, noRefL, clrA, gcT, gcA, gcIds, reach, rhoOf, heapOf, idxA, genB, newGen, renB, refsB, List.contains_cons, List.range_succ, cb_proof_Enter, b_proof_Enter, cr_proof_Enter, intsV, bytesV, propsV, propV, propC, bytesOf_map, h1, h2]
      · simp -implicitDefEqProofs only [EVS0, EVS1, EVS2, EVS3, EVS4, EVS5, EVS6, EVS7, EVL0, EVL1, ite_tf, ite_ft, ite_tft, ite_ftf, ite_list, ite_tt, ite_ee, ite_nt, ite_ne, eq_self, implies_true, forall_const, exI, nsite, freeAt, execI, Opd.ev, tget, tins, tput, keepL, sitesOf, List.sum_cons, List.sum_nil, Nat.reduceAdd, Nat.reduceSub, Nat.reduceLT, Nat.reduceLeDiff, Nat.reduceEqDiff, Nat.reduceBEq, Nat.reduceMul, beq_self_eq_true, Bool.false_eq_true, ldA, stA, partA, faddrA, setAt, binA, arithA, shiftA, strA, unA, gSpan, gSkip, unG, ne_eq, Option.some.injEq, reduceCtorEq, decide_true, decide_false, elemsA, resA, resAll, resOne, enterA, decide_eq_true_eq, Bool.not_eq_true, Bool.decide_eq_true, ite_self, ↓reduceIte, noRefL, clrA, gcT, gcA, gcIds, reach, rhoOf, heapOf, idxA, genB, newGen, renB, refsB, List.contains_cons, List.range_succ, cb_proof_Enter, b_proof_Enter, cr_proof_Enter, intsV, bytesV, propsV, propV, propC, bytesOf_map, h1, h2]
    · simp -implicitDefEqProofs only [EVS0, EVS1, EVS2, EVS3, EVS4, EVS5, EVS6, EVS7, EVL0, EVL1, ite_tf, ite_ft, ite_tft, ite_ftf, ite_list, ite_tt, ite_ee, ite_nt, ite_ne, eq_self, implies_true, forall_const, exI, nsite, freeAt, execI, Opd.ev, tget, tins, tput, keepL, sitesOf, List.sum_cons, List.sum_nil, Nat.reduceAdd, Nat.reduceSub, Nat.reduceLT, Nat.reduceLeDiff, Nat.reduceEqDiff, Nat.reduceBEq, Nat.reduceMul, beq_self_eq_true, Bool.false_eq_true, ldA, stA, partA, faddrA, setAt, binA, arithA, shiftA, strA, unA, gSpan, gSkip, unG, ne_eq, Option.some.injEq, reduceCtorEq, decide_true, decide_false, elemsA, resA, resAll, resOne, enterA, decide_eq_true_eq, Bool.not_eq_true, Bool.decide_eq_true, ite_self, ↓reduceIte, noRefL, clrA, gcT, gcA, gcIds, reach, rhoOf, heapOf, idxA, genB, newGen, renB, refsB, List.contains_cons, List.range_succ, cb_proof_Enter, b_proof_Enter, cr_proof_Enter, intsV, bytesV, propsV, propV, propC, bytesOf_map, h1, h2]
  · cases hf : secP p.user l with
    | none => rw [hf] at hS; simp -implicitDefEqProofs only [EVS0, EVS1, EVS2, EVS3, EVS4, EVS5, EVS6, EVS7, EVL0, EVL1, ite_tf, ite_ft, ite_tft, ite_ftf, ite_list, ite_tt, ite_ee, ite_nt, ite_ne, eq_self, implies_true, forall_const, exI, nsite, freeAt, execI, Opd.ev, tget, tins, tput, keepL, sitesOf, List.sum_cons, List.sum_nil, Nat.reduceAdd, Nat.reduceSub, Nat.reduceLT, Nat.reduceLeDiff, Nat.reduceEqDiff, Nat.reduceBEq, Nat.reduceMul, beq_self_eq_true, Bool.false_eq_true, ldA, stA, partA, faddrA, setAt, binA, arithA, shiftA, strA, unA, gSpan, gSkip, unG, ne_eq, Option.some.injEq, reduceCtorEq, decide_true, decide_false, elemsA, resA, resAll, resOne, enterA, decide_eq_true_eq, Bool.not_eq_true, Bool.decide_eq_true, ite_self, ↓reduceIte, noRefL, clrA, gcT, gcA, gcIds, reach, rhoOf, heapOf, idxA, genB, newGen, renB, refsB, List.contains_cons, List.range_succ, cb_proof_Enter, b_proof_Enter, cr_proof_Enter, intsV, bytesV, propsV, propV, propC, bytesOf_map, h1, hS, secV]
    | some u =>
      rw [hf] at hS
      cases h2 : p.hasPassword
      · simp -implicitDefEqProofs only [EVS0, EVS1, EVS2, EVS3, EVS4, EVS5, EVS6, EVS7, EVL0, EVL1, ite_tf, ite_ft, ite_tft, ite_ftf, ite_list, ite_tt, ite_ee, ite_nt, ite_ne, eq_self, implies_true, forall_const, exI, nsite, freeAt, execI, Opd.ev, tget, tins, tput, keepL, sitesOf, List.sum_cons, List.sum_nil, Nat.reduceAdd, Nat.reduceSub, Nat.reduceLT, Nat.reduceLeDiff, Nat.reduceEqDiff, Nat.reduceBEq, Nat.reduceMul, beq_self_eq_true, Bool.false_eq_true, ldA, stA, partA, faddrA, setAt, binA, arithA, shiftA, strA, unA, gSpan, gSkip, unG, ne_eq, Option.some.injEq, reduceCtorEq, decide_true, decide_false, elemsA, resA, resAll, resOne, enterA, decide_eq_true_eq, Bool.not_eq_true, Bool.decide_eq_true, ite_self, ↓reduceIte, noRefL, clrA, gcT, gcA, gcIds, reach, rhoOf, heapOf, idxA, genB, newGen, renB, refsB, List.contains_cons, List.range_succ, cb_proof_Enter, b_proof_Enter, cr_proof_Enter, intsV, bytesV, propsV, propV, propC, bytesOf_map, h1, h2, hS, secV, q_bequalC]
      · cases h3 : (u.secret == p.password)
        · simp -implicitDefEqProofs only [EVS0, EVS1, EVS2, EVS3, EVS4, EVS5, EVS6, EVS7, EVL0, EVL1, ite_tf, ite_ft, ite_tft, ite_ftf, ite_list, ite_tt, ite_ee, ite_nt, ite_ne, eq_self, implies_true, forall_const, exI, nsite, freeAt, execI, Opd.ev, tget, tins, tput, keepL, sitesOf, List.sum_cons, List.sum_nil, Nat.reduceAdd, Nat.reduceSub, Nat.reduceLT, Nat.reduceLeDiff, Nat.reduceEqDiff, Nat.reduceBEq, Nat.reduceMul, beq_self_eq_true, Bool.false_eq_true, ldA, stA, partA, faddrA, setAt, binA, arithA, shiftA, strA, unA, gSpan, gSkip, unG, ne_eq, Option.some.injEq, reduceCtorEq, decide_true, decide_false, elemsA, resA, resAll, resOne, enterA, decide_eq_true_eq, Bool.not_eq_true, Bool.decide_eq_true, ite_self, ↓reduceIte, noRefL, clrA, gcT, gcA, gcIds, reach, rhoOf, heapOf, idxA, genB, newGen, renB, refsB, List.contains_cons, List.range_succ, cb_proof_Enter, b_proof_Enter, cr_proof_Enter, intsV, bytesV, propsV, propV, propC, bytesOf_map, h1, h2, h3, hS, secV, q_bequalC]
        · simp -implicitDefEqProofs only [EVS0, EVS1, EVS2, EVS3, EVS4, EVS5, EVS6, EVS7, EVL0, EVL1, ite_tf, ite_ft, ite_tft, ite_ftf, ite_list, ite_tt, ite_ee, ite_nt, ite_ne, eq_self, implies_true, forall_const, exI, nsite, freeAt, execI, Opd.ev, tget, tins, tput, keepL, sitesOf, List.sum_cons, List.sum_nil, Nat.reduceAdd, Nat.reduceSub, Nat.reduceLT, Nat.reduceLeDiff, Nat.reduceEqDiff, Nat.reduceBEq, Nat.reduceMul, beq_self_eq_true, Bool.false_eq_true, ldA, stA, partA, faddrA, setAt, binA, arithA, shiftA, strA, unA, gSpan, gSkip, unG, ne_eq, Option.some.injEq, reduceCtorEq, decide_true, decide_false, elemsA, resA, resAll, resOne, enterA, decide_eq_true_eq, Bool.not_eq_true, Bool.decide_eq_true, ite_self, ↓reduceIte, noRefL, clrA, gcT, gcA, gcIds, reach, rhoOf, heapOf, idxA, genB, newGen, renB, refsB, List.contains_cons, List.range_succ, cb_proof_Enter, b_proof_Enter, cr_proof_Enter, intsV, bytesV, propsV, propV, propC, bytesOf_map, h1, h2, h3, hS, secV, q_bequalC]
theorem q_renterG (l : List UserD) (hl : l.length ≤ 9223372036854775807) (o : Int) (op : Bool) (p : PacketD) : E 27 [.agg [.int .i64 o, .bool op, .lst false (l.map userV)], packV p] [] = some (.int .i64 (enterI l op p), []) := by
  have hS := fun σ site own => q_rsecC σ site own l hl p.user o op
  rw [E_eq (by rfl) cf_tidingsref22_Enter]
  unfold packV enterI
  cases h1 : p.hasUser
  · cases h2 : p.hasPassword
    · cases op
      · simp -implicitDefEqProofs only [EVS0, EVS1, EVS2, EVS3, EVS4, EVS5, EVS6, EVS7, EVL0, EVL1, ite_tf, ite_ft, ite_tft, ite_ftf, ite_list, ite_tt, ite_ee, ite_nt, ite_ne, eq_self, implies_true, forall_const, exI, nsite, freeAt, execI, Opd.ev, tget, tins, tput, keepL, sitesOf, List.sum_cons, List.sum_nil, Nat.reduceAdd, Nat.reduceSub, Nat.reduceLT, Nat.reduceLeDiff, Nat.reduceEqDiff, Nat.reduceBEq, Nat.reduceMul, beq_self_eq_true, Bool.false_eq_true, ldA, stA, partA, faddrA, setAt, binA, arithA, shiftA, strA, unA, gSpan, gSkip, unG, ne_eq, Option.some.injEq, reduceCtorEq, decide_true, decide_false, elemsA, resA, resAll, resOne, enterA, decide_eq_true_eq, Bool.not_eq_true, Bool.decide_eq_true, ite_self, ↓reduceIte, noRefL, clrA, gcT, gcA, gcIds, reach, rhoOf, heapOf, idxA, genB, newGen, renB, refsB, List.contains_cons, List.range_succ, cb_tidingsref22_Enter, b_tidingsref22_Enter, cr_tidingsref22_Enter, intsV, bytesV, propsV, propV, propC, bytesOf_map, h1, h2]
      · simp -implicitDefEqProofs only [EVS0, EVS1, EVS2, EVS3, EVS4, EVS5, EVS6, EVS7, EVL0, EVL1, ite_tf, ite_ft, ite_tft, ite_ftf, ite_list, ite_tt, ite_ee, ite_nt, ite_ne, eq_self, implies_true, forall_const, exI, nsite, freeAt, execI, Opd.ev, tget, tins, tput, keepL, sitesOf, List.sum_cons, List.sum_nil, Nat.reduceAdd, Nat.reduceSub, Nat.reduceLT, Nat.reduceLeDiff, Nat.reduceEqDiff, Nat.reduceBEq, Nat.reduceMul, beq_self_eq_true, Bool.false_eq_true, ldA, stA, partA, faddrA, setAt, binA, arithA, shiftA, strA, unA, gSpan, gSkip, unG, ne_eq, Option.some.injEq, reduceCtorEq, decide_true, decide_false, elemsA, resA, resAll, resOne, enterA, decide_eq_true_eq, Bool.not_eq_true, Bool.decide_eq_true, ite_self, ↓reduceIte, noRefL, clrA, gcT, gcA, gcIds, reach, rhoOf, heapOf, idxA, genB, newGen, renB, refsB, List.contains_cons, List.range_succ, cb_tidingsref22_Enter, b_tidingsref22_Enter, cr_tidingsref22_Enter, intsV, bytesV, propsV, propV, propC, bytesOf_map, h1, h2]
    · simp -implicitDefEqProofs only [EVS0, EVS1, EVS2, EVS3, EVS4, EVS5, EVS6, EVS7, EVL0, EVL1, ite_tf, ite_ft, ite_tft, ite_ftf, ite_list, ite_tt, ite_ee, ite_nt, ite_ne, eq_self, implies_true, forall_const, exI, nsite, freeAt, execI, Opd.ev, tget, tins, tput, keepL, sitesOf, List.sum_cons, List.sum_nil, Nat.reduceAdd, Nat.reduceSub, Nat.reduceLT, Nat.reduceLeDiff, Nat.reduceEqDiff, Nat.reduceBEq, Nat.reduceMul, beq_self_eq_true, Bool.false_eq_true, ldA, stA, partA, faddrA, setAt, binA, arithA, shiftA, strA, unA, gSpan, gSkip, unG, ne_eq, Option.some.injEq, reduceCtorEq, decide_true, decide_false, elemsA, resA, resAll, resOne, enterA, decide_eq_true_eq, Bool.not_eq_true, Bool.decide_eq_true, ite_self, ↓reduceIte, noRefL, clrA, gcT, gcA, gcIds, reach, rhoOf, heapOf, idxA, genB, newGen, renB, refsB, List.contains_cons, List.range_succ, cb_tidingsref22_Enter, b_tidingsref22_Enter, cr_tidingsref22_Enter, intsV, bytesV, propsV, propV, propC, bytesOf_map, h1, h2]
  · cases hf : secP p.user l with
    | none => rw [hf] at hS; simp -implicitDefEqProofs only [EVS0, EVS1, EVS2, EVS3, EVS4, EVS5, EVS6, EVS7, EVL0, EVL1, ite_tf, ite_ft, ite_tft, ite_ftf, ite_list, ite_tt, ite_ee, ite_nt, ite_ne, eq_self, implies_true, forall_const, exI, nsite, freeAt, execI, Opd.ev, tget, tins, tput, keepL, sitesOf, List.sum_cons, List.sum_nil, Nat.reduceAdd, Nat.reduceSub, Nat.reduceLT, Nat.reduceLeDiff, Nat.reduceEqDiff, Nat.reduceBEq, Nat.reduceMul, beq_self_eq_true, Bool.false_eq_true, ldA, stA, partA, faddrA, setAt, binA, arithA, shiftA, strA, unA, gSpan, gSkip, unG, ne_eq, Option.some.injEq, reduceCtorEq, decide_true, decide_false, elemsA, resA, resAll, resOne, enterA, decide_eq_true_eq, Bool.not_eq_true, Bool.decide_eq_true, ite_self, ↓reduceIte, noRefL, clrA, gcT, gcA, gcIds, reach, rhoOf, heapOf, idxA, genB, newGen, renB, refsB, List.contains_cons, List.range_succ, cb_tidingsref22_Enter, b_tidingsref22_Enter, cr_tidingsref22_Enter, intsV, bytesV, propsV, propV, propC, bytesOf_map, h1, hS, secV]
    | some u =>
      rw [hf] at hS
      cases h2 : p.hasPassword
      · simp -implicitDefEqProofs only [EVS0, EVS1, EVS2, EVS3, EVS4, EVS5, EVS6, EVS7, EVL0, EVL1, ite_tf, ite_ft, ite_tft, ite_ftf, ite_list, ite_tt, ite_ee, ite_nt, ite_ne, eq_self, implies_true, forall_const, exI, nsite, freeAt, execI, Opd.ev, tget, tins, tput, keepL, sitesOf, List.sum_cons, List.sum_nil, Nat.reduceAdd, Nat.reduceSub, Nat.reduceLT, Nat.reduceLeDiff, Nat.reduceEqDiff, Nat.reduceBEq, Nat.reduceMul, beq_self_eq_true, Bool.false_eq_true, ldA, stA, partA, faddrA, setAt, binA, arithA, shiftA, strA, unA, gSpan, gSkip, unG, ne_eq, Option.some.injEq, reduceCtorEq, decide_true, decide_false, elemsA, resA, resAll, resOne, enterA, decide_eq_true_eq, Bool.not_eq_true, Bool.decide_eq_true, ite_self, ↓reduceIte, noRefL, clrA, gcT, gcA, gcIds, reach, rhoOf, heapOf, idxA, genB, newGen, renB, refsB, List.contains_cons, List.range_succ, cb_tidingsref22_Enter, b_tidingsref22_Enter, cr_tidingsref22_Enter, intsV, bytesV, propsV, propV, propC, bytesOf_map, h1, h2, hS, secV]
      · cases h3 : (u.secret == p.password)
        · simp -implicitDefEqProofs only [EVS0, EVS1, EVS2, EVS3, EVS4, EVS5, EVS6, EVS7, EVL0, EVL1, ite_tf, ite_ft, ite_tft, ite_ftf, ite_list, ite_tt, ite_ee, ite_nt, ite_ne, eq_self, implies_true, forall_const, exI, nsite, freeAt, execI, Opd.ev, tget, tins, tput, keepL, sitesOf, List.sum_cons, List.sum_nil, Nat.reduceAdd, Nat.reduceSub, Nat.reduceLT, Nat.reduceLeDiff, Nat.reduceEqDiff, Nat.reduceBEq, Nat.reduceMul, beq_self_eq_true, Bool.false_eq_true, ldA, stA, partA, faddrA, setAt, binA, arithA, shiftA, strA, unA, gSpan, gSkip, unG, ne_eq, Option.some.injEq, reduceCtorEq, decide_true, decide_false, elemsA, resA, resAll, resOne, enterA, decide_eq_true_eq, Bool.not_eq_true, Bool.decide_eq_true, ite_self, ↓reduceIte, noRefL, clrA, gcT, gcA, gcIds, reach, rhoOf, heapOf, idxA, genB, newGen, renB, refsB, List.contains_cons, List.range_succ, cb_tidingsref22_Enter, b_tidingsref22_Enter, cr_tidingsref22_Enter, intsV, bytesV, propsV, propV, propC, bytesOf_map, h1, h2, h3, hS, secV]
        · simp -implicitDefEqProofs only [EVS0, EVS1, EVS2, EVS3, EVS4, EVS5, EVS6, EVS7, EVL0, EVL1, ite_tf, ite_ft, ite_tft, ite_ftf, ite_list, ite_tt, ite_ee, ite_nt, ite_ne, eq_self, implies_true, forall_const, exI, nsite, freeAt, execI, Opd.ev, tget, tins, tput, keepL, sitesOf, List.sum_cons, List.sum_nil, Nat.reduceAdd, Nat.reduceSub, Nat.reduceLT, Nat.reduceLeDiff, Nat.reduceEqDiff, Nat.reduceBEq, Nat.reduceMul, beq_self_eq_true, Bool.false_eq_true, ldA, stA, partA, faddrA, setAt, binA, arithA, shiftA, strA, unA, gSpan, gSkip, unG, ne_eq, Option.some.injEq, reduceCtorEq, decide_true, decide_false, elemsA, resA, resAll, resOne, enterA, decide_eq_true_eq, Bool.not_eq_true, Bool.decide_eq_true, ite_self, ↓reduceIte, noRefL, clrA, gcT, gcA, gcIds, reach, rhoOf, heapOf, idxA, genB, newGen, renB, refsB, List.contains_cons, List.range_succ, cb_tidingsref22_Enter, b_tidingsref22_Enter, cr_tidingsref22_Enter, intsV, bytesV, propsV, propV, propC, bytesOf_map, h1, h2, h3, hS, secV]
end Go.Proofs.YtaaflagbhneakaaDoor
namespace Go.Proofs.YtaaflagbhneakaaDoor
set_option linter.unusedSimpArgs false
set_option linter.unusedVariables false
def b_tidingsref14_Name : ACode := (.seq (.region [⟨(some 2), (.mov (.c (.bool false))), none, []⟩] none [0]) (.seq (.region [⟨(some 3), (.mov (.t 0)), none, []⟩, ⟨(some 4), (.call 40 0 true [(.t 3)]), none, []⟩, ⟨(some 5), (.mov (.t 4)), none, []⟩, ⟨(some 6), (.mov (.t 0)), (some (5, true)), []⟩, ⟨(some 7), (.call 41 0 true [(.t 6), (.c (.int .u8 43))]), (some (5, true)), []⟩, ⟨(some 8), (.un .not (.t 7)), (some (5, true)), []⟩, ⟨(some 9), (.pick (.t 5) (.t 8) (.c (.bool false))), none, []⟩, ⟨(some 10), (.mov (.t 9)), none, []⟩, ⟨(some 11), (.mov (.t 0)), (some (10, true)), []⟩, ⟨(some 12), (.call 41 0 true [(.t 11), (.c (.int .u8 35))]), (some (10, true)), []⟩, ⟨(some 13), (.un .not (.t 12)), (some (10, true)), []⟩, ⟨(some 14), (.pick (.t 10) (.t 13) (.c (.bool false))), none, []⟩, ⟨(some 2), (.mov (.t 14)), none, []⟩] none [2]) .ret))
def c_tidingsref14_Name : AFunc := ⟨[(.tmp 2)], b_tidingsref14_Name⟩
theorem cf_tidingsref14_Name : FC 24 = some c_tidingsref14_Name := by kernel_rfl
theorem cb_tidingsref14_Name : c_tidingsref14_Name.body = b_tidingsref14_Name := rfl
theorem cr_tidingsref14_Name : c_tidingsref14_Name.res = [(.tmp 2)] := rfl
def c_tidingsref14_has_k0 : ACode := (.seq (.region [⟨(some 4), (.mov (.c (.bool false))), none, []⟩] none [4]) .ret)
theorem x_tidingsref14_has_k0 (m : Nat) (tm : Tms) (σ : AHeap) : evC FC PR BY m c_tidingsref14_has_k0 tm σ = evC FC PR BY m (.seq (.region [⟨(some 4), (.mov (.c (.bool false))), none, []⟩] none [4]) .ret) tm σ := rfl
def c_tidingsref14_has_l2 : ACode := (.seq (.seq (.region [⟨(some 6), (.mov (.t 5)), none, []⟩, ⟨(some 7), (.mov (.t 0)), none, []⟩, ⟨(some 8), (.slen (.t 7)), none, []⟩, ⟨(some 9), (.bin .lss (.t 6) (.t 8)), none, []⟩] none [9, 5, 1, 0]) (.cond (.t 9) .skip (.exit 0))) (.seq (.block 1 (.seq (.region [⟨(some 12), (.mov (.t 0)), none, []⟩, ⟨(some 13), (.mov (.t 5)), none, []⟩, ⟨(some 14), (.sindex (.t 12) (.t 13)), none, []⟩, ⟨(some 15), (.mov (.t 1)), none, []⟩, ⟨(some 16), (.bin .eql (.t 14) (.t 15)), none, []⟩] none [16, 5, 1, 0]) (.cond (.t 16) (.seq (.region [⟨(some 4), (.mov (.c (.bool true))), none, []⟩] none [4]) .ret) .skip))) (.region [⟨(some 10), (.mov (.t 5)), none, []⟩, ⟨(some 11), (.bin .add (.t 10) (.c (.int .i64 1))), none, []⟩, ⟨(some 5), (.mov (.t 11)), none, []⟩] none [5, 1, 0])))
theorem x_tidingsref14_has_l2 (m : Nat) (tm : Tms) (σ : AHeap) : evC FC PR BY m c_tidingsref14_has_l2 tm σ = evC FC PR BY m (.seq (.seq (.region [⟨(some 6), (.mov (.t 5)), none, []⟩, ⟨(some 7), (.mov (.t 0)), none, []⟩, ⟨(some 8), (.slen (.t 7)), none, []⟩, ⟨(some 9), (.bin .lss (.t 6) (.t 8)), none, []⟩] none [9, 5, 1, 0]) (.cond (.t 9) .skip (.exit 0))) (.seq (.block 1 (.seq (.region [⟨(some 12), (.mov (.t 0)), none, []⟩, ⟨(some 13), (.mov (.t 5)), none, []⟩, ⟨(some 14), (.sindex (.t 12) (.t 13)), none, []⟩, ⟨(some 15), (.mov (.t 1)), none, []⟩, ⟨(some 16), (.bin .eql (.t 14) (.t 15)), none, []⟩] none [16, 5, 1, 0]) (.cond (.t 16) (.seq (.region [⟨(some 4), (.mov (.c (.bool true))), none, []⟩] none [4]) .ret) .skip))) (.region [⟨(some 10), (.mov (.t 5)), none, []⟩, ⟨(some 11), (.bin .add (.t 10) (.c (.int .i64 1))), none, []⟩, ⟨(some 5), (.mov (.t 11)), none, []⟩] none [5, 1, 0]))) tm σ := rfl
def b_tidingsref14_has : ACode := (.seq (.region [⟨(some 4), (.mov (.c (.bool false))), none, []⟩] none [1, 0]) (.seq (.seq (.region [⟨(some 5), (.mov (.c (.int .i64 0))), none, []⟩] none [5, 1, 0]) (.block 0 (.loop [5, 1, 0] c_tidingsref14_has_l2))) c_tidingsref14_has_k0))
def c_tidingsref14_has : AFunc := ⟨[(.tmp 4)], b_tidingsref14_has⟩
theorem cf_tidingsref14_has : FC 41 = some c_tidingsref14_has := by kernel_rfl
theorem cb_tidingsref14_has : c_tidingsref14_has.body = b_tidingsref14_has := rfl
theorem cr_tidingsref14_has : c_tidingsref14_has.res = [(.tmp 4)] := rfl
/-- slots [5, 1, 0] -/
noncomputable def K_tidingsref14_has_l2 (m : Nat) (tm : Tms) (σ : AHeap) : Option (AVal × AHeap) := (finA m c_tidingsref14_has (seqX FC PR BY m c_tidingsref14_has_k0 (Option.map (blockA 0) (evL FC PR BY m [5, 1, 0] c_tidingsref14_has_l2 tm σ))))
def b_tidingsref14_sized : ACode := (.seq (.region [⟨(some 2), (.mov (.c (.bool false))), none, []⟩] none [0]) (.seq (.region [⟨(some 3), (.mov (.t 0)), none, []⟩, ⟨(some 4), (.slen (.t 3)), none, []⟩, ⟨(some 5), (.bin .geq (.t 4) (.c (.int .i64 1))), none, []⟩, ⟨(some 6), (.mov (.t 5)), none, []⟩, ⟨(some 7), (.mov (.t 0)), (some (6, true)), []⟩, ⟨(some 8), (.slen (.t 7)), (some (6, true)), []⟩, ⟨(some 9), (.bin .leq (.t 8) (.c (.int .i64 64))), (some (6, true)), []⟩, ⟨(some 10), (.pick (.t 6) (.t 9) (.c (.bool false))), none, []⟩, ⟨(some 11), (.mov (.t 10)), none, []⟩, ⟨(some 12), (.mov (.t 0)), (some (11, true)), []⟩, ⟨(some 13), (.call 48 0 true [(.t 12)]), (some (11, true)), []⟩, ⟨(some 14), (.pick (.t 11) (.t 13) (.c (.bool false))), none, []⟩, ⟨(some 2), (.mov (.t 14)), none, []⟩] none [2]) .ret))
def c_tidingsref14_sized : AFunc := ⟨[(.tmp 2)], b_tidingsref14_sized⟩
theorem cf_tidingsref14_sized : FC 40 = some c_tidingsref14_sized := by kernel_rfl
theorem cb_tidingsref14_sized : c_tidingsref14_sized.body = b_tidingsref14_sized := rfl
theorem cr_tidingsref14_sized : c_tidingsref14_sized.res = [(.tmp 2)] := rfl
def b_topic_Name : ACode := (.seq (.region [⟨(some 2), (.mov (.c (.bool false))), none, []⟩] none [0]) (.seq (.region [⟨(some 3), (.mov (.t 0)), none, []⟩, ⟨(some 4), (.call 44 0 true [(.t 3)]), none, []⟩, ⟨(some 5), (.mov (.t 4)), none, []⟩, ⟨(some 6), (.mov (.t 0)), (some (5, true)), []⟩, ⟨(some 7), (.call 45 0 true [(.t 6), (.c (.str [43, 35]))]), (some (5, true)), []⟩, ⟨(some 8), (.un .not (.t 7)), (some (5, true)), []⟩, ⟨(some 9), (.pick (.t 5) (.t 8) (.c (.bool false))), none, []⟩, ⟨(some 2), (.mov (.t 9)), none, []⟩] none [2]) .ret))
def c_topic_Name : AFunc := ⟨[(.tmp 2)], b_topic_Name⟩
theorem cf_topic_Name : FC 34 = some c_topic_Name := by kernel_rfl
theorem cb_topic_Name : c_topic_Name.body = b_topic_Name := rfl
theorem cr_topic_Name : c_topic_Name.res = [(.tmp 2)] := rfl
def b_topic_fits : ACode := (.seq (.region [⟨(some 2), (.mov (.c (.bool false))), none, []⟩] none [0]) (.seq (.region [⟨(some 3), (.mov (.t 0)), none, []⟩, ⟨(some 4), (.slen (.t 3)), none, []⟩, ⟨(some 5), (.bin .geq (.t 4) (.c (.int .i64 1))), none, []⟩, ⟨(some 6), (.mov (.t 5)), none, []⟩, ⟨(some 7), (.mov (.t 0)), (some (6, true)), []⟩, ⟨(some 8), (.slen (.t 7)), (some (6, true)), []⟩, ⟨(some 9), (.bin .leq (.t 8) (.c (.int .i64 64))), (some (6, true)), []⟩, ⟨(some 10), (.pick (.t 6) (.t 9) (.c (.bool false))), none, []⟩, ⟨(some 11), (.mov (.t 10)), none, []⟩, ⟨(some 12), (.mov (.t 0)), (some (11, true)), []⟩, ⟨(some 13), (.call 51 0 true [(.t 12)]), (some (11, true)), []⟩, ⟨(some 14), (.pick (.t 11) (.t 13) (.c (.bool false))), none, []⟩, ⟨(some 2), (.mov (.t 14)), none, []⟩] none [2]) .ret))
def c_topic_fits : AFunc := ⟨[(.tmp 2)], b_topic_fits⟩
theorem cf_topic_fits : FC 44 = some c_topic_fits := by kernel_rfl
theorem cb_topic_fits : c_topic_fits.body = b_topic_fits := rfl
theorem cr_topic_fits : c_topic_fits.res = [(.tmp 2)] := rfl
end Go.Proofs.YtaaflagbhneakaaDoor
namespace Go.Proofs.YtaaflagbhneakaaDoor
set_option linter.unusedSimpArgs false
set_option linter.unusedVariables false
def b_strings_asciiSet_contains : ACode := (.seq (.region [⟨(some 4), (.mov (.c (.bool false))), none, []⟩] none [1, 0]) (.seq (.region [⟨(some 5), (.mov (.t 0)), none, []⟩, ⟨(some 6), (.mov (.t 1)), none, []⟩, ⟨(some 7), (.nilchk (.t 5)), none, []⟩, ⟨(some 8), (.aaddr 1 256 (.t 7) (.t 6)), none, []⟩, ⟨(some 9), (.ld none (.t 8)), none, []⟩, ⟨(some 4), (.mov (.t 9)), none, []⟩] none [4]) .ret))
def c_strings_asciiSet_contains : AFunc := ⟨[(.tmp 4)], b_strings_asciiSet_contains⟩
theorem cf_strings_asciiSet_contains : FC 59 = some c_strings_asciiSet_contains := by kernel_rfl
theorem cb_strings_asciiSet_contains : c_strings_asciiSet_contains.body = b_strings_asciiSet_contains := rfl
theorem cr_strings_asciiSet_contains : c_strings_asciiSet_contains.res = [(.tmp 4)] := rfl
def b_strings_ContainsAny : ACode := (.seq (.region [⟨(some 4), (.mov (.c (.bool false))), none, []⟩] none [1, 0]) (.seq (.region [⟨(some 5), (.mov (.t 0)), none, []⟩, ⟨(some 6), (.mov (.t 1)), none, []⟩, ⟨(some 7), (.call 52 0 true [(.t 5), (.t 6)]), none, []⟩, ⟨(some 8), (.bin .geq (.t 7) (.c (.int .i64 0))), none, []⟩, ⟨(some 4), (.mov (.t 8)), none, []⟩] none [4]) .ret))
def c_strings_ContainsAny : AFunc := ⟨[(.tmp 4)], b_strings_ContainsAny⟩
theorem cf_strings_ContainsAny : FC 45 = some c_strings_ContainsAny := by kernel_rfl
theorem cb_strings_ContainsAny : c_strings_ContainsAny.body = b_strings_ContainsAny := rfl
theorem cr_strings_ContainsAny : c_strings_ContainsAny.res = [(.tmp 4)] := rfl
def c_strings_IndexAny_k0 : ACode := (.seq (.region [⟨(some 4), (.mov (.c (.int .i64 (-1)))), none, []⟩] none [4]) .ret)
theorem x_strings_IndexAny_k0 (m : Nat) (tm : Tms) (σ : AHeap) : evC FC PR BY m c_strings_IndexAny_k0 tm σ = evC FC PR BY m (.seq (.region [⟨(some 4), (.mov (.c (.int .i64 (-1)))), none, []⟩] none [4]) .ret) tm σ := rfl
def c_strings_IndexAny_l18 : ACode := (.seq (.region [⟨(some 46), (.nxt (.t 45)), none, []⟩, ⟨(some 47), (.ext (.t 46) 0), none, []⟩] none [47, 46, 45, 1]) (.seq (.cond (.t 47) .skip (.exit 2)) (.block 3 (.seq (.region [⟨(some 48), (.ext (.t 46) 1), none, []⟩, ⟨(some 49), (.ext (.t 46) 2), none, []⟩, ⟨(some 9), (.mov (.t 48)), none, []⟩, ⟨(some 10), (.mov (.t 49)), none, []⟩] none [45, 10, 9, 1]) (.seq (.region [⟨(some 50), (.mov (.t 1)), none, []⟩, ⟨(some 51), (.mov (.t 10)), none, []⟩, ⟨(some 52), (.call 56 0 true [(.t 50), (.t 51)]), none, []⟩, ⟨(some 53), (.bin .geq (.t 52) (.c (.int .i64 0))), none, []⟩] none [53, 45, 9, 1]) (.cond (.t 53) (.seq (.region [⟨(some 54), (.mov (.t 9)), none, []⟩, ⟨(some 4), (.mov (.t 54)), none, []⟩] none [4]) .ret) .skip))))))
theorem x_strings_IndexAny_l18 (m : Nat) (tm : Tms) (σ : AHeap) : evC FC PR BY m c_strings_IndexAny_l18 tm σ = evC FC PR BY m (.seq (.region [⟨(some 46), (.nxt (.t 45)), none, []⟩, ⟨(some 47), (.ext (.t 46) 0), none, []⟩] none [47, 46, 45, 1]) (.seq (.cond (.t 47) .skip (.exit 2)) (.block 3 (.seq (.region [⟨(some 48), (.ext (.t 46) 1), none, []⟩, ⟨(some 49), (.ext (.t 46) 2), none, []⟩, ⟨(some 9), (.mov (.t 48)), none, []⟩, ⟨(some 10), (.mov (.t 49)), none, []⟩] none [45, 10, 9, 1]) (.seq (.region [⟨(some 50), (.mov (.t 1)), none, []⟩, ⟨(some 51), (.mov (.t 10)), none, []⟩, ⟨(some 52), (.call 56 0 true [(.t 50), (.t 51)]), none, []⟩, ⟨(some 53), (.bin .geq (.t 52) (.c (.int .i64 0))), none, []⟩] none [53, 45, 9, 1]) (.cond (.t 53) (.seq (.region [⟨(some 54), (.mov (.t 9)), none, []⟩, ⟨(some 4), (.mov (.t 54)), none, []⟩] none [4]) .ret) .skip)))))) tm σ := rfl
def c_strings_IndexAny_k1 : ACode := (.seq (.seq (.region [⟨(some 44), (.mov (.t 0)), none, []⟩, ⟨(some 45), (.rng (.t 44)), none, []⟩] none [45, 1]) (.block 2 (.loop [45, 1] c_strings_IndexAny_l18))) c_strings_IndexAny_k0)
theorem x_strings_IndexAny_k1 (m : Nat) (tm : Tms) (σ : AHeap) : evC FC PR BY m c_strings_IndexAny_k1 tm σ = evC FC PR BY m (.seq (.seq (.region [⟨(some 44), (.mov (.t 0)), none, []⟩, ⟨(some 45), (.rng (.t 44)), none, []⟩] none [45, 1]) (.block 2 (.loop [45, 1] c_strings_IndexAny_l18))) c_strings_IndexAny_k0) tm σ := rfl
def c_strings_IndexAny_k2 : ACode := (.seq (.region [⟨(some 4), (.mov (.c (.int .i64 (-1)))), none, []⟩] none [4]) .ret)
theorem x_strings_IndexAny_k2 (m : Nat) (tm : Tms) (σ : AHeap) : evC FC PR BY m c_strings_IndexAny_k2 tm σ = evC FC PR BY m (.seq (.region [⟨(some 4), (.mov (.c (.int .i64 (-1)))), none, []⟩] none [4]) .ret) tm σ := rfl
def c_strings_IndexAny_l12 : ACode := (.seq (.seq (.region [⟨(some 33), (.mov (.t 8)), none, []⟩, ⟨(some 34), (.mov (.t 0)), none, []⟩, ⟨(some 35), (.slen (.t 34)), none, []⟩, ⟨(some 36), (.bin .lss (.t 33) (.t 35)), none, []⟩] none [36, 8, 6, 0]) (.cond (.t 36) .skip (.exit 0))) (.seq (.block 1 (.seq (.region [⟨(some 39), (.mov (.t 0)), none, []⟩, ⟨(some 40), (.mov (.t 8)), none, []⟩, ⟨(some 41), (.sindex (.t 39) (.t 40)), none, []⟩, ⟨(some 42), (.call 59 0 true [(.t 6), (.t 41)]), none, []⟩] none [42, 8, 6, 0]) (.cond (.t 42) (.seq (.region [⟨(some 43), (.mov (.t 8)), none, []⟩, ⟨(some 4), (.mov (.t 43)), none, []⟩] none [4]) .ret) .skip))) (.region [⟨(some 37), (.mov (.t 8)), none, []⟩, ⟨(some 38), (.bin .add (.t 37) (.c (.int .i64 1))), none, []⟩, ⟨(some 8), (.mov (.t 38)), none, []⟩] none [8, 6, 0])))
theorem x_strings_IndexAny_l12 (m : Nat) (tm : Tms) (σ : AHeap) : evC FC PR BY m c_strings_IndexAny_l12 tm σ = evC FC PR BY m (.seq (.seq (.region [⟨(some 33), (.mov (.t 8)), none, []⟩, ⟨(some 34), (.mov (.t 0)), none, []⟩, ⟨(some 35), (.slen (.t 34)), none, []⟩, ⟨(some 36), (.bin .lss (.t 33) (.t 35)), none, []⟩] none [36, 8, 6, 0]) (.cond (.t 36) .skip (.exit 0))) (.seq (.block 1 (.seq (.region [⟨(some 39), (.mov (.t 0)), none, []⟩, ⟨(some 40), (.mov (.t 8)), none, []⟩, ⟨(some 41), (.sindex (.t 39) (.t 40)), none, []⟩, ⟨(some 42), (.call 59 0 true [(.t 6), (.t 41)]), none, []⟩] none [42, 8, 6, 0]) (.cond (.t 42) (.seq (.region [⟨(some 43), (.mov (.t 8)), none, []⟩, ⟨(some 4), (.mov (.t 43)), none, []⟩] none [4]) .ret) .skip))) (.region [⟨(some 37), (.mov (.t 8)), none, []⟩, ⟨(some 38), (.bin .add (.t 37) (.c (.int .i64 1))), none, []⟩, ⟨(some 8), (.mov (.t 38)), none, []⟩] none [8, 6, 0]))) tm σ := rfl
def b_strings_IndexAny : ACode := (.seq (.region [⟨(some 4), (.mov (.c (.int .i64 0))), none, []⟩] none [1, 0]) (.seq (.seq (.region [⟨(some 11), (.mov (.t 1)), none, []⟩, ⟨(some 12), (.bin .eql (.t 11) (.c (.str []))), none, []⟩] none [12, 1, 0]) (.cond (.t 12) (.seq (.region [⟨(some 4), (.mov (.c (.int .i64 (-1)))), none, []⟩] none [4]) .ret) .skip)) (.seq (.seq (.region [⟨(some 13), (.mov (.t 1)), none, []⟩, ⟨(some 14), (.slen (.t 13)), none, []⟩, ⟨(some 15), (.bin .eql (.t 14) (.c (.int .i64 1))), none, []⟩] none [15, 1, 0]) (.cond (.t 15) (.seq (.region [⟨(some 16), (.mov (.t 1)), none, []⟩, ⟨(some 17), (.sindex (.t 16) (.c (.int .i64 0))), none, []⟩, ⟨(some 18), (.i2i .i32 (.t 17)), none, []⟩, ⟨(some 5), (.mov (.t 18)), none, []⟩] none [5, 0]) (.seq (.seq (.region [⟨(some 19), (.mov (.t 5)), none, []⟩, ⟨(some 20), (.bin .geq (.t 19) (.c (.int .i32 128))), none, []⟩] none [20, 5, 0]) (.cond (.t 20) (.region [⟨(some 5), (.mov (.c (.int .i32 65533))), none, []⟩] none [5, 0]) .skip)) (.seq (.region [⟨(some 21), (.mov (.t 0)), none, []⟩, ⟨(some 22), (.mov (.t 5)), none, []⟩, ⟨(some 23), (.call 56 0 true [(.t 21), (.t 22)]), none, []⟩, ⟨(some 4), (.mov (.t 23)), none, []⟩] none [4]) .ret))) .skip)) (.seq (.seq (.region [⟨(some 24), (.mov (.t 0)), none, []⟩, ⟨(some 25), (.slen (.t 24)), none, []⟩, ⟨(some 26), (.call 57 0 true [(.t 25)]), none, []⟩] none [26, 1, 0]) (.cond (.t 26) (.seq (.region [⟨(some 28), (.mov (.t 1)), none, []⟩, ⟨(some 29), (.call 58 0 true [(.t 28)]), none, []⟩, ⟨(some 27), (.mov (.t 29)), none, []⟩, ⟨(some 30), (.ext (.t 27) 0), none, []⟩, ⟨(some 31), (.ext (.t 27) 1), none, []⟩, ⟨(some 6), (.alloc [(.bool false), (.bool false), (.bool false), (.bool false), (.bool false), (.bool false), (.bool false), (.bool false), (.bool false), (.bool false), (.bool false), (.bool false), (.bool false), (.bool false), (.bool false), (.bool false), (.bool false), (.bool false), (.bool false), (.bool false), (.bool false), (.bool false), (.bool false), (.bool false), (.bool false), (.bool false), (.bool false), (.bool false), (.bool false), (.bool false), (.bool false), (.bool false), (.bool false), (.bool false), (.bool false), (.bool false), (.bool false), (.bool false), (.bool false), (.bool false), (.bool false), (.bool false), (.bool false), (.bool false), (.bool false), (.bool false), (.bool false), (.bool false), (.bool false), (.bool false), (.bool false), (.bool false), (.bool false), (.bool false), (.bool false), (.bool false), (.bool false), (.bool false), (.bool false), (.bool false), (.bool false), (.bool false), (.bool false), (.bool false), (.bool false), (.bool false), (.bool false), (.bool false), (.bool false), (.bool false), (.bool false), (.bool false), (.bool false), (.bool false), (.bool false), (.bool false), (.bool false), (.bool false), (.bool false), (.bool false), (.bool false), (.bool false), (.bool false), (.bool false), (.bool false), (.bool false), (.bool false), (.bool false), (.bool false), (.bool false), (.bool false), (.bool false), (.bool false), (.bool false), (.bool false), (.bool false), (.bool false), (.bool false), (.bool false), (.bool false), (.bool false), (.bool false), (.bool false), (.bool false), (.bool false), (.bool false), (.bool false), (.bool false), (.bool false), (.bool false), (.bool false), (.bool false), (.bool false), (.bool false), (.bool false), (.bool false), (.bool false), (.bool false), (.bool false), (.bool false), (.bool false), (.bool false), (.bool false), (.bool false), (.bool false), (.bool false), (.bool false), (.bool false), (.bool false), (.bool false), (.bool false), (.bool false), (.bool false), (.bool false), (.bool false), (.bool false), (.bool false), (.bool false), (.bool false), (.bool false), (.bool false), (.bool false), (.bool false), (.bool false), (.bool false), (.bool false), (.bool false), (.bool false), (.bool false), (.bool false), (.bool false), (.bool false), (.bool false), (.bool false), (.bool false), (.bool false), (.bool false), (.bool false), (.bool false), (.bool false), (.bool false), (.bool false), (.bool false), (.bool false), (.bool false), (.bool false), (.bool false), (.bool false), (.bool false), (.bool false), (.bool false), (.bool false), (.bool false), (.bool false), (.bool false), (.bool false), (.bool false), (.bool false), (.bool false), (.bool false), (.bool false), (.bool false), (.bool false), (.bool false), (.bool false), (.bool false), (.bool false), (.bool false), (.bool false), (.bool false), (.bool false), (.bool false), (.bool false), (.bool false), (.bool false), (.bool false), (.bool false), (.bool false), (.bool false), (.bool false), (.bool false), (.bool false), (.bool false), (.bool false), (.bool false), (.bool false), (.bool false), (.bool false), (.bool false), (.bool false), (.bool false), (.bool false), (.bool false), (.bool false), (.bool false), (.bool false), (.bool false), (.bool false), (.bool false), (.bool false), (.bool false), (.bool false), (.bool false), (.bool false), (.bool false), (.bool false), (.bool false), (.bool false), (.bool false), (.bool false), (.bool false), (.bool false), (.bool false), (.bool false), (.bool false), (.bool false), (.bool false), (.bool false), (.bool false), (.bool false), (.bool false), (.bool false), (.bool false), (.bool false), (.bool false), (.bool false), (.bool false), (.bool false), (.bool false), (.bool false), (.bool false), (.bool false), (.bool false), (.bool false), (.bool false), (.bool false)]), none, []⟩, ⟨none, (.st 256 (.t 6) (.t 30)), none, []⟩, ⟨(some 7), (.mov (.t 31)), none, []⟩] none [7, 6, 1, 0]) (.seq (.region [⟨(some 32), (.mov (.t 7)), none, []⟩] none [32, 6, 1, 0]) (.cond (.t 32) (.seq (.seq (.region [⟨(some 8), (.mov (.c (.int .i64 0))), none, []⟩] none [8, 6, 0]) (.block 0 (.loop [8, 6, 0] c_strings_IndexAny_l12))) c_strings_IndexAny_k2) .skip))) .skip)) c_strings_IndexAny_k1))))
def c_strings_IndexAny : AFunc := ⟨[(.tmp 4)], b_strings_IndexAny⟩
theorem cf_strings_IndexAny : FC 52 = some c_strings_IndexAny := by kernel_rfl
theorem cb_strings_IndexAny : c_strings_IndexAny.body = b_strings_IndexAny := rfl
theorem cr_strings_IndexAny : c_strings_IndexAny.res = [(.tmp 4)] := rfl
/-- slots [45, 1] -/
noncomputable def K_strings_IndexAny_l18 (m : Nat) (tm : Tms) (σ : AHeap) : Option (AVal × AHeap) := (finA m c_strings_IndexAny (seqX FC PR BY m c_strings_IndexAny_k0 (Option.map (blockA 2) (evL FC PR BY m [45, 1] c_strings_IndexAny_l18 tm σ))))
/-- slots [8, 6, 0] -/
noncomputable def K_strings_IndexAny_l12 (m : Nat) (tm : Tms) (σ : AHeap) : Option (AVal × AHeap) := (finA m c_strings_IndexAny (seqX FC PR BY m c_strings_IndexAny_k1 (seqX FC PR BY m c_strings_IndexAny_k2 (Option.map (blockA 0) (evL FC PR BY m [8, 6, 0] c_strings_IndexAny_l12 tm σ)))))
def c_strings_IndexRune_k0 : ACode := (.seq (.region [⟨(some 4), (.mov (.c (.int .i64 (-1)))), none, []⟩] none [4]) .ret)
theorem x_strings_IndexRune_k0 (m : Nat) (tm : Tms) (σ : AHeap) : evC FC PR BY m c_strings_IndexRune_k0 tm σ = evC FC PR BY m (.seq (.region [⟨(some 4), (.mov (.c (.int .i64 (-1)))), none, []⟩] none [4]) .ret) tm σ := rfl
def c_strings_IndexRune_l38 : ACode := (.seq (.region [⟨(some 176), (.nxt (.t 175)), none, []⟩, ⟨(some 177), (.ext (.t 176) 0), none, []⟩] none [177, 176, 175]) (.seq (.cond (.t 177) .skip (.exit 9)) (.block 10 (.seq (.region [⟨(some 178), (.ext (.t 176) 1), none, []⟩, ⟨(some 179), (.ext (.t 176) 2), none, []⟩, ⟨(some 5), (.mov (.t 178)), none, []⟩, ⟨(some 6), (.mov (.t 179)), none, []⟩] none [175, 6, 5]) (.seq (.region [⟨(some 180), (.mov (.t 6)), none, []⟩, ⟨(some 181), (.bin .eql (.t 180) (.c (.int .i32 65533))), none, []⟩] none [181, 175, 5]) (.cond (.t 181) (.seq (.region [⟨(some 182), (.mov (.t 5)), none, []⟩, ⟨(some 4), (.mov (.t 182)), none, []⟩] none [4]) .ret) .skip))))))
theorem x_strings_IndexRune_l38 (m : Nat) (tm : Tms) (σ : AHeap) : evC FC PR BY m c_strings_IndexRune_l38 tm σ = evC FC PR BY m (.seq (.region [⟨(some 176), (.nxt (.t 175)), none, []⟩, ⟨(some 177), (.ext (.t 176) 0), none, []⟩] none [177, 176, 175]) (.seq (.cond (.t 177) .skip (.exit 9)) (.block 10 (.seq (.region [⟨(some 178), (.ext (.t 176) 1), none, []⟩, ⟨(some 179), (.ext (.t 176) 2), none, []⟩, ⟨(some 5), (.mov (.t 178)), none, []⟩, ⟨(some 6), (.mov (.t 179)), none, []⟩] none [175, 6, 5]) (.seq (.region [⟨(some 180), (.mov (.t 6)), none, []⟩, ⟨(some 181), (.bin .eql (.t 180) (.c (.int .i32 65533))), none, []⟩] none [181, 175, 5]) (.cond (.t 181) (.seq (.region [⟨(some 182), (.mov (.t 5)), none, []⟩, ⟨(some 4), (.mov (.t 182)), none, []⟩] none [4]) .ret) .skip)))))) tm σ := rfl
def c_strings_IndexRune_k1 : ACode := (.seq (.region [⟨(some 4), (.mov (.c (.int .i64 (-1)))), none, []⟩] none [4]) .ret)
theorem x_strings_IndexRune_k1 (m : Nat) (tm : Tms) (σ : AHeap) : evC FC PR BY m c_strings_IndexRune_k1 tm σ = evC FC PR BY m (.seq (.region [⟨(some 4), (.mov (.c (.int .i64 (-1)))), none, []⟩] none [4]) .ret) tm σ := rfl
def c_strings_IndexRune_k2 : ACode := (.region [⟨(some 125), (.mov (.t 9)), none, []⟩, ⟨(some 126), (.bin .add (.t 125) (.c (.int .i64 1))), none, []⟩, ⟨(some 9), (.mov (.t 126)), none, []⟩] none [15, 14, 9, 8, 7, 0])
theorem x_strings_IndexRune_k2 (m : Nat) (tm : Tms) (σ : AHeap) : evC FC PR BY m c_strings_IndexRune_k2 tm σ = evC FC PR BY m (.region [⟨(some 125), (.mov (.t 9)), none, []⟩, ⟨(some 126), (.bin .add (.t 125) (.c (.int .i64 1))), none, []⟩, ⟨(some 9), (.mov (.t 126)), none, []⟩] none [15, 14, 9, 8, 7, 0]) tm σ := rfl
def c_strings_IndexRune_k3 : ACode := (.seq (.region [⟨(some 157), (.mov (.t 9)), none, []⟩, ⟨(some 158), (.mov (.t 8)), none, []⟩, ⟨(some 159), (.bin .sub (.t 157) (.t 158)), none, []⟩, ⟨(some 4), (.mov (.t 159)), none, []⟩] none [4]) .ret)
theorem x_strings_IndexRune_k3 (m : Nat) (tm : Tms) (σ : AHeap) : evC FC PR BY m c_strings_IndexRune_k3 tm σ = evC FC PR BY m (.seq (.region [⟨(some 157), (.mov (.t 9)), none, []⟩, ⟨(some 158), (.mov (.t 8)), none, []⟩, ⟨(some 159), (.bin .sub (.t 157) (.t 158)), none, []⟩, ⟨(some 4), (.mov (.t 159)), none, []⟩] none [4]) .ret) tm σ := rfl
def c_strings_IndexRune_l29 : ACode := (.seq (.seq (.region [⟨(some 140), (.mov (.t 16)), none, []⟩, ⟨(some 141), (.mov (.t 7)), none, []⟩, ⟨(some 142), (.slen (.t 141)), none, []⟩, ⟨(some 143), (.bin .lss (.t 140) (.t 142)), none, []⟩] none [143, 16, 15, 14, 9, 8, 7, 0]) (.cond (.t 143) .skip (.exit 7))) (.seq (.block 8 (.seq (.region [⟨(some 146), (.mov (.t 0)), none, []⟩, ⟨(some 147), (.mov (.t 9)), none, []⟩, ⟨(some 148), (.mov (.t 16)), none, []⟩, ⟨(some 149), (.bin .sub (.t 147) (.t 148)), none, []⟩, ⟨(some 150), (.sindex (.t 146) (.t 149)), none, []⟩, ⟨(some 151), (.mov (.t 7)), none, []⟩, ⟨(some 152), (.mov (.t 8)), none, []⟩, ⟨(some 153), (.mov (.t 16)), none, []⟩, ⟨(some 154), (.bin .sub (.t 152) (.t 153)), none, []⟩, ⟨(some 155), (.sindex (.t 151) (.t 154)), none, []⟩, ⟨(some 156), (.bin .neq (.t 150) (.t 155)), none, []⟩] (some []) [156, 16, 15, 14, 9, 8, 7, 0]) (.cond (.t 156) (.exit 6) .skip))) (.region [⟨(some 144), (.mov (.t 16)), none, []⟩, ⟨(some 145), (.bin .add (.t 144) (.c (.int .i64 1))), none, []⟩, ⟨(some 16), (.mov (.t 145)), none, []⟩] none [16, 15, 14, 9, 8, 7, 0])))
theorem x_strings_IndexRune_l29 (m : Nat) (tm : Tms) (σ : AHeap) : evC FC PR BY m c_strings_IndexRune_l29 tm σ = evC FC PR BY m (.seq (.seq (.region [⟨(some 140), (.mov (.t 16)), none, []⟩, ⟨(some 141), (.mov (.t 7)), none, []⟩, ⟨(some 142), (.slen (.t 141)), none, []⟩, ⟨(some 143), (.bin .lss (.t 140) (.t 142)), none, []⟩] none [143, 16, 15, 14, 9, 8, 7, 0]) (.cond (.t 143) .skip (.exit 7))) (.seq (.block 8 (.seq (.region [⟨(some 146), (.mov (.t 0)), none, []⟩, ⟨(some 147), (.mov (.t 9)), none, []⟩, ⟨(some 148), (.mov (.t 16)), none, []⟩, ⟨(some 149), (.bin .sub (.t 147) (.t 148)), none, []⟩, ⟨(some 150), (.sindex (.t 146) (.t 149)), none, []⟩, ⟨(some 151), (.mov (.t 7)), none, []⟩, ⟨(some 152), (.mov (.t 8)), none, []⟩, ⟨(some 153), (.mov (.t 16)), none, []⟩, ⟨(some 154), (.bin .sub (.t 152) (.t 153)), none, []⟩, ⟨(some 155), (.sindex (.t 151) (.t 154)), none, []⟩, ⟨(some 156), (.bin .neq (.t 150) (.t 155)), none, []⟩] (some []) [156, 16, 15, 14, 9, 8, 7, 0]) (.cond (.t 156) (.exit 6) .skip))) (.region [⟨(some 144), (.mov (.t 16)), none, []⟩, ⟨(some 145), (.bin .add (.t 144) (.c (.int .i64 1))), none, []⟩, ⟨(some 16), (.mov (.t 145)), none, []⟩] none [16, 15, 14, 9, 8, 7, 0]))) tm σ := rfl
def c_strings_IndexRune_l25 : ACode := (.seq (.seq (.region [⟨(some 121), (.mov (.t 9)), none, []⟩, ⟨(some 122), (.mov (.t 0)), none, []⟩, ⟨(some 123), (.slen (.t 122)), none, []⟩, ⟨(some 124), (.bin .lss (.t 121) (.t 123)), none, []⟩] none [124, 15, 14, 9, 8, 7, 0]) (.cond (.t 124) .skip (.exit 5))) (.seq (.block 6 (.seq (.region [⟨(some 127), (.mov (.t 0)), none, []⟩, ⟨(some 128), (.mov (.t 9)), none, []⟩, ⟨(some 129), (.sindex (.t 127) (.t 128)), none, []⟩, ⟨(some 130), (.mov (.t 14)), none, []⟩, ⟨(some 131), (.bin .eql (.t 129) (.t 130)), none, []⟩, ⟨(some 132), (.mov (.t 131)), none, []⟩, ⟨(some 133), (.mov (.t 0)), (some (132, true)), []⟩, ⟨(some 134), (.mov (.t 9)), (some (132, true)), []⟩, ⟨(some 135), (.bin .sub (.t 134) (.c (.int .i64 1))), (some (132, true)), []⟩, ⟨(some 136), (.sindex (.t 133) (.t 135)), (some (132, true)), []⟩, ⟨(some 137), (.mov (.t 15)), (some (132, true)), []⟩, ⟨(some 138), (.bin .eql (.t 136) (.t 137)), (some (132, true)), []⟩, ⟨(some 139), (.pick (.t 132) (.t 138) (.c (.bool false))), none, []⟩] none [139, 15, 14, 9, 8, 7, 0]) (.cond (.t 139) (.seq (.seq (.region [⟨(some 16), (.mov (.c (.int .i64 2))), none, []⟩] none [16, 15, 14, 9, 8, 7, 0]) (.block 7 (.loop [16, 15, 14, 9, 8, 7, 0] c_strings_IndexRune_l29))) c_strings_IndexRune_k3) .skip))) c_strings_IndexRune_k2))
theorem x_strings_IndexRune_l25 (m : Nat) (tm : Tms) (σ : AHeap) : evC FC PR BY m c_strings_IndexRune_l25 tm σ = evC FC PR BY m (.seq (.seq (.region [⟨(some 121), (.mov (.t 9)), none, []⟩, ⟨(some 122), (.mov (.t 0)), none, []⟩, ⟨(some 123), (.slen (.t 122)), none, []⟩, ⟨(some 124), (.bin .lss (.t 121) (.t 123)), none, []⟩] none [124, 15, 14, 9, 8, 7, 0]) (.cond (.t 124) .skip (.exit 5))) (.seq (.block 6 (.seq (.region [⟨(some 127), (.mov (.t 0)), none, []⟩, ⟨(some 128), (.mov (.t 9)), none, []⟩, ⟨(some 129), (.sindex (.t 127) (.t 128)), none, []⟩, ⟨(some 130), (.mov (.t 14)), none, []⟩, ⟨(some 131), (.bin .eql (.t 129) (.t 130)), none, []⟩, ⟨(some 132), (.mov (.t 131)), none, []⟩, ⟨(some 133), (.mov (.t 0)), (some (132, true)), []⟩, ⟨(some 134), (.mov (.t 9)), (some (132, true)), []⟩, ⟨(some 135), (.bin .sub (.t 134) (.c (.int .i64 1))), (some (132, true)), []⟩, ⟨(some 136), (.sindex (.t 133) (.t 135)), (some (132, true)), []⟩, ⟨(some 137), (.mov (.t 15)), (some (132, true)), []⟩, ⟨(some 138), (.bin .eql (.t 136) (.t 137)), (some (132, true)), []⟩, ⟨(some 139), (.pick (.t 132) (.t 138) (.c (.bool false))), none, []⟩] none [139, 15, 14, 9, 8, 7, 0]) (.cond (.t 139) (.seq (.seq (.region [⟨(some 16), (.mov (.c (.int .i64 2))), none, []⟩] none [16, 15, 14, 9, 8, 7, 0]) (.block 7 (.loop [16, 15, 14, 9, 8, 7, 0] c_strings_IndexRune_l29))) c_strings_IndexRune_k3) .skip))) c_strings_IndexRune_k2)) tm σ := rfl
def c_strings_IndexRune_k4 : ACode := (.seq (.seq (.region [⟨(some 4), (.mov (.c (.int .i64 (-1)))), none, []⟩] none [4]) .ret) (.seq .skip (.seq (.cond (.c (.bool true)) (.seq (.region [⟨(some 99), (.mov (.t 0)), none, []⟩, ⟨(some 100), (.mov (.t 9)), none, []⟩, ⟨(some 101), (.mov (.t 8)), none, []⟩, ⟨(some 102), (.bin .sub (.t 100) (.t 101)), none, []⟩, ⟨(some 103), (.sslice (.t 99) (some (.t 102)) none), none, []⟩, ⟨(some 104), (.mov (.t 1)), none, []⟩, ⟨(some 105), (.i2s (.t 104)), none, []⟩, ⟨(some 106), (.call 65 0 true [(.t 103), (.t 105)]), none, []⟩, ⟨(some 13), (.mov (.t 106)), none, []⟩] none [13, 9, 8]) (.seq (.region [⟨(some 107), (.mov (.t 13)), none, []⟩, ⟨(some 108), (.bin .geq (.t 107) (.c (.int .i64 0))), none, []⟩] none [108, 13, 9, 8]) (.cond (.t 108) (.seq (.region [⟨(some 109), (.mov (.t 9)), none, []⟩, ⟨(some 110), (.mov (.t 13)), none, []⟩, ⟨(some 111), (.bin .add (.t 109) (.t 110)), none, []⟩, ⟨(some 112), (.mov (.t 8)), none, []⟩, ⟨(some 113), (.bin .sub (.t 111) (.t 112)), none, []⟩, ⟨(some 4), (.mov (.t 113)), none, []⟩] none [4]) .ret) .skip))) (.seq (.region [⟨(some 114), (.mov (.t 7)), none, []⟩, ⟨(some 115), (.mov (.t 8)), none, []⟩, ⟨(some 116), (.sindex (.t 114) (.t 115)), none, []⟩, ⟨(some 14), (.mov (.t 116)), none, []⟩] none [14, 9, 8, 7, 0]) (.seq (.region [⟨(some 117), (.mov (.t 7)), none, []⟩, ⟨(some 118), (.mov (.t 8)), none, []⟩, ⟨(some 119), (.bin .sub (.t 118) (.c (.int .i64 1))), none, []⟩, ⟨(some 120), (.sindex (.t 117) (.t 119)), none, []⟩, ⟨(some 15), (.mov (.t 120)), none, []⟩] none [15, 14, 9, 8, 7, 0]) (.seq .skip (.block 5 (.loop [15, 14, 9, 8, 7, 0] c_strings_IndexRune_l25)))))) c_strings_IndexRune_k1)))
theorem x_strings_IndexRune_k4 (m : Nat) (tm : Tms) (σ : AHeap) : evC FC PR BY m c_strings_IndexRune_k4 tm σ = evC FC PR BY m (.seq (.seq (.region [⟨(some 4), (.mov (.c (.int .i64 (-1)))), none, []⟩] none [4]) .ret) (.seq .skip (.seq (.cond (.c (.bool true)) (.seq (.region [⟨(some 99), (.mov (.t 0)), none, []⟩, ⟨(some 100), (.mov (.t 9)), none, []⟩, ⟨(some 101), (.mov (.t 8)), none, []⟩, ⟨(some 102), (.bin .sub (.t 100) (.t 101)), none, []⟩, ⟨(some 103), (.sslice (.t 99) (some (.t 102)) none), none, []⟩, ⟨(some 104), (.mov (.t 1)), none, []⟩, ⟨(some 105), (.i2s (.t 104)), none, []⟩, ⟨(some 106), (.call 65 0 true [(.t 103), (.t 105)]), none, []⟩, ⟨(some 13), (.mov (.t 106)), none, []⟩] none [13, 9, 8]) (.seq (.region [⟨(some 107), (.mov (.t 13)), none, []⟩, ⟨(some 108), (.bin .geq (.t 107) (.c (.int .i64 0))), none, []⟩] none [108, 13, 9, 8]) (.cond (.t 108) (.seq (.region [⟨(some 109), (.mov (.t 9)), none, []⟩, ⟨(some 110), (.mov (.t 13)), none, []⟩, ⟨(some 111), (.bin .add (.t 109) (.t 110)), none, []⟩, ⟨(some 112), (.mov (.t 8)), none, []⟩, ⟨(some 113), (.bin .sub (.t 111) (.t 112)), none, []⟩, ⟨(some 4), (.mov (.t 113)), none, []⟩] none [4]) .ret) .skip))) (.seq (.region [⟨(some 114), (.mov (.t 7)), none, []⟩, ⟨(some 115), (.mov (.t 8)), none, []⟩, ⟨(some 116), (.sindex (.t 114) (.t 115)), none, []⟩, ⟨(some 14), (.mov (.t 116)), none, []⟩] none [14, 9, 8, 7, 0]) (.seq (.region [⟨(some 117), (.mov (.t 7)), none, []⟩, ⟨(some 118), (.mov (.t 8)), none, []⟩, ⟨(some 119), (.bin .sub (.t 118) (.c (.int .i64 1))), none, []⟩, ⟨(some 120), (.sindex (.t 117) (.t 119)), none, []⟩, ⟨(some 15), (.mov (.t 120)), none, []⟩] none [15, 14, 9, 8, 7, 0]) (.seq .skip (.block 5 (.loop [15, 14, 9, 8, 7, 0] c_strings_IndexRune_l25)))))) c_strings_IndexRune_k1))) tm σ := rfl
def c_strings_IndexRune_k5 : ACode := (.seq (.seq (.region [⟨(some 65), (.mov (.t 9)), none, []⟩, ⟨(some 66), (.mov (.t 8)), none, []⟩, ⟨(some 67), (.bin .sub (.t 65) (.t 66)), none, []⟩, ⟨(some 4), (.mov (.t 67)), none, []⟩] none [4]) .ret) (.seq .skip (.seq (.region [⟨(some 68), (.mov (.t 10)), none, []⟩, ⟨(some 69), (.bin .add (.t 68) (.c (.int .i64 1))), none, []⟩, ⟨(some 10), (.mov (.t 69)), none, []⟩] none [10, 9, 8, 7, 0]) (.seq (.region [⟨(some 70), (.mov (.t 9)), none, []⟩, ⟨(some 71), (.bin .add (.t 70) (.c (.int .i64 1))), none, []⟩, ⟨(some 9), (.mov (.t 71)), none, []⟩] none [10, 9, 8, 7, 0]) (.seq (.region [⟨(some 72), (.mov (.c (.bool true))), none, []⟩, ⟨(some 73), (.mov (.t 10)), (some (72, true)), []⟩, ⟨(some 74), (.mov (.t 9)), (some (72, true)), []⟩, ⟨(some 75), (.call 64 0 true [(.t 74)]), (some (72, true)), []⟩, ⟨(some 76), (.bin .gtr (.t 73) (.t 75)), (some (72, true)), []⟩, ⟨(some 77), (.pick (.t 72) (.t 76) (.c (.bool false))), none, []⟩, ⟨(some 78), (.mov (.t 77)), none, []⟩, ⟨(some 79), (.mov (.t 9)), (some (78, true)), []⟩, ⟨(some 80), (.mov (.t 0)), (some (78, true)), []⟩, ⟨(some 81), (.slen (.t 80)), (some (78, true)), []⟩, ⟨(some 82), (.bin .lss (.t 79) (.t 81)), (some (78, true)), []⟩, ⟨(some 83), (.pick (.t 78) (.t 82) (.c (.bool false))), none, []⟩, ⟨(some 84), (.mov (.t 83)), none, []⟩, ⟨(some 85), (.mov (.c (.bool false))), (some (84, false)), []⟩, ⟨(some 86), (.mov (.t 10)), (some (85, true)), []⟩, ⟨(some 87), (.mov (.t 9)), (some (85, true)), []⟩, ⟨(some 88), (.bin .shr (.t 87) (.c (.int .u64 4))), (some (85, true)), []⟩, ⟨(some 89), (.bin .add (.c (.int .i64 4)) (.t 88)), (some (85, true)), []⟩, ⟨(some 90), (.bin .geq (.t 86) (.t 89)), (some (85, true)), []⟩, ⟨(some 91), (.pick (.t 85) (.t 90) (.c (.bool false))), (some (84, false)), []⟩, ⟨(some 92), (.mov (.t 91)), (some (84, false)), []⟩, ⟨(some 93), (.mov (.t 9)), (some (92, true)), []⟩, ⟨(some 94), (.mov (.t 0)), (some (92, true)), []⟩, ⟨(some 95), (.slen (.t 94)), (some (92, true)), []⟩, ⟨(some 96), (.bin .lss (.t 93) (.t 95)), (some (92, true)), []⟩, ⟨(some 97), (.pick (.t 92) (.t 96) (.c (.bool false))), (some (84, false)), []⟩, ⟨(some 98), (.pick (.t 84) (.c (.bool true)) (.t 97)), none, []⟩] none [98, 9, 8, 7, 0]) (.cond (.t 98) .stuck .skip))))))
theorem x_strings_IndexRune_k5 (m : Nat) (tm : Tms) (σ : AHeap) : evC FC PR BY m c_strings_IndexRune_k5 tm σ = evC FC PR BY m (.seq (.seq (.region [⟨(some 65), (.mov (.t 9)), none, []⟩, ⟨(some 66), (.mov (.t 8)), none, []⟩, ⟨(some 67), (.bin .sub (.t 65) (.t 66)), none, []⟩, ⟨(some 4), (.mov (.t 67)), none, []⟩] none [4]) .ret) (.seq .skip (.seq (.region [⟨(some 68), (.mov (.t 10)), none, []⟩, ⟨(some 69), (.bin .add (.t 68) (.c (.int .i64 1))), none, []⟩, ⟨(some 10), (.mov (.t 69)), none, []⟩] none [10, 9, 8, 7, 0]) (.seq (.region [⟨(some 70), (.mov (.t 9)), none, []⟩, ⟨(some 71), (.bin .add (.t 70) (.c (.int .i64 1))), none, []⟩, ⟨(some 9), (.mov (.t 71)), none, []⟩] none [10, 9, 8, 7, 0]) (.seq (.region [⟨(some 72), (.mov (.c (.bool true))), none, []⟩, ⟨(some 73), (.mov (.t 10)), (some (72, true)), []⟩, ⟨(some 74), (.mov (.t 9)), (some (72, true)), []⟩, ⟨(some 75), (.call 64 0 true [(.t 74)]), (some (72, true)), []⟩, ⟨(some 76), (.bin .gtr (.t 73) (.t 75)), (some (72, true)), []⟩, ⟨(some 77), (.pick (.t 72) (.t 76) (.c (.bool false))), none, []⟩, ⟨(some 78), (.mov (.t 77)), none, []⟩, ⟨(some 79), (.mov (.t 9)), (some (78, true)), []⟩, ⟨(some 80), (.mov (.t 0)), (some (78, true)), []⟩, ⟨(some 81), (.slen (.t 80)), (some (78, true)), []⟩, ⟨(some 82), (.bin .lss (.t 79) (.t 81)), (some (78, true)), []⟩, ⟨(some 83), (.pick (.t 78) (.t 82) (.c (.bool false))), none, []⟩, ⟨(some 84), (.mov (.t 83)), none, []⟩, ⟨(some 85), (.mov (.c (.bool false))), (some (84, false)), []⟩, ⟨(some 86), (.mov (.t 10)), (some (85, true)), []⟩, ⟨(some 87), (.mov (.t 9)), (some (85, true)), []⟩, ⟨(some 88), (.bin .shr (.t 87) (.c (.int .u64 4))), (some (85, true)), []⟩, ⟨(some 89), (.bin .add (.c (.int .i64 4)) (.t 88)), (some (85, true)), []⟩, ⟨(some 90), (.bin .geq (.t 86) (.t 89)), (some (85, true)), []⟩, ⟨(some 91), (.pick (.t 85) (.t 90) (.c (.bool false))), (some (84, false)), []⟩, ⟨(some 92), (.mov (.t 91)), (some (84, false)), []⟩, ⟨(some 93), (.mov (.t 9)), (some (92, true)), []⟩, ⟨(some 94), (.mov (.t 0)), (some (92, true)), []⟩, ⟨(some 95), (.slen (.t 94)), (some (92, true)), []⟩, ⟨(some 96), (.bin .lss (.t 93) (.t 95)), (some (92, true)), []⟩, ⟨(some 97), (.pick (.t 92) (.t 96) (.c (.bool false))), (some (84, false)), []⟩, ⟨(some 98), (.pick (.t 84) (.c (.bool true)) (.t 97)), none, []⟩] none [98, 9, 8, 7, 0]) (.cond (.t 98) .stuck .skip)))))) tm σ := rfl
def c_strings_IndexRune_l12 : ACode := (.seq (.seq (.region [⟨(some 48), (.mov (.t 12)), none, []⟩, ⟨(some 49), (.mov (.t 7)), none, []⟩, ⟨(some 50), (.slen (.t 49)), none, []⟩, ⟨(some 51), (.bin .lss (.t 48) (.t 50)), none, []⟩] none [51, 12, 9, 8, 7, 0]) (.cond (.t 51) .skip (.exit 3))) (.seq (.block 4 (.seq (.region [⟨(some 54), (.mov (.t 0)), none, []⟩, ⟨(some 55), (.mov (.t 9)), none, []⟩, ⟨(some 56), (.mov (.t 12)), none, []⟩, ⟨(some 57), (.bin .sub (.t 55) (.t 56)), none, []⟩, ⟨(some 58), (.sindex (.t 54) (.t 57)), none, []⟩, ⟨(some 59), (.mov (.t 7)), none, []⟩, ⟨(some 60), (.mov (.t 8)), none, []⟩, ⟨(some 61), (.mov (.t 12)), none, []⟩, ⟨(some 62), (.bin .sub (.t 60) (.t 61)), none, []⟩, ⟨(some 63), (.sindex (.t 59) (.t 62)), none, []⟩, ⟨(some 64), (.bin .neq (.t 58) (.t 63)), none, []⟩] (some []) [64, 12, 9, 8, 7, 0]) (.cond (.t 64) .stuck .skip))) (.region [⟨(some 52), (.mov (.t 12)), none, []⟩, ⟨(some 53), (.bin .add (.t 52) (.c (.int .i64 1))), none, []⟩, ⟨(some 12), (.mov (.t 53)), none, []⟩] none [12, 9, 8, 7, 0])))
theorem x_strings_IndexRune_l12 (m : Nat) (tm : Tms) (σ : AHeap) : evC FC PR BY m c_strings_IndexRune_l12 tm σ = evC FC PR BY m (.seq (.seq (.region [⟨(some 48), (.mov (.t 12)), none, []⟩, ⟨(some 49), (.mov (.t 7)), none, []⟩, ⟨(some 50), (.slen (.t 49)), none, []⟩, ⟨(some 51), (.bin .lss (.t 48) (.t 50)), none, []⟩] none [51, 12, 9, 8, 7, 0]) (.cond (.t 51) .skip (.exit 3))) (.seq (.block 4 (.seq (.region [⟨(some 54), (.mov (.t 0)), none, []⟩, ⟨(some 55), (.mov (.t 9)), none, []⟩, ⟨(some 56), (.mov (.t 12)), none, []⟩, ⟨(some 57), (.bin .sub (.t 55) (.t 56)), none, []⟩, ⟨(some 58), (.sindex (.t 54) (.t 57)), none, []⟩, ⟨(some 59), (.mov (.t 7)), none, []⟩, ⟨(some 60), (.mov (.t 8)), none, []⟩, ⟨(some 61), (.mov (.t 12)), none, []⟩, ⟨(some 62), (.bin .sub (.t 60) (.t 61)), none, []⟩, ⟨(some 63), (.sindex (.t 59) (.t 62)), none, []⟩, ⟨(some 64), (.bin .neq (.t 58) (.t 63)), none, []⟩] (some []) [64, 12, 9, 8, 7, 0]) (.cond (.t 64) .stuck .skip))) (.region [⟨(some 52), (.mov (.t 12)), none, []⟩, ⟨(some 53), (.bin .add (.t 52) (.c (.int .i64 1))), none, []⟩, ⟨(some 12), (.mov (.t 53)), none, []⟩] none [12, 9, 8, 7, 0]))) tm σ := rfl
def c_strings_IndexRune_l5 : ACode := (.seq (.seq (.region [⟨(some 23), (.mov (.t 9)), none, []⟩, ⟨(some 24), (.mov (.t 0)), none, []⟩, ⟨(some 25), (.slen (.t 24)), none, []⟩, ⟨(some 26), (.bin .lss (.t 23) (.t 25)), none, []⟩] none [26, 9, 8, 7, 0]) (.cond (.t 26) .skip (.exit 1))) (.block 2 (.seq (.seq (.region [⟨(some 27), (.mov (.t 0)), none, []⟩, ⟨(some 28), (.mov (.t 9)), none, []⟩, ⟨(some 29), (.sindex (.t 27) (.t 28)), none, []⟩, ⟨(some 30), (.mov (.t 7)), none, []⟩, ⟨(some 31), (.mov (.t 8)), none, []⟩, ⟨(some 32), (.sindex (.t 30) (.t 31)), none, []⟩, ⟨(some 33), (.bin .neq (.t 29) (.t 32)), none, []⟩] (some []) [33, 9, 8, 7, 0]) (.cond (.t 33) (.seq (.region [⟨(some 34), (.mov (.t 0)), none, []⟩, ⟨(some 35), (.mov (.t 9)), none, []⟩, ⟨(some 36), (.bin .add (.t 35) (.c (.int .i64 1))), none, []⟩, ⟨(some 37), (.sslice (.t 34) (some (.t 36)) none), none, []⟩, ⟨(some 38), (.mov (.t 7)), none, []⟩, ⟨(some 39), (.mov (.t 8)), none, []⟩, ⟨(some 40), (.sindex (.t 38) (.t 39)), none, []⟩, ⟨(some 41), (.call 62 0 true [(.t 37), (.t 40)]), none, []⟩, ⟨(some 11), (.mov (.t 41)), none, []⟩] (some []) [11, 9, 8, 7, 0]) (.seq (.seq (.region [⟨(some 42), (.mov (.t 11)), none, []⟩, ⟨(some 43), (.bin .lss (.t 42) (.c (.int .i64 0))), none, []⟩] none [43, 11, 9, 8, 7, 0]) (.cond (.t 43) (.seq (.region [⟨(some 4), (.mov (.c (.int .i64 (-1)))), none, []⟩] none [4]) .ret) .skip)) (.region [⟨(some 44), (.mov (.t 9)), none, []⟩, ⟨(some 45), (.mov (.t 11)), none, []⟩, ⟨(some 46), (.bin .add (.t 45) (.c (.int .i64 1))), none, []⟩, ⟨(some 47), (.bin .add (.t 44) (.t 46)), none, []⟩, ⟨(some 9), (.mov (.t 47)), none, []⟩] none [9, 8, 7, 0]))) .skip)) (.seq (.seq (.region [⟨(some 12), (.mov (.c (.int .i64 1))), none, []⟩] none [12, 9, 8, 7, 0]) (.block 3 (.loop [12, 9, 8, 7, 0] c_strings_IndexRune_l12))) c_strings_IndexRune_k5))))
theorem x_strings_IndexRune_l5 (m : Nat) (tm : Tms) (σ : AHeap) : evC FC PR BY m c_strings_IndexRune_l5 tm σ = evC FC PR BY m (.seq (.seq (.region [⟨(some 23), (.mov (.t 9)), none, []⟩, ⟨(some 24), (.mov (.t 0)), none, []⟩, ⟨(some 25), (.slen (.t 24)), none, []⟩, ⟨(some 26), (.bin .lss (.t 23) (.t 25)), none, []⟩] none [26, 9, 8, 7, 0]) (.cond (.t 26) .skip (.exit 1))) (.block 2 (.seq (.seq (.region [⟨(some 27), (.mov (.t 0)), none, []⟩, ⟨(some 28), (.mov (.t 9)), none, []⟩, ⟨(some 29), (.sindex (.t 27) (.t 28)), none, []⟩, ⟨(some 30), (.mov (.t 7)), none, []⟩, ⟨(some 31), (.mov (.t 8)), none, []⟩, ⟨(some 32), (.sindex (.t 30) (.t 31)), none, []⟩, ⟨(some 33), (.bin .neq (.t 29) (.t 32)), none, []⟩] (some []) [33, 9, 8, 7, 0]) (.cond (.t 33) (.seq (.region [⟨(some 34), (.mov (.t 0)), none, []⟩, ⟨(some 35), (.mov (.t 9)), none, []⟩, ⟨(some 36), (.bin .add (.t 35) (.c (.int .i64 1))), none, []⟩, ⟨(some 37), (.sslice (.t 34) (some (.t 36)) none), none, []⟩, ⟨(some 38), (.mov (.t 7)), none, []⟩, ⟨(some 39), (.mov (.t 8)), none, []⟩, ⟨(some 40), (.sindex (.t 38) (.t 39)), none, []⟩, ⟨(some 41), (.call 62 0 true [(.t 37), (.t 40)]), none, []⟩, ⟨(some 11), (.mov (.t 41)), none, []⟩] (some []) [11, 9, 8, 7, 0]) (.seq (.seq (.region [⟨(some 42), (.mov (.t 11)), none, []⟩, ⟨(some 43), (.bin .lss (.t 42) (.c (.int .i64 0))), none, []⟩] none [43, 11, 9, 8, 7, 0]) (.cond (.t 43) (.seq (.region [⟨(some 4), (.mov (.c (.int .i64 (-1)))), none, []⟩] none [4]) .ret) .skip)) (.region [⟨(some 44), (.mov (.t 9)), none, []⟩, ⟨(some 45), (.mov (.t 11)), none, []⟩, ⟨(some 46), (.bin .add (.t 45) (.c (.int .i64 1))), none, []⟩, ⟨(some 47), (.bin .add (.t 44) (.t 46)), none, []⟩, ⟨(some 9), (.mov (.t 47)), none, []⟩] none [9, 8, 7, 0]))) .skip)) (.seq (.seq (.region [⟨(some 12), (.mov (.c (.int .i64 1))), none, []⟩] none [12, 9, 8, 7, 0]) (.block 3 (.loop [12, 9, 8, 7, 0] c_strings_IndexRune_l12))) c_strings_IndexRune_k5)))) tm σ := rfl
def b_strings_IndexRune : ACode := (.seq (.region [⟨(some 4), (.mov (.c (.int .i64 0))), none, []⟩] none [1, 0]) (.block 0 (.seq (.region [⟨(some 161), (.mov (.t 1)), none, []⟩, ⟨(some 162), (.bin .leq (.c (.int .i32 0)) (.t 161)), none, []⟩, ⟨(some 163), (.mov (.t 162)), none, []⟩, ⟨(some 164), (.mov (.t 1)), (some (163, true)), []⟩, ⟨(some 165), (.bin .lss (.t 164) (.c (.int .i32 128))), (some (163, true)), []⟩, ⟨(some 166), (.pick (.t 163) (.t 165) (.c (.bool false))), none, []⟩, ⟨(some 160), (.mov (.t 166)), none, []⟩] none [160, 1, 0]) (.cond (.t 160) (.seq (.region [⟨(some 167), (.mov (.t 0)), none, []⟩, ⟨(some 168), (.mov (.t 1)), none, []⟩, ⟨(some 169), (.i2i .u8 (.t 168)), none, []⟩, ⟨(some 170), (.call 62 0 true [(.t 167), (.t 169)]), none, []⟩, ⟨(some 4), (.mov (.t 170)), none, []⟩] none [4]) .ret) (.seq (.region [⟨(some 172), (.mov (.t 1)), none, []⟩, ⟨(some 173), (.bin .eql (.t 172) (.c (.int .i32 65533))), none, []⟩, ⟨(some 171), (.mov (.t 173)), none, []⟩] none [171, 1, 0]) (.cond (.t 171) (.seq (.seq (.region [⟨(some 174), (.mov (.t 0)), none, []⟩, ⟨(some 175), (.rng (.t 174)), none, []⟩] none [175]) (.block 9 (.loop [175] c_strings_IndexRune_l38))) c_strings_IndexRune_k0) (.seq (.region [⟨(some 184), (.mov (.t 1)), none, []⟩, ⟨(some 185), (.call 63 0 true [(.t 184)]), none, []⟩, ⟨(some 186), (.un .not (.t 185)), none, []⟩, ⟨(some 183), (.mov (.t 186)), none, []⟩] none [183, 1, 0]) (.cond (.t 183) (.seq (.region [⟨(some 4), (.mov (.c (.int .i64 (-1)))), none, []⟩] none [4]) .ret) (.seq (.region [⟨(some 17), (.mov (.t 1)), none, []⟩, ⟨(some 18), (.i2s (.t 17)), none, []⟩, ⟨(some 7), (.mov (.t 18)), none, []⟩] none [7, 0]) (.seq (.region [⟨(some 19), (.mov (.t 7)), none, []⟩, ⟨(some 20), (.slen (.t 19)), none, []⟩, ⟨(some 21), (.bin .sub (.t 20) (.c (.int .i64 1))), none, []⟩, ⟨(some 8), (.mov (.t 21)), none, []⟩] none [8, 7, 0]) (.seq (.region [⟨(some 22), (.mov (.t 8)), none, []⟩, ⟨(some 9), (.mov (.t 22)), none, []⟩] none [9, 8, 7, 0]) (.seq (.region [⟨(some 10), (.mov (.c (.int .i64 0))), none, []⟩] none [9, 8, 7, 0]) (.seq (.block 1 (.loop [9, 8, 7, 0] c_strings_IndexRune_l5)) c_strings_IndexRune_k4)))))))))))))
def c_strings_IndexRune : AFunc := ⟨[(.tmp 4)], b_strings_IndexRune⟩
theorem cf_strings_IndexRune : FC 56 = some c_strings_IndexRune := by kernel_rfl
theorem cb_strings_IndexRune : c_strings_IndexRune.body = b_strings_IndexRune := rfl
theorem cr_strings_IndexRune : c_strings_IndexRune.res = [(.tmp 4)] := rfl
/-- slots [175] -/
noncomputable def K_strings_IndexRune_l38 (m : Nat) (tm : Tms) (σ : AHeap) : Option (AVal × AHeap) := (finA m c_strings_IndexRune (Option.map (blockA 0) (seqX FC PR BY m c_strings_IndexRune_k0 (Option.map (blockA 9) (evL FC PR BY m [175] c_strings_IndexRune_l38 tm σ)))))
/-- slots [16, 15, 14, 9, 8, 7, 0] -/
noncomputable def K_strings_IndexRune_l29 (m : Nat) (tm : Tms) (σ : AHeap) : Option (AExit × Tms × AHeap) := (seqX FC PR BY m c_strings_IndexRune_k2 (Option.map (blockA 6) (seqX FC PR BY m c_strings_IndexRune_k3 (Option.map (blockA 7) (evL FC PR BY m [16, 15, 14, 9, 8, 7, 0] c_strings_IndexRune_l29 tm σ)))))
/-- slots [15, 14, 9, 8, 7, 0] -/
noncomputable def K_strings_IndexRune_l25 (m : Nat) (tm : Tms) (σ : AHeap) : Option (AVal × AHeap) := (finA m c_strings_IndexRune (Option.map (blockA 0) (seqX FC PR BY m c_strings_IndexRune_k1 (Option.map (blockA 5) (evL FC PR BY m [15, 14, 9, 8, 7, 0] c_strings_IndexRune_l25 tm σ)))))
/-- slots [12, 9, 8, 7, 0] -/
noncomputable def K_strings_IndexRune_l12 (m : Nat) (tm : Tms) (σ : AHeap) : Option (AExit × Tms × AHeap) := (Option.map (blockA 2) (seqX FC PR BY m c_strings_IndexRune_k5 (Option.map (blockA 3) (evL FC PR BY m [12, 9, 8, 7, 0] c_strings_IndexRune_l12 tm σ))))
/-- slots [9, 8, 7, 0] -/
noncomputable def K_strings_IndexRune_l5 (m : Nat) (tm : Tms) (σ : AHeap) : Option (AVal × AHeap) := (finA m c_strings_IndexRune (Option.map (blockA 0) (seqX FC PR BY m c_strings_IndexRune_k4 (Option.map (blockA 1) (evL FC PR BY m [9, 8, 7, 0] c_strings_IndexRune_l5 tm σ)))))
def c_strings_makeASCIISet_k0 : ACode := (.seq (.region [⟨(some 20), (.ld (some 256) (.t 2)), none, []⟩, ⟨none, (.st 256 (.t 2) (.t 20)), none, []⟩, ⟨(some 3), (.mov (.c (.bool true))), none, []⟩] none [3, 2]) .ret)
theorem x_strings_makeASCIISet_k0 (m : Nat) (tm : Tms) (σ : AHeap) : evC FC PR BY m c_strings_makeASCIISet_k0 tm σ = evC FC PR BY m (.seq (.region [⟨(some 20), (.ld (some 256) (.t 2)), none, []⟩, ⟨none, (.st 256 (.t 2) (.t 20)), none, []⟩, ⟨(some 3), (.mov (.c (.bool true))), none, []⟩] none [3, 2]) .ret) tm σ := rfl
def c_strings_makeASCIISet_l2 : ACode := (.seq (.seq (.region [⟨(some 6), (.mov (.t 4)), none, []⟩, ⟨(some 7), (.mov (.t 0)), none, []⟩, ⟨(some 8), (.slen (.t 7)), none, []⟩, ⟨(some 9), (.bin .lss (.t 6) (.t 8)), none, []⟩] none [9, 4, 2, 0]) (.cond (.t 9) .skip (.exit 0))) (.seq (.block 1 (.seq (.region [⟨(some 12), (.mov (.t 0)), none, []⟩, ⟨(some 13), (.mov (.t 4)), none, []⟩, ⟨(some 14), (.sindex (.t 12) (.t 13)), none, []⟩, ⟨(some 5), (.mov (.t 14)), none, []⟩] none [5, 4, 2, 0]) (.seq (.seq (.region [⟨(some 15), (.mov (.t 5)), none, []⟩, ⟨(some 16), (.bin .geq (.t 15) (.c (.int .u8 128))), none, []⟩] none [16, 5, 4, 2, 0]) (.cond (.t 16) (.seq (.region [⟨(some 17), (.ld (some 256) (.t 2)), none, []⟩, ⟨none, (.st 256 (.t 2) (.t 17)), none, []⟩, ⟨(some 3), (.mov (.c (.bool false))), none, []⟩] none [3, 2]) .ret) .skip)) (.region [⟨(some 18), (.mov (.t 5)), none, []⟩, ⟨(some 19), (.aaddr 1 256 (.t 2) (.t 18)), none, []⟩, ⟨none, (.st 1 (.t 19) (.c (.bool true))), none, []⟩] none [4, 2, 0])))) (.region [⟨(some 10), (.mov (.t 4)), none, []⟩, ⟨(some 11), (.bin .add (.t 10) (.c (.int .i64 1))), none, []⟩, ⟨(some 4), (.mov (.t 11)), none, []⟩] none [4, 2, 0])))
theorem x_strings_makeASCIISet_l2 (m : Nat) (tm : Tms) (σ : AHeap) : evC FC PR BY m c_strings_makeASCIISet_l2 tm σ = evC FC PR BY m (.seq (.seq (.region [⟨(some 6), (.mov (.t 4)), none, []⟩, ⟨(some 7), (.mov (.t 0)), none, []⟩, ⟨(some 8), (.slen (.t 7)), none, []⟩, ⟨(some 9), (.bin .lss (.t 6) (.t 8)), none, []⟩] none [9, 4, 2, 0]) (.cond (.t 9) .skip (.exit 0))) (.seq (.block 1 (.seq (.region [⟨(some 12), (.mov (.t 0)), none, []⟩, ⟨(some 13), (.mov (.t 4)), none, []⟩, ⟨(some 14), (.sindex (.t 12) (.t 13)), none, []⟩, ⟨(some 5), (.mov (.t 14)), none, []⟩] none [5, 4, 2, 0]) (.seq (.seq (.region [⟨(some 15), (.mov (.t 5)), none, []⟩, ⟨(some 16), (.bin .geq (.t 15) (.c (.int .u8 128))), none, []⟩] none [16, 5, 4, 2, 0]) (.cond (.t 16) (.seq (.region [⟨(some 17), (.ld (some 256) (.t 2)), none, []⟩, ⟨none, (.st 256 (.t 2) (.t 17)), none, []⟩, ⟨(some 3), (.mov (.c (.bool false))), none, []⟩] none [3, 2]) .ret) .skip)) (.region [⟨(some 18), (.mov (.t 5)), none, []⟩, ⟨(some 19), (.aaddr 1 256 (.t 2) (.t 18)), none, []⟩, ⟨none, (.st 1 (.t 19) (.c (.bool true))), none, []⟩] none [4, 2, 0])))) (.region [⟨(some 10), (.mov (.t 4)), none, []⟩, ⟨(some 11), (.bin .add (.t 10) (.c (.int .i64 1))), none, []⟩, ⟨(some 4), (.mov (.t 11)), none, []⟩] none [4, 2, 0]))) tm σ := rfl
def b_strings_makeASCIISet : ACode := (.seq (.region [⟨(some 2), (.alloc [(.bool false), (.bool false), (.bool false), (.bool false), (.bool false), (.bool false), (.bool false), (.bool false), (.bool false), (.bool false), (.bool false), (.bool false), (.bool false), (.bool false), (.bool false), (.bool false), (.bool false), (.bool false), (.bool false), (.bool false), (.bool false), (.bool false), (.bool false), (.bool false), (.bool false), (.bool false), (.bool false), (.bool false), (.bool false), (.bool false), (.bool false), (.bool false), (.bool false), (.bool false), (.bool false), (.bool false), (.bool false), (.bool false), (.bool false), (.bool false), (.bool false), (.bool false), (.bool false), (.bool false), (.bool false), (.bool false), (.bool false), (.bool false), (.bool false), (.bool false), (.bool false), (.bool false), (.bool false), (.bool false), (.bool false), (.bool false), (.bool false), (.bool false), (.bool false), (.bool false), (.bool false), (.bool false), (.bool false), (.bool false), (.bool false), (.bool false), (.bool false), (.bool false), (.bool false), (.bool false), (.bool false), (.bool false), (.bool false), (.bool false), (.bool false), (.bool false), (.bool false), (.bool false), (.bool false), (.bool false), (.bool false), (.bool false), (.bool false), (.bool false), (.bool false), (.bool false), (.bool false), (.bool false), (.bool false), (.bool false), (.bool false), (.bool false), (.bool false), (.bool false), (.bool false), (.bool false), (.bool false), (.bool false), (.bool false), (.bool false), (.bool false), (.bool false), (.bool false), (.bool false), (.bool false), (.bool false), (.bool false), (.bool false), (.bool false), (.bool false), (.bool false), (.bool false), (.bool false), (.bool false), (.bool false), (.bool false), (.bool false), (.bool false), (.bool false), (.bool false), (.bool false), (.bool false), (.bool false), (.bool false), (.bool false), (.bool false), (.bool false), (.bool false), (.bool false), (.bool false), (.bool false), (.bool false), (.bool false), (.bool false), (.bool false), (.bool false), (.bool false), (.bool false), (.bool false), (.bool false), (.bool false), (.bool false), (.bool false), (.bool false), (.bool false), (.bool false), (.bool false), (.bool false), (.bool false), (.bool false), (.bool false), (.bool false), (.bool false), (.bool false), (.bool false), (.bool false), (.bool false), (.bool false), (.bool false), (.bool false), (.bool false), (.bool false), (.bool false), (.bool false), (.bool false), (.bool false), (.bool false), (.bool false), (.bool false), (.bool false), (.bool false), (.bool false), (.bool false), (.bool false), (.bool false), (.bool false), (.bool false), (.bool false), (.bool false), (.bool false), (.bool false), (.bool false), (.bool false), (.bool false), (.bool false), (.bool false), (.bool false), (.bool false), (.bool false), (.bool false), (.bool false), (.bool false), (.bool false), (.bool false), (.bool false), (.bool false), (.bool false), (.bool false), (.bool false), (.bool false), (.bool false), (.bool false), (.bool false), (.bool false), (.bool false), (.bool false), (.bool false), (.bool false), (.bool false), (.bool false), (.bool false), (.bool false), (.bool false), (.bool false), (.bool false), (.bool false), (.bool false), (.bool false), (.bool false), (.bool false), (.bool false), (.bool false), (.bool false), (.bool false), (.bool false), (.bool false), (.bool false), (.bool false), (.bool false), (.bool false), (.bool false), (.bool false), (.bool false), (.bool false), (.bool false), (.bool false), (.bool false), (.bool false), (.bool false), (.bool false), (.bool false), (.bool false), (.bool false), (.bool false), (.bool false), (.bool false), (.bool false), (.bool false), (.bool false), (.bool false), (.bool false), (.bool false), (.bool false), (.bool false), (.bool false), (.bool false)]), none, []⟩, ⟨(some 3), (.mov (.c (.bool false))), none, []⟩] none [2, 0]) (.seq (.seq (.region [⟨(some 4), (.mov (.c (.int .i64 0))), none, []⟩] none [4, 2, 0]) (.block 0 (.loop [4, 2, 0] c_strings_makeASCIISet_l2))) c_strings_makeASCIISet_k0))
def c_strings_makeASCIISet : AFunc := ⟨[(.cell 2 (some 256)), (.tmp 3)], b_strings_makeASCIISet⟩
theorem cf_strings_makeASCIISet : FC 58 = some c_strings_makeASCIISet := by kernel_rfl
theorem cb_strings_makeASCIISet : c_strings_makeASCIISet.body = b_strings_makeASCIISet := rfl
theorem cr_strings_makeASCIISet : c_strings_makeASCIISet.res = [(.cell 2 (some 256)), (.tmp 3)] := rfl
/-- slots [4, 2, 0] -/
noncomputable def K_strings_makeASCIISet_l2 (m : Nat) (tm : Tms) (σ : AHeap) : Option (AVal × AHeap) := (finA m c_strings_makeASCIISet (seqX FC PR BY m c_strings_makeASCIISet_k0 (Option.map (blockA 0) (evL FC PR BY m [4, 2, 0] c_strings_makeASCIISet_l2 tm σ))))
def b_strings_shouldUseASCIISet : ACode := (.seq (.region [⟨(some 2), (.mov (.c (.bool false))), none, []⟩] none [0]) (.seq (.region [⟨(some 3), (.mov (.t 0)), none, []⟩, ⟨(some 4), (.bin .gtr (.t 3) (.c (.int .i64 8))), none, []⟩, ⟨(some 2), (.mov (.t 4)), none, []⟩] none [2]) .ret))
def c_strings_shouldUseASCIISet : AFunc := ⟨[(.tmp 2)], b_strings_shouldUseASCIISet⟩
theorem cf_strings_shouldUseASCIISet : FC 57 = some c_strings_shouldUseASCIISet := by kernel_rfl
theorem cb_strings_shouldUseASCIISet : c_strings_shouldUseASCIISet.body = b_strings_shouldUseASCIISet := rfl
theorem cr_strings_shouldUseASCIISet : c_strings_shouldUseASCIISet.res = [(.tmp 2)] := rfl
def b_unicode_utf8_ValidRune : ACode := (.seq (.region [⟨(some 2), (.mov (.c (.bool false))), none, []⟩] none [0]) (.seq (.block 0 (.seq (.region [⟨(some 4), (.mov (.t 0)), none, []⟩, ⟨(some 5), (.bin .leq (.c (.int .i32 0)) (.t 4)), none, []⟩, ⟨(some 6), (.mov (.t 5)), none, []⟩, ⟨(some 7), (.mov (.t 0)), (some (6, true)), []⟩, ⟨(some 8), (.bin .lss (.t 7) (.c (.int .i32 55296))), (some (6, true)), []⟩, ⟨(some 9), (.pick (.t 6) (.t 8) (.c (.bool false))), none, []⟩, ⟨(some 3), (.mov (.t 9)), none, []⟩] none [3, 0]) (.cond (.t 3) (.seq (.region [⟨(some 2), (.mov (.c (.bool true))), none, []⟩] none [2]) .ret) (.seq (.region [⟨(some 11), (.mov (.t 0)), none, []⟩, ⟨(some 12), (.bin .lss (.c (.int .i32 57343)) (.t 11)), none, []⟩, ⟨(some 13), (.mov (.t 12)), none, []⟩, ⟨(some 14), (.mov (.t 0)), (some (13, true)), []⟩, ⟨(some 15), (.bin .leq (.t 14) (.c (.int .i32 1114111))), (some (13, true)), []⟩, ⟨(some 16), (.pick (.t 13) (.t 15) (.c (.bool false))), none, []⟩, ⟨(some 10), (.mov (.t 16)), none, []⟩] none [10]) (.cond (.t 10) (.seq (.region [⟨(some 2), (.mov (.c (.bool true))), none, []⟩] none [2]) .ret) .skip))))) (.seq (.region [⟨(some 2), (.mov (.c (.bool false))), none, []⟩] none [2]) .ret)))
def c_unicode_utf8_ValidRune : AFunc := ⟨[(.tmp 2)], b_unicode_utf8_ValidRune⟩
theorem cf_unicode_utf8_ValidRune : FC 63 = some c_unicode_utf8_ValidRune := by kernel_rfl
theorem cb_unicode_utf8_ValidRune : c_unicode_utf8_ValidRune.body = b_unicode_utf8_ValidRune := rfl
theorem cr_unicode_utf8_ValidRune : c_unicode_utf8_ValidRune.res = [(.tmp 2)] := rfl
end Go.Proofs.YtaaflagbhneakaaDoor
namespace Go.Proofs.YtaaflagbhneakaaDoor
set_option linter.unusedSimpArgs false
set_option linter.unusedVariables false
def c_octet_IsText_k0 : ACode := (.seq (.region [⟨(some 12), (.mov (.t 0)), none, []⟩, ⟨(some 13), (.call 55 0 true [(.t 12)]), none, []⟩, ⟨(some 2), (.mov (.t 13)), none, []⟩] none [2]) .ret)
theorem x_octet_IsText_k0 (m : Nat) (tm : Tms) (σ : AHeap) : evC FC PR BY m c_octet_IsText_k0 tm σ = evC FC PR BY m (.seq (.region [⟨(some 12), (.mov (.t 0)), none, []⟩, ⟨(some 13), (.call 55 0 true [(.t 12)]), none, []⟩, ⟨(some 2), (.mov (.t 13)), none, []⟩] none [2]) .ret) tm σ := rfl
def c_octet_IsText_l2 : ACode := (.seq (.region [⟨(some 7), (.nxt (.t 6)), none, []⟩, ⟨(some 8), (.ext (.t 7) 0), none, []⟩] none [8, 7, 6, 0]) (.seq (.cond (.t 8) .skip (.exit 0)) (.block 1 (.seq (.region [⟨(some 9), (.ext (.t 7) 2), none, []⟩, ⟨(some 4), (.mov (.t 9)), none, []⟩] none [6, 4, 0]) (.seq (.region [⟨(some 10), (.mov (.t 4)), none, []⟩, ⟨(some 11), (.bin .eql (.t 10) (.c (.int .i32 0))), none, []⟩] none [11, 6, 0]) (.cond (.t 11) (.seq (.region [⟨(some 2), (.mov (.c (.bool false))), none, []⟩] none [2]) .ret) .skip))))))
theorem x_octet_IsText_l2 (m : Nat) (tm : Tms) (σ : AHeap) : evC FC PR BY m c_octet_IsText_l2 tm σ = evC FC PR BY m (.seq (.region [⟨(some 7), (.nxt (.t 6)), none, []⟩, ⟨(some 8), (.ext (.t 7) 0), none, []⟩] none [8, 7, 6, 0]) (.seq (.cond (.t 8) .skip (.exit 0)) (.block 1 (.seq (.region [⟨(some 9), (.ext (.t 7) 2), none, []⟩, ⟨(some 4), (.mov (.t 9)), none, []⟩] none [6, 4, 0]) (.seq (.region [⟨(some 10), (.mov (.t 4)), none, []⟩, ⟨(some 11), (.bin .eql (.t 10) (.c (.int .i32 0))), none, []⟩] none [11, 6, 0]) (.cond (.t 11) (.seq (.region [⟨(some 2), (.mov (.c (.bool false))), none, []⟩] none [2]) .ret) .skip)))))) tm σ := rfl
def b_octet_IsText : ACode := (.seq (.region [⟨(some 2), (.mov (.c (.bool false))), none, []⟩] none [0]) (.seq (.seq (.region [⟨(some 5), (.mov (.t 0)), none, []⟩, ⟨(some 6), (.rng (.t 5)), none, []⟩] none [6, 0]) (.block 0 (.loop [6, 0] c_octet_IsText_l2))) c_octet_IsText_k0))
def c_octet_IsText : AFunc := ⟨[(.tmp 2)], b_octet_IsText⟩
theorem cf_octet_IsText : FC 51 = some c_octet_IsText := by kernel_rfl
theorem cb_octet_IsText : c_octet_IsText.body = b_octet_IsText := rfl
theorem cr_octet_IsText : c_octet_IsText.res = [(.tmp 2)] := rfl
/-- slots [6, 0] -/
noncomputable def K_octet_IsText_l2 (m : Nat) (tm : Tms) (σ : AHeap) : Option (AVal × AHeap) := (finA m c_octet_IsText (seqX FC PR BY m c_octet_IsText_k0 (Option.map (blockA 0) (evL FC PR BY m [6, 0] c_octet_IsText_l2 tm σ))))
def c_tidingsref01_IsText_k0 : ACode := (.seq (.region [⟨(some 2), (.mov (.c (.bool true))), none, []⟩] none [2]) .ret)
theorem x_tidingsref01_IsText_k0 (m : Nat) (tm : Tms) (σ : AHeap) : evC FC PR BY m c_tidingsref01_IsText_k0 tm σ = evC FC PR BY m (.seq (.region [⟨(some 2), (.mov (.c (.bool true))), none, []⟩] none [2]) .ret) tm σ := rfl
def c_tidingsref01_IsText_l1 : ACode := (.seq (.seq (.region [⟨(some 5), (.mov (.t 0)), none, []⟩, ⟨(some 6), (.bin .neq (.t 5) (.c (.str []))), none, []⟩] none [6, 0]) (.cond (.t 6) .skip (.exit 0))) (.block 1 (.seq (.region [⟨(some 8), (.mov (.t 0)), none, []⟩, ⟨(some 9), (.call 54 0 true [(.t 8)]), none, []⟩, ⟨(some 7), (.mov (.t 9)), none, []⟩, ⟨(some 10), (.ext (.t 7) 0), none, []⟩, ⟨(some 11), (.ext (.t 7) 1), none, []⟩, ⟨(some 3), (.mov (.t 10)), none, []⟩, ⟨(some 4), (.mov (.t 11)), none, []⟩] none [4, 3, 0]) (.seq (.seq (.region [⟨(some 12), (.mov (.t 4)), none, []⟩, ⟨(some 13), (.bin .eql (.t 12) (.c (.int .i64 0))), none, []⟩, ⟨(some 14), (.mov (.t 13)), none, []⟩, ⟨(some 15), (.mov (.t 3)), (some (14, false)), []⟩, ⟨(some 16), (.bin .eql (.t 15) (.c (.int .i64 0))), (some (14, false)), []⟩, ⟨(some 17), (.pick (.t 14) (.c (.bool true)) (.t 16)), none, []⟩] none [17, 4, 0]) (.cond (.t 17) (.seq (.region [⟨(some 2), (.mov (.c (.bool false))), none, []⟩] none [2]) .ret) .skip)) (.region [⟨(some 18), (.mov (.t 0)), none, []⟩, ⟨(some 19), (.mov (.t 4)), none, []⟩, ⟨(some 20), (.sslice (.t 18) (some (.t 19)) none), none, []⟩, ⟨(some 0), (.mov (.t 20)), none, []⟩] none [0])))))
theorem x_tidingsref01_IsText_l1 (m : Nat) (tm : Tms) (σ : AHeap) : evC FC PR BY m c_tidingsref01_IsText_l1 tm σ = evC FC PR BY m (.seq (.seq (.region [⟨(some 5), (.mov (.t 0)), none, []⟩, ⟨(some 6), (.bin .neq (.t 5) (.c (.str []))), none, []⟩] none [6, 0]) (.cond (.t 6) .skip (.exit 0))) (.block 1 (.seq (.region [⟨(some 8), (.mov (.t 0)), none, []⟩, ⟨(some 9), (.call 54 0 true [(.t 8)]), none, []⟩, ⟨(some 7), (.mov (.t 9)), none, []⟩, ⟨(some 10), (.ext (.t 7) 0), none, []⟩, ⟨(some 11), (.ext (.t 7) 1), none, []⟩, ⟨(some 3), (.mov (.t 10)), none, []⟩, ⟨(some 4), (.mov (.t 11)), none, []⟩] none [4, 3, 0]) (.seq (.seq (.region [⟨(some 12), (.mov (.t 4)), none, []⟩, ⟨(some 13), (.bin .eql (.t 12) (.c (.int .i64 0))), none, []⟩, ⟨(some 14), (.mov (.t 13)), none, []⟩, ⟨(some 15), (.mov (.t 3)), (some (14, false)), []⟩, ⟨(some 16), (.bin .eql (.t 15) (.c (.int .i64 0))), (some (14, false)), []⟩, ⟨(some 17), (.pick (.t 14) (.c (.bool true)) (.t 16)), none, []⟩] none [17, 4, 0]) (.cond (.t 17) (.seq (.region [⟨(some 2), (.mov (.c (.bool false))), none, []⟩] none [2]) .ret) .skip)) (.region [⟨(some 18), (.mov (.t 0)), none, []⟩, ⟨(some 19), (.mov (.t 4)), none, []⟩, ⟨(some 20), (.sslice (.t 18) (some (.t 19)) none), none, []⟩, ⟨(some 0), (.mov (.t 20)), none, []⟩] none [0]))))) tm σ := rfl
def b_tidingsref01_IsText : ACode := (.seq (.region [⟨(some 2), (.mov (.c (.bool false))), none, []⟩] none [0]) (.seq (.block 0 (.loop [0] c_tidingsref01_IsText_l1)) c_tidingsref01_IsText_k0))
def c_tidingsref01_IsText : AFunc := ⟨[(.tmp 2)], b_tidingsref01_IsText⟩
theorem cf_tidingsref01_IsText : FC 48 = some c_tidingsref01_IsText := by kernel_rfl
theorem cb_tidingsref01_IsText : c_tidingsref01_IsText.body = b_tidingsref01_IsText := rfl
theorem cr_tidingsref01_IsText : c_tidingsref01_IsText.res = [(.tmp 2)] := rfl
/-- slots [0] -/
noncomputable def K_tidingsref01_IsText_l1 (m : Nat) (tm : Tms) (σ : AHeap) : Option (AVal × AHeap) := (finA m c_tidingsref01_IsText (seqX FC PR BY m c_tidingsref01_IsText_k0 (Option.map (blockA 0) (evL FC PR BY m [0] c_tidingsref01_IsText_l1 tm σ))))
def c_tidingsref01_char_k0 : ACode := (.seq (.seq (.region [⟨(some 69), (.mov (.t 4)), none, []⟩, ⟨(some 70), (.mov (.t 6)), none, []⟩, ⟨(some 71), (.bin .lss (.t 69) (.t 70)), none, []⟩, ⟨(some 72), (.mov (.t 71)), none, []⟩, ⟨(some 73), (.mov (.t 4)), (some (72, false)), []⟩, ⟨(some 74), (.bin .gtr (.t 73) (.c (.int .i64 1114111))), (some (72, false)), []⟩, ⟨(some 75), (.pick (.t 72) (.c (.bool true)) (.t 74)), none, []⟩, ⟨(some 76), (.mov (.t 75)), none, []⟩, ⟨(some 77), (.mov (.t 4)), (some (76, false)), []⟩, ⟨(some 78), (.bin .geq (.t 77) (.c (.int .i64 55296))), (some (76, false)), []⟩, ⟨(some 79), (.mov (.t 78)), (some (76, false)), []⟩, ⟨(some 80), (.mov (.t 4)), (some (79, true)), []⟩, ⟨(some 81), (.bin .lss (.t 80) (.c (.int .i64 57344))), (some (79, true)), []⟩, ⟨(some 82), (.pick (.t 79) (.t 81) (.c (.bool false))), (some (76, false)), []⟩, ⟨(some 83), (.pick (.t 76) (.c (.bool true)) (.t 82)), none, []⟩] none [83, 5, 4]) (.cond (.t 83) (.seq (.region [⟨(some 2), (.mov (.c (.int .i64 0))), none, []⟩, ⟨(some 3), (.mov (.c (.int .i64 0))), none, []⟩] none [3, 2]) .ret) .skip)) (.seq (.region [⟨(some 84), (.mov (.t 4)), none, []⟩, ⟨(some 85), (.mov (.t 5)), none, []⟩, ⟨(some 86), (.bin .add (.t 85) (.c (.int .i64 1))), none, []⟩, ⟨(some 2), (.mov (.t 84)), none, []⟩, ⟨(some 3), (.mov (.t 86)), none, []⟩] none [3, 2]) .ret))
theorem x_tidingsref01_char_k0 (m : Nat) (tm : Tms) (σ : AHeap) : evC FC PR BY m c_tidingsref01_char_k0 tm σ = evC FC PR BY m (.seq (.seq (.region [⟨(some 69), (.mov (.t 4)), none, []⟩, ⟨(some 70), (.mov (.t 6)), none, []⟩, ⟨(some 71), (.bin .lss (.t 69) (.t 70)), none, []⟩, ⟨(some 72), (.mov (.t 71)), none, []⟩, ⟨(some 73), (.mov (.t 4)), (some (72, false)), []⟩, ⟨(some 74), (.bin .gtr (.t 73) (.c (.int .i64 1114111))), (some (72, false)), []⟩, ⟨(some 75), (.pick (.t 72) (.c (.bool true)) (.t 74)), none, []⟩, ⟨(some 76), (.mov (.t 75)), none, []⟩, ⟨(some 77), (.mov (.t 4)), (some (76, false)), []⟩, ⟨(some 78), (.bin .geq (.t 77) (.c (.int .i64 55296))), (some (76, false)), []⟩, ⟨(some 79), (.mov (.t 78)), (some (76, false)), []⟩, ⟨(some 80), (.mov (.t 4)), (some (79, true)), []⟩, ⟨(some 81), (.bin .lss (.t 80) (.c (.int .i64 57344))), (some (79, true)), []⟩, ⟨(some 82), (.pick (.t 79) (.t 81) (.c (.bool false))), (some (76, false)), []⟩, ⟨(some 83), (.pick (.t 76) (.c (.bool true)) (.t 82)), none, []⟩] none [83, 5, 4]) (.cond (.t 83) (.seq (.region [⟨(some 2), (.mov (.c (.int .i64 0))), none, []⟩, ⟨(some 3), (.mov (.c (.int .i64 0))), none, []⟩] none [3, 2]) .ret) .skip)) (.seq (.region [⟨(some 84), (.mov (.t 4)), none, []⟩, ⟨(some 85), (.mov (.t 5)), none, []⟩, ⟨(some 86), (.bin .add (.t 85) (.c (.int .i64 1))), none, []⟩, ⟨(some 2), (.mov (.t 84)), none, []⟩, ⟨(some 3), (.mov (.t 86)), none, []⟩] none [3, 2]) .ret)) tm σ := rfl
def c_tidingsref01_char_l15 : ACode := (.seq (.seq (.region [⟨(some 46), (.mov (.t 7)), none, []⟩, ⟨(some 47), (.mov (.t 5)), none, []⟩, ⟨(some 48), (.bin .leq (.t 46) (.t 47)), none, []⟩] none [48, 7, 6, 5, 4, 0]) (.cond (.t 48) .skip (.exit 1))) (.seq (.block 2 (.seq (.seq (.region [⟨(some 51), (.mov (.t 0)), none, []⟩, ⟨(some 52), (.mov (.t 7)), none, []⟩, ⟨(some 53), (.sindex (.t 51) (.t 52)), none, []⟩, ⟨(some 54), (.bin .lss (.t 53) (.c (.int .u8 128))), none, []⟩, ⟨(some 55), (.mov (.t 54)), none, []⟩, ⟨(some 56), (.mov (.t 0)), (some (55, false)), []⟩, ⟨(some 57), (.mov (.t 7)), (some (55, false)), []⟩, ⟨(some 58), (.sindex (.t 56) (.t 57)), (some (55, false)), []⟩, ⟨(some 59), (.bin .geq (.t 58) (.c (.int .u8 192))), (some (55, false)), []⟩, ⟨(some 60), (.pick (.t 55) (.c (.bool true)) (.t 59)), none, []⟩] none [60, 7, 6, 5, 4, 0]) (.cond (.t 60) (.seq (.region [⟨(some 2), (.mov (.c (.int .i64 0))), none, []⟩, ⟨(some 3), (.mov (.c (.int .i64 0))), none, []⟩] none [3, 2]) .ret) .skip)) (.region [⟨(some 61), (.mov (.t 4)), none, []⟩, ⟨(some 62), (.bin .mul (.t 61) (.c (.int .i64 64))), none, []⟩, ⟨(some 63), (.mov (.t 0)), none, []⟩, ⟨(some 64), (.mov (.t 7)), none, []⟩, ⟨(some 65), (.sindex (.t 63) (.t 64)), none, []⟩, ⟨(some 66), (.i2i .i64 (.t 65)), none, []⟩, ⟨(some 67), (.bin .add (.t 62) (.t 66)), none, []⟩, ⟨(some 68), (.bin .sub (.t 67) (.c (.int .i64 128))), none, []⟩, ⟨(some 4), (.mov (.t 68)), none, []⟩] none [7, 6, 5, 4, 0]))) (.region [⟨(some 49), (.mov (.t 7)), none, []⟩, ⟨(some 50), (.bin .add (.t 49) (.c (.int .i64 1))), none, []⟩, ⟨(some 7), (.mov (.t 50)), none, []⟩] none [7, 6, 5, 4, 0])))
theorem x_tidingsref01_char_l15 (m : Nat) (tm : Tms) (σ : AHeap) : evC FC PR BY m c_tidingsref01_char_l15 tm σ = evC FC PR BY m (.seq (.seq (.region [⟨(some 46), (.mov (.t 7)), none, []⟩, ⟨(some 47), (.mov (.t 5)), none, []⟩, ⟨(some 48), (.bin .leq (.t 46) (.t 47)), none, []⟩] none [48, 7, 6, 5, 4, 0]) (.cond (.t 48) .skip (.exit 1))) (.seq (.block 2 (.seq (.seq (.region [⟨(some 51), (.mov (.t 0)), none, []⟩, ⟨(some 52), (.mov (.t 7)), none, []⟩, ⟨(some 53), (.sindex (.t 51) (.t 52)), none, []⟩, ⟨(some 54), (.bin .lss (.t 53) (.c (.int .u8 128))), none, []⟩, ⟨(some 55), (.mov (.t 54)), none, []⟩, ⟨(some 56), (.mov (.t 0)), (some (55, false)), []⟩, ⟨(some 57), (.mov (.t 7)), (some (55, false)), []⟩, ⟨(some 58), (.sindex (.t 56) (.t 57)), (some (55, false)), []⟩, ⟨(some 59), (.bin .geq (.t 58) (.c (.int .u8 192))), (some (55, false)), []⟩, ⟨(some 60), (.pick (.t 55) (.c (.bool true)) (.t 59)), none, []⟩] none [60, 7, 6, 5, 4, 0]) (.cond (.t 60) (.seq (.region [⟨(some 2), (.mov (.c (.int .i64 0))), none, []⟩, ⟨(some 3), (.mov (.c (.int .i64 0))), none, []⟩] none [3, 2]) .ret) .skip)) (.region [⟨(some 61), (.mov (.t 4)), none, []⟩, ⟨(some 62), (.bin .mul (.t 61) (.c (.int .i64 64))), none, []⟩, ⟨(some 63), (.mov (.t 0)), none, []⟩, ⟨(some 64), (.mov (.t 7)), none, []⟩, ⟨(some 65), (.sindex (.t 63) (.t 64)), none, []⟩, ⟨(some 66), (.i2i .i64 (.t 65)), none, []⟩, ⟨(some 67), (.bin .add (.t 62) (.t 66)), none, []⟩, ⟨(some 68), (.bin .sub (.t 67) (.c (.int .i64 128))), none, []⟩, ⟨(some 4), (.mov (.t 68)), none, []⟩] none [7, 6, 5, 4, 0]))) (.region [⟨(some 49), (.mov (.t 7)), none, []⟩, ⟨(some 50), (.bin .add (.t 49) (.c (.int .i64 1))), none, []⟩, ⟨(some 7), (.mov (.t 50)), none, []⟩] none [7, 6, 5, 4, 0]))) tm σ := rfl
def b_tidingsref01_char : ACode := (.seq (.region [⟨(some 2), (.mov (.c (.int .i64 0))), none, []⟩, ⟨(some 3), (.mov (.c (.int .i64 0))), none, []⟩] none [0]) (.seq (.region [⟨(some 8), (.mov (.t 0)), none, []⟩, ⟨(some 9), (.sindex (.t 8) (.c (.int .i64 0))), none, []⟩, ⟨(some 10), (.i2i .i64 (.t 9)), none, []⟩, ⟨(some 4), (.mov (.t 10)), none, []⟩] none [4, 0]) (.seq (.region [⟨(some 5), (.mov (.c (.int .i64 0))), none, []⟩, ⟨(some 6), (.mov (.c (.int .i64 0))), none, []⟩] none [4, 0]) (.seq (.block 0 (.seq (.region [⟨(some 12), (.mov (.t 4)), none, []⟩, ⟨(some 13), (.bin .lss (.t 12) (.c (.int .i64 128))), none, []⟩, ⟨(some 11), (.mov (.t 13)), none, []⟩] none [11, 4, 0]) (.cond (.t 11) (.seq (.region [⟨(some 14), (.mov (.t 4)), none, []⟩, ⟨(some 2), (.mov (.t 14)), none, []⟩, ⟨(some 3), (.mov (.c (.int .i64 1))), none, []⟩] none [3, 2]) .ret) (.seq (.region [⟨(some 16), (.mov (.t 4)), none, []⟩, ⟨(some 17), (.bin .geq (.t 16) (.c (.int .i64 192))), none, []⟩, ⟨(some 18), (.mov (.t 17)), none, []⟩, ⟨(some 19), (.mov (.t 4)), (some (18, true)), []⟩, ⟨(some 20), (.bin .lss (.t 19) (.c (.int .i64 224))), (some (18, true)), []⟩, ⟨(some 21), (.pick (.t 18) (.t 20) (.c (.bool false))), none, []⟩, ⟨(some 15), (.mov (.t 21)), none, []⟩] none [15, 4, 0]) (.cond (.t 15) (.region [⟨(some 22), (.mov (.t 4)), none, []⟩, ⟨(some 23), (.bin .sub (.t 22) (.c (.int .i64 192))), none, []⟩, ⟨(some 5), (.mov (.c (.int .i64 1))), none, []⟩, ⟨(some 6), (.mov (.c (.int .i64 128))), none, []⟩, ⟨(some 4), (.mov (.t 23)), none, []⟩] none [6, 5, 4, 0]) (.seq (.region [⟨(some 25), (.mov (.t 4)), none, []⟩, ⟨(some 26), (.bin .geq (.t 25) (.c (.int .i64 224))), none, []⟩, ⟨(some 27), (.mov (.t 26)), none, []⟩, ⟨(some 28), (.mov (.t 4)), (some (27, true)), []⟩, ⟨(some 29), (.bin .lss (.t 28) (.c (.int .i64 240))), (some (27, true)), []⟩, ⟨(some 30), (.pick (.t 27) (.t 29) (.c (.bool false))), none, []⟩, ⟨(some 24), (.mov (.t 30)), none, []⟩] none [24, 4, 0]) (.cond (.t 24) (.region [⟨(some 31), (.mov (.t 4)), none, []⟩, ⟨(some 32), (.bin .sub (.t 31) (.c (.int .i64 224))), none, []⟩, ⟨(some 5), (.mov (.c (.int .i64 2))), none, []⟩, ⟨(some 6), (.mov (.c (.int .i64 2048))), none, []⟩, ⟨(some 4), (.mov (.t 32)), none, []⟩] none [6, 5, 4, 0]) (.seq (.region [⟨(some 34), (.mov (.t 4)), none, []⟩, ⟨(some 35), (.bin .geq (.t 34) (.c (.int .i64 240))), none, []⟩, ⟨(some 36), (.mov (.t 35)), none, []⟩, ⟨(some 37), (.mov (.t 4)), (some (36, true)), []⟩, ⟨(some 38), (.bin .lss (.t 37) (.c (.int .i64 248))), (some (36, true)), []⟩, ⟨(some 39), (.pick (.t 36) (.t 38) (.c (.bool false))), none, []⟩, ⟨(some 33), (.mov (.t 39)), none, []⟩] none [33, 4, 0]) (.cond (.t 33) (.region [⟨(some 40), (.mov (.t 4)), none, []⟩, ⟨(some 41), (.bin .sub (.t 40) (.c (.int .i64 240))), none, []⟩, ⟨(some 5), (.mov (.c (.int .i64 3))), none, []⟩, ⟨(some 6), (.mov (.c (.int .i64 65536))), none, []⟩, ⟨(some 4), (.mov (.t 41)), none, []⟩] none [6, 5, 4, 0]) (.seq (.region [⟨(some 2), (.mov (.c (.int .i64 0))), none, []⟩, ⟨(some 3), (.mov (.c (.int .i64 0))), none, []⟩] none [3, 2]) .ret)))))))))) (.seq (.seq (.region [⟨(some 42), (.mov (.t 0)), none, []⟩, ⟨(some 43), (.slen (.t 42)), none, []⟩, ⟨(some 44), (.mov (.t 5)), none, []⟩, ⟨(some 45), (.bin .leq (.t 43) (.t 44)), none, []⟩] none [45, 6, 5, 4, 0]) (.cond (.t 45) (.seq (.region [⟨(some 2), (.mov (.c (.int .i64 0))), none, []⟩, ⟨(some 3), (.mov (.c (.int .i64 0))), none, []⟩] none [3, 2]) .ret) .skip)) (.seq (.seq (.region [⟨(some 7), (.mov (.c (.int .i64 1))), none, []⟩] none [7, 6, 5, 4, 0]) (.block 1 (.loop [7, 6, 5, 4, 0] c_tidingsref01_char_l15))) c_tidingsref01_char_k0))))))
def c_tidingsref01_char : AFunc := ⟨[(.tmp 2), (.tmp 3)], b_tidingsref01_char⟩
theorem cf_tidingsref01_char : FC 54 = some c_tidingsref01_char := by kernel_rfl
theorem cb_tidingsref01_char : c_tidingsref01_char.body = b_tidingsref01_char := rfl
theorem cr_tidingsref01_char : c_tidingsref01_char.res = [(.tmp 2), (.tmp 3)] := rfl
/-- slots [7, 6, 5, 4, 0] -/
noncomputable def K_tidingsref01_char_l15 (m : Nat) (tm : Tms) (σ : AHeap) : Option (AVal × AHeap) := (finA m c_tidingsref01_char (seqX FC PR BY m c_tidingsref01_char_k0 (Option.map (blockA 1) (evL FC PR BY m [7, 6, 5, 4, 0] c_tidingsref01_char_l15 tm σ))))
end Go.Proofs.YtaaflagbhneakaaDoor
