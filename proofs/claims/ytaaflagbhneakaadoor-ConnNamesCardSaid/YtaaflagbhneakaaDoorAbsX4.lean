/- ABS: regions whose order is open, for simp. -/
import Derived.Test.YtaaflagbhneakaaDoorAbsX3
namespace Go.Proofs.YtaaflagbhneakaaDoor
set_option linter.unusedSimpArgs false
set_option linter.unusedVariables false
open Go.RowKit
theorem blockA_n (id : Nat) (tm : Tms) (σ : AHeap) : blockA id (.normal, tm, σ) = (.normal, tm, σ) := rfl
theorem blockA_e (id i : Nat) (tm : Tms) (σ : AHeap) : blockA id (.exit i, tm, σ) = if i = id then (.normal, tm, σ) else (.exit i, tm, σ) := by simp only [blockA]
theorem blockA_r (id : Nat) (tm : Tms) (σ : AHeap) : blockA id (.ret, tm, σ) = (.ret, tm, σ) := rfl
theorem blockA_p (id : Nat) (x : AVal) (tm : Tms) (σ : AHeap) : blockA id (.panic x, tm, σ) = (.panic x, tm, σ) := rfl
section
variable (O : Oracle) (byref : Nat → Bool)
def consC (c : Cls) : Option (Tms × AHeap × List Cls × Option AVal) → Option (Tms × AHeap × List Cls × Option AVal)
  | none => none
  | some (tm, σ, cs, p) => some (tm, σ, c :: cs, p)
def appC (c : List Cls) : Option (Tms × AHeap × List Cls × Option AVal) → Option (Tms × AHeap × List Cls × Option AVal)
  | none => none
  | some (tm, σ, cs, p) => some (tm, σ, c ++ cs, p)
def kC (d : Option Nat) (os : List AOp) (s : Nat) (tm : Tms) : Option (AVal × AHeap × Cls) → Option (Tms × AHeap × List Cls × Option AVal)
  | none => none
  | some (v, σ, c) => if isPan v then some (tput tm d v, σ, [c], some (valOf v)) else consC c (runOps O byref os s (tput tm d v) σ)
def regC (ops : List AOp) (L : Nat) (l : List (Nat × Nat)) (live : List Nat) : Option (Tms × AHeap × List Cls × Option AVal) → Option (AExit × Tms × AHeap)
  | none => none
  | some (_, _, _, some _) => none
  | some (tm, σ, cs, none) => if chkA ops L l cs then some (.normal, keepL live tm, σ) else none
variable {O byref}
theorem C_nil (s : Nat) (tm : Tms) (σ : AHeap) : runOps O byref [] s tm σ = some (tm, σ, [], none) := rfl
theorem consC_some (c : Cls) (tm : Tms) (σ : AHeap) (cs : List Cls) (p : Option AVal) : consC c (some (tm, σ, cs, p)) = some (tm, σ, c :: cs, p) := rfl
theorem consC_none (c : Cls) : consC c none = none := rfl
theorem consC_ite (c : Cls) (q : Prop) [Decidable q] (x y : Option (Tms × AHeap × List Cls × Option AVal)) : consC c (if q then x else y) = if q then consC c x else consC c y := by split <;> rfl
theorem appC_some (c : List Cls) (tm : Tms) (σ : AHeap) (cs : List Cls) (p : Option AVal) : appC c (some (tm, σ, cs, p)) = some (tm, σ, c ++ cs, p) := rfl
theorem appC_none (c : List Cls) : appC c none = none := rfl
theorem appC_ite (c : List Cls) (q : Prop) [Decidable q] (x y : Option (Tms × AHeap × List Cls × Option AVal)) : appC c (if q then x else y) = if q then appC c x else appC c y := by split <;> rfl
theorem C_step {o : AOp} {os : List AOp} {s : Nat} {tm tm1 : Tms} {σ σ1 : AHeap} {v : AVal} {c : Cls} (h : stepA O byref o s tm σ = some (v, tm1, σ1, c)) (hn : isPan v = false) : runOps O byref (o :: os) s tm σ = consC c (runOps O byref os (s + nsite o.ins) tm1 σ1) := by
  rw [runOps_step h hn]
  cases runOps O byref os (s + nsite o.ins) tm1 σ1 <;> rfl
theorem C_cons (d : Option Nat) (i : Ins) (af : List Nat) (os : List AOp) (s : Nat) (tm : Tms) (σ : AHeap) : runOps O byref (⟨d, i, none, af⟩ :: os) s tm σ = kC O byref d os (s + nsite i) tm (exI O byref i s tm σ) := by
  cases h : exI O byref i s tm σ with
  | none => exact runOps_none (by rw [step_one, h]; rfl)
  | some q =>
    obtain ⟨v, σ1, c⟩ := q
    have hs : stepA O byref ⟨d, i, none, af⟩ s tm σ = some (v, tput tm d v, σ1, c) := by rw [step_one, h]; rfl
    cases hp : isPan v with
    | true =>
      obtain ⟨x, rfl⟩ := isPan_true hp
      exact runOps_pan hs
    | false =>
      rw [C_step hs hp]
      simp only [kC, hp, Bool.false_eq_true, if_false]
theorem kC_some (d : Option Nat) (os : List AOp) (s : Nat) (tm : Tms) (v : AVal) (σ : AHeap) (c : Cls) (h : isPan v = false) : kC O byref d os s tm (some (v, σ, c)) = consC c (runOps O byref os s (tput tm d v) σ) := by
  simp only [kC, h, Bool.false_eq_true, if_false]
theorem kC_pan (d : Option Nat) (os : List AOp) (s : Nat) (tm : Tms) (x : AVal) (σ : AHeap) (c : Cls) : kC O byref d os s tm (some (.pan x, σ, c)) = some (tput tm d (.pan x), σ, [c], some x) := rfl
theorem kC_none (d : Option Nat) (os : List AOp) (s : Nat) (tm : Tms) : kC O byref d os s tm none = none := rfl
theorem kC_ite (d : Option Nat) (os : List AOp) (s : Nat) (tm : Tms) (q : Prop) [Decidable q] (x y : Option (AVal × AHeap × Cls)) : kC O byref d os s tm (if q then x else y) = if q then kC O byref d os s tm x else kC O byref d os s tm y := by split <;> rfl
theorem reg_some (ops : List AOp) (l : List (Nat × Nat)) (live : List Nat) (tm : Tms) (σ : AHeap) : runRegion O byref ops (some l) live tm σ = regC ops σ.length l live (runOps O byref ops σ.length tm (σ ++ List.replicate (sitesOf ops) .free)) := by
  unfold runRegion
  cases runOps O byref ops σ.length tm (σ ++ List.replicate (sitesOf ops) .free) with
  | none => rfl
  | some q =>
    obtain ⟨tm', σ', cs, p⟩ := q
    cases p <;> rfl
theorem regC_some (ops : List AOp) (L : Nat) (l : List (Nat × Nat)) (live : List Nat) (tm : Tms) (σ : AHeap) (cs : List Cls) (h : chkA ops L l cs = true) : regC ops L l live (some (tm, σ, cs, none)) = some (.normal, keepL live tm, σ) := by
  simp only [regC, h, if_true]
theorem regC_none (ops : List AOp) (L : Nat) (l : List (Nat × Nat)) (live : List Nat) : regC ops L l live none = none := rfl
theorem regC_ite (ops : List AOp) (L : Nat) (l : List (Nat × Nat)) (live : List Nat) (q : Prop) [Decidable q] (x y : Option (Tms × AHeap × List Cls × Option AVal)) : regC ops L l live (if q then x else y) = if q then regC ops L l live x else regC ops L l live y := by split <;> rfl
/-- a check of classes that touch nothing -/
theorem chk_quiet (ops : List AOp) (L : Nat) (l : List (Nat × Nat)) (cs : List Cls) (h : (cs.all fun c => c.wr.isEmpty && !c.any) = true) (hs : (l.all fun p => nsite (ops.getD p.1 default).ins == 0) = true) : chkA ops L l cs = true := by
  have hd : ∀ i, noWr (cs.getD i {}) = true := by
    intro i
    rw [List.all_eq_true] at h
    rw [List.getD_eq_getElem?_getD]
    cases hi : cs[i]? with
    | none => rfl
    | some c => exact h c (List.mem_of_getElem? hi)
  unfold chkA
  rw [List.all_eq_true] at hs ⊢
  intro p hp
  unfold pairFree
  simp only [hd, hs p hp, Bool.and_true, Bool.true_and, Bool.true_or, Bool.or_true]
/-- a region whose classes write nothing -/
theorem regC_quiet (ops : List AOp) (L : Nat) (l : List (Nat × Nat)) (live : List Nat) (tm : Tms) (σ : AHeap) (cs : List Cls) (h : (cs.all fun c => c.wr.isEmpty && !c.any) = true) (hs : (l.all fun p => nsite (ops.getD p.1 default).ins == 0) = true) : regC ops L l live (some (tm, σ, cs, none)) = some (.normal, keepL live tm, σ) :=
  regC_some _ _ _ _ _ _ _ (chk_quiet _ _ _ _ h hs)
variable (O byref) in
def gKC (os : List AOp) (s : Nat) : Option (Tms × AHeap × List Cls × Option AVal) → Option (Tms × AHeap × List Cls × Option AVal)
  | none => none
  | some (tm, σ, cs, some x) => some (tm, σ, cs, some x)
  | some (tm, σ, cs, none) => appC cs (runOps O byref os s tm σ)
theorem gKC_some (os : List AOp) (s : Nat) (tm : Tms) (σ : AHeap) (cs : List Cls) : gKC O byref os s (some (tm, σ, cs, none)) = appC cs (runOps O byref os s tm σ) := rfl
theorem gKC_ite (os : List AOp) (s : Nat) (q : Prop) [Decidable q] (x y : Option (Tms × AHeap × List Cls × Option AVal)) : gKC O byref os s (if q then x else y) = if q then gKC O byref os s x else gKC O byref os s y := by split <;> rfl
theorem gKC_cons (os : List AOp) (s : Nat) (c : Cls) (r : Option (Tms × AHeap × List Cls × Option AVal)) : gKC O byref os s (consC c r) = consC c (gKC O byref os s r) := by
  cases r with
  | none => rfl
  | some q =>
    obtain ⟨tm, σ, cs, p⟩ := q
    cases p with
    | some x => rfl
    | none =>
      simp only [consC, gKC]
      cases runOps O byref os s tm σ <;> rfl
theorem C_append : ∀ (a b : List AOp) (s : Nat) (tm : Tms) (σ : AHeap), runOps O byref (a ++ b) s tm σ = gKC O byref b (s + sitesOf a) (runOps O byref a s tm σ)
  | [], b, s, tm, σ => by
    simp only [List.nil_append, C_nil, gKC, sitesOf, List.map_nil, List.sum_nil, Nat.add_zero]
    cases runOps O byref b s tm σ <;> rfl
  | o :: a, b, s, tm, σ => by
    have ih := C_append a b
    simp only [List.cons_append]
    have hs : s + nsite o.ins + sitesOf a = s + sitesOf (o :: a) := by simp [sitesOf, Nat.add_assoc]
    cases hst : stepA O byref o s tm σ with
    | none => rw [runOps_none hst, runOps_none hst]; rfl
    | some q =>
      obtain ⟨v, tm1, σ1, c⟩ := q
      cases hp : isPan v with
      | true =>
        obtain ⟨x, rfl⟩ := isPan_true hp
        rw [runOps_pan hst, runOps_pan hst]; rfl
      | false => rw [C_step hst hp, C_step hst hp, ih, hs, gKC_cons]
variable (O byref) in
def gRunC (j : Nat) (w : Bool) (g : List AOp) (s : Nat) (tm : Tms) (σ : AHeap) : Option (Tms × AHeap × List Cls × Option AVal) := match wantedA (some (j, w)) tm with
  | none => none
  | some false => some (gSkip g tm, σ, g.map fun _ => {}, none)
  | some true => runOps O byref (g.map unG) s tm σ
theorem C_group (j : Nat) (w : Bool) : ∀ (g : List AOp), (∀ o ∈ g, o.guard = some (j, w) ∧ o.dst ≠ some j) → ∀ (s : Nat) (tm : Tms) (σ : AHeap), g ≠ [] → runOps O byref g s tm σ = gRunC O byref j w g s tm σ
  | [], _, _, _, _, h => absurd rfl h
  | o :: g, hall, s, tm, σ, _ => by
    obtain ⟨hg, hd⟩ := hall o (by simp)
    have ih : ∀ (tm : Tms) (σ : AHeap) (s : Nat), wantedA (some (j, w)) tm ≠ none → runOps O byref g s tm σ = gRunC O byref j w g s tm σ := by
      intro tm σ s hw
      by_cases he : g = []
      · subst he
        unfold gRunC
        cases hx : wantedA (some (j, w)) tm with
        | none => exact absurd hx hw
        | some b => cases b <;> rfl
      · exact C_group j w g (fun o ho => hall o (by simp [ho])) s tm σ he
    cases hx : wantedA (some (j, w)) tm with
    | none =>
      rw [runOps_none (by simp only [stepA, hg, hx])]
      simp only [gRunC, hx]
    | some b =>
      cases b with
      | false =>
        have h1 : runOps O byref (o :: g) s tm σ = consC {} (runOps O byref g (s + nsite o.ins) (tput tm o.dst (.tup [])) σ) :=
          C_step (v := .tup []) (c := {}) (by simp only [stepA, hg, hx]) rfl
        rw [h1, ih _ _ _ (by rw [wanted_put hd, hx]; simp)]
        unfold gRunC
        rw [wanted_put hd, hx]
        rfl
      | true =>
        have key : ∀ r : Option (AVal × AHeap × Cls), (∀ v σ' c, r = some (v, σ', c) → isPan v = false → runOps O byref g (s + nsite o.ins) (tput tm o.dst v) σ' = runOps O byref (g.map unG) (s + nsite o.ins) (tput tm o.dst v) σ') → kC O byref o.dst g (s + nsite o.ins) tm r = kC O byref o.dst (g.map unG) (s + nsite o.ins) tm r := by
          intro r hr
          cases r with
          | none => rfl
          | some q =>
            obtain ⟨v, σ', c⟩ := q
            cases hp : isPan v with
            | true => simp only [kC, hp, if_true]
            | false => rw [kC_some _ _ _ _ _ _ _ hp, kC_some _ _ _ _ _ _ _ hp, hr v σ' c rfl hp]
        have h1 : runOps O byref (o :: g) s tm σ = kC O byref o.dst g (s + nsite o.ins) tm (exI O byref o.ins s tm σ) := by
          have h0 : runOps O byref (o :: g) s tm σ = runOps O byref (⟨o.dst, o.ins, none, o.after⟩ :: g) s tm σ := by
            have hst : stepA O byref o s tm σ = stepA O byref ⟨o.dst, o.ins, none, o.after⟩ s tm σ := by
              unfold stepA
              simp only [hg, hx]
              rfl
            simp only [runOps, hst]
          rw [h0, C_cons]
        rw [h1]
        unfold gRunC
        rw [hx]
        simp only [List.map_cons]
        rw [show unG o = ⟨o.dst, o.ins, none, o.after⟩ from rfl, C_cons]
        refine key _ fun v σ' c _ _ => ?_
        rw [ih _ _ _ (by rw [wanted_put hd, hx]; simp)]
        unfold gRunC
        rw [wanted_put hd, hx]
theorem C_guard (d : Option Nat) (i : Ins) (j : Nat) (w : Bool) (af : List Nat) (os : List AOp) (s : Nat) (tm : Tms) (σ : AHeap) (hd : decide (d = some j) = false) :
    runOps O byref (⟨d, i, some (j, w), af⟩ :: os) s tm σ = gKC O byref (gSpan j w os).2 (s + sitesOf (⟨d, i, some (j, w), af⟩ :: (gSpan j w os).1)) (gRunC O byref j w (⟨d, i, some (j, w), af⟩ :: (gSpan j w os).1) s tm σ) := by
  have h := gSpan_eq j w os
  have hall : ∀ o ∈ (⟨d, i, some (j, w), af⟩ :: (gSpan j w os).1 : List AOp), o.guard = some (j, w) ∧ o.dst ≠ some j := by
    intro o ho
    rcases List.mem_cons.1 ho with rfl | ho
    · exact ⟨rfl, by simpa using hd⟩
    · exact gSpan_all j w os o ho
  rw [← C_group j w _ hall s tm σ (by simp), ← C_append, List.cons_append, h]
variable (O byref) in
def gWC (w : Bool) (g : List AOp) (s : Nat) (tm : Tms) (σ : AHeap) : AVal → Option (Tms × AHeap × List Cls × Option AVal)
  | .bool b => if b = w then runOps O byref (g.map unG) s tm σ else some (gSkip g tm, σ, g.map fun _ => {}, none)
  | .tup [] => some (gSkip g tm, σ, g.map fun _ => {}, none)
  | _ => none
theorem gRunC_eq (j : Nat) (w : Bool) (g : List AOp) (s : Nat) (tm : Tms) (σ : AHeap) : gRunC O byref j w g s tm σ = gWC O byref w g s tm σ (tget tm j) := by
  unfold gRunC wantedA
  simp only
  generalize tget tm j = v
  cases v
  case bool b => cases b <;> cases w <;> rfl
  case tup vs => cases vs <;> rfl
  all_goals rfl
theorem gWC_bool (w : Bool) (g : List AOp) (s : Nat) (tm : Tms) (σ : AHeap) (b : Bool) : gWC O byref w g s tm σ (.bool b) = if b = w then runOps O byref (g.map unG) s tm σ else some (gSkip g tm, σ, g.map fun _ => {}, none) := rfl
theorem gWC_off (w : Bool) (g : List AOp) (s : Nat) (tm : Tms) (σ : AHeap) : gWC O byref w g s tm σ (.tup []) = some (gSkip g tm, σ, g.map fun _ => {}, none) := rfl
theorem ite_exc (q : Prop) [Decidable q] (t1 t2 : Tms) (σ1 σ2 : AHeap) (cs : List Cls) : (if q then some (t1, σ1, cs, (none : Option AVal)) else some (t2, σ2, cs, none)) = some ((if q then t1 else t2), (if q then σ1 else σ2), cs, none) := by split <;> rfl
theorem cls_quiet : (Cls.mk [] [] false) = {} := rfl
end
section
theorem gc_one {r : AVal} {cs : List AVal} {σ : AHeap} (hr : noRef r = true) (hc : noRefL cs = true) : gcA 1 [r] (.var cs :: σ) = ([r], [.var cs]) := by
  have e1 := (noRef_spec (rhoOf (.var cs :: σ) 1 [0]) r hr)
  have e2 := (noRefL_spec (rhoOf (.var cs :: σ) 1 [0]) cs hc)
  have h1 : gcIds 1 [r] (.var cs :: σ) = [0] := by
    have : refsL [r] = [] := by simp only [refsL, e1.2, List.append_nil]
    simp only [gcIds, this, List.nil_append, List.range_one, List.flatMap_cons, List.flatMap_nil, List.append_nil, List.getD_cons_zero, refsB, e2.2]
    rfl
  simp only [gcA, h1, renL, e1.1, heapOf, List.getD_cons_zero, newGen, genB, renB, e2.1]
/-- an answer without blocks, of a function that was handed one variable -/
theorem out_one {r : AVal} {cs : List AVal} {σ : AHeap} (hr : noRef r = true) (hc : noRefL cs = true) : outA 1 (.var cs :: σ) r = some (r, [.var cs]) := by
  simp only [outA, gc_one hr hc]
theorem reach_one {σ : AHeap} {t : Nat} {cs : List AVal} (hs : σ[t]? = some (.var cs)) (hc : noRefL cs = true) : reach σ 1000 [t] [] = [t] := by
  have hd : σ.getD t .free = .var cs := by simp [List.getD_eq_getElem?_getD, hs]
  have e2 := (noRefL_spec (fun _ _ => none) cs hc).2
  show reach σ (999 + 1) [t] [] = [t]
  simp only [reach, List.contains_nil, Bool.false_eq_true, if_false, hd, refsB, e2, List.nil_append]
theorem call_ref {O : Oracle} {byref : Nat → Bool} {σ : AHeap} {t site f : Nat} {view : Bool} {rest : List AVal} {cs cs' : List AVal} {r : AVal} (hs : σ[t]? = some (.var cs)) (hc : noRefL cs = true) (hc' : noRefL cs' = true) (hb : byref f = false) (hp : rest.all plainV = true) (hr : flatA r = true) (hn : noRef r = true) (hv : viewR [.var cs'] r = some (r, []))
    (h : O f (.ref 0 0 :: rest.map normV) [.var cs] = some (r, [.var cs'])) : callG O byref σ site f 0 view (.ref t 0 :: rest) = some (r, σ.set t (.var cs'), { any := true }) := by
  have hd : σ.getD t .free = .var cs := by simp [List.getD_eq_getElem?_getD, hs]
  have hf0 : freezeA σ [] = σ := rfl
  have hsh : showAs σ (.ref t 0 :: rest) = some (.ref t 0 :: rest.map normV, []) := by
    rw [showAs, show showA σ (.ref t 0) = some (.ref t 0, []) from rfl, plainVs_show hp]
    rfl
  have href : refsL (.ref t 0 :: rest.map normV) = [t] := by
    rw [refsL, normVs_refs hp]; rfl
  unfold callG showIf
  rw [hb]
  simp only [Bool.false_eq_true, if_false, hsh, hf0, href, reach_one hs hc]
  unfold callI
  have hall : ([t].all fun t => okB (σ.getD t .free)) = true := by simp [List.all_cons, List.all_nil, hs, okB]
  rw [if_pos hall]
  have hρ : rhoOf σ 0 [t] t 0 = some (0, 0) := by simp [rhoOf, idxA, hs, genB, newGen]
  have hheap : heapOf σ 0 [t] (rhoOf σ 0 [t]) [t] 0 = [.var cs] := by
    simp only [heapOf, hd, newGen, genB, renB, (noRefL_spec _ cs hc).1]
  have hargs : renL (rhoOf σ 0 [t]) (.ref t 0 :: rest.map normV) = .ref 0 0 :: rest.map normV := by
    rw [renL, normVs_ren hp]
    simp only [renV, hρ]
  rw [hargs, hheap, h]
  have hask : askO view [t].length (some (r, [.var cs'])) = some (r, [.var cs']) := by
    unfold askO
    split
    · have hnp : ∀ x, r ≠ .pan x := by rintro x rfl; simp [viewR, viewA, viewA1] at hv
      rw [show resV [t].length (some (r, [.var cs'])) = (match viewR [.var cs'] r with
        | some (r', ts) => match gcA [t].length [r'] (freezeA [.var cs'] ts) with
          | ([r''], σ') => some (r'', σ')
          | _ => none
        | none => none) from by cases r <;> first | rfl | exact absurd rfl (hnp _)]
      rw [hv]
      simp only [List.length_cons, List.length_nil, Nat.zero_add, show freezeA [ABlk.var cs'] [] = [.var cs'] from rfl, gc_one hn hc']
    · rfl
  rw [hask]
  have hk : okBack σ [t] [.var cs'] 0 = true := by
    simp [okBack, okB, hs, sameKind, genB]
  simp only [backG, List.isEmpty_cons, Bool.false_and, Bool.false_eq_true, if_false, List.length_cons, List.length_nil, Nat.zero_add, Nat.add_zero, Nat.le_refl, decide_true, hk, freeFrom, Bool.and_self, if_true, layBack, tgtBack, List.getD_cons_zero, genBack, List.getElem?_cons_zero, hd, genB, renB, (noRef_spec _ r hn).1, (noRefL_spec _ cs' hc').1]
end
end Go.Proofs.YtaaflagbhneakaaDoor
