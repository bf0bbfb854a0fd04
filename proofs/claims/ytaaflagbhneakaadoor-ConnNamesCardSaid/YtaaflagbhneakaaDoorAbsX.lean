/- ABS: equations by which calls are told, for simp. -/
import Derived.Test.YtaaflagbhneakaaDoorAbsEv
namespace Go.Proofs.YtaaflagbhneakaaDoor
set_option linter.unusedSimpArgs false
set_option linter.unusedVariables false
open Go.RowKit

/-- without what is touched -/
def dropC : Tms × AHeap × List Cls × Option AVal → Tms × AHeap × Option AVal := fun q => (q.1, q.2.1, q.2.2.2)
def isPan : AVal → Bool
  | .pan _ => true
  | _ => false
section
variable (O : Oracle) (byref : Nat → Bool)
def exI (i : Ins) (s : Nat) (tm : Tms) (σ : AHeap) : Option (AVal × AHeap × Cls) :=
  if nsite i == 0 || freeAt σ s then execI O byref tm σ s i else none
/-- operations, what they touch left out -/
def runN (ops : List AOp) (s : Nat) (tm : Tms) (σ : AHeap) : Option (Tms × AHeap × Option AVal) := (runOps O byref ops s tm σ).map dropC
def kN (d : Option Nat) (os : List AOp) (s : Nat) (tm : Tms) : Option (AVal × AHeap × Cls) → Option (Tms × AHeap × Option AVal)
  | none => none
  | some (v, σ, _) => if isPan v then some (tput tm d v, σ, some (valOf v)) else runN O byref os s (tput tm d v) σ
def regN (live : List Nat) : Option (Tms × AHeap × Option AVal) → Option (AExit × Tms × AHeap)
  | none => none
  | some (_, σ, some x) => some (.panic x, [], σ)
  | some (tm, σ, none) => some (.normal, keepL live tm, σ)
variable {O byref}
theorem runN_nil (s : Nat) (tm : Tms) (σ : AHeap) : runN O byref [] s tm σ = some (tm, σ, none) := rfl
theorem runOps_none {o : AOp} {os : List AOp} {s : Nat} {tm : Tms} {σ : AHeap} (h : stepA O byref o s tm σ = none) : runOps O byref (o :: os) s tm σ = none := by simp only [runOps, h]
theorem runOps_pan {o : AOp} {os : List AOp} {s : Nat} {tm tm1 : Tms} {σ σ1 : AHeap} {x : AVal} {c : Cls} (h : stepA O byref o s tm σ = some (.pan x, tm1, σ1, c)) : runOps O byref (o :: os) s tm σ = some (tm1, σ1, [c], some x) := by simp only [runOps, h]
theorem runOps_step {o : AOp} {os : List AOp} {s : Nat} {tm tm1 : Tms} {σ σ1 : AHeap} {v : AVal} {c : Cls} (h : stepA O byref o s tm σ = some (v, tm1, σ1, c)) (hn : isPan v = false) : runOps O byref (o :: os) s tm σ = (runOps O byref os (s + nsite o.ins) tm1 σ1).map fun q => (q.1, q.2.1, c :: q.2.2.1, q.2.2.2) := by
  simp only [runOps, h]
  cases v <;> first
    | (simp [isPan] at hn; done)
    | (simp only; cases runOps O byref os (s + nsite o.ins) tm1 σ1 <;> rfl)
theorem runN_none {o : AOp} {os : List AOp} {s : Nat} {tm : Tms} {σ : AHeap} (h : stepA O byref o s tm σ = none) : runN O byref (o :: os) s tm σ = none := by simp only [runN, runOps_none h, Option.map_none]
theorem runN_pan {o : AOp} {os : List AOp} {s : Nat} {tm tm1 : Tms} {σ σ1 : AHeap} {x : AVal} {c : Cls} (h : stepA O byref o s tm σ = some (.pan x, tm1, σ1, c)) : runN O byref (o :: os) s tm σ = some (tm1, σ1, some x) := by simp only [runN, runOps_pan h, Option.map_some, dropC]
theorem runN_step {o : AOp} {os : List AOp} {s : Nat} {tm tm1 : Tms} {σ σ1 : AHeap} {v : AVal} {c : Cls} (h : stepA O byref o s tm σ = some (v, tm1, σ1, c)) (hn : isPan v = false) : runN O byref (o :: os) s tm σ = runN O byref os (s + nsite o.ins) tm1 σ1 := by
  simp only [runN, runOps_step h hn, Option.map_map]
  rfl
theorem isPan_true {v : AVal} (h : isPan v = true) : ∃ x, v = .pan x := by
  cases v <;> first | exact ⟨_, rfl⟩ | (simp [isPan] at h; done)
theorem step_one {d : Option Nat} {i : Ins} {af : List Nat} {s : Nat} {tm : Tms} {σ : AHeap} : stepA O byref ⟨d, i, none, af⟩ s tm σ = (exI O byref i s tm σ).map fun q => (q.1, tput tm d q.1, q.2.1, q.2.2) := by
  unfold stepA exI
  simp only [wantedA]
  split
  · cases execI O byref tm σ s i with
    | none => rfl
    | some q => rfl
  · rfl
theorem runN_cons (d : Option Nat) (i : Ins) (af : List Nat) (os : List AOp) (s : Nat) (tm : Tms) (σ : AHeap) : runN O byref (⟨d, i, none, af⟩ :: os) s tm σ = kN O byref d os (s + nsite i) tm (exI O byref i s tm σ) := by
  cases h : exI O byref i s tm σ with
  | none => exact runN_none (by rw [step_one, h]; rfl)
  | some q =>
    obtain ⟨v, σ1, c⟩ := q
    have hs : stepA O byref ⟨d, i, none, af⟩ s tm σ = some (v, tput tm d v, σ1, c) := by rw [step_one, h]; rfl
    cases hp : isPan v with
    | true =>
      obtain ⟨x, rfl⟩ := isPan_true hp
      exact runN_pan hs
    | false =>
      rw [runN_step hs hp]
      simp only [kN, hp, Bool.false_eq_true, if_false]
theorem reg_none (ops : List AOp) (live : List Nat) (tm : Tms) (σ : AHeap) : runRegion O byref ops none live tm σ = regN live (runN O byref ops σ.length tm (σ ++ List.replicate (sitesOf ops) .free)) := by
  unfold runRegion runN
  cases runOps O byref ops σ.length tm (σ ++ List.replicate (sitesOf ops) .free) with
  | none => rfl
  | some q =>
    obtain ⟨tm', σ', cs, p⟩ := q
    cases p <;> rfl
theorem kN_some (d : Option Nat) (os : List AOp) (s : Nat) (tm : Tms) (v : AVal) (σ : AHeap) (c : Cls) (h : isPan v = false) : kN O byref d os s tm (some (v, σ, c)) = runN O byref os s (tput tm d v) σ := by
  simp only [kN, h, Bool.false_eq_true, if_false]
theorem kN_pan (d : Option Nat) (os : List AOp) (s : Nat) (tm : Tms) (x : AVal) (σ : AHeap) (c : Cls) : kN O byref d os s tm (some (.pan x, σ, c)) = some (tput tm d (.pan x), σ, some x) := rfl
theorem kN_none (d : Option Nat) (os : List AOp) (s : Nat) (tm : Tms) : kN O byref d os s tm none = none := rfl

/-- operations that hang on one guard -/
structure GOp where
  guard : Option (Nat × Bool)
  ops : List AOp
def gSkip : List AOp → Tms → Tms
  | [], tm => tm
  | o :: os, tm => gSkip os (tput tm o.dst (.tup []))
def unG (o : AOp) : AOp := { o with guard := none }
variable (O byref) in
def gRun (j : Nat) (w : Bool) (g : List AOp) (s : Nat) (tm : Tms) (σ : AHeap) : Option (Tms × AHeap × Option AVal) := match wantedA (some (j, w)) tm with
  | none => none
  | some false => some (gSkip g tm, σ, none)
  | some true => runN O byref (g.map unG) s tm σ
variable (O byref) in
def gK (os : List AOp) (s : Nat) : Option (Tms × AHeap × Option AVal) → Option (Tms × AHeap × Option AVal)
  | none => none
  | some (tm, σ, some x) => some (tm, σ, some x)
  | some (tm, σ, none) => runN O byref os s tm σ
/-- the operations ahead that have this guard, and the rest -/
def gSpan (j : Nat) (w : Bool) : List AOp → List AOp × List AOp
  | [] => ([], [])
  | o :: os => match o.guard with
    | some (j', w') => if j' = j ∧ w' = w ∧ o.dst ≠ some j then ((o :: (gSpan j w os).1), (gSpan j w os).2) else ([], o :: os)
    | none => ([], o :: os)
theorem gSpan_eq (j : Nat) (w : Bool) : ∀ os, (gSpan j w os).1 ++ (gSpan j w os).2 = os
  | [] => rfl
  | o :: os => by
    simp only [gSpan]
    split
    · split
      · simp [gSpan_eq j w os]
      · rfl
    · rfl
theorem gSpan_all (j : Nat) (w : Bool) : ∀ os, ∀ o ∈ (gSpan j w os).1, o.guard = some (j, w) ∧ o.dst ≠ some j
  | [] => by simp [gSpan]
  | o :: os => by
    intro o' ho
    simp only [gSpan] at ho
    split at ho
    · rename_i j' w' hg
      split at ho
      · rename_i hc
        rcases List.mem_cons.1 ho with rfl | ho
        · exact ⟨by rw [hg, hc.1, hc.2.1], hc.2.2⟩
        · exact gSpan_all j w os o' ho
      · simp at ho
    · simp at ho
theorem tget_tput' {d : Option Nat} {v : AVal} {n : Nat} {tm : Tms} (h : d ≠ some n) : tget (tput tm d v) n = tget tm n := by
  cases d with
  | none => rfl
  | some d =>
    have : d ≠ n := by rintro rfl; exact h rfl
    simp only [tput, tget_tins, this, if_false]
theorem wanted_put {d : Option Nat} {v : AVal} {j : Nat} {w : Bool} {tm : Tms} (h : d ≠ some j) : wantedA (some (j, w)) (tput tm d v) = wantedA (some (j, w)) tm := by
  simp only [wantedA, tget_tput' h]
theorem sites_unG (g : List AOp) : sitesOf (g.map unG) = sitesOf g := by
  simp [sitesOf, unG, Function.comp_def]
theorem runN_append : ∀ (a b : List AOp) (s : Nat) (tm : Tms) (σ : AHeap), runN O byref (a ++ b) s tm σ = gK O byref b (s + sitesOf a) (runN O byref a s tm σ)
  | [], b, s, tm, σ => by simp [runN_nil, gK, sitesOf]
  | o :: a, b, s, tm, σ => by
    have ih := runN_append a b
    simp only [List.cons_append]
    have hs : s + nsite o.ins + sitesOf a = s + sitesOf (o :: a) := by simp [sitesOf, Nat.add_assoc]
    cases hst : stepA O byref o s tm σ with
    | none => rw [runN_none hst, runN_none hst]; rfl
    | some q =>
      obtain ⟨v, tm1, σ1, c⟩ := q
      cases hp : isPan v with
      | true =>
        obtain ⟨x, rfl⟩ := isPan_true hp
        rw [runN_pan hst, runN_pan hst]; rfl
      | false => rw [runN_step hst hp, runN_step hst hp, ih, hs]
theorem runN_group (j : Nat) (w : Bool) : ∀ (g : List AOp), (∀ o ∈ g, o.guard = some (j, w) ∧ o.dst ≠ some j) → ∀ (s : Nat) (tm : Tms) (σ : AHeap), g ≠ [] → runN O byref g s tm σ = gRun O byref j w g s tm σ
  | [], _, _, _, _, h => absurd rfl h
  | o :: g, hall, s, tm, σ, _ => by
    obtain ⟨hg, hd⟩ := hall o (by simp)
    have ih : ∀ (tm : Tms) (σ : AHeap) (s : Nat), wantedA (some (j, w)) tm ≠ none → runN O byref g s tm σ = gRun O byref j w g s tm σ := by
      intro tm σ s hw
      by_cases he : g = []
      · subst he
        unfold gRun
        cases hx : wantedA (some (j, w)) tm with
        | none => exact absurd hx hw
        | some b => cases b <;> rfl
      · exact runN_group j w g (fun o ho => hall o (by simp [ho])) s tm σ he
    cases hx : wantedA (some (j, w)) tm with
    | none =>
      rw [runN_none (by simp only [stepA, hg, hx])]
      simp only [gRun, hx]
    | some b =>
      cases b with
      | false =>
        have h1 : runN O byref (o :: g) s tm σ = runN O byref g (s + nsite o.ins) (tput tm o.dst (.tup [])) σ :=
          runN_step (v := .tup []) (c := {}) (by simp only [stepA, hg, hx]) rfl
        rw [h1, ih _ _ _ (by rw [wanted_put hd, hx]; simp)]
        unfold gRun
        rw [wanted_put hd, hx]
        rfl
      | true =>
        have key : ∀ r : Option (AVal × AHeap × Cls), (∀ v σ' c, r = some (v, σ', c) → isPan v = false → runN O byref g (s + nsite o.ins) (tput tm o.dst v) σ' = runN O byref (g.map unG) (s + nsite o.ins) (tput tm o.dst v) σ') → kN O byref o.dst g (s + nsite o.ins) tm r = kN O byref o.dst (g.map unG) (s + nsite o.ins) tm r := by
          intro r hr
          cases r with
          | none => rfl
          | some q =>
            obtain ⟨v, σ', c⟩ := q
            cases hp : isPan v with
            | true => simp only [kN, hp, if_true]
            | false => rw [kN_some _ _ _ _ _ _ _ hp, kN_some _ _ _ _ _ _ _ hp]; exact hr v σ' c rfl hp
        have h1 : runN O byref (o :: g) s tm σ = kN O byref o.dst g (s + nsite o.ins) tm (exI O byref o.ins s tm σ) := by
          have h0 : runN O byref (o :: g) s tm σ = runN O byref (⟨o.dst, o.ins, none, o.after⟩ :: g) s tm σ := by
            have hst : stepA O byref o s tm σ = stepA O byref ⟨o.dst, o.ins, none, o.after⟩ s tm σ := by
              unfold stepA
              simp only [hg, hx]
              rfl
            unfold runN
            simp only [runOps, hst]
          rw [h0, runN_cons]
        rw [h1]
        unfold gRun
        rw [hx]
        simp only [List.map_cons]
        rw [show unG o = ⟨o.dst, o.ins, none, o.after⟩ from rfl, runN_cons]
        refine key _ fun v σ' c _ _ => ?_
        rw [ih _ _ _ (by rw [wanted_put hd, hx]; simp)]
        unfold gRun
        rw [wanted_put hd, hx]
theorem runN_guard (d : Option Nat) (i : Ins) (j : Nat) (w : Bool) (af : List Nat) (os : List AOp) (s : Nat) (tm : Tms) (σ : AHeap) (hd : decide (d = some j) = false) :
    runN O byref (⟨d, i, some (j, w), af⟩ :: os) s tm σ = gK O byref (gSpan j w os).2 (s + sitesOf (⟨d, i, some (j, w), af⟩ :: (gSpan j w os).1)) (gRun O byref j w (⟨d, i, some (j, w), af⟩ :: (gSpan j w os).1) s tm σ) := by
  have h := gSpan_eq j w os
  have hall : ∀ o ∈ (⟨d, i, some (j, w), af⟩ :: (gSpan j w os).1 : List AOp), o.guard = some (j, w) ∧ o.dst ≠ some j := by
    intro o ho
    rcases List.mem_cons.1 ho with rfl | ho
    · exact ⟨rfl, by simpa using hd⟩
    · exact gSpan_all j w os o ho
  rw [← runN_group j w _ hall s tm σ (by simp), ← runN_append, List.cons_append, h]
variable (O byref) in
/-- by the guard's value -/
def gW (w : Bool) (g : List AOp) (s : Nat) (tm : Tms) (σ : AHeap) : AVal → Option (Tms × AHeap × Option AVal)
  | .bool b => if b = w then runN O byref (g.map unG) s tm σ else some (gSkip g tm, σ, none)
  | .tup [] => some (gSkip g tm, σ, none)
  | _ => none
theorem gRun_eq (j : Nat) (w : Bool) (g : List AOp) (s : Nat) (tm : Tms) (σ : AHeap) : gRun O byref j w g s tm σ = gW O byref w g s tm σ (tget tm j) := by
  unfold gRun wantedA
  simp only
  generalize tget tm j = v
  cases v
  case bool b => cases b <;> cases w <;> rfl
  case tup vs => cases vs <;> rfl
  all_goals rfl
theorem gW_bool (w : Bool) (g : List AOp) (s : Nat) (tm : Tms) (σ : AHeap) (b : Bool) : gW O byref w g s tm σ (.bool b) = if b = w then runN O byref (g.map unG) s tm σ else some (gSkip g tm, σ, none) := rfl
theorem gW_off (w : Bool) (g : List AOp) (s : Nat) (tm : Tms) (σ : AHeap) : gW O byref w g s tm σ (.tup []) = some (gSkip g tm, σ, none) := rfl
theorem gK_some (os : List AOp) (s : Nat) (tm : Tms) (σ : AHeap) : gK O byref os s (some (tm, σ, none)) = runN O byref os s tm σ := rfl
theorem gK_ite (c : Prop) [Decidable c] (os : List AOp) (s : Nat) (x y : Option (Tms × AHeap × Option AVal)) : gK O byref os s (if c then x else y) = if c then gK O byref os s x else gK O byref os s y := by split <;> rfl
end

/-! ### branches that meet again -/
section
variable (c : Prop) [Decidable c]
theorem ite_out {α : Type} (a b : α) : (if c then some a else some b) = some (if c then a else b) := by split <;> rfl
theorem ite_pair {α β : Type} (a b : α) (x y : β) : (if c then (a, x) else (b, y)) = ((if c then a else b), (if c then x else y)) := by split <;> rfl
theorem ite_list {α : Type} (a b : α) (x y : List α) : (if c then a :: x else b :: y) = (if c then a else b) :: (if c then x else y) := by split <;> rfl
theorem ite_int (k : IntKind) (a b : Int) : (if c then AVal.int k a else AVal.int k b) = AVal.int k (if c then a else b) := by split <;> rfl
theorem ite_bool (a b : Bool) : (if c then AVal.bool a else AVal.bool b) = AVal.bool (if c then a else b) := by split <;> rfl
theorem ite_str (a b : List UInt8) : (if c then AVal.str a else AVal.str b) = AVal.str (if c then a else b) := by split <;> rfl
theorem ite_lst (p q : Bool) (a b : List AVal) : (if c then AVal.lst p a else AVal.lst q b) = AVal.lst (if c then p else q) (if c then a else b) := by split <;> rfl
theorem ite_agg (a b : List AVal) : (if c then AVal.agg a else AVal.agg b) = AVal.agg (if c then a else b) := by split <;> rfl
theorem ite_var (a b : List AVal) : (if c then ABlk.var a else ABlk.var b) = ABlk.var (if c then a else b) := by split <;> rfl
theorem ite_row (g k : Nat) (a b : List AVal) : (if c then ABlk.row g k a else ABlk.row g k b) = ABlk.row g k (if c then a else b) := by split <;> rfl
theorem ite_ref (t : Nat) (a b : Nat) : (if c then AVal.ref t a else AVal.ref t b) = AVal.ref t (if c then a else b) := by split <;> rfl
theorem ite_tt {α : Type} (x y z : α) : (if c then (if c then x else y) else z) = if c then x else z := by split <;> rfl
theorem ite_ee {α : Type} (x y z : α) : (if c then x else (if c then y else z)) = if c then x else z := by split <;> rfl
theorem ite_nt {α : Type} (x y z : α) : (if c then (if ¬c then x else y) else z) = if c then y else z := by split <;> simp_all
theorem ite_ne {α : Type} (x y z : α) : (if c then x else (if ¬c then y else z)) = if c then x else y := by split <;> simp_all
theorem pickX_b (σ : AHeap) (a b : AVal) (p : Bool) : pickX σ a b (.bool p) = some (if p = true then a else b, σ, {}) := by cases p <;> rfl
theorem isPan_ite (a b : AVal) : isPan (if c then a else b) = if c then isPan a else isPan b := by split <;> rfl
end
section
variable {fs : Nat → Option AFunc} {prim : Prims} {byref : Nat → Bool} {m0 : Nat}
theorem condX_b (p : Bool) (a b : ACode) (tm : Tms) (σ : AHeap) : condX fs prim byref m0 a b tm σ (.bool p) = if p = true then evC fs prim byref m0 a tm σ else evC fs prim byref m0 b tm σ := by
  cases p <;> rfl
theorem seqX_n (b : ACode) (tm : Tms) (σ : AHeap) : seqX fs prim byref m0 b (some (.normal, tm, σ)) = evC fs prim byref m0 b tm σ := rfl
theorem seqX_e (b : ACode) (i : Nat) (tm : Tms) (σ : AHeap) : seqX fs prim byref m0 b (some (.exit i, tm, σ)) = some (.exit i, tm, σ) := rfl
theorem seqX_r (b : ACode) (tm : Tms) (σ : AHeap) : seqX fs prim byref m0 b (some (.ret, tm, σ)) = some (.ret, tm, σ) := rfl
theorem seqX_p (b : ACode) (x : AVal) (tm : Tms) (σ : AHeap) : seqX fs prim byref m0 b (some (.panic x, tm, σ)) = some (.panic x, tm, σ) := rfl
theorem seqX_ite (c : Prop) [Decidable c] (b : ACode) (x y : Option (AExit × Tms × AHeap)) : seqX fs prim byref m0 b (if c then x else y) = if c then seqX fs prim byref m0 b x else seqX fs prim byref m0 b y := by split <;> rfl
theorem seqX_pair (c : Prop) [Decidable c] (b : ACode) (t1 t2 : Tms) (σ1 σ2 : AHeap) : seqX fs prim byref m0 b (some (if c then (.normal, t1, σ1) else (.normal, t2, σ2))) = evC fs prim byref m0 b (if c then t1 else t2) (if c then σ1 else σ2) := by split <;> rfl
theorem block_n (id : Nat) (tm : Tms) (σ : AHeap) : Option.map (blockA id) (some (.normal, tm, σ)) = some (.normal, tm, σ) := rfl
theorem block_e (id i : Nat) (tm : Tms) (σ : AHeap) : Option.map (blockA id) (some (.exit i, tm, σ)) = if i = id then some (.normal, tm, σ) else some (.exit i, tm, σ) := by
  simp only [Option.map_some, blockA]; split <;> rfl
theorem block_r (id : Nat) (tm : Tms) (σ : AHeap) : Option.map (blockA id) (some (.ret, tm, σ)) = some (.ret, tm, σ) := rfl
theorem block_p (id : Nat) (x : AVal) (tm : Tms) (σ : AHeap) : Option.map (blockA id) (some (.panic x, tm, σ)) = some (.panic x, tm, σ) := rfl
theorem block_ite (id : Nat) (c : Prop) [Decidable c] (x y : Option (AExit × Tms × AHeap)) : Option.map (blockA id) (if c then x else y) = if c then Option.map (blockA id) x else Option.map (blockA id) y := by split <;> rfl
theorem fin_ite (m : Nat) (fn : AFunc) (c : Prop) [Decidable c] (x y : Option (AExit × Tms × AHeap)) : finA m fn (if c then x else y) = if c then finA m fn x else finA m fn y := by split <;> rfl
end

section
variable {fs : Nat → Option AFunc} {prim : Prims} {byref : Nat → Bool} {m0 : Nat}
theorem evL_round {live : List Nat} {c : ACode} {tm tm' : Tms} {σ σ' : AHeap} (h : evC fs prim byref m0 c tm σ = some (.normal, tm', σ')) : evL fs prim byref m0 live c tm σ = evL fs prim byref m0 live c (gcT m0 (keepL live tm') σ').1 (gcT m0 (keepL live tm') σ').2 := by
  unfold evL
  rw [h]
  simp only
  rw [x_loop]
  rfl
theorem evL_exit {live : List Nat} {c : ACode} {tm tm' : Tms} {σ σ' : AHeap} {i : Nat} (h : evC fs prim byref m0 c tm σ = some (.exit i, tm', σ')) : evL fs prim byref m0 live c tm σ = some (.exit i, tm', σ') := by
  unfold evL; rw [h]
theorem evL_ret {live : List Nat} {c : ACode} {tm tm' : Tms} {σ σ' : AHeap} (h : evC fs prim byref m0 c tm σ = some (.ret, tm', σ')) : evL fs prim byref m0 live c tm σ = some (.ret, tm', σ') := by
  unfold evL; rw [h]
variable (fs prim byref m0) in
/-- a loop behind a round -/
noncomputable def evM (live : List Nat) (c : ACode) : Option (AExit × Tms × AHeap) → Option (AExit × Tms × AHeap)
  | some (.normal, tm, σ) => evL fs prim byref m0 live c (gcT m0 (keepL live tm) σ).1 (gcT m0 (keepL live tm) σ).2
  | r => r
theorem evL_eq (live : List Nat) (c : ACode) (tm : Tms) (σ : AHeap) : evL fs prim byref m0 live c tm σ = evM fs prim byref m0 live c (evC fs prim byref m0 c tm σ) := by
  cases h : evC fs prim byref m0 c tm σ with
  | none => unfold evL; rw [h]; rfl
  | some q =>
    obtain ⟨e, tm', σ'⟩ := q
    cases e with
    | normal => exact evL_round h
    | exit i => exact evL_exit h
    | ret => exact evL_ret h
    | panic x => unfold evL; rw [h]; rfl
theorem evM_n (live : List Nat) (c : ACode) (tm : Tms) (σ : AHeap) : evM fs prim byref m0 live c (some (.normal, tm, σ)) = evL fs prim byref m0 live c (gcT m0 (keepL live tm) σ).1 (gcT m0 (keepL live tm) σ).2 := rfl
theorem evM_e (live : List Nat) (c : ACode) (i : Nat) (tm : Tms) (σ : AHeap) : evM fs prim byref m0 live c (some (.exit i, tm, σ)) = some (.exit i, tm, σ) := rfl
theorem evM_r (live : List Nat) (c : ACode) (tm : Tms) (σ : AHeap) : evM fs prim byref m0 live c (some (.ret, tm, σ)) = some (.ret, tm, σ) := rfl
theorem evM_p (live : List Nat) (c : ACode) (x : AVal) (tm : Tms) (σ : AHeap) : evM fs prim byref m0 live c (some (.panic x, tm, σ)) = some (.panic x, tm, σ) := rfl
theorem evM_ite (live : List Nat) (b : ACode) (c : Prop) [Decidable c] (x y : Option (AExit × Tms × AHeap)) : evM fs prim byref m0 live b (if c then x else y) = if c then evM fs prim byref m0 live b x else evM fs prim byref m0 live b y := by split <;> rfl
end

/-! ### calls with plain values -/
def plain1 : AVal → Bool
  | .int _ _ => true
  | .bool _ => true
  | .str _ => true
  | .nilp => true
  | .nilm => true
  | .nili => true
  | .lst _ _ => true
  | .fn _ [] => true
  | _ => false
def plainV : AVal → Bool
  | .agg cs => cs.all plain1
  | x => plain1 x
def norm1 : AVal → AVal
  | .lst _ xs => .lst false xs
  | x => x
def normV : AVal → AVal
  | .agg cs => .agg (cs.map norm1)
  | x => norm1 x
theorem plain1_show {σ : AHeap} {x : AVal} (h : plain1 x = true) : showA1 σ x = some (norm1 x, []) := by
  cases x <;> first | (simp [plain1] at h; done) | rfl
theorem plains_show {σ : AHeap} : ∀ {xs : List AVal}, xs.all plain1 = true → showsA σ xs = some (xs.map norm1, [])
  | [], _ => rfl
  | x :: xs, h => by
    simp only [List.all_cons, Bool.and_eq_true] at h
    simp only [showsA, plain1_show h.1, plains_show h.2, List.map_cons, List.append_nil]
theorem plainV_one {x : AVal} (h : ∀ cs, x ≠ .agg cs) : plainV x = plain1 x ∧ normV x = norm1 x := by
  cases x <;> first | exact ⟨rfl, rfl⟩ | exact absurd rfl (h _)
theorem showA_one {σ : AHeap} {x : AVal} (h : ∀ cs, x ≠ .agg cs) : showA σ x = showA1 σ x := by
  cases x <;> first | rfl | exact absurd rfl (h _)
theorem agg_or (x : AVal) : (∃ cs, x = .agg cs) ∨ ∀ cs, x ≠ .agg cs := by
  cases x <;> first | exact Or.inl ⟨_, rfl⟩ | (right; intro cs; simp)
theorem plainV_show {σ : AHeap} {x : AVal} (h : plainV x = true) : showA σ x = some (normV x, []) := by
  rcases agg_or x with ⟨cs, rfl⟩ | hn
  · simp only [plainV] at h
    simp only [showA, plains_show h, normV]
  · rw [(plainV_one hn).1] at h
    rw [showA_one hn, (plainV_one hn).2]
    exact plain1_show h
theorem plainVs_show {σ : AHeap} : ∀ {xs : List AVal}, xs.all plainV = true → showAs σ xs = some (xs.map normV, [])
  | [], _ => rfl
  | x :: xs, h => by
    simp only [List.all_cons, Bool.and_eq_true] at h
    simp only [showAs, plainV_show h.1, plainVs_show h.2, List.map_cons, List.append_nil]
theorem norm1_refs {x : AVal} (h : plain1 x = true) : refsV (norm1 x) = [] := by
  cases x
  case fn f cs => cases cs <;> simp [plain1] at h; rfl
  all_goals first | (simp [plain1] at h; done) | rfl
theorem norms_refs : ∀ {xs : List AVal}, xs.all plain1 = true → refsL (xs.map norm1) = []
  | [], _ => rfl
  | x :: xs, h => by
    simp only [List.all_cons, Bool.and_eq_true] at h
    simp only [List.map_cons, refsL, norm1_refs h.1, norms_refs h.2, List.append_nil]
theorem normV_refs {x : AVal} (h : plainV x = true) : refsV (normV x) = [] := by
  rcases agg_or x with ⟨cs, rfl⟩ | hn
  · simp only [plainV] at h
    simp only [normV, refsV]; exact norms_refs h
  · rw [(plainV_one hn).1] at h
    rw [(plainV_one hn).2]; exact norm1_refs h
theorem normVs_refs : ∀ {xs : List AVal}, xs.all plainV = true → refsL (xs.map normV) = []
  | [], _ => rfl
  | x :: xs, h => by
    simp only [List.all_cons, Bool.and_eq_true] at h
    simp only [List.map_cons, refsL, normV_refs h.1, normVs_refs h.2, List.append_nil]
theorem norm1_ren {ρ : Rho} {x : AVal} (h : plain1 x = true) : renV ρ (norm1 x) = norm1 x := by
  cases x
  case fn f cs => cases cs <;> simp [plain1] at h; rfl
  all_goals first | (simp [plain1] at h; done) | rfl
theorem norms_ren {ρ : Rho} : ∀ {xs : List AVal}, xs.all plain1 = true → renL ρ (xs.map norm1) = xs.map norm1
  | [], _ => rfl
  | x :: xs, h => by
    simp only [List.all_cons, Bool.and_eq_true] at h
    simp only [List.map_cons, renL, norm1_ren h.1, norms_ren h.2]
theorem normV_ren {ρ : Rho} {x : AVal} (h : plainV x = true) : renV ρ (normV x) = normV x := by
  rcases agg_or x with ⟨cs, rfl⟩ | hn
  · simp only [plainV] at h
    simp only [normV, renV]; rw [norms_ren h]
  · rw [(plainV_one hn).1] at h
    rw [(plainV_one hn).2]; exact norm1_ren h
theorem normVs_ren {ρ : Rho} : ∀ {xs : List AVal}, xs.all plainV = true → renL ρ (xs.map normV) = xs.map normV
  | [], _ => rfl
  | x :: xs, h => by
    simp only [List.all_cons, Bool.and_eq_true] at h
    simp only [List.map_cons, renL, normV_ren h.1, normVs_ren h.2]
theorem callG_plain {O : Oracle} {byref : Nat → Bool} {σ : AHeap} {site f own : Nat} {view : Bool} {args : List AVal} (hb : byref f = false) (h : args.all plainV = true) :
    callG O byref σ site f own view args = backG σ σ [] [] site own (askO view 0 (O f (args.map normV) [])) := by
  unfold callG showIf
  rw [hb]
  simp only [Bool.false_eq_true, if_false, plainVs_show h]
  have h1 : freezeA σ [] = σ := rfl
  rw [h1, normVs_refs h]
  have h2 : reach σ 1000 [] [] = [] := rfl
  rw [h2]
  unfold callI
  simp only [List.all_nil, if_true, normVs_ren h, heapOf, List.length_nil]
/-- an answer of plain values, none of them with blocks -/
theorem backG_plain (σ : AHeap) (site own : Nat) (r : AVal) (h : renV (rhoBack [] [] site) r = r) : backG σ σ [] [] site own (some (r, [])) = some (r, σ, {}) := by
  simp only [backG, List.isEmpty_nil, Bool.and_self, if_true]
  split
  · rfl
  · rw [h]
end Go.Proofs.YtaaflagbhneakaaDoor
