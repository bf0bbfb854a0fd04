/- ABS: the interpreter without a bound: equations for proofs. ABS: equations by which calls are told, for simp. ABS: small functions at each kind of value, for simp. Printed by a program. ABS: results without blocks. slices.Clone, told by hand: a new row with the same elements, whether the slice was nil or not. Functions of Go's library that are told by hand: what they tell. What is said of the functions beside their code: slots that live, own rows, how callees are called; functions that are told by hand. Printed by a program. The code of functions as the interpreter reads it: Conn. Printed by a program. The code of functions as the interpreter reads it: Proof. Printed by a program. The code of functions as the interpreter reads it: Prop. Printed by a program. The code of functions as the interpreter reads it: Law23. Printed by a program. ABS: what a law is given, as trees. -/
import Derived.Test.YtaaflagbhneakaaDoorMq1
import Derived.Laws.Cover3
import Derived.Lib.Index
import Derived.Shelf.Unicode.ValidAny
import Derived.Shelf.Strings.Count
import Derived.Test.YtaaflagbhneakaaDoorProg
import Derived.Deep.Slices
import Derived.ChangeArms
import Derived.WideShapes
import GoSem.ClaimChange
namespace Go.Proofs.YtaaflagbhneakaaDoor
set_option linter.unusedSimpArgs false
set_option linter.unusedVariables false
open Go.RowKit

def OLe (O O' : Oracle) : Prop := ∀ f a σ r, O f a σ = some r → O' f a σ = some r
section
variable {O O' : Oracle} {byref : Nat → Bool}

theorem askO_mono {view : Bool} {m : Nat} {x y : Option (AVal × AHeap)} (h : ∀ r, x = some r → y = some r) {r : AVal × AHeap} (hr : askO view m x = some r) : askO view m y = some r := by
  cases x with
  | none => cases view <;> simp [askO, resV] at hr
  | some q => rw [h q rfl]; exact hr
theorem backG_mono {σ σf : AHeap} {ids ts : List Nat} {site own : Nat} {x y : Option (AVal × AHeap)} (h : ∀ r, x = some r → y = some r) {r : AVal × AHeap × Cls} (hr : backG σ σf ids ts site own x = some r) : backG σ σf ids ts site own y = some r := by
  cases x with
  | none => simp only [backG] at hr; cases hr
  | some q => rw [h q rfl]; exact hr
theorem callG_mono (hO : OLe O O') {σ : AHeap} {site f own : Nat} {view : Bool} {args : List AVal} {r : AVal × AHeap × Cls} (h : callG O byref σ site f own view args = some r) : callG O' byref σ site f own view args = some r := by
  unfold callG callI at h ⊢
  split at h
  · cases h
  · rename_i vs ts hv
    split at h
    · rename_i hc
      simp only [hc, if_true]
      exact backG_mono (fun q hq => askO_mono (fun q hq => hO _ _ _ _ hq) hq) h
    · cases h
theorem execI_mono (hO : OLe O O') {tm : Tms} {σ : AHeap} {site : Nat} {ins : Ins} {r : AVal × AHeap × Cls} (h : execI O byref tm σ site ins = some r) : execI O' byref tm σ site ins = some r := by
  cases ins
  case call f own view args =>
    simp only [execI] at h ⊢
    exact callG_mono hO h
  case callv x args =>
    simp only [execI] at h ⊢
    split at h
    · exact callG_mono hO h
    · cases h
  all_goals exact h
theorem stepA_mono (hO : OLe O O') {o : AOp} {tm : Tms} {σ : AHeap} {site : Nat} {r : AVal × Tms × AHeap × Cls} (h : stepA O byref o site tm σ = some r) : stepA O' byref o site tm σ = some r := by
  unfold stepA at h ⊢
  split at h
  · cases h
  · exact h
  · split at h
    · rename_i hf
      rw [if_pos hf]
      split at h
      · rename_i he; rw [execI_mono hO he]; exact h
      · cases h
    · cases h
theorem runOps_mono (hO : OLe O O') : ∀ {ops : List AOp} {s : Nat} {tm : Tms} {σ : AHeap} {r : Tms × AHeap × List Cls × Option AVal}, runOps O byref ops s tm σ = some r → runOps O' byref ops s tm σ = some r
  | [], _, _, _, _, h => h
  | o :: ops, s, tm, σ, r, h => by
    simp only [runOps] at h ⊢
    split at h
    · cases h
    · rename_i h1
      rw [stepA_mono hO h1]
      exact h
    · rename_i v tm1 σ1 c hnp h1
      rw [stepA_mono hO h1]
      simp only
      split at h
      · cases h
      rename_i h2
      rw [runOps_mono hO h2]
      exact h
theorem runRegion_mono (hO : OLe O O') {ops : List AOp} {chk : Option (List (Nat × Nat))} {live : List Nat} {tm : Tms} {σ : AHeap} {r : AExit × Tms × AHeap} (h : runRegion O byref ops chk live tm σ = some r) : runRegion O' byref ops chk live tm σ = some r := by
  unfold runRegion at h ⊢
  cases hx : runOps O byref ops σ.length tm (σ ++ List.replicate (sitesOf ops) .free) with
  | none => rw [hx] at h; simp only [regX] at h; cases h
  | some q => rw [runOps_mono hO hx]; rw [hx] at h; exact h
theorem iterA_mono {m0 : Nat} {live : List Nat} {f f' : Tms → AHeap → Option (AExit × Tms × AHeap)} (hf : ∀ tm σ r, f tm σ = some r → f' tm σ = some r) : ∀ {n n' : Nat} {tm : Tms} {σ : AHeap} {r : AExit × Tms × AHeap}, n ≤ n' → iterA m0 live f n tm σ = some r → iterA m0 live f' n' tm σ = some r
  | 0, _, _, _, _, _, h => by simp only [iterA] at h; cases h
  | n + 1, 0, _, _, _, hn, _ => by omega
  | n + 1, n' + 1, tm, σ, r, hn, h => by
    simp only [iterA] at h ⊢
    split at h
    · rename_i h1
      rw [hf _ _ _ h1]
      exact iterA_mono hf (by omega) h
    · rename_i hne
      rw [hf _ _ _ h]
      split
      · rename_i e; injection e with e; subst e; exact absurd h (hne _ _)
      · rfl
theorem execC_mono (hO : OLe O O') {m0 : Nat} : ∀ {c : ACode} {n n' : Nat} {tm : Tms} {σ : AHeap} {r : AExit × Tms × AHeap}, n ≤ n' → execC O byref m0 n c tm σ = some r → execC O' byref m0 n' c tm σ = some r := by
  intro c
  induction c with
  | skip => intro n n' tm σ r _ h; exact h
  | exit id => intro n n' tm σ r _ h; exact h
  | ret => intro n n' tm σ r _ h; exact h
  | stuck => intro n n' tm σ r _ h; exact h
  | region ops chk live =>
    intro n n' tm σ r _ h
    simp only [execC] at h ⊢
    exact runRegion_mono hO h
  | seq a b iha ihb =>
    intro n n' tm σ r hn h
    simp only [execC] at h ⊢
    split at h
    · rename_i h1; rw [iha hn h1]; exact ihb hn h
    · rename_i hne
      rw [iha hn h]
      split
      · rename_i e; injection e with e; subst e; exact absurd h (hne _ _)
      · rfl
  | cond c a b iha ihb =>
    intro n n' tm σ r hn h
    simp only [execC] at h ⊢
    split at h
    · exact iha hn h
    · exact ihb hn h
    · cases h
  | block id c ih =>
    intro n n' tm σ r hn h
    simp only [execC] at h ⊢
    split at h
    · rename_i h1; rw [ih hn h1]; exact h
    · rename_i hne
      rw [ih hn h]
      split
      · rename_i e; injection e with e; subst e; exact absurd h (hne _ _ _)
      · rfl
  | loop live c ih =>
    intro n n' tm σ r hn h
    simp only [execC] at h ⊢
    exact iterA_mono (fun tm σ r h => ih hn h) hn h
theorem finA_mono {m0 : Nat} {fn : AFunc} {x y : Option (AExit × Tms × AHeap)} (h : ∀ r, x = some r → y = some r) {r : AVal × AHeap} (hr : finA m0 fn x = some r) : finA m0 fn y = some r := by
  cases x with
  | none => simp only [finA] at hr; cases hr
  | some q => rw [h q rfl]; exact hr
theorem callA_step (fs : Nat → Option AFunc) (prim : Prims) : ∀ n, OLe (callA fs prim byref n) (callA fs prim byref (n + 1))
  | 0 => by intro f a σ r h; simp only [callA] at h; cases h
  | n + 1 => by
    intro f a σ r h
    rw [callA] at h ⊢
    split at h
    · rename_i g hg; exact h
    · rename_i hg
      split at h
      · cases h
      · rename_i fn hfn
        exact finA_mono (fun q hq => execC_mono (callA_step fs prim n) (by omega) hq) h
theorem callA_mono (fs : Nat → Option AFunc) (prim : Prims) {n m : Nat} (h : n ≤ m) : OLe (callA fs prim byref n) (callA fs prim byref m) := by
  induction m with
  | zero => obtain rfl : n = 0 := by omega
            exact fun _ _ _ _ h => h
  | succ m ih =>
    by_cases e : n = m + 1
    · subst e; exact fun _ _ _ _ h => h
    · exact fun f a σ r hr => callA_step fs prim m f a σ r (ih (by omega) f a σ r hr)
end

section
variable (fs : Nat → Option AFunc) (prim : Prims) (byref : Nat → Bool)
open Classical in
/-- the call's result, if there is one -/
noncomputable def EV : Oracle := fun f args σ => if h : ∃ r, ∃ n, callA fs prim byref n f args σ = some r then some h.choose else none
open Classical in
noncomputable def evC (m : Nat) (c : ACode) (tm : Tms) (σ : AHeap) : Option (AExit × Tms × AHeap) := if h : ∃ r, ∃ n, execC (callA fs prim byref n) byref m n c tm σ = some r then some h.choose else none
variable {fs prim byref} {m0 : Nat}
theorem EV_some {f : Nat} {args : List AVal} {σ : AHeap} {r : AVal × AHeap} : EV fs prim byref f args σ = some r ↔ ∃ n, callA fs prim byref n f args σ = some r := by
  unfold EV
  constructor
  · intro h
    split at h
    · rename_i hx
      injection h with h
      rw [← h]
      exact hx.choose_spec
    · cases h
  · rintro ⟨n, hn⟩
    have hx : ∃ r, ∃ n, callA fs prim byref n f args σ = some r := ⟨r, n, hn⟩
    rw [dif_pos hx]
    obtain ⟨m, hm⟩ := hx.choose_spec
    have h1 := callA_mono (byref := byref) fs prim (Nat.le_max_left n m) _ _ _ _ hn
    have h2 := callA_mono (byref := byref) fs prim (Nat.le_max_right n m) _ _ _ _ hm
    rw [h1] at h2
    injection h2 with h2
    rw [← h2]
theorem evC_some {c : ACode} {tm : Tms} {σ : AHeap} {r : AExit × Tms × AHeap} : evC fs prim byref m0 c tm σ = some r ↔ ∃ n, execC (callA fs prim byref n) byref m0 n c tm σ = some r := by
  unfold evC
  constructor
  · intro h
    split at h
    · rename_i hx
      injection h with h
      rw [← h]
      exact hx.choose_spec
    · cases h
  · rintro ⟨n, hn⟩
    have hx : ∃ r, ∃ n, execC (callA fs prim byref n) byref m0 n c tm σ = some r := ⟨r, n, hn⟩
    rw [dif_pos hx]
    obtain ⟨m, hm⟩ := hx.choose_spec
    have h1 := execC_mono (callA_mono (byref := byref) fs prim (Nat.le_max_left n m)) (Nat.le_max_left n m) hn
    have h2 := execC_mono (callA_mono (byref := byref) fs prim (Nat.le_max_right n m)) (Nat.le_max_right n m) hm
    rw [h1] at h2
    injection h2 with h2
    rw [← h2]
theorem opt_ext {α : Type} {x y : Option α} (h : ∀ r, x = some r ↔ y = some r) : x = y := by
  cases x with
  | none =>
    cases y with
    | none => rfl
    | some q => exact absurd ((h q).2 rfl) (by simp)
  | some q => exact ((h q).1 rfl).symm

theorem ole_EV (n : Nat) : OLe (callA fs prim byref n) (EV fs prim byref) := fun _ _ _ _ h => EV_some.2 ⟨n, h⟩
theorem up {n m : Nat} (h : n ≤ m) : OLe (callA fs prim byref n) (callA fs prim byref m) := callA_mono fs prim h

theorem EV_prim {f : Nat} {g : List AVal → AHeap → Option (AVal × AHeap)} (hp : prim f = some g) (args : List AVal) (σ : AHeap) : EV fs prim byref f args σ = g args σ := by
  apply opt_ext
  intro r
  rw [EV_some]
  constructor
  · rintro ⟨n, h⟩
    cases n with
    | zero => simp only [callA] at h; cases h
    | succ n => rw [callA, hp] at h; exact h
  · intro h
    exact ⟨1, by rw [callA, hp]; exact h⟩
theorem EV_eq {f : Nat} {fn : AFunc} (hp : prim f = none) (hf : fs f = some fn) (args : List AVal) (σ : AHeap) : EV fs prim byref f args σ = finA σ.length fn (evC fs prim byref σ.length fn.body (enterA 0 args []) σ) := by
  apply opt_ext
  intro r
  rw [EV_some]
  constructor
  · rintro ⟨n, h⟩
    cases n with
    | zero => simp only [callA] at h; cases h
    | succ n =>
      rw [callA, hp, hf] at h
      exact finA_mono (fun q hq => evC_some.2 ⟨n, hq⟩) h
  · intro h
    cases hx : evC fs prim byref σ.length fn.body (enterA 0 args []) σ with
    | none => rw [hx] at h; simp only [finA] at h; cases h
    | some q =>
      obtain ⟨n, hn⟩ := evC_some.1 hx
      refine ⟨n + 1, ?_⟩
      rw [callA, hp, hf]
      rw [hx] at h
      exact finA_mono (x := some q) (fun q' hq' => by injection hq' with hq'; subst hq'; exact hn) h

theorem callG_compact {σ : AHeap} {site f own : Nat} {view : Bool} {args : List AVal} {r : AVal × AHeap × Cls} (h : callG (EV fs prim byref) byref σ site f own view args = some r) : ∃ n, callG (callA fs prim byref n) byref σ site f own view args = some r := by
  unfold callG callI at h ⊢
  split at h
  · cases h
  · rename_i vs ts hv
    split at h
    · rename_i hc
      simp only [hc, if_true]
      cases hx : EV fs prim byref f (renL (rhoOf (freezeA σ ts) 0 (reach (freezeA σ ts) 1000 (refsL vs) [])) vs) (heapOf (freezeA σ ts) 0 (reach (freezeA σ ts) 1000 (refsL vs) []) (rhoOf (freezeA σ ts) 0 (reach (freezeA σ ts) 1000 (refsL vs) [])) (reach (freezeA σ ts) 1000 (refsL vs) []) 0) with
      | none =>
        rw [hx] at h
        cases view <;> simp [askO, resV, backG] at h
      | some q =>
        obtain ⟨n, hn⟩ := EV_some.1 hx
        exact ⟨n, by rw [hn]; rw [hx] at h; exact h⟩
    · cases h
theorem execI_compact {tm : Tms} {σ : AHeap} {site : Nat} {ins : Ins} {r : AVal × AHeap × Cls} (h : execI (EV fs prim byref) byref tm σ site ins = some r) : ∃ n, execI (callA fs prim byref n) byref tm σ site ins = some r := by
  cases ins
  case call f own view args =>
    simp only [execI] at h ⊢
    exact callG_compact h
  case callv x args =>
    simp only [execI] at h ⊢
    split at h
    · exact callG_compact h
    · cases h
  all_goals exact ⟨0, h⟩
theorem stepA_compact {o : AOp} {tm : Tms} {σ : AHeap} {site : Nat} {r : AVal × Tms × AHeap × Cls} (h : stepA (EV fs prim byref) byref o site tm σ = some r) : ∃ n, stepA (callA fs prim byref n) byref o site tm σ = some r := by
  unfold stepA at h ⊢
  split at h
  · cases h
  · exact ⟨0, h⟩
  · split at h
    · rename_i hf
      simp only [hf, if_true]
      split at h
      · rename_i he
        obtain ⟨n, hn⟩ := execI_compact he
        exact ⟨n, by rw [hn]; exact h⟩
      · cases h
    · cases h
theorem runOps_compact : ∀ {ops : List AOp} {s : Nat} {tm : Tms} {σ : AHeap} {r : Tms × AHeap × List Cls × Option AVal}, runOps (EV fs prim byref) byref ops s tm σ = some r → ∃ n, runOps (callA fs prim byref n) byref ops s tm σ = some r
  | [], _, _, _, _, h => ⟨0, h⟩
  | o :: ops, s, tm, σ, r, h => by
    simp only [runOps] at h ⊢
    split at h
    · cases h
    · rename_i h1
      obtain ⟨n, hn⟩ := stepA_compact h1
      exact ⟨n, by rw [hn]; exact h⟩
    rename_i v tm1 σ1 c hnp h1
    split at h
    · cases h
    rename_i h2
    obtain ⟨n, hn⟩ := stepA_compact h1
    obtain ⟨m, hm⟩ := runOps_compact h2
    refine ⟨max n m, ?_⟩
    rw [stepA_mono (up (Nat.le_max_left n m)) hn]
    simp only
    rw [runOps_mono (up (Nat.le_max_right n m)) hm]
    exact h
theorem runRegion_compact {ops : List AOp} {chk : Option (List (Nat × Nat))} {live : List Nat} {tm : Tms} {σ : AHeap} {r : AExit × Tms × AHeap} (h : runRegion (EV fs prim byref) byref ops chk live tm σ = some r) : ∃ n, runRegion (callA fs prim byref n) byref ops chk live tm σ = some r := by
  unfold runRegion at h ⊢
  cases hx : runOps (EV fs prim byref) byref ops σ.length tm (σ ++ List.replicate (sitesOf ops) .free) with
  | none => rw [hx] at h; simp only [regX] at h; cases h
  | some q =>
    obtain ⟨n, hn⟩ := runOps_compact hx
    exact ⟨n, by rw [hn]; rw [hx] at h; exact h⟩

theorem evC_skip (tm : Tms) (σ : AHeap) : evC fs prim byref m0 .skip tm σ = some (.normal, tm, σ) := evC_some.2 ⟨0, rfl⟩
theorem evC_exit (id : Nat) (tm : Tms) (σ : AHeap) : evC fs prim byref m0 (.exit id) tm σ = some (.exit id, tm, σ) := evC_some.2 ⟨0, rfl⟩
theorem evC_ret (tm : Tms) (σ : AHeap) : evC fs prim byref m0 .ret tm σ = some (.ret, tm, σ) := evC_some.2 ⟨0, rfl⟩
theorem evC_region {ops : List AOp} {chk : Option (List (Nat × Nat))} {live : List Nat} {tm : Tms} {σ : AHeap} : evC fs prim byref m0 (.region ops chk live) tm σ = runRegion (EV fs prim byref) byref ops chk live tm σ := by
  apply opt_ext
  intro r
  rw [evC_some]
  constructor
  · rintro ⟨n, hn⟩
    simp only [execC] at hn
    exact runRegion_mono (ole_EV n) hn
  · intro h
    obtain ⟨n, hn⟩ := runRegion_compact h
    exact ⟨n, by simp only [execC]; exact hn⟩
theorem evC_seq {a b : ACode} {tm tm' : Tms} {σ σ' : AHeap} (h : evC fs prim byref m0 a tm σ = some (.normal, tm', σ')) : evC fs prim byref m0 (.seq a b) tm σ = evC fs prim byref m0 b tm' σ' := by
  obtain ⟨n, hn⟩ := evC_some.1 h
  apply opt_ext
  intro r
  rw [evC_some, evC_some]
  constructor
  · rintro ⟨m, hm⟩
    have h1 := execC_mono (up (Nat.le_max_left n m)) (Nat.le_max_left n m) hn
    have h2 := execC_mono (up (Nat.le_max_right n m)) (Nat.le_max_right n m) hm
    simp only [execC, h1] at h2
    exact ⟨_, h2⟩
  · rintro ⟨m, hm⟩
    have h1 := execC_mono (up (Nat.le_max_left n m)) (Nat.le_max_left n m) hn
    have h2 := execC_mono (up (Nat.le_max_right n m)) (Nat.le_max_right n m) hm
    exact ⟨max n m, by simp only [execC, h1]; exact h2⟩
theorem evC_seq_out {a b : ACode} {tm tm' : Tms} {σ σ' : AHeap} {e : AExit} (he : e ≠ .normal) (h : evC fs prim byref m0 a tm σ = some (e, tm', σ')) : evC fs prim byref m0 (.seq a b) tm σ = some (e, tm', σ') := by
  obtain ⟨n, hn⟩ := evC_some.1 h
  refine evC_some.2 ⟨n, ?_⟩
  simp only [execC, hn]
  cases e with
  | normal => exact absurd rfl he
  | exit id => rfl
  | ret => rfl
  | panic x => rfl
theorem evC_true {c : Opd} {a b : ACode} {tm : Tms} {σ : AHeap} (h : c.ev tm = .bool true) : evC fs prim byref m0 (.cond c a b) tm σ = evC fs prim byref m0 a tm σ := by
  apply opt_ext; intro r; rw [evC_some, evC_some]; simp only [execC, h]
theorem evC_false {c : Opd} {a b : ACode} {tm : Tms} {σ : AHeap} (h : c.ev tm = .bool false) : evC fs prim byref m0 (.cond c a b) tm σ = evC fs prim byref m0 b tm σ := by
  apply opt_ext; intro r; rw [evC_some, evC_some]; simp only [execC, h]
def blockA (id : Nat) : AExit × Tms × AHeap → AExit × Tms × AHeap
  | (.exit i, tm, σ) => if i = id then (.normal, tm, σ) else (.exit i, tm, σ)
  | r => r
theorem evC_block {id : Nat} {c : ACode} {tm : Tms} {σ : AHeap} : evC fs prim byref m0 (.block id c) tm σ = (evC fs prim byref m0 c tm σ).map (blockA id) := by
  have step : ∀ n, execC (callA fs prim byref n) byref m0 n (.block id c) tm σ = (execC (callA fs prim byref n) byref m0 n c tm σ).map (blockA id) := by
    intro n
    simp only [execC]
    cases execC (callA fs prim byref n) byref m0 n c tm σ with
    | none => rfl
    | some q =>
      obtain ⟨e, tm1, σ1⟩ := q
      cases e with
      | normal => rfl
      | ret => rfl
      | panic x => rfl
      | exit i => simp only [Option.map_some, blockA]; split <;> rfl
  apply opt_ext; intro r
  rw [evC_some]
  simp only [step, Option.map_eq_some_iff]
  constructor
  · rintro ⟨n, q, h1, h2⟩; exact ⟨q, evC_some.2 ⟨n, h1⟩, h2⟩
  · rintro ⟨q, h1, h2⟩; obtain ⟨n, hn⟩ := evC_some.1 h1; exact ⟨n, q, hn, h2⟩
theorem evC_none {c : ACode} {tm : Tms} {σ : AHeap} (h : evC fs prim byref m0 c tm σ = none) (n : Nat) : execC (callA fs prim byref n) byref m0 n c tm σ = none := by
  cases hx : execC (callA fs prim byref n) byref m0 n c tm σ with
  | none => rfl
  | some r => rw [evC_some.2 ⟨n, hx⟩] at h; cases h
variable (fs prim byref m0) in
/-- a statement, then another one -/
noncomputable def seqX (b : ACode) : Option (AExit × Tms × AHeap) → Option (AExit × Tms × AHeap)
  | some (.normal, tm, σ) => evC fs prim byref m0 b tm σ
  | r => r
theorem x_seq {a b : ACode} {tm : Tms} {σ : AHeap} : evC fs prim byref m0 (.seq a b) tm σ = seqX fs prim byref m0 b (evC fs prim byref m0 a tm σ) := by
  cases h : evC fs prim byref m0 a tm σ with
  | none =>
    simp only [seqX]
    apply opt_ext; intro r
    rw [evC_some]
    constructor
    · rintro ⟨n, hn⟩
      simp only [execC, evC_none h n] at hn
      cases hn
    · intro h; cases h
  | some q =>
    obtain ⟨e, tm', σ'⟩ := q
    cases e with
    | normal => exact evC_seq h
    | exit id => exact evC_seq_out (by simp) h
    | ret => exact evC_seq_out (by simp) h
    | panic x => exact evC_seq_out (by simp) h
variable (fs prim byref m0) in
noncomputable def condX (a b : ACode) (tm : Tms) (σ : AHeap) : AVal → Option (AExit × Tms × AHeap)
  | .bool true => evC fs prim byref m0 a tm σ
  | .bool false => evC fs prim byref m0 b tm σ
  | _ => none
theorem x_cond {c : Opd} {a b : ACode} {tm : Tms} {σ : AHeap} : evC fs prim byref m0 (.cond c a b) tm σ = condX fs prim byref m0 a b tm σ (c.ev tm) := by
  apply opt_ext; intro r
  rw [evC_some]
  simp only [execC]
  constructor
  · rintro ⟨n, hn⟩
    split at hn
    · rename_i e; rw [e]; simp only [condX]; exact evC_some.2 ⟨n, hn⟩
    · rename_i e; rw [e]; simp only [condX]; exact evC_some.2 ⟨n, hn⟩
    · cases hn
  · intro h
    unfold condX at h
    split at h
    · rename_i e; obtain ⟨n, hn⟩ := evC_some.1 h; exact ⟨n, by rw [e]; exact hn⟩
    · rename_i e; obtain ⟨n, hn⟩ := evC_some.1 h; exact ⟨n, by rw [e]; exact hn⟩
    · cases h
variable (fs prim byref m0) in
/-- a loop behind its head -/
noncomputable def evL (live : List Nat) (c : ACode) (tm : Tms) (σ : AHeap) : Option (AExit × Tms × AHeap) :=
  match evC fs prim byref m0 c tm σ with
  | some (.normal, tm', σ') => evC fs prim byref m0 (.loop live c) tm' σ'
  | r => r
theorem x_loop {live : List Nat} {c : ACode} {tm : Tms} {σ : AHeap} : evC fs prim byref m0 (.loop live c) tm σ = evL fs prim byref m0 live c (gcT m0 (keepL live tm) σ).1 (gcT m0 (keepL live tm) σ).2 := by
  apply opt_ext; intro r
  rw [evC_some]
  constructor
  · rintro ⟨n, hn⟩
    simp only [execC] at hn
    cases n with
    | zero => simp only [iterA] at hn; cases hn
    | succ k =>
      simp only [iterA] at hn
      unfold evL
      cases hx : execC (callA fs prim byref (k + 1)) byref m0 (k + 1) c (gcT m0 (keepL live tm) σ).1 (gcT m0 (keepL live tm) σ).2 with
      | none => rw [hx] at hn; cases hn
      | some q =>
        rw [evC_some.2 ⟨_, hx⟩]
        rw [hx] at hn
        obtain ⟨e, tm', σ'⟩ := q
        cases e with
        | normal =>
          simp only at hn ⊢
          exact evC_some.2 ⟨k + 1, by simp only [execC]; exact iterA_mono (fun _ _ _ h => h) (by omega) hn⟩
        | exit id => exact hn
        | ret => exact hn
        | panic x => exact hn
  · intro h
    unfold evL at h
    cases hx : evC fs prim byref m0 c (gcT m0 (keepL live tm) σ).1 (gcT m0 (keepL live tm) σ).2 with
    | none => rw [hx] at h; cases h
    | some q =>
      rw [hx] at h
      obtain ⟨n, hn⟩ := evC_some.1 hx
      obtain ⟨e, tm', σ'⟩ := q
      have out : e ≠ .normal → some (e, tm', σ') = some r → ∃ n, execC (callA fs prim byref n) byref m0 n (.loop live c) tm σ = some r := by
        intro he h
        refine ⟨n + 1, ?_⟩
        have h1 := execC_mono (up (show n ≤ n + 1 by omega)) (show n ≤ n + 1 by omega) hn
        simp only [execC, iterA, h1]
        cases e with
        | normal => exact absurd rfl he
        | exit id => exact h
        | ret => exact h
        | panic x => exact h
      cases e with
      | normal =>
        simp only at h
        obtain ⟨m, hm⟩ := evC_some.1 h
        have h1 := execC_mono (up (show n ≤ max n m + 1 by omega)) (show n ≤ max n m + 1 by omega) hn
        have h2 := execC_mono (up (show m ≤ max n m + 1 by omega)) (Nat.le_refl m) hm
        simp only [execC] at h2
        refine ⟨max n m + 1, ?_⟩
        simp only [execC, iterA, h1]
        exact iterA_mono (fun tm σ r h => execC_mono (fun _ _ _ _ h => h) (by omega) h) (by omega) h2
      | exit id => exact out (by simp) h
      | ret => exact out (by simp) h
      | panic x => exact out (by simp) h

/-- what EV says, the program does -/
theorem EV_sound {P : Program} (hm : P.follows .mixedOrders = true) {prim : Prims} (hP : PrimOk P prim) (ann : Nat → Ann) (byref : Nat → Bool) : OrOk P (EV (compF P ann) prim byref) := by
  intro f args σ r σ' h
  obtain ⟨n, hn⟩ := EV_some.1 h
  exact call_sound hm hP ann byref n f args σ r σ' hn
end
end Go.Proofs.YtaaflagbhneakaaDoor
namespace Go.Proofs.YtaaflagbhneakaaDoor
set_option linter.unusedSimpArgs false
set_option linter.unusedVariables false
open Go.RowKit

/-- without what is touched -/
def dropC : Tms × AHeap × List Cls × Option AVal → Tms × AHeap × Option AVal := fun q => (q.1, q.2.1, q.2.2.2)
def isPan : AVal → Bool
  | .pan _ => true
  | _ => false
section
variable (O : Oracle) (byref : Nat → Bool)
def exI (i : Ins) (s : Nat) (tm : Tms) (σ : AHeap) : Option (AVal × AHeap × Cls) :=
  if nsite i == 0 || freeAt σ s then execI O byref tm σ s i else none
/-- operations, what they touch left out -/
def runN (ops : List AOp) (s : Nat) (tm : Tms) (σ : AHeap) : Option (Tms × AHeap × Option AVal) := (runOps O byref ops s tm σ).map dropC
def kN (d : Option Nat) (os : List AOp) (s : Nat) (tm : Tms) : Option (AVal × AHeap × Cls) → Option (Tms × AHeap × Option AVal)
  | none => none
  | some (v, σ, _) => if isPan v then some (tput tm d v, σ, some (valOf v)) else runN O byref os s (tput tm d v) σ
def regN (live : List Nat) : Option (Tms × AHeap × Option AVal) → Option (AExit × Tms × AHeap)
  | none => none
  | some (_, σ, some x) => some (.panic x, [], σ)
  | some (tm, σ, none) => some (.normal, keepL live tm, σ)
variable {O byref}
theorem runN_nil (s : Nat) (tm : Tms) (σ : AHeap) : runN O byref [] s tm σ = some (tm, σ, none) := rfl
theorem runOps_none {o : AOp} {os : List AOp} {s : Nat} {tm : Tms} {σ : AHeap} (h : stepA O byref o s tm σ = none) : runOps O byref (o :: os) s tm σ = none := by simp only [runOps, h]
theorem runOps_pan {o : AOp} {os : List AOp} {s : Nat} {tm tm1 : Tms} {σ σ1 : AHeap} {x : AVal} {c : Cls} (h : stepA O byref o s tm σ = some (.pan x, tm1, σ1, c)) : runOps O byref (o :: os) s tm σ = some (tm1, σ1, [c], some x) := by simp only [runOps, h]
theorem runOps_step {o : AOp} {os : List AOp} {s : Nat} {tm tm1 : Tms} {σ σ1 : AHeap} {v : AVal} {c : Cls} (h : stepA O byref o s tm σ = some (v, tm1, σ1, c)) (hn : isPan v = false) : runOps O byref (o :: os) s tm σ = (runOps O byref os (s + nsite o.ins) tm1 σ1).map fun q => (q.1, q.2.1, c :: q.2.2.1, q.2.2.2) := by
  simp only [runOps, h]
  cases v <;> first
    | (simp [isPan] at hn; done)
    | (simp only; cases runOps O byref os (s + nsite o.ins) tm1 σ1 <;> rfl)
theorem runN_none {o : AOp} {os : List AOp} {s : Nat} {tm : Tms} {σ : AHeap} (h : stepA O byref o s tm σ = none) : runN O byref (o :: os) s tm σ = none := by simp only [runN, runOps_none h, Option.map_none]
theorem runN_pan {o : AOp} {os : List AOp} {s : Nat} {tm tm1 : Tms} {σ σ1 : AHeap} {x : AVal} {c : Cls} (h : stepA O byref o s tm σ = some (.pan x, tm1, σ1, c)) : runN O byref (o :: os) s tm σ = some (tm1, σ1, some x) := by simp only [runN, runOps_pan h, Option.map_some, dropC]
theorem runN_step {o : AOp} {os : List AOp} {s : Nat} {tm tm1 : Tms} {σ σ1 : AHeap} {v : AVal} {c : Cls} (h : stepA O byref o s tm σ = some (v, tm1, σ1, c)) (hn : isPan v = false) : runN O byref (o :: os) s tm σ = runN O byref os (s + nsite o.ins) tm1 σ1 := by
  simp only [runN, runOps_step h hn, Option.map_map]
  rfl
theorem isPan_true {v : AVal} (h : isPan v = true) : ∃ x, v = .pan x := by
  cases v <;> first | exact ⟨_, rfl⟩ | (simp [isPan] at h; done)
theorem step_one {d : Option Nat} {i : Ins} {af : List Nat} {s : Nat} {tm : Tms} {σ : AHeap} : stepA O byref ⟨d, i, none, af⟩ s tm σ = (exI O byref i s tm σ).map fun q => (q.1, tput tm d q.1, q.2.1, q.2.2) := by
  unfold stepA exI
  simp only [wantedA]
  split
  · cases execI O byref tm σ s i with
    | none => rfl
    | some q => rfl
  · rfl
theorem runN_cons (d : Option Nat) (i : Ins) (af : List Nat) (os : List AOp) (s : Nat) (tm : Tms) (σ : AHeap) : runN O byref (⟨d, i, none, af⟩ :: os) s tm σ = kN O byref d os (s + nsite i) tm (exI O byref i s tm σ) := by
  cases h : exI O byref i s tm σ with
  | none => exact runN_none (by rw [step_one, h]; rfl)
  | some q =>
    obtain ⟨v, σ1, c⟩ := q
    have hs : stepA O byref ⟨d, i, none, af⟩ s tm σ = some (v, tput tm d v, σ1, c) := by rw [step_one, h]; rfl
    cases hp : isPan v with
    | true =>
      obtain ⟨x, rfl⟩ := isPan_true hp
      exact runN_pan hs
    | false =>
      rw [runN_step hs hp]
      simp only [kN, hp, Bool.false_eq_true, if_false]
theorem reg_none (ops : List AOp) (live : List Nat) (tm : Tms) (σ : AHeap) : runRegion O byref ops none live tm σ = regN live (runN O byref ops σ.length tm (σ ++ List.replicate (sitesOf ops) .free)) := by
  unfold runRegion runN
  cases runOps O byref ops σ.length tm (σ ++ List.replicate (sitesOf ops) .free) with
  | none => rfl
  | some q =>
    obtain ⟨tm', σ', cs, p⟩ := q
    cases p <;> rfl
theorem kN_some (d : Option Nat) (os : List AOp) (s : Nat) (tm : Tms) (v : AVal) (σ : AHeap) (c : Cls) (h : isPan v = false) : kN O byref d os s tm (some (v, σ, c)) = runN O byref os s (tput tm d v) σ := by
  simp only [kN, h, Bool.false_eq_true, if_false]
theorem kN_pan (d : Option Nat) (os : List AOp) (s : Nat) (tm : Tms) (x : AVal) (σ : AHeap) (c : Cls) : kN O byref d os s tm (some (.pan x, σ, c)) = some (tput tm d (.pan x), σ, some x) := rfl
theorem kN_none (d : Option Nat) (os : List AOp) (s : Nat) (tm : Tms) : kN O byref d os s tm none = none := rfl

/-- operations that hang on one guard -/
structure GOp where
  guard : Option (Nat × Bool)
  ops : List AOp
def gSkip : List AOp → Tms → Tms
  | [], tm => tm
  | o :: os, tm => gSkip os (tput tm o.dst (.tup []))
def unG (o : AOp) : AOp := { o with guard := none }
variable (O byref) in
def gRun (j : Nat) (w : Bool) (g : List AOp) (s : Nat) (tm : Tms) (σ : AHeap) : Option (Tms × AHeap × Option AVal) := match wantedA (some (j, w)) tm with
  | none => none
  | some false => some (gSkip g tm, σ, none)
  | some true => runN O byref (g.map unG) s tm σ
variable (O byref) in
def gK (os : List AOp) (s : Nat) : Option (Tms × AHeap × Option AVal) → Option (Tms × AHeap × Option AVal)
  | none => none
  | some (tm, σ, some x) => some (tm, σ, some x)
  | some (tm, σ, none) => runN O byref os s tm σ
/-- the operations ahead that have this guard, and the rest -/
def gSpan (j : Nat) (w : Bool) : List AOp → List AOp × List AOp
  | [] => ([], [])
  | o :: os => match o.guard with
    | some (j', w') => if j' = j ∧ w' = w ∧ o.dst ≠ some j then ((o :: (gSpan j w os).1), (gSpan j w os).2) else ([], o :: os)
    | none => ([], o :: os)
theorem gSpan_eq (j : Nat) (w : Bool) : ∀ os, (gSpan j w os).1 ++ (gSpan j w os).2 = os
  | [] => rfl
  | o :: os => by
    simp only [gSpan]
    split
    · split
      · simp [gSpan_eq j w os]
      · rfl
    · rfl
theorem gSpan_all (j : Nat) (w : Bool) : ∀ os, ∀ o ∈ (gSpan j w os).1, o.guard = some (j, w) ∧ o.dst ≠ some j
  | [] => by simp [gSpan]
  | o :: os => by
    intro o' ho
    simp only [gSpan] at ho
    split at ho
    · rename_i j' w' hg
      split at ho
      · rename_i hc
        rcases List.mem_cons.1 ho with rfl | ho
        · exact ⟨by rw [hg, hc.1, hc.2.1], hc.2.2⟩
        · exact gSpan_all j w os o' ho
      · simp at ho
    · simp at ho
theorem tget_tput' {d : Option Nat} {v : AVal} {n : Nat} {tm : Tms} (h : d ≠ some n) : tget (tput tm d v) n = tget tm n := by
  cases d with
  | none => rfl
  | some d =>
    have : d ≠ n := by rintro rfl; exact h rfl
    simp only [tput, tget_tins, this, if_false]
theorem wanted_put {d : Option Nat} {v : AVal} {j : Nat} {w : Bool} {tm : Tms} (h : d ≠ some j) : wantedA (some (j, w)) (tput tm d v) = wantedA (some (j, w)) tm := by
  simp only [wantedA, tget_tput' h]
theorem sites_unG (g : List AOp) : sitesOf (g.map unG) = sitesOf g := by
  simp [sitesOf, unG, Function.comp_def]
theorem runN_append : ∀ (a b : List AOp) (s : Nat) (tm : Tms) (σ : AHeap), runN O byref (a ++ b) s tm σ = gK O byref b (s + sitesOf a) (runN O byref a s tm σ)
  | [], b, s, tm, σ => by simp [runN_nil, gK, sitesOf]
  | o :: a, b, s, tm, σ => by
    have ih := runN_append a b
    simp only [List.cons_append]
    have hs : s + nsite o.ins + sitesOf a = s + sitesOf (o :: a) := by simp [sitesOf, Nat.add_assoc]
    cases hst : stepA O byref o s tm σ with
    | none => rw [runN_none hst, runN_none hst]; rfl
    | some q =>
      obtain ⟨v, tm1, σ1, c⟩ := q
      cases hp : isPan v with
      | true =>
        obtain ⟨x, rfl⟩ := isPan_true hp
        rw [runN_pan hst, runN_pan hst]; rfl
      | false => rw [runN_step hst hp, runN_step hst hp, ih, hs]
theorem runN_group (j : Nat) (w : Bool) : ∀ (g : List AOp), (∀ o ∈ g, o.guard = some (j, w) ∧ o.dst ≠ some j) → ∀ (s : Nat) (tm : Tms) (σ : AHeap), g ≠ [] → runN O byref g s tm σ = gRun O byref j w g s tm σ
  | [], _, _, _, _, h => absurd rfl h
  | o :: g, hall, s, tm, σ, _ => by
    obtain ⟨hg, hd⟩ := hall o (by simp)
    have ih : ∀ (tm : Tms) (σ : AHeap) (s : Nat), wantedA (some (j, w)) tm ≠ none → runN O byref g s tm σ = gRun O byref j w g s tm σ := by
      intro tm σ s hw
      by_cases he : g = []
      · subst he
        unfold gRun
        cases hx : wantedA (some (j, w)) tm with
        | none => exact absurd hx hw
        | some b => cases b <;> rfl
      · exact runN_group j w g (fun o ho => hall o (by simp [ho])) s tm σ he
    cases hx : wantedA (some (j, w)) tm with
    | none =>
      rw [runN_none (by simp only [stepA, hg, hx])]
      simp only [gRun, hx]
    | some b =>
      cases b with
      | false =>
        have h1 : runN O byref (o :: g) s tm σ = runN O byref g (s + nsite o.ins) (tput tm o.dst (.tup [])) σ :=
          runN_step (v := .tup []) (c := {}) (by simp only [stepA, hg, hx]) rfl
        rw [h1, ih _ _ _ (by rw [wanted_put hd, hx]; simp)]
        unfold gRun
        rw [wanted_put hd, hx]
        rfl
      | true =>
        have key : ∀ r : Option (AVal × AHeap × Cls), (∀ v σ' c, r = some (v, σ', c) → isPan v = false → runN O byref g (s + nsite o.ins) (tput tm o.dst v) σ' = runN O byref (g.map unG) (s + nsite o.ins) (tput tm o.dst v) σ') → kN O byref o.dst g (s + nsite o.ins) tm r = kN O byref o.dst (g.map unG) (s + nsite o.ins) tm r := by
          intro r hr
          cases r with
          | none => rfl
          | some q =>
            obtain ⟨v, σ', c⟩ := q
            cases hp : isPan v with
            | true => simp only [kN, hp, if_true]
            | false => rw [kN_some _ _ _ _ _ _ _ hp, kN_some _ _ _ _ _ _ _ hp]; exact hr v σ' c rfl hp
        have h1 : runN O byref (o :: g) s tm σ = kN O byref o.dst g (s + nsite o.ins) tm (exI O byref o.ins s tm σ) := by
          have h0 : runN O byref (o :: g) s tm σ = runN O byref (⟨o.dst, o.ins, none, o.after⟩ :: g) s tm σ := by
            have hst : stepA O byref o s tm σ = stepA O byref ⟨o.dst, o.ins, none, o.after⟩ s tm σ := by
              unfold stepA
              simp only [hg, hx]
              rfl
            unfold runN
            simp only [runOps, hst]
          rw [h0, runN_cons]
        rw [h1]
        unfold gRun
        rw [hx]
        simp only [List.map_cons]
        rw [show unG o = ⟨o.dst, o.ins, none, o.after⟩ from rfl, runN_cons]
        refine key _ fun v σ' c _ _ => ?_
        rw [ih _ _ _ (by rw [wanted_put hd, hx]; simp)]
        unfold gRun
        rw [wanted_put hd, hx]
theorem runN_guard (d : Option Nat) (i : Ins) (j : Nat) (w : Bool) (af : List Nat) (os : List AOp) (s : Nat) (tm : Tms) (σ : AHeap) (hd : decide (d = some j) = false) :
    runN O byref (⟨d, i, some (j, w), af⟩ :: os) s tm σ = gK O byref (gSpan j w os).2 (s + sitesOf (⟨d, i, some (j, w), af⟩ :: (gSpan j w os).1)) (gRun O byref j w (⟨d, i, some (j, w), af⟩ :: (gSpan j w os).1) s tm σ) := by
  have h := gSpan_eq j w os
  have hall : ∀ o ∈ (⟨d, i, some (j, w), af⟩ :: (gSpan j w os).1 : List AOp), o.guard = some (j, w) ∧ o.dst ≠ some j := by
    intro o ho
    rcases List.mem_cons.1 ho with rfl | ho
    · exact ⟨rfl, by simpa using hd⟩
    · exact gSpan_all j w os o ho
  rw [← runN_group j w _ hall s tm σ (by simp), ← runN_append, List.cons_append, h]
variable (O byref) in
/-- by the guard's value -/
def gW (w : Bool) (g : List AOp) (s : Nat) (tm : Tms) (σ : AHeap) : AVal → Option (Tms × AHeap × Option AVal)
  | .bool b => if b = w then runN O byref (g.map unG) s tm σ else some (gSkip g tm, σ, none)
  | .tup [] => some (gSkip g tm, σ, none)
  | _ => none
theorem gRun_eq (j : Nat) (w : Bool) (g : List AOp) (s : Nat) (tm : Tms) (σ : AHeap) : gRun O byref j w g s tm σ = gW O byref w g s tm σ (tget tm j) := by
  unfold gRun wantedA
  simp only
  generalize tget tm j = v
  cases v
  case bool b => cases b <;> cases w <;> rfl
  case tup vs => cases vs <;> rfl
  all_goals rfl
theorem gW_bool (w : Bool) (g : List AOp) (s : Nat) (tm : Tms) (σ : AHeap) (b : Bool) : gW O byref w g s tm σ (.bool b) = if b = w then runN O byref (g.map unG) s tm σ else some (gSkip g tm, σ, none) := rfl
theorem gW_off (w : Bool) (g : List AOp) (s : Nat) (tm : Tms) (σ : AHeap) : gW O byref w g s tm σ (.tup []) = some (gSkip g tm, σ, none) := rfl
theorem gK_some (os : List AOp) (s : Nat) (tm : Tms) (σ : AHeap) : gK O byref os s (some (tm, σ, none)) = runN O byref os s tm σ := rfl
theorem gK_ite (c : Prop) [Decidable c] (os : List AOp) (s : Nat) (x y : Option (Tms × AHeap × Option AVal)) : gK O byref os s (if c then x else y) = if c then gK O byref os s x else gK O byref os s y := by split <;> rfl
end

/-! ### branches that meet again -/
section
variable (c : Prop) [Decidable c]
theorem ite_out {α : Type} (a b : α) : (if c then some a else some b) = some (if c then a else b) := by split <;> rfl
theorem ite_pair {α β : Type} (a b : α) (x y : β) : (if c then (a, x) else (b, y)) = ((if c then a else b), (if c then x else y)) := by split <;> rfl
theorem ite_list {α : Type} (a b : α) (x y : List α) : (if c then a :: x else b :: y) = (if c then a else b) :: (if c then x else y) := by split <;> rfl
theorem ite_int (k : IntKind) (a b : Int) : (if c then AVal.int k a else AVal.int k b) = AVal.int k (if c then a else b) := by split <;> rfl
theorem ite_bool (a b : Bool) : (if c then AVal.bool a else AVal.bool b) = AVal.bool (if c then a else b) := by split <;> rfl
theorem ite_str (a b : List UInt8) : (if c then AVal.str a else AVal.str b) = AVal.str (if c then a else b) := by split <;> rfl
theorem ite_lst (p q : Bool) (a b : List AVal) : (if c then AVal.lst p a else AVal.lst q b) = AVal.lst (if c then p else q) (if c then a else b) := by split <;> rfl
theorem ite_agg (a b : List AVal) : (if c then AVal.agg a else AVal.agg b) = AVal.agg (if c then a else b) := by split <;> rfl
theorem ite_var (a b : List AVal) : (if c then ABlk.var a else ABlk.var b) = ABlk.var (if c then a else b) := by split <;> rfl
theorem ite_row (g k : Nat) (a b : List AVal) : (if c then ABlk.row g k a else ABlk.row g k b) = ABlk.row g k (if c then a else b) := by split <;> rfl
theorem ite_ref (t : Nat) (a b : Nat) : (if c then AVal.ref t a else AVal.ref t b) = AVal.ref t (if c then a else b) := by split <;> rfl
theorem ite_tt {α : Type} (x y z : α) : (if c then (if c then x else y) else z) = if c then x else z := by split <;> rfl
theorem ite_ee {α : Type} (x y z : α) : (if c then x else (if c then y else z)) = if c then x else z := by split <;> rfl
theorem ite_nt {α : Type} (x y z : α) : (if c then (if ¬c then x else y) else z) = if c then y else z := by split <;> simp_all
theorem ite_ne {α : Type} (x y z : α) : (if c then x else (if ¬c then y else z)) = if c then x else y := by split <;> simp_all
theorem pickX_b (σ : AHeap) (a b : AVal) (p : Bool) : pickX σ a b (.bool p) = some (if p = true then a else b, σ, {}) := by cases p <;> rfl
theorem isPan_ite (a b : AVal) : isPan (if c then a else b) = if c then isPan a else isPan b := by split <;> rfl
end
section
variable {fs : Nat → Option AFunc} {prim : Prims} {byref : Nat → Bool} {m0 : Nat}
theorem condX_b (p : Bool) (a b : ACode) (tm : Tms) (σ : AHeap) : condX fs prim byref m0 a b tm σ (.bool p) = if p = true then evC fs prim byref m0 a tm σ else evC fs prim byref m0 b tm σ := by
  cases p <;> rfl
theorem seqX_n (b : ACode) (tm : Tms) (σ : AHeap) : seqX fs prim byref m0 b (some (.normal, tm, σ)) = evC fs prim byref m0 b tm σ := rfl
theorem seqX_e (b : ACode) (i : Nat) (tm : Tms) (σ : AHeap) : seqX fs prim byref m0 b (some (.exit i, tm, σ)) = some (.exit i, tm, σ) := rfl
theorem seqX_r (b : ACode) (tm : Tms) (σ : AHeap) : seqX fs prim byref m0 b (some (.ret, tm, σ)) = some (.ret, tm, σ) := rfl
theorem seqX_p (b : ACode) (x : AVal) (tm : Tms) (σ : AHeap) : seqX fs prim byref m0 b (some (.panic x, tm, σ)) = some (.panic x, tm, σ) := rfl
theorem seqX_ite (c : Prop) [Decidable c] (b : ACode) (x y : Option (AExit × Tms × AHeap)) : seqX fs prim byref m0 b (if c then x else y) = if c then seqX fs prim byref m0 b x else seqX fs prim byref m0 b y := by split <;> rfl
theorem seqX_pair (c : Prop) [Decidable c] (b : ACode) (t1 t2 : Tms) (σ1 σ2 : AHeap) : seqX fs prim byref m0 b (some (if c then (.normal, t1, σ1) else (.normal, t2, σ2))) = evC fs prim byref m0 b (if c then t1 else t2) (if c then σ1 else σ2) := by split <;> rfl
theorem block_n (id : Nat) (tm : Tms) (σ : AHeap) : Option.map (blockA id) (some (.normal, tm, σ)) = some (.normal, tm, σ) := rfl
theorem block_e (id i : Nat) (tm : Tms) (σ : AHeap) : Option.map (blockA id) (some (.exit i, tm, σ)) = if i = id then some (.normal, tm, σ) else some (.exit i, tm, σ) := by
  simp only [Option.map_some, blockA]; split <;> rfl
theorem block_r (id : Nat) (tm : Tms) (σ : AHeap) : Option.map (blockA id) (some (.ret, tm, σ)) = some (.ret, tm, σ) := rfl
theorem block_p (id : Nat) (x : AVal) (tm : Tms) (σ : AHeap) : Option.map (blockA id) (some (.panic x, tm, σ)) = some (.panic x, tm, σ) := rfl
theorem block_ite (id : Nat) (c : Prop) [Decidable c] (x y : Option (AExit × Tms × AHeap)) : Option.map (blockA id) (if c then x else y) = if c then Option.map (blockA id) x else Option.map (blockA id) y := by split <;> rfl
theorem fin_ite (m : Nat) (fn : AFunc) (c : Prop) [Decidable c] (x y : Option (AExit × Tms × AHeap)) : finA m fn (if c then x else y) = if c then finA m fn x else finA m fn y := by split <;> rfl
end

section
variable {fs : Nat → Option AFunc} {prim : Prims} {byref : Nat → Bool} {m0 : Nat}
theorem evL_round {live : List Nat} {c : ACode} {tm tm' : Tms} {σ σ' : AHeap} (h : evC fs prim byref m0 c tm σ = some (.normal, tm', σ')) : evL fs prim byref m0 live c tm σ = evL fs prim byref m0 live c (gcT m0 (keepL live tm') σ').1 (gcT m0 (keepL live tm') σ').2 := by
  unfold evL
  rw [h]
  simp only
  rw [x_loop]
  rfl
theorem evL_exit {live : List Nat} {c : ACode} {tm tm' : Tms} {σ σ' : AHeap} {i : Nat} (h : evC fs prim byref m0 c tm σ = some (.exit i, tm', σ')) : evL fs prim byref m0 live c tm σ = some (.exit i, tm', σ') := by
  unfold evL; rw [h]
theorem evL_ret {live : List Nat} {c : ACode} {tm tm' : Tms} {σ σ' : AHeap} (h : evC fs prim byref m0 c tm σ = some (.ret, tm', σ')) : evL fs prim byref m0 live c tm σ = some (.ret, tm', σ') := by
  unfold evL; rw [h]
variable (fs prim byref m0) in
/-- a loop behind a round -/
noncomputable def evM (live : List Nat) (c : ACode) : Option (AExit × Tms × AHeap) → Option (AExit × Tms × AHeap)
  | some (.normal, tm, σ) => evL fs prim byref m0 live c (gcT m0 (keepL live tm) σ).1 (gcT m0 (keepL live tm) σ).2
  | r => r
theorem evL_eq (live : List Nat) (c : ACode) (tm : Tms) (σ : AHeap) : evL fs prim byref m0 live c tm σ = evM fs prim byref m0 live c (evC fs prim byref m0 c tm σ) := by
  cases h : evC fs prim byref m0 c tm σ with
  | none => unfold evL; rw [h]; rfl
  | some q =>
    obtain ⟨e, tm', σ'⟩ := q
    cases e with
    | normal => exact evL_round h
    | exit i => exact evL_exit h
    | ret => exact evL_ret h
    | panic x => unfold evL; rw [h]; rfl
theorem evM_n (live : List Nat) (c : ACode) (tm : Tms) (σ : AHeap) : evM fs prim byref m0 live c (some (.normal, tm, σ)) = evL fs prim byref m0 live c (gcT m0 (keepL live tm) σ).1 (gcT m0 (keepL live tm) σ).2 := rfl
theorem evM_e (live : List Nat) (c : ACode) (i : Nat) (tm : Tms) (σ : AHeap) : evM fs prim byref m0 live c (some (.exit i, tm, σ)) = some (.exit i, tm, σ) := rfl
theorem evM_r (live : List Nat) (c : ACode) (tm : Tms) (σ : AHeap) : evM fs prim byref m0 live c (some (.ret, tm, σ)) = some (.ret, tm, σ) := rfl
theorem evM_p (live : List Nat) (c : ACode) (x : AVal) (tm : Tms) (σ : AHeap) : evM fs prim byref m0 live c (some (.panic x, tm, σ)) = some (.panic x, tm, σ) := rfl
theorem evM_ite (live : List Nat) (b : ACode) (c : Prop) [Decidable c] (x y : Option (AExit × Tms × AHeap)) : evM fs prim byref m0 live b (if c then x else y) = if c then evM fs prim byref m0 live b x else evM fs prim byref m0 live b y := by split <;> rfl
end

/-! ### calls with plain values -/
def plain1 : AVal → Bool
  | .int _ _ => true
  | .bool _ => true
  | .str _ => true
  | .nilp => true
  | .nilm => true
  | .nili => true
  | .lst _ _ => true
  | .fn _ [] => true
  | _ => false
def plainV : AVal → Bool
  | .agg cs => cs.all plain1
  | x => plain1 x
def norm1 : AVal → AVal
  | .lst _ xs => .lst false xs
  | x => x
def normV : AVal → AVal
  | .agg cs => .agg (cs.map norm1)
  | x => norm1 x
theorem plain1_show {σ : AHeap} {x : AVal} (h : plain1 x = true) : showA1 σ x = some (norm1 x, []) := by
  cases x <;> first | (simp [plain1] at h; done) | rfl
theorem plains_show {σ : AHeap} : ∀ {xs : List AVal}, xs.all plain1 = true → showsA σ xs = some (xs.map norm1, [])
  | [], _ => rfl
  | x :: xs, h => by
    simp only [List.all_cons, Bool.and_eq_true] at h
    simp only [showsA, plain1_show h.1, plains_show h.2, List.map_cons, List.append_nil]
theorem plainV_one {x : AVal} (h : ∀ cs, x ≠ .agg cs) : plainV x = plain1 x ∧ normV x = norm1 x := by
  cases x <;> first | exact ⟨rfl, rfl⟩ | exact absurd rfl (h _)
theorem showA_one {σ : AHeap} {x : AVal} (h : ∀ cs, x ≠ .agg cs) : showA σ x = showA1 σ x := by
  cases x <;> first | rfl | exact absurd rfl (h _)
theorem agg_or (x : AVal) : (∃ cs, x = .agg cs) ∨ ∀ cs, x ≠ .agg cs := by
  cases x <;> first | exact Or.inl ⟨_, rfl⟩ | (right; intro cs; simp)
theorem plainV_show {σ : AHeap} {x : AVal} (h : plainV x = true) : showA σ x = some (normV x, []) := by
  rcases agg_or x with ⟨cs, rfl⟩ | hn
  · simp only [plainV] at h
    simp only [showA, plains_show h, normV]
  · rw [(plainV_one hn).1] at h
    rw [showA_one hn, (plainV_one hn).2]
    exact plain1_show h
theorem plainVs_show {σ : AHeap} : ∀ {xs : List AVal}, xs.all plainV = true → showAs σ xs = some (xs.map normV, [])
  | [], _ => rfl
  | x :: xs, h => by
    simp only [List.all_cons, Bool.and_eq_true] at h
    simp only [showAs, plainV_show h.1, plainVs_show h.2, List.map_cons, List.append_nil]
theorem norm1_refs {x : AVal} (h : plain1 x = true) : refsV (norm1 x) = [] := by
  cases x
  case fn f cs => cases cs <;> simp [plain1] at h; rfl
  all_goals first | (simp [plain1] at h; done) | rfl
theorem norms_refs : ∀ {xs : List AVal}, xs.all plain1 = true → refsL (xs.map norm1) = []
  | [], _ => rfl
  | x :: xs, h => by
    simp only [List.all_cons, Bool.and_eq_true] at h
    simp only [List.map_cons, refsL, norm1_refs h.1, norms_refs h.2, List.append_nil]
theorem normV_refs {x : AVal} (h : plainV x = true) : refsV (normV x) = [] := by
  rcases agg_or x with ⟨cs, rfl⟩ | hn
  · simp only [plainV] at h
    simp only [normV, refsV]; exact norms_refs h
  · rw [(plainV_one hn).1] at h
    rw [(plainV_one hn).2]; exact norm1_refs h
theorem normVs_refs : ∀ {xs : List AVal}, xs.all plainV = true → refsL (xs.map normV) = []
  | [], _ => rfl
  | x :: xs, h => by
    simp only [List.all_cons, Bool.and_eq_true] at h
    simp only [List.map_cons, refsL, normV_refs h.1, normVs_refs h.2, List.append_nil]
theorem norm1_ren {ρ : Rho} {x : AVal} (h : plain1 x = true) : renV ρ (norm1 x) = norm1 x := by
  cases x
  case fn f cs => cases cs <;> simp [plain1] at h; rfl
  all_goals first | (simp [plain1] at h; done) | rfl
theorem norms_ren {ρ : Rho} : ∀ {xs : List AVal}, xs.all plain1 = true → renL ρ (xs.map norm1) = xs.map norm1
  | [], _ => rfl
  | x :: xs, h => by
    simp only [List.all_cons, Bool.and_eq_true] at h
    simp only [List.map_cons, renL, norm1_ren h.1, norms_ren h.2]
theorem normV_ren {ρ : Rho} {x : AVal} (h : plainV x = true) : renV ρ (normV x) = normV x := by
  rcases agg_or x with ⟨cs, rfl⟩ | hn
  · simp only [plainV] at h
    simp only [normV, renV]; rw [norms_ren h]
  · rw [(plainV_one hn).1] at h
    rw [(plainV_one hn).2]; exact norm1_ren h
theorem normVs_ren {ρ : Rho} : ∀ {xs : List AVal}, xs.all plainV = true → renL ρ (xs.map normV) = xs.map normV
  | [], _ => rfl
  | x :: xs, h => by
    simp only [List.all_cons, Bool.and_eq_true] at h
    simp only [List.map_cons, renL, normV_ren h.1, normVs_ren h.2]
theorem callG_plain {O : Oracle} {byref : Nat → Bool} {σ : AHeap} {site f own : Nat} {view : Bool} {args : List AVal} (hb : byref f = false) (h : args.all plainV = true) :
    callG O byref σ site f own view args = backG σ σ [] [] site own (askO view 0 (O f (args.map normV) [])) := by
  unfold callG showIf
  rw [hb]
  simp only [Bool.false_eq_true, if_false, plainVs_show h]
  have h1 : freezeA σ [] = σ := rfl
  rw [h1, normVs_refs h]
  have h2 : reach σ 1000 [] [] = [] := rfl
  rw [h2]
  unfold callI
  simp only [List.all_nil, if_true, normVs_ren h, heapOf, List.length_nil]
/-- an answer of plain values, none of them with blocks -/
theorem backG_plain (σ : AHeap) (site own : Nat) (r : AVal) (h : renV (rhoBack [] [] site) r = r) : backG σ σ [] [] site own (some (r, [])) = some (r, σ, {}) := by
  simp only [backG, List.isEmpty_nil, Bool.and_self, if_true]
  split
  · rfl
  · rw [h]
end Go.Proofs.YtaaflagbhneakaaDoor
namespace Go.Proofs.YtaaflagbhneakaaDoor
set_option linter.unusedSimpArgs false
set_option linter.unusedVariables false
section
variable (ρ : Rho) (σ : AHeap)
theorem s_isPan_top  : isPan (.top) = false := rfl
theorem s_isPan_any  : isPan (.any) = false := rfl
theorem s_isPan_int (k : IntKind) (n : Int) : isPan (.int k n) = false := rfl
theorem s_isPan_bool (b : Bool) : isPan (.bool b) = false := rfl
theorem s_isPan_str (l : List UInt8) : isPan (.str l) = false := rfl
theorem s_isPan_nilp  : isPan (.nilp) = false := rfl
theorem s_isPan_ref (t : Nat) (o : Nat) : isPan (.ref t o) = false := rfl
theorem s_isPan_eref (t : Nat) (g : Nat) (i : Nat) (o : Nat) : isPan (.eref t g i o) = false := rfl
theorem s_isPan_iptr (cs : List AVal) (o : Nat) : isPan (.iptr cs o) = false := rfl
theorem s_isPan_lst (x : Bool) (xs : List AVal) : isPan (.lst x xs) = false := rfl
theorem s_isPan_sl (t : Nat) (g : Nat) (lo : Nat) (n : Nat) : isPan (.sl t g lo n) = false := rfl
theorem s_isPan_agg (cs : List AVal) : isPan (.agg cs) = false := rfl
theorem s_isPan_tup (vs : List AVal) : isPan (.tup vs) = false := rfl
theorem s_isPan_fn (f : Nat) (caps : List AVal) : isPan (.fn f caps) = false := rfl
theorem s_isPan_nilm  : isPan (.nilm) = false := rfl
theorem s_isPan_map (t : Nat) : isPan (.map t) = false := rfl
theorem s_isPan_nili  : isPan (.nili) = false := rfl
theorem s_isPan_iface (t : Nat) (x : AVal) : isPan (.iface t x) = false := rfl
theorem s_isPan_pan (x : AVal) : isPan (.pan x) = true := rfl
theorem s_okCell_top  : okCell (.top) = false := rfl
theorem s_okCell_any  : okCell (.any) = true := rfl
theorem s_okCell_int (k : IntKind) (n : Int) : okCell (.int k n) = true := rfl
theorem s_okCell_bool (b : Bool) : okCell (.bool b) = true := rfl
theorem s_okCell_str (l : List UInt8) : okCell (.str l) = true := rfl
theorem s_okCell_nilp  : okCell (.nilp) = true := rfl
theorem s_okCell_ref (t : Nat) (o : Nat) : okCell (.ref t o) = true := rfl
theorem s_okCell_eref (t : Nat) (g : Nat) (i : Nat) (o : Nat) : okCell (.eref t g i o) = true := rfl
theorem s_okCell_iptr (cs : List AVal) (o : Nat) : okCell (.iptr cs o) = true := rfl
theorem s_okCell_lst (x : Bool) (xs : List AVal) : okCell (.lst x xs) = true := rfl
theorem s_okCell_sl (t : Nat) (g : Nat) (lo : Nat) (n : Nat) : okCell (.sl t g lo n) = true := rfl
theorem s_okCell_agg (cs : List AVal) : okCell (.agg cs) = false := rfl
theorem s_okCell_tup (vs : List AVal) : okCell (.tup vs) = false := rfl
theorem s_okCell_fn (f : Nat) (caps : List AVal) : okCell (.fn f caps) = true := rfl
theorem s_okCell_nilm  : okCell (.nilm) = true := rfl
theorem s_okCell_map (t : Nat) : okCell (.map t) = true := rfl
theorem s_okCell_nili  : okCell (.nili) = true := rfl
theorem s_okCell_iface (t : Nat) (x : AVal) : okCell (.iface t x) = true := rfl
theorem s_okCell_pan (x : AVal) : okCell (.pan x) = false := rfl
theorem s_ntop_top  : ntop (.top) = false := rfl
theorem s_ntop_any  : ntop (.any) = true := rfl
theorem s_ntop_int (k : IntKind) (n : Int) : ntop (.int k n) = true := rfl
theorem s_ntop_bool (b : Bool) : ntop (.bool b) = true := rfl
theorem s_ntop_str (l : List UInt8) : ntop (.str l) = true := rfl
theorem s_ntop_nilp  : ntop (.nilp) = true := rfl
theorem s_ntop_ref (t : Nat) (o : Nat) : ntop (.ref t o) = true := rfl
theorem s_ntop_eref (t : Nat) (g : Nat) (i : Nat) (o : Nat) : ntop (.eref t g i o) = true := rfl
theorem s_ntop_iptr (cs : List AVal) (o : Nat) : ntop (.iptr cs o) = true := rfl
theorem s_ntop_lst (x : Bool) (xs : List AVal) : ntop (.lst x xs) = true := rfl
theorem s_ntop_sl (t : Nat) (g : Nat) (lo : Nat) (n : Nat) : ntop (.sl t g lo n) = true := rfl
theorem s_ntop_agg (cs : List AVal) : ntop (.agg cs) = true := rfl
theorem s_ntop_tup (vs : List AVal) : ntop (.tup vs) = true := rfl
theorem s_ntop_fn (f : Nat) (caps : List AVal) : ntop (.fn f caps) = true := rfl
theorem s_ntop_nilm  : ntop (.nilm) = true := rfl
theorem s_ntop_map (t : Nat) : ntop (.map t) = true := rfl
theorem s_ntop_nili  : ntop (.nili) = true := rfl
theorem s_ntop_iface (t : Nat) (x : AVal) : ntop (.iface t x) = true := rfl
theorem s_ntop_pan (x : AVal) : ntop (.pan x) = true := rfl
theorem s_flat1_top  : flat1 (.top) = false := rfl
theorem s_flat1_any  : flat1 (.any) = false := rfl
theorem s_flat1_int (k : IntKind) (n : Int) : flat1 (.int k n) = true := rfl
theorem s_flat1_bool (b : Bool) : flat1 (.bool b) = true := rfl
theorem s_flat1_str (l : List UInt8) : flat1 (.str l) = true := rfl
theorem s_flat1_nilp  : flat1 (.nilp) = true := rfl
theorem s_flat1_ref (t : Nat) (o : Nat) : flat1 (.ref t o) = false := rfl
theorem s_flat1_eref (t : Nat) (g : Nat) (i : Nat) (o : Nat) : flat1 (.eref t g i o) = false := rfl
theorem s_flat1_iptr (cs : List AVal) (o : Nat) : flat1 (.iptr cs o) = false := rfl
theorem s_flat1_lst (x : Bool) (xs : List AVal) : flat1 (.lst x xs) = false := rfl
theorem s_flat1_sl (t : Nat) (g : Nat) (lo : Nat) (n : Nat) : flat1 (.sl t g lo n) = false := rfl
theorem s_flat1_agg (cs : List AVal) : flat1 (.agg cs) = false := rfl
theorem s_flat1_tup (vs : List AVal) : flat1 (.tup vs) = false := rfl
theorem s_flat1_fn (f : Nat) (caps : List AVal) : flat1 (.fn f caps) = false := rfl
theorem s_flat1_nilm  : flat1 (.nilm) = true := rfl
theorem s_flat1_map (t : Nat) : flat1 (.map t) = false := rfl
theorem s_flat1_nili  : flat1 (.nili) = true := rfl
theorem s_flat1_iface (t : Nat) (x : AVal) : flat1 (.iface t x) = false := rfl
theorem s_flat1_pan (x : AVal) : flat1 (.pan x) = false := rfl
theorem s_flat2_top  : flat2 (.top) = false := rfl
theorem s_flat2_any  : flat2 (.any) = false := rfl
theorem s_flat2_int (k : IntKind) (n : Int) : flat2 (.int k n) = true := rfl
theorem s_flat2_bool (b : Bool) : flat2 (.bool b) = true := rfl
theorem s_flat2_str (l : List UInt8) : flat2 (.str l) = true := rfl
theorem s_flat2_nilp  : flat2 (.nilp) = true := rfl
theorem s_flat2_ref (t : Nat) (o : Nat) : flat2 (.ref t o) = false := rfl
theorem s_flat2_eref (t : Nat) (g : Nat) (i : Nat) (o : Nat) : flat2 (.eref t g i o) = false := rfl
theorem s_flat2_iptr (cs : List AVal) (o : Nat) : flat2 (.iptr cs o) = false := rfl
theorem s_flat2_lst (x : Bool) (xs : List AVal) : flat2 (.lst x xs) = false := rfl
theorem s_flat2_sl (t : Nat) (g : Nat) (lo : Nat) (n : Nat) : flat2 (.sl t g lo n) = false := rfl
theorem s_flat2_agg (cs : List AVal) : flat2 (.agg cs) = cs.all flat1 := rfl
theorem s_flat2_tup (vs : List AVal) : flat2 (.tup vs) = false := rfl
theorem s_flat2_fn (f : Nat) (caps : List AVal) : flat2 (.fn f caps) = false := rfl
theorem s_flat2_nilm  : flat2 (.nilm) = true := rfl
theorem s_flat2_map (t : Nat) : flat2 (.map t) = false := rfl
theorem s_flat2_nili  : flat2 (.nili) = true := rfl
theorem s_flat2_iface (t : Nat) (x : AVal) : flat2 (.iface t x) = false := rfl
theorem s_flat2_pan (x : AVal) : flat2 (.pan x) = false := rfl
theorem s_flatA_top  : flatA (.top) = false := rfl
theorem s_flatA_any  : flatA (.any) = false := rfl
theorem s_flatA_int (k : IntKind) (n : Int) : flatA (.int k n) = true := rfl
theorem s_flatA_bool (b : Bool) : flatA (.bool b) = true := rfl
theorem s_flatA_str (l : List UInt8) : flatA (.str l) = true := rfl
theorem s_flatA_nilp  : flatA (.nilp) = true := rfl
theorem s_flatA_ref (t : Nat) (o : Nat) : flatA (.ref t o) = false := rfl
theorem s_flatA_eref (t : Nat) (g : Nat) (i : Nat) (o : Nat) : flatA (.eref t g i o) = false := rfl
theorem s_flatA_iptr (cs : List AVal) (o : Nat) : flatA (.iptr cs o) = false := rfl
theorem s_flatA_lst (x : Bool) (xs : List AVal) : flatA (.lst x xs) = false := rfl
theorem s_flatA_sl (t : Nat) (g : Nat) (lo : Nat) (n : Nat) : flatA (.sl t g lo n) = false := rfl
theorem s_flatA_agg (cs : List AVal) : flatA (.agg cs) = cs.all flat1 := rfl
theorem s_flatA_tup (vs : List AVal) : flatA (.tup vs) = vs.all flat2 := rfl
theorem s_flatA_fn (f : Nat) (caps : List AVal) : flatA (.fn f caps) = false := rfl
theorem s_flatA_nilm  : flatA (.nilm) = true := rfl
theorem s_flatA_map (t : Nat) : flatA (.map t) = false := rfl
theorem s_flatA_nili  : flatA (.nili) = true := rfl
theorem s_flatA_iface (t : Nat) (x : AVal) : flatA (.iface t x) = false := rfl
theorem s_plain1_top  : plain1 (.top) = false := rfl
theorem s_plain1_any  : plain1 (.any) = false := rfl
theorem s_plain1_int (k : IntKind) (n : Int) : plain1 (.int k n) = true := rfl
theorem s_plain1_bool (b : Bool) : plain1 (.bool b) = true := rfl
theorem s_plain1_str (l : List UInt8) : plain1 (.str l) = true := rfl
theorem s_plain1_nilp  : plain1 (.nilp) = true := rfl
theorem s_plain1_ref (t : Nat) (o : Nat) : plain1 (.ref t o) = false := rfl
theorem s_plain1_eref (t : Nat) (g : Nat) (i : Nat) (o : Nat) : plain1 (.eref t g i o) = false := rfl
theorem s_plain1_iptr (cs : List AVal) (o : Nat) : plain1 (.iptr cs o) = false := rfl
theorem s_plain1_lst (x : Bool) (xs : List AVal) : plain1 (.lst x xs) = true := rfl
theorem s_plain1_sl (t : Nat) (g : Nat) (lo : Nat) (n : Nat) : plain1 (.sl t g lo n) = false := rfl
theorem s_plain1_agg (cs : List AVal) : plain1 (.agg cs) = false := rfl
theorem s_plain1_tup (vs : List AVal) : plain1 (.tup vs) = false := rfl
theorem s_plain1_nilm  : plain1 (.nilm) = true := rfl
theorem s_plain1_map (t : Nat) : plain1 (.map t) = false := rfl
theorem s_plain1_nili  : plain1 (.nili) = true := rfl
theorem s_plain1_iface (t : Nat) (x : AVal) : plain1 (.iface t x) = false := rfl
theorem s_plain1_pan (x : AVal) : plain1 (.pan x) = false := rfl
theorem s_plainV_top  : plainV (.top) = false := rfl
theorem s_plainV_any  : plainV (.any) = false := rfl
theorem s_plainV_int (k : IntKind) (n : Int) : plainV (.int k n) = true := rfl
theorem s_plainV_bool (b : Bool) : plainV (.bool b) = true := rfl
theorem s_plainV_str (l : List UInt8) : plainV (.str l) = true := rfl
theorem s_plainV_nilp  : plainV (.nilp) = true := rfl
theorem s_plainV_ref (t : Nat) (o : Nat) : plainV (.ref t o) = false := rfl
theorem s_plainV_eref (t : Nat) (g : Nat) (i : Nat) (o : Nat) : plainV (.eref t g i o) = false := rfl
theorem s_plainV_iptr (cs : List AVal) (o : Nat) : plainV (.iptr cs o) = false := rfl
theorem s_plainV_lst (x : Bool) (xs : List AVal) : plainV (.lst x xs) = true := rfl
theorem s_plainV_sl (t : Nat) (g : Nat) (lo : Nat) (n : Nat) : plainV (.sl t g lo n) = false := rfl
theorem s_plainV_agg (cs : List AVal) : plainV (.agg cs) = cs.all plain1 := rfl
theorem s_plainV_tup (vs : List AVal) : plainV (.tup vs) = false := rfl
theorem s_plainV_nilm  : plainV (.nilm) = true := rfl
theorem s_plainV_map (t : Nat) : plainV (.map t) = false := rfl
theorem s_plainV_nili  : plainV (.nili) = true := rfl
theorem s_plainV_iface (t : Nat) (x : AVal) : plainV (.iface t x) = false := rfl
theorem s_plainV_pan (x : AVal) : plainV (.pan x) = false := rfl
theorem s_norm1_top  : norm1 (.top) = (.top) := rfl
theorem s_norm1_any  : norm1 (.any) = (.any) := rfl
theorem s_norm1_int (k : IntKind) (n : Int) : norm1 (.int k n) = (.int k n) := rfl
theorem s_norm1_bool (b : Bool) : norm1 (.bool b) = (.bool b) := rfl
theorem s_norm1_str (l : List UInt8) : norm1 (.str l) = (.str l) := rfl
theorem s_norm1_nilp  : norm1 (.nilp) = (.nilp) := rfl
theorem s_norm1_ref (t : Nat) (o : Nat) : norm1 (.ref t o) = (.ref t o) := rfl
theorem s_norm1_eref (t : Nat) (g : Nat) (i : Nat) (o : Nat) : norm1 (.eref t g i o) = (.eref t g i o) := rfl
theorem s_norm1_iptr (cs : List AVal) (o : Nat) : norm1 (.iptr cs o) = (.iptr cs o) := rfl
theorem s_norm1_lst (x : Bool) (xs : List AVal) : norm1 (.lst x xs) = .lst false xs := rfl
theorem s_norm1_sl (t : Nat) (g : Nat) (lo : Nat) (n : Nat) : norm1 (.sl t g lo n) = (.sl t g lo n) := rfl
theorem s_norm1_agg (cs : List AVal) : norm1 (.agg cs) = (.agg cs) := rfl
theorem s_norm1_tup (vs : List AVal) : norm1 (.tup vs) = (.tup vs) := rfl
theorem s_norm1_fn (f : Nat) (caps : List AVal) : norm1 (.fn f caps) = (.fn f caps) := rfl
theorem s_norm1_nilm  : norm1 (.nilm) = (.nilm) := rfl
theorem s_norm1_map (t : Nat) : norm1 (.map t) = (.map t) := rfl
theorem s_norm1_nili  : norm1 (.nili) = (.nili) := rfl
theorem s_norm1_iface (t : Nat) (x : AVal) : norm1 (.iface t x) = (.iface t x) := rfl
theorem s_norm1_pan (x : AVal) : norm1 (.pan x) = (.pan x) := rfl
theorem s_normV_top  : normV (.top) = (.top) := rfl
theorem s_normV_any  : normV (.any) = (.any) := rfl
theorem s_normV_int (k : IntKind) (n : Int) : normV (.int k n) = (.int k n) := rfl
theorem s_normV_bool (b : Bool) : normV (.bool b) = (.bool b) := rfl
theorem s_normV_str (l : List UInt8) : normV (.str l) = (.str l) := rfl
theorem s_normV_nilp  : normV (.nilp) = (.nilp) := rfl
theorem s_normV_ref (t : Nat) (o : Nat) : normV (.ref t o) = (.ref t o) := rfl
theorem s_normV_eref (t : Nat) (g : Nat) (i : Nat) (o : Nat) : normV (.eref t g i o) = (.eref t g i o) := rfl
theorem s_normV_iptr (cs : List AVal) (o : Nat) : normV (.iptr cs o) = (.iptr cs o) := rfl
theorem s_normV_lst (x : Bool) (xs : List AVal) : normV (.lst x xs) = .lst false xs := rfl
theorem s_normV_sl (t : Nat) (g : Nat) (lo : Nat) (n : Nat) : normV (.sl t g lo n) = (.sl t g lo n) := rfl
theorem s_normV_agg (cs : List AVal) : normV (.agg cs) = .agg (cs.map norm1) := rfl
theorem s_normV_tup (vs : List AVal) : normV (.tup vs) = (.tup vs) := rfl
theorem s_normV_fn (f : Nat) (caps : List AVal) : normV (.fn f caps) = (.fn f caps) := rfl
theorem s_normV_nilm  : normV (.nilm) = (.nilm) := rfl
theorem s_normV_map (t : Nat) : normV (.map t) = (.map t) := rfl
theorem s_normV_nili  : normV (.nili) = (.nili) := rfl
theorem s_normV_iface (t : Nat) (x : AVal) : normV (.iface t x) = (.iface t x) := rfl
theorem s_normV_pan (x : AVal) : normV (.pan x) = (.pan x) := rfl
theorem s_cells_top  : AVal.cells (.top) = [(.top)] := rfl
theorem s_cells_any  : AVal.cells (.any) = [(.any)] := rfl
theorem s_cells_int (k : IntKind) (n : Int) : AVal.cells (.int k n) = [(.int k n)] := rfl
theorem s_cells_bool (b : Bool) : AVal.cells (.bool b) = [(.bool b)] := rfl
theorem s_cells_str (l : List UInt8) : AVal.cells (.str l) = [(.str l)] := rfl
theorem s_cells_nilp  : AVal.cells (.nilp) = [(.nilp)] := rfl
theorem s_cells_ref (t : Nat) (o : Nat) : AVal.cells (.ref t o) = [(.ref t o)] := rfl
theorem s_cells_eref (t : Nat) (g : Nat) (i : Nat) (o : Nat) : AVal.cells (.eref t g i o) = [(.eref t g i o)] := rfl
theorem s_cells_iptr (cs : List AVal) (o : Nat) : AVal.cells (.iptr cs o) = [(.iptr cs o)] := rfl
theorem s_cells_lst (x : Bool) (xs : List AVal) : AVal.cells (.lst x xs) = [(.lst x xs)] := rfl
theorem s_cells_sl (t : Nat) (g : Nat) (lo : Nat) (n : Nat) : AVal.cells (.sl t g lo n) = [(.sl t g lo n)] := rfl
theorem s_cells_agg (cs : List AVal) : AVal.cells (.agg cs) = cs := rfl
theorem s_cells_tup (vs : List AVal) : AVal.cells (.tup vs) = [(.tup vs)] := rfl
theorem s_cells_fn (f : Nat) (caps : List AVal) : AVal.cells (.fn f caps) = [(.fn f caps)] := rfl
theorem s_cells_nilm  : AVal.cells (.nilm) = [(.nilm)] := rfl
theorem s_cells_map (t : Nat) : AVal.cells (.map t) = [(.map t)] := rfl
theorem s_cells_nili  : AVal.cells (.nili) = [(.nili)] := rfl
theorem s_cells_iface (t : Nat) (x : AVal) : AVal.cells (.iface t x) = [(.iface t x)] := rfl
theorem s_cells_pan (x : AVal) : AVal.cells (.pan x) = [(.pan x)] := rfl
theorem s_valOf_top  : valOf (.top) = (.top) := rfl
theorem s_valOf_any  : valOf (.any) = (.any) := rfl
theorem s_valOf_int (k : IntKind) (n : Int) : valOf (.int k n) = (.int k n) := rfl
theorem s_valOf_bool (b : Bool) : valOf (.bool b) = (.bool b) := rfl
theorem s_valOf_str (l : List UInt8) : valOf (.str l) = (.str l) := rfl
theorem s_valOf_nilp  : valOf (.nilp) = (.nilp) := rfl
theorem s_valOf_ref (t : Nat) (o : Nat) : valOf (.ref t o) = (.ref t o) := rfl
theorem s_valOf_eref (t : Nat) (g : Nat) (i : Nat) (o : Nat) : valOf (.eref t g i o) = (.eref t g i o) := rfl
theorem s_valOf_iptr (cs : List AVal) (o : Nat) : valOf (.iptr cs o) = (.iptr cs o) := rfl
theorem s_valOf_lst (x : Bool) (xs : List AVal) : valOf (.lst x xs) = (.lst x xs) := rfl
theorem s_valOf_sl (t : Nat) (g : Nat) (lo : Nat) (n : Nat) : valOf (.sl t g lo n) = (.sl t g lo n) := rfl
theorem s_valOf_agg (cs : List AVal) : valOf (.agg cs) = (.agg cs) := rfl
theorem s_valOf_tup (vs : List AVal) : valOf (.tup vs) = (.tup vs) := rfl
theorem s_valOf_fn (f : Nat) (caps : List AVal) : valOf (.fn f caps) = (.fn f caps) := rfl
theorem s_valOf_nilm  : valOf (.nilm) = (.nilm) := rfl
theorem s_valOf_map (t : Nat) : valOf (.map t) = (.map t) := rfl
theorem s_valOf_nili  : valOf (.nili) = (.nili) := rfl
theorem s_valOf_iface (t : Nat) (x : AVal) : valOf (.iface t x) = (.iface t x) := rfl
theorem s_valOf_pan (x : AVal) : valOf (.pan x) = x := rfl
theorem s_kindA_top  : kindA (.top) = 4 := rfl
theorem s_kindA_any  : kindA (.any) = 4 := rfl
theorem s_kindA_int (k : IntKind) (n : Int) : kindA (.int k n) = 0 := rfl
theorem s_kindA_bool (b : Bool) : kindA (.bool b) = 1 := rfl
theorem s_kindA_str (l : List UInt8) : kindA (.str l) = 2 := rfl
theorem s_kindA_nilp  : kindA (.nilp) = 4 := rfl
theorem s_kindA_ref (t : Nat) (o : Nat) : kindA (.ref t o) = 4 := rfl
theorem s_kindA_eref (t : Nat) (g : Nat) (i : Nat) (o : Nat) : kindA (.eref t g i o) = 4 := rfl
theorem s_kindA_iptr (cs : List AVal) (o : Nat) : kindA (.iptr cs o) = 4 := rfl
theorem s_kindA_lst (x : Bool) (xs : List AVal) : kindA (.lst x xs) = 4 := rfl
theorem s_kindA_sl (t : Nat) (g : Nat) (lo : Nat) (n : Nat) : kindA (.sl t g lo n) = 4 := rfl
theorem s_kindA_agg (cs : List AVal) : kindA (.agg cs) = 4 := rfl
theorem s_kindA_tup (vs : List AVal) : kindA (.tup vs) = 4 := rfl
theorem s_kindA_fn (f : Nat) (caps : List AVal) : kindA (.fn f caps) = 4 := rfl
theorem s_kindA_nilm  : kindA (.nilm) = 4 := rfl
theorem s_kindA_map (t : Nat) : kindA (.map t) = 4 := rfl
theorem s_kindA_nili  : kindA (.nili) = 4 := rfl
theorem s_kindA_iface (t : Nat) (x : AVal) : kindA (.iface t x) = 4 := rfl
theorem s_kindA_pan (x : AVal) : kindA (.pan x) = 4 := rfl
theorem s_refsV_top  : refsV (.top) = [] := rfl
theorem s_refsV_any  : refsV (.any) = [] := rfl
theorem s_refsV_int (k : IntKind) (n : Int) : refsV (.int k n) = [] := rfl
theorem s_refsV_bool (b : Bool) : refsV (.bool b) = [] := rfl
theorem s_refsV_str (l : List UInt8) : refsV (.str l) = [] := rfl
theorem s_refsV_nilp  : refsV (.nilp) = [] := rfl
theorem s_refsV_ref (t : Nat) (o : Nat) : refsV (.ref t o) = [t] := rfl
theorem s_refsV_eref (t : Nat) (g : Nat) (i : Nat) (o : Nat) : refsV (.eref t g i o) = [t] := rfl
theorem s_refsV_iptr (cs : List AVal) (o : Nat) : refsV (.iptr cs o) = [] := rfl
theorem s_refsV_lst (x : Bool) (xs : List AVal) : refsV (.lst x xs) = [] := rfl
theorem s_refsV_sl (t : Nat) (g : Nat) (lo : Nat) (n : Nat) : refsV (.sl t g lo n) = [t] := rfl
theorem s_refsV_agg (cs : List AVal) : refsV (.agg cs) = refsL cs := rfl
theorem s_refsV_tup (vs : List AVal) : refsV (.tup vs) = refsL vs := rfl
theorem s_refsV_fn (f : Nat) (caps : List AVal) : refsV (.fn f caps) = refsL caps := rfl
theorem s_refsV_nilm  : refsV (.nilm) = [] := rfl
theorem s_refsV_map (t : Nat) : refsV (.map t) = [t] := rfl
theorem s_refsV_nili  : refsV (.nili) = [] := rfl
theorem s_refsV_iface (t : Nat) (x : AVal) : refsV (.iface t x) = refsV x := rfl
theorem s_refsV_pan (x : AVal) : refsV (.pan x) = refsV x := rfl
theorem s_renV_top  : renV ρ (.top) = (.top) := rfl
theorem s_renV_any  : renV ρ (.any) = (.any) := rfl
theorem s_renV_int (k : IntKind) (n : Int) : renV ρ (.int k n) = (.int k n) := rfl
theorem s_renV_bool (b : Bool) : renV ρ (.bool b) = (.bool b) := rfl
theorem s_renV_str (l : List UInt8) : renV ρ (.str l) = (.str l) := rfl
theorem s_renV_nilp  : renV ρ (.nilp) = (.nilp) := rfl
theorem s_renV_iptr (cs : List AVal) (o : Nat) : renV ρ (.iptr cs o) = (.iptr cs o) := rfl
theorem s_renV_lst (x : Bool) (xs : List AVal) : renV ρ (.lst x xs) = (.lst x xs) := rfl
theorem s_renV_agg (cs : List AVal) : renV ρ (.agg cs) = .agg (renL ρ cs) := rfl
theorem s_renV_tup (vs : List AVal) : renV ρ (.tup vs) = .tup (renL ρ vs) := rfl
theorem s_renV_fn (f : Nat) (caps : List AVal) : renV ρ (.fn f caps) = .fn f (renL ρ caps) := rfl
theorem s_renV_nilm  : renV ρ (.nilm) = (.nilm) := rfl
theorem s_renV_nili  : renV ρ (.nili) = (.nili) := rfl
theorem s_renV_iface (t : Nat) (x : AVal) : renV ρ (.iface t x) = .iface t (renV ρ x) := rfl
theorem s_renV_pan (x : AVal) : renV ρ (.pan x) = .pan (renV ρ x) := rfl
theorem s_plain1_fn (f : Nat) : plain1 (.fn f []) = true := rfl
theorem s_plainV_fn (f : Nat) : plainV (.fn f []) = true := rfl
theorem s_flatA_pan (t : Nat) (x : AVal) : flatA (.pan (.iface t x)) = flat1 x := rfl
theorem s_regN_some (live : List Nat) (tm : Tms) : regN live (some (tm, σ, none)) = some (.normal, keepL live tm, σ) := rfl
theorem s_regN_pan (live : List Nat) (tm : Tms) (x : AVal) : regN live (some (tm, σ, some x)) = some (.panic x, [], σ) := rfl
theorem s_regN_none (live : List Nat) : regN live none = none := rfl
theorem s_renV_ref (t o : Nat) : renV ρ (.ref t o) = (match ρ t 0 with | some (t', 0) => .ref t' o | _ => .any) := rfl
theorem s_renV_map (t : Nat) : renV ρ (.map t) = (match ρ t 0 with | some (t', 0) => .map t' | _ => .any) := rfl
theorem s_renV_sl (t g lo n : Nat) : renV ρ (.sl t g lo n) = (match ρ t g with | some (t', g') => .sl t' g' lo n | none => .any) := rfl
theorem s_renV_eref (t g i o : Nat) : renV ρ (.eref t g i o) = (match ρ t g with | some (t', g') => .eref t' g' i o | none => .any) := rfl
theorem s_refsL_nil : refsL [] = [] := rfl
theorem s_refsL_cons (x : AVal) (xs : List AVal) : refsL (x :: xs) = refsV x ++ refsL xs := rfl
theorem s_renL_nil : renL ρ [] = [] := rfl
theorem s_renL_cons (x : AVal) (xs : List AVal) : renL ρ (x :: xs) = renV ρ x :: renL ρ xs := rfl
end
end Go.Proofs.YtaaflagbhneakaaDoor
namespace Go.Proofs.YtaaflagbhneakaaDoor
set_option linter.unusedSimpArgs false
set_option linter.unusedVariables false
mutual
/-- no block is named -/
def noRef : AVal → Bool
  | .ref _ _ => false
  | .eref _ _ _ _ => false
  | .sl _ _ _ _ => false
  | .map _ => false
  | .agg cs => noRefL cs
  | .tup vs => noRefL vs
  | .fn _ vs => noRefL vs
  | .iface _ x => noRef x
  | .pan x => noRef x
  | .top => true
  | .any => true
  | .int _ _ => true
  | .bool _ => true
  | .str _ => true
  | .nilp => true
  | .nilm => true
  | .nili => true
  | .iptr _ _ => true
  | .lst _ _ => true
def noRefL : List AVal → Bool
  | [] => true
  | x :: xs => noRef x && noRefL xs
end
mutual
theorem noRef_spec (ρ : Rho) : ∀ (x : AVal), noRef x = true → renV ρ x = x ∧ refsV x = []
  | .ref _ _, h => by simp [noRef] at h
  | .eref _ _ _ _, h => by simp [noRef] at h
  | .sl _ _ _ _, h => by simp [noRef] at h
  | .map _, h => by simp [noRef] at h
  | .agg cs, h => by have := noRefL_spec ρ cs (by simpa only [noRef] using h); exact ⟨by simp only [renV, this.1], by simp only [refsV, this.2]⟩
  | .tup cs, h => by have := noRefL_spec ρ cs (by simpa only [noRef] using h); exact ⟨by simp only [renV, this.1], by simp only [refsV, this.2]⟩
  | .fn f cs, h => by have := noRefL_spec ρ cs (by simpa only [noRef] using h); exact ⟨by simp only [renV, this.1], by simp only [refsV, this.2]⟩
  | .iface t x, h => by have := noRef_spec ρ x (by simpa only [noRef] using h); exact ⟨by simp only [renV, this.1], by simp only [refsV, this.2]⟩
  | .pan x, h => by have := noRef_spec ρ x (by simpa only [noRef] using h); exact ⟨by simp only [renV, this.1], by simp only [refsV, this.2]⟩
  | .top, _ => ⟨rfl, rfl⟩
  | .any, _ => ⟨rfl, rfl⟩
  | .int _ _, _ => ⟨rfl, rfl⟩
  | .bool _, _ => ⟨rfl, rfl⟩
  | .str _, _ => ⟨rfl, rfl⟩
  | .nilp, _ => ⟨rfl, rfl⟩
  | .nilm, _ => ⟨rfl, rfl⟩
  | .nili, _ => ⟨rfl, rfl⟩
  | .iptr _ _, _ => ⟨rfl, rfl⟩
  | .lst _ _, _ => ⟨rfl, rfl⟩
theorem noRefL_spec (ρ : Rho) : ∀ (xs : List AVal), noRefL xs = true → renL ρ xs = xs ∧ refsL xs = []
  | [], _ => ⟨rfl, rfl⟩
  | x :: xs, h => by
    simp only [noRefL, Bool.and_eq_true] at h
    have h1 := noRef_spec ρ x h.1
    have h2 := noRefL_spec ρ xs h.2
    exact ⟨by simp only [renL, h1.1, h2.1], by simp only [refsL, h1.2, h2.2, List.append_nil]⟩
end
theorem out_tree {σ : AHeap} {r : AVal} (h : noRef r = true) : outA 0 σ r = some (r, []) := by
  have h1 := noRef_spec (rhoOf σ 0 []) r h
  have hids : gcIds 0 [r] σ = [] := by
    unfold gcIds
    simp only [refsL, h1.2, List.append_nil, List.range_zero, List.flatMap_nil]
    rfl
  unfold outA gcA
  simp only [hids, renL, heapOf, h1.1]
/-- a result as trees -/
def normR : AVal → AVal
  | .tup vs => .tup (vs.map normV)
  | x => normV x
def plainR : AVal → Bool
  | .tup vs => vs.all plainV
  | x => plainV x
def nofn1 : AVal → Bool
  | .fn _ _ => false
  | _ => true
theorem plain1_view {σ : AHeap} {x : AVal} (h : plain1 x = true) (hn : nofn1 x = true) : viewA1 σ x = some (norm1 x, []) := by
  cases x <;> first | (simp [plain1] at h; done) | (simp [nofn1] at hn; done) | rfl
def nofnV : AVal → Bool
  | .agg cs => cs.all nofn1
  | x => nofn1 x
theorem plains_view {σ : AHeap} : ∀ {xs : List AVal}, xs.all plain1 = true → xs.all nofn1 = true → viewsA σ xs = some (xs.map norm1, [])
  | [], _, _ => rfl
  | x :: xs, h, hn => by
    simp only [List.all_cons, Bool.and_eq_true] at h hn
    simp only [viewsA, plain1_view h.1 hn.1, plains_view h.2 hn.2, List.map_cons, List.append_nil]
theorem viewA_one {σ : AHeap} {x : AVal} (h : ∀ cs, x ≠ .agg cs) : viewA σ x = viewA1 σ x ∧ nofnV x = nofn1 x := by
  cases x <;> first | exact ⟨rfl, rfl⟩ | exact absurd rfl (h _)
theorem plainV_view {σ : AHeap} {x : AVal} (h : plainV x = true) (hn : nofnV x = true) : viewA σ x = some (normV x, []) := by
  rcases agg_or x with ⟨cs, rfl⟩ | hne
  · simp only [plainV] at h
    simp only [nofnV] at hn
    simp only [viewA, plains_view h hn, normV]
  · rw [(plainV_one hne).1] at h
    rw [(viewA_one (σ := []) hne).2] at hn
    rw [(viewA_one hne).1, (plainV_one hne).2]
    exact plain1_view h hn
theorem plainVs_view {σ : AHeap} : ∀ {xs : List AVal}, xs.all plainV = true → xs.all nofnV = true → viewAs σ xs = some (xs.map normV, [])
  | [], _, _ => rfl
  | x :: xs, h, hn => by
    simp only [List.all_cons, Bool.and_eq_true] at h hn
    simp only [viewAs, plainV_view h.1 hn.1, plainVs_view h.2 hn.2, List.map_cons, List.append_nil]
def nofnR : AVal → Bool
  | .tup vs => vs.all nofnV
  | x => nofnV x
theorem tup_or (x : AVal) : (∃ vs, x = .tup vs) ∨ ∀ vs, x ≠ .tup vs := by
  cases x <;> first | exact Or.inl ⟨_, rfl⟩ | (right; intro cs; simp)
theorem plainR_view {σ : AHeap} {x : AVal} (h : plainR x = true) (hn : nofnR x = true) : viewR σ x = some (normR x, []) := by
  rcases tup_or x with ⟨vs, rfl⟩ | hne
  · simp only [plainR] at h
    simp only [nofnR] at hn
    simp only [viewR, plainVs_view h hn, normR]
  · have e : plainR x = plainV x ∧ nofnR x = nofnV x ∧ normR x = normV x ∧ viewR σ x = viewA σ x := by
      cases x <;> first | exact ⟨rfl, rfl, rfl, rfl⟩ | exact absurd rfl (hne _)
    rw [e.1] at h; rw [e.2.1] at hn
    rw [e.2.2.1, e.2.2.2]
    exact plainV_view h hn
theorem norm1_noRef {x : AVal} (h : plain1 x = true) : noRef (norm1 x) = true := by
  cases x
  case fn f cs => cases cs <;> simp [plain1] at h; rfl
  all_goals first | (simp [plain1] at h; done) | rfl
theorem norms_noRef : ∀ {xs : List AVal}, xs.all plain1 = true → noRefL (xs.map norm1) = true
  | [], _ => rfl
  | x :: xs, h => by
    simp only [List.all_cons, Bool.and_eq_true] at h
    simp only [List.map_cons, noRefL, norm1_noRef h.1, norms_noRef h.2, Bool.and_self]
theorem normV_noRef {x : AVal} (h : plainV x = true) : noRef (normV x) = true := by
  rcases agg_or x with ⟨cs, rfl⟩ | hne
  · simp only [plainV] at h
    simp only [normV, noRef]; exact norms_noRef h
  · rw [(plainV_one hne).1] at h
    rw [(plainV_one hne).2]; exact norm1_noRef h
theorem normVs_noRef : ∀ {xs : List AVal}, xs.all plainV = true → noRefL (xs.map normV) = true
  | [], _ => rfl
  | x :: xs, h => by
    simp only [List.all_cons, Bool.and_eq_true] at h
    simp only [List.map_cons, noRefL, normV_noRef h.1, normVs_noRef h.2, Bool.and_self]
theorem normR_noRef {x : AVal} (h : plainR x = true) : noRef (normR x) = true := by
  rcases tup_or x with ⟨vs, rfl⟩ | hne
  · simp only [plainR] at h
    simp only [normR, noRef]; exact normVs_noRef h
  · have e : plainR x = plainV x ∧ normR x = normV x := by
      cases x <;> first | exact ⟨rfl, rfl⟩ | exact absurd rfl (hne _)
    rw [e.1] at h; rw [e.2]; exact normV_noRef h
theorem resV_plain {σ : AHeap} {r : AVal} (h : plainR r = true) (hn : nofnR r = true) : resV 0 (some (r, σ)) = some (normR r, []) := by
  have hp : ∀ x, r ≠ .pan x := by rintro x rfl; simp [plainR, plainV, plain1] at h
  have e : resV 0 (some (r, σ)) = (match viewR σ r with
    | some (r', ts) => match gcA 0 [r'] (freezeA σ ts) with
      | ([r''], σ') => some (r'', σ')
      | _ => none
    | none => none) := by
    cases r <;> first | rfl | exact absurd rfl (hp _)
  rw [e, plainR_view h hn]
  exact out_tree (normR_noRef h)
/-- a result that is an own row -/
theorem resV_row {k g n : Nat} {xs : List AVal} {σ : AHeap} {t : Nat} (hs : σ[t]? = some (.row g k xs)) (hn : n ≤ xs.length) : resV 0 (some (.sl t g 0 n, σ)) = some (.lst false (xs.take n), []) := by
  have hv : viewR σ (.sl t g 0 n) = some (.lst false (xs.take n), [t]) := by
    simp only [viewR, viewA, viewA1, elemsA, hs, Nat.zero_add, hn, and_self, if_true, List.drop_zero]
  have e : resV 0 (some (.sl t g 0 n, σ)) = (match viewR σ (.sl t g 0 n) with
    | some (r', ts) => match gcA 0 [r'] (freezeA σ ts) with
      | ([r''], σ') => some (r'', σ')
      | _ => none
    | none => none) := rfl
  rw [e, hv]
  exact out_tree rfl
theorem fin_ret {m : Nat} {fn : AFunc} {tm : Tms} {σ : AHeap} : finA m fn (some (.ret, tm, σ)) = match resA tm σ fn.res with
    | some r => outA m σ r
    | none => none := rfl
theorem fin_normal {m : Nat} {fn : AFunc} {tm : Tms} {σ : AHeap} : finA m fn (some (.normal, tm, σ)) = match resA tm σ fn.res with
    | some r => outA m σ r
    | none => none := rfl
theorem fin_panic {m : Nat} {fn : AFunc} {tm : Tms} {σ : AHeap} {x : AVal} : finA m fn (some (.panic x, tm, σ)) = outA m σ (.pan x) := rfl
theorem s_noRef_top  : noRef (.top) = true := rfl
theorem s_noRef_any  : noRef (.any) = true := rfl
theorem s_noRef_int (k : IntKind) (n : Int) : noRef (.int k n) = true := rfl
theorem s_noRef_bool (b : Bool) : noRef (.bool b) = true := rfl
theorem s_noRef_str (l : List UInt8) : noRef (.str l) = true := rfl
theorem s_noRef_nilp  : noRef (.nilp) = true := rfl
theorem s_noRef_ref (t : Nat) (o : Nat) : noRef (.ref t o) = false := rfl
theorem s_noRef_eref (t : Nat) (g : Nat) (i : Nat) (o : Nat) : noRef (.eref t g i o) = false := rfl
theorem s_noRef_iptr (cs : List AVal) (o : Nat) : noRef (.iptr cs o) = true := rfl
theorem s_noRef_lst (x : Bool) (xs : List AVal) : noRef (.lst x xs) = true := rfl
theorem s_noRef_sl (t : Nat) (g : Nat) (lo : Nat) (n : Nat) : noRef (.sl t g lo n) = false := rfl
theorem s_noRef_agg (cs : List AVal) : noRef (.agg cs) = noRefL cs := rfl
theorem s_noRef_tup (vs : List AVal) : noRef (.tup vs) = noRefL vs := rfl
theorem s_noRef_fn (f : Nat) (caps : List AVal) : noRef (.fn f caps) = noRefL caps := rfl
theorem s_noRef_nilm  : noRef (.nilm) = true := rfl
theorem s_noRef_map (t : Nat) : noRef (.map t) = false := rfl
theorem s_noRef_nili  : noRef (.nili) = true := rfl
theorem s_noRef_iface (t : Nat) (x : AVal) : noRef (.iface t x) = noRef x := rfl
theorem s_noRef_pan (x : AVal) : noRef (.pan x) = noRef x := rfl
theorem s_nofn1_top  : nofn1 (.top) = true := rfl
theorem s_nofn1_any  : nofn1 (.any) = true := rfl
theorem s_nofn1_int (k : IntKind) (n : Int) : nofn1 (.int k n) = true := rfl
theorem s_nofn1_bool (b : Bool) : nofn1 (.bool b) = true := rfl
theorem s_nofn1_str (l : List UInt8) : nofn1 (.str l) = true := rfl
theorem s_nofn1_nilp  : nofn1 (.nilp) = true := rfl
theorem s_nofn1_ref (t : Nat) (o : Nat) : nofn1 (.ref t o) = true := rfl
theorem s_nofn1_eref (t : Nat) (g : Nat) (i : Nat) (o : Nat) : nofn1 (.eref t g i o) = true := rfl
theorem s_nofn1_iptr (cs : List AVal) (o : Nat) : nofn1 (.iptr cs o) = true := rfl
theorem s_nofn1_lst (x : Bool) (xs : List AVal) : nofn1 (.lst x xs) = true := rfl
theorem s_nofn1_sl (t : Nat) (g : Nat) (lo : Nat) (n : Nat) : nofn1 (.sl t g lo n) = true := rfl
theorem s_nofn1_agg (cs : List AVal) : nofn1 (.agg cs) = true := rfl
theorem s_nofn1_tup (vs : List AVal) : nofn1 (.tup vs) = true := rfl
theorem s_nofn1_fn (f : Nat) (caps : List AVal) : nofn1 (.fn f caps) = false := rfl
theorem s_nofn1_nilm  : nofn1 (.nilm) = true := rfl
theorem s_nofn1_map (t : Nat) : nofn1 (.map t) = true := rfl
theorem s_nofn1_nili  : nofn1 (.nili) = true := rfl
theorem s_nofn1_iface (t : Nat) (x : AVal) : nofn1 (.iface t x) = true := rfl
theorem s_nofn1_pan (x : AVal) : nofn1 (.pan x) = true := rfl
theorem s_nofnV_top  : nofnV (.top) = true := rfl
theorem s_nofnV_any  : nofnV (.any) = true := rfl
theorem s_nofnV_int (k : IntKind) (n : Int) : nofnV (.int k n) = true := rfl
theorem s_nofnV_bool (b : Bool) : nofnV (.bool b) = true := rfl
theorem s_nofnV_str (l : List UInt8) : nofnV (.str l) = true := rfl
theorem s_nofnV_nilp  : nofnV (.nilp) = true := rfl
theorem s_nofnV_ref (t : Nat) (o : Nat) : nofnV (.ref t o) = true := rfl
theorem s_nofnV_eref (t : Nat) (g : Nat) (i : Nat) (o : Nat) : nofnV (.eref t g i o) = true := rfl
theorem s_nofnV_iptr (cs : List AVal) (o : Nat) : nofnV (.iptr cs o) = true := rfl
theorem s_nofnV_lst (x : Bool) (xs : List AVal) : nofnV (.lst x xs) = true := rfl
theorem s_nofnV_sl (t : Nat) (g : Nat) (lo : Nat) (n : Nat) : nofnV (.sl t g lo n) = true := rfl
theorem s_nofnV_agg (cs : List AVal) : nofnV (.agg cs) = cs.all nofn1 := rfl
theorem s_nofnV_tup (vs : List AVal) : nofnV (.tup vs) = true := rfl
theorem s_nofnV_fn (f : Nat) (caps : List AVal) : nofnV (.fn f caps) = false := rfl
theorem s_nofnV_nilm  : nofnV (.nilm) = true := rfl
theorem s_nofnV_map (t : Nat) : nofnV (.map t) = true := rfl
theorem s_nofnV_nili  : nofnV (.nili) = true := rfl
theorem s_nofnV_iface (t : Nat) (x : AVal) : nofnV (.iface t x) = true := rfl
theorem s_nofnV_pan (x : AVal) : nofnV (.pan x) = true := rfl
theorem s_nofnR_top  : nofnR (.top) = true := rfl
theorem s_nofnR_any  : nofnR (.any) = true := rfl
theorem s_nofnR_int (k : IntKind) (n : Int) : nofnR (.int k n) = true := rfl
theorem s_nofnR_bool (b : Bool) : nofnR (.bool b) = true := rfl
theorem s_nofnR_str (l : List UInt8) : nofnR (.str l) = true := rfl
theorem s_nofnR_nilp  : nofnR (.nilp) = true := rfl
theorem s_nofnR_ref (t : Nat) (o : Nat) : nofnR (.ref t o) = true := rfl
theorem s_nofnR_eref (t : Nat) (g : Nat) (i : Nat) (o : Nat) : nofnR (.eref t g i o) = true := rfl
theorem s_nofnR_iptr (cs : List AVal) (o : Nat) : nofnR (.iptr cs o) = true := rfl
theorem s_nofnR_lst (x : Bool) (xs : List AVal) : nofnR (.lst x xs) = true := rfl
theorem s_nofnR_sl (t : Nat) (g : Nat) (lo : Nat) (n : Nat) : nofnR (.sl t g lo n) = true := rfl
theorem s_nofnR_agg (cs : List AVal) : nofnR (.agg cs) = cs.all nofn1 := rfl
theorem s_nofnR_tup (vs : List AVal) : nofnR (.tup vs) = vs.all nofnV := rfl
theorem s_nofnR_fn (f : Nat) (caps : List AVal) : nofnR (.fn f caps) = false := rfl
theorem s_nofnR_nilm  : nofnR (.nilm) = true := rfl
theorem s_nofnR_map (t : Nat) : nofnR (.map t) = true := rfl
theorem s_nofnR_nili  : nofnR (.nili) = true := rfl
theorem s_nofnR_iface (t : Nat) (x : AVal) : nofnR (.iface t x) = true := rfl
theorem s_nofnR_pan (x : AVal) : nofnR (.pan x) = true := rfl
theorem s_plainR_top  : plainR (.top) = false := rfl
theorem s_plainR_any  : plainR (.any) = false := rfl
theorem s_plainR_int (k : IntKind) (n : Int) : plainR (.int k n) = true := rfl
theorem s_plainR_bool (b : Bool) : plainR (.bool b) = true := rfl
theorem s_plainR_str (l : List UInt8) : plainR (.str l) = true := rfl
theorem s_plainR_nilp  : plainR (.nilp) = true := rfl
theorem s_plainR_ref (t : Nat) (o : Nat) : plainR (.ref t o) = false := rfl
theorem s_plainR_eref (t : Nat) (g : Nat) (i : Nat) (o : Nat) : plainR (.eref t g i o) = false := rfl
theorem s_plainR_iptr (cs : List AVal) (o : Nat) : plainR (.iptr cs o) = false := rfl
theorem s_plainR_lst (x : Bool) (xs : List AVal) : plainR (.lst x xs) = true := rfl
theorem s_plainR_sl (t : Nat) (g : Nat) (lo : Nat) (n : Nat) : plainR (.sl t g lo n) = false := rfl
theorem s_plainR_agg (cs : List AVal) : plainR (.agg cs) = cs.all plain1 := rfl
theorem s_plainR_tup (vs : List AVal) : plainR (.tup vs) = vs.all plainV := rfl
theorem s_plainR_nilm  : plainR (.nilm) = true := rfl
theorem s_plainR_map (t : Nat) : plainR (.map t) = false := rfl
theorem s_plainR_nili  : plainR (.nili) = true := rfl
theorem s_plainR_iface (t : Nat) (x : AVal) : plainR (.iface t x) = false := rfl
theorem s_plainR_pan (x : AVal) : plainR (.pan x) = false := rfl
theorem s_normR_top  : normR (.top) = (.top) := rfl
theorem s_normR_any  : normR (.any) = (.any) := rfl
theorem s_normR_int (k : IntKind) (n : Int) : normR (.int k n) = (.int k n) := rfl
theorem s_normR_bool (b : Bool) : normR (.bool b) = (.bool b) := rfl
theorem s_normR_str (l : List UInt8) : normR (.str l) = (.str l) := rfl
theorem s_normR_nilp  : normR (.nilp) = (.nilp) := rfl
theorem s_normR_ref (t : Nat) (o : Nat) : normR (.ref t o) = (.ref t o) := rfl
theorem s_normR_eref (t : Nat) (g : Nat) (i : Nat) (o : Nat) : normR (.eref t g i o) = (.eref t g i o) := rfl
theorem s_normR_iptr (cs : List AVal) (o : Nat) : normR (.iptr cs o) = (.iptr cs o) := rfl
theorem s_normR_lst (x : Bool) (xs : List AVal) : normR (.lst x xs) = .lst false xs := rfl
theorem s_normR_sl (t : Nat) (g : Nat) (lo : Nat) (n : Nat) : normR (.sl t g lo n) = (.sl t g lo n) := rfl
theorem s_normR_agg (cs : List AVal) : normR (.agg cs) = .agg (cs.map norm1) := rfl
theorem s_normR_tup (vs : List AVal) : normR (.tup vs) = .tup (vs.map normV) := rfl
theorem s_normR_fn (f : Nat) (caps : List AVal) : normR (.fn f caps) = (.fn f caps) := rfl
theorem s_normR_nilm  : normR (.nilm) = (.nilm) := rfl
theorem s_normR_map (t : Nat) : normR (.map t) = (.map t) := rfl
theorem s_normR_nili  : normR (.nili) = (.nili) := rfl
theorem s_normR_iface (t : Nat) (x : AVal) : normR (.iface t x) = (.iface t x) := rfl
theorem s_normR_pan (x : AVal) : normR (.pan x) = (.pan x) := rfl
theorem s_noRefL_nil : noRefL [] = true := rfl
theorem s_noRefL_cons (x : AVal) (xs : List AVal) : noRefL (x :: xs) = (noRef x && noRefL xs) := rfl
theorem s_plainR_fn (f : Nat) : plainR (.fn f []) = true := rfl
theorem s_if_and (p q : Bool) : (if p = true then q else false) = (p && q) := by cases p <;> rfl
theorem s_if_or (p q : Bool) : (if p = true then true else q) = (p || q) := by cases p <;> rfl
theorem s_if_nand (p q : Bool) : (if p = true then false else q) = (!p && q) := by cases p <;> rfl
theorem s_if_nor (p q : Bool) : (if p = true then q else true) = (!p || q) := by cases p <;> rfl
theorem s_if_fand (p q : Bool) : (if p = false then q else false) = (!p && q) := by cases p <;> rfl
theorem s_if_for (p q : Bool) : (if p = false then true else q) = (!p || q) := by cases p <;> rfl
theorem s_if_fnand (p q : Bool) : (if p = false then false else q) = (p && q) := by cases p <;> rfl
theorem s_if_fnor (p q : Bool) : (if p = false then q else true) = (p || q) := by cases p <;> rfl
section
def stripO (o : AOp) : AOp := ⟨o.dst, o.ins, o.guard, []⟩
def stripC : ACode → ACode
  | .region ops chk live => .region (ops.map stripO) chk live
  | .seq a b => .seq (stripC a) (stripC b)
  | .cond c a b => .cond c (stripC a) (stripC b)
  | .block id c => .block id (stripC c)
  | .loop live c => .loop live (stripC c)
  | .skip => .skip
  | .exit id => .exit id
  | .ret => .ret
  | .stuck => .stuck
def stripF (f : AFunc) : AFunc := ⟨f.res, stripC f.body⟩
section
variable {O : Oracle} {byref : Nat → Bool}
theorem step_strip (o : AOp) (s : Nat) (tm : Tms) (σ : AHeap) : stepA O byref (stripO o) s tm σ = stepA O byref o s tm σ := rfl
theorem ops_strip : ∀ (ops : List AOp) (s : Nat) (tm : Tms) (σ : AHeap), runOps O byref (ops.map stripO) s tm σ = runOps O byref ops s tm σ
  | [], _, _, _ => rfl
  | o :: os, s, tm, σ => by
    simp only [List.map_cons, runOps, step_strip]
    split
    · rfl
    · rfl
    · rename_i tm' σ' c _ _
      rw [show (stripO o).ins = o.ins from rfl, ops_strip os]
theorem sites_strip (ops : List AOp) : sitesOf (ops.map stripO) = sitesOf ops := by
  simp [sitesOf, stripO, Function.comp_def]
theorem getD_strip (ops : List AOp) (i : Nat) : ((ops.map stripO).getD i default).ins = (ops.getD i default).ins := by
  simp only [List.getD_eq_getElem?_getD, List.getElem?_map]
  cases ops[i]? <;> rfl
theorem chk_strip (ops : List AOp) (b : Nat) (l : List (Nat × Nat)) (cs : List Cls) : chkA (ops.map stripO) b l cs = chkA ops b l cs := by
  unfold chkA
  congr 1
  funext p
  unfold pairFree emptyOp
  rw [getD_strip, getD_strip, ← List.map_take, sites_strip]
theorem region_strip (ops : List AOp) (chk : Option (List (Nat × Nat))) (live : List Nat) (tm : Tms) (σ : AHeap) : runRegion O byref (ops.map stripO) chk live tm σ = runRegion O byref ops chk live tm σ := by
  unfold runRegion
  rw [ops_strip, sites_strip]
  cases runOps O byref ops σ.length tm (σ ++ List.replicate (sitesOf ops) .free) with
  | none => rfl
  | some q =>
    obtain ⟨tm', σ', cs, p⟩ := q
    cases p with
    | some x => rfl
    | none =>
      cases chk with
      | none => rfl
      | some l => simp only [regX, chk_strip]
theorem exec_strip (m n : Nat) : ∀ (c : ACode), execC O byref m n (stripC c) = execC O byref m n c
  | .region ops chk live => by funext tm σ; simp only [stripC, execC, region_strip]
  | .seq a b => by funext tm σ; simp only [stripC, execC, exec_strip m n a, exec_strip m n b]
  | .cond c a b => by funext tm σ; simp only [stripC, execC, exec_strip m n a, exec_strip m n b]
  | .block id c => by funext tm σ; simp only [stripC, execC, exec_strip m n c]
  | .loop live c => by funext tm σ; simp only [stripC, execC, exec_strip m n c]
  | .skip => rfl
  | .exit id => rfl
  | .ret => rfl
  | .stuck => rfl
end
theorem callA_strip (fs : Nat → Option AFunc) (prim : Prims) (byref : Nat → Bool) : ∀ n, callA (fun f => (fs f).map stripF) prim byref n = callA fs prim byref n
  | 0 => rfl
  | n + 1 => by
    funext f args σ
    simp only [callA, callA_strip fs prim byref n]
    cases prim f with
    | some g => rfl
    | none =>
      cases fs f with
      | none => rfl
      | some fn =>
        simp only [Option.map_some, stripF, exec_strip]
        rfl
theorem EV_strip (fs : Nat → Option AFunc) (prim : Prims) (byref : Nat → Bool) : EV (fun f => (fs f).map stripF) prim byref = EV fs prim byref := by
  funext f args σ
  apply opt_ext
  intro r
  rw [EV_some, EV_some]
  simp only [callA_strip]
end
end Go.Proofs.YtaaflagbhneakaaDoor
namespace Go.Proofs.YtaaflagbhneakaaDoor
set_option linter.unusedSimpArgs false
set_option linter.unusedVariables false
open Go.RowKit

def clonePrim (k bytes : Nat) (args : List AVal) (σ : AHeap) : Option (AVal × AHeap) := match args with
  | [.str _] => none
  | [a] => match elemsA σ a with
    | some (xs, _) => if xs.length * bytes ≤ 140737488355328 ∧ kOk k xs = true then some (.sl σ.length 0 0 xs.length, σ ++ [.row 0 k xs]) else none
    | none => none
  | _ => none
def cloneAnn : Ann := { nt := 8, lr := fun _ => [7, 6, 5, 4, 3, 2, 0] }
/-- the two pieces of the code around the question whether the slice is nil -/
structure CloneB (P : Program) (t : TypeId) (k bytes : Nat) (z : AVal) (f : FuncId) : Prop where
  ex : ∃ (F : Func) (e : TypeId) (i0 i1 i2 i3 : Nat) (r0 r2 r3 : Array Oper) (m b : Oper),
    P.funcs[f]? = some F ∧ F.results = #[.tmp 2] ∧ F.ntmps = 8 ∧ (F.name == "runtime.NumGoroutine") = false ∧ P.underlying t = some (.slice e) ∧
    F.body = some (.seq (.region i0 r0 false) (.seq (.seq (.region i1 #[m, b] false) (.cond (.tmp 4) (.seq (.region i2 r2 false) .ret) .skip)) (.seq (.region i3 r3 false) .ret))) ∧
    m.op = .move (.tmp 0) ∧ m.dst = some 3 ∧ m.guard = none ∧ b.op = .binOp .eql t (.tmp 3) (.const (.slice none 0 0)) t ∧ b.dst = some 4 ∧ b.guard = none ∧
    compOps P cloneAnn r0 r0.toList = some [⟨some 2, .mov (.c (.lst true [])), none, []⟩] ∧
    compOps P cloneAnn r2 r2.toList = some [⟨some 2, .mov (.c (.lst true [])), none, []⟩] ∧
    (∃ a1 a2 a3 a4, compOps P cloneAnn r3 r3.toList = some [⟨some 5, .bslice false k 0 z [], none, a1⟩, ⟨some 6, .mov (.t 0), none, a2⟩, ⟨some 7, .app k bytes z (.t 5) (.t 6), none, a3⟩, ⟨some 2, .mov (.t 7), none, a4⟩]) ∧ z.cells.length = k ∧ 0 < k

section
variable {P : Program} {base : Nat → Prop} {w0 w w' : World} {I0 I : Imm} {β : Bmap} {σ : AHeap}
theorem noO : OrOk P (fun _ _ _ => none) := by intro f args σ r σ' h; cases h
theorem wpList_one {ops : Array Oper} {Q : Exit → Act → World → Prop} {o : Oper} {l : List Oper} {a : Act} {w : World} (hg : o.guard = none) (h : o.wp P a w (wpList P ops Q l) Q) : wpList P ops Q (o :: l) a w := by
  unfold wpList
  have : Region.wanted o (yielded ops a.tmps) = true := by unfold Region.wanted; rw [hg]
  rw [this]
  simp only [if_true]
  exact Or.inl h
theorem clone_ok {t : TypeId} {k bytes : Nat} {z : AVal} {f : FuncId} (hm : P.follows .mixedOrders = true) (C : CloneB P t k bytes z f) {args : List AVal} {σ σ' : AHeap} {r : AVal} (h : clonePrim k bytes args σ = some (r, σ')) :
    (∃ fn, P.funcs[f]? = some fn ∧ fn.body.isSome = true ∧ (fn.name == "runtime.NumGoroutine") = false) ∧
    ∀ base w0 I0 I β w (vs : Array Value), KLt base w0 → Rel base w0 I0 I β σ w → VRs I β args vs.toList →
      Calls P f vs w (fun e w' => ∃ u, Ends r e u ∧ PostF σ.length base w0 I0 I β r σ' u w') := by
  obtain ⟨F, e, i0, i1, i2, i3, r0, r2, r3, m, b, hF, hres, hnt, hname, hu, hbody, hm1, hm2, hm3, hb1, hb2, hb3, hc0, hc2, ⟨a1, a2, a3, a4, hc3⟩, hzk, hk0⟩ := C.ex
  refine ⟨⟨F, hF, by rw [hbody]; rfl, hname⟩, ?_⟩
  intro base w0 I0 I β w vs hb R hargs
  unfold clonePrim at h
  split at h
  case h_1 => cases h
  case h_3 => cases h
  rename_i a hns
  split at h
  case h_2 => cases h
  rename_i xs ts hel0
  split at h
  case isFalse => cases h
  rename_i hc
  obtain ⟨hbytes, hkOk⟩ := hc
  simp only [Option.some.injEq, Prod.mk.injEq] at h
  obtain ⟨rfl, rfl⟩ := h
  have hnt8 : ∀ (n : Nat), n < 8 → n < cloneAnn.nt := fun n h => h
  refine calls_of_wp hF hbody ?_
  have hsz : vs.size = 1 := by have := VRs_length hargs; simpa using this.symm
  have T := enter_TR hargs (F.ntmps - vs.size)
  have hst : StR 8 base w0 I0 I β (enterA 0 [a] []) σ { tmps := vs ++ Array.replicate (F.ntmps - vs.size) undef, defers := [] } w := ⟨I, β, Imm.le.refl I, Bmap.le.refl β, T, ⟨rfl, by simp; omega⟩, R⟩
  -- what is behind the end
  have fin : ∀ {tm : Tms} {σ1 : AHeap} {y : AVal} {a' : Act} {w1 : World}, StR 8 base w0 I0 I β tm σ1 a' w1 → tget tm 2 = y → (∀ I' β' u, I.le I' → β.le β' → Rel base w0 I0 I' β' σ1 w1 → VR I' β' y u → PostF σ.length base w0 I0 I β (.sl σ.length 0 0 xs.length) (σ ++ [.row 0 k xs]) u w1) →
      a'.defers = [] ∧ ∃ v, (results F a'.tmps).run P w1 = .ok v w1 ∧ ∃ u, Ends (.sl σ.length 0 0 xs.length) (.returned v) u ∧ PostF σ.length base w0 I0 I β (.sl σ.length 0 0 xs.length) (σ ++ [.row 0 k xs]) u w1 := by
    rintro tm σ1 y a' w1 ⟨I', β', h1, h2, h3, h4, h5⟩ hy hpost
    refine ⟨h4.1, a'.tmps.getD 2 undef, by simp [results, hres], _, rfl, ?_⟩
    have := h3 2
    rw [hy] at this
    exact hpost I' β' _ h1 h2 h5 this
  have R0 : compC P cloneAnn (.region i0 r0 false) = .region [⟨some 2, .mov (.c (.lst true [])), none, []⟩] none [7, 6, 5, 4, 3, 2, 0] := by simp only [compC]; rw [hc0]; rfl
  have R2 : compC P cloneAnn (.region i2 r2 false) = .region [⟨some 2, .mov (.c (.lst true [])), none, []⟩] none [7, 6, 5, 4, 3, 2, 0] := by simp only [compC]; rw [hc2]; rfl
  have R3 : compC P cloneAnn (.region i3 r3 false) = .region [⟨some 5, .bslice false k 0 z [], none, a1⟩, ⟨some 6, .mov (.t 0), none, a2⟩, ⟨some 7, .app k bytes z (.t 5) (.t 6), none, a3⟩, ⟨some 2, .mov (.t 7), none, a4⟩] none [7, 6, 5, 4, 3, 2, 0] := by simp only [compC]; rw [hc3]; rfl
  refine wp_seq ?_
  refine region_sound (an := cloneAnn) (byref := fun _ => false) noO hm hb R0 hst (e := .normal) (tm' := keepL [7, 6, 5, 4, 3, 2, 0] [(2, .lst true []), (0, a)]) (σ' := σ) ?_ ?_
  · simp [runRegion, regX, sitesOf, nsite, runOps, stepA, wantedA, execI, Opd.ev, tput, tins, enterA]
  intro a1' w1 hst1
  simp only [Exit.then]
  refine wp_seq (wp_seq ?_)
  refine wp_region_list ?_
  refine wpList_one hm3 ?_
  obtain ⟨I1, β1, g1, g2, g3, g4, g5⟩ := hst1
  have hs8 : 8 ≤ a1'.tmps.size := g4.2
  have hT0 : VR I1 β1 a (a1'.tmps.getD 0 undef) := by have := g3 0; simpa [keepL, tget] using this
  obtain ⟨A, cap, hv0, q1, q2, q5, q4⟩ := elems_reads g5 (fun l e => hns l e) hel0 hT0
  show m.wp P a1' w1 _ _
  unfold Oper.wp
  have e1 : (execOp a1'.eval m).run P w1 = .ok (.value (.slice A xs.length cap)) w1 := by
    unfold execOp; rw [hm1]; simp [Act.eval, hv0]
  rw [e1, Oper.upon_value, hm2]
  refine wpList_one hb3 ?_
  unfold Oper.wp
  have hs3 : (a1'.put (some 3) (.slice A xs.length cap)).tmps.getD 3 undef = .slice A xs.length cap := by
    have : 3 < a1'.tmps.size := by omega
    simp [Act.put, Array.getD, this]
  have e2 : (execOp (a1'.put (some 3) (.slice A xs.length cap)).eval b).run P w1 = .ok (.value (.bool A.isNone)) w1 := by
    have hq : (Op.equal t (.slice A xs.length cap) (.slice none 0 0)).run P w1 = .ok A.isNone w1 := run_equal_slice_nil w1 t e A xs.length cap hu
    unfold execOp; rw [hb1]
    simp only [Act.eval]
    rw [hs3]
    simp [eqGuard, binOp, hq]
  rw [e2, Oper.upon_value, hb2]
  refine wpList_nil ?_
  -- the state behind the question
  have hst2 : StR 8 base w0 I0 I β [(4, .bool A.isNone), (2, .lst true []), (0, a)] σ ((a1'.put (some 3) (.slice A xs.length cap)).put (some 4) (.bool A.isNone)) w1 := by
    refine ⟨I1, β1, g1, g2, fun n => ?_, ⟨by rw [put_defers, put_defers]; exact g4.1, by rw [put_size, put_size]; exact g4.2⟩, g5⟩
    have hs : 4 < (a1'.put (some 3) (.slice A xs.length cap)).tmps.size := by rw [put_size]; omega
    have ne : ∀ {a : Act} {d j : Nat} {u : Value}, d ≠ j → (a.put (some d) u).tmps.getD j undef = a.tmps.getD j undef := by
      intro a d j u hne
      simp only [Act.put, Array.getD_eq_getD_getElem?]; rw [Array.getElem?_setIfInBounds_ne hne]
    simp only [tget]
    split
    · rename_i e; subst e
      rw [show ((a1'.put (some 3) (.slice A xs.length cap)).put (some 4) (.bool A.isNone)).tmps.getD 4 undef = .bool A.isNone by
        simp only [Act.put] at hs ⊢
        simp [Array.getD] at hs ⊢
        omega]
      simp only [VR]
    · split
      · rename_i e; subst e
        rw [ne (by omega), ne (by omega)]
        have := g3 2; simpa [keepL, tget] using this
      · split
        · rename_i e; subst e
          rw [ne (by omega), ne (by omega)]
          have := g3 0; simpa [keepL, tget] using this
        · simp only [VR]
  simp only [Exit.then]
  have up : ∀ {tm : Tms} {σ1 : AHeap} {a' : Act} {w' : World}, StF σ.length 8 base w0 I0 I β tm σ1 a' w' → True := fun _ => trivial
  cases hA : A.isNone with
  | true =>
    have hx0 : xs = [] := by
      rcases q4 with h | ⟨b, off, k', us, e, _⟩
      · exact h
      · rw [e] at hA; cases hA
    subst hx0
    have hev : ((a1'.put (some 3) (.slice A 0 cap)).put (some 4) (.bool A.isNone)).eval (.tmp 4) = .bool true := by
      obtain ⟨_, _, _, _, T, _, _⟩ := hst2
      have := T 4
      simp only [tget, if_true, VR] at this
      rw [hA] at this
      simpa [Act.eval, hA] using this
    refine wp_cond_true (by simpa [hA] using hev) ?_
    refine wp_seq ?_
    rw [hA] at hst2
    refine region_sound (an := cloneAnn) (byref := fun _ => false) noO hm hb R2 hst2 (e := .normal) (tm' := keepL [7, 6, 5, 4, 3, 2, 0] [(4, .bool true), (2, .lst true []), (0, a)]) (σ' := σ) ?_ ?_
    · simp [runRegion, regX, sitesOf, nsite, runOps, stepA, wantedA, execI, Opd.ev, tput, tins]
    intro a3' w3 hst3
    simp only [Exit.then]
    refine wp_ret ?_
    refine fin hst3 (y := .lst true []) (by simp [keepL, tget]) ?_
    intro I' β' u h1 h2 h3 h4
    simp only [VR] at h4
    obtain ⟨A', cap', rfl, _, _, hx, _⟩ := h4
    have hcap : cap' = 0 := by simpa using hx
    subst hcap
    have R4 := h3.reserve 1
    have hfree : (σ ++ List.replicate 1 ABlk.free)[σ.length]? = some .free := by simp
    obtain ⟨R5, hle⟩ := R4.newNone hfree k hk0
    refine ⟨I', _, h1, KeptE.of_le (h2.trans hle), ?_, ?_⟩
    · have : (σ ++ List.replicate 1 ABlk.free).set σ.length (.row 0 k []) = σ ++ [.row 0 k []] := by simp
      rw [this] at R5; exact R5
    · simp only [valOf]
      rw [VR_sl0]
      exact ⟨_, Bmap.put_same β' σ.length 0 _, by simp, by simp, Or.inr ⟨rfl, rfl, A', rfl⟩⟩
  | false =>
    have hev : ((a1'.put (some 3) (.slice A xs.length cap)).put (some 4) (.bool A.isNone)).eval (.tmp 4) = .bool false := by
      obtain ⟨_, _, _, _, T, _, _⟩ := hst2
      have := T 4
      simp only [tget, if_true, VR] at this
      rw [hA] at this
      simpa [Act.eval, hA] using this
    refine wp_cond_false (by simpa [hA] using hev) ?_
    refine wp_skip ?_
    rw [hA] at hst2
    simp only [Exit.then]
    refine wp_seq ?_
    have hel : elemsA (σ ++ [ABlk.free]) a = some (xs, ts) := elems_agree hel0 (fun t ht => by
      obtain ⟨g, k, ys, h | h⟩ := elems_rowy hel0 t ht <;> (rw [List.getElem?_append_left (List.getElem?_eq_some_iff.1 h).1]))
    refine region_sound (an := cloneAnn) (byref := fun _ => false) noO hm hb R3 hst2 (e := .normal) (tm' := keepL [7, 6, 5, 4, 3, 2, 0] [(7, .sl σ.length 0 0 xs.length), (6, a), (5, .lst true []), (4, .bool false), (2, .sl σ.length 0 0 xs.length), (0, a)]) (σ' := σ ++ [.row 0 k xs]) ?_ ?_
    · have hfa : freeAt (σ ++ [ABlk.free]) σ.length = true := by simp [freeAt]
      have hnp : (∃ x ys, a = .lst x ys) ∨ ∃ t g lo n, a = .sl t g lo n := by
        cases a with
        | lst x ys => exact Or.inl ⟨x, ys, rfl⟩
        | sl t g lo n => exact Or.inr ⟨t, g, lo, n, rfl⟩
        | str l => exact absurd rfl (hns l)
        | _ => simp [elemsA] at hel0
      rcases hnp with ⟨x, ys, rfl⟩ | ⟨t', g', lo, n, rfl⟩
      · simp [runRegion, regX, sitesOf, nsite, runOps, stepA, wantedA, execI, Opd.ev, tput, tins, tget, viewAs, freezeA, hzk, appA, hel, hkOk, hbytes, hfa]
      · simp [runRegion, regX, sitesOf, nsite, runOps, stepA, wantedA, execI, Opd.ev, tput, tins, tget, viewAs, freezeA, hzk, appA, hel, hkOk, hbytes, hfa]
    intro a3' w3 hst3
    simp only [Exit.then]
    refine wp_ret ?_
    refine fin hst3 (y := .sl σ.length 0 0 xs.length) (by simp [keepL, tget]) ?_
    intro I' β' u h1 h2 h3 h4
    exact ⟨I', β', h1, KeptE.of_le h2, h3, h4⟩
end
end Go.Proofs.YtaaflagbhneakaaDoor
namespace Go.Proofs.YtaaflagbhneakaaDoor
set_option linter.unusedSimpArgs false
set_option linter.unusedVariables false
open Go.RowKit
def validPrim (args : List AVal) (σ : AHeap) : Option (AVal × AHeap) := match args with
  | [.str l] => some (.bool (Lib.validD l), σ)
  | _ => none
def indexBytePrim (args : List AVal) (σ : AHeap) : Option (AVal × AHeap) := match args with
  | [.str l, .int .u8 c] => some (.int .i64 (Lib.indexByte l c.toNat.toUInt8), σ)
  | _ => none
def countPrim (args : List AVal) (σ : AHeap) : Option (AVal × AHeap) := match args with
  | [.str l, .str [c]] => some (.int .i64 (Lib.countByte l c), σ)
  | _ => none
section
variable {P : Program} {base : Nat → Prop} {w0 w w' : World} {I0 I : Imm} {β : Bmap} {σ : AHeap}
/-- a function that tells something of what it is given, and changes nothing that was there -/
theorem prim_pure {f : Nat} (hf : ∃ fn, P.funcs[f]? = some fn ∧ fn.body.isSome = true ∧ (fn.name == "runtime.NumGoroutine") = false) {args : List AVal} {r : AVal} {u : Value} (hn : ∀ x, r ≠ .pan x) (hr : ∀ I β, VR I β r u)
    (h : ∀ base w0 I0 I β w (vs : Array Value), Rel base w0 I0 I β σ w → VRs I β args vs.toList → Calls P f vs w (fun e w' => e = .returned u ∧ Below w.heap.size w w')) :
    (∃ fn, P.funcs[f]? = some fn ∧ fn.body.isSome = true ∧ (fn.name == "runtime.NumGoroutine") = false) ∧
    ∀ base w0 I0 I β w (vs : Array Value), KLt base w0 → Rel base w0 I0 I β σ w → VRs I β args vs.toList →
      Calls P f vs w (fun e w' => ∃ u, Ends r e u ∧ PostF σ.length base w0 I0 I β r σ u w') := by
  refine ⟨hf, fun base w0 I0 I β w vs hb R hv => (h base w0 I0 I β w vs R hv).mono ?_⟩
  rintro e w' ⟨rfl, hB⟩
  have hbw := R.base_le hb
  refine ⟨u, ?_, I, β, Imm.le.refl I, KeptE.refl _ β, R.stay (Imm.le.refl I) ⟨hB.os, hB.tape, hB.output, hB.size, fun k hk => hB.block k (hbw k hk)⟩ (fun _ _ _ => rfl) ?_ ?_, by rw [valOf_npan hn]; exact hr I β⟩
  · cases r <;> first | rfl | exact absurd rfl (hn _)
  · intro b o x hx
    have h1 := R.imm b o x hx
    have hlt := cell_lt h1
    rw [← h1]
    simp only [World.cell?, hB.block b hlt]
  · intro t x b hx hb'
    exact ⟨hB.block b ((R.blk t x hx).owns_lt hb'), (R.own t x b hx hb').2⟩
theorem below_same (w : World) : Below w.heap.size w w := Below.refl _ _
theorem str_arr {l : List UInt8} : (ByteArray.mk l.toArray).data.toList = l := by simp
theorem indexByte_ok {f : Nat} (hf : ∃ fn, P.funcs[f]? = some fn ∧ fn.body.isSome = true ∧ (fn.name == "runtime.NumGoroutine") = false)
    (hc : ∀ (s : ByteArray) (c : Int) (w : World), Calls P f #[.string s, .int .u8 c] w fun e w' => e = .returned (.int .i64 (Lib.indexByte s.data.toList c.toNat.toUInt8)) ∧ w' = w) {args : List AVal} {σ σ' : AHeap} {r : AVal} (h : indexBytePrim args σ = some (r, σ')) :
    (∃ fn, P.funcs[f]? = some fn ∧ fn.body.isSome = true ∧ (fn.name == "runtime.NumGoroutine") = false) ∧
    ∀ base w0 I0 I β w (vs : Array Value), KLt base w0 → Rel base w0 I0 I β σ w → VRs I β args vs.toList →
      Calls P f vs w (fun e w' => ∃ u, Ends r e u ∧ PostF σ.length base w0 I0 I β r σ' u w') := by
  unfold indexBytePrim at h
  split at h
  case h_2 => cases h
  rename_i l c
  simp only [Option.some.injEq, Prod.mk.injEq] at h
  obtain ⟨rfl, rfl⟩ := h
  refine prim_pure hf (u := .int .i64 (Lib.indexByte l c.toNat.toUInt8)) (by simp) (fun _ _ => by simp only [VR]) ?_
  intro base w0 I0 I β w vs R hv
  obtain ⟨vs⟩ := vs
  simp only [VRs, VR] at hv
  obtain ⟨v1, r1, e1, ⟨rfl, _⟩, v2, r2, rfl, rfl, rfl⟩ := hv
  subst e1
  refine (hc ⟨l.toArray⟩ c w).mono ?_
  rintro e w' ⟨rfl, rfl⟩
  exact ⟨by simp, Below.refl _ _⟩
theorem count_ok {f : Nat} (hf : ∃ fn, P.funcs[f]? = some fn ∧ fn.body.isSome = true ∧ (fn.name == "runtime.NumGoroutine") = false)
    (hc : ∀ (s : ByteArray) (c : UInt8) (w : World), Calls P f #[.string s, .string ⟨#[c]⟩] w fun e w' => e = .returned (.int .i64 (Lib.countByte s.data.toList c)) ∧ w' = w) {args : List AVal} {σ σ' : AHeap} {r : AVal} (h : countPrim args σ = some (r, σ')) :
    (∃ fn, P.funcs[f]? = some fn ∧ fn.body.isSome = true ∧ (fn.name == "runtime.NumGoroutine") = false) ∧
    ∀ base w0 I0 I β w (vs : Array Value), KLt base w0 → Rel base w0 I0 I β σ w → VRs I β args vs.toList →
      Calls P f vs w (fun e w' => ∃ u, Ends r e u ∧ PostF σ.length base w0 I0 I β r σ' u w') := by
  unfold countPrim at h
  split at h
  case h_2 => cases h
  rename_i l c
  simp only [Option.some.injEq, Prod.mk.injEq] at h
  obtain ⟨rfl, rfl⟩ := h
  refine prim_pure hf (u := .int .i64 (Lib.countByte l c)) (by simp) (fun _ _ => by simp only [VR]) ?_
  intro base w0 I0 I β w vs R hv
  obtain ⟨vs⟩ := vs
  simp only [VRs, VR] at hv
  obtain ⟨v1, r1, e1, ⟨rfl, _⟩, v2, r2, rfl, ⟨rfl, _⟩, rfl⟩ := hv
  subst e1
  refine (hc ⟨l.toArray⟩ c w).mono ?_
  rintro e w' ⟨rfl, rfl⟩
  exact ⟨by simp, Below.refl _ _⟩
theorem tabs_of (R : Rel base w0 I0 I β σ w) : Lib.Utf8Tabs 0 1 w := by
  refine ⟨fun c hc => R.imm _ _ _ (R.glob _ _ _ (by simp [Gl, hc])), fun i hi => ⟨R.imm _ _ _ (R.glob _ _ _ ?_), R.imm _ _ _ (R.glob _ _ _ ?_)⟩⟩
  · have h1 : 2 * i < 32 := by omega
    have h2 : 2 * i % 2 = 0 := by omega
    have h3 : 2 * i / 2 = i := by omega
    simp [Gl, h1, h3]
  · have h1 : 2 * i + 1 < 32 := by omega
    have h2 : (2 * i + 1) % 2 = 1 := by omega
    have h3 : (2 * i + 1) / 2 = i := by omega
    simp [Gl, h1, h2, h3]
theorem valid_ok {f : Nat} (hf : ∃ fn, P.funcs[f]? = some fn ∧ fn.body.isSome = true ∧ (fn.name == "runtime.NumGoroutine") = false)
    (hc : ∀ (s : ByteArray) (w : World), s.size ≤ 9223372036854775807 → Lib.Utf8Tabs 0 1 w → Calls P f #[.string s] w fun e w' => e = .returned (.bool (Lib.validD s.data.toList)) ∧ Below w.heap.size w w') {args : List AVal} {σ σ' : AHeap} {r : AVal} (h : validPrim args σ = some (r, σ')) :
    (∃ fn, P.funcs[f]? = some fn ∧ fn.body.isSome = true ∧ (fn.name == "runtime.NumGoroutine") = false) ∧
    ∀ base w0 I0 I β w (vs : Array Value), KLt base w0 → Rel base w0 I0 I β σ w → VRs I β args vs.toList →
      Calls P f vs w (fun e w' => ∃ u, Ends r e u ∧ PostF σ.length base w0 I0 I β r σ' u w') := by
  unfold validPrim at h
  split at h
  case h_2 => cases h
  rename_i l
  simp only [Option.some.injEq, Prod.mk.injEq] at h
  obtain ⟨rfl, rfl⟩ := h
  refine prim_pure hf (u := .bool (Lib.validD l)) (by simp) (fun _ _ => by simp only [VR]) ?_
  intro base w0 I0 I β w vs R hv
  obtain ⟨vs⟩ := vs
  simp only [VRs, VR] at hv
  obtain ⟨v1, r1, e1, ⟨rfl, hl⟩, rfl⟩ := hv
  subst e1
  refine (hc ⟨l.toArray⟩ w (by simpa [ByteArray.size] using hl) (tabs_of R)).mono ?_
  rintro e w' ⟨rfl, hB⟩
  exact ⟨by simp, hB⟩
end
end Go.Proofs.YtaaflagbhneakaaDoor
namespace Go.Proofs.YtaaflagbhneakaaDoor
set_option linter.unusedSimpArgs false
set_option linter.unusedVariables false
def lookT {α : Type} (d : α) : List (Nat × α) → Nat → α
  | [], _ => d
  | (k, v) :: r, n => if k = n then v else lookT d r n
def mkAnn (own raw : List Nat) (cfg cfg2 : List (Nat × Nat × Bool)) (lr ll : List (Nat × List Nat)) : Ann := { own := fun n => if own.contains n then 1 else if raw.contains n then 2 else 0, cfg := lookT (0, true) cfg, cfg2 := lookT (0, true) cfg2, lr := lookT [] lr, ll := lookT [] ll }
def annT : List (Nat × Ann) := [
  (59, mkAnn [] [] [] [] [(0, [1, 0]), (1, [4])] []),
  (46, mkAnn [] [] [] [] [(0, [1, 0]), (1, [4])] []),
  (9, mkAnn [] [] [(21, 1, false)] [] [(0, [8, 5, 4, 3, 2]), (1, [10, 8, 5, 3, 2]), (2, [22, 10, 8, 5, 3, 2]), (3, [9, 8]), (4, [11, 8, 5, 3, 2]), (5, [13, 11, 8, 5, 3, 2]), (6, [44, 13, 11, 8, 5, 3, 2]), (7, [13, 11, 8, 5, 3]), (8, [15, 14, 13, 11, 8, 5, 3]), (9, [53, 14, 13, 11, 8, 5, 3]), (10, [13, 8, 5, 3]), (11, [60, 13, 8, 5, 3]), (12, [13, 8, 5, 3]), (13, [13, 8, 5, 3]), (14, [13, 8, 5, 3]), (15, [13, 8, 5, 3]), (16, [13, 8, 5, 3]), (17, [79, 13, 8, 5, 3]), (18, [16, 13, 8, 3]), (19, [17, 16, 13, 8, 3]), (20, [17, 16, 13, 8, 3]), (21, [16, 13, 8]), (22, [16, 13, 8]), (23, [13, 8]), (24, [9, 8])] []),
  (22, mkAnn [] [] [] [] [(0, [1]), (1, [2])] []),
  (13, mkAnn [] [] [] [] [(0, [0]), (1, [8, 7, 6, 0]), (2, [9, 8, 7, 6, 0]), (3, [8, 7, 6, 4, 0]), (4, [27, 8, 7, 6, 0]), (5, [2]), (6, [8, 7, 6, 0]), (7, [2])] [(2, [8, 7, 6, 0])]),
  (19, mkAnn [] [] [] [] [(0, [2, 1, 0]), (1, [8, 7, 2]), (2, [15, 7, 2]), (3, [6]), (4, [6])] []),
  (17, mkAnn [] [] [] [] [(0, [3, 2]), (1, [6, 5, 3, 2]), (2, [8, 7, 6, 5, 3, 2]), (3, [10, 8, 6, 5, 3, 2]), (4, [31, 10, 8, 6, 5, 3, 2]), (5, [31, 10, 8, 6, 5, 3, 2]), (6, [4]), (7, [49, 10, 8, 6, 5, 3, 2]), (8, [4]), (9, [59, 10, 6, 5, 3, 2]), (10, [4]), (11, [65, 10, 5, 3, 2]), (12, [4]), (13, [71, 10]), (14, [4]), (15, [75]), (16, [4]), (17, [4])] []),
  (23, mkAnn [] [] [(38, 1, false)] [] [(0, [8, 4, 3, 2, 1]), (1, [9, 8, 4, 3]), (2, [11, 10, 9, 8, 3]), (3, [31, 10, 9, 8, 3]), (4, [9, 8]), (5, [8])] []),
  (39, mkAnn [] [] [] [] [(0, [0]), (1, [2])] []),
  (51, mkAnn [] [] [] [] [(0, [0]), (1, [6, 0]), (2, [8, 7, 6, 0]), (3, [6, 4, 0]), (4, [11, 6, 0]), (5, [2]), (6, [2])] [(2, [6, 0])]),
  (35, mkAnn [] [] [] [] [(0, [3, 2]), (1, [7, 3, 2]), (2, [6, 5, 3]), (3, [27]), (4, [4]), (5, [4]), (6, [28, 2]), (7, [4]), (8, [31]), (9, [4]), (10, [4])] []),
  (33, mkAnn [] [] [] [] [(0, [2, 1]), (1, [11, 10, 9, 1]), (2, [12, 11, 10, 9, 1]), (3, [11, 10, 9, 7, 1]), (4, [18, 11, 10, 9, 7, 1]), (5, [5, 4]), (6, [11, 10, 9, 1]), (7, [5, 4])] [(2, [11, 10, 9, 1])]),
  (18, mkAnn [] [] [] [] [(0, [4, 1, 0]), (1, [10, 9, 8, 4, 0]), (2, [11, 10, 9, 8, 4, 0]), (3, [10, 9, 8, 7, 4, 0]), (4, [17, 10, 9, 8, 7, 4, 0]), (5, [5, 4]), (6, [10, 9, 8, 4, 0]), (7, [5, 4])] [(2, [10, 9, 8, 4, 0])]),
  (47, mkAnn [] [] [] [] [(0, [1, 0]), (1, [5, 1, 0]), (2, [10, 9, 8, 5, 1]), (3, [11, 10, 9, 8, 5, 1]), (4, [10, 9, 8, 7, 5, 1]), (5, [17, 10, 9, 8, 7, 5, 1]), (6, [10, 9, 8, 5, 1]), (7, [10, 9, 8, 5, 1]), (8, [4])] [(3, [10, 9, 8, 5, 1])]),
  (36, mkAnn [] [] [] [] [(0, [2, 1]), (1, [2, 1]), (2, [2])] []),
  (53, mkAnn [] [] [] [] [(0, [1, 0]), (1, [4])] []),
  (20, mkAnn [] [] [] [] [(0, [1, 0]), (1, [5, 1, 0]), (2, [12, 5, 1, 0]), (3, [4]), (4, [6, 5, 1, 0]), (5, [19, 6, 5, 1, 0]), (6, [6, 5, 1, 0]), (7, [7, 6, 5, 1, 0]), (8, [29, 7, 6, 5, 1, 0]), (9, [6, 5, 1, 0]), (10, [6, 5, 1, 0]), (11, [5, 0]), (12, [4])] [(5, [6, 5, 1, 0])]),
  (37, mkAnn [] [] [] [] [(0, [1, 0]), (1, [8, 7, 1, 0]), (2, [9, 8, 7, 1, 0]), (3, [8, 7, 5, 1, 0]), (4, [16, 8, 7, 5, 1, 0]), (5, [4]), (6, [8, 7, 1, 0]), (7, [4])] [(2, [8, 7, 1, 0])]),
  (60, mkAnn [] [] [] [] [(0, [1, 0]), (1, [8, 7, 1, 0]), (2, [9, 8, 7, 1, 0]), (3, [8, 7, 5, 1, 0]), (4, [16, 8, 7, 5, 1, 0]), (5, [4]), (6, [8, 7, 1, 0]), (7, [4])] [(2, [8, 7, 1, 0])]),
  (45, mkAnn [] [] [] [] [(0, [1, 0]), (1, [4])] []),
  (52, mkAnn [] [] [] [] [(0, [1, 0]), (1, [12, 1, 0]), (2, [4]), (3, [15, 1, 0]), (4, [5, 0]), (5, [20, 5, 0]), (6, [5, 0]), (7, [4]), (8, [26, 1, 0]), (9, [7, 6, 1, 0]), (10, [32, 6, 1, 0]), (11, [8, 6, 0]), (12, [36, 8, 6, 0]), (13, [8, 6, 0]), (14, [42, 8, 6, 0]), (15, [4]), (16, [4]), (17, [45, 1]), (18, [47, 46, 45, 1]), (19, [45, 10, 9, 1]), (20, [53, 45, 9, 1]), (21, [4]), (22, [4])] [(12, [8, 6, 0]), (18, [45, 1])]),
  (56, mkAnn [] [] [] [] [(0, [1, 0]), (1, [7, 0]), (2, [8, 7, 0]), (3, [9, 8, 7, 0]), (4, [9, 8, 7, 0]), (5, [26, 9, 8, 7, 0]), (6, [33, 9, 8, 7, 0]), (7, [11, 9, 8, 7, 0]), (8, [43, 11, 9, 8, 7, 0]), (9, [4]), (10, [9, 8, 7, 0]), (11, [12, 9, 8, 7, 0]), (12, [51, 12, 9, 8, 7, 0]), (13, [12, 9, 8, 7, 0]), (14, [64, 12, 9, 8, 7, 0]), (15, [4]), (16, [10, 9, 8, 7, 0]), (17, [10, 9, 8, 7, 0]), (18, [98, 9, 8, 7, 0]), (19, [4]), (20, [13, 9, 8]), (21, [108, 13, 9, 8]), (22, [4]), (23, [14, 9, 8, 7, 0]), (24, [15, 14, 9, 8, 7, 0]), (25, [124, 15, 14, 9, 8, 7, 0]), (26, [15, 14, 9, 8, 7, 0]), (27, [139, 15, 14, 9, 8, 7, 0]), (28, [16, 15, 14, 9, 8, 7, 0]), (29, [143, 16, 15, 14, 9, 8, 7, 0]), (30, [16, 15, 14, 9, 8, 7, 0]), (31, [156, 16, 15, 14, 9, 8, 7, 0]), (32, [4]), (33, [4]), (34, [160, 1, 0]), (35, [4]), (36, [171, 1, 0]), (37, [175]), (38, [177, 176, 175]), (39, [175, 6, 5]), (40, [181, 175, 5]), (41, [4]), (42, [4]), (43, [183, 1, 0]), (44, [4])] [(5, [9, 8, 7, 0]), (12, [12, 9, 8, 7, 0]), (25, [15, 14, 9, 8, 7, 0]), (29, [16, 15, 14, 9, 8, 7, 0]), (38, [175])]),
  (58, mkAnn [] [] [] [] [(0, [2, 0]), (1, [4, 2, 0]), (2, [9, 4, 2, 0]), (3, [4, 2, 0]), (4, [5, 4, 2, 0]), (5, [16, 5, 4, 2, 0]), (6, [3, 2]), (7, [4, 2, 0]), (8, [3, 2])] [(2, [4, 2, 0])]),
  (57, mkAnn [] [] [] [] [(0, [0]), (1, [2])] []),
  (11, mkAnn [] [] [] [] [(0, [1, 0]), (1, [10, 1, 0]), (2, [4]), (3, [5, 1, 0]), (4, [30, 0]), (5, [4]), (6, [6, 0]), (7, [34, 6, 0]), (8, [6, 0]), (9, [6, 0]), (10, [4])] [(7, [6, 0])]),
  (16, mkAnn [] [] [] [] [(0, [1, 0]), (1, [8, 1, 0]), (2, [4]), (3, [4])] []),
  (8, mkAnn [] [] [] [] [(0, [0]), (1, [3, 0]), (2, [3, 0]), (3, [3, 0]), (4, [2])] []),
  (31, mkAnn [] [] [] [] [(0, [1, 0]), (1, [4])] []),
  (7, mkAnn [] [] [] [] [(0, [2, 1, 0]), (1, [7, 1, 0]), (2, [7, 1, 0]), (3, [16, 7, 1, 0]), (4, [1, 0]), (5, [6])] []),
  (5, mkAnn [] [] [] [] [(0, [2, 1]), (1, [6, 2, 1]), (2, [2, 1]), (3, [14, 2, 1]), (4, [2, 1]), (5, [22, 2, 1]), (6, [2, 1]), (7, [30, 2, 1]), (8, [2, 1]), (9, [39, 2, 1]), (10, [2, 1]), (11, [2, 1]), (12, [2])] []),
  (3, mkAnn [] [] [(8, 1, false)] [] [(0, [7, 4, 3, 1, 0]), (1, [7, 4, 3, 1, 0]), (2, [11, 7, 4, 3]), (3, [11, 7, 4, 3]), (4, [12, 11, 7, 4, 3]), (5, [12, 11, 7, 4, 3]), (6, [14, 13, 12, 11, 7, 4, 3]), (7, [16, 15, 14, 13, 12, 7, 3]), (8, [54, 16, 15, 14, 13, 7, 3]), (9, [10]), (10, [10])] []),
  (4, mkAnn [] [] [] [] [(0, [2, 1, 0]), (1, [8, 7, 2, 1, 0]), (2, [18, 8, 7, 2, 1, 0]), (3, [6]), (4, [39, 8, 7, 1, 0]), (5, [6]), (6, [6])] []),
  (6, mkAnn [] [] [] [] [(0, [4, 1, 0]), (1, [7, 4, 1, 0]), (2, [4, 1, 0]), (3, [4])] []),
  (15, mkAnn [] [] [] [] [(0, []), (1, [2, 1]), (2, [4, 2, 1]), (3, [0])] []),
  (48, mkAnn [] [] [] [] [(0, [0]), (1, [6, 0]), (2, [4, 3, 0]), (3, [17, 4, 0]), (4, [2]), (5, [0]), (6, [2])] [(1, [0])]),
  (54, mkAnn [] [] [] [] [(0, [0]), (1, [4, 0]), (2, [4, 0]), (3, [3, 2]), (4, [11, 4, 0]), (5, [3, 2]), (6, [15, 4, 0]), (7, [6, 5, 4, 0]), (8, [24, 4, 0]), (9, [6, 5, 4, 0]), (10, [33, 4, 0]), (11, [6, 5, 4, 0]), (12, [45, 6, 5, 4, 0]), (13, [3, 2]), (14, [7, 6, 5, 4, 0]), (15, [48, 7, 6, 5, 4, 0]), (16, [7, 6, 5, 4, 0]), (17, [60, 7, 6, 5, 4, 0]), (18, [3, 2]), (19, [7, 6, 5, 4, 0]), (20, [83, 5, 4]), (21, [3, 2]), (22, [3, 2])] [(15, [7, 6, 5, 4, 0])]),
  (50, mkAnn [] [] [] [] [(0, [3, 2]), (1, [4])] []),
  (25, mkAnn [] [] [] [] [(0, [4, 1, 0]), (1, [6, 4, 1, 0]), (2, [10, 6, 4, 1, 0]), (3, [6, 4, 1, 0]), (4, [19, 6, 4, 1, 0]), (5, [5, 4]), (6, [5, 4])] [(2, [6, 4, 1, 0])]),
  (28, mkAnn [] [] [] [] [(0, [2, 1, 0]), (1, [8, 7, 2]), (2, [15, 7, 2]), (3, [6]), (4, [6])] []),
  (42, mkAnn [] [] [] [] [(0, [1, 0]), (1, [5, 1, 0]), (2, [6, 5, 1, 0]), (3, [10, 6, 5, 1, 0]), (4, [6, 5, 1, 0]), (5, [19, 6, 5, 1, 0]), (6, [6, 5, 1, 0]), (7, [4])] [(3, [6, 5, 1, 0])]),
  (43, mkAnn [] [] [] [] [(0, [1, 0]), (1, [10, 1, 0]), (2, [4]), (3, [5, 1, 0]), (4, [14, 5, 1, 0]), (5, [5, 1, 0]), (6, [26, 5, 1, 0]), (7, [4]), (8, [4])] [(4, [5, 1, 0])]),
  (49, mkAnn [] [] [] [] [(0, [1, 0]), (1, [5, 1, 0]), (2, [9, 5, 1, 0]), (3, [5, 1, 0]), (4, [17, 5, 1, 0]), (5, [4]), (6, [4])] [(2, [5, 1, 0])]),
  (24, mkAnn [] [] [] [] [(0, [0]), (1, [2])] []),
  (41, mkAnn [] [] [] [] [(0, [1, 0]), (1, [5, 1, 0]), (2, [9, 5, 1, 0]), (3, [5, 1, 0]), (4, [16, 5, 1, 0]), (5, [4]), (6, [4])] [(2, [5, 1, 0])]),
  (40, mkAnn [] [] [] [] [(0, [0]), (1, [2])] []),
  (29, mkAnn [] [] [] [] [(0, [0]), (1, [2])] []),
  (30, mkAnn [] [] [] [] [(0, [8, 4, 3, 2, 1]), (1, [9, 8, 4, 3]), (2, [11, 10, 9, 8, 3]), (3, [32, 10, 9, 8, 3]), (4, [9, 8]), (5, [8])] []),
  (32, mkAnn [] [] [] [] [(0, [3, 2]), (1, [4])] []),
  (27, mkAnn [] [] [] [] [(0, [3, 2]), (1, [8, 3, 2]), (2, [6, 5, 3]), (3, [28]), (4, [4]), (5, [4]), (6, [30, 2]), (7, [4]), (8, [32]), (9, [4]), (10, [4])] []),
  (26, mkAnn [] [] [] [] [(0, [2, 1]), (1, [6, 2, 1]), (2, [11, 6, 2, 1]), (3, [6, 2, 1]), (4, [21, 6, 2, 1]), (5, [5, 4]), (6, [5, 4])] [(2, [6, 2, 1])]),
  (10, mkAnn [] [] [] [] [(0, [8, 5, 4, 3, 2]), (1, [10, 8, 5, 4, 3, 2]), (2, [31, 10, 8, 5, 4, 3, 2]), (3, [34, 10, 8, 5, 4, 3, 2]), (4, [9, 8]), (5, [10, 8, 5, 4, 3]), (6, [41, 10, 8, 5, 4, 3]), (7, [9, 8]), (8, [51, 10, 8, 5, 4, 3]), (9, [9, 8]), (10, [12, 11, 10, 8, 5, 4, 3]), (11, [14, 13, 12, 11, 10, 8, 5, 4, 3]), (12, [69, 13, 12, 11, 10, 8, 5, 4, 3]), (13, [9, 8]), (14, [71, 13, 11, 10, 8, 5, 4, 3]), (15, [74, 13, 11, 10, 8, 5, 4, 3]), (16, [9, 8]), (17, [16, 13, 11, 10, 8, 5, 3]), (18, [85, 13, 11, 10, 8, 5, 3]), (19, [9, 8]), (20, [13, 10, 8, 5, 3]), (21, [10, 8, 5, 3]), (22, [17, 10, 8, 5, 3]), (23, [98, 17, 10, 8, 5, 3]), (24, [9, 8]), (25, [10, 8, 5, 3]), (26, [10, 8, 5, 3]), (27, [10, 8, 5, 3]), (28, [10, 8, 5, 3]), (29, [10, 8, 5, 3]), (30, [121, 10, 8, 5, 3]), (31, [18, 10, 8, 3]), (32, [19, 18, 10, 8, 3]), (33, [18, 10, 8]), (34, [18, 10, 8]), (35, [10, 8]), (36, [9, 8])] []),
  (14, mkAnn [] [] [] [] [(0, [0]), (1, [3, 0]), (2, [8, 3, 0]), (3, [3, 0]), (4, [4, 3, 0]), (5, [36, 3, 0]), (6, [2]), (7, [2])] [(2, [3, 0])]),
  (12, mkAnn [] [] [] [] [(0, [3, 2]), (1, [4])] []),
  (34, mkAnn [] [] [] [] [(0, [0]), (1, [2])] []),
  (44, mkAnn [] [] [] [] [(0, [0]), (1, [2])] []),
  (63, mkAnn [] [] [] [] [(0, [0]), (1, [3, 0]), (2, [2]), (3, [10]), (4, [2]), (5, [2])] []),
  (1000000, {})]
def ann : Nat → Ann := lookT {} annT
def byrefT : List (Nat × Bool) := [
  (11, true),
  (9, true),
  (20, true),
  (23, true),
  (1000000, false)]
def BY : Nat → Bool := lookT false byrefT
noncomputable def CF : Nat → Option AFunc := compF Tryd.prog ann
noncomputable def FC : Nat → Option AFunc := fun f => (CF f).map stripF
def primT : List (Nat × Option (List AVal → AHeap → Option (AVal × AHeap))) := [
  (38, some (clonePrim 1 1)),
  (21, some (clonePrim 5 72)),
  (62, some (indexBytePrim)),
  (66, some (indexBytePrim)),
  (55, some (validPrim)),
  (1000000, none)]
def PR : Prims := lookT none primT
noncomputable abbrev E : Oracle := EV FC PR BY
theorem E_eq {f : Nat} {fn : AFunc} (hp : PR f = none) (hf : FC f = some fn) (args : List AVal) (σ : AHeap) : E f args σ = finA σ.length fn (evC FC PR BY σ.length fn.body (enterA 0 args []) σ) := EV_eq hp hf args σ
end Go.Proofs.YtaaflagbhneakaaDoor
namespace Go.Proofs.YtaaflagbhneakaaDoor
set_option linter.unusedSimpArgs false
set_option linter.unusedVariables false
def b_conn_Meet : ACode := (.seq (.region [⟨(some 4), (.box (.t 0)), none, []⟩, ⟨(some 5), (.box (.t 1)), none, []⟩, ⟨(some 8), (.alloc [(.str []), (.bool false), (.int .i64 0), (.int .i64 0), (.int .i64 0), (.int .i64 0), (.int .i64 0), (.str []), (.str []), (.bool false), (.str []), (.lst true []), (.int .i64 0), (.bool false), (.str []), (.int .i64 0), (.lst true []), (.int .i64 0), (.int .i64 0), (.int .i64 0), (.int .i64 0), (.int .i64 0)]), none, []⟩, ⟨(some 9), (.mov (.c (.int .i64 0))), none, []⟩] none [8, 5, 4, 3, 2]) (.seq (.seq (.region [⟨(some 18), (.ld (some 3) (.t 4)), none, []⟩, ⟨(some 19), (.ld (some 26) (.t 5)), none, []⟩, ⟨(some 20), (.call 17 0 true [(.t 18), (.t 19)]), none, []⟩, ⟨(some 10), (.mov (.t 20)), none, []⟩] none [10, 8, 5, 3, 2]) (.seq (.region [⟨(some 21), (.mov (.t 10)), none, []⟩, ⟨(some 22), (.bin .neq (.t 21) (.c (.int .i64 0))), none, []⟩] none [22, 10, 8, 5, 3, 2]) (.cond (.t 22) (.seq (.region [⟨(some 23), (.build [(.str []), (.bool false), (.int .i64 0), (.int .i64 0), (.int .i64 0), (.int .i64 0), (.int .i64 0), (.str []), (.str []), (.bool false), (.str []), (.lst true []), (.int .i64 0), (.bool false), (.str []), (.int .i64 0), (.lst true []), (.int .i64 0), (.int .i64 0), (.int .i64 0), (.int .i64 0), (.int .i64 0)] []), none, []⟩, ⟨(some 24), (.mov (.t 10)), none, []⟩, ⟨none, (.st 22 (.t 8) (.t 23)), none, []⟩, ⟨(some 9), (.mov (.t 24)), none, []⟩] none [9, 8]) .ret) .skip))) (.seq (.region [⟨(some 26), (.faddr 9 (.t 5)), none, []⟩, ⟨(some 27), (.ld none (.t 26)), none, []⟩, ⟨(some 28), (.call 18 0 true [(.c (.int .i64 21)), (.t 27)]), none, []⟩, ⟨(some 25), (.mov (.t 28)), none, []⟩, ⟨(some 29), (.ext (.t 25) 0), none, []⟩, ⟨(some 30), (.ext (.t 25) 1), none, []⟩, ⟨(some 11), (.alloc [(.int .i64 0), (.int .i64 0), (.str []), (.str []), (.lst true [])]), none, []⟩, ⟨none, (.st 5 (.t 11) (.t 29)), none, []⟩, ⟨(some 12), (.mov (.t 30)), none, []⟩] none [11, 8, 5, 3, 2]) (.seq (.region [⟨(some 31), (.faddr 14 (.t 5)), none, []⟩, ⟨(some 32), (.ld none (.t 31)), none, []⟩, ⟨(some 33), (.faddr 12 (.t 5)), none, []⟩, ⟨(some 34), (.ld none (.t 33)), none, []⟩, ⟨(some 35), (.faddr 13 (.t 5)), none, []⟩, ⟨(some 36), (.ld none (.t 35)), none, []⟩, ⟨(some 37), (.faddr 2 (.t 11)), none, []⟩, ⟨(some 38), (.ld none (.t 37)), none, []⟩, ⟨(some 39), (.faddr 22 (.t 5)), none, []⟩, ⟨(some 40), (.ld none (.t 39)), none, []⟩, ⟨(some 41), (.build [(.str []), (.bool false), (.int .i64 0), (.int .i64 0), (.int .i64 0), (.int .i64 0), (.int .i64 0), (.str []), (.str []), (.bool false), (.str []), (.lst true []), (.int .i64 0), (.bool false), (.str []), (.int .i64 0), (.lst true []), (.int .i64 0), (.int .i64 0), (.int .i64 0), (.int .i64 0), (.int .i64 0)] [(0, 1, (.t 32)), (1, 1, (.t 34)), (2, 1, (.t 36)), (7, 1, (.t 38)), (8, 1, (.t 40))]), none, []⟩, ⟨(some 13), (.alloc [(.str []), (.bool false), (.int .i64 0), (.int .i64 0), (.int .i64 0), (.int .i64 0), (.int .i64 0), (.str []), (.str []), (.bool false), (.str []), (.lst true []), (.int .i64 0), (.bool false), (.str []), (.int .i64 0), (.lst true []), (.int .i64 0), (.int .i64 0), (.int .i64 0), (.int .i64 0), (.int .i64 0)]), none, []⟩, ⟨none, (.st 22 (.t 13) (.t 41)), none, []⟩] none [13, 11, 8, 5, 3, 2]) (.seq (.seq (.region [⟨(some 42), (.faddr 0 (.t 13)), none, []⟩, ⟨(some 43), (.ld none (.t 42)), none, []⟩, ⟨(some 44), (.bin .eql (.t 43) (.c (.str []))), none, []⟩] none [44, 13, 11, 8, 5, 3, 2]) (.cond (.t 44) (.region [⟨(some 45), (.mov (.t 2)), none, []⟩, ⟨(some 46), (.faddr 0 (.t 13)), none, []⟩, ⟨none, (.st 1 (.t 46) (.t 45)), none, []⟩] none [13, 11, 8, 5, 3]) .skip)) (.seq (.seq (.region [⟨(some 48), (.faddr 9 (.t 5)), none, []⟩, ⟨(some 49), (.ld none (.t 48)), none, []⟩, ⟨(some 50), (.call 18 0 true [(.c (.int .i64 22)), (.t 49)]), none, []⟩, ⟨(some 47), (.mov (.t 50)), none, []⟩, ⟨(some 51), (.ext (.t 47) 0), none, []⟩, ⟨(some 52), (.ext (.t 47) 1), none, []⟩, ⟨(some 14), (.alloc [(.int .i64 0), (.int .i64 0), (.str []), (.str []), (.lst true [])]), none, []⟩, ⟨none, (.st 5 (.t 14) (.t 51)), none, []⟩, ⟨(some 15), (.mov (.t 52)), none, []⟩] none [15, 14, 13, 11, 8, 5, 3]) (.seq (.region [⟨(some 53), (.mov (.t 15)), none, []⟩] none [53, 14, 13, 11, 8, 5, 3]) (.cond (.t 53) (.region [⟨(some 54), (.faddr 4 (.t 14)), none, []⟩, ⟨(some 55), (.ld none (.t 54)), none, []⟩, ⟨(some 56), (.b2s (.t 55)), none, []⟩, ⟨(some 57), (.faddr 8 (.t 13)), none, []⟩, ⟨none, (.st 1 (.t 57) (.t 56)), none, []⟩] none [13, 8, 5, 3]) (.seq (.region [⟨(some 58), (.faddr 2 (.t 11)), none, []⟩, ⟨(some 59), (.ld none (.t 58)), none, []⟩, ⟨(some 60), (.bin .neq (.t 59) (.c (.str []))), none, []⟩] none [60, 13, 8, 5, 3]) (.cond (.t 60) (.region [⟨(some 61), (.faddr 8 (.t 13)), none, []⟩, ⟨none, (.st 1 (.t 61) (.c (.str []))), none, []⟩] none [13, 8, 5, 3]) .skip))))) (.seq (.region [⟨(some 62), (.faddr 9 (.t 5)), none, []⟩, ⟨(some 63), (.ld none (.t 62)), none, []⟩, ⟨(some 64), (.call 19 0 true [(.t 63), (.c (.int .i64 17)), (.c (.int .i64 0))]), none, []⟩, ⟨(some 65), (.faddr 3 (.t 13)), none, []⟩, ⟨none, (.st 1 (.t 65) (.t 64)), none, []⟩] none [13, 8, 5, 3]) (.seq (.region [⟨(some 66), (.faddr 9 (.t 5)), none, []⟩, ⟨(some 67), (.ld none (.t 66)), none, []⟩, ⟨(some 68), (.call 19 0 true [(.t 67), (.c (.int .i64 33)), (.c (.int .i64 65535))]), none, []⟩, ⟨(some 69), (.faddr 4 (.t 13)), none, []⟩, ⟨none, (.st 1 (.t 69) (.t 68)), none, []⟩] none [13, 8, 5, 3]) (.seq (.region [⟨(some 70), (.faddr 9 (.t 5)), none, []⟩, ⟨(some 71), (.ld none (.t 70)), none, []⟩, ⟨(some 72), (.call 19 0 true [(.t 71), (.c (.int .i64 39)), (.c (.int .i64 268435460))]), none, []⟩, ⟨(some 73), (.faddr 5 (.t 13)), none, []⟩, ⟨none, (.st 1 (.t 73) (.t 72)), none, []⟩] none [13, 8, 5, 3]) (.seq (.region [⟨(some 74), (.faddr 9 (.t 5)), none, []⟩, ⟨(some 75), (.ld none (.t 74)), none, []⟩, ⟨(some 76), (.call 19 0 true [(.t 75), (.c (.int .i64 34)), (.c (.int .i64 0))]), none, []⟩, ⟨(some 77), (.faddr 6 (.t 13)), none, []⟩, ⟨none, (.st 1 (.t 77) (.t 76)), none, []⟩] none [13, 8, 5, 3]) (.seq (.seq (.region [⟨(some 78), (.faddr 15 (.t 5)), none, []⟩, ⟨(some 79), (.ld none (.t 78)), none, []⟩] none [79, 13, 8, 5, 3]) (.cond (.t 79) (.seq (.region [⟨(some 80), (.faddr 16 (.t 5)), none, []⟩, ⟨(some 81), (.ld (some 5) (.t 80)), none, []⟩, ⟨(some 16), (.alloc [(.str []), (.lst true []), (.int .i64 0), (.bool false), (.lst true [])]), none, []⟩, ⟨none, (.st 5 (.t 16) (.t 81)), none, []⟩] none [16, 13, 8, 3]) (.seq (.region [⟨(some 82), (.faddr 4 (.t 16)), none, []⟩, ⟨(some 83), (.ld none (.t 82)), none, []⟩, ⟨(some 84), (.call 21 1 false [(.t 83)]), none, []⟩, ⟨(some 85), (.call 20 0 true [(.t 84), (.c (.fn 22 []))]), none, []⟩, ⟨(some 17), (.mov (.t 85)), none, []⟩] none [17, 16, 13, 8, 3]) (.seq (.region [⟨(some 86), (.faddr 9 (.t 13)), none, []⟩, ⟨none, (.st 1 (.t 86) (.c (.bool true))), none, []⟩] none [17, 16, 13, 8, 3]) (.seq (.region [⟨(some 87), (.faddr 1 (.t 16)), none, []⟩, ⟨(some 88), (.ld none (.t 87)), none, []⟩, ⟨(some 89), (.faddr 2 (.t 16)), none, []⟩, ⟨(some 90), (.ld none (.t 89)), none, []⟩, ⟨(some 91), (.faddr 3 (.t 16)), none, []⟩, ⟨(some 92), (.ld none (.t 91)), none, []⟩, ⟨(some 93), (.mov (.t 17)), none, []⟩, ⟨(some 94), (.build [(.int .i64 0), (.bool false), (.int .i64 0), (.bool false), (.int .i64 0), (.str []), (.lst true []), (.int .i64 0), (.lst true []), (.lst true []), (.lst true []), (.lst true []), (.bool false), (.int .i64 0), (.str []), (.bool false), (.str []), (.lst true []), (.int .i64 0), (.bool false), (.lst true []), (.bool false), (.str []), (.bool false), (.lst true []), (.bool false)] [(6, 1, (.t 88)), (2, 1, (.t 90)), (3, 1, (.t 92)), (9, 1, (.t 93))]), none, []⟩, ⟨(some 95), (.faddr 0 (.t 16)), none, []⟩, ⟨(some 96), (.ld none (.t 95)), none, []⟩, ⟨(some 97), (.faddr 0 (.t 13)), none, []⟩, ⟨(some 98), (.ld none (.t 97)), none, []⟩, ⟨(some 99), (.mov (.t 3)), none, []⟩, ⟨(some 100), (.call 23 0 true [(.t 94), (.t 96), (.t 98), (.t 99)]), none, []⟩, ⟨(some 101), (.faddr 10 (.t 13)), none, []⟩, ⟨none, (.st 10 (.t 101) (.t 100)), none, []⟩] none [16, 13, 8]) (.seq (.region [⟨(some 102), (.faddr 4 (.t 16)), none, []⟩, ⟨(some 103), (.ld none (.t 102)), none, []⟩, ⟨(some 104), (.call 19 0 true [(.t 103), (.c (.int .i64 2)), (.c (.int .i64 (-1)))]), none, []⟩, ⟨(some 105), (.faddr 21 (.t 13)), none, []⟩, ⟨none, (.st 1 (.t 105) (.t 104)), none, []⟩] none [16, 13, 8]) (.region [⟨(some 106), (.faddr 4 (.t 16)), none, []⟩, ⟨(some 107), (.ld none (.t 106)), none, []⟩, ⟨(some 108), (.call 19 0 true [(.t 107), (.c (.int .i64 24)), (.c (.int .i64 0))]), none, []⟩, ⟨(some 109), (.faddr 20 (.t 13)), none, []⟩, ⟨none, (.st 1 (.t 109) (.t 108)), none, []⟩] none [13, 8])))))) .skip)) (.seq (.region [⟨(some 110), (.ld (some 22) (.t 13)), none, []⟩, ⟨none, (.st 22 (.t 8) (.t 110)), none, []⟩, ⟨(some 9), (.mov (.c (.int .i64 0))), none, []⟩] none [9, 8]) .ret))))))))))))
def c_conn_Meet : AFunc := ⟨[(.cell 8 (some 22)), (.tmp 9)], b_conn_Meet⟩
theorem cf_conn_Meet : FC 9 = some c_conn_Meet := by kernel_rfl
theorem cb_conn_Meet : c_conn_Meet.body = b_conn_Meet := rfl
theorem cr_conn_Meet : c_conn_Meet.res = [(.cell 8 (some 22)), (.tmp 9)] := rfl
def b_conn_Meet_1 : ACode := (.seq (.region [⟨(some 1), (.box (.t 0)), none, []⟩, ⟨(some 2), (.mov (.c (.bool false))), none, []⟩] none [1]) (.seq (.region [⟨(some 3), (.faddr 0 (.t 1)), none, []⟩, ⟨(some 4), (.ld none (.t 3)), none, []⟩, ⟨(some 5), (.bin .eql (.t 4) (.c (.int .i64 2))), none, []⟩, ⟨(some 2), (.mov (.t 5)), none, []⟩] none [2]) .ret))
def c_conn_Meet_1 : AFunc := ⟨[(.tmp 2)], b_conn_Meet_1⟩
theorem cf_conn_Meet_1 : FC 22 = some c_conn_Meet_1 := by kernel_rfl
theorem cb_conn_Meet_1 : c_conn_Meet_1.body = b_conn_Meet_1 := rfl
theorem cr_conn_Meet_1 : c_conn_Meet_1.res = [(.tmp 2)] := rfl
def c_conn_Name_k0 : ACode := (.seq (.region [⟨(some 29), (.mov (.t 0)), none, []⟩, ⟨(some 30), (.slen (.t 29)), none, []⟩, ⟨(some 31), (.bin .geq (.t 30) (.c (.int .i64 1))), none, []⟩, ⟨(some 32), (.mov (.t 31)), none, []⟩, ⟨(some 33), (.mov (.t 0)), (some (32, true)), []⟩, ⟨(some 34), (.slen (.t 33)), (some (32, true)), []⟩, ⟨(some 35), (.bin .leq (.t 34) (.c (.int .i64 23))), (some (32, true)), []⟩, ⟨(some 36), (.pick (.t 32) (.t 35) (.c (.bool false))), none, []⟩, ⟨(some 2), (.mov (.t 36)), none, []⟩] none [2]) .ret)
theorem x_conn_Name_k0 (m : Nat) (tm : Tms) (σ : AHeap) : evC FC PR BY m c_conn_Name_k0 tm σ = evC FC PR BY m (.seq (.region [⟨(some 29), (.mov (.t 0)), none, []⟩, ⟨(some 30), (.slen (.t 29)), none, []⟩, ⟨(some 31), (.bin .geq (.t 30) (.c (.int .i64 1))), none, []⟩, ⟨(some 32), (.mov (.t 31)), none, []⟩, ⟨(some 33), (.mov (.t 0)), (some (32, true)), []⟩, ⟨(some 34), (.slen (.t 33)), (some (32, true)), []⟩, ⟨(some 35), (.bin .leq (.t 34) (.c (.int .i64 23))), (some (32, true)), []⟩, ⟨(some 36), (.pick (.t 32) (.t 35) (.c (.bool false))), none, []⟩, ⟨(some 2), (.mov (.t 36)), none, []⟩] none [2]) .ret) tm σ := rfl
def c_conn_Name_l2 : ACode := (.seq (.region [⟨(some 9), (.bin .lss (.t 8) (.t 7)), none, []⟩] none [9, 8, 7, 6, 0]) (.seq (.cond (.t 9) .skip (.exit 0)) (.seq (.block 1 (.seq (.region [⟨(some 10), (.iaddr 1 (.t 6) (.t 8)), none, []⟩, ⟨(some 11), (.ld none (.t 10)), none, []⟩, ⟨(some 4), (.mov (.t 11)), none, []⟩] none [8, 7, 6, 4, 0]) (.seq (.region [⟨(some 12), (.mov (.t 4)), none, []⟩, ⟨(some 13), (.bin .lss (.t 12) (.c (.int .u8 48))), none, []⟩, ⟨(some 14), (.mov (.t 13)), none, []⟩, ⟨(some 15), (.mov (.t 4)), (some (14, false)), []⟩, ⟨(some 16), (.bin .gtr (.t 15) (.c (.int .u8 57))), (some (14, false)), []⟩, ⟨(some 17), (.pick (.t 14) (.c (.bool true)) (.t 16)), none, []⟩, ⟨(some 18), (.mov (.t 17)), none, []⟩, ⟨(some 19), (.mov (.t 4)), (some (18, true)), []⟩, ⟨(some 20), (.bin .or (.t 19) (.c (.int .u8 32))), (some (18, true)), []⟩, ⟨(some 21), (.bin .lss (.t 20) (.c (.int .u8 97))), (some (18, true)), []⟩, ⟨(some 22), (.mov (.t 21)), (some (18, true)), []⟩, ⟨(some 23), (.mov (.t 4)), (some (22, false)), []⟩, ⟨(some 24), (.bin .or (.t 23) (.c (.int .u8 32))), (some (22, false)), []⟩, ⟨(some 25), (.bin .gtr (.t 24) (.c (.int .u8 122))), (some (22, false)), []⟩, ⟨(some 26), (.pick (.t 22) (.c (.bool true)) (.t 25)), (some (18, true)), []⟩, ⟨(some 27), (.pick (.t 18) (.t 26) (.c (.bool false))), none, []⟩] none [27, 8, 7, 6, 0]) (.cond (.t 27) (.seq (.region [⟨(some 2), (.mov (.c (.bool false))), none, []⟩] none [2]) .ret) .skip)))) (.region [⟨(some 28), (.bin .add (.t 8) (.c (.int .i64 1))), none, []⟩, ⟨(some 8), (.mov (.t 28)), none, []⟩] none [8, 7, 6, 0]))))
theorem x_conn_Name_l2 (m : Nat) (tm : Tms) (σ : AHeap) : evC FC PR BY m c_conn_Name_l2 tm σ = evC FC PR BY m (.seq (.region [⟨(some 9), (.bin .lss (.t 8) (.t 7)), none, []⟩] none [9, 8, 7, 6, 0]) (.seq (.cond (.t 9) .skip (.exit 0)) (.seq (.block 1 (.seq (.region [⟨(some 10), (.iaddr 1 (.t 6) (.t 8)), none, []⟩, ⟨(some 11), (.ld none (.t 10)), none, []⟩, ⟨(some 4), (.mov (.t 11)), none, []⟩] none [8, 7, 6, 4, 0]) (.seq (.region [⟨(some 12), (.mov (.t 4)), none, []⟩, ⟨(some 13), (.bin .lss (.t 12) (.c (.int .u8 48))), none, []⟩, ⟨(some 14), (.mov (.t 13)), none, []⟩, ⟨(some 15), (.mov (.t 4)), (some (14, false)), []⟩, ⟨(some 16), (.bin .gtr (.t 15) (.c (.int .u8 57))), (some (14, false)), []⟩, ⟨(some 17), (.pick (.t 14) (.c (.bool true)) (.t 16)), none, []⟩, ⟨(some 18), (.mov (.t 17)), none, []⟩, ⟨(some 19), (.mov (.t 4)), (some (18, true)), []⟩, ⟨(some 20), (.bin .or (.t 19) (.c (.int .u8 32))), (some (18, true)), []⟩, ⟨(some 21), (.bin .lss (.t 20) (.c (.int .u8 97))), (some (18, true)), []⟩, ⟨(some 22), (.mov (.t 21)), (some (18, true)), []⟩, ⟨(some 23), (.mov (.t 4)), (some (22, false)), []⟩, ⟨(some 24), (.bin .or (.t 23) (.c (.int .u8 32))), (some (22, false)), []⟩, ⟨(some 25), (.bin .gtr (.t 24) (.c (.int .u8 122))), (some (22, false)), []⟩, ⟨(some 26), (.pick (.t 22) (.c (.bool true)) (.t 25)), (some (18, true)), []⟩, ⟨(some 27), (.pick (.t 18) (.t 26) (.c (.bool false))), none, []⟩] none [27, 8, 7, 6, 0]) (.cond (.t 27) (.seq (.region [⟨(some 2), (.mov (.c (.bool false))), none, []⟩] none [2]) .ret) .skip)))) (.region [⟨(some 28), (.bin .add (.t 8) (.c (.int .i64 1))), none, []⟩, ⟨(some 8), (.mov (.t 28)), none, []⟩] none [8, 7, 6, 0])))) tm σ := rfl
def b_conn_Name : ACode := (.seq (.region [⟨(some 2), (.mov (.c (.bool false))), none, []⟩] none [0]) (.seq (.seq (.region [⟨(some 5), (.mov (.t 0)), none, []⟩, ⟨(some 6), (.s2b (.t 5)), none, []⟩, ⟨(some 7), (.len (.t 6)), none, []⟩, ⟨(some 8), (.mov (.c (.int .i64 0))), none, []⟩] none [8, 7, 6, 0]) (.block 0 (.loop [8, 7, 6, 0] c_conn_Name_l2))) c_conn_Name_k0))
def c_conn_Name : AFunc := ⟨[(.tmp 2)], b_conn_Name⟩
theorem cf_conn_Name : FC 13 = some c_conn_Name := by kernel_rfl
theorem cb_conn_Name : c_conn_Name.body = b_conn_Name := rfl
theorem cr_conn_Name : c_conn_Name.res = [(.tmp 2)] := rfl
/-- slots [8, 7, 6, 0] -/
noncomputable def K_conn_Name_l2 (m : Nat) (tm : Tms) (σ : AHeap) : Option (AVal × AHeap) := (finA m c_conn_Name (seqX FC PR BY m c_conn_Name_k0 (Option.map (blockA 0) (evL FC PR BY m [8, 7, 6, 0] c_conn_Name_l2 tm σ))))
def b_conn_number : ACode := (.seq (.region [⟨(some 6), (.mov (.c (.int .i64 0))), none, []⟩] none [2, 1, 0]) (.seq (.seq (.region [⟨(some 10), (.mov (.t 1)), none, []⟩, ⟨(some 11), (.mov (.t 0)), none, []⟩, ⟨(some 12), (.call 18 0 true [(.t 10), (.t 11)]), none, []⟩, ⟨(some 9), (.mov (.t 12)), none, []⟩, ⟨(some 13), (.ext (.t 9) 0), none, []⟩, ⟨(some 14), (.ext (.t 9) 1), none, []⟩, ⟨(some 7), (.alloc [(.int .i64 0), (.int .i64 0), (.str []), (.str []), (.lst true [])]), none, []⟩, ⟨none, (.st 5 (.t 7) (.t 13)), none, []⟩, ⟨(some 8), (.mov (.t 14)), none, []⟩] none [8, 7, 2]) (.seq (.region [⟨(some 15), (.mov (.t 8)), none, []⟩] none [15, 7, 2]) (.cond (.t 15) (.seq (.region [⟨(some 16), (.faddr 1 (.t 7)), none, []⟩, ⟨(some 17), (.ld none (.t 16)), none, []⟩, ⟨(some 6), (.mov (.t 17)), none, []⟩] none [6]) .ret) .skip))) (.seq (.region [⟨(some 18), (.mov (.t 2)), none, []⟩, ⟨(some 6), (.mov (.t 18)), none, []⟩] none [6]) .ret)))
def c_conn_number : AFunc := ⟨[(.tmp 6)], b_conn_number⟩
theorem cf_conn_number : FC 19 = some c_conn_number := by kernel_rfl
theorem cb_conn_number : c_conn_number.body = b_conn_number := rfl
theorem cr_conn_number : c_conn_number.res = [(.tmp 6)] := rfl
def b_conn_refused : ACode := (.seq (.region [⟨(some 2), (.box (.t 0)), none, []⟩, ⟨(some 3), (.box (.t 1)), none, []⟩, ⟨(some 4), (.mov (.c (.int .i64 0))), none, []⟩] none [3, 2]) (.seq (.region [⟨(some 12), (.faddr 9 (.t 3)), none, []⟩, ⟨(some 13), (.ld none (.t 12)), none, []⟩, ⟨(some 14), (.call 18 0 true [(.c (.int .i64 21)), (.t 13)]), none, []⟩, ⟨(some 11), (.mov (.t 14)), none, []⟩, ⟨(some 15), (.ext (.t 11) 0), none, []⟩, ⟨(some 16), (.ext (.t 11) 1), none, []⟩, ⟨(some 5), (.alloc [(.int .i64 0), (.int .i64 0), (.str []), (.str []), (.lst true [])]), none, []⟩, ⟨none, (.st 5 (.t 5) (.t 15)), none, []⟩, ⟨(some 6), (.mov (.t 16)), none, []⟩] none [6, 5, 3, 2]) (.seq (.region [⟨(some 18), (.faddr 9 (.t 3)), none, []⟩, ⟨(some 19), (.ld none (.t 18)), none, []⟩, ⟨(some 20), (.call 18 0 true [(.c (.int .i64 22)), (.t 19)]), none, []⟩, ⟨(some 17), (.mov (.t 20)), none, []⟩, ⟨(some 21), (.ext (.t 17) 0), none, []⟩, ⟨(some 22), (.ext (.t 17) 1), none, []⟩, ⟨(some 7), (.alloc [(.int .i64 0), (.int .i64 0), (.str []), (.str []), (.lst true [])]), none, []⟩, ⟨none, (.st 5 (.t 7) (.t 21)), none, []⟩, ⟨(some 8), (.mov (.t 22)), none, []⟩] none [8, 7, 6, 5, 3, 2]) (.seq (.region [⟨(some 24), (.ld (some 3) (.t 2)), none, []⟩, ⟨(some 25), (.faddr 4 (.t 7)), none, []⟩, ⟨(some 26), (.ld none (.t 25)), none, []⟩, ⟨(some 27), (.b2s (.t 26)), none, []⟩, ⟨(some 28), (.call 33 0 true [(.t 24), (.t 27)]), none, []⟩, ⟨(some 23), (.mov (.t 28)), none, []⟩, ⟨(some 29), (.ext (.t 23) 0), none, []⟩, ⟨(some 30), (.ext (.t 23) 1), none, []⟩, ⟨(some 9), (.mov (.t 29)), none, []⟩, ⟨(some 10), (.mov (.t 30)), none, []⟩] none [10, 8, 6, 5, 3, 2]) (.seq (.block 0 (.seq (.seq (.region [⟨(some 32), (.faddr 14 (.t 3)), none, []⟩, ⟨(some 33), (.ld none (.t 32)), none, []⟩, ⟨(some 34), (.bin .eql (.t 33) (.c (.str []))), none, []⟩, ⟨(some 35), (.mov (.t 34)), none, []⟩, ⟨(some 36), (.faddr 12 (.t 3)), (some (35, true)), []⟩, ⟨(some 37), (.ld none (.t 36)), (some (35, true)), []⟩, ⟨(some 38), (.un .not (.t 37)), (some (35, true)), []⟩, ⟨(some 39), (.pick (.t 35) (.t 38) (.c (.bool false))), none, []⟩, ⟨(some 31), (.mov (.t 39)), none, []⟩] none [31, 10, 8, 6, 5, 3, 2]) (.cond (.t 31) .skip (.region [⟨(some 40), (.faddr 14 (.t 3)), none, []⟩, ⟨(some 41), (.ld none (.t 40)), none, []⟩, ⟨(some 42), (.bin .neq (.t 41) (.c (.str []))), none, []⟩, ⟨(some 43), (.mov (.t 42)), none, []⟩, ⟨(some 44), (.faddr 14 (.t 3)), (some (43, true)), []⟩, ⟨(some 45), (.ld none (.t 44)), (some (43, true)), []⟩, ⟨(some 46), (.call 13 0 true [(.t 45)]), (some (43, true)), []⟩, ⟨(some 47), (.un .not (.t 46)), (some (43, true)), []⟩, ⟨(some 48), (.pick (.t 43) (.t 47) (.c (.bool false))), none, []⟩, ⟨(some 31), (.mov (.t 48)), none, []⟩] none [31, 10, 8, 6, 5, 3, 2]))) (.cond (.t 31) (.seq (.region [⟨(some 4), (.mov (.c (.int .i64 133))), none, []⟩] none [4]) .ret) (.seq (.region [⟨(some 50), (.faddr 15 (.t 3)), none, []⟩, ⟨(some 51), (.ld none (.t 50)), none, []⟩, ⟨(some 52), (.mov (.t 51)), none, []⟩, ⟨(some 53), (.faddr 16 (.t 3)), (some (52, true)), []⟩, ⟨(some 54), (.faddr 0 (.t 53)), (some (52, true)), []⟩, ⟨(some 55), (.ld none (.t 54)), (some (52, true)), []⟩, ⟨(some 56), (.call 34 0 true [(.t 55)]), (some (52, true)), []⟩, ⟨(some 57), (.un .not (.t 56)), (some (52, true)), []⟩, ⟨(some 58), (.pick (.t 52) (.t 57) (.c (.bool false))), none, []⟩, ⟨(some 49), (.mov (.t 58)), none, []⟩] none [49, 10, 8, 6, 5, 3, 2]) (.cond (.t 49) (.seq (.region [⟨(some 4), (.mov (.c (.int .i64 144))), none, []⟩] none [4]) .ret) (.seq (.region [⟨(some 60), (.mov (.t 8)), none, []⟩, ⟨(some 61), (.mov (.t 60)), none, []⟩, ⟨(some 62), (.mov (.t 6)), (some (61, true)), []⟩, ⟨(some 63), (.un .not (.t 62)), (some (61, true)), []⟩, ⟨(some 64), (.pick (.t 61) (.t 63) (.c (.bool false))), none, []⟩, ⟨(some 59), (.mov (.t 64)), none, []⟩] none [59, 10, 6, 5, 3, 2]) (.cond (.t 59) (.seq (.region [⟨(some 4), (.mov (.c (.int .i64 130))), none, []⟩] none [4]) .ret) (.seq (.region [⟨(some 66), (.mov (.t 6)), none, []⟩, ⟨(some 67), (.un .not (.t 66)), none, []⟩, ⟨(some 65), (.mov (.t 67)), none, []⟩] none [65, 10, 5, 3, 2]) (.cond (.t 65) (.seq (.region [⟨(some 68), (.ld (some 3) (.t 2)), none, []⟩, ⟨(some 69), (.ld (some 26) (.t 3)), none, []⟩, ⟨(some 70), (.call 35 0 true [(.t 68), (.t 69)]), none, []⟩, ⟨(some 4), (.mov (.t 70)), none, []⟩] none [4]) .ret) (.seq (.region [⟨(some 72), (.faddr 2 (.t 5)), none, []⟩, ⟨(some 73), (.ld none (.t 72)), none, []⟩, ⟨(some 74), (.bin .neq (.t 73) (.c (.str [112, 114, 111, 111, 102]))), none, []⟩, ⟨(some 71), (.mov (.t 74)), none, []⟩] none [71, 10]) (.cond (.t 71) (.seq (.region [⟨(some 4), (.mov (.c (.int .i64 140))), none, []⟩] none [4]) .ret) (.seq (.region [⟨(some 76), (.mov (.t 10)), none, []⟩, ⟨(some 77), (.un .not (.t 76)), none, []⟩, ⟨(some 75), (.mov (.t 77)), none, []⟩] none [75]) (.cond (.t 75) (.seq (.region [⟨(some 4), (.mov (.c (.int .i64 135))), none, []⟩] none [4]) .ret) .skip))))))))))))) (.seq (.region [⟨(some 4), (.mov (.c (.int .i64 0))), none, []⟩] none [4]) .ret))))))
def c_conn_refused : AFunc := ⟨[(.tmp 4)], b_conn_refused⟩
theorem cf_conn_refused : FC 17 = some c_conn_refused := by kernel_rfl
theorem cb_conn_refused : c_conn_refused.body = b_conn_refused := rfl
theorem cr_conn_refused : c_conn_refused.res = [(.tmp 4)] := rfl
def b_tidingsref23_Meet : ACode := (.seq (.region [⟨(some 4), (.box (.t 0)), none, []⟩, ⟨(some 5), (.box (.t 1)), none, []⟩, ⟨(some 8), (.alloc [(.str []), (.bool false), (.int .i64 0), (.int .i64 0), (.int .i64 0), (.int .i64 0), (.int .i64 0), (.str []), (.str []), (.bool false), (.str []), (.lst true []), (.int .i64 0), (.bool false), (.str []), (.int .i64 0), (.lst true []), (.int .i64 0), (.int .i64 0), (.int .i64 0), (.int .i64 0), (.int .i64 0)]), none, []⟩, ⟨(some 9), (.mov (.c (.int .i64 0))), none, []⟩] none [8, 5, 4, 3, 2]) (.seq (.region [⟨(some 20), (.faddr 14 (.t 5)), none, []⟩, ⟨(some 21), (.ld none (.t 20)), none, []⟩, ⟨(some 22), (.faddr 12 (.t 5)), none, []⟩, ⟨(some 23), (.ld none (.t 22)), none, []⟩, ⟨(some 24), (.faddr 13 (.t 5)), none, []⟩, ⟨(some 25), (.ld none (.t 24)), none, []⟩, ⟨(some 26), (.faddr 15 (.t 5)), none, []⟩, ⟨(some 27), (.ld none (.t 26)), none, []⟩, ⟨(some 28), (.build [(.str []), (.bool false), (.int .i64 0), (.int .i64 0), (.int .i64 0), (.int .i64 0), (.int .i64 0), (.str []), (.str []), (.bool false), (.str []), (.lst true []), (.int .i64 0), (.bool false), (.str []), (.int .i64 0), (.lst true []), (.int .i64 0), (.int .i64 0), (.int .i64 0), (.int .i64 0), (.int .i64 0)] [(0, 1, (.t 21)), (1, 1, (.t 23)), (2, 1, (.t 25)), (9, 1, (.t 27))]), none, []⟩, ⟨(some 10), (.alloc [(.str []), (.bool false), (.int .i64 0), (.int .i64 0), (.int .i64 0), (.int .i64 0), (.int .i64 0), (.str []), (.str []), (.bool false), (.str []), (.lst true []), (.int .i64 0), (.bool false), (.str []), (.int .i64 0), (.lst true []), (.int .i64 0), (.int .i64 0), (.int .i64 0), (.int .i64 0), (.int .i64 0)]), none, []⟩, ⟨none, (.st 22 (.t 10) (.t 28)), none, []⟩] none [10, 8, 5, 4, 3, 2]) (.seq (.seq (.region [⟨(some 29), (.faddr 14 (.t 5)), none, []⟩, ⟨(some 30), (.ld none (.t 29)), none, []⟩, ⟨(some 31), (.bin .eql (.t 30) (.c (.str []))), none, []⟩] none [31, 10, 8, 5, 4, 3, 2]) (.cond (.t 31) (.seq (.seq (.region [⟨(some 32), (.faddr 12 (.t 5)), none, []⟩, ⟨(some 33), (.ld none (.t 32)), none, []⟩, ⟨(some 34), (.un .not (.t 33)), none, []⟩] none [34, 10, 8, 5, 4, 3, 2]) (.cond (.t 34) (.seq (.region [⟨(some 35), (.build [(.str []), (.bool false), (.int .i64 0), (.int .i64 0), (.int .i64 0), (.int .i64 0), (.int .i64 0), (.str []), (.str []), (.bool false), (.str []), (.lst true []), (.int .i64 0), (.bool false), (.str []), (.int .i64 0), (.lst true []), (.int .i64 0), (.int .i64 0), (.int .i64 0), (.int .i64 0), (.int .i64 0)] []), none, []⟩, ⟨none, (.st 22 (.t 8) (.t 35)), none, []⟩, ⟨(some 9), (.mov (.c (.int .i64 133))), none, []⟩] none [9, 8]) .ret) .skip)) (.region [⟨(some 36), (.mov (.t 2)), none, []⟩, ⟨(some 37), (.faddr 0 (.t 10)), none, []⟩, ⟨none, (.st 1 (.t 37) (.t 36)), none, []⟩] none [10, 8, 5, 4, 3])) (.seq (.region [⟨(some 38), (.faddr 14 (.t 5)), none, []⟩, ⟨(some 39), (.ld none (.t 38)), none, []⟩, ⟨(some 40), (.call 14 0 true [(.t 39)]), none, []⟩, ⟨(some 41), (.un .not (.t 40)), none, []⟩] none [41, 10, 8, 5, 4, 3]) (.cond (.t 41) (.seq (.region [⟨(some 42), (.build [(.str []), (.bool false), (.int .i64 0), (.int .i64 0), (.int .i64 0), (.int .i64 0), (.int .i64 0), (.str []), (.str []), (.bool false), (.str []), (.lst true []), (.int .i64 0), (.bool false), (.str []), (.int .i64 0), (.lst true []), (.int .i64 0), (.int .i64 0), (.int .i64 0), (.int .i64 0), (.int .i64 0)] []), none, []⟩, ⟨none, (.st 22 (.t 8) (.t 42)), none, []⟩, ⟨(some 9), (.mov (.c (.int .i64 133))), none, []⟩] none [9, 8]) .ret) .skip)))) (.seq (.seq (.region [⟨(some 43), (.faddr 15 (.t 5)), none, []⟩, ⟨(some 44), (.ld none (.t 43)), none, []⟩, ⟨(some 45), (.mov (.t 44)), none, []⟩, ⟨(some 46), (.faddr 16 (.t 5)), (some (45, true)), []⟩, ⟨(some 47), (.faddr 0 (.t 46)), (some (45, true)), []⟩, ⟨(some 48), (.ld none (.t 47)), (some (45, true)), []⟩, ⟨(some 49), (.call 24 0 true [(.t 48)]), (some (45, true)), []⟩, ⟨(some 50), (.un .not (.t 49)), (some (45, true)), []⟩, ⟨(some 51), (.pick (.t 45) (.t 50) (.c (.bool false))), none, []⟩] none [51, 10, 8, 5, 4, 3]) (.cond (.t 51) (.seq (.region [⟨(some 52), (.build [(.str []), (.bool false), (.int .i64 0), (.int .i64 0), (.int .i64 0), (.int .i64 0), (.int .i64 0), (.str []), (.str []), (.bool false), (.str []), (.lst true []), (.int .i64 0), (.bool false), (.str []), (.int .i64 0), (.lst true []), (.int .i64 0), (.int .i64 0), (.int .i64 0), (.int .i64 0), (.int .i64 0)] []), none, []⟩, ⟨none, (.st 22 (.t 8) (.t 52)), none, []⟩, ⟨(some 9), (.mov (.c (.int .i64 144))), none, []⟩] none [9, 8]) .ret) .skip)) (.seq (.region [⟨(some 54), (.faddr 9 (.t 5)), none, []⟩, ⟨(some 55), (.ld none (.t 54)), none, []⟩, ⟨(some 56), (.call 25 0 true [(.c (.int .i64 21)), (.t 55)]), none, []⟩, ⟨(some 53), (.mov (.t 56)), none, []⟩, ⟨(some 57), (.ext (.t 53) 0), none, []⟩, ⟨(some 58), (.ext (.t 53) 1), none, []⟩, ⟨(some 11), (.alloc [(.int .i64 0), (.int .i64 0), (.str []), (.str []), (.lst true [])]), none, []⟩, ⟨none, (.st 5 (.t 11) (.t 57)), none, []⟩, ⟨(some 12), (.mov (.t 58)), none, []⟩] none [12, 11, 10, 8, 5, 4, 3]) (.seq (.region [⟨(some 60), (.faddr 9 (.t 5)), none, []⟩, ⟨(some 61), (.ld none (.t 60)), none, []⟩, ⟨(some 62), (.call 25 0 true [(.c (.int .i64 22)), (.t 61)]), none, []⟩, ⟨(some 59), (.mov (.t 62)), none, []⟩, ⟨(some 63), (.ext (.t 59) 0), none, []⟩, ⟨(some 64), (.ext (.t 59) 1), none, []⟩, ⟨(some 13), (.alloc [(.int .i64 0), (.int .i64 0), (.str []), (.str []), (.lst true [])]), none, []⟩, ⟨none, (.st 5 (.t 13) (.t 63)), none, []⟩, ⟨(some 14), (.mov (.t 64)), none, []⟩] none [14, 13, 12, 11, 10, 8, 5, 4, 3]) (.seq (.seq (.region [⟨(some 65), (.mov (.t 14)), none, []⟩, ⟨(some 66), (.mov (.t 65)), none, []⟩, ⟨(some 67), (.mov (.t 12)), (some (66, true)), []⟩, ⟨(some 68), (.un .not (.t 67)), (some (66, true)), []⟩, ⟨(some 69), (.pick (.t 66) (.t 68) (.c (.bool false))), none, []⟩] none [69, 13, 12, 11, 10, 8, 5, 4, 3]) (.cond (.t 69) (.seq (.region [⟨(some 70), (.build [(.str []), (.bool false), (.int .i64 0), (.int .i64 0), (.int .i64 0), (.int .i64 0), (.int .i64 0), (.str []), (.str []), (.bool false), (.str []), (.lst true []), (.int .i64 0), (.bool false), (.str []), (.int .i64 0), (.lst true []), (.int .i64 0), (.int .i64 0), (.int .i64 0), (.int .i64 0), (.int .i64 0)] []), none, []⟩, ⟨none, (.st 22 (.t 8) (.t 70)), none, []⟩, ⟨(some 9), (.mov (.c (.int .i64 130))), none, []⟩] none [9, 8]) .ret) .skip)) (.seq (.seq (.region [⟨(some 71), (.mov (.t 12)), none, []⟩] none [71, 13, 11, 10, 8, 5, 4, 3]) (.cond (.t 71) (.seq (.seq (.region [⟨(some 72), (.faddr 2 (.t 11)), none, []⟩, ⟨(some 73), (.ld none (.t 72)), none, []⟩, ⟨(some 74), (.bin .neq (.t 73) (.c (.str [112, 114, 111, 111, 102]))), none, []⟩] none [74, 13, 11, 10, 8, 5, 4, 3]) (.cond (.t 74) (.seq (.region [⟨(some 75), (.build [(.str []), (.bool false), (.int .i64 0), (.int .i64 0), (.int .i64 0), (.int .i64 0), (.int .i64 0), (.str []), (.str []), (.bool false), (.str []), (.lst true []), (.int .i64 0), (.bool false), (.str []), (.int .i64 0), (.lst true []), (.int .i64 0), (.int .i64 0), (.int .i64 0), (.int .i64 0), (.int .i64 0)] []), none, []⟩, ⟨none, (.st 22 (.t 8) (.t 75)), none, []⟩, ⟨(some 9), (.mov (.c (.int .i64 140))), none, []⟩] none [9, 8]) .ret) .skip)) (.seq (.seq (.region [⟨(some 77), (.ld (some 3) (.t 4)), none, []⟩, ⟨(some 78), (.faddr 4 (.t 13)), none, []⟩, ⟨(some 79), (.ld none (.t 78)), none, []⟩, ⟨(some 80), (.b2s (.t 79)), none, []⟩, ⟨(some 81), (.call 26 0 true [(.t 77), (.t 80)]), none, []⟩, ⟨(some 76), (.mov (.t 81)), none, []⟩, ⟨(some 82), (.ext (.t 76) 0), none, []⟩, ⟨(some 83), (.ext (.t 76) 1), none, []⟩, ⟨(some 15), (.mov (.t 82)), none, []⟩, ⟨(some 16), (.mov (.t 83)), none, []⟩] none [16, 13, 11, 10, 8, 5, 3]) (.seq (.region [⟨(some 84), (.mov (.t 16)), none, []⟩, ⟨(some 85), (.un .not (.t 84)), none, []⟩] none [85, 13, 11, 10, 8, 5, 3]) (.cond (.t 85) (.seq (.region [⟨(some 86), (.build [(.str []), (.bool false), (.int .i64 0), (.int .i64 0), (.int .i64 0), (.int .i64 0), (.int .i64 0), (.str []), (.str []), (.bool false), (.str []), (.lst true []), (.int .i64 0), (.bool false), (.str []), (.int .i64 0), (.lst true []), (.int .i64 0), (.int .i64 0), (.int .i64 0), (.int .i64 0), (.int .i64 0)] []), none, []⟩, ⟨none, (.st 22 (.t 8) (.t 86)), none, []⟩, ⟨(some 9), (.mov (.c (.int .i64 135))), none, []⟩] none [9, 8]) .ret) .skip))) (.seq (.region [⟨(some 87), (.faddr 2 (.t 11)), none, []⟩, ⟨(some 88), (.ld none (.t 87)), none, []⟩, ⟨(some 89), (.faddr 7 (.t 10)), none, []⟩, ⟨none, (.st 1 (.t 89) (.t 88)), none, []⟩] none [13, 10, 8, 5, 3]) (.region [⟨(some 90), (.faddr 4 (.t 13)), none, []⟩, ⟨(some 91), (.ld none (.t 90)), none, []⟩, ⟨(some 92), (.b2s (.t 91)), none, []⟩, ⟨(some 93), (.faddr 8 (.t 10)), none, []⟩, ⟨none, (.st 1 (.t 93) (.t 92)), none, []⟩] none [10, 8, 5, 3])))) (.seq (.seq (.region [⟨(some 94), (.ld (some 3) (.t 4)), none, []⟩, ⟨(some 95), (.ld (some 26) (.t 5)), none, []⟩, ⟨(some 96), (.call 27 0 true [(.t 94), (.t 95)]), none, []⟩, ⟨(some 17), (.mov (.t 96)), none, []⟩] none [17, 10, 8, 5, 3]) (.seq (.region [⟨(some 97), (.mov (.t 17)), none, []⟩, ⟨(some 98), (.bin .neq (.t 97) (.c (.int .i64 0))), none, []⟩] none [98, 17, 10, 8, 5, 3]) (.cond (.t 98) (.seq (.region [⟨(some 99), (.build [(.str []), (.bool false), (.int .i64 0), (.int .i64 0), (.int .i64 0), (.int .i64 0), (.int .i64 0), (.str []), (.str []), (.bool false), (.str []), (.lst true []), (.int .i64 0), (.bool false), (.str []), (.int .i64 0), (.lst true []), (.int .i64 0), (.int .i64 0), (.int .i64 0), (.int .i64 0), (.int .i64 0)] []), none, []⟩, ⟨(some 100), (.mov (.t 17)), none, []⟩, ⟨none, (.st 22 (.t 8) (.t 99)), none, []⟩, ⟨(some 9), (.mov (.t 100)), none, []⟩] none [9, 8]) .ret) .skip))) (.region [⟨(some 101), (.faddr 22 (.t 5)), none, []⟩, ⟨(some 102), (.ld none (.t 101)), none, []⟩, ⟨(some 103), (.faddr 8 (.t 10)), none, []⟩, ⟨none, (.st 1 (.t 103) (.t 102)), none, []⟩] none [10, 8, 5, 3])))) (.seq (.region [⟨(some 104), (.faddr 9 (.t 5)), none, []⟩, ⟨(some 105), (.ld none (.t 104)), none, []⟩, ⟨(some 106), (.call 28 0 true [(.c (.int .i64 17)), (.t 105), (.c (.int .i64 0))]), none, []⟩, ⟨(some 107), (.faddr 3 (.t 10)), none, []⟩, ⟨none, (.st 1 (.t 107) (.t 106)), none, []⟩] none [10, 8, 5, 3]) (.seq (.region [⟨(some 108), (.faddr 9 (.t 5)), none, []⟩, ⟨(some 109), (.ld none (.t 108)), none, []⟩, ⟨(some 110), (.call 28 0 true [(.c (.int .i64 33)), (.t 109), (.c (.int .i64 65535))]), none, []⟩, ⟨(some 111), (.faddr 4 (.t 10)), none, []⟩, ⟨none, (.st 1 (.t 111) (.t 110)), none, []⟩] none [10, 8, 5, 3]) (.seq (.region [⟨(some 112), (.faddr 9 (.t 5)), none, []⟩, ⟨(some 113), (.ld none (.t 112)), none, []⟩, ⟨(some 114), (.call 28 0 true [(.c (.int .i64 39)), (.t 113), (.c (.int .i64 268435460))]), none, []⟩, ⟨(some 115), (.faddr 5 (.t 10)), none, []⟩, ⟨none, (.st 1 (.t 115) (.t 114)), none, []⟩] none [10, 8, 5, 3]) (.seq (.region [⟨(some 116), (.faddr 9 (.t 5)), none, []⟩, ⟨(some 117), (.ld none (.t 116)), none, []⟩, ⟨(some 118), (.call 28 0 true [(.c (.int .i64 34)), (.t 117), (.c (.int .i64 0))]), none, []⟩, ⟨(some 119), (.faddr 6 (.t 10)), none, []⟩, ⟨none, (.st 1 (.t 119) (.t 118)), none, []⟩] none [10, 8, 5, 3]) (.seq (.seq (.region [⟨(some 120), (.faddr 15 (.t 5)), none, []⟩, ⟨(some 121), (.ld none (.t 120)), none, []⟩] none [121, 10, 8, 5, 3]) (.cond (.t 121) (.seq (.region [⟨(some 122), (.faddr 16 (.t 5)), none, []⟩, ⟨(some 123), (.ld (some 5) (.t 122)), none, []⟩, ⟨(some 18), (.alloc [(.str []), (.lst true []), (.int .i64 0), (.bool false), (.lst true [])]), none, []⟩, ⟨none, (.st 5 (.t 18) (.t 123)), none, []⟩] none [18, 10, 8, 3]) (.seq (.region [⟨(some 124), (.faddr 1 (.t 18)), none, []⟩, ⟨(some 125), (.ld none (.t 124)), none, []⟩, ⟨(some 126), (.faddr 2 (.t 18)), none, []⟩, ⟨(some 127), (.ld none (.t 126)), none, []⟩, ⟨(some 128), (.faddr 3 (.t 18)), none, []⟩, ⟨(some 129), (.ld none (.t 128)), none, []⟩, ⟨(some 130), (.faddr 4 (.t 18)), none, []⟩, ⟨(some 131), (.ld none (.t 130)), none, []⟩, ⟨(some 132), (.call 29 0 true [(.t 131)]), none, []⟩, ⟨(some 133), (.build [(.int .i64 0), (.bool false), (.int .i64 0), (.bool false), (.int .i64 0), (.str []), (.lst true []), (.int .i64 0), (.lst true []), (.lst true []), (.lst true []), (.lst true []), (.bool false), (.int .i64 0), (.str []), (.bool false), (.str []), (.lst true []), (.int .i64 0), (.bool false), (.lst true []), (.bool false), (.str []), (.bool false), (.lst true []), (.bool false)] [(6, 1, (.t 125)), (2, 1, (.t 127)), (3, 1, (.t 129)), (9, 1, (.t 132))]), none, []⟩, ⟨(some 19), (.alloc [(.int .i64 0), (.bool false), (.int .i64 0), (.bool false), (.int .i64 0), (.str []), (.lst true []), (.int .i64 0), (.lst true []), (.lst true []), (.lst true []), (.lst true []), (.bool false), (.int .i64 0), (.str []), (.bool false), (.str []), (.lst true []), (.int .i64 0), (.bool false), (.lst true []), (.bool false), (.str []), (.bool false), (.lst true []), (.bool false)]), none, []⟩, ⟨none, (.st 26 (.t 19) (.t 133)), none, []⟩] (some [(1, 3), (1, 5), (3, 5), (1, 7), (3, 7), (5, 7), (1, 8), (3, 8), (5, 8), (1, 10), (3, 10), (5, 10), (7, 10), (8, 10)]) [19, 18, 10, 8, 3]) (.seq (.region [⟨(some 134), (.ld (some 26) (.t 19)), none, []⟩, ⟨(some 135), (.faddr 0 (.t 18)), none, []⟩, ⟨(some 136), (.ld none (.t 135)), none, []⟩, ⟨(some 137), (.faddr 0 (.t 10)), none, []⟩, ⟨(some 138), (.ld none (.t 137)), none, []⟩, ⟨(some 139), (.mov (.t 3)), none, []⟩, ⟨(some 140), (.call 30 0 true [(.t 134), (.t 136), (.t 138), (.t 139)]), none, []⟩, ⟨(some 141), (.faddr 10 (.t 10)), none, []⟩, ⟨none, (.st 10 (.t 141) (.t 140)), none, []⟩] none [18, 10, 8]) (.seq (.region [⟨(some 142), (.faddr 4 (.t 18)), none, []⟩, ⟨(some 143), (.ld none (.t 142)), none, []⟩, ⟨(some 144), (.call 28 0 true [(.c (.int .i64 24)), (.t 143), (.c (.int .i64 0))]), none, []⟩, ⟨(some 145), (.faddr 20 (.t 10)), none, []⟩, ⟨none, (.st 1 (.t 145) (.t 144)), none, []⟩] none [18, 10, 8]) (.region [⟨(some 146), (.faddr 4 (.t 18)), none, []⟩, ⟨(some 147), (.ld none (.t 146)), none, []⟩, ⟨(some 148), (.call 28 0 true [(.c (.int .i64 2)), (.t 147), (.c (.int .i64 (-1)))]), none, []⟩, ⟨(some 149), (.faddr 21 (.t 10)), none, []⟩, ⟨none, (.st 1 (.t 149) (.t 148)), none, []⟩] none [10, 8]))))) .skip)) (.seq (.region [⟨(some 150), (.ld (some 22) (.t 10)), none, []⟩, ⟨none, (.st 22 (.t 8) (.t 150)), none, []⟩, ⟨(some 9), (.mov (.c (.int .i64 0))), none, []⟩] none [9, 8]) .ret))))))))))))))
def c_tidingsref23_Meet : AFunc := ⟨[(.cell 8 (some 22)), (.tmp 9)], b_tidingsref23_Meet⟩
theorem cf_tidingsref23_Meet : FC 10 = some c_tidingsref23_Meet := by kernel_rfl
theorem cb_tidingsref23_Meet : c_tidingsref23_Meet.body = b_tidingsref23_Meet := rfl
theorem cr_tidingsref23_Meet : c_tidingsref23_Meet.res = [(.cell 8 (some 22)), (.tmp 9)] := rfl
def c_tidingsref23_Name_k0 : ACode := (.seq (.region [⟨(some 37), (.mov (.t 0)), none, []⟩, ⟨(some 38), (.slen (.t 37)), none, []⟩, ⟨(some 39), (.bin .geq (.t 38) (.c (.int .i64 1))), none, []⟩, ⟨(some 40), (.mov (.t 39)), none, []⟩, ⟨(some 41), (.mov (.t 0)), (some (40, true)), []⟩, ⟨(some 42), (.slen (.t 41)), (some (40, true)), []⟩, ⟨(some 43), (.bin .leq (.t 42) (.c (.int .i64 23))), (some (40, true)), []⟩, ⟨(some 44), (.pick (.t 40) (.t 43) (.c (.bool false))), none, []⟩, ⟨(some 2), (.mov (.t 44)), none, []⟩] none [2]) .ret)
theorem x_tidingsref23_Name_k0 (m : Nat) (tm : Tms) (σ : AHeap) : evC FC PR BY m c_tidingsref23_Name_k0 tm σ = evC FC PR BY m (.seq (.region [⟨(some 37), (.mov (.t 0)), none, []⟩, ⟨(some 38), (.slen (.t 37)), none, []⟩, ⟨(some 39), (.bin .geq (.t 38) (.c (.int .i64 1))), none, []⟩, ⟨(some 40), (.mov (.t 39)), none, []⟩, ⟨(some 41), (.mov (.t 0)), (some (40, true)), []⟩, ⟨(some 42), (.slen (.t 41)), (some (40, true)), []⟩, ⟨(some 43), (.bin .leq (.t 42) (.c (.int .i64 23))), (some (40, true)), []⟩, ⟨(some 44), (.pick (.t 40) (.t 43) (.c (.bool false))), none, []⟩, ⟨(some 2), (.mov (.t 44)), none, []⟩] none [2]) .ret) tm σ := rfl
def c_tidingsref23_Name_l2 : ACode := (.seq (.seq (.region [⟨(some 5), (.mov (.t 3)), none, []⟩, ⟨(some 6), (.mov (.t 0)), none, []⟩, ⟨(some 7), (.slen (.t 6)), none, []⟩, ⟨(some 8), (.bin .lss (.t 5) (.t 7)), none, []⟩] none [8, 3, 0]) (.cond (.t 8) .skip (.exit 0))) (.seq (.block 1 (.seq (.region [⟨(some 11), (.mov (.t 0)), none, []⟩, ⟨(some 12), (.mov (.t 3)), none, []⟩, ⟨(some 13), (.sindex (.t 11) (.t 12)), none, []⟩, ⟨(some 4), (.mov (.t 13)), none, []⟩] none [4, 3, 0]) (.seq (.region [⟨(some 14), (.mov (.t 4)), none, []⟩, ⟨(some 15), (.bin .geq (.t 14) (.c (.int .u8 48))), none, []⟩, ⟨(some 16), (.mov (.t 15)), none, []⟩, ⟨(some 17), (.mov (.t 4)), (some (16, true)), []⟩, ⟨(some 18), (.bin .leq (.t 17) (.c (.int .u8 57))), (some (16, true)), []⟩, ⟨(some 19), (.pick (.t 16) (.t 18) (.c (.bool false))), none, []⟩, ⟨(some 20), (.mov (.t 19)), none, []⟩, ⟨(some 21), (.mov (.t 4)), (some (20, false)), []⟩, ⟨(some 22), (.bin .geq (.t 21) (.c (.int .u8 65))), (some (20, false)), []⟩, ⟨(some 23), (.mov (.t 22)), (some (20, false)), []⟩, ⟨(some 24), (.mov (.t 4)), (some (23, true)), []⟩, ⟨(some 25), (.bin .leq (.t 24) (.c (.int .u8 90))), (some (23, true)), []⟩, ⟨(some 26), (.pick (.t 23) (.t 25) (.c (.bool false))), (some (20, false)), []⟩, ⟨(some 27), (.pick (.t 20) (.c (.bool true)) (.t 26)), none, []⟩, ⟨(some 28), (.mov (.t 27)), none, []⟩, ⟨(some 29), (.mov (.t 4)), (some (28, false)), []⟩, ⟨(some 30), (.bin .geq (.t 29) (.c (.int .u8 97))), (some (28, false)), []⟩, ⟨(some 31), (.mov (.t 30)), (some (28, false)), []⟩, ⟨(some 32), (.mov (.t 4)), (some (31, true)), []⟩, ⟨(some 33), (.bin .leq (.t 32) (.c (.int .u8 122))), (some (31, true)), []⟩, ⟨(some 34), (.pick (.t 31) (.t 33) (.c (.bool false))), (some (28, false)), []⟩, ⟨(some 35), (.pick (.t 28) (.c (.bool true)) (.t 34)), none, []⟩, ⟨(some 36), (.un .not (.t 35)), none, []⟩] none [36, 3, 0]) (.cond (.t 36) (.seq (.region [⟨(some 2), (.mov (.c (.bool false))), none, []⟩] none [2]) .ret) .skip)))) (.region [⟨(some 9), (.mov (.t 3)), none, []⟩, ⟨(some 10), (.bin .add (.t 9) (.c (.int .i64 1))), none, []⟩, ⟨(some 3), (.mov (.t 10)), none, []⟩] none [3, 0])))
theorem x_tidingsref23_Name_l2 (m : Nat) (tm : Tms) (σ : AHeap) : evC FC PR BY m c_tidingsref23_Name_l2 tm σ = evC FC PR BY m (.seq (.seq (.region [⟨(some 5), (.mov (.t 3)), none, []⟩, ⟨(some 6), (.mov (.t 0)), none, []⟩, ⟨(some 7), (.slen (.t 6)), none, []⟩, ⟨(some 8), (.bin .lss (.t 5) (.t 7)), none, []⟩] none [8, 3, 0]) (.cond (.t 8) .skip (.exit 0))) (.seq (.block 1 (.seq (.region [⟨(some 11), (.mov (.t 0)), none, []⟩, ⟨(some 12), (.mov (.t 3)), none, []⟩, ⟨(some 13), (.sindex (.t 11) (.t 12)), none, []⟩, ⟨(some 4), (.mov (.t 13)), none, []⟩] none [4, 3, 0]) (.seq (.region [⟨(some 14), (.mov (.t 4)), none, []⟩, ⟨(some 15), (.bin .geq (.t 14) (.c (.int .u8 48))), none, []⟩, ⟨(some 16), (.mov (.t 15)), none, []⟩, ⟨(some 17), (.mov (.t 4)), (some (16, true)), []⟩, ⟨(some 18), (.bin .leq (.t 17) (.c (.int .u8 57))), (some (16, true)), []⟩, ⟨(some 19), (.pick (.t 16) (.t 18) (.c (.bool false))), none, []⟩, ⟨(some 20), (.mov (.t 19)), none, []⟩, ⟨(some 21), (.mov (.t 4)), (some (20, false)), []⟩, ⟨(some 22), (.bin .geq (.t 21) (.c (.int .u8 65))), (some (20, false)), []⟩, ⟨(some 23), (.mov (.t 22)), (some (20, false)), []⟩, ⟨(some 24), (.mov (.t 4)), (some (23, true)), []⟩, ⟨(some 25), (.bin .leq (.t 24) (.c (.int .u8 90))), (some (23, true)), []⟩, ⟨(some 26), (.pick (.t 23) (.t 25) (.c (.bool false))), (some (20, false)), []⟩, ⟨(some 27), (.pick (.t 20) (.c (.bool true)) (.t 26)), none, []⟩, ⟨(some 28), (.mov (.t 27)), none, []⟩, ⟨(some 29), (.mov (.t 4)), (some (28, false)), []⟩, ⟨(some 30), (.bin .geq (.t 29) (.c (.int .u8 97))), (some (28, false)), []⟩, ⟨(some 31), (.mov (.t 30)), (some (28, false)), []⟩, ⟨(some 32), (.mov (.t 4)), (some (31, true)), []⟩, ⟨(some 33), (.bin .leq (.t 32) (.c (.int .u8 122))), (some (31, true)), []⟩, ⟨(some 34), (.pick (.t 31) (.t 33) (.c (.bool false))), (some (28, false)), []⟩, ⟨(some 35), (.pick (.t 28) (.c (.bool true)) (.t 34)), none, []⟩, ⟨(some 36), (.un .not (.t 35)), none, []⟩] none [36, 3, 0]) (.cond (.t 36) (.seq (.region [⟨(some 2), (.mov (.c (.bool false))), none, []⟩] none [2]) .ret) .skip)))) (.region [⟨(some 9), (.mov (.t 3)), none, []⟩, ⟨(some 10), (.bin .add (.t 9) (.c (.int .i64 1))), none, []⟩, ⟨(some 3), (.mov (.t 10)), none, []⟩] none [3, 0]))) tm σ := rfl
def b_tidingsref23_Name : ACode := (.seq (.region [⟨(some 2), (.mov (.c (.bool false))), none, []⟩] none [0]) (.seq (.seq (.region [⟨(some 3), (.mov (.c (.int .i64 0))), none, []⟩] none [3, 0]) (.block 0 (.loop [3, 0] c_tidingsref23_Name_l2))) c_tidingsref23_Name_k0))
def c_tidingsref23_Name : AFunc := ⟨[(.tmp 2)], b_tidingsref23_Name⟩
theorem cf_tidingsref23_Name : FC 14 = some c_tidingsref23_Name := by kernel_rfl
theorem cb_tidingsref23_Name : c_tidingsref23_Name.body = b_tidingsref23_Name := rfl
theorem cr_tidingsref23_Name : c_tidingsref23_Name.res = [(.tmp 2)] := rfl
/-- slots [3, 0] -/
noncomputable def K_tidingsref23_Name_l2 (m : Nat) (tm : Tms) (σ : AHeap) : Option (AVal × AHeap) := (finA m c_tidingsref23_Name (seqX FC PR BY m c_tidingsref23_Name_k0 (Option.map (blockA 0) (evL FC PR BY m [3, 0] c_tidingsref23_Name_l2 tm σ))))
def b_tidingsref23_Same : ACode := (.seq (.region [⟨(some 2), (.box (.t 0)), none, []⟩, ⟨(some 3), (.box (.t 1)), none, []⟩, ⟨(some 4), (.mov (.c (.bool false))), none, []⟩] none [3, 2]) (.seq (.region [⟨(some 5), (.faddr 0 (.t 2)), none, []⟩, ⟨(some 6), (.ld none (.t 5)), none, []⟩, ⟨(some 7), (.faddr 0 (.t 3)), none, []⟩, ⟨(some 8), (.ld none (.t 7)), none, []⟩, ⟨(some 9), (.bin .eql (.t 6) (.t 8)), none, []⟩, ⟨(some 10), (.mov (.t 9)), none, []⟩, ⟨(some 11), (.faddr 1 (.t 2)), (some (10, true)), []⟩, ⟨(some 12), (.ld none (.t 11)), (some (10, true)), []⟩, ⟨(some 13), (.faddr 1 (.t 3)), (some (10, true)), []⟩, ⟨(some 14), (.ld none (.t 13)), (some (10, true)), []⟩, ⟨(some 15), (.beq false (.t 12) (.t 14)), (some (10, true)), []⟩, ⟨(some 16), (.pick (.t 10) (.t 15) (.c (.bool false))), none, []⟩, ⟨(some 17), (.mov (.t 16)), none, []⟩, ⟨(some 18), (.faddr 2 (.t 2)), (some (17, true)), []⟩, ⟨(some 19), (.ld none (.t 18)), (some (17, true)), []⟩, ⟨(some 20), (.faddr 2 (.t 3)), (some (17, true)), []⟩, ⟨(some 21), (.ld none (.t 20)), (some (17, true)), []⟩, ⟨(some 22), (.bin .eql (.t 19) (.t 21)), (some (17, true)), []⟩, ⟨(some 23), (.pick (.t 17) (.t 22) (.c (.bool false))), none, []⟩, ⟨(some 24), (.mov (.t 23)), none, []⟩, ⟨(some 25), (.faddr 3 (.t 2)), (some (24, true)), []⟩, ⟨(some 26), (.ld none (.t 25)), (some (24, true)), []⟩, ⟨(some 27), (.faddr 3 (.t 3)), (some (24, true)), []⟩, ⟨(some 28), (.ld none (.t 27)), (some (24, true)), []⟩, ⟨(some 29), (.bin .eql (.t 26) (.t 28)), (some (24, true)), []⟩, ⟨(some 30), (.pick (.t 24) (.t 29) (.c (.bool false))), none, []⟩, ⟨(some 31), (.mov (.t 30)), none, []⟩, ⟨(some 32), (.faddr 4 (.t 2)), (some (31, true)), []⟩, ⟨(some 33), (.ld none (.t 32)), (some (31, true)), []⟩, ⟨(some 34), (.faddr 4 (.t 3)), (some (31, true)), []⟩, ⟨(some 35), (.ld none (.t 34)), (some (31, true)), []⟩, ⟨(some 36), (.bin .eql (.t 33) (.t 35)), (some (31, true)), []⟩, ⟨(some 37), (.pick (.t 31) (.t 36) (.c (.bool false))), none, []⟩, ⟨(some 38), (.mov (.t 37)), none, []⟩, ⟨(some 39), (.faddr 5 (.t 2)), (some (38, true)), []⟩, ⟨(some 40), (.ld none (.t 39)), (some (38, true)), []⟩, ⟨(some 41), (.faddr 5 (.t 3)), (some (38, true)), []⟩, ⟨(some 42), (.ld none (.t 41)), (some (38, true)), []⟩, ⟨(some 43), (.bin .eql (.t 40) (.t 42)), (some (38, true)), []⟩, ⟨(some 44), (.pick (.t 38) (.t 43) (.c (.bool false))), none, []⟩, ⟨(some 45), (.mov (.t 44)), none, []⟩, ⟨(some 46), (.faddr 6 (.t 2)), (some (45, true)), []⟩, ⟨(some 47), (.ld none (.t 46)), (some (45, true)), []⟩, ⟨(some 48), (.faddr 6 (.t 3)), (some (45, true)), []⟩, ⟨(some 49), (.ld none (.t 48)), (some (45, true)), []⟩, ⟨(some 50), (.bin .eql (.t 47) (.t 49)), (some (45, true)), []⟩, ⟨(some 51), (.pick (.t 45) (.t 50) (.c (.bool false))), none, []⟩, ⟨(some 52), (.mov (.t 51)), none, []⟩, ⟨(some 53), (.faddr 7 (.t 2)), (some (52, true)), []⟩, ⟨(some 54), (.ld none (.t 53)), (some (52, true)), []⟩, ⟨(some 55), (.faddr 7 (.t 3)), (some (52, true)), []⟩, ⟨(some 56), (.ld none (.t 55)), (some (52, true)), []⟩, ⟨(some 57), (.bin .eql (.t 54) (.t 56)), (some (52, true)), []⟩, ⟨(some 58), (.pick (.t 52) (.t 57) (.c (.bool false))), none, []⟩, ⟨(some 59), (.mov (.t 58)), none, []⟩, ⟨(some 60), (.faddr 8 (.t 2)), (some (59, true)), []⟩, ⟨(some 61), (.ld none (.t 60)), (some (59, true)), []⟩, ⟨(some 62), (.faddr 8 (.t 3)), (some (59, true)), []⟩, ⟨(some 63), (.ld none (.t 62)), (some (59, true)), []⟩, ⟨(some 64), (.bin .eql (.t 61) (.t 63)), (some (59, true)), []⟩, ⟨(some 65), (.pick (.t 59) (.t 64) (.c (.bool false))), none, []⟩, ⟨(some 66), (.mov (.t 65)), none, []⟩, ⟨(some 67), (.faddr 9 (.t 2)), (some (66, true)), []⟩, ⟨(some 68), (.ld none (.t 67)), (some (66, true)), []⟩, ⟨(some 69), (.faddr 9 (.t 3)), (some (66, true)), []⟩, ⟨(some 70), (.ld none (.t 69)), (some (66, true)), []⟩, ⟨(some 71), (.beq false (.t 68) (.t 70)), (some (66, true)), []⟩, ⟨(some 72), (.pick (.t 66) (.t 71) (.c (.bool false))), none, []⟩, ⟨(some 73), (.mov (.t 72)), none, []⟩, ⟨(some 74), (.faddr 10 (.t 2)), (some (73, true)), []⟩, ⟨(some 75), (.ld (some 10) (.t 74)), (some (73, true)), []⟩, ⟨(some 76), (.faddr 10 (.t 3)), (some (73, true)), []⟩, ⟨(some 77), (.ld (some 10) (.t 76)), (some (73, true)), []⟩, ⟨(some 78), (.call 32 0 true [(.t 75), (.t 77)]), (some (73, true)), []⟩, ⟨(some 79), (.pick (.t 73) (.t 78) (.c (.bool false))), none, []⟩, ⟨(some 80), (.mov (.t 79)), none, []⟩, ⟨(some 81), (.faddr 20 (.t 2)), (some (80, true)), []⟩, ⟨(some 82), (.ld none (.t 81)), (some (80, true)), []⟩, ⟨(some 83), (.faddr 20 (.t 3)), (some (80, true)), []⟩, ⟨(some 84), (.ld none (.t 83)), (some (80, true)), []⟩, ⟨(some 85), (.bin .eql (.t 82) (.t 84)), (some (80, true)), []⟩, ⟨(some 86), (.pick (.t 80) (.t 85) (.c (.bool false))), none, []⟩, ⟨(some 87), (.mov (.t 86)), none, []⟩, ⟨(some 88), (.faddr 21 (.t 2)), (some (87, true)), []⟩, ⟨(some 89), (.ld none (.t 88)), (some (87, true)), []⟩, ⟨(some 90), (.faddr 21 (.t 3)), (some (87, true)), []⟩, ⟨(some 91), (.ld none (.t 90)), (some (87, true)), []⟩, ⟨(some 92), (.bin .eql (.t 89) (.t 91)), (some (87, true)), []⟩, ⟨(some 93), (.pick (.t 87) (.t 92) (.c (.bool false))), none, []⟩, ⟨(some 4), (.mov (.t 93)), none, []⟩] none [4]) .ret))
def c_tidingsref23_Same : AFunc := ⟨[(.tmp 4)], b_tidingsref23_Same⟩
theorem cf_tidingsref23_Same : FC 12 = some c_tidingsref23_Same := by kernel_rfl
theorem cb_tidingsref23_Same : c_tidingsref23_Same.body = b_tidingsref23_Same := rfl
theorem cr_tidingsref23_Same : c_tidingsref23_Same.res = [(.tmp 4)] := rfl
end Go.Proofs.YtaaflagbhneakaaDoor
namespace Go.Proofs.YtaaflagbhneakaaDoor
set_option linter.unusedSimpArgs false
set_option linter.unusedVariables false
def b_proof_Enter : ACode := (.seq (.region [⟨(some 2), (.box (.t 0)), none, []⟩, ⟨(some 3), (.box (.t 1)), none, []⟩, ⟨(some 4), (.mov (.c (.int .i64 0))), none, []⟩] none [3, 2]) (.seq (.block 0 (.seq (.region [⟨(some 8), (.faddr 21 (.t 3)), none, []⟩, ⟨(some 9), (.ld none (.t 8)), none, []⟩, ⟨(some 7), (.mov (.t 9)), none, []⟩] none [7, 3, 2]) (.cond (.t 7) (.seq (.seq (.region [⟨(some 11), (.ld (some 3) (.t 2)), none, []⟩, ⟨(some 12), (.faddr 22 (.t 3)), none, []⟩, ⟨(some 13), (.ld none (.t 12)), none, []⟩, ⟨(some 14), (.call 33 0 true [(.t 11), (.t 13)]), none, []⟩, ⟨(some 10), (.mov (.t 14)), none, []⟩, ⟨(some 15), (.ext (.t 10) 0), none, []⟩, ⟨(some 16), (.ext (.t 10) 1), none, []⟩, ⟨(some 5), (.mov (.t 15)), none, []⟩, ⟨(some 6), (.mov (.t 16)), none, []⟩] none [6, 5, 3]) (.seq (.region [⟨(some 17), (.mov (.t 6)), none, []⟩, ⟨(some 18), (.mov (.t 17)), none, []⟩, ⟨(some 19), (.faddr 23 (.t 3)), (some (18, true)), []⟩, ⟨(some 20), (.ld none (.t 19)), (some (18, true)), []⟩, ⟨(some 21), (.pick (.t 18) (.t 20) (.c (.bool false))), none, []⟩, ⟨(some 22), (.mov (.t 21)), none, []⟩, ⟨(some 23), (.mov (.t 5)), (some (22, true)), []⟩, ⟨(some 24), (.faddr 24 (.t 3)), (some (22, true)), []⟩, ⟨(some 25), (.ld none (.t 24)), (some (22, true)), []⟩, ⟨(some 26), (.call 46 0 true [(.t 23), (.t 25)]), (some (22, true)), []⟩, ⟨(some 27), (.pick (.t 22) (.t 26) (.c (.bool false))), none, []⟩] none [27]) (.cond (.t 27) (.seq (.region [⟨(some 4), (.mov (.c (.int .i64 0))), none, []⟩] none [4]) .ret) .skip))) (.seq (.region [⟨(some 4), (.mov (.c (.int .i64 134))), none, []⟩] none [4]) .ret)) (.seq (.region [⟨(some 29), (.faddr 23 (.t 3)), none, []⟩, ⟨(some 30), (.ld none (.t 29)), none, []⟩, ⟨(some 28), (.mov (.t 30)), none, []⟩] none [28, 2]) (.cond (.t 28) (.seq (.region [⟨(some 4), (.mov (.c (.int .i64 134))), none, []⟩] none [4]) .ret) (.seq (.region [⟨(some 32), (.faddr 1 (.t 2)), none, []⟩, ⟨(some 33), (.ld none (.t 32)), none, []⟩, ⟨(some 31), (.mov (.t 33)), none, []⟩] none [31]) (.cond (.t 31) (.seq (.region [⟨(some 4), (.mov (.c (.int .i64 0))), none, []⟩] none [4]) .ret) .skip))))))) (.seq (.region [⟨(some 4), (.mov (.c (.int .i64 135))), none, []⟩] none [4]) .ret)))
def c_proof_Enter : AFunc := ⟨[(.tmp 4)], b_proof_Enter⟩
theorem cf_proof_Enter : FC 35 = some c_proof_Enter := by kernel_rfl
theorem cb_proof_Enter : c_proof_Enter.body = b_proof_Enter := rfl
theorem cr_proof_Enter : c_proof_Enter.res = [(.tmp 4)] := rfl
def c_proof_Secret_k0 : ACode := (.seq (.region [⟨(some 4), (.mov (.c (.lst true []))), none, []⟩, ⟨(some 5), (.mov (.c (.bool false))), none, []⟩] none [5, 4]) .ret)
theorem x_proof_Secret_k0 (m : Nat) (tm : Tms) (σ : AHeap) : evC FC PR BY m c_proof_Secret_k0 tm σ = evC FC PR BY m (.seq (.region [⟨(some 4), (.mov (.c (.lst true []))), none, []⟩, ⟨(some 5), (.mov (.c (.bool false))), none, []⟩] none [5, 4]) .ret) tm σ := rfl
def c_proof_Secret_l2 : ACode := (.seq (.region [⟨(some 12), (.bin .lss (.t 11) (.t 10)), none, []⟩] none [12, 11, 10, 9, 1]) (.seq (.cond (.t 12) .skip (.exit 0)) (.seq (.block 1 (.seq (.region [⟨(some 13), (.iaddr 2 (.t 9) (.t 11)), none, []⟩, ⟨(some 14), (.ld (some 2) (.t 13)), none, []⟩, ⟨(some 7), (.alloc [(.str []), (.lst true [])]), none, []⟩, ⟨none, (.st 2 (.t 7) (.t 14)), none, []⟩] none [11, 10, 9, 7, 1]) (.seq (.region [⟨(some 15), (.faddr 0 (.t 7)), none, []⟩, ⟨(some 16), (.ld none (.t 15)), none, []⟩, ⟨(some 17), (.mov (.t 1)), none, []⟩, ⟨(some 18), (.bin .eql (.t 16) (.t 17)), none, []⟩] none [18, 11, 10, 9, 7, 1]) (.cond (.t 18) (.seq (.region [⟨(some 19), (.faddr 1 (.t 7)), none, []⟩, ⟨(some 20), (.ld none (.t 19)), none, []⟩, ⟨(some 21), (.call 38 0 true [(.t 20)]), none, []⟩, ⟨(some 4), (.mov (.t 21)), none, []⟩, ⟨(some 5), (.mov (.c (.bool true))), none, []⟩] none [5, 4]) .ret) .skip)))) (.region [⟨(some 22), (.bin .add (.t 11) (.c (.int .i64 1))), none, []⟩, ⟨(some 11), (.mov (.t 22)), none, []⟩] none [11, 10, 9, 1]))))
theorem x_proof_Secret_l2 (m : Nat) (tm : Tms) (σ : AHeap) : evC FC PR BY m c_proof_Secret_l2 tm σ = evC FC PR BY m (.seq (.region [⟨(some 12), (.bin .lss (.t 11) (.t 10)), none, []⟩] none [12, 11, 10, 9, 1]) (.seq (.cond (.t 12) .skip (.exit 0)) (.seq (.block 1 (.seq (.region [⟨(some 13), (.iaddr 2 (.t 9) (.t 11)), none, []⟩, ⟨(some 14), (.ld (some 2) (.t 13)), none, []⟩, ⟨(some 7), (.alloc [(.str []), (.lst true [])]), none, []⟩, ⟨none, (.st 2 (.t 7) (.t 14)), none, []⟩] none [11, 10, 9, 7, 1]) (.seq (.region [⟨(some 15), (.faddr 0 (.t 7)), none, []⟩, ⟨(some 16), (.ld none (.t 15)), none, []⟩, ⟨(some 17), (.mov (.t 1)), none, []⟩, ⟨(some 18), (.bin .eql (.t 16) (.t 17)), none, []⟩] none [18, 11, 10, 9, 7, 1]) (.cond (.t 18) (.seq (.region [⟨(some 19), (.faddr 1 (.t 7)), none, []⟩, ⟨(some 20), (.ld none (.t 19)), none, []⟩, ⟨(some 21), (.call 38 0 true [(.t 20)]), none, []⟩, ⟨(some 4), (.mov (.t 21)), none, []⟩, ⟨(some 5), (.mov (.c (.bool true))), none, []⟩] none [5, 4]) .ret) .skip)))) (.region [⟨(some 22), (.bin .add (.t 11) (.c (.int .i64 1))), none, []⟩, ⟨(some 11), (.mov (.t 22)), none, []⟩] none [11, 10, 9, 1])))) tm σ := rfl
def b_proof_Secret : ACode := (.seq (.region [⟨(some 2), (.box (.t 0)), none, []⟩, ⟨(some 4), (.mov (.c (.lst true []))), none, []⟩, ⟨(some 5), (.mov (.c (.bool false))), none, []⟩] none [2, 1]) (.seq (.seq (.region [⟨(some 8), (.faddr 2 (.t 2)), none, []⟩, ⟨(some 9), (.ld none (.t 8)), none, []⟩, ⟨(some 10), (.len (.t 9)), none, []⟩, ⟨(some 11), (.mov (.c (.int .i64 0))), none, []⟩] none [11, 10, 9, 1]) (.block 0 (.loop [11, 10, 9, 1] c_proof_Secret_l2))) c_proof_Secret_k0))
def c_proof_Secret : AFunc := ⟨[(.tmp 4), (.tmp 5)], b_proof_Secret⟩
theorem cf_proof_Secret : FC 33 = some c_proof_Secret := by kernel_rfl
theorem cb_proof_Secret : c_proof_Secret.body = b_proof_Secret := rfl
theorem cr_proof_Secret : c_proof_Secret.res = [(.tmp 4), (.tmp 5)] := rfl
/-- slots [11, 10, 9, 1] -/
noncomputable def K_proof_Secret_l2 (m : Nat) (tm : Tms) (σ : AHeap) : Option (AVal × AHeap) := (finA m c_proof_Secret (seqX FC PR BY m c_proof_Secret_k0 (Option.map (blockA 0) (evL FC PR BY m [11, 10, 9, 1] c_proof_Secret_l2 tm σ))))
def b_tidingsref22_Enter : ACode := (.seq (.region [⟨(some 2), (.box (.t 0)), none, []⟩, ⟨(some 3), (.box (.t 1)), none, []⟩, ⟨(some 4), (.mov (.c (.int .i64 0))), none, []⟩] none [3, 2]) (.seq (.seq (.region [⟨(some 7), (.faddr 21 (.t 3)), none, []⟩, ⟨(some 8), (.ld none (.t 7)), none, []⟩] none [8, 3, 2]) (.cond (.t 8) (.seq (.region [⟨(some 10), (.ld (some 3) (.t 2)), none, []⟩, ⟨(some 11), (.faddr 22 (.t 3)), none, []⟩, ⟨(some 12), (.ld none (.t 11)), none, []⟩, ⟨(some 13), (.call 26 0 true [(.t 10), (.t 12)]), none, []⟩, ⟨(some 9), (.mov (.t 13)), none, []⟩, ⟨(some 14), (.ext (.t 9) 0), none, []⟩, ⟨(some 15), (.ext (.t 9) 1), none, []⟩, ⟨(some 5), (.mov (.t 14)), none, []⟩, ⟨(some 6), (.mov (.t 15)), none, []⟩] none [6, 5, 3]) (.seq (.seq (.region [⟨(some 16), (.mov (.t 6)), none, []⟩, ⟨(some 17), (.mov (.t 16)), none, []⟩, ⟨(some 18), (.faddr 23 (.t 3)), (some (17, true)), []⟩, ⟨(some 19), (.ld none (.t 18)), (some (17, true)), []⟩, ⟨(some 20), (.pick (.t 17) (.t 19) (.c (.bool false))), none, []⟩, ⟨(some 21), (.mov (.t 20)), none, []⟩, ⟨(some 22), (.mov (.t 5)), (some (21, true)), []⟩, ⟨(some 23), (.b2s (.t 22)), (some (21, true)), []⟩, ⟨(some 24), (.faddr 24 (.t 3)), (some (21, true)), []⟩, ⟨(some 25), (.ld none (.t 24)), (some (21, true)), []⟩, ⟨(some 26), (.b2s (.t 25)), (some (21, true)), []⟩, ⟨(some 27), (.bin .eql (.t 23) (.t 26)), (some (21, true)), []⟩, ⟨(some 28), (.pick (.t 21) (.t 27) (.c (.bool false))), none, []⟩] none [28]) (.cond (.t 28) (.seq (.region [⟨(some 4), (.mov (.c (.int .i64 0))), none, []⟩] none [4]) .ret) .skip)) (.seq (.region [⟨(some 4), (.mov (.c (.int .i64 134))), none, []⟩] none [4]) .ret))) .skip)) (.seq (.seq (.region [⟨(some 29), (.faddr 23 (.t 3)), none, []⟩, ⟨(some 30), (.ld none (.t 29)), none, []⟩] none [30, 2]) (.cond (.t 30) (.seq (.region [⟨(some 4), (.mov (.c (.int .i64 134))), none, []⟩] none [4]) .ret) .skip)) (.seq (.seq (.region [⟨(some 31), (.faddr 1 (.t 2)), none, []⟩, ⟨(some 32), (.ld none (.t 31)), none, []⟩] none [32]) (.cond (.t 32) (.seq (.region [⟨(some 4), (.mov (.c (.int .i64 0))), none, []⟩] none [4]) .ret) .skip)) (.seq (.region [⟨(some 4), (.mov (.c (.int .i64 135))), none, []⟩] none [4]) .ret)))))
def c_tidingsref22_Enter : AFunc := ⟨[(.tmp 4)], b_tidingsref22_Enter⟩
theorem cf_tidingsref22_Enter : FC 27 = some c_tidingsref22_Enter := by kernel_rfl
theorem cb_tidingsref22_Enter : c_tidingsref22_Enter.body = b_tidingsref22_Enter := rfl
theorem cr_tidingsref22_Enter : c_tidingsref22_Enter.res = [(.tmp 4)] := rfl
def c_tidingsref22_Secret_k0 : ACode := (.seq (.region [⟨(some 4), (.mov (.c (.lst true []))), none, []⟩, ⟨(some 5), (.mov (.c (.bool false))), none, []⟩] none [5, 4]) .ret)
theorem x_tidingsref22_Secret_k0 (m : Nat) (tm : Tms) (σ : AHeap) : evC FC PR BY m c_tidingsref22_Secret_k0 tm σ = evC FC PR BY m (.seq (.region [⟨(some 4), (.mov (.c (.lst true []))), none, []⟩, ⟨(some 5), (.mov (.c (.bool false))), none, []⟩] none [5, 4]) .ret) tm σ := rfl
def c_tidingsref22_Secret_l2 : ACode := (.seq (.seq (.region [⟨(some 7), (.mov (.t 6)), none, []⟩, ⟨(some 8), (.faddr 2 (.t 2)), none, []⟩, ⟨(some 9), (.ld none (.t 8)), none, []⟩, ⟨(some 10), (.len (.t 9)), none, []⟩, ⟨(some 11), (.bin .lss (.t 7) (.t 10)), none, []⟩] none [11, 6, 2, 1]) (.cond (.t 11) .skip (.exit 0))) (.seq (.block 1 (.seq (.region [⟨(some 14), (.faddr 2 (.t 2)), none, []⟩, ⟨(some 15), (.ld none (.t 14)), none, []⟩, ⟨(some 16), (.mov (.t 6)), none, []⟩, ⟨(some 17), (.iaddr 2 (.t 15) (.t 16)), none, []⟩, ⟨(some 18), (.faddr 0 (.t 17)), none, []⟩, ⟨(some 19), (.ld none (.t 18)), none, []⟩, ⟨(some 20), (.mov (.t 1)), none, []⟩, ⟨(some 21), (.bin .eql (.t 19) (.t 20)), none, []⟩] none [21, 6, 2, 1]) (.cond (.t 21) (.seq (.region [⟨(some 22), (.faddr 2 (.t 2)), none, []⟩, ⟨(some 23), (.ld none (.t 22)), none, []⟩, ⟨(some 24), (.mov (.t 6)), none, []⟩, ⟨(some 25), (.iaddr 2 (.t 23) (.t 24)), none, []⟩, ⟨(some 26), (.faddr 1 (.t 25)), none, []⟩, ⟨(some 27), (.ld none (.t 26)), none, []⟩, ⟨(some 4), (.mov (.t 27)), none, []⟩, ⟨(some 5), (.mov (.c (.bool true))), none, []⟩] none [5, 4]) .ret) .skip))) (.region [⟨(some 12), (.mov (.t 6)), none, []⟩, ⟨(some 13), (.bin .add (.t 12) (.c (.int .i64 1))), none, []⟩, ⟨(some 6), (.mov (.t 13)), none, []⟩] none [6, 2, 1])))
theorem x_tidingsref22_Secret_l2 (m : Nat) (tm : Tms) (σ : AHeap) : evC FC PR BY m c_tidingsref22_Secret_l2 tm σ = evC FC PR BY m (.seq (.seq (.region [⟨(some 7), (.mov (.t 6)), none, []⟩, ⟨(some 8), (.faddr 2 (.t 2)), none, []⟩, ⟨(some 9), (.ld none (.t 8)), none, []⟩, ⟨(some 10), (.len (.t 9)), none, []⟩, ⟨(some 11), (.bin .lss (.t 7) (.t 10)), none, []⟩] none [11, 6, 2, 1]) (.cond (.t 11) .skip (.exit 0))) (.seq (.block 1 (.seq (.region [⟨(some 14), (.faddr 2 (.t 2)), none, []⟩, ⟨(some 15), (.ld none (.t 14)), none, []⟩, ⟨(some 16), (.mov (.t 6)), none, []⟩, ⟨(some 17), (.iaddr 2 (.t 15) (.t 16)), none, []⟩, ⟨(some 18), (.faddr 0 (.t 17)), none, []⟩, ⟨(some 19), (.ld none (.t 18)), none, []⟩, ⟨(some 20), (.mov (.t 1)), none, []⟩, ⟨(some 21), (.bin .eql (.t 19) (.t 20)), none, []⟩] none [21, 6, 2, 1]) (.cond (.t 21) (.seq (.region [⟨(some 22), (.faddr 2 (.t 2)), none, []⟩, ⟨(some 23), (.ld none (.t 22)), none, []⟩, ⟨(some 24), (.mov (.t 6)), none, []⟩, ⟨(some 25), (.iaddr 2 (.t 23) (.t 24)), none, []⟩, ⟨(some 26), (.faddr 1 (.t 25)), none, []⟩, ⟨(some 27), (.ld none (.t 26)), none, []⟩, ⟨(some 4), (.mov (.t 27)), none, []⟩, ⟨(some 5), (.mov (.c (.bool true))), none, []⟩] none [5, 4]) .ret) .skip))) (.region [⟨(some 12), (.mov (.t 6)), none, []⟩, ⟨(some 13), (.bin .add (.t 12) (.c (.int .i64 1))), none, []⟩, ⟨(some 6), (.mov (.t 13)), none, []⟩] none [6, 2, 1]))) tm σ := rfl
def b_tidingsref22_Secret : ACode := (.seq (.region [⟨(some 2), (.box (.t 0)), none, []⟩, ⟨(some 4), (.mov (.c (.lst true []))), none, []⟩, ⟨(some 5), (.mov (.c (.bool false))), none, []⟩] none [2, 1]) (.seq (.seq (.region [⟨(some 6), (.mov (.c (.int .i64 0))), none, []⟩] none [6, 2, 1]) (.block 0 (.loop [6, 2, 1] c_tidingsref22_Secret_l2))) c_tidingsref22_Secret_k0))
def c_tidingsref22_Secret : AFunc := ⟨[(.tmp 4), (.tmp 5)], b_tidingsref22_Secret⟩
theorem cf_tidingsref22_Secret : FC 26 = some c_tidingsref22_Secret := by kernel_rfl
theorem cb_tidingsref22_Secret : c_tidingsref22_Secret.body = b_tidingsref22_Secret := rfl
theorem cr_tidingsref22_Secret : c_tidingsref22_Secret.res = [(.tmp 4), (.tmp 5)] := rfl
/-- slots [6, 2, 1] -/
noncomputable def K_tidingsref22_Secret_l2 (m : Nat) (tm : Tms) (σ : AHeap) : Option (AVal × AHeap) := (finA m c_tidingsref22_Secret (seqX FC PR BY m c_tidingsref22_Secret_k0 (Option.map (blockA 0) (evL FC PR BY m [6, 2, 1] c_tidingsref22_Secret_l2 tm σ))))
end Go.Proofs.YtaaflagbhneakaaDoor
namespace Go.Proofs.YtaaflagbhneakaaDoor
set_option linter.unusedSimpArgs false
set_option linter.unusedVariables false
def c_prop_Find_k0 : ACode := (.seq (.region [⟨(some 21), (.build [(.int .i64 0), (.int .i64 0), (.str []), (.str []), (.lst true [])] []), none, []⟩, ⟨none, (.st 5 (.t 4) (.t 21)), none, []⟩, ⟨(some 5), (.mov (.c (.bool false))), none, []⟩] none [5, 4]) .ret)
theorem x_prop_Find_k0 (m : Nat) (tm : Tms) (σ : AHeap) : evC FC PR BY m c_prop_Find_k0 tm σ = evC FC PR BY m (.seq (.region [⟨(some 21), (.build [(.int .i64 0), (.int .i64 0), (.str []), (.str []), (.lst true [])] []), none, []⟩, ⟨none, (.st 5 (.t 4) (.t 21)), none, []⟩, ⟨(some 5), (.mov (.c (.bool false))), none, []⟩] none [5, 4]) .ret) tm σ := rfl
def c_prop_Find_l2 : ACode := (.seq (.region [⟨(some 11), (.bin .lss (.t 10) (.t 9)), none, []⟩] none [11, 10, 9, 8, 4, 0]) (.seq (.cond (.t 11) .skip (.exit 0)) (.seq (.block 1 (.seq (.region [⟨(some 12), (.iaddr 5 (.t 8) (.t 10)), none, []⟩, ⟨(some 13), (.ld (some 5) (.t 12)), none, []⟩, ⟨(some 7), (.alloc [(.int .i64 0), (.int .i64 0), (.str []), (.str []), (.lst true [])]), none, []⟩, ⟨none, (.st 5 (.t 7) (.t 13)), none, []⟩] none [10, 9, 8, 7, 4, 0]) (.seq (.region [⟨(some 14), (.faddr 0 (.t 7)), none, []⟩, ⟨(some 15), (.ld none (.t 14)), none, []⟩, ⟨(some 16), (.mov (.t 0)), none, []⟩, ⟨(some 17), (.bin .eql (.t 15) (.t 16)), none, []⟩] none [17, 10, 9, 8, 7, 4, 0]) (.cond (.t 17) (.seq (.region [⟨(some 18), (.ld (some 5) (.t 7)), none, []⟩, ⟨(some 19), (.call 36 0 true [(.t 18)]), none, []⟩, ⟨none, (.st 5 (.t 4) (.t 19)), none, []⟩, ⟨(some 5), (.mov (.c (.bool true))), none, []⟩] none [5, 4]) .ret) .skip)))) (.region [⟨(some 20), (.bin .add (.t 10) (.c (.int .i64 1))), none, []⟩, ⟨(some 10), (.mov (.t 20)), none, []⟩] none [10, 9, 8, 4, 0]))))
theorem x_prop_Find_l2 (m : Nat) (tm : Tms) (σ : AHeap) : evC FC PR BY m c_prop_Find_l2 tm σ = evC FC PR BY m (.seq (.region [⟨(some 11), (.bin .lss (.t 10) (.t 9)), none, []⟩] none [11, 10, 9, 8, 4, 0]) (.seq (.cond (.t 11) .skip (.exit 0)) (.seq (.block 1 (.seq (.region [⟨(some 12), (.iaddr 5 (.t 8) (.t 10)), none, []⟩, ⟨(some 13), (.ld (some 5) (.t 12)), none, []⟩, ⟨(some 7), (.alloc [(.int .i64 0), (.int .i64 0), (.str []), (.str []), (.lst true [])]), none, []⟩, ⟨none, (.st 5 (.t 7) (.t 13)), none, []⟩] none [10, 9, 8, 7, 4, 0]) (.seq (.region [⟨(some 14), (.faddr 0 (.t 7)), none, []⟩, ⟨(some 15), (.ld none (.t 14)), none, []⟩, ⟨(some 16), (.mov (.t 0)), none, []⟩, ⟨(some 17), (.bin .eql (.t 15) (.t 16)), none, []⟩] none [17, 10, 9, 8, 7, 4, 0]) (.cond (.t 17) (.seq (.region [⟨(some 18), (.ld (some 5) (.t 7)), none, []⟩, ⟨(some 19), (.call 36 0 true [(.t 18)]), none, []⟩, ⟨none, (.st 5 (.t 4) (.t 19)), none, []⟩, ⟨(some 5), (.mov (.c (.bool true))), none, []⟩] none [5, 4]) .ret) .skip)))) (.region [⟨(some 20), (.bin .add (.t 10) (.c (.int .i64 1))), none, []⟩, ⟨(some 10), (.mov (.t 20)), none, []⟩] none [10, 9, 8, 4, 0])))) tm σ := rfl
def b_prop_Find : ACode := (.seq (.region [⟨(some 4), (.alloc [(.int .i64 0), (.int .i64 0), (.str []), (.str []), (.lst true [])]), none, []⟩, ⟨(some 5), (.mov (.c (.bool false))), none, []⟩] none [4, 1, 0]) (.seq (.seq (.region [⟨(some 8), (.mov (.t 1)), none, []⟩, ⟨(some 9), (.len (.t 8)), none, []⟩, ⟨(some 10), (.mov (.c (.int .i64 0))), none, []⟩] none [10, 9, 8, 4, 0]) (.block 0 (.loop [10, 9, 8, 4, 0] c_prop_Find_l2))) c_prop_Find_k0))
def c_prop_Find : AFunc := ⟨[(.cell 4 (some 5)), (.tmp 5)], b_prop_Find⟩
theorem cf_prop_Find : FC 18 = some c_prop_Find := by kernel_rfl
theorem cb_prop_Find : c_prop_Find.body = b_prop_Find := rfl
theorem cr_prop_Find : c_prop_Find.res = [(.cell 4 (some 5)), (.tmp 5)] := rfl
/-- slots [10, 9, 8, 4, 0] -/
noncomputable def K_prop_Find_l2 (m : Nat) (tm : Tms) (σ : AHeap) : Option (AVal × AHeap) := (finA m c_prop_Find (seqX FC PR BY m c_prop_Find_k0 (Option.map (blockA 0) (evL FC PR BY m [10, 9, 8, 4, 0] c_prop_Find_l2 tm σ))))
def c_prop_Only_k0 : ACode := (.seq (.region [⟨(some 24), (.mov (.t 5)), none, []⟩, ⟨(some 4), (.mov (.t 24)), none, []⟩] none [4]) .ret)
theorem x_prop_Only_k0 (m : Nat) (tm : Tms) (σ : AHeap) : evC FC PR BY m c_prop_Only_k0 tm σ = evC FC PR BY m (.seq (.region [⟨(some 24), (.mov (.t 5)), none, []⟩, ⟨(some 4), (.mov (.t 24)), none, []⟩] none [4]) .ret) tm σ := rfl
def c_prop_Only_l3 : ACode := (.seq (.region [⟨(some 11), (.bin .lss (.t 10) (.t 9)), none, []⟩] none [11, 10, 9, 8, 5, 1]) (.seq (.cond (.t 11) .skip (.exit 0)) (.seq (.block 1 (.seq (.region [⟨(some 12), (.iaddr 5 (.t 8) (.t 10)), none, []⟩, ⟨(some 13), (.ld (some 5) (.t 12)), none, []⟩, ⟨(some 7), (.alloc [(.int .i64 0), (.int .i64 0), (.str []), (.str []), (.lst true [])]), none, []⟩, ⟨none, (.st 5 (.t 7) (.t 13)), none, []⟩] none [10, 9, 8, 7, 5, 1]) (.seq (.region [⟨(some 14), (.mov (.t 1)), none, []⟩, ⟨(some 15), (.faddr 0 (.t 7)), none, []⟩, ⟨(some 16), (.ld none (.t 15)), none, []⟩, ⟨(some 17), (.call 53 0 true [(.t 14), (.t 16)]), none, []⟩] none [17, 10, 9, 8, 7, 5, 1]) (.cond (.t 17) (.region [⟨(some 18), (.mov (.t 5)), none, []⟩, ⟨(some 19), (.ld (some 5) (.t 7)), none, []⟩, ⟨(some 20), (.call 36 0 true [(.t 19)]), none, []⟩, ⟨(some 21), (.bslice false 5 1 (.agg [(.int .i64 0), (.int .i64 0), (.str []), (.str []), (.lst true [])]) [(0, (.t 20))]), none, []⟩, ⟨(some 22), (.app 5 72 (.agg [(.int .i64 0), (.int .i64 0), (.str []), (.str []), (.lst true [])]) (.t 18) (.t 21)), none, []⟩, ⟨(some 5), (.mov (.t 22)), none, []⟩] none [10, 9, 8, 5, 1]) .skip)))) (.region [⟨(some 23), (.bin .add (.t 10) (.c (.int .i64 1))), none, []⟩, ⟨(some 10), (.mov (.t 23)), none, []⟩] none [10, 9, 8, 5, 1]))))
theorem x_prop_Only_l3 (m : Nat) (tm : Tms) (σ : AHeap) : evC FC PR BY m c_prop_Only_l3 tm σ = evC FC PR BY m (.seq (.region [⟨(some 11), (.bin .lss (.t 10) (.t 9)), none, []⟩] none [11, 10, 9, 8, 5, 1]) (.seq (.cond (.t 11) .skip (.exit 0)) (.seq (.block 1 (.seq (.region [⟨(some 12), (.iaddr 5 (.t 8) (.t 10)), none, []⟩, ⟨(some 13), (.ld (some 5) (.t 12)), none, []⟩, ⟨(some 7), (.alloc [(.int .i64 0), (.int .i64 0), (.str []), (.str []), (.lst true [])]), none, []⟩, ⟨none, (.st 5 (.t 7) (.t 13)), none, []⟩] none [10, 9, 8, 7, 5, 1]) (.seq (.region [⟨(some 14), (.mov (.t 1)), none, []⟩, ⟨(some 15), (.faddr 0 (.t 7)), none, []⟩, ⟨(some 16), (.ld none (.t 15)), none, []⟩, ⟨(some 17), (.call 53 0 true [(.t 14), (.t 16)]), none, []⟩] none [17, 10, 9, 8, 7, 5, 1]) (.cond (.t 17) (.region [⟨(some 18), (.mov (.t 5)), none, []⟩, ⟨(some 19), (.ld (some 5) (.t 7)), none, []⟩, ⟨(some 20), (.call 36 0 true [(.t 19)]), none, []⟩, ⟨(some 21), (.bslice false 5 1 (.agg [(.int .i64 0), (.int .i64 0), (.str []), (.str []), (.lst true [])]) [(0, (.t 20))]), none, []⟩, ⟨(some 22), (.app 5 72 (.agg [(.int .i64 0), (.int .i64 0), (.str []), (.str []), (.lst true [])]) (.t 18) (.t 21)), none, []⟩, ⟨(some 5), (.mov (.t 22)), none, []⟩] none [10, 9, 8, 5, 1]) .skip)))) (.region [⟨(some 23), (.bin .add (.t 10) (.c (.int .i64 1))), none, []⟩, ⟨(some 10), (.mov (.t 23)), none, []⟩] none [10, 9, 8, 5, 1])))) tm σ := rfl
def b_prop_Only : ACode := (.seq (.region [⟨(some 4), (.mov (.c (.lst true []))), none, []⟩] none [1, 0]) (.seq (.region [⟨(some 5), (.mov (.c (.lst true []))), none, []⟩] none [5, 1, 0]) (.seq (.seq (.region [⟨(some 8), (.mov (.t 0)), none, []⟩, ⟨(some 9), (.len (.t 8)), none, []⟩, ⟨(some 10), (.mov (.c (.int .i64 0))), none, []⟩] none [10, 9, 8, 5, 1]) (.block 0 (.loop [10, 9, 8, 5, 1] c_prop_Only_l3))) c_prop_Only_k0)))
def c_prop_Only : AFunc := ⟨[(.tmp 4)], b_prop_Only⟩
theorem cf_prop_Only : FC 47 = some c_prop_Only := by kernel_rfl
theorem cb_prop_Only : c_prop_Only.body = b_prop_Only := rfl
theorem cr_prop_Only : c_prop_Only.res = [(.tmp 4)] := rfl
/-- slots [10, 9, 8, 5, 1] -/
noncomputable def K_prop_Only_l3 (m : Nat) (tm : Tms) (σ : AHeap) : Option (AVal × AHeap) := (finA m c_prop_Only (seqX FC PR BY m c_prop_Only_k0 (Option.map (blockA 0) (evL FC PR BY m [10, 9, 8, 5, 1] c_prop_Only_l3 tm σ))))
def b_prop_copied : ACode := (.seq (.region [⟨(some 1), (.box (.t 0)), none, []⟩, ⟨(some 2), (.alloc [(.int .i64 0), (.int .i64 0), (.str []), (.str []), (.lst true [])]), none, []⟩] none [2, 1]) (.seq (.region [⟨(some 3), (.faddr 4 (.t 1)), none, []⟩, ⟨(some 4), (.ld none (.t 3)), none, []⟩, ⟨(some 5), (.call 38 0 true [(.t 4)]), none, []⟩, ⟨(some 6), (.faddr 4 (.t 1)), none, []⟩, ⟨none, (.st 1 (.t 6) (.t 5)), none, []⟩] none [2, 1]) (.seq (.region [⟨(some 7), (.ld (some 5) (.t 1)), none, []⟩, ⟨none, (.st 5 (.t 2) (.t 7)), none, []⟩] none [2]) .ret)))
def c_prop_copied : AFunc := ⟨[(.cell 2 (some 5))], b_prop_copied⟩
theorem cf_prop_copied : FC 36 = some c_prop_copied := by kernel_rfl
theorem cb_prop_copied : c_prop_copied.body = b_prop_copied := rfl
theorem cr_prop_copied : c_prop_copied.res = [(.cell 2 (some 5))] := rfl
def b_tidingsref11_Alike : ACode := (.seq (.region [⟨(some 2), (.box (.t 0)), none, []⟩, ⟨(some 3), (.box (.t 1)), none, []⟩, ⟨(some 4), (.mov (.c (.bool false))), none, []⟩] none [3, 2]) (.seq (.region [⟨(some 5), (.faddr 0 (.t 2)), none, []⟩, ⟨(some 6), (.ld none (.t 5)), none, []⟩, ⟨(some 7), (.faddr 0 (.t 3)), none, []⟩, ⟨(some 8), (.ld none (.t 7)), none, []⟩, ⟨(some 9), (.bin .eql (.t 6) (.t 8)), none, []⟩, ⟨(some 10), (.mov (.t 9)), none, []⟩, ⟨(some 11), (.faddr 1 (.t 2)), (some (10, true)), []⟩, ⟨(some 12), (.ld none (.t 11)), (some (10, true)), []⟩, ⟨(some 13), (.faddr 1 (.t 3)), (some (10, true)), []⟩, ⟨(some 14), (.ld none (.t 13)), (some (10, true)), []⟩, ⟨(some 15), (.bin .eql (.t 12) (.t 14)), (some (10, true)), []⟩, ⟨(some 16), (.pick (.t 10) (.t 15) (.c (.bool false))), none, []⟩, ⟨(some 17), (.mov (.t 16)), none, []⟩, ⟨(some 18), (.faddr 2 (.t 2)), (some (17, true)), []⟩, ⟨(some 19), (.ld none (.t 18)), (some (17, true)), []⟩, ⟨(some 20), (.faddr 2 (.t 3)), (some (17, true)), []⟩, ⟨(some 21), (.ld none (.t 20)), (some (17, true)), []⟩, ⟨(some 22), (.bin .eql (.t 19) (.t 21)), (some (17, true)), []⟩, ⟨(some 23), (.pick (.t 17) (.t 22) (.c (.bool false))), none, []⟩, ⟨(some 24), (.mov (.t 23)), none, []⟩, ⟨(some 25), (.faddr 3 (.t 2)), (some (24, true)), []⟩, ⟨(some 26), (.ld none (.t 25)), (some (24, true)), []⟩, ⟨(some 27), (.faddr 3 (.t 3)), (some (24, true)), []⟩, ⟨(some 28), (.ld none (.t 27)), (some (24, true)), []⟩, ⟨(some 29), (.bin .eql (.t 26) (.t 28)), (some (24, true)), []⟩, ⟨(some 30), (.pick (.t 24) (.t 29) (.c (.bool false))), none, []⟩, ⟨(some 31), (.mov (.t 30)), none, []⟩, ⟨(some 32), (.faddr 4 (.t 2)), (some (31, true)), []⟩, ⟨(some 33), (.ld none (.t 32)), (some (31, true)), []⟩, ⟨(some 34), (.b2s (.t 33)), (some (31, true)), []⟩, ⟨(some 35), (.faddr 4 (.t 3)), (some (31, true)), []⟩, ⟨(some 36), (.ld none (.t 35)), (some (31, true)), []⟩, ⟨(some 37), (.b2s (.t 36)), (some (31, true)), []⟩, ⟨(some 38), (.bin .eql (.t 34) (.t 37)), (some (31, true)), []⟩, ⟨(some 39), (.pick (.t 31) (.t 38) (.c (.bool false))), none, []⟩, ⟨(some 4), (.mov (.t 39)), none, []⟩] none [4]) .ret))
def c_tidingsref11_Alike : AFunc := ⟨[(.tmp 4)], b_tidingsref11_Alike⟩
theorem cf_tidingsref11_Alike : FC 50 = some c_tidingsref11_Alike := by kernel_rfl
theorem cb_tidingsref11_Alike : c_tidingsref11_Alike.body = b_tidingsref11_Alike := rfl
theorem cr_tidingsref11_Alike : c_tidingsref11_Alike.res = [(.tmp 4)] := rfl
def c_tidingsref11_Find_k0 : ACode := (.seq (.region [⟨(some 24), (.build [(.int .i64 0), (.int .i64 0), (.str []), (.str []), (.lst true [])] []), none, []⟩, ⟨none, (.st 5 (.t 4) (.t 24)), none, []⟩, ⟨(some 5), (.mov (.c (.bool false))), none, []⟩] none [5, 4]) .ret)
theorem x_tidingsref11_Find_k0 (m : Nat) (tm : Tms) (σ : AHeap) : evC FC PR BY m c_tidingsref11_Find_k0 tm σ = evC FC PR BY m (.seq (.region [⟨(some 24), (.build [(.int .i64 0), (.int .i64 0), (.str []), (.str []), (.lst true [])] []), none, []⟩, ⟨none, (.st 5 (.t 4) (.t 24)), none, []⟩, ⟨(some 5), (.mov (.c (.bool false))), none, []⟩] none [5, 4]) .ret) tm σ := rfl
def c_tidingsref11_Find_l2 : ACode := (.seq (.seq (.region [⟨(some 7), (.mov (.t 6)), none, []⟩, ⟨(some 8), (.mov (.t 1)), none, []⟩, ⟨(some 9), (.len (.t 8)), none, []⟩, ⟨(some 10), (.bin .lss (.t 7) (.t 9)), none, []⟩] none [10, 6, 4, 1, 0]) (.cond (.t 10) .skip (.exit 0))) (.seq (.block 1 (.seq (.region [⟨(some 13), (.mov (.t 1)), none, []⟩, ⟨(some 14), (.mov (.t 6)), none, []⟩, ⟨(some 15), (.iaddr 5 (.t 13) (.t 14)), none, []⟩, ⟨(some 16), (.faddr 0 (.t 15)), none, []⟩, ⟨(some 17), (.ld none (.t 16)), none, []⟩, ⟨(some 18), (.mov (.t 0)), none, []⟩, ⟨(some 19), (.bin .eql (.t 17) (.t 18)), none, []⟩] none [19, 6, 4, 1, 0]) (.cond (.t 19) (.seq (.region [⟨(some 20), (.mov (.t 1)), none, []⟩, ⟨(some 21), (.mov (.t 6)), none, []⟩, ⟨(some 22), (.iaddr 5 (.t 20) (.t 21)), none, []⟩, ⟨(some 23), (.ld (some 5) (.t 22)), none, []⟩, ⟨none, (.st 5 (.t 4) (.t 23)), none, []⟩, ⟨(some 5), (.mov (.c (.bool true))), none, []⟩] none [5, 4]) .ret) .skip))) (.region [⟨(some 11), (.mov (.t 6)), none, []⟩, ⟨(some 12), (.bin .add (.t 11) (.c (.int .i64 1))), none, []⟩, ⟨(some 6), (.mov (.t 12)), none, []⟩] none [6, 4, 1, 0])))
theorem x_tidingsref11_Find_l2 (m : Nat) (tm : Tms) (σ : AHeap) : evC FC PR BY m c_tidingsref11_Find_l2 tm σ = evC FC PR BY m (.seq (.seq (.region [⟨(some 7), (.mov (.t 6)), none, []⟩, ⟨(some 8), (.mov (.t 1)), none, []⟩, ⟨(some 9), (.len (.t 8)), none, []⟩, ⟨(some 10), (.bin .lss (.t 7) (.t 9)), none, []⟩] none [10, 6, 4, 1, 0]) (.cond (.t 10) .skip (.exit 0))) (.seq (.block 1 (.seq (.region [⟨(some 13), (.mov (.t 1)), none, []⟩, ⟨(some 14), (.mov (.t 6)), none, []⟩, ⟨(some 15), (.iaddr 5 (.t 13) (.t 14)), none, []⟩, ⟨(some 16), (.faddr 0 (.t 15)), none, []⟩, ⟨(some 17), (.ld none (.t 16)), none, []⟩, ⟨(some 18), (.mov (.t 0)), none, []⟩, ⟨(some 19), (.bin .eql (.t 17) (.t 18)), none, []⟩] none [19, 6, 4, 1, 0]) (.cond (.t 19) (.seq (.region [⟨(some 20), (.mov (.t 1)), none, []⟩, ⟨(some 21), (.mov (.t 6)), none, []⟩, ⟨(some 22), (.iaddr 5 (.t 20) (.t 21)), none, []⟩, ⟨(some 23), (.ld (some 5) (.t 22)), none, []⟩, ⟨none, (.st 5 (.t 4) (.t 23)), none, []⟩, ⟨(some 5), (.mov (.c (.bool true))), none, []⟩] none [5, 4]) .ret) .skip))) (.region [⟨(some 11), (.mov (.t 6)), none, []⟩, ⟨(some 12), (.bin .add (.t 11) (.c (.int .i64 1))), none, []⟩, ⟨(some 6), (.mov (.t 12)), none, []⟩] none [6, 4, 1, 0]))) tm σ := rfl
def b_tidingsref11_Find : ACode := (.seq (.region [⟨(some 4), (.alloc [(.int .i64 0), (.int .i64 0), (.str []), (.str []), (.lst true [])]), none, []⟩, ⟨(some 5), (.mov (.c (.bool false))), none, []⟩] none [4, 1, 0]) (.seq (.seq (.region [⟨(some 6), (.mov (.c (.int .i64 0))), none, []⟩] none [6, 4, 1, 0]) (.block 0 (.loop [6, 4, 1, 0] c_tidingsref11_Find_l2))) c_tidingsref11_Find_k0))
def c_tidingsref11_Find : AFunc := ⟨[(.cell 4 (some 5)), (.tmp 5)], b_tidingsref11_Find⟩
theorem cf_tidingsref11_Find : FC 25 = some c_tidingsref11_Find := by kernel_rfl
theorem cb_tidingsref11_Find : c_tidingsref11_Find.body = b_tidingsref11_Find := rfl
theorem cr_tidingsref11_Find : c_tidingsref11_Find.res = [(.cell 4 (some 5)), (.tmp 5)] := rfl
/-- slots [6, 4, 1, 0] -/
noncomputable def K_tidingsref11_Find_l2 (m : Nat) (tm : Tms) (σ : AHeap) : Option (AVal × AHeap) := (finA m c_tidingsref11_Find (seqX FC PR BY m c_tidingsref11_Find_k0 (Option.map (blockA 0) (evL FC PR BY m [6, 4, 1, 0] c_tidingsref11_Find_l2 tm σ))))
def b_tidingsref11_Num : ACode := (.seq (.region [⟨(some 6), (.mov (.c (.int .i64 0))), none, []⟩] none [2, 1, 0]) (.seq (.region [⟨(some 10), (.mov (.t 0)), none, []⟩, ⟨(some 11), (.mov (.t 1)), none, []⟩, ⟨(some 12), (.call 25 0 true [(.t 10), (.t 11)]), none, []⟩, ⟨(some 9), (.mov (.t 12)), none, []⟩, ⟨(some 13), (.ext (.t 9) 0), none, []⟩, ⟨(some 14), (.ext (.t 9) 1), none, []⟩, ⟨(some 7), (.alloc [(.int .i64 0), (.int .i64 0), (.str []), (.str []), (.lst true [])]), none, []⟩, ⟨none, (.st 5 (.t 7) (.t 13)), none, []⟩, ⟨(some 8), (.mov (.t 14)), none, []⟩] none [8, 7, 2]) (.seq (.seq (.region [⟨(some 15), (.mov (.t 8)), none, []⟩] none [15, 7, 2]) (.cond (.t 15) (.seq (.region [⟨(some 16), (.faddr 1 (.t 7)), none, []⟩, ⟨(some 17), (.ld none (.t 16)), none, []⟩, ⟨(some 6), (.mov (.t 17)), none, []⟩] none [6]) .ret) .skip)) (.seq (.region [⟨(some 18), (.mov (.t 2)), none, []⟩, ⟨(some 6), (.mov (.t 18)), none, []⟩] none [6]) .ret))))
def c_tidingsref11_Num : AFunc := ⟨[(.tmp 6)], b_tidingsref11_Num⟩
theorem cf_tidingsref11_Num : FC 28 = some c_tidingsref11_Num := by kernel_rfl
theorem cb_tidingsref11_Num : c_tidingsref11_Num.body = b_tidingsref11_Num := rfl
theorem cr_tidingsref11_Num : c_tidingsref11_Num.res = [(.tmp 6)] := rfl
def c_tidingsref11_Only_k0 : ACode := (.seq (.region [⟨(some 27), (.mov (.t 5)), none, []⟩, ⟨(some 4), (.mov (.t 27)), none, []⟩] none [4]) .ret)
theorem x_tidingsref11_Only_k0 (m : Nat) (tm : Tms) (σ : AHeap) : evC FC PR BY m c_tidingsref11_Only_k0 tm σ = evC FC PR BY m (.seq (.region [⟨(some 27), (.mov (.t 5)), none, []⟩, ⟨(some 4), (.mov (.t 27)), none, []⟩] none [4]) .ret) tm σ := rfl
def c_tidingsref11_Only_l3 : ACode := (.seq (.seq (.region [⟨(some 7), (.mov (.t 6)), none, []⟩, ⟨(some 8), (.mov (.t 0)), none, []⟩, ⟨(some 9), (.len (.t 8)), none, []⟩, ⟨(some 10), (.bin .lss (.t 7) (.t 9)), none, []⟩] none [10, 6, 5, 1, 0]) (.cond (.t 10) .skip (.exit 0))) (.seq (.block 1 (.seq (.region [⟨(some 13), (.mov (.t 0)), none, []⟩, ⟨(some 14), (.mov (.t 6)), none, []⟩, ⟨(some 15), (.iaddr 5 (.t 13) (.t 14)), none, []⟩, ⟨(some 16), (.faddr 0 (.t 15)), none, []⟩, ⟨(some 17), (.ld none (.t 16)), none, []⟩, ⟨(some 18), (.mov (.t 1)), none, []⟩, ⟨(some 19), (.call 49 0 true [(.t 17), (.t 18)]), none, []⟩] none [19, 6, 5, 1, 0]) (.cond (.t 19) (.region [⟨(some 20), (.mov (.t 5)), none, []⟩, ⟨(some 21), (.mov (.t 0)), none, []⟩, ⟨(some 22), (.mov (.t 6)), none, []⟩, ⟨(some 23), (.iaddr 5 (.t 21) (.t 22)), none, []⟩, ⟨(some 24), (.ld (some 5) (.t 23)), none, []⟩, ⟨(some 25), (.bslice false 5 1 (.agg [(.int .i64 0), (.int .i64 0), (.str []), (.str []), (.lst true [])]) [(0, (.t 24))]), none, []⟩, ⟨(some 26), (.app 5 72 (.agg [(.int .i64 0), (.int .i64 0), (.str []), (.str []), (.lst true [])]) (.t 20) (.t 25)), none, []⟩, ⟨(some 5), (.mov (.t 26)), none, []⟩] none [6, 5, 1, 0]) .skip))) (.region [⟨(some 11), (.mov (.t 6)), none, []⟩, ⟨(some 12), (.bin .add (.t 11) (.c (.int .i64 1))), none, []⟩, ⟨(some 6), (.mov (.t 12)), none, []⟩] none [6, 5, 1, 0])))
theorem x_tidingsref11_Only_l3 (m : Nat) (tm : Tms) (σ : AHeap) : evC FC PR BY m c_tidingsref11_Only_l3 tm σ = evC FC PR BY m (.seq (.seq (.region [⟨(some 7), (.mov (.t 6)), none, []⟩, ⟨(some 8), (.mov (.t 0)), none, []⟩, ⟨(some 9), (.len (.t 8)), none, []⟩, ⟨(some 10), (.bin .lss (.t 7) (.t 9)), none, []⟩] none [10, 6, 5, 1, 0]) (.cond (.t 10) .skip (.exit 0))) (.seq (.block 1 (.seq (.region [⟨(some 13), (.mov (.t 0)), none, []⟩, ⟨(some 14), (.mov (.t 6)), none, []⟩, ⟨(some 15), (.iaddr 5 (.t 13) (.t 14)), none, []⟩, ⟨(some 16), (.faddr 0 (.t 15)), none, []⟩, ⟨(some 17), (.ld none (.t 16)), none, []⟩, ⟨(some 18), (.mov (.t 1)), none, []⟩, ⟨(some 19), (.call 49 0 true [(.t 17), (.t 18)]), none, []⟩] none [19, 6, 5, 1, 0]) (.cond (.t 19) (.region [⟨(some 20), (.mov (.t 5)), none, []⟩, ⟨(some 21), (.mov (.t 0)), none, []⟩, ⟨(some 22), (.mov (.t 6)), none, []⟩, ⟨(some 23), (.iaddr 5 (.t 21) (.t 22)), none, []⟩, ⟨(some 24), (.ld (some 5) (.t 23)), none, []⟩, ⟨(some 25), (.bslice false 5 1 (.agg [(.int .i64 0), (.int .i64 0), (.str []), (.str []), (.lst true [])]) [(0, (.t 24))]), none, []⟩, ⟨(some 26), (.app 5 72 (.agg [(.int .i64 0), (.int .i64 0), (.str []), (.str []), (.lst true [])]) (.t 20) (.t 25)), none, []⟩, ⟨(some 5), (.mov (.t 26)), none, []⟩] none [6, 5, 1, 0]) .skip))) (.region [⟨(some 11), (.mov (.t 6)), none, []⟩, ⟨(some 12), (.bin .add (.t 11) (.c (.int .i64 1))), none, []⟩, ⟨(some 6), (.mov (.t 12)), none, []⟩] none [6, 5, 1, 0]))) tm σ := rfl
def b_tidingsref11_Only : ACode := (.seq (.region [⟨(some 4), (.mov (.c (.lst true []))), none, []⟩] none [1, 0]) (.seq (.region [⟨(some 5), (.mov (.c (.lst true []))), none, []⟩] none [5, 1, 0]) (.seq (.seq (.region [⟨(some 6), (.mov (.c (.int .i64 0))), none, []⟩] none [6, 5, 1, 0]) (.block 0 (.loop [6, 5, 1, 0] c_tidingsref11_Only_l3))) c_tidingsref11_Only_k0)))
def c_tidingsref11_Only : AFunc := ⟨[(.tmp 4)], b_tidingsref11_Only⟩
theorem cf_tidingsref11_Only : FC 42 = some c_tidingsref11_Only := by kernel_rfl
theorem cb_tidingsref11_Only : c_tidingsref11_Only.body = b_tidingsref11_Only := rfl
theorem cr_tidingsref11_Only : c_tidingsref11_Only.res = [(.tmp 4)] := rfl
/-- slots [6, 5, 1, 0] -/
noncomputable def K_tidingsref11_Only_l3 (m : Nat) (tm : Tms) (σ : AHeap) : Option (AVal × AHeap) := (finA m c_tidingsref11_Only (seqX FC PR BY m c_tidingsref11_Only_k0 (Option.map (blockA 0) (evL FC PR BY m [6, 5, 1, 0] c_tidingsref11_Only_l3 tm σ))))
def c_tidingsref11_Same_k0 : ACode := (.seq (.region [⟨(some 4), (.mov (.c (.bool true))), none, []⟩] none [4]) .ret)
theorem x_tidingsref11_Same_k0 (m : Nat) (tm : Tms) (σ : AHeap) : evC FC PR BY m c_tidingsref11_Same_k0 tm σ = evC FC PR BY m (.seq (.region [⟨(some 4), (.mov (.c (.bool true))), none, []⟩] none [4]) .ret) tm σ := rfl
def c_tidingsref11_Same_l4 : ACode := (.seq (.seq (.region [⟨(some 11), (.mov (.t 5)), none, []⟩, ⟨(some 12), (.mov (.t 0)), none, []⟩, ⟨(some 13), (.len (.t 12)), none, []⟩, ⟨(some 14), (.bin .lss (.t 11) (.t 13)), none, []⟩] none [14, 5, 1, 0]) (.cond (.t 14) .skip (.exit 0))) (.seq (.block 1 (.seq (.region [⟨(some 17), (.mov (.t 0)), none, []⟩, ⟨(some 18), (.mov (.t 5)), none, []⟩, ⟨(some 19), (.iaddr 5 (.t 17) (.t 18)), none, []⟩, ⟨(some 20), (.ld (some 5) (.t 19)), none, []⟩, ⟨(some 21), (.mov (.t 1)), none, []⟩, ⟨(some 22), (.mov (.t 5)), none, []⟩, ⟨(some 23), (.iaddr 5 (.t 21) (.t 22)), none, []⟩, ⟨(some 24), (.ld (some 5) (.t 23)), none, []⟩, ⟨(some 25), (.call 50 0 true [(.t 20), (.t 24)]), none, []⟩, ⟨(some 26), (.un .not (.t 25)), none, []⟩] (some [(2, 6), (3, 6), (2, 7), (3, 7)]) [26, 5, 1, 0]) (.cond (.t 26) (.seq (.region [⟨(some 4), (.mov (.c (.bool false))), none, []⟩] none [4]) .ret) .skip))) (.region [⟨(some 15), (.mov (.t 5)), none, []⟩, ⟨(some 16), (.bin .add (.t 15) (.c (.int .i64 1))), none, []⟩, ⟨(some 5), (.mov (.t 16)), none, []⟩] none [5, 1, 0])))
theorem x_tidingsref11_Same_l4 (m : Nat) (tm : Tms) (σ : AHeap) : evC FC PR BY m c_tidingsref11_Same_l4 tm σ = evC FC PR BY m (.seq (.seq (.region [⟨(some 11), (.mov (.t 5)), none, []⟩, ⟨(some 12), (.mov (.t 0)), none, []⟩, ⟨(some 13), (.len (.t 12)), none, []⟩, ⟨(some 14), (.bin .lss (.t 11) (.t 13)), none, []⟩] none [14, 5, 1, 0]) (.cond (.t 14) .skip (.exit 0))) (.seq (.block 1 (.seq (.region [⟨(some 17), (.mov (.t 0)), none, []⟩, ⟨(some 18), (.mov (.t 5)), none, []⟩, ⟨(some 19), (.iaddr 5 (.t 17) (.t 18)), none, []⟩, ⟨(some 20), (.ld (some 5) (.t 19)), none, []⟩, ⟨(some 21), (.mov (.t 1)), none, []⟩, ⟨(some 22), (.mov (.t 5)), none, []⟩, ⟨(some 23), (.iaddr 5 (.t 21) (.t 22)), none, []⟩, ⟨(some 24), (.ld (some 5) (.t 23)), none, []⟩, ⟨(some 25), (.call 50 0 true [(.t 20), (.t 24)]), none, []⟩, ⟨(some 26), (.un .not (.t 25)), none, []⟩] (some [(2, 6), (3, 6), (2, 7), (3, 7)]) [26, 5, 1, 0]) (.cond (.t 26) (.seq (.region [⟨(some 4), (.mov (.c (.bool false))), none, []⟩] none [4]) .ret) .skip))) (.region [⟨(some 15), (.mov (.t 5)), none, []⟩, ⟨(some 16), (.bin .add (.t 15) (.c (.int .i64 1))), none, []⟩, ⟨(some 5), (.mov (.t 16)), none, []⟩] none [5, 1, 0]))) tm σ := rfl
def b_tidingsref11_Same : ACode := (.seq (.region [⟨(some 4), (.mov (.c (.bool false))), none, []⟩] none [1, 0]) (.seq (.seq (.region [⟨(some 6), (.mov (.t 0)), none, []⟩, ⟨(some 7), (.len (.t 6)), none, []⟩, ⟨(some 8), (.mov (.t 1)), none, []⟩, ⟨(some 9), (.len (.t 8)), none, []⟩, ⟨(some 10), (.bin .neq (.t 7) (.t 9)), none, []⟩] none [10, 1, 0]) (.cond (.t 10) (.seq (.region [⟨(some 4), (.mov (.c (.bool false))), none, []⟩] none [4]) .ret) .skip)) (.seq (.seq (.region [⟨(some 5), (.mov (.c (.int .i64 0))), none, []⟩] none [5, 1, 0]) (.block 0 (.loop [5, 1, 0] c_tidingsref11_Same_l4))) c_tidingsref11_Same_k0)))
def c_tidingsref11_Same : AFunc := ⟨[(.tmp 4)], b_tidingsref11_Same⟩
theorem cf_tidingsref11_Same : FC 43 = some c_tidingsref11_Same := by kernel_rfl
theorem cb_tidingsref11_Same : c_tidingsref11_Same.body = b_tidingsref11_Same := rfl
theorem cr_tidingsref11_Same : c_tidingsref11_Same.res = [(.tmp 4)] := rfl
/-- slots [5, 1, 0] -/
noncomputable def K_tidingsref11_Same_l4 (m : Nat) (tm : Tms) (σ : AHeap) : Option (AVal × AHeap) := (finA m c_tidingsref11_Same (seqX FC PR BY m c_tidingsref11_Same_k0 (Option.map (blockA 0) (evL FC PR BY m [5, 1, 0] c_tidingsref11_Same_l4 tm σ))))
def c_tidingsref11_among_k0 : ACode := (.seq (.region [⟨(some 4), (.mov (.c (.bool false))), none, []⟩] none [4]) .ret)
theorem x_tidingsref11_among_k0 (m : Nat) (tm : Tms) (σ : AHeap) : evC FC PR BY m c_tidingsref11_among_k0 tm σ = evC FC PR BY m (.seq (.region [⟨(some 4), (.mov (.c (.bool false))), none, []⟩] none [4]) .ret) tm σ := rfl
def c_tidingsref11_among_l2 : ACode := (.seq (.seq (.region [⟨(some 6), (.mov (.t 5)), none, []⟩, ⟨(some 7), (.mov (.t 1)), none, []⟩, ⟨(some 8), (.len (.t 7)), none, []⟩, ⟨(some 9), (.bin .lss (.t 6) (.t 8)), none, []⟩] none [9, 5, 1, 0]) (.cond (.t 9) .skip (.exit 0))) (.seq (.block 1 (.seq (.region [⟨(some 12), (.mov (.t 1)), none, []⟩, ⟨(some 13), (.mov (.t 5)), none, []⟩, ⟨(some 14), (.iaddr 1 (.t 12) (.t 13)), none, []⟩, ⟨(some 15), (.ld none (.t 14)), none, []⟩, ⟨(some 16), (.mov (.t 0)), none, []⟩, ⟨(some 17), (.bin .eql (.t 15) (.t 16)), none, []⟩] none [17, 5, 1, 0]) (.cond (.t 17) (.seq (.region [⟨(some 4), (.mov (.c (.bool true))), none, []⟩] none [4]) .ret) .skip))) (.region [⟨(some 10), (.mov (.t 5)), none, []⟩, ⟨(some 11), (.bin .add (.t 10) (.c (.int .i64 1))), none, []⟩, ⟨(some 5), (.mov (.t 11)), none, []⟩] none [5, 1, 0])))
theorem x_tidingsref11_among_l2 (m : Nat) (tm : Tms) (σ : AHeap) : evC FC PR BY m c_tidingsref11_among_l2 tm σ = evC FC PR BY m (.seq (.seq (.region [⟨(some 6), (.mov (.t 5)), none, []⟩, ⟨(some 7), (.mov (.t 1)), none, []⟩, ⟨(some 8), (.len (.t 7)), none, []⟩, ⟨(some 9), (.bin .lss (.t 6) (.t 8)), none, []⟩] none [9, 5, 1, 0]) (.cond (.t 9) .skip (.exit 0))) (.seq (.block 1 (.seq (.region [⟨(some 12), (.mov (.t 1)), none, []⟩, ⟨(some 13), (.mov (.t 5)), none, []⟩, ⟨(some 14), (.iaddr 1 (.t 12) (.t 13)), none, []⟩, ⟨(some 15), (.ld none (.t 14)), none, []⟩, ⟨(some 16), (.mov (.t 0)), none, []⟩, ⟨(some 17), (.bin .eql (.t 15) (.t 16)), none, []⟩] none [17, 5, 1, 0]) (.cond (.t 17) (.seq (.region [⟨(some 4), (.mov (.c (.bool true))), none, []⟩] none [4]) .ret) .skip))) (.region [⟨(some 10), (.mov (.t 5)), none, []⟩, ⟨(some 11), (.bin .add (.t 10) (.c (.int .i64 1))), none, []⟩, ⟨(some 5), (.mov (.t 11)), none, []⟩] none [5, 1, 0]))) tm σ := rfl
def b_tidingsref11_among : ACode := (.seq (.region [⟨(some 4), (.mov (.c (.bool false))), none, []⟩] none [1, 0]) (.seq (.seq (.region [⟨(some 5), (.mov (.c (.int .i64 0))), none, []⟩] none [5, 1, 0]) (.block 0 (.loop [5, 1, 0] c_tidingsref11_among_l2))) c_tidingsref11_among_k0))
def c_tidingsref11_among : AFunc := ⟨[(.tmp 4)], b_tidingsref11_among⟩
theorem cf_tidingsref11_among : FC 49 = some c_tidingsref11_among := by kernel_rfl
theorem cb_tidingsref11_among : c_tidingsref11_among.body = b_tidingsref11_among := rfl
theorem cr_tidingsref11_among : c_tidingsref11_among.res = [(.tmp 4)] := rfl
/-- slots [5, 1, 0] -/
noncomputable def K_tidingsref11_among_l2 (m : Nat) (tm : Tms) (σ : AHeap) : Option (AVal × AHeap) := (finA m c_tidingsref11_among (seqX FC PR BY m c_tidingsref11_among_k0 (Option.map (blockA 0) (evL FC PR BY m [5, 1, 0] c_tidingsref11_among_l2 tm σ))))
end Go.Proofs.YtaaflagbhneakaaDoor
namespace Go.Proofs.YtaaflagbhneakaaDoor
set_option linter.unusedSimpArgs false
set_option linter.unusedVariables false
def b_tidingslaw23_ConnMeets : ACode := (.seq (.region [⟨(some 7), (.box (.t 2)), none, []⟩, ⟨(some 10), (.mov (.c (.bool false))), none, []⟩] none [7, 4, 3, 1, 0]) (.seq (.region [⟨(some 17), (.ld (some 26) (.t 7)), none, []⟩, ⟨(some 18), (.call 5 0 true [(.t 17)]), none, []⟩, ⟨none, (.st 26 (.t 7) (.t 18)), none, []⟩] none [7, 4, 3, 1, 0]) (.seq (.region [⟨(some 19), (.mov (.t 0)), none, []⟩, ⟨(some 20), (.mov (.t 1)), none, []⟩, ⟨(some 21), (.call 6 0 true [(.t 19), (.t 20)]), none, []⟩, ⟨(some 11), (.alloc [(.int .i64 0), (.bool false), (.lst true [])]), none, []⟩, ⟨none, (.st 3 (.t 11) (.t 21)), none, []⟩] none [11, 7, 4, 3]) (.seq (.region [⟨(some 22), (.mov (.t 4)), none, []⟩, ⟨(some 23), (.call 7 0 true [(.t 22), (.c (.int .i64 1)), (.c (.int .i64 1099511627776))]), none, []⟩, ⟨(some 4), (.mov (.t 23)), none, []⟩] none [11, 7, 4, 3]) (.seq (.region [⟨(some 24), (.ld (some 26) (.t 7)), none, []⟩, ⟨(some 12), (.alloc [(.int .i64 0), (.bool false), (.int .i64 0), (.bool false), (.int .i64 0), (.str []), (.lst true []), (.int .i64 0), (.lst true []), (.lst true []), (.lst true []), (.lst true []), (.bool false), (.int .i64 0), (.str []), (.bool false), (.str []), (.lst true []), (.int .i64 0), (.bool false), (.lst true []), (.bool false), (.str []), (.bool false), (.lst true []), (.bool false)]), none, []⟩, ⟨none, (.st 26 (.t 12) (.t 24)), none, []⟩] none [12, 11, 7, 4, 3]) (.seq (.region [⟨(some 25), (.faddr 16 (.t 7)), none, []⟩, ⟨(some 26), (.faddr 1 (.t 25)), none, []⟩, ⟨(some 27), (.ld none (.t 26)), none, []⟩, ⟨(some 28), (.call 8 1 false [(.t 27)]), none, []⟩, ⟨(some 29), (.faddr 16 (.t 12)), none, []⟩, ⟨(some 30), (.faddr 1 (.t 29)), none, []⟩, ⟨none, (.st 1 (.t 30) (.t 28)), none, []⟩] none [12, 11, 7, 4, 3]) (.seq (.region [⟨(some 32), (.ld (some 3) (.t 11)), none, []⟩, ⟨(some 33), (.ld (some 26) (.t 12)), none, []⟩, ⟨(some 34), (.mov (.t 3)), none, []⟩, ⟨(some 35), (.mov (.t 4)), none, []⟩, ⟨(some 36), (.call 9 0 true [(.t 32), (.t 33), (.t 34), (.t 35)]), none, []⟩, ⟨(some 31), (.mov (.t 36)), none, []⟩, ⟨(some 37), (.ext (.t 31) 0), none, []⟩, ⟨(some 38), (.ext (.t 31) 1), none, []⟩, ⟨(some 13), (.alloc [(.str []), (.bool false), (.int .i64 0), (.int .i64 0), (.int .i64 0), (.int .i64 0), (.int .i64 0), (.str []), (.str []), (.bool false), (.str []), (.lst true []), (.int .i64 0), (.bool false), (.str []), (.int .i64 0), (.lst true []), (.int .i64 0), (.int .i64 0), (.int .i64 0), (.int .i64 0), (.int .i64 0)]), none, []⟩, ⟨none, (.st 22 (.t 13) (.t 37)), none, []⟩, ⟨(some 14), (.mov (.t 38)), none, []⟩] none [14, 13, 12, 11, 7, 4, 3]) (.seq (.region [⟨(some 40), (.ld (some 3) (.t 11)), none, []⟩, ⟨(some 41), (.ld (some 26) (.t 7)), none, []⟩, ⟨(some 42), (.mov (.t 3)), none, []⟩, ⟨(some 43), (.mov (.t 4)), none, []⟩, ⟨(some 44), (.call 10 0 true [(.t 40), (.t 41), (.t 42), (.t 43)]), none, []⟩, ⟨(some 39), (.mov (.t 44)), none, []⟩, ⟨(some 45), (.ext (.t 39) 0), none, []⟩, ⟨(some 46), (.ext (.t 39) 1), none, []⟩, ⟨(some 15), (.alloc [(.str []), (.bool false), (.int .i64 0), (.int .i64 0), (.int .i64 0), (.int .i64 0), (.int .i64 0), (.str []), (.str []), (.bool false), (.str []), (.lst true []), (.int .i64 0), (.bool false), (.str []), (.int .i64 0), (.lst true []), (.int .i64 0), (.int .i64 0), (.int .i64 0), (.int .i64 0), (.int .i64 0)]), none, []⟩, ⟨none, (.st 22 (.t 15) (.t 45)), none, []⟩, ⟨(some 16), (.mov (.t 46)), none, []⟩] none [16, 15, 14, 13, 12, 7, 3]) (.seq (.seq (.region [⟨(some 47), (.faddr 16 (.t 12)), none, []⟩, ⟨(some 48), (.faddr 1 (.t 47)), none, []⟩, ⟨(some 49), (.ld none (.t 48)), none, []⟩, ⟨(some 50), (.faddr 16 (.t 7)), none, []⟩, ⟨(some 51), (.faddr 1 (.t 50)), none, []⟩, ⟨(some 52), (.ld none (.t 51)), none, []⟩, ⟨(some 53), (.call 11 0 true [(.t 49), (.t 52)]), none, []⟩, ⟨(some 54), (.un .not (.t 53)), none, []⟩] none [54, 16, 15, 14, 13, 7, 3]) (.cond (.t 54) (.seq (.region [⟨(some 10), (.mov (.c (.bool false))), none, []⟩] none [10]) .ret) .skip)) (.seq (.region [⟨(some 55), (.mov (.t 14)), none, []⟩, ⟨(some 56), (.mov (.t 16)), none, []⟩, ⟨(some 57), (.bin .eql (.t 55) (.t 56)), none, []⟩, ⟨(some 58), (.mov (.t 57)), none, []⟩, ⟨(some 59), (.ld (some 22) (.t 13)), (some (58, true)), []⟩, ⟨(some 60), (.ld (some 22) (.t 15)), (some (58, true)), []⟩, ⟨(some 61), (.call 12 0 true [(.t 59), (.t 60)]), (some (58, true)), []⟩, ⟨(some 62), (.pick (.t 58) (.t 61) (.c (.bool false))), none, []⟩, ⟨(some 63), (.mov (.t 62)), none, []⟩, ⟨(some 64), (.faddr 14 (.t 7)), (some (63, true)), []⟩, ⟨(some 65), (.ld none (.t 64)), (some (63, true)), []⟩, ⟨(some 66), (.call 13 0 true [(.t 65)]), (some (63, true)), []⟩, ⟨(some 67), (.faddr 14 (.t 7)), (some (63, true)), []⟩, ⟨(some 68), (.ld none (.t 67)), (some (63, true)), []⟩, ⟨(some 69), (.call 14 0 true [(.t 68)]), (some (63, true)), []⟩, ⟨(some 70), (.beq false (.t 66) (.t 69)), (some (63, true)), []⟩, ⟨(some 71), (.pick (.t 63) (.t 70) (.c (.bool false))), none, []⟩, ⟨(some 72), (.mov (.t 71)), none, []⟩, ⟨(some 73), (.mov (.t 3)), (some (72, true)), []⟩, ⟨(some 74), (.call 13 0 true [(.t 73)]), (some (72, true)), []⟩, ⟨(some 75), (.mov (.t 3)), (some (72, true)), []⟩, ⟨(some 76), (.call 14 0 true [(.t 75)]), (some (72, true)), []⟩, ⟨(some 77), (.beq false (.t 74) (.t 76)), (some (72, true)), []⟩, ⟨(some 78), (.pick (.t 72) (.t 77) (.c (.bool false))), none, []⟩, ⟨(some 79), (.mov (.t 78)), none, []⟩, ⟨(some 80), (.call 15 0 true []), (some (79, true)), []⟩, ⟨(some 81), (.pick (.t 79) (.t 80) (.c (.bool false))), none, []⟩, ⟨(some 10), (.mov (.t 81)), none, []⟩] (some [(4, 5), (10, 13), (11, 13)]) [10]) .ret))))))))))
def c_tidingslaw23_ConnMeets : AFunc := ⟨[(.tmp 10)], b_tidingslaw23_ConnMeets⟩
theorem cf_tidingslaw23_ConnMeets : FC 3 = some c_tidingslaw23_ConnMeets := by kernel_rfl
theorem cb_tidingslaw23_ConnMeets : c_tidingslaw23_ConnMeets.body = b_tidingslaw23_ConnMeets := rfl
theorem cr_tidingslaw23_ConnMeets : c_tidingslaw23_ConnMeets.res = [(.tmp 10)] := rfl
def b_tidingslaw23_ConnNames : ACode := (.seq (.region [⟨(some 6), (.mov (.c (.bool false))), none, []⟩] none [2, 1, 0]) (.seq (.region [⟨(some 10), (.build [(.int .i64 0), (.bool false), (.lst true [])] [(0, 1, (.c (.int .i64 1))), (1, 1, (.c (.bool true)))]), none, []⟩, ⟨(some 11), (.mov (.t 0)), none, []⟩, ⟨(some 12), (.mov (.t 1)), none, []⟩, ⟨(some 13), (.build [(.int .i64 0), (.bool false), (.int .i64 0), (.bool false), (.int .i64 0), (.str []), (.lst true []), (.int .i64 0), (.lst true []), (.lst true []), (.lst true []), (.lst true []), (.bool false), (.int .i64 0), (.str []), (.bool false), (.str []), (.lst true []), (.int .i64 0), (.bool false), (.lst true []), (.bool false), (.str []), (.bool false), (.lst true []), (.bool false)] [(0, 1, (.c (.int .i64 1))), (14, 1, (.t 11)), (12, 1, (.t 12))]), none, []⟩, ⟨(some 14), (.mov (.t 2)), none, []⟩, ⟨(some 15), (.call 9 0 true [(.t 10), (.t 13), (.t 14), (.c (.int .i64 7))]), none, []⟩, ⟨(some 9), (.mov (.t 15)), none, []⟩, ⟨(some 16), (.ext (.t 9) 0), none, []⟩, ⟨(some 17), (.ext (.t 9) 1), none, []⟩, ⟨(some 7), (.alloc [(.str []), (.bool false), (.int .i64 0), (.int .i64 0), (.int .i64 0), (.int .i64 0), (.int .i64 0), (.str []), (.str []), (.bool false), (.str []), (.lst true []), (.int .i64 0), (.bool false), (.str []), (.int .i64 0), (.lst true []), (.int .i64 0), (.int .i64 0), (.int .i64 0), (.int .i64 0), (.int .i64 0)]), none, []⟩, ⟨none, (.st 22 (.t 7) (.t 16)), none, []⟩, ⟨(some 8), (.mov (.t 17)), none, []⟩] none [8, 7, 2, 1, 0]) (.seq (.block 0 (.seq (.region [⟨(some 19), (.mov (.t 0)), none, []⟩, ⟨(some 20), (.bin .eql (.t 19) (.c (.str []))), none, []⟩, ⟨(some 21), (.mov (.t 20)), none, []⟩, ⟨(some 22), (.mov (.t 1)), (some (21, true)), []⟩, ⟨(some 23), (.pick (.t 21) (.t 22) (.c (.bool false))), none, []⟩, ⟨(some 18), (.mov (.t 23)), none, []⟩] none [18, 8, 7, 2, 1, 0]) (.cond (.t 18) (.seq (.region [⟨(some 24), (.mov (.t 8)), none, []⟩, ⟨(some 25), (.bin .eql (.t 24) (.c (.int .i64 0))), none, []⟩, ⟨(some 26), (.mov (.t 25)), none, []⟩, ⟨(some 27), (.faddr 0 (.t 7)), (some (26, true)), []⟩, ⟨(some 28), (.ld none (.t 27)), (some (26, true)), []⟩, ⟨(some 29), (.mov (.t 2)), (some (26, true)), []⟩, ⟨(some 30), (.bin .eql (.t 28) (.t 29)), (some (26, true)), []⟩, ⟨(some 31), (.pick (.t 26) (.t 30) (.c (.bool false))), none, []⟩, ⟨(some 32), (.mov (.t 31)), none, []⟩, ⟨(some 33), (.faddr 1 (.t 7)), (some (32, true)), []⟩, ⟨(some 34), (.ld none (.t 33)), (some (32, true)), []⟩, ⟨(some 35), (.pick (.t 32) (.t 34) (.c (.bool false))), none, []⟩, ⟨(some 36), (.mov (.t 35)), none, []⟩, ⟨(some 37), (.call 15 0 true []), (some (36, true)), []⟩, ⟨(some 38), (.pick (.t 36) (.t 37) (.c (.bool false))), none, []⟩, ⟨(some 6), (.mov (.t 38)), none, []⟩] none [6]) .ret) (.seq (.region [⟨(some 40), (.mov (.t 0)), none, []⟩, ⟨(some 41), (.bin .eql (.t 40) (.c (.str []))), none, []⟩, ⟨(some 42), (.mov (.t 41)), none, []⟩, ⟨(some 43), (.mov (.t 0)), (some (42, false)), []⟩, ⟨(some 44), (.call 13 0 true [(.t 43)]), (some (42, false)), []⟩, ⟨(some 45), (.un .not (.t 44)), (some (42, false)), []⟩, ⟨(some 46), (.pick (.t 42) (.c (.bool true)) (.t 45)), none, []⟩, ⟨(some 39), (.mov (.t 46)), none, []⟩] none [39, 8, 7, 1, 0]) (.cond (.t 39) (.seq (.region [⟨(some 47), (.mov (.t 8)), none, []⟩, ⟨(some 48), (.bin .eql (.t 47) (.c (.int .i64 133))), none, []⟩, ⟨(some 49), (.mov (.t 48)), none, []⟩, ⟨(some 50), (.faddr 0 (.t 7)), (some (49, true)), []⟩, ⟨(some 51), (.ld none (.t 50)), (some (49, true)), []⟩, ⟨(some 52), (.bin .eql (.t 51) (.c (.str []))), (some (49, true)), []⟩, ⟨(some 53), (.pick (.t 49) (.t 52) (.c (.bool false))), none, []⟩, ⟨(some 54), (.mov (.t 53)), none, []⟩, ⟨(some 55), (.call 15 0 true []), (some (54, true)), []⟩, ⟨(some 56), (.pick (.t 54) (.t 55) (.c (.bool false))), none, []⟩, ⟨(some 6), (.mov (.t 56)), none, []⟩] none [6]) .ret) .skip))))) (.seq (.region [⟨(some 57), (.mov (.t 8)), none, []⟩, ⟨(some 58), (.bin .eql (.t 57) (.c (.int .i64 0))), none, []⟩, ⟨(some 59), (.mov (.t 58)), none, []⟩, ⟨(some 60), (.faddr 0 (.t 7)), (some (59, true)), []⟩, ⟨(some 61), (.ld none (.t 60)), (some (59, true)), []⟩, ⟨(some 62), (.mov (.t 0)), (some (59, true)), []⟩, ⟨(some 63), (.bin .eql (.t 61) (.t 62)), (some (59, true)), []⟩, ⟨(some 64), (.pick (.t 59) (.t 63) (.c (.bool false))), none, []⟩, ⟨(some 65), (.mov (.t 64)), none, []⟩, ⟨(some 66), (.faddr 1 (.t 7)), (some (65, true)), []⟩, ⟨(some 67), (.ld none (.t 66)), (some (65, true)), []⟩, ⟨(some 68), (.mov (.t 1)), (some (65, true)), []⟩, ⟨(some 69), (.beq false (.t 67) (.t 68)), (some (65, true)), []⟩, ⟨(some 70), (.pick (.t 65) (.t 69) (.c (.bool false))), none, []⟩, ⟨(some 71), (.mov (.t 70)), none, []⟩, ⟨(some 72), (.faddr 3 (.t 7)), (some (71, true)), []⟩, ⟨(some 73), (.ld none (.t 72)), (some (71, true)), []⟩, ⟨(some 74), (.bin .eql (.t 73) (.c (.int .i64 0))), (some (71, true)), []⟩, ⟨(some 75), (.pick (.t 71) (.t 74) (.c (.bool false))), none, []⟩, ⟨(some 76), (.mov (.t 75)), none, []⟩, ⟨(some 77), (.faddr 9 (.t 7)), (some (76, true)), []⟩, ⟨(some 78), (.ld none (.t 77)), (some (76, true)), []⟩, ⟨(some 79), (.un .not (.t 78)), (some (76, true)), []⟩, ⟨(some 80), (.pick (.t 76) (.t 79) (.c (.bool false))), none, []⟩, ⟨(some 81), (.mov (.t 80)), none, []⟩, ⟨(some 82), (.call 15 0 true []), (some (81, true)), []⟩, ⟨(some 83), (.pick (.t 81) (.t 82) (.c (.bool false))), none, []⟩, ⟨(some 6), (.mov (.t 83)), none, []⟩] none [6]) .ret))))
def c_tidingslaw23_ConnNames : AFunc := ⟨[(.tmp 6)], b_tidingslaw23_ConnNames⟩
theorem cf_tidingslaw23_ConnNames : FC 4 = some c_tidingslaw23_ConnNames := by kernel_rfl
theorem cb_tidingslaw23_ConnNames : c_tidingslaw23_ConnNames.body = b_tidingslaw23_ConnNames := rfl
theorem cr_tidingslaw23_ConnNames : c_tidingslaw23_ConnNames.res = [(.tmp 6)] := rfl
def b_tidingslaw23_users : ACode := (.seq (.region [⟨(some 4), (.alloc [(.int .i64 0), (.bool false), (.lst true [])]), none, []⟩] none [4, 1, 0]) (.seq (.seq (.region [⟨(some 5), (.mov (.t 1)), none, []⟩, ⟨(some 6), (.len (.t 5)), none, []⟩, ⟨(some 7), (.bin .gtr (.t 6) (.c (.int .i64 8))), none, []⟩] none [7, 4, 1, 0]) (.cond (.t 7) (.region [⟨(some 8), (.mov (.t 1)), none, []⟩, ⟨(some 9), (.slice 2 (.t 8) none (some (.c (.int .i64 8))) none), none, []⟩, ⟨(some 1), (.mov (.t 9)), none, []⟩] none [4, 1, 0]) .skip)) (.seq (.region [⟨(some 10), (.mov (.t 0)), none, []⟩, ⟨(some 11), (.mov (.t 1)), none, []⟩, ⟨(some 12), (.build [(.int .i64 0), (.bool false), (.lst true [])] [(0, 1, (.c (.int .i64 1))), (1, 1, (.t 10)), (2, 1, (.t 11))]), none, []⟩, ⟨none, (.st 3 (.t 4) (.t 12)), none, []⟩] none [4]) .ret)))
def c_tidingslaw23_users : AFunc := ⟨[(.cell 4 (some 3))], b_tidingslaw23_users⟩
theorem cf_tidingslaw23_users : FC 6 = some c_tidingslaw23_users := by kernel_rfl
theorem cb_tidingslaw23_users : c_tidingslaw23_users.body = b_tidingslaw23_users := rfl
theorem cr_tidingslaw23_users : c_tidingslaw23_users.res = [(.cell 4 (some 3))] := rfl
def b_tidingslaw23_wakes : ACode := (.seq (.region [⟨(some 0), (.mov (.c (.bool false))), none, []⟩] none []) (.seq (.region [⟨(some 6), (.build [(.int .i64 0), (.bool false), (.lst true [])] [(0, 1, (.c (.int .i64 1))), (1, 1, (.c (.bool true)))]), none, []⟩, ⟨(some 7), (.build [(.int .i64 0), (.bool false), (.int .i64 0), (.bool false), (.int .i64 0), (.str []), (.lst true []), (.int .i64 0), (.lst true []), (.lst true []), (.lst true []), (.lst true []), (.bool false), (.int .i64 0), (.str []), (.bool false), (.str []), (.lst true []), (.int .i64 0), (.bool false), (.lst true []), (.bool false), (.str []), (.bool false), (.lst true []), (.bool false)] [(0, 1, (.c (.int .i64 1))), (12, 1, (.c (.bool true))), (13, 1, (.c (.int .i64 9)))]), none, []⟩, ⟨(some 8), (.call 9 0 true [(.t 6), (.t 7), (.c (.str [116, 49])), (.c (.int .i64 5))]), none, []⟩, ⟨(some 5), (.mov (.t 8)), none, []⟩, ⟨(some 9), (.ext (.t 5) 0), none, []⟩, ⟨(some 10), (.ext (.t 5) 1), none, []⟩, ⟨(some 1), (.alloc [(.str []), (.bool false), (.int .i64 0), (.int .i64 0), (.int .i64 0), (.int .i64 0), (.int .i64 0), (.str []), (.str []), (.bool false), (.str []), (.lst true []), (.int .i64 0), (.bool false), (.str []), (.int .i64 0), (.lst true []), (.int .i64 0), (.int .i64 0), (.int .i64 0), (.int .i64 0), (.int .i64 0)]), none, []⟩, ⟨none, (.st 22 (.t 1) (.t 9)), none, []⟩, ⟨(some 2), (.mov (.t 10)), none, []⟩] none [2, 1]) (.seq (.region [⟨(some 12), (.build [(.int .i64 0), (.bool false), (.lst true [])] [(0, 1, (.c (.int .i64 1))), (1, 1, (.c (.bool true)))]), none, []⟩, ⟨(some 13), (.build [(.int .i64 0), (.bool false), (.int .i64 0), (.bool false), (.int .i64 0), (.str []), (.lst true []), (.int .i64 0), (.lst true []), (.lst true []), (.lst true []), (.lst true []), (.bool false), (.int .i64 0), (.str []), (.bool false), (.str []), (.lst true []), (.int .i64 0), (.bool false), (.lst true []), (.bool false), (.str []), (.bool false), (.lst true []), (.bool false)] [(0, 1, (.c (.int .i64 1)))]), none, []⟩, ⟨(some 14), (.call 9 0 true [(.t 12), (.t 13), (.c (.str [116, 49])), (.c (.int .i64 5))]), none, []⟩, ⟨(some 11), (.mov (.t 14)), none, []⟩, ⟨(some 15), (.ext (.t 11) 0), none, []⟩, ⟨(some 16), (.ext (.t 11) 1), none, []⟩, ⟨(some 3), (.alloc [(.str []), (.bool false), (.int .i64 0), (.int .i64 0), (.int .i64 0), (.int .i64 0), (.int .i64 0), (.str []), (.str []), (.bool false), (.str []), (.lst true []), (.int .i64 0), (.bool false), (.str []), (.int .i64 0), (.lst true []), (.int .i64 0), (.int .i64 0), (.int .i64 0), (.int .i64 0), (.int .i64 0)]), none, []⟩, ⟨none, (.st 22 (.t 3) (.t 15)), none, []⟩, ⟨(some 4), (.mov (.t 16)), none, []⟩] none [4, 2, 1]) (.seq (.region [⟨(some 17), (.mov (.t 2)), none, []⟩, ⟨(some 18), (.bin .eql (.t 17) (.c (.int .i64 0))), none, []⟩, ⟨(some 19), (.mov (.t 18)), none, []⟩, ⟨(some 20), (.faddr 0 (.t 1)), (some (19, true)), []⟩, ⟨(some 21), (.ld none (.t 20)), (some (19, true)), []⟩, ⟨(some 22), (.bin .eql (.t 21) (.c (.str [116, 49]))), (some (19, true)), []⟩, ⟨(some 23), (.pick (.t 19) (.t 22) (.c (.bool false))), none, []⟩, ⟨(some 24), (.mov (.t 23)), none, []⟩, ⟨(some 25), (.faddr 2 (.t 1)), (some (24, true)), []⟩, ⟨(some 26), (.ld none (.t 25)), (some (24, true)), []⟩, ⟨(some 27), (.bin .eql (.t 26) (.c (.int .i64 9))), (some (24, true)), []⟩, ⟨(some 28), (.pick (.t 24) (.t 27) (.c (.bool false))), none, []⟩, ⟨(some 29), (.mov (.t 28)), none, []⟩, ⟨(some 30), (.faddr 4 (.t 1)), (some (29, true)), []⟩, ⟨(some 31), (.ld none (.t 30)), (some (29, true)), []⟩, ⟨(some 32), (.bin .eql (.t 31) (.c (.int .i64 65535))), (some (29, true)), []⟩, ⟨(some 33), (.pick (.t 29) (.t 32) (.c (.bool false))), none, []⟩, ⟨(some 34), (.mov (.t 33)), none, []⟩, ⟨(some 35), (.faddr 21 (.t 1)), (some (34, true)), []⟩, ⟨(some 36), (.ld none (.t 35)), (some (34, true)), []⟩, ⟨(some 37), (.bin .eql (.t 36) (.c (.int .i64 0))), (some (34, true)), []⟩, ⟨(some 38), (.pick (.t 34) (.t 37) (.c (.bool false))), none, []⟩, ⟨(some 39), (.mov (.t 38)), none, []⟩, ⟨(some 40), (.mov (.t 4)), (some (39, true)), []⟩, ⟨(some 41), (.bin .eql (.t 40) (.c (.int .i64 133))), (some (39, true)), []⟩, ⟨(some 42), (.pick (.t 39) (.t 41) (.c (.bool false))), none, []⟩, ⟨(some 0), (.mov (.t 42)), none, []⟩] none [0]) .ret))))
def c_tidingslaw23_wakes : AFunc := ⟨[(.tmp 0)], b_tidingslaw23_wakes⟩
theorem cf_tidingslaw23_wakes : FC 15 = some c_tidingslaw23_wakes := by kernel_rfl
theorem cb_tidingslaw23_wakes : c_tidingslaw23_wakes.body = b_tidingslaw23_wakes := rfl
theorem cr_tidingslaw23_wakes : c_tidingslaw23_wakes.res = [(.tmp 0)] := rfl
end Go.Proofs.YtaaflagbhneakaaDoor
namespace Go.Proofs.YtaaflagbhneakaaDoor
set_option linter.unusedSimpArgs false
set_option linter.unusedVariables false
open Go.RowKit

inductive Ty where
  | bool
  | int (k : IntKind)
  | str
  | slice (s : Bool) (e : Ty)
  | struct (fs : List Ty)
  deriving Inhabited
def isRowD : Option TypeDesc → Bool
  | some (.struct _) => true
  | some (.array _ _) => true
  | _ => false
/-- fields that lie one behind the other -/
def offsOk (P : Program) : Nat → List Field → Nat → Bool
  | at', [], n => at' == n
  | at', f :: fs, n => f.offset == at' && offsOk P (at' + P.cellsOf f.type) fs n
def tyOf (P : Program) : Nat → TypeId → Option Ty
  | 0, _ => none
  | n + 1, t => match P.underlying t with
    | some .bool => some .bool
    | some (.int k) => some (.int k)
    | some .string => some .str
    | some (.slice e) => if 0 < P.cellsOf e then (tyOf P n e).map (.slice (isRowD (P.underlying e))) else none
    | some (.struct fs) => if offsOk P 0 fs.toList (P.cellsOf t) then (fs.toList.mapM fun f => tyOf P n f.type).map .struct else none
    | _ => none
def elemV (s : Bool) (y : List AVal) : AVal := if s then .agg y else y.headD .nilp
mutual
def TyC : Ty → List AVal → Prop
  | .bool, xs => ∃ b, xs = [.bool b]
  | .int k, xs => ∃ n, (Lit.int k n).wf = true ∧ xs = [.int k n]
  | .str, xs => ∃ l : List UInt8, l.length ≤ 9223372036854775807 ∧ xs = [.str l]
  | .slice s e, xs => ∃ ys : List (List AVal), xs = [.lst false (ys.map (elemV s))] ∧ ys.length ≤ 9223372036854775807 ∧ ∀ y ∈ ys, TyC e y
  | .struct fs, xs => TysC fs xs
def TysC : List Ty → List AVal → Prop
  | [], xs => xs = []
  | f :: fs, xs => ∃ a b, xs = a ++ b ∧ TyC f a ∧ TysC fs b
end
/-- every cell of a world -/
def Imm.of (w : World) : Imm := fun b o => w.cell? ⟨b, o, none⟩

section
variable {H : Type} {enc : TypeId × Value → H} {P : Program} {w : World} {spare : Nat → Bool} {held : Bool}
theorem cell_spot {b off : Nat} {s : Option Nat} {u : Value} (h : w.cell? ⟨b, off, s⟩ = some u) : s = none := by
  unfold World.cell? at h
  split at h
  · rcases s with _ | s
    · rfl
    · simp at h
  · cases h
theorem elemV_cells {s : Bool} {y : List AVal} (h : s = false → y.length = 1) (h1 : s = false → ∀ x ∈ y, okCell x = true) : (elemV s y).cells = y := by
  cases s with
  | true => rfl
  | false =>
    match y, h rfl with
    | [x], _ =>
      have := h1 rfl x (by simp)
      cases x <;> simp_all [elemV, AVal.cells, okCell]

theorem addr_at {a : Addr} (h : a.spot = none) (n : Nat) : a.add n = ⟨a.block, a.off + n, none⟩ := by
  unfold Addr.add
  split
  · rename_i e; subst e; cases a; simp_all
  · rfl
theorem VRs_split {I : Imm} {β : Bmap} {xs : List AVal} {vs : List Value} {n : Nat} (h : VRs I β xs (vs.take n)) {ys : List AVal} (h' : VRs I β ys (vs.drop n)) : VRs I β (xs ++ ys) vs := by
  have := VRs_append h h'
  rwa [List.take_append_drop] at this

theorem mapM_cons_some {α β : Type} {f : α → Option β} {a : α} {l : List α} {r : List β} (h : (a :: l).mapM f = some r) : ∃ b r', f a = some b ∧ l.mapM f = some r' ∧ r = b :: r' := by
  rw [List.mapM_cons] at h
  simp only [Option.bind_eq_bind, Option.bind_eq_some_iff, Option.pure_def, Option.some.injEq] at h
  obtain ⟨b, h1, r', h2, h3⟩ := h
  exact ⟨b, r', h1, h2, h3.symm⟩
theorem treeC_append {a b : List AVal} (ha : treeC a = true) (hb : treeC b = true) : treeC (a ++ b) = true := by
  induction a with
  | nil => exact hb
  | cons x a ih => simp only [List.cons_append, treeC, Bool.and_eq_true] at ha ⊢; exact ⟨ha.1, ih ha.2⟩
theorem tys_of {n fuel : Nat} {cs : List Value} (ih : ∀ (t : TypeId) (cs : List Value) (x : DataW H × List MemPlace) (T : Ty), tyOf P n t = some T → DataW.trod enc P w 0 spare held fuel t cs = some x → ∃ xs, TyC T xs ∧ VRs (Imm.of w) B0 xs cs ∧ treeC xs = true) :
    ∀ (fs : List Field) (at' : Nat) (Ts : List Ty) (ys : List (DataW H × List MemPlace)), offsOk P at' fs cs.length = true → fs.mapM (fun f => tyOf P n f.type) = some Ts →
      fs.mapM (fun f => DataW.trod enc P w 0 spare held fuel f.type ((cs.drop f.offset).take (P.cellsOf f.type))) = some ys → ∃ xs, TysC Ts xs ∧ VRs (Imm.of w) B0 xs (cs.drop at') ∧ treeC xs = true
  | [], at', Ts, ys, ho, hT, _ => by
    simp only [offsOk, beq_iff_eq] at ho
    simp only [List.mapM_nil, Option.pure_def, Option.some.injEq] at hT
    subst hT ho
    exact ⟨[], by simp only [TysC], by simp [VRs], rfl⟩
  | f :: fs, at', Ts, ys, ho, hT, h => by
    simp only [offsOk, Bool.and_eq_true, beq_iff_eq] at ho
    obtain ⟨T, Ts', h1, h2, rfl⟩ := mapM_cons_some hT
    obtain ⟨y, ys', h3, h4, rfl⟩ := mapM_cons_some h
    obtain ⟨a, a1, a2, a3⟩ := ih _ _ _ _ h1 h3
    obtain ⟨b, b1, b2, b3⟩ := tys_of ih fs _ _ _ ho.2 h2 h4
    rw [ho.1] at a2
    refine ⟨a ++ b, by simp only [TysC]; exact ⟨a, b, rfl, a1, b1⟩, VRs_split a2 (by rw [List.drop_drop]; exact b2), treeC_append a3 b3⟩

theorem LR_rng {I : Imm} {β : Bmap} {s : Bool} {k b : Nat} : ∀ (n off : Nat) (Y : Nat → List AVal), (∀ i, i < n → (elemV s (Y i)).cells.length = k ∧ CR I β (elemV s (Y i)).cells b (off + i * k)) → LR I β k ((List.range n).map fun i => elemV s (Y i)) b off
  | 0, off, Y, _ => by simp [LR]
  | n + 1, off, Y, h => by
    rw [List.range_succ_eq_map, List.map_cons, LR_cons]
    have h0 := h 0 (by omega)
    simp only [Nat.zero_mul, Nat.add_zero] at h0
    refine ⟨h0, ?_⟩
    rw [List.map_map]
    exact LR_rng n (off + k) (fun i => Y (i + 1)) (fun i hi => by
      have := h (i + 1) (by omega)
      rw [show off + k + i * k = off + (i + 1) * k by rw [Nat.succ_mul]; omega]
      exact this)
theorem CR_of {I : Imm} {β : Bmap} {b : Nat} : ∀ (xs : List AVal) (cs : List Value) (off : Nat), VRs I β xs cs → (∀ i, i < cs.length → I b (off + i) = cs[i]?) → CR I β xs b off
  | [], _, _, _, _ => by simp only [CR]
  | x :: xs, cs, off, h, hI => by
    simp only [VRs] at h
    obtain ⟨v, vs', rfl, h1, h2⟩ := h
    simp only [CR]
    refine ⟨⟨v, by have := hI 0 (by simp); simpa using this, h1⟩, CR_of xs vs' (off + 1) h2 fun i hi => ?_⟩
    have := hI (i + 1) (by simp; omega)
    rw [show off + 1 + i = off + (i + 1) by omega, this]
    simp
theorem treeL_of {s : Bool} : ∀ (n : Nat) (Y : Nat → List AVal), (∀ i, i < n → treeC (elemV s (Y i)).cells = true) → treeL ((List.range n).map fun i => elemV s (Y i)) = true
  | 0, Y, _ => by simp [treeL]
  | n + 1, Y, h => by
    rw [List.range_succ_eq_map, List.map_cons, treeL_cons, h 0 (by omega), List.map_map]
    simp only [Bool.true_and]
    exact treeL_of n (fun i => Y (i + 1)) (fun i hi => h (i + 1) (by omega))
theorem treeC_ok {xs : List AVal} (h : treeC xs = true) : ∀ x ∈ xs, okCell x = true := by
  induction xs with
  | nil => intro x hx; simp at hx
  | cons y ys ih =>
    simp only [treeC, Bool.and_eq_true] at h
    intro x hx
    rcases List.mem_cons.1 hx with rfl | hx
    · cases x <;> simp_all [tree1, okCell]
    · exact ih h.2 x hx

theorem tyOne {n : Nat} {e : TypeId} {T : Ty} (hT : tyOf P n e = some T) (hs : isRowD (P.underlying e) = false) {xs : List AVal} (h : TyC T xs) : xs.length = 1 := by
  cases n with
  | zero => simp [tyOf] at hT
  | succ n =>
    simp only [tyOf] at hT
    split at hT
    · injection hT with hT; subst hT; simp only [TyC] at h; obtain ⟨_, rfl⟩ := h; rfl
    · injection hT with hT; subst hT; simp only [TyC] at h; obtain ⟨_, _, rfl⟩ := h; rfl
    · injection hT with hT; subst hT; simp only [TyC] at h; obtain ⟨_, _, rfl⟩ := h; rfl
    · split at hT
      · simp only [Option.map_eq_some_iff] at hT
        obtain ⟨T', _, rfl⟩ := hT
        simp only [TyC] at h; obtain ⟨_, rfl, _⟩ := h; rfl
      · cases hT
    · rename_i hu; rw [hu] at hs; simp [isRowD] at hs
    · cases hT

/-- THE READING OF AN ARGUMENT, AS A TREE -/
theorem trod_ty : ∀ (n fuel : Nat) (t : TypeId) (cs : List Value) (x : DataW H × List MemPlace) (T : Ty), tyOf P n t = some T → DataW.trod enc P w 0 spare held fuel t cs = some x →
    ∃ xs, TyC T xs ∧ VRs (Imm.of w) B0 xs cs ∧ treeC xs = true
  | 0, fuel, t, cs, x, T, hT, _ => by simp [tyOf] at hT
  | n + 1, 0, t, cs, x, T, _, h => by simp [DataW.trod] at h
  | n + 1, fuel + 1, t, cs, x, T, hT, h => by
    have h0 := h
    simp only [tyOf] at hT
    unfold DataW.trod at h
    split at hT
    · rename_i hu
      injection hT with hT; subst hT
      obtain ⟨b, rfl, _⟩ := DataW.trod_bool hu h0
      exact ⟨[.bool b], by simp only [TyC]; exact ⟨b, rfl⟩, by simp [VRs, VR], rfl⟩
    · rename_i k hu
      injection hT with hT; subst hT
      obtain ⟨n', rfl, _, hk⟩ := DataW.trod_int hu h0
      exact ⟨[.int k n'], by simp only [TyC]; exact ⟨n', hk, rfl⟩, by simp [VRs, VR], rfl⟩
    · rename_i hu
      injection hT with hT; subst hT
      obtain ⟨s, rfl, _, hs⟩ := DataW.trod_string hu h0
      have hs' : s.data.toList.length ≤ 9223372036854775807 := by
        rw [Array.length_toList]; exact Nat.le_trans hs (by simp [maxLen])
      exact ⟨[.str s.data.toList], by simp only [TyC]; exact ⟨_, hs', rfl⟩, by simp only [VRs, VR]; exact ⟨_, _, rfl, ⟨by simp, hs'⟩, rfl⟩, rfl⟩
    · rename_i e hu
      split at hT
      case isFalse => cases hT
      rename_i hc
      simp only [Option.map_eq_some_iff] at hT
      obtain ⟨T, hT, rfl⟩ := hT
      rcases Go.Deep.open_slice hu h0 with ⟨hcs, _⟩ | ⟨a, len, cap, m, n', D, Pl, hcs, _, hl, hm, hmm, _, hi⟩
      · subst hcs
        exact ⟨[.lst false []], by simp only [TyC]; exact ⟨[], by simp, by simp, by simp⟩, by simp only [VRs, VR]; exact ⟨_, _, rfl, ⟨none, 0, rfl, by simp, by simp, by simp, by simp, by simp [treeL]⟩, rfl⟩, rfl⟩
      · have hlm : len ≤ m := by split at hmm <;> omega
        have hspot : 0 < len → a.spot = none := by
          intro h0
          obtain ⟨cs', h1, h2⟩ := hi 0 (by omega)
          obtain ⟨_, h6, h7⟩ := World.cells?_some h1
          have h8 := h7 0 hc
          obtain ⟨u, hu⟩ : ∃ u, cs'[0]? = some u := ⟨cs'[0]'(by omega), by simp⟩
          rw [hu] at h8
          simp only [Nat.zero_mul, Addr.add, if_true] at h8
          exact cell_spot (b := a.block) (off := a.off) (s := a.spot) (u := u) h8
        have hall : ∀ i, ∃ xs, i < len → TyC T xs ∧ (elemV (isRowD (P.underlying e)) xs).cells = xs ∧ xs.length = P.cellsOf e ∧ CR (Imm.of w) B0 xs a.block (a.off + i * P.cellsOf e) ∧ treeC xs = true := by
          intro i
          by_cases hlt : i < len
          · obtain ⟨cs', h1, h2⟩ := hi i (by omega)
            obtain ⟨xs, h3, h4, h5⟩ := trod_ty n n' e cs' _ T hT h2
            obtain ⟨_, h6, h7⟩ := World.cells?_some h1
            have hlen := VRs_length h4
            refine ⟨xs, fun _ => ⟨h3, elemV_cells (fun hs => tyOne hT hs h3) (fun _ => treeC_ok h5), by omega, CR_of xs cs' _ h4 (fun j hj => ?_), h5⟩⟩
            have h8 := h7 j (by omega)
            rw [Go.Deep.add_add, addr_at (hspot (by omega)), ← Nat.add_assoc] at h8
            exact h8
          · exact ⟨[], fun h => absurd h hlt⟩
        obtain ⟨Y, hY⟩ := Classical.axiomOfChoice hall
        subst hcs
        have hmx : maxLen = 9223372036854775807 := by simp [maxLen]
        rw [hmx] at hm
        refine ⟨[.lst false ((List.range len).map fun i => elemV (isRowD (P.underlying e)) (Y i))], ?_, ?_, ?_⟩
        · simp only [TyC]
          refine ⟨(List.range len).map Y, by rw [List.map_map]; rfl, by simp; omega, ?_⟩
          intro y hy
          obtain ⟨i, hi', rfl⟩ := List.mem_map.1 hy
          exact (hY i (List.mem_range.1 hi')).1
        · simp only [VRs, VR, List.length_map, List.length_range]
          refine ⟨_, _, rfl, ⟨some a, cap, rfl, hl, hm, by simp, ?_, treeL_of len Y fun i hlt => by rw [(hY i hlt).2.1]; exact (hY i hlt).2.2.2.2⟩, rfl⟩
          cases len with
          | zero => exact Or.inl (by simp)
          | succ len =>
            refine Or.inr ⟨a.block, a.off, P.cellsOf e, ?_, hc, LR_rng (len + 1) a.off Y fun i hlt => ?_⟩
            · have := hspot (by omega)
              cases a; simp_all
            · rw [(hY i hlt).2.1]; exact ⟨(hY i hlt).2.2.1, (hY i hlt).2.2.2.1⟩
        · simp only [treeC, tree1, Bool.and_true]
          exact treeL_of len Y fun i hlt => by rw [(hY i hlt).2.1]; exact (hY i hlt).2.2.2.2
    · rename_i fs hu
      split at hT
      case isFalse => cases hT
      rename_i ho
      simp only [Option.map_eq_some_iff] at hT
      obtain ⟨Ts, hT, rfl⟩ := hT
      rw [hu] at h
      simp only at h
      split at h
      · rename_i hl
        simp only [Option.map_eq_some_iff] at h
        obtain ⟨ys, hy, rfl⟩ := h
        obtain ⟨xs, h1, h2, h3⟩ := tys_of (fun t cs x T h h' => trod_ty n fuel t cs x T h h') fs.toList 0 Ts ys (by rw [hl]; exact ho) hT hy
        exact ⟨xs, by simp only [TyC]; exact h1, h2, h3⟩
      · cases h
    · cases hT

/-- a parameter's tree: a row's cells, or the one value -/
def ArgC (s : Bool) (T : Ty) (x : AVal) : Prop := ∃ xs, TyC T xs ∧ x = elemV s xs
theorem arg_ty {n : Nat} {t : TypeId} {v : Value} {d : DataW H} {ps : List MemPlace} {T : Ty} {r : Reach} {b0 : Nat} (hT : tyOf P n t = some T) (hv : Value.okWide P w r b0 t v) (h : DataW.Trod enc P w 0 spare held t v d ps) :
    ∃ x, ArgC (isRowD (P.underlying t)) T x ∧ VR (Imm.of w) B0 x v ∧ treeC x.cells = true := by
  obtain ⟨fuel, h⟩ := h
  obtain ⟨xs, h1, h2, h3⟩ := trod_ty n fuel t _ _ T hT h
  refine ⟨elemV (isRowD (P.underlying t)) xs, ⟨xs, h1, rfl⟩, ?_⟩
  by_cases hs : isRowD (P.underlying t) = true
  · have : ∃ cs, v = .agg cs := by
      unfold Value.okWide at hv
      cases hu : P.underlying t with
      | none => rw [hu] at hs; simp [isRowD] at hs
      | some dd =>
        rw [hu] at hv hs
        cases dd <;> first | (simp [isRowD] at hs; done) | (obtain ⟨cs, e, _⟩ := hv; exact ⟨cs, e⟩)
    obtain ⟨cs, rfl⟩ := this
    rw [hs]
    exact ⟨by simp only [elemV, if_true, VR]; exact ⟨cs, rfl, h2⟩, h3⟩
  · have hs' : isRowD (P.underlying t) = false := by simpa using hs
    have hl := tyOne hT hs' h1
    have hlen := VRs_length h2
    rw [hs']
    match xs, hl with
    | [x], _ =>
      simp only [elemV, Bool.false_eq_true, if_false, List.headD_cons]
      have hvc : v.cells = #[v] := by
        cases n with
        | zero => simp [tyOf] at hT
        | succ n =>
          simp only [tyOf] at hT
          split at hT
          · rename_i hu; obtain ⟨b, rfl⟩ := Go.WideShapes.okWide_bool hu hv; rfl
          · rename_i k hu; obtain ⟨b, rfl⟩ := Go.WideShapes.okWide_int hu hv; rfl
          · rename_i hu; obtain ⟨b, rfl⟩ := Go.WideShapes.okWide_string hu hv; rfl
          · rename_i e hu; obtain ⟨a, l, c, rfl⟩ := Go.WideShapes.okWide_slice hu hv; rfl
          · rename_i fs hu; rw [hu] at hs'; simp [isRowD] at hs'
          · cases hT
      rw [hvc] at h2
      simp only [VRs] at h2
      obtain ⟨v', vs', e, h2, _⟩ := h2
      simp only [List.cons.injEq] at e
      rw [e.1]
      refine ⟨h2, ?_⟩
      have hok := treeC_ok h3 x (by simp)
      have hx : x.cells = [x] := by cases x <;> first | rfl | (simp [okCell] at hok; done)
      rw [hx]; exact h3
theorem Rel.start (w : World) (hG : Gl.le (Imm.of w)) : Rel (fun b => b < w.heap.size) w (Imm.of w) (Imm.of w) B0 [] w where
  below := KB.refl _ w
  old := fun _ _ _ => rfl
  imm := fun _ _ _ h => h
  blk := fun t x h => by simp at h
  own := fun t x b h => by simp at h
  apart := fun t x t' x' b h => by simp at h
  fresh := fun _ _ _ => rfl
  free := fun t g h => by simp at h
  gen := fun t b g h => by simp at h
  glob := hG
/-- a law that the oracle tells true -/
theorem walk_of {O : Oracle} (hO : OrOk P O) {f : Nat} {args : List AVal} {vs : Array Value} {σ' : AHeap} (hG : Gl.le (Imm.of w)) (hargs : VRs (Imm.of w) B0 args vs.toList) (h : O f args [] = some (.bool true, σ')) :
    Calls P f vs w (fun e w' => e = .returned (.bool true) ∧ Below w.heap.size w w') := by
  refine ((hO f args [] _ _ h).2 _ w _ _ B0 w vs (fun b hb => hb) (Rel.start w hG) hargs).mono ?_
  rintro e w' ⟨u, he, I', β', _, _, R, hv⟩
  simp only [valOf, VR] at hv
  subst hv
  exact ⟨he, R.below.os, R.below.tape, R.below.output, R.below.size, R.below.block⟩
end
end Go.Proofs.YtaaflagbhneakaaDoor
