/- ABS: the interpreter without a bound: equations for proofs. -/
import Derived.Test.YtaaflagbhneakaaDoorAbsCall
namespace Go.Proofs.YtaaflagbhneakaaDoor
set_option linter.unusedSimpArgs false
set_option linter.unusedVariables false
open Go.RowKit

def OLe (O O' : Oracle) : Prop := ∀ f a σ r, O f a σ = some r → O' f a σ = some r
section
variable {O O' : Oracle} {byref : Nat → Bool}

theorem askO_mono {view : Bool} {m : Nat} {x y : Option (AVal × AHeap)} (h : ∀ r, x = some r → y = some r) {r : AVal × AHeap} (hr : askO view m x = some r) : askO view m y = some r := by
  cases x with
  | none => cases view <;> simp [askO, resV] at hr
  | some q => rw [h q rfl]; exact hr
theorem backG_mono {σ σf : AHeap} {ids ts : List Nat} {site own : Nat} {x y : Option (AVal × AHeap)} (h : ∀ r, x = some r → y = some r) {r : AVal × AHeap × Cls} (hr : backG σ σf ids ts site own x = some r) : backG σ σf ids ts site own y = some r := by
  cases x with
  | none => simp only [backG] at hr; cases hr
  | some q => rw [h q rfl]; exact hr
theorem callG_mono (hO : OLe O O') {σ : AHeap} {site f own : Nat} {view : Bool} {args : List AVal} {r : AVal × AHeap × Cls} (h : callG O byref σ site f own view args = some r) : callG O' byref σ site f own view args = some r := by
  unfold callG callI at h ⊢
  split at h
  · cases h
  · rename_i vs ts hv
    split at h
    · rename_i hc
      simp only [hc, if_true]
      exact backG_mono (fun q hq => askO_mono (fun q hq => hO _ _ _ _ hq) hq) h
    · cases h
theorem execI_mono (hO : OLe O O') {tm : Tms} {σ : AHeap} {site : Nat} {ins : Ins} {r : AVal × AHeap × Cls} (h : execI O byref tm σ site ins = some r) : execI O' byref tm σ site ins = some r := by
  cases ins
  case call f own view args =>
    simp only [execI] at h ⊢
    exact callG_mono hO h
  case callv x args =>
    simp only [execI] at h ⊢
    split at h
    · exact callG_mono hO h
    · cases h
  all_goals exact h
theorem stepA_mono (hO : OLe O O') {o : AOp} {tm : Tms} {σ : AHeap} {site : Nat} {r : AVal × Tms × AHeap × Cls} (h : stepA O byref o site tm σ = some r) : stepA O' byref o site tm σ = some r := by
  unfold stepA at h ⊢
  split at h
  · cases h
  · exact h
  · split at h
    · rename_i hf
      rw [if_pos hf]
      split at h
      · rename_i he; rw [execI_mono hO he]; exact h
      · cases h
    · cases h
theorem runOps_mono (hO : OLe O O') : ∀ {ops : List AOp} {s : Nat} {tm : Tms} {σ : AHeap} {r : Tms × AHeap × List Cls × Option AVal}, runOps O byref ops s tm σ = some r → runOps O' byref ops s tm σ = some r
  | [], _, _, _, _, h => h
  | o :: ops, s, tm, σ, r, h => by
    simp only [runOps] at h ⊢
    split at h
    · cases h
    · rename_i h1
      rw [stepA_mono hO h1]
      exact h
    · rename_i v tm1 σ1 c hnp h1
      rw [stepA_mono hO h1]
      simp only
      split at h
      · cases h
      rename_i h2
      rw [runOps_mono hO h2]
      exact h
theorem runRegion_mono (hO : OLe O O') {ops : List AOp} {chk : Option (List (Nat × Nat))} {live : List Nat} {tm : Tms} {σ : AHeap} {r : AExit × Tms × AHeap} (h : runRegion O byref ops chk live tm σ = some r) : runRegion O' byref ops chk live tm σ = some r := by
  unfold runRegion at h ⊢
  cases hx : runOps O byref ops σ.length tm (σ ++ List.replicate (sitesOf ops) .free) with
  | none => rw [hx] at h; simp only [regX] at h; cases h
  | some q => rw [runOps_mono hO hx]; rw [hx] at h; exact h
theorem iterA_mono {m0 : Nat} {live : List Nat} {f f' : Tms → AHeap → Option (AExit × Tms × AHeap)} (hf : ∀ tm σ r, f tm σ = some r → f' tm σ = some r) : ∀ {n n' : Nat} {tm : Tms} {σ : AHeap} {r : AExit × Tms × AHeap}, n ≤ n' → iterA m0 live f n tm σ = some r → iterA m0 live f' n' tm σ = some r
  | 0, _, _, _, _, _, h => by simp only [iterA] at h; cases h
  | n + 1, 0, _, _, _, hn, _ => by omega
  | n + 1, n' + 1, tm, σ, r, hn, h => by
    simp only [iterA] at h ⊢
    split at h
    · rename_i h1
      rw [hf _ _ _ h1]
      exact iterA_mono hf (by omega) h
    · rename_i hne
      rw [hf _ _ _ h]
      split
      · rename_i e; injection e with e; subst e; exact absurd h (hne _ _)
      · rfl
theorem execC_mono (hO : OLe O O') {m0 : Nat} : ∀ {c : ACode} {n n' : Nat} {tm : Tms} {σ : AHeap} {r : AExit × Tms × AHeap}, n ≤ n' → execC O byref m0 n c tm σ = some r → execC O' byref m0 n' c tm σ = some r := by
  intro c
  induction c with
  | skip => intro n n' tm σ r _ h; exact h
  | exit id => intro n n' tm σ r _ h; exact h
  | ret => intro n n' tm σ r _ h; exact h
  | stuck => intro n n' tm σ r _ h; exact h
  | region ops chk live =>
    intro n n' tm σ r _ h
    simp only [execC] at h ⊢
    exact runRegion_mono hO h
  | seq a b iha ihb =>
    intro n n' tm σ r hn h
    simp only [execC] at h ⊢
    split at h
    · rename_i h1; rw [iha hn h1]; exact ihb hn h
    · rename_i hne
      rw [iha hn h]
      split
      · rename_i e; injection e with e; subst e; exact absurd h (hne _ _)
      · rfl
  | cond c a b iha ihb =>
    intro n n' tm σ r hn h
    simp only [execC] at h ⊢
    split at h
    · exact iha hn h
    · exact ihb hn h
    · cases h
  | block id c ih =>
    intro n n' tm σ r hn h
    simp only [execC] at h ⊢
    split at h
    · rename_i h1; rw [ih hn h1]; exact h
    · rename_i hne
      rw [ih hn h]
      split
      · rename_i e; injection e with e; subst e; exact absurd h (hne _ _ _)
      · rfl
  | loop live c ih =>
    intro n n' tm σ r hn h
    simp only [execC] at h ⊢
    exact iterA_mono (fun tm σ r h => ih hn h) hn h
theorem finA_mono {m0 : Nat} {fn : AFunc} {x y : Option (AExit × Tms × AHeap)} (h : ∀ r, x = some r → y = some r) {r : AVal × AHeap} (hr : finA m0 fn x = some r) : finA m0 fn y = some r := by
  cases x with
  | none => simp only [finA] at hr; cases hr
  | some q => rw [h q rfl]; exact hr
theorem callA_step (fs : Nat → Option AFunc) (prim : Prims) : ∀ n, OLe (callA fs prim byref n) (callA fs prim byref (n + 1))
  | 0 => by intro f a σ r h; simp only [callA] at h; cases h
  | n + 1 => by
    intro f a σ r h
    rw [callA] at h ⊢
    split at h
    · rename_i g hg; exact h
    · rename_i hg
      split at h
      · cases h
      · rename_i fn hfn
        exact finA_mono (fun q hq => execC_mono (callA_step fs prim n) (by omega) hq) h
theorem callA_mono (fs : Nat → Option AFunc) (prim : Prims) {n m : Nat} (h : n ≤ m) : OLe (callA fs prim byref n) (callA fs prim byref m) := by
  induction m with
  | zero => obtain rfl : n = 0 := by omega
            exact fun _ _ _ _ h => h
  | succ m ih =>
    by_cases e : n = m + 1
    · subst e; exact fun _ _ _ _ h => h
    · exact fun f a σ r hr => callA_step fs prim m f a σ r (ih (by omega) f a σ r hr)
end

section
variable (fs : Nat → Option AFunc) (prim : Prims) (byref : Nat → Bool)
open Classical in
/-- the call's result, if there is one -/
noncomputable def EV : Oracle := fun f args σ => if h : ∃ r, ∃ n, callA fs prim byref n f args σ = some r then some h.choose else none
open Classical in
noncomputable def evC (m : Nat) (c : ACode) (tm : Tms) (σ : AHeap) : Option (AExit × Tms × AHeap) := if h : ∃ r, ∃ n, execC (callA fs prim byref n) byref m n c tm σ = some r then some h.choose else none
variable {fs prim byref} {m0 : Nat}
theorem EV_some {f : Nat} {args : List AVal} {σ : AHeap} {r : AVal × AHeap} : EV fs prim byref f args σ = some r ↔ ∃ n, callA fs prim byref n f args σ = some r := by
  unfold EV
  constructor
  · intro h
    split at h
    · rename_i hx
      injection h with h
      rw [← h]
      exact hx.choose_spec
    · cases h
  · rintro ⟨n, hn⟩
    have hx : ∃ r, ∃ n, callA fs prim byref n f args σ = some r := ⟨r, n, hn⟩
    rw [dif_pos hx]
    obtain ⟨m, hm⟩ := hx.choose_spec
    have h1 := callA_mono (byref := byref) fs prim (Nat.le_max_left n m) _ _ _ _ hn
    have h2 := callA_mono (byref := byref) fs prim (Nat.le_max_right n m) _ _ _ _ hm
    rw [h1] at h2
    injection h2 with h2
    rw [← h2]
theorem evC_some {c : ACode} {tm : Tms} {σ : AHeap} {r : AExit × Tms × AHeap} : evC fs prim byref m0 c tm σ = some r ↔ ∃ n, execC (callA fs prim byref n) byref m0 n c tm σ = some r := by
  unfold evC
  constructor
  · intro h
    split at h
    · rename_i hx
      injection h with h
      rw [← h]
      exact hx.choose_spec
    · cases h
  · rintro ⟨n, hn⟩
    have hx : ∃ r, ∃ n, execC (callA fs prim byref n) byref m0 n c tm σ = some r := ⟨r, n, hn⟩
    rw [dif_pos hx]
    obtain ⟨m, hm⟩ := hx.choose_spec
    have h1 := execC_mono (callA_mono (byref := byref) fs prim (Nat.le_max_left n m)) (Nat.le_max_left n m) hn
    have h2 := execC_mono (callA_mono (byref := byref) fs prim (Nat.le_max_right n m)) (Nat.le_max_right n m) hm
    rw [h1] at h2
    injection h2 with h2
    rw [← h2]
theorem opt_ext {α : Type} {x y : Option α} (h : ∀ r, x = some r ↔ y = some r) : x = y := by
  cases x with
  | none =>
    cases y with
    | none => rfl
    | some q => exact absurd ((h q).2 rfl) (by simp)
  | some q => exact ((h q).1 rfl).symm

theorem ole_EV (n : Nat) : OLe (callA fs prim byref n) (EV fs prim byref) := fun _ _ _ _ h => EV_some.2 ⟨n, h⟩
theorem up {n m : Nat} (h : n ≤ m) : OLe (callA fs prim byref n) (callA fs prim byref m) := callA_mono fs prim h

theorem EV_prim {f : Nat} {g : List AVal → AHeap → Option (AVal × AHeap)} (hp : prim f = some g) (args : List AVal) (σ : AHeap) : EV fs prim byref f args σ = g args σ := by
  apply opt_ext
  intro r
  rw [EV_some]
  constructor
  · rintro ⟨n, h⟩
    cases n with
    | zero => simp only [callA] at h; cases h
    | succ n => rw [callA, hp] at h; exact h
  · intro h
    exact ⟨1, by rw [callA, hp]; exact h⟩
theorem EV_eq {f : Nat} {fn : AFunc} (hp : prim f = none) (hf : fs f = some fn) (args : List AVal) (σ : AHeap) : EV fs prim byref f args σ = finA σ.length fn (evC fs prim byref σ.length fn.body (enterA 0 args []) σ) := by
  apply opt_ext
  intro r
  rw [EV_some]
  constructor
  · rintro ⟨n, h⟩
    cases n with
    | zero => simp only [callA] at h; cases h
    | succ n =>
      rw [callA, hp, hf] at h
      exact finA_mono (fun q hq => evC_some.2 ⟨n, hq⟩) h
  · intro h
    cases hx : evC fs prim byref σ.length fn.body (enterA 0 args []) σ with
    | none => rw [hx] at h; simp only [finA] at h; cases h
    | some q =>
      obtain ⟨n, hn⟩ := evC_some.1 hx
      refine ⟨n + 1, ?_⟩
      rw [callA, hp, hf]
      rw [hx] at h
      exact finA_mono (x := some q) (fun q' hq' => by injection hq' with hq'; subst hq'; exact hn) h

theorem callG_compact {σ : AHeap} {site f own : Nat} {view : Bool} {args : List AVal} {r : AVal × AHeap × Cls} (h : callG (EV fs prim byref) byref σ site f own view args = some r) : ∃ n, callG (callA fs prim byref n) byref σ site f own view args = some r := by
  unfold callG callI at h ⊢
  split at h
  · cases h
  · rename_i vs ts hv
    split at h
    · rename_i hc
      simp only [hc, if_true]
      cases hx : EV fs prim byref f (renL (rhoOf (freezeA σ ts) 0 (reach (freezeA σ ts) 1000 (refsL vs) [])) vs) (heapOf (freezeA σ ts) 0 (reach (freezeA σ ts) 1000 (refsL vs) []) (rhoOf (freezeA σ ts) 0 (reach (freezeA σ ts) 1000 (refsL vs) [])) (reach (freezeA σ ts) 1000 (refsL vs) []) 0) with
      | none =>
        rw [hx] at h
        cases view <;> simp [askO, resV, backG] at h
      | some q =>
        obtain ⟨n, hn⟩ := EV_some.1 hx
        exact ⟨n, by rw [hn]; rw [hx] at h; exact h⟩
    · cases h
theorem execI_compact {tm : Tms} {σ : AHeap} {site : Nat} {ins : Ins} {r : AVal × AHeap × Cls} (h : execI (EV fs prim byref) byref tm σ site ins = some r) : ∃ n, execI (callA fs prim byref n) byref tm σ site ins = some r := by
  cases ins
  case call f own view args =>
    simp only [execI] at h ⊢
    exact callG_compact h
  case callv x args =>
    simp only [execI] at h ⊢
    split at h
    · exact callG_compact h
    · cases h
  all_goals exact ⟨0, h⟩
theorem stepA_compact {o : AOp} {tm : Tms} {σ : AHeap} {site : Nat} {r : AVal × Tms × AHeap × Cls} (h : stepA (EV fs prim byref) byref o site tm σ = some r) : ∃ n, stepA (callA fs prim byref n) byref o site tm σ = some r := by
  unfold stepA at h ⊢
  split at h
  · cases h
  · exact ⟨0, h⟩
  · split at h
    · rename_i hf
      simp only [hf, if_true]
      split at h
      · rename_i he
        obtain ⟨n, hn⟩ := execI_compact he
        exact ⟨n, by rw [hn]; exact h⟩
      · cases h
    · cases h
theorem runOps_compact : ∀ {ops : List AOp} {s : Nat} {tm : Tms} {σ : AHeap} {r : Tms × AHeap × List Cls × Option AVal}, runOps (EV fs prim byref) byref ops s tm σ = some r → ∃ n, runOps (callA fs prim byref n) byref ops s tm σ = some r
  | [], _, _, _, _, h => ⟨0, h⟩
  | o :: ops, s, tm, σ, r, h => by
    simp only [runOps] at h ⊢
    split at h
    · cases h
    · rename_i h1
      obtain ⟨n, hn⟩ := stepA_compact h1
      exact ⟨n, by rw [hn]; exact h⟩
    rename_i v tm1 σ1 c hnp h1
    split at h
    · cases h
    rename_i h2
    obtain ⟨n, hn⟩ := stepA_compact h1
    obtain ⟨m, hm⟩ := runOps_compact h2
    refine ⟨max n m, ?_⟩
    rw [stepA_mono (up (Nat.le_max_left n m)) hn]
    simp only
    rw [runOps_mono (up (Nat.le_max_right n m)) hm]
    exact h
theorem runRegion_compact {ops : List AOp} {chk : Option (List (Nat × Nat))} {live : List Nat} {tm : Tms} {σ : AHeap} {r : AExit × Tms × AHeap} (h : runRegion (EV fs prim byref) byref ops chk live tm σ = some r) : ∃ n, runRegion (callA fs prim byref n) byref ops chk live tm σ = some r := by
  unfold runRegion at h ⊢
  cases hx : runOps (EV fs prim byref) byref ops σ.length tm (σ ++ List.replicate (sitesOf ops) .free) with
  | none => rw [hx] at h; simp only [regX] at h; cases h
  | some q =>
    obtain ⟨n, hn⟩ := runOps_compact hx
    exact ⟨n, by rw [hn]; rw [hx] at h; exact h⟩

theorem evC_skip (tm : Tms) (σ : AHeap) : evC fs prim byref m0 .skip tm σ = some (.normal, tm, σ) := evC_some.2 ⟨0, rfl⟩
theorem evC_exit (id : Nat) (tm : Tms) (σ : AHeap) : evC fs prim byref m0 (.exit id) tm σ = some (.exit id, tm, σ) := evC_some.2 ⟨0, rfl⟩
theorem evC_ret (tm : Tms) (σ : AHeap) : evC fs prim byref m0 .ret tm σ = some (.ret, tm, σ) := evC_some.2 ⟨0, rfl⟩
theorem evC_region {ops : List AOp} {chk : Option (List (Nat × Nat))} {live : List Nat} {tm : Tms} {σ : AHeap} : evC fs prim byref m0 (.region ops chk live) tm σ = runRegion (EV fs prim byref) byref ops chk live tm σ := by
  apply opt_ext
  intro r
  rw [evC_some]
  constructor
  · rintro ⟨n, hn⟩
    simp only [execC] at hn
    exact runRegion_mono (ole_EV n) hn
  · intro h
    obtain ⟨n, hn⟩ := runRegion_compact h
    exact ⟨n, by simp only [execC]; exact hn⟩
theorem evC_seq {a b : ACode} {tm tm' : Tms} {σ σ' : AHeap} (h : evC fs prim byref m0 a tm σ = some (.normal, tm', σ')) : evC fs prim byref m0 (.seq a b) tm σ = evC fs prim byref m0 b tm' σ' := by
  obtain ⟨n, hn⟩ := evC_some.1 h
  apply opt_ext
  intro r
  rw [evC_some, evC_some]
  constructor
  · rintro ⟨m, hm⟩
    have h1 := execC_mono (up (Nat.le_max_left n m)) (Nat.le_max_left n m) hn
    have h2 := execC_mono (up (Nat.le_max_right n m)) (Nat.le_max_right n m) hm
    simp only [execC, h1] at h2
    exact ⟨_, h2⟩
  · rintro ⟨m, hm⟩
    have h1 := execC_mono (up (Nat.le_max_left n m)) (Nat.le_max_left n m) hn
    have h2 := execC_mono (up (Nat.le_max_right n m)) (Nat.le_max_right n m) hm
    exact ⟨max n m, by simp only [execC, h1]; exact h2⟩
theorem evC_seq_out {a b : ACode} {tm tm' : Tms} {σ σ' : AHeap} {e : AExit} (he : e ≠ .normal) (h : evC fs prim byref m0 a tm σ = some (e, tm', σ')) : evC fs prim byref m0 (.seq a b) tm σ = some (e, tm', σ') := by
  obtain ⟨n, hn⟩ := evC_some.1 h
  refine evC_some.2 ⟨n, ?_⟩
  simp only [execC, hn]
  cases e with
  | normal => exact absurd rfl he
  | exit id => rfl
  | ret => rfl
  | panic x => rfl
theorem evC_true {c : Opd} {a b : ACode} {tm : Tms} {σ : AHeap} (h : c.ev tm = .bool true) : evC fs prim byref m0 (.cond c a b) tm σ = evC fs prim byref m0 a tm σ := by
  apply opt_ext; intro r; rw [evC_some, evC_some]; simp only [execC, h]
theorem evC_false {c : Opd} {a b : ACode} {tm : Tms} {σ : AHeap} (h : c.ev tm = .bool false) : evC fs prim byref m0 (.cond c a b) tm σ = evC fs prim byref m0 b tm σ := by
  apply opt_ext; intro r; rw [evC_some, evC_some]; simp only [execC, h]
def blockA (id : Nat) : AExit × Tms × AHeap → AExit × Tms × AHeap
  | (.exit i, tm, σ) => if i = id then (.normal, tm, σ) else (.exit i, tm, σ)
  | r => r
theorem evC_block {id : Nat} {c : ACode} {tm : Tms} {σ : AHeap} : evC fs prim byref m0 (.block id c) tm σ = (evC fs prim byref m0 c tm σ).map (blockA id) := by
  have step : ∀ n, execC (callA fs prim byref n) byref m0 n (.block id c) tm σ = (execC (callA fs prim byref n) byref m0 n c tm σ).map (blockA id) := by
    intro n
    simp only [execC]
    cases execC (callA fs prim byref n) byref m0 n c tm σ with
    | none => rfl
    | some q =>
      obtain ⟨e, tm1, σ1⟩ := q
      cases e with
      | normal => rfl
      | ret => rfl
      | panic x => rfl
      | exit i => simp only [Option.map_some, blockA]; split <;> rfl
  apply opt_ext; intro r
  rw [evC_some]
  simp only [step, Option.map_eq_some_iff]
  constructor
  · rintro ⟨n, q, h1, h2⟩; exact ⟨q, evC_some.2 ⟨n, h1⟩, h2⟩
  · rintro ⟨q, h1, h2⟩; obtain ⟨n, hn⟩ := evC_some.1 h1; exact ⟨n, q, hn, h2⟩
theorem evC_none {c : ACode} {tm : Tms} {σ : AHeap} (h : evC fs prim byref m0 c tm σ = none) (n : Nat) : execC (callA fs prim byref n) byref m0 n c tm σ = none := by
  cases hx : execC (callA fs prim byref n) byref m0 n c tm σ with
  | none => rfl
  | some r => rw [evC_some.2 ⟨n, hx⟩] at h; cases h
variable (fs prim byref m0) in
/-- a statement, then another one -/
noncomputable def seqX (b : ACode) : Option (AExit × Tms × AHeap) → Option (AExit × Tms × AHeap)
  | some (.normal, tm, σ) => evC fs prim byref m0 b tm σ
  | r => r
theorem x_seq {a b : ACode} {tm : Tms} {σ : AHeap} : evC fs prim byref m0 (.seq a b) tm σ = seqX fs prim byref m0 b (evC fs prim byref m0 a tm σ) := by
  cases h : evC fs prim byref m0 a tm σ with
  | none =>
    simp only [seqX]
    apply opt_ext; intro r
    rw [evC_some]
    constructor
    · rintro ⟨n, hn⟩
      simp only [execC, evC_none h n] at hn
      cases hn
    · intro h; cases h
  | some q =>
    obtain ⟨e, tm', σ'⟩ := q
    cases e with
    | normal => exact evC_seq h
    | exit id => exact evC_seq_out (by simp) h
    | ret => exact evC_seq_out (by simp) h
    | panic x => exact evC_seq_out (by simp) h
variable (fs prim byref m0) in
noncomputable def condX (a b : ACode) (tm : Tms) (σ : AHeap) : AVal → Option (AExit × Tms × AHeap)
  | .bool true => evC fs prim byref m0 a tm σ
  | .bool false => evC fs prim byref m0 b tm σ
  | _ => none
theorem x_cond {c : Opd} {a b : ACode} {tm : Tms} {σ : AHeap} : evC fs prim byref m0 (.cond c a b) tm σ = condX fs prim byref m0 a b tm σ (c.ev tm) := by
  apply opt_ext; intro r
  rw [evC_some]
  simp only [execC]
  constructor
  · rintro ⟨n, hn⟩
    split at hn
    · rename_i e; rw [e]; simp only [condX]; exact evC_some.2 ⟨n, hn⟩
    · rename_i e; rw [e]; simp only [condX]; exact evC_some.2 ⟨n, hn⟩
    · cases hn
  · intro h
    unfold condX at h
    split at h
    · rename_i e; obtain ⟨n, hn⟩ := evC_some.1 h; exact ⟨n, by rw [e]; exact hn⟩
    · rename_i e; obtain ⟨n, hn⟩ := evC_some.1 h; exact ⟨n, by rw [e]; exact hn⟩
    · cases h
variable (fs prim byref m0) in
/-- a loop behind its head -/
noncomputable def evL (live : List Nat) (c : ACode) (tm : Tms) (σ : AHeap) : Option (AExit × Tms × AHeap) :=
  match evC fs prim byref m0 c tm σ with
  | some (.normal, tm', σ') => evC fs prim byref m0 (.loop live c) tm' σ'
  | r => r
theorem x_loop {live : List Nat} {c : ACode} {tm : Tms} {σ : AHeap} : evC fs prim byref m0 (.loop live c) tm σ = evL fs prim byref m0 live c (gcT m0 (keepL live tm) σ).1 (gcT m0 (keepL live tm) σ).2 := by
  apply opt_ext; intro r
  rw [evC_some]
  constructor
  · rintro ⟨n, hn⟩
    simp only [execC] at hn
    cases n with
    | zero => simp only [iterA] at hn; cases hn
    | succ k =>
      simp only [iterA] at hn
      unfold evL
      cases hx : execC (callA fs prim byref (k + 1)) byref m0 (k + 1) c (gcT m0 (keepL live tm) σ).1 (gcT m0 (keepL live tm) σ).2 with
      | none => rw [hx] at hn; cases hn
      | some q =>
        rw [evC_some.2 ⟨_, hx⟩]
        rw [hx] at hn
        obtain ⟨e, tm', σ'⟩ := q
        cases e with
        | normal =>
          simp only at hn ⊢
          exact evC_some.2 ⟨k + 1, by simp only [execC]; exact iterA_mono (fun _ _ _ h => h) (by omega) hn⟩
        | exit id => exact hn
        | ret => exact hn
        | panic x => exact hn
  · intro h
    unfold evL at h
    cases hx : evC fs prim byref m0 c (gcT m0 (keepL live tm) σ).1 (gcT m0 (keepL live tm) σ).2 with
    | none => rw [hx] at h; cases h
    | some q =>
      rw [hx] at h
      obtain ⟨n, hn⟩ := evC_some.1 hx
      obtain ⟨e, tm', σ'⟩ := q
      have out : e ≠ .normal → some (e, tm', σ') = some r → ∃ n, execC (callA fs prim byref n) byref m0 n (.loop live c) tm σ = some r := by
        intro he h
        refine ⟨n + 1, ?_⟩
        have h1 := execC_mono (up (show n ≤ n + 1 by omega)) (show n ≤ n + 1 by omega) hn
        simp only [execC, iterA, h1]
        cases e with
        | normal => exact absurd rfl he
        | exit id => exact h
        | ret => exact h
        | panic x => exact h
      cases e with
      | normal =>
        simp only at h
        obtain ⟨m, hm⟩ := evC_some.1 h
        have h1 := execC_mono (up (show n ≤ max n m + 1 by omega)) (show n ≤ max n m + 1 by omega) hn
        have h2 := execC_mono (up (show m ≤ max n m + 1 by omega)) (Nat.le_refl m) hm
        simp only [execC] at h2
        refine ⟨max n m + 1, ?_⟩
        simp only [execC, iterA, h1]
        exact iterA_mono (fun tm σ r h => execC_mono (fun _ _ _ _ h => h) (by omega) h) (by omega) h2
      | exit id => exact out (by simp) h
      | ret => exact out (by simp) h
      | panic x => exact out (by simp) h

/-- what EV says, the program does -/
theorem EV_sound {P : Program} (hm : P.follows .mixedOrders = true) {prim : Prims} (hP : PrimOk P prim) (ann : Nat → Ann) (byref : Nat → Bool) : OrOk P (EV (compF P ann) prim byref) := by
  intro f args σ r σ' h
  obtain ⟨n, hn⟩ := EV_some.1 h
  exact call_sound hm hP ann byref n f args σ r σ' hn
end
end Go.Proofs.YtaaflagbhneakaaDoor
