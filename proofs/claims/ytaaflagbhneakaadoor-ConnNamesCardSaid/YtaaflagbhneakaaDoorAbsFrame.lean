/- ABS: what an operation hangs on. -/
import Derived.Test.YtaaflagbhneakaaDoorAbsStep
namespace Go.Proofs.YtaaflagbhneakaaDoor
set_option linter.unusedSimpArgs false
set_option linter.unusedVariables false
open Go.RowKit

section
variable {O : Oracle} {byref : Nat → Bool} {tm tm' : Tms} {σ σ' σ2 : AHeap} {site : Nat}

theorem Opd.ev_congr {x : Opd} (h : ∀ n ∈ x.reads, tget tm n = tget tm' n) : x.ev tm = x.ev tm' := by
  cases x with
  | t n => exact h n (by simp [Opd.reads])
  | c v => rfl
theorem evs_congr {xs : List Opd} (h : ∀ n ∈ xs.flatMap Opd.reads, tget tm n = tget tm' n) : (xs.map fun x => x.ev tm) = xs.map fun x => x.ev tm' := by
  apply List.map_congr_left
  intro x hx
  exact Opd.ev_congr fun n hn => h n (List.mem_flatMap.2 ⟨x, hx, hn⟩)
theorem oev_congr {x : Option Opd} (h : ∀ n ∈ optReads x, tget tm n = tget tm' n) : (x.map fun x => x.ev tm) = x.map fun x => x.ev tm' := by
  cases x with
  | none => rfl
  | some x => simp only [Option.map_some]; rw [Opd.ev_congr (x := x) h]

set_option maxHeartbeats 1000000 in
theorem execI_congr {ins : Ins} (h : ∀ n ∈ ins.reads, tget tm n = tget tm' n) : execI O byref tm σ site ins = execI O byref tm' σ site ins := by
  cases ins with
  | alloc zs => rfl
  | build zs ps =>
    have : (ps.map fun p => (p.1, p.2.1, p.2.2.ev tm)) = ps.map fun p => (p.1, p.2.1, p.2.2.ev tm') := by
      apply List.map_congr_left
      intro p hp
      rw [Opd.ev_congr (x := p.2.2) fun n hn => h n (by simp only [Ins.reads]; exact List.mem_flatMap.2 ⟨p, hp, hn⟩)]
    simp only [execI, this]
  | bslice own k n z ps =>
    have : (ps.map fun p => p.2.ev tm) = ps.map fun p => p.2.ev tm' := by
      apply List.map_congr_left
      intro p hp
      rw [Opd.ev_congr (x := p.2) fun n hn => h n (by simp only [Ins.reads]; exact List.mem_flatMap.2 ⟨p, hp, hn⟩)]
    simp only [execI, this]
  | rslice k n z ps =>
    have h0 : ∀ p ∈ ps, p.2.ev tm = p.2.ev tm' := fun p hp => Opd.ev_congr (x := p.2) fun n hn => h n (by simp only [Ins.reads]; exact List.mem_flatMap.2 ⟨p, hp, hn⟩)
    have h1 : (ps.map fun p => (p.1, p.2.ev tm)) = ps.map fun p => (p.1, p.2.ev tm') := List.map_congr_left fun p hp => by rw [h0 p hp]
    have h2 : (ps.all fun p => (p.2.ev tm).cells.length == k && (p.2.ev tm).cells.all okCell) = ps.all fun p => (p.2.ev tm').cells.length == k && (p.2.ev tm').cells.all okCell := by
      rw [Bool.eq_iff_iff, List.all_eq_true, List.all_eq_true]
      exact ⟨fun h p hp => by rw [← h0 p hp]; exact h p hp, fun h p hp => by rw [h0 p hp]; exact h p hp⟩
    simp only [execI, h1, h2]
  | rng x => simp only [execI, Opd.ev_congr (x := x) h]
  | nxt x => simp only [execI, Opd.ev_congr (x := x) h]
  | mov x => simp only [execI, Opd.ev_congr (x := x) h]
  | box x => simp only [execI, Opd.ev_congr (x := x) h]
  | un op x => simp only [execI, Opd.ev_congr (x := x) h]
  | i2i k x => simp only [execI, Opd.ev_congr (x := x) h]
  | i2s x => simp only [execI, Opd.ev_congr (x := x) h]
  | clr k z x => simp only [execI, Opd.ev_congr (x := x) h]
  | same x => simp only [execI, Opd.ev_congr (x := x) h]
  | s2b x => simp only [execI, Opd.ev_congr (x := x) h]
  | b2s x => simp only [execI, Opd.ev_congr (x := x) h]
  | s2s x => simp only [execI, Opd.ev_congr (x := x) h]
  | faddr o x => simp only [execI, Opd.ev_congr (x := x) h]
  | field k o x => simp only [execI, Opd.ev_congr (x := x) h]
  | ext x i => simp only [execI, Opd.ev_congr (x := x) h]
  | len x => simp only [execI, Opd.ev_congr (x := x) h]
  | slen x => simp only [execI, Opd.ev_congr (x := x) h]
  | nilchk x => simp only [execI, Opd.ev_congr (x := x) h]
  | mki t x => simp only [execI, Opd.ev_congr (x := x) h]
  | panic x => simp only [execI, Opd.ev_congr (x := x) h]
  | ld k x => simp only [execI, Opd.ev_congr (x := x) h]
  | pick c a b =>
    simp only [Ins.reads, List.mem_append] at h
    simp only [execI, Opd.ev_congr (x := c) fun n hn => h n (Or.inl (Or.inl hn)), Opd.ev_congr (x := a) fun n hn => h n (Or.inl (Or.inr hn)), Opd.ev_congr (x := b) fun n hn => h n (Or.inr hn)]
  | st k x y => simp only [Ins.reads, List.mem_append] at h; simp only [execI, Opd.ev_congr (x := x) fun n hn => h n (Or.inl hn), Opd.ev_congr (x := y) fun n hn => h n (Or.inr hn)]
  | bin k x y => simp only [Ins.reads, List.mem_append] at h; simp only [execI, Opd.ev_congr (x := x) fun n hn => h n (Or.inl hn), Opd.ev_congr (x := y) fun n hn => h n (Or.inr hn)]
  | iaddr k x y => simp only [Ins.reads, List.mem_append] at h; simp only [execI, Opd.ev_congr (x := x) fun n hn => h n (Or.inl hn), Opd.ev_congr (x := y) fun n hn => h n (Or.inr hn)]
  | aaddr k n x y => simp only [Ins.reads, List.mem_append] at h; simp only [execI, Opd.ev_congr (x := x) fun n hn => h n (Or.inl hn), Opd.ev_congr (x := y) fun n hn => h n (Or.inr hn)]
  | sindex x y => simp only [Ins.reads, List.mem_append] at h; simp only [execI, Opd.ev_congr (x := x) fun n hn => h n (Or.inl hn), Opd.ev_congr (x := y) fun n hn => h n (Or.inr hn)]
  | aindex s k n x y => simp only [Ins.reads, List.mem_append] at h; simp only [execI, Opd.ev_congr (x := x) fun n hn => h n (Or.inl hn), Opd.ev_congr (x := y) fun n hn => h n (Or.inr hn)]
  | app k b z x y => simp only [Ins.reads, List.mem_append] at h; simp only [execI, Opd.ev_congr (x := x) fun n hn => h n (Or.inl hn), Opd.ev_congr (x := y) fun n hn => h n (Or.inr hn)]
  | mkslice k b z x y => simp only [Ins.reads, List.mem_append] at h; simp only [execI, Opd.ev_congr (x := x) fun n hn => h n (Or.inl hn), Opd.ev_congr (x := y) fun n hn => h n (Or.inr hn)]
  | beq k x y => simp only [Ins.reads, List.mem_append] at h; simp only [execI, Opd.ev_congr (x := x) fun n hn => h n (Or.inl hn), Opd.ev_congr (x := y) fun n hn => h n (Or.inr hn)]
  | peq k x y => simp only [Ins.reads, List.mem_append] at h; simp only [execI, Opd.ev_congr (x := x) fun n hn => h n (Or.inl hn), Opd.ev_congr (x := y) fun n hn => h n (Or.inr hn)]
  | eqv k ks x y => simp only [Ins.reads, List.mem_append] at h; simp only [execI, Opd.ev_congr (x := x) fun n hn => h n (Or.inl hn), Opd.ev_congr (x := y) fun n hn => h n (Or.inr hn)]
  | ieq k x y => simp only [Ins.reads, List.mem_append] at h; simp only [execI, Opd.ev_congr (x := x) fun n hn => h n (Or.inl hn), Opd.ev_congr (x := y) fun n hn => h n (Or.inr hn)]
  | slice k x lo hi mx =>
    simp only [Ins.reads, List.mem_append] at h
    simp only [execI, Opd.ev_congr (x := x) fun n hn => h n (Or.inl (Or.inl (Or.inl hn))), oev_congr (x := lo) fun n hn => h n (Or.inl (Or.inl (Or.inr hn))), oev_congr (x := hi) fun n hn => h n (Or.inl (Or.inr hn)), oev_congr (x := mx) fun n hn => h n (Or.inr hn)]
  | sslice x lo hi =>
    simp only [Ins.reads, List.mem_append] at h
    simp only [execI, Opd.ev_congr (x := x) fun n hn => h n (Or.inl (Or.inl hn)), oev_congr (x := lo) fun n hn => h n (Or.inl (Or.inr hn)), oev_congr (x := hi) fun n hn => h n (Or.inr hn)]
  | mm m xs => simp only [Ins.reads] at h; simp only [execI, evs_congr h]
  | call f own vw xs => simp only [Ins.reads] at h; simp only [execI, evs_congr h]
  | mkfn f xs => simp only [Ins.reads] at h; simp only [execI, evs_congr h]
  | callv x xs =>
    simp only [Ins.reads, List.mem_append] at h
    simp only [execI, Opd.ev_congr (x := x) fun n hn => h n (Or.inl hn), evs_congr (xs := xs) fun n hn => h n (Or.inr hn)]

/-- the heaps agree at some blocks -/
def Agree (σ σ2 : AHeap) (ts : List Nat) : Prop := ∀ t ∈ ts, σ2[t]? = σ[t]?
theorem Agree.left {ts us : List Nat} (h : Agree σ σ2 (ts ++ us)) : Agree σ σ2 ts := fun t ht => h t (by simp [ht])
theorem Agree.right {ts us : List Nat} (h : Agree σ σ2 (ts ++ us)) : Agree σ σ2 us := fun t ht => h t (by simp [ht])
theorem elems_agree {a : AVal} {xs : List AVal} {ts : List Nat} (h : elemsA σ a = some (xs, ts)) (hA : Agree σ σ2 ts) : elemsA σ2 a = some (xs, ts) := by
  unfold elemsA at h ⊢
  split at h
  · exact h
  · exact h
  · rename_i t g lo n
    have ht : t ∈ ts := by
      split at h
      · split at h
        · simp only [Option.some.injEq, Prod.mk.injEq] at h; rw [← h.2]; simp
        · cases h
      · split at h
        · simp only [Option.some.injEq, Prod.mk.injEq] at h; rw [← h.2]; simp
        · cases h
      · cases h
    rw [hA t ht]
    exact h
  · cases h
theorem view1_agree {a y : AVal} {ts : List Nat} (h : viewA1 σ a = some (y, ts)) (hA : Agree σ σ2 ts) : viewA1 σ2 a = some (y, ts) := by
  unfold viewA1 at h ⊢
  split at h
  case h_2 =>
    split at h
    · rename_i he
      simp only [Option.some.injEq, Prod.mk.injEq] at h
      obtain ⟨rfl, rfl⟩ := h
      rw [elems_agree he hA]
    · cases h
  all_goals exact h
theorem views_agree : ∀ {cs ys : List AVal} {ts : List Nat}, viewsA σ cs = some (ys, ts) → Agree σ σ2 ts → viewsA σ2 cs = some (ys, ts)
  | [], ys, ts, h, _ => h
  | c :: cs, ys, ts, h, hA => by
    simp only [viewsA] at h ⊢
    split at h
    · rename_i h1
      split at h
      · rename_i h2
        simp only [Option.some.injEq, Prod.mk.injEq] at h
        obtain ⟨rfl, rfl⟩ := h
        rw [view1_agree h1 hA.left]
        simp only
        rw [views_agree h2 hA.right]
      · cases h
    · cases h
theorem view_agree {a y : AVal} {ts : List Nat} (h : viewA σ a = some (y, ts)) (hA : Agree σ σ2 ts) : viewA σ2 a = some (y, ts) := by
  unfold viewA at h ⊢
  split at h
  · split at h
    · rename_i h1
      simp only [Option.some.injEq, Prod.mk.injEq] at h
      obtain ⟨rfl, rfl⟩ := h
      rw [views_agree h1 hA]
    · cases h
  · exact view1_agree h hA
theorem viewAs_agree : ∀ {cs ys : List AVal} {ts : List Nat}, viewAs σ cs = some (ys, ts) → Agree σ σ2 ts → viewAs σ2 cs = some (ys, ts)
  | [], ys, ts, h, _ => h
  | c :: cs, ys, ts, h, hA => by
    simp only [viewAs] at h ⊢
    split at h
    · rename_i h1
      split at h
      · rename_i h2
        simp only [Option.some.injEq, Prod.mk.injEq] at h
        obtain ⟨rfl, rfl⟩ := h
        rw [view_agree h1 hA.left]
        simp only
        rw [viewAs_agree h2 hA.right]
      · cases h
    · cases h

theorem show1_agree {a y : AVal} {ts : List Nat} (h : showA1 σ a = some (y, ts)) (hA : Agree σ σ2 ts) : showA1 σ2 a = some (y, ts) := by
  unfold showA1 at h ⊢
  split at h
  case h_2 =>
    split at h
    · rename_i he
      simp only [Option.some.injEq, Prod.mk.injEq] at h
      obtain ⟨rfl, rfl⟩ := h
      rw [elems_agree he hA]
    · cases h
  all_goals exact h
theorem shows_agree : ∀ {cs ys : List AVal} {ts : List Nat}, showsA σ cs = some (ys, ts) → Agree σ σ2 ts → showsA σ2 cs = some (ys, ts)
  | [], ys, ts, h, _ => h
  | c :: cs, ys, ts, h, hA => by
    simp only [showsA] at h ⊢
    split at h
    · rename_i h1
      split at h
      · rename_i h2
        simp only [Option.some.injEq, Prod.mk.injEq] at h
        obtain ⟨rfl, rfl⟩ := h
        rw [show1_agree h1 hA.left]
        simp only
        rw [shows_agree h2 hA.right]
      · cases h
    · cases h
theorem show_agree {a y : AVal} {ts : List Nat} (h : showA σ a = some (y, ts)) (hA : Agree σ σ2 ts) : showA σ2 a = some (y, ts) := by
  unfold showA at h ⊢
  split at h
  · split at h
    · rename_i h1
      simp only [Option.some.injEq, Prod.mk.injEq] at h
      obtain ⟨rfl, rfl⟩ := h
      rw [shows_agree h1 hA]
    · cases h
  · exact show1_agree h hA
theorem showAs_agree : ∀ {cs ys : List AVal} {ts : List Nat}, showAs σ cs = some (ys, ts) → Agree σ σ2 ts → showAs σ2 cs = some (ys, ts)
  | [], ys, ts, h, _ => h
  | c :: cs, ys, ts, h, hA => by
    simp only [showAs] at h ⊢
    split at h
    · rename_i h1
      split at h
      · rename_i h2
        simp only [Option.some.injEq, Prod.mk.injEq] at h
        obtain ⟨rfl, rfl⟩ := h
        rw [show_agree h1 hA.left]
        simp only
        rw [showAs_agree h2 hA.right]
      · cases h
    · cases h

def putB (σ : AHeap) (s : Nat) : Option ABlk → AHeap
  | none => σ
  | some b => σ.set s b
def NonFree (σ : AHeap) (ts : List Nat) : Prop := ∀ t ∈ ts, ∃ x, σ[t]? = some x ∧ x ≠ .free
theorem Rowy.nonfree {ts : List Nat} (h : Rowy σ ts) : NonFree σ ts := by
  intro t ht
  obtain ⟨g, k, xs, h | h⟩ := h t ht
  · exact ⟨_, h, by simp⟩
  · exact ⟨_, h, by simp⟩
theorem nonfree_nil : NonFree σ [] := fun t ht => by simp at ht
theorem nonfree_one {t : Nat} {x : ABlk} (h : σ[t]? = some x) (hx : x ≠ .free) : NonFree σ [t] := fun t' ht => by
  simp at ht; subst ht; exact ⟨x, h, hx⟩

/-- what a not-writing operation does, it does in any heap that agrees on what it reads -/
def Framed (f : AHeap → Option (AVal × AHeap × Cls)) (σ : AHeap) (site ns : Nat) (v : AVal) (σ' : AHeap) (c : Cls) : Prop :=
  ∃ ob, σ' = putB σ site ob ∧ (ob.isSome = true → ns ≠ 0) ∧ ob ≠ some .free ∧ NonFree σ c.rd ∧ ∀ σ2, Agree σ σ2 c.rd → f σ2 = some (v, putB σ2 site ob, c)
theorem Framed.pure {f : AHeap → Option (AVal × AHeap × Cls)} {v : AVal} {c : Cls} {ns : Nat} (hr : c.rd = []) (hf : ∀ σ2, f σ2 = some (v, σ2, c)) : Framed f σ site ns v σ c :=
  ⟨none, rfl, by simp, by simp, by rw [hr]; exact nonfree_nil, fun σ2 _ => hf σ2⟩

theorem ld_framed {k : Option Nat} {a v : AVal} {c : Cls} {ns : Nat} (h : ldA σ k a = some (v, σ', c)) : Framed (fun σ => ldA σ k a) σ site ns v σ' c := by
  have h0 := h
  unfold ldA at h
  have fin : ∀ t, σ' = σ → c.rd = [t] → (∃ x, σ[t]? = some x ∧ x ≠ .free) → (∀ σ2 : AHeap, σ2[t]? = σ[t]? → ldA σ2 k a = (ldA σ k a).map fun p => (p.1, σ2, p.2.2)) → Framed (fun σ => ldA σ k a) σ site ns v σ' c := by
    intro t e1 e2 ⟨x, hx, hne⟩ hf
    subst e1
    refine ⟨none, rfl, by simp, by simp, by rw [e2]; exact nonfree_one hx hne, fun σ2 hA => ?_⟩
    rw [e2] at hA
    simp only
    rw [hf σ2 (hA t (by simp)), h0]
    rfl
  split at h
  · rename_i t o
    split at h
    · rename_i cs hs
      split at h
      · rename_i v' hp
        simp only [Option.some.injEq, Prod.mk.injEq] at h
        obtain ⟨rfl, rfl, rfl⟩ := h
        exact fin t rfl rfl ⟨_, hs, by simp⟩ (fun σ2 h2 => by simp only [ldA, h2, hs, hp, Option.map_some])
      · cases h
    · cases h
  · rename_i t g i o
    split at h
    · rename_i g' kk xs hs
      split at h
      · rename_i e
        split at h
        · rename_i x hx
          split at h
          · rename_i v' hp
            simp only [Option.some.injEq, Prod.mk.injEq] at h
            obtain ⟨rfl, rfl, rfl⟩ := h
            exact fin t rfl rfl ⟨_, hs, by simp⟩ (fun σ2 h2 => by simp only [ldA, h2, hs, e, if_true, hx, hp, Option.map_some])
          · cases h
        · cases h
      · cases h
    · rename_i g' kk xs hs
      split at h
      · rename_i e
        split at h
        · rename_i x hx
          split at h
          · rename_i v' hp
            simp only [Option.some.injEq, Prod.mk.injEq] at h
            obtain ⟨rfl, rfl, rfl⟩ := h
            exact fin t rfl rfl ⟨_, hs, by simp⟩ (fun σ2 h2 => by simp only [ldA, h2, hs, e, if_true, hx, hp, Option.map_some])
          · cases h
        · cases h
      · cases h
    · rename_i g' kk xs hs
      split at h
      · rename_i e
        split at h
        · rename_i x hx
          split at h
          · rename_i v' hp
            simp only [Option.some.injEq, Prod.mk.injEq] at h
            obtain ⟨rfl, rfl, rfl⟩ := h
            exact fin t rfl rfl ⟨_, hs, by simp⟩ (fun σ2 h2 => by simp only [ldA, h2, hs, e, if_true, hx, hp, Option.map_some])
          · cases h
        · cases h
      · cases h
    · cases h
  · rename_i cs o
    split at h
    · rename_i v' hp
      simp only [Option.some.injEq, Prod.mk.injEq] at h
      obtain ⟨rfl, rfl, rfl⟩ := h
      exact Framed.pure rfl (fun σ2 => by simp only [ldA, hp])
    · cases h
  · cases h

theorem iaddr_framed {k : Nat} {x i v : AVal} {c : Cls} {ns : Nat} (h : iaddrA σ k x i = some (v, σ', c)) : Framed (fun σ => iaddrA σ k x i) σ site ns v σ' c := by
  have h0 := h
  unfold iaddrA at h
  split at h
  case h_2 => cases h
  rename_i kk ii
  split at h
  case isFalse => cases h
  rename_i hi
  split at h
  · rename_i b xs
    split at h
    · rename_i y hy
      split at h
      · rename_i hk
        simp only [Option.some.injEq, Prod.mk.injEq] at h
        obtain ⟨rfl, rfl, rfl⟩ := h
        exact Framed.pure rfl (fun σ2 => by simp only [iaddrA, hi, if_true, hy, hk])
      · cases h
    · cases h
  · rename_i t g p n
    split at h
    case isFalse => cases h
    rename_i hn
    have fin : σ' = σ → c.rd = [t] → (∃ x, σ[t]? = some x ∧ x ≠ .free) → Framed (fun σ => iaddrA σ k (.sl t g p n) (.int kk ii)) σ site ns v σ' c := by
      intro e1 e2 ⟨x, hx, hne⟩
      subst e1
      refine ⟨none, rfl, by simp, by simp, by rw [e2]; exact nonfree_one hx hne, fun σ2 hA => ?_⟩
      rw [e2] at hA
      have h2 := hA t (by simp)
      simp only [iaddrA, hi, if_true, hn] at h0 ⊢
      rw [h2]
      split at h0
      · split at h0
        · rename_i hc
          simp only [Option.some.injEq, Prod.mk.injEq] at h0
          obtain ⟨rfl, _, rfl⟩ := h0
          rename_i hs
          simp only [hs, hc, and_self, if_true]
          rfl
        · cases h0
      · split at h0
        · rename_i hc
          simp only [Option.some.injEq, Prod.mk.injEq] at h0
          obtain ⟨rfl, _, rfl⟩ := h0
          rename_i hs
          simp only [hs, hc, and_self, if_true]
          rfl
        · cases h0
      · split at h0
        · rename_i hc
          simp only [Option.some.injEq, Prod.mk.injEq] at h0
          obtain ⟨rfl, _, rfl⟩ := h0
          rename_i hs
          simp only [hs, hc, and_self, if_true]
          rfl
        · cases h0
      · cases h0
    split at h
    · rename_i hs
      split at h
      · simp only [Option.some.injEq, Prod.mk.injEq] at h
        exact fin h.2.1.symm (by rw [← h.2.2]) ⟨_, hs, by simp⟩
      · cases h
    · rename_i hs
      split at h
      · simp only [Option.some.injEq, Prod.mk.injEq] at h
        exact fin h.2.1.symm (by rw [← h.2.2]) ⟨_, hs, by simp⟩
      · cases h
    · rename_i hs
      split at h
      · simp only [Option.some.injEq, Prod.mk.injEq] at h
        exact fin h.2.1.symm (by rw [← h.2.2]) ⟨_, hs, by simp⟩
      · cases h
    · cases h
  · cases h
end
end Go.Proofs.YtaaflagbhneakaaDoor
