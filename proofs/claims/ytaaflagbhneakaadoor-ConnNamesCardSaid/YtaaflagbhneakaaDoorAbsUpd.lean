/- ABS: what becomes of the relation where the world changes. -/
import Derived.Test.YtaaflagbhneakaaDoorAbsComp
import Derived.Deep.MidRow
import Derived.Laws.CopyRow
namespace Go.Proofs.YtaaflagbhneakaaDoor
set_option linter.unusedSimpArgs false
set_option linter.unusedVariables false
open Go.RowKit

section
variable {base : Nat → Prop} {w0 w w' : World} {I0 I I' : Imm} {β β' : Bmap} {σ σ' : AHeap}

theorem BR.keep {t : Nat} {x : ABlk} (h : BR I β w t x) (hI : I.le I') (hβ : β.le β') (hb : ∀ b, owns β t x = some b → w'.heap[b]? = w.heap[b]?) : BR I' β' w' t x := by
  cases x with
  | free => trivial
  | map es =>
    obtain ⟨b, k, c, arr, clk, h1, h2, h3, h4, h5⟩ := h
    exact ⟨b, k, c, arr, clk, hβ _ _ _ h1, by rw [hb b (by simp [owns, h1])]; exact h2, VRs.mono hI hβ _ _ h3, VRs.mono hI hβ _ _ h4, h5⟩
  | siter l p =>
    obtain ⟨b, k, c, h1, h2⟩ := h
    exact ⟨b, k, c, hβ _ _ _ h1, by rw [hb b (by simp [owns, h1])]; exact h2⟩
  | rrow g k xs =>
    obtain ⟨bi, h1, h2, h3, h4, h5, h6, b, us, ty, e, h8, h9, h10⟩ := h
    exact ⟨bi, hβ _ _ _ h1, h2, h3, h4, h5, h6, b, us, ty, e, by rw [hb b (by simp [owns, h1, e])]; exact h8, h9, VRs.mono hI hβ _ _ h10⟩
  | var cs =>
    obtain ⟨b, k, c, us, ty, h1, h2, h3⟩ := h
    exact ⟨b, k, c, us, ty, hβ _ _ _ h1, by rw [hb b (by simp [owns, h1])]; exact h2, VRs.mono hI hβ _ _ h3⟩
  | row g k xs =>
    obtain ⟨bi, h1, h2, h3, h4, h5, h6, h7, h8⟩ := h
    refine ⟨bi, hβ _ _ _ h1, h2, h3, h4, h5, h6, h7, ?_⟩
    rcases h8 with h8 | ⟨b, us, ty, e, h8, h9, h10⟩
    · exact Or.inl h8
    · exact Or.inr ⟨b, us, ty, e, by rw [hb b (by simp [owns, h1, e])]; exact h8, h9, VRs.mono hI hβ _ _ h10⟩
  | frow g k xs =>
    obtain ⟨bi, h1, h2, h3, h4, h5, h6, h7⟩ := h
    refine ⟨bi, hβ _ _ _ h1, h2, h3, h4, h5, h6, ?_⟩
    rcases h7 with h7 | ⟨b, e, h7⟩
    · exact Or.inl h7
    · exact Or.inr ⟨b, e, LR.mono hI hβ _ _ _ _ h7⟩
theorem BR.owns_eq {t : Nat} {x : ABlk} (h : BR I β w t x) (hβ : β.le β') : owns β' t x = owns β t x := by
  cases x with
  | free => rfl
  | map es =>
    obtain ⟨b, k, c, _, _, h1, _⟩ := h
    simp [owns, h1, hβ _ _ _ h1]
  | siter l p =>
    obtain ⟨b, k, c, h1, _⟩ := h
    simp [owns, h1, hβ _ _ _ h1]
  | rrow g k xs =>
    obtain ⟨bi, h1, _⟩ := h
    simp [owns, h1, hβ _ _ _ h1]
  | frow => rfl
  | var cs =>
    obtain ⟨b, k, c, us, ty, h1, _⟩ := h
    simp [owns, h1, hβ _ _ _ h1]
  | row g k xs =>
    obtain ⟨bi, h1, _⟩ := h
    simp [owns, h1, hβ _ _ _ h1]
theorem BR.owns_lt {t b : Nat} {x : ABlk} (h : BR I β w t x) (hb : owns β t x = some b) : b < w.heap.size := by
  cases x with
  | free => cases hb
  | map es =>
    obtain ⟨b', k, c, _, _, h1, h2, _⟩ := h
    simp only [owns, h1, Option.bind_some, Option.some.injEq] at hb
    subst hb
    exact (Array.getElem?_eq_some_iff.1 h2).1
  | siter l p =>
    obtain ⟨b', k, c, h1, h2⟩ := h
    simp only [owns, h1, Option.bind_some, Option.some.injEq] at hb
    subst hb
    exact (Array.getElem?_eq_some_iff.1 h2).1
  | rrow g k xs =>
    obtain ⟨bi, h1, _, _, _, _, _, b', us, ty, e, h8, _⟩ := h
    simp only [owns, h1, Option.bind_some, e, Option.some.injEq] at hb
    subst hb
    exact (Array.getElem?_eq_some_iff.1 h8).1
  | frow => cases hb
  | var cs =>
    obtain ⟨b', k, c, us, ty, h1, h2, _⟩ := h
    simp only [owns, h1, Option.bind_some, Option.some.injEq] at hb
    subst hb
    exact (Array.getElem?_eq_some_iff.1 h2).1
  | row g k xs =>
    obtain ⟨bi, h1, _, _, _, _, _, _, h8⟩ := h
    simp only [owns, h1, Option.bind_some] at hb
    rcases h8 with ⟨h8, _⟩ | ⟨b', us, ty, e, h8, _⟩
    · rw [h8] at hb; cases hb
    · rw [e] at hb; injection hb with hb; subst hb
      exact (Array.getElem?_eq_some_iff.1 h8).1

theorem Rel.stay (R : Rel base w0 I0 I β σ w) (hI : I.le I') (hB : KB base w w') (hold : ∀ b o, base b → I' b o = I b o)
    (himm : ∀ b o u, I' b o = some u → w'.cell? ⟨b, o, none⟩ = some u)
    (keep : ∀ t x b, σ[t]? = some x → owns β t x = some b → w'.heap[b]? = w.heap[b]? ∧ ∀ o, I' b o = none) : Rel base w0 I0 I' β σ w' where
  below := R.below.trans hB
  old := fun b o h => (hold b o h).trans (R.old b o h)
  imm := himm
  blk := fun t x h => (R.blk t x h).keep hI (Bmap.le.refl β) (fun b hb => (keep t x b h hb).1)
  own := fun t x b h hb => ⟨(R.own t x b h hb).1, (keep t x b h hb).2⟩
  apart := R.apart
  fresh := R.fresh
  free := R.free
  gen := R.gen
  glob := fun b o u h => hI b o u (R.glob b o u h)

/-- nothing but the tape's place has moved -/
theorem Rel.same (R : Rel base w0 I0 I β σ w) (hh : w'.heap = w.heap) (h1 : w'.os = w.os) (h2 : w'.tape = w.tape) (h3 : w'.output = w.output) : Rel base w0 I0 I β σ w' :=
  R.stay (Imm.le.refl I) ⟨h1, h2, h3, by rw [hh]; exact Nat.le_refl _, fun k _ => by rw [hh]⟩ (fun _ _ _ => rfl) (fun b o u h => by
    have := R.imm b o u h
    rw [← this]
    simp [World.cell?, hh]) (fun t x b h hb => ⟨by rw [hh], (R.own t x b h hb).2⟩)

theorem Rel.upd (R : Rel base w0 I0 I β σ w) (hI : I.le I') (hβ : β.le β') (hB : KB base w w') (hold : ∀ b o, base b → I' b o = I b o)
    (himm : ∀ b o u, I' b o = some u → w'.cell? ⟨b, o, none⟩ = some u)
    (s : Nat) (x' : ABlk) (hσ : σ' = σ.set s x') (hs : s < σ.length) (hβs : ∀ t g, t ≠ s → β' t g = β t g)
    (keep : ∀ t x b, t ≠ s → σ[t]? = some x → owns β t x = some b → w'.heap[b]? = w.heap[b]? ∧ (∀ o, I' b o = none) ∧ owns β' s x' ≠ some b)
    (hblk : BR I' β' w' s x') (hown' : ∀ b, owns β' s x' = some b → ¬ base b ∧ ∀ o, I' b o = none)
    (hgen' : ∀ g, genB x' < g → β' s g = none) (hx' : x' ≠ .free) : Rel base w0 I0 I' β' σ' w' := by
  subst hσ
  have look : ∀ t x, (σ.set s x')[t]? = some x → (t = s ∧ x = x') ∨ (t ≠ s ∧ σ[t]? = some x) := by
    intro t x h
    rw [List.getElem?_set] at h
    by_cases e : s = t
    · subst e
      rw [if_pos rfl, if_pos hs] at h
      injection h with h
      exact Or.inl ⟨rfl, h.symm⟩
    · rw [if_neg e] at h
      exact Or.inr ⟨fun h => e h.symm, h⟩
  refine ⟨R.below.trans hB, fun b o h => (hold b o h).trans (R.old b o h), himm, ?_, ?_, ?_, ?_, ?_, ?_, fun b o u h => hI b o u (R.glob b o u h)⟩
  · intro t x h
    rcases look t x h with ⟨rfl, rfl⟩ | ⟨hne, h⟩
    · exact hblk
    · exact (R.blk t x h).keep hI hβ (fun b hb => (keep t x b hne h hb).1)
  · intro t x b h hb
    rcases look t x h with ⟨rfl, rfl⟩ | ⟨hne, h⟩
    · exact hown' b hb
    · rw [(R.blk t x h).owns_eq hβ] at hb
      exact ⟨(R.own t x b h hb).1, (keep t x b hne h hb).2.1⟩
  · intro t x t' x'' b h h' hb hb'
    rcases look t x h with ⟨e1, e2⟩ | ⟨hne, h1⟩
    · rcases look t' x'' h' with ⟨e3, e4⟩ | ⟨hne', h1'⟩
      · rw [e1, e3]
      · rw [(R.blk _ _ h1').owns_eq hβ] at hb'
        rw [e1, e2] at hb
        exact absurd hb (keep _ _ b hne' h1' hb').2.2
    · rw [(R.blk t x h1).owns_eq hβ] at hb
      rcases look t' x'' h' with ⟨e3, e4⟩ | ⟨hne', h1'⟩
      · rw [e3, e4] at hb'
        exact absurd hb' (keep _ _ b hne h1 hb).2.2
      · rw [(R.blk _ _ h1').owns_eq hβ] at hb'
        exact R.apart t x t' x'' b h1 h1' hb hb'
  · intro t g h
    simp only [List.length_set] at h
    rw [hβs t g (by omega)]
    exact R.fresh t g h
  · intro t g h
    rcases look t _ h with ⟨rfl, e⟩ | ⟨hne, h⟩
    · exact absurd e.symm hx'
    · rw [hβs t g hne]; exact R.free t g h
  · intro t b g h hg
    rcases look t _ h with ⟨rfl, e⟩ | ⟨hne, h⟩
    · exact hgen' g (e ▸ hg)
    · rw [hβs t g hne]; exact R.gen t b g h hg

theorem set_look {s t : Nat} {x' x : ABlk} (hs : s < σ.length) (h : (σ.set s x')[t]? = some x) : (t = s ∧ x = x') ∨ (t ≠ s ∧ σ[t]? = some x) := by
  rw [List.getElem?_set] at h
  by_cases e : s = t
  · subst e
    rw [if_pos rfl, if_pos hs] at h
    injection h with h
    exact Or.inl ⟨rfl, h.symm⟩
  · rw [if_neg e] at h
    exact Or.inr ⟨fun h => e h.symm, h⟩

/-- β with one entry more -/
def Bmap.put (β : Bmap) (s g : Nat) (bi : BI) : Bmap := fun t g' => if t = s ∧ g' = g then some bi else β t g'
theorem Bmap.put_same (β : Bmap) (s g : Nat) (bi : BI) : β.put s g bi s g = some bi := by simp [Bmap.put]
theorem Bmap.put_le {s g : Nat} {bi : BI} (h : β s g = none) : β.le (β.put s g bi) := by
  intro t g' x hx
  unfold Bmap.put
  split
  · rename_i e; rw [e.1, e.2, h] at hx; cases hx
  · exact hx
theorem Bmap.put_ne {s g t g' : Nat} {bi : BI} (h : t ≠ s) : β.put s g bi t g' = β t g' := by simp [Bmap.put, h]
theorem Bmap.put_gen {s g g' : Nat} {bi : BI} (h : g' ≠ g) : β.put s g bi s g' = β s g' := by simp [Bmap.put, h]

theorem heap_push_lt (w : World) (o : Obj) {b : Nat} (h : b < w.heap.size) : (w.heap.push o)[b]? = w.heap[b]? := by rw [Array.getElem?_push]; simp; omega
theorem heap_push_at (w : World) (o : Obj) : (w.heap.push o)[w.heap.size]? = some o := by simp
theorem cell_lt {b o : Nat} {u : Value} (h : w.cell? ⟨b, o, none⟩ = some u) : b < w.heap.size := by
  unfold World.cell? at h
  split at h
  · rename_i e; exact (Array.getElem?_eq_some_iff.1 e).1
  · cases h
theorem cell_push (w : World) (o : Obj) {b off : Nat} {u : Value} (h : w.cell? ⟨b, off, none⟩ = some u) : World.cell? { w with heap := w.heap.push o } ⟨b, off, none⟩ = some u := by
  have hb := cell_lt h
  rw [← h]
  simp only [World.cell?, heap_push_lt w o hb]
theorem below_push (base : Nat → Prop) (w : World) (o : Obj) (hb : KLt base w) : KB base w { w with heap := w.heap.push o } :=
  ⟨rfl, rfl, rfl, by simp, fun k hk => heap_push_lt w o (hb k hk)⟩
theorem Rel.base_le (R : Rel base w0 I0 I β σ w) (hb : KLt base w0) : KLt base w := fun b h => Nat.lt_of_lt_of_le (hb b h) R.below.size

/-- a new block, whatever it is, that the run owns -/
theorem Rel.newObj (R : Rel base w0 I0 I β σ w) (hb : KLt base w0) {s : Nat} (hs : σ[s]? = some .free) (o : Obj) (x' : ABlk) (k c : Nat)
    (hown : owns (β.put s 0 ⟨some w.heap.size, k, c⟩) s x' = some w.heap.size) (hg0 : genB x' = 0) (hnf : x' ≠ .free)
    (hblk : BR I (β.put s 0 ⟨some w.heap.size, k, c⟩) { w with heap := w.heap.push o } s x') :
    Rel base w0 I0 I (β.put s 0 ⟨some w.heap.size, k, c⟩) (σ.set s x') { w with heap := w.heap.push o } ∧ β.le (β.put s 0 ⟨some w.heap.size, k, c⟩) := by
  have hle : β.le (β.put s 0 ⟨some w.heap.size, k, c⟩) := Bmap.put_le (R.free s 0 hs)
  have hbw := R.base_le hb
  have hsl : s < σ.length := (List.getElem?_eq_some_iff.1 hs).1
  have hI0 : ∀ o, I w.heap.size o = none := by
    intro o
    cases h : I w.heap.size o with
    | none => rfl
    | some u => have := cell_lt (R.imm _ _ _ h); omega
  refine ⟨R.upd (Imm.le.refl I) hle (below_push base w _ hbw) (fun _ _ _ => rfl) (fun b o u h => cell_push w _ (R.imm b o u h)) s x' rfl hsl (fun t g h => Bmap.put_ne h) ?_ hblk ?_ ?_ hnf, hle⟩
  · intro t x b hne h hb'
    have hlt := (R.blk t x h).owns_lt hb'
    refine ⟨heap_push_lt w _ hlt, (R.own t x b h hb').2, ?_⟩
    rw [hown]; intro e; injection e with e; omega
  · intro b e
    rw [hown] at e; injection e with e; subst e
    exact ⟨fun h => Nat.lt_irrefl _ (hbw _ h), hI0⟩
  · intro g hg
    rw [Bmap.put_gen (by omega)]
    exact R.free s g hs

/-- a new block that the run owns -/
theorem Rel.newOwn (R : Rel base w0 I0 I β σ w) (hb : KLt base w0) {s : Nat} (hs : σ[s]? = some .free) (us : Array Value) (ty : TypeId) (x' : ABlk) (k c : Nat)
    (hx : (∃ cs, x' = .var cs ∧ VRs I β cs us.toList) ∨ (∃ xs, x' = .row 0 k xs ∧ 0 < k ∧ c ≤ 9223372036854775807 ∧ xs.length ≤ c ∧ treeL xs = true ∧ (∀ x ∈ xs, x.cells.length = k) ∧ us.size = c * k ∧ VRs I β (xs.flatMap AVal.cells) (us.toList.take (xs.length * k)))) :
    Rel base w0 I0 I (β.put s 0 ⟨some w.heap.size, k, c⟩) (σ.set s x') { w with heap := w.heap.push (.cells us ty) } ∧ β.le (β.put s 0 ⟨some w.heap.size, k, c⟩) := by
  have hle : β.le (β.put s 0 ⟨some w.heap.size, k, c⟩) := Bmap.put_le (R.free s 0 hs)
  have hbw := R.base_le hb
  have hsl : s < σ.length := (List.getElem?_eq_some_iff.1 hs).1
  have hI0 : ∀ o, I w.heap.size o = none := by
    intro o
    cases h : I w.heap.size o with
    | none => rfl
    | some u => have := cell_lt (R.imm _ _ _ h); omega
  have hown : owns (β.put s 0 ⟨some w.heap.size, k, c⟩) s x' = some w.heap.size := by
    rcases hx with ⟨cs, rfl, _⟩ | ⟨xs, rfl, _⟩ <;> simp [owns, Bmap.put_same]
  refine ⟨R.upd (Imm.le.refl I) hle (below_push base w _ hbw) (fun _ _ _ => rfl) (fun b o u h => cell_push w _ (R.imm b o u h)) s x' rfl hsl (fun t g h => Bmap.put_ne h) ?_ ?_ ?_ ?_ ?_, hle⟩
  · intro t x b hne h hb'
    have hlt := (R.blk t x h).owns_lt hb'
    refine ⟨heap_push_lt w _ hlt, (R.own t x b h hb').2, ?_⟩
    rw [hown]; intro e; injection e with e; omega
  · rcases hx with ⟨cs, rfl, h⟩ | ⟨xs, rfl, h1, h2, h3, h4, h5, h6, h7⟩
    · exact ⟨w.heap.size, k, c, us, ty, Bmap.put_same β s 0 _, heap_push_at w _, VRs.mono (Imm.le.refl I) hle _ _ h⟩
    · exact ⟨_, Bmap.put_same β s 0 _, rfl, h1, h2, h3, h4, h5, Or.inr ⟨w.heap.size, us, ty, rfl, heap_push_at w _, h6, VRs.mono (Imm.le.refl I) hle _ _ h7⟩⟩
  · intro b e
    rw [hown] at e; injection e with e; subst e
    exact ⟨fun h => Nat.lt_irrefl _ (hbw _ h), hI0⟩
  · intro g hg
    have h0 : genB x' = 0 := by rcases hx with ⟨cs, rfl, _⟩ | ⟨xs, rfl, _⟩ <;> rfl
    rw [Bmap.put_gen (by omega)]
    exact R.free s g hs
  · rcases hx with ⟨cs, rfl, _⟩ | ⟨xs, rfl, _⟩ <;> simp

/-- an empty row without a block -/
theorem Rel.newNone (R : Rel base w0 I0 I β σ w) {s : Nat} (hs : σ[s]? = some .free) (k : Nat) (hk : 0 < k) :
    Rel base w0 I0 I (β.put s 0 ⟨none, k, 0⟩) (σ.set s (.row 0 k [])) w ∧ β.le (β.put s 0 ⟨none, k, 0⟩) := by
  have hle : β.le (β.put s 0 ⟨none, k, 0⟩) := Bmap.put_le (R.free s 0 hs)
  have hsl : s < σ.length := (List.getElem?_eq_some_iff.1 hs).1
  have hown : owns (β.put s 0 ⟨none, k, 0⟩) s (.row 0 k []) = none := by simp [owns, Bmap.put_same]
  refine ⟨R.upd (Imm.le.refl I) hle (KB.refl base w) (fun _ _ _ => rfl) R.imm s _ rfl hsl (fun t g h => Bmap.put_ne h) ?_ ?_ ?_ ?_ (by simp), hle⟩
  · intro t x b hne h hb'
    exact ⟨rfl, (R.own t x b h hb').2, by rw [hown]; simp⟩
  · exact ⟨_, Bmap.put_same β s 0 _, rfl, hk, by simp, by simp, by simp [treeL], by simp, Or.inl ⟨rfl, rfl⟩⟩
  · intro b e; rw [hown] at e; cases e
  · intro g hg
    simp only [genB] at hg
    rw [Bmap.put_gen (by omega)]
    exact R.free s g hs

/-- a new block that nobody will write: its cells -/
def Imm.add (I : Imm) (b : Nat) (us : Array Value) : Imm := fun b' o => if b' = b then us[o]? else I b' o
theorem Rel.newImm (R : Rel base w0 I0 I β σ w) (hb : KLt base w0) (us : Array Value) (ty : TypeId) (fz : Nat × Nat) :
    Rel base w0 I0 (I.add w.heap.size us) β σ { w with heap := w.heap.push (.cells us ty fz) } ∧ I.le (I.add w.heap.size us) := by
  have hbw := R.base_le hb
  have hle : I.le (I.add w.heap.size us) := by
    intro b o u h
    have := cell_lt (R.imm _ _ _ h)
    unfold Imm.add
    rw [if_neg (by omega)]
    exact h
  refine ⟨R.stay hle (below_push base w _ hbw) (fun b o h => by unfold Imm.add; rw [if_neg (by have := hbw b h; omega)]) ?_ ?_, hle⟩
  · intro b o u h
    unfold Imm.add at h
    split at h
    · rename_i e
      subst e
      simp only [World.cell?, heap_push_at]
      simpa using h
    · exact cell_push w _ (R.imm b o u h)
  · intro t x b h hb'
    have hlt := (R.blk t x h).owns_lt hb'
    refine ⟨heap_push_lt w _ hlt, fun o => ?_⟩
    unfold Imm.add
    rw [if_neg (by omega)]
    exact (R.own t x b h hb').2 o

/-- a block that the run owns is laid anew -/
theorem Rel.putObj (R : Rel base w0 I0 I β σ w) {t b : Nat} {x x' : ABlk} (ht : σ[t]? = some x) (hx : owns β t x = some b) (hx' : owns β t x' = some b) (o : Obj)
    (hblk : BR I β { w with heap := w.heap.setIfInBounds b o } t x') (hg : genB x' = genB x) :
    Rel base w0 I0 I β (σ.set t x') { w with heap := w.heap.setIfInBounds b o } := by
  have hsl : t < σ.length := (List.getElem?_eq_some_iff.1 ht).1
  have ho := R.own t x b ht hx
  have hh : ∀ b', b' ≠ b → (w.heap.setIfInBounds b o)[b']? = w.heap[b']? := by
    intro b' hne
    rw [Array.getElem?_setIfInBounds_ne (fun e => hne e.symm)]
  refine R.upd (Imm.le.refl I) (Bmap.le.refl β) ⟨rfl, rfl, rfl, by simp, fun k hk => hh k (by rintro rfl; exact ho.1 hk)⟩ (fun _ _ _ => rfl) ?_ t x' rfl hsl (fun _ _ _ => rfl) ?_ hblk ?_ ?_ ?_
  · intro b' o u h
    have hne : b' ≠ b := by rintro rfl; rw [ho.2 o] at h; cases h
    rw [← R.imm b' o u h]
    simp only [World.cell?, hh b' hne]
  · intro t' y b' hne hy hb'
    have hbb : b' ≠ b := by rintro rfl; exact hne (R.apart t' y t x b' hy ht hb' hx)
    exact ⟨hh b' hbb, (R.own t' y b' hy hb').2, by rw [hx']; intro e; injection e with e; exact hbb e.symm⟩
  · intro b' e
    rw [hx'] at e; injection e with e; subst e
    exact ho
  · intro g hlt
    exact R.gen t x g ht (by rw [← hg]; exact hlt)
  · rintro rfl
    cases hx'
/-- a block that the run owns is written -/
theorem Rel.write (R : Rel base w0 I0 I β σ w) {t b : Nat} {x x' : ABlk} (ht : σ[t]? = some x) (hx : owns β t x = some b) (hx' : owns β t x' = some b) (us : Array Value)
    (hblk : BR I β (w.setRow b us) t x') (hg : genB x' = genB x) :
    Rel base w0 I0 I β (σ.set t x') (w.setRow b us) := by
  have hsl : t < σ.length := (List.getElem?_eq_some_iff.1 ht).1
  have ho := R.own t x b ht hx
  have hh : ∀ b', b' ≠ b → (w.setRow b us).heap[b']? = w.heap[b']? := by
    intro b' hne
    simp only [World.setRow, Array.getElem?_modify]
    rw [if_neg (fun e => hne e.symm)]
  refine R.upd (Imm.le.refl I) (Bmap.le.refl β) ⟨rfl, rfl, rfl, by simp [World.setRow], fun k hk => hh k (by rintro rfl; exact ho.1 hk)⟩ (fun _ _ _ => rfl) ?_ t x' rfl hsl (fun _ _ _ => rfl) ?_ hblk ?_ ?_ ?_
  · intro b' o u h
    have hne : b' ≠ b := by rintro rfl; rw [ho.2 o] at h; cases h
    rw [← R.imm b' o u h]
    simp only [World.cell?, hh b' hne]
  · intro t' y b' hne hy hb'
    have hbb : b' ≠ b := by rintro rfl; exact hne (R.apart t' y t x b' hy ht hb' hx)
    exact ⟨hh b' hbb, (R.own t' y b' hy hb').2, by rw [hx']; intro e; injection e with e; exact hbb e.symm⟩
  · intro b' e
    rw [hx'] at e; injection e with e; subst e
    exact ho
  · intro g hlt
    exact R.gen t x g ht (by rw [← hg]; exact hlt)
  · rintro rfl
    cases hx'
end
end Go.Proofs.YtaaflagbhneakaaDoor
