/- ABS: slices read, rows frozen, values seen as trees. -/
import Derived.Test.YtaaflagbhneakaaDoorAbsMem
namespace Go.Proofs.YtaaflagbhneakaaDoor
set_option linter.unusedSimpArgs false
set_option linter.unusedVariables false
open Go.RowKit

section
variable {P : Program} {base : Nat → Prop} {w0 w w' : World} {I0 I I' : Imm} {β β' : Bmap} {σ σ' : AHeap}

/-- a slice's elements, as they can be read in a world -/
def Reads (I : Imm) (β : Bmap) (w : World) (v : Value) (xs : List AVal) : Prop :=
  ∃ A cap, v = .slice A xs.length cap ∧ xs.length ≤ cap ∧ cap ≤ 9223372036854775807 ∧ treeL xs = true ∧
    (xs = [] ∨ ∃ b off k us, A = some ⟨b, off, none⟩ ∧ 0 < k ∧ (∀ x ∈ xs, x.cells.length = k) ∧ VRs I β (xs.flatMap AVal.cells) us ∧ ∀ j u, us[j]? = some u → w.cell? ⟨b, off + j, none⟩ = some u)

theorem lst_reads (R : Rel base w0 I0 I β σ w) {x : Bool} {xs : List AVal} {v : Value} (h : VR I β (.lst x xs) v) : Reads I β w v xs := by
  simp only [VR] at h
  obtain ⟨A, cap, h1, h2, h3, h4, h5, h6⟩ := h
  refine ⟨A, cap, h1, h2, h3, h6, ?_⟩
  rcases h5 with h5 | ⟨b, off, k, e, hk, h5⟩
  · exact Or.inl h5
  · obtain ⟨us, h7, h8⟩ := LR_cells h5
    exact Or.inr ⟨b, off, k, us, e, hk, LR_lens h5, h7, fun j u hu => R.imm _ _ _ (h8 j u hu)⟩
theorem treeL_take {xs : List AVal} (h : treeL xs = true) (n : Nat) : treeL (xs.take n) = true := by
  rw [treeL_iff] at h ⊢
  exact fun x hx => h x (List.mem_of_mem_take hx)
theorem treeL_drop {xs : List AVal} (h : treeL xs = true) (n : Nat) : treeL (xs.drop n) = true := by
  rw [treeL_iff] at h ⊢
  exact fun x hx => h x (List.mem_of_mem_drop hx)
theorem treeL_append {xs ys : List AVal} (h : treeL xs = true) (h' : treeL ys = true) : treeL (xs ++ ys) = true := by
  rw [treeL_iff] at h h' ⊢
  intro x hx
  rcases List.mem_append.1 hx with hx | hx
  · exact h x hx
  · exact h' x hx

/-- what a slice of an own row shows -/
theorem sl_row (R : Rel base w0 I0 I β σ w) {t g k lo n : Nat} {xs : List AVal} {v : Value} (hs : σ[t]? = some (.row g k xs)) (hn : lo + n ≤ xs.length) (h : VR I β (.sl t g lo n) v) : Reads I β w v ((xs.drop lo).take n) := by
  simp only [VR] at h
  obtain ⟨bi, h1, h2, h3, h4⟩ := h
  obtain ⟨bi', e1, e2, e3, e4, e5, e6, e7, e8⟩ := R.blk _ _ hs
  rw [h1] at e1
  injection e1 with e1
  subst e1
  have hl : ((xs.drop lo).take n).length = n := by simp; omega
  have ht := treeL_take (treeL_drop e6 lo) n
  have zero : ∀ A, n = 0 → v = .slice A 0 0 → Reads I β w v ((xs.drop lo).take n) := by
    intro A hz e
    subst hz
    exact ⟨A, 0, by simpa using e, by simp, by simp, by simp [treeL], Or.inl (by simp)⟩
  rcases h4 with ⟨b, hb, rfl⟩ | ⟨hb, hc, A, rfl⟩ | ⟨_, _, hz, A, hv⟩
  · rcases e8 with ⟨e8, _⟩ | ⟨b', us, ty, e, e8, e9, e10⟩
    · rw [hb] at e8; cases e8
    · rw [hb] at e
      injection e with e
      subst e
      refine ⟨_, _, by rw [hl], by rw [hl]; omega, by omega, ht, Or.inr ⟨b, lo * bi.k, k, ((us.toList.take (xs.length * k)).drop (lo * k)).take (n * k), rfl, e3, fun x hx => e7 x (List.mem_of_mem_drop (List.mem_of_mem_take hx)), ?_, ?_⟩⟩
      · have h5 := VRs_take (VRs_drop e10 (lo * k)) (n * k)
        rwa [flat_drop e7, flat_take (fun x hx => e7 x (List.mem_of_mem_drop hx))] at h5
      · intro j u hu
        rw [List.getElem?_take] at hu
        split at hu
        · rw [List.getElem?_drop, List.getElem?_take] at hu
          split at hu
          · rw [cell_of_heap e8, e2]; simpa using hu
          · cases hu
        · cases hu
  · exact zero A (by omega) rfl
  · exact zero A hz hv
theorem sl_frow (R : Rel base w0 I0 I β σ w) {t g k lo n : Nat} {xs : List AVal} {v : Value} (hs : σ[t]? = some (.frow g k xs)) (hn : lo + n ≤ xs.length) (h : VR I β (.sl t g lo n) v) : VR I β (.lst false ((xs.drop lo).take n)) v := by
  simp only [VR] at h ⊢
  obtain ⟨bi, h1, h2, h3, h4⟩ := h
  obtain ⟨bi', e1, e2, e3, e4, e5, e6, e7⟩ := R.blk _ _ hs
  rw [h1] at e1
  injection e1 with e1
  subst e1
  have hl : ((xs.drop lo).take n).length = n := by simp; omega
  have ht := treeL_take (treeL_drop e6 lo) n
  have zero : ∀ A, n = 0 → v = .slice A 0 0 → ∃ A cap, v = .slice A ((xs.drop lo).take n).length cap ∧ ((xs.drop lo).take n).length ≤ cap ∧ cap ≤ 9223372036854775807 ∧ (false = true → cap = ((xs.drop lo).take n).length) ∧ ((xs.drop lo).take n = [] ∨ ∃ b off k, A = some ⟨b, off, none⟩ ∧ 0 < k ∧ LR I β k ((xs.drop lo).take n) b off) ∧ treeL ((xs.drop lo).take n) = true := by
    intro A hz e
    subst hz
    exact ⟨A, 0, by simpa using e, by simp, by simp, by simp, Or.inl (by simp), by simp [treeL]⟩
  rcases h4 with ⟨b, hb, rfl⟩ | ⟨hb, hc, A, rfl⟩ | ⟨_, _, hz, A, hv⟩
  · refine ⟨_, _, by rw [hl], by rw [hl]; omega, by omega, by simp, ?_, ht⟩
    rcases e7 with e7 | ⟨b', e, e7⟩
    · subst e7; exact Or.inl (by simp)
    · rw [hb] at e
      injection e with e
      subst e
      have h5 := LR_take (n := n) (LR_drop (n := lo) e7)
      rw [Nat.zero_add] at h5
      exact Or.inr ⟨b, lo * bi.k, k, rfl, e3, by rw [e2]; exact h5⟩
  · exact zero A (by omega) rfl
  · exact zero A hz hv

theorem elems_reads (R : Rel base w0 I0 I β σ w) {a : AVal} {xs : List AVal} {ts : List Nat} {v : Value} (hn : ∀ l, a ≠ .str l) (h : elemsA σ a = some (xs, ts)) (hv : VR I β a v) : Reads I β w v xs := by
  unfold elemsA at h
  split at h
  · simp only [Option.some.injEq, Prod.mk.injEq] at h
    obtain ⟨rfl, rfl⟩ := h
    exact lst_reads R hv
  · rename_i l; exact absurd rfl (hn l)
  · split at h
    · rename_i hs
      split at h
      · rename_i he
        obtain ⟨rfl, he⟩ := he
        simp only [Option.some.injEq, Prod.mk.injEq] at h
        obtain ⟨rfl, rfl⟩ := h
        exact sl_row R hs he hv
      · cases h
    · rename_i hs
      split at h
      · rename_i he
        obtain ⟨rfl, he⟩ := he
        simp only [Option.some.injEq, Prod.mk.injEq] at h
        obtain ⟨rfl, rfl⟩ := h
        exact lst_reads R (sl_frow R hs he hv)
      · cases h
    · cases h
  · cases h

/-- the blocks that a view names are rows -/
def Rowy (σ : AHeap) (ts : List Nat) : Prop := ∀ t ∈ ts, ∃ g k xs, σ[t]? = some (.row g k xs) ∨ σ[t]? = some (.frow g k xs)
def Frozen (σ : AHeap) (ts : List Nat) : Prop := ∀ t ∈ ts, ∃ g k xs, σ[t]? = some (.frow g k xs)
theorem Rowy.append {ts us : List Nat} (h : Rowy σ ts) (h' : Rowy σ us) : Rowy σ (ts ++ us) := by
  intro t ht
  rcases List.mem_append.1 ht with ht | ht
  · exact h t ht
  · exact h' t ht
theorem elems_rowy {a : AVal} {xs : List AVal} {ts : List Nat} (h : elemsA σ a = some (xs, ts)) : Rowy σ ts := by
  unfold elemsA at h
  split at h
  · simp only [Option.some.injEq, Prod.mk.injEq] at h; rw [← h.2]; intro t ht; simp at ht
  · simp only [Option.some.injEq, Prod.mk.injEq] at h; rw [← h.2]; intro t ht; simp at ht
  · split at h
    · rename_i hs
      split at h
      · simp only [Option.some.injEq, Prod.mk.injEq] at h; rw [← h.2]; intro t ht; simp at ht; subst ht; exact ⟨_, _, _, Or.inl hs⟩
      · cases h
    · rename_i hs
      split at h
      · simp only [Option.some.injEq, Prod.mk.injEq] at h; rw [← h.2]; intro t ht; simp at ht; subst ht; exact ⟨_, _, _, Or.inr hs⟩
      · cases h
    · cases h
  · cases h
theorem view1_rowy {a y : AVal} {ts : List Nat} (h : viewA1 σ a = some (y, ts)) : Rowy σ ts := by
  unfold viewA1 at h
  split at h
  case h_2 =>
    split at h
    · rename_i he
      simp only [Option.some.injEq, Prod.mk.injEq] at h
      rw [← h.2]
      exact elems_rowy he
    · cases h
  case h_9 => cases h
  all_goals
    simp only [Option.some.injEq, Prod.mk.injEq] at h
    rw [← h.2]
    intro t ht
    simp at ht
theorem views_rowy : ∀ {cs ys : List AVal} {ts : List Nat}, viewsA σ cs = some (ys, ts) → Rowy σ ts
  | [], ys, ts, h => by simp only [viewsA, Option.some.injEq, Prod.mk.injEq] at h; rw [← h.2]; intro t ht; simp at ht
  | c :: cs, ys, ts, h => by
    simp only [viewsA] at h
    split at h
    · rename_i h1
      split at h
      · rename_i h2
        simp only [Option.some.injEq, Prod.mk.injEq] at h
        rw [← h.2]
        exact (view1_rowy h1).append (views_rowy h2)
      · cases h
    · cases h
theorem view_rowy {a y : AVal} {ts : List Nat} (h : viewA σ a = some (y, ts)) : Rowy σ ts := by
  unfold viewA at h
  split at h
  · split at h
    · rename_i h1
      simp only [Option.some.injEq, Prod.mk.injEq] at h
      rw [← h.2]
      exact views_rowy h1
    · cases h
  · exact view1_rowy h
theorem viewAs_rowy : ∀ {cs ys : List AVal} {ts : List Nat}, viewAs σ cs = some (ys, ts) → Rowy σ ts
  | [], ys, ts, h => by simp only [viewAs, Option.some.injEq, Prod.mk.injEq] at h; rw [← h.2]; intro t ht; simp at ht
  | c :: cs, ys, ts, h => by
    simp only [viewAs] at h
    split at h
    · rename_i h1
      split at h
      · rename_i h2
        simp only [Option.some.injEq, Prod.mk.injEq] at h
        rw [← h.2]
        exact (view_rowy h1).append (viewAs_rowy h2)
      · cases h
    · cases h
theorem viewR_rowy {a y : AVal} {ts : List Nat} (h : viewR σ a = some (y, ts)) : Rowy σ ts := by
  unfold viewR at h
  split at h
  · split at h
    · rename_i h1
      simp only [Option.some.injEq, Prod.mk.injEq] at h
      rw [← h.2]
      exact viewAs_rowy h1
    · cases h
  · exact view_rowy h

/-- freezing changes no view -/
def Alike (σ σ' : AHeap) : Prop := ∀ a, elemsA σ' a = elemsA σ a
theorem Alike.view1 (h : Alike σ σ') (a : AVal) : viewA1 σ' a = viewA1 σ a := by
  cases a <;> simp only [viewA1]
  rw [h]
theorem Alike.views (h : Alike σ σ') : ∀ cs, viewsA σ' cs = viewsA σ cs
  | [] => rfl
  | c :: cs => by simp only [viewsA, h.view1, h.views cs]
theorem Alike.view (h : Alike σ σ') (a : AVal) : viewA σ' a = viewA σ a := by
  cases a <;> simp only [viewA, h.view1, h.views]
theorem Alike.viewAs (h : Alike σ σ') : ∀ cs, viewAs σ' cs = viewAs σ cs
  | [] => rfl
  | c :: cs => by
    have ih := h.viewAs cs
    simp only [YtaaflagbhneakaaDoor.viewAs, h.view, ih]
theorem Alike.viewR (h : Alike σ σ') (a : AVal) : viewR σ' a = viewR σ a := by
  cases a <;> simp only [YtaaflagbhneakaaDoor.viewR, h.view, h.viewAs]

/-- one row is frozen -/
theorem freeze_one (R : Rel base w0 I0 I β σ w) {t g k : Nat} {xs : List AVal} (hs : σ[t]? = some (.row g k xs)) :
    ∃ I', I.le I' ∧ Rel base w0 I0 I' β (σ.set t (.frow g k xs)) w := by
  have hsl : t < σ.length := (List.getElem?_eq_some_iff.1 hs).1
  obtain ⟨bi, h1, h2, h3, h4, h5, h6, h7, h8⟩ := R.blk _ _ hs
  rcases h8 with ⟨h8, h9⟩ | ⟨b, us, ty, e, h8, h9, h10⟩
  · have hx : xs = [] := List.eq_nil_of_length_eq_zero (by omega)
    refine ⟨I, Imm.le.refl I, R.upd (Imm.le.refl I) (Bmap.le.refl β) (KB.refl base w) (fun _ _ _ => rfl) R.imm t _ rfl hsl (fun _ _ _ => rfl) (fun t' x b _ hx hb => ⟨rfl, (R.own t' x b hx hb).2, by simp [owns]⟩) ⟨bi, h1, h2, h3, h4, h5, h6, Or.inl hx⟩ (fun b e => by cases e) (fun g' hg => R.gen t _ g' hs (by simpa [genB] using hg)) (by simp)⟩
  · have hown : owns β t (.row g k xs) = some b := by simp [owns, h1, e]
    have ho := R.own t _ b hs hown
    let I' : Imm := fun b' o => if b' = b ∧ o < xs.length * k then us[o]? else I b' o
    have hle : I.le I' := by
      intro b' o u hu
      have : b' ≠ b := by rintro rfl; rw [ho.2 o] at hu; cases hu
      simp only [I', this, false_and, if_false]
      exact hu
    have hlen : xs.length * k ≤ us.size := by rw [h9]; exact Nat.mul_le_mul_right k h5
    refine ⟨I', hle, R.upd hle (Bmap.le.refl β) (KB.refl base w) ?_ ?_ t _ rfl hsl (fun _ _ _ => rfl) ?_ ?_ (fun b e => by cases e) (fun g' hg => R.gen t _ g' hs (by simpa [genB] using hg)) (by simp)⟩
    · intro b' o hb'
      have : b' ≠ b := by rintro rfl; exact ho.1 hb'
      simp only [I', this, false_and, if_false]
    · intro b' o u hu
      simp only [I'] at hu
      split at hu
      · rename_i hc
        rw [hc.1, cell_of_heap h8]; exact hu
      · exact R.imm _ _ _ hu
    · intro t' x b' hne hx hb'
      have : b' ≠ b := by rintro rfl; exact hne (R.apart t' x t _ b' hx hs hb' hown)
      refine ⟨rfl, fun o => ?_, by simp [owns]⟩
      simp only [I', this, false_and, if_false]
      exact (R.own t' x b' hx hb').2 o
    · refine ⟨bi, h1, h2, h3, h4, h5, h6, Or.inr ⟨b, e, ?_⟩⟩
      refine LR_of h7 (VRs.mono hle (Bmap.le.refl β) _ _ h10) (fun j u hu => ?_)
      rw [List.getElem?_take] at hu
      split at hu
      · rename_i hj
        simp only [I', Nat.zero_add, true_and, hj, if_true]
        simpa using hu
      · cases hu
theorem alike_one {t g k : Nat} {xs : List AVal} (hs : σ[t]? = some (.row g k xs)) : Alike σ (σ.set t (.frow g k xs)) := by
  have hsl : t < σ.length := (List.getElem?_eq_some_iff.1 hs).1
  intro a
  cases a <;> simp only [elemsA]
  rename_i t' g' lo n
  rw [List.getElem?_set]
  by_cases e : t = t'
  · subst e
    rw [if_pos rfl, if_pos hsl, hs]
  · rw [if_neg e]
theorem freeze_all : ∀ (ts : List Nat) {I : Imm} {σ : AHeap}, Rel base w0 I0 I β σ w → ∃ I', I.le I' ∧ Rel base w0 I0 I' β (freezeA σ ts) w ∧ Alike σ (freezeA σ ts) ∧ (∀ (t g k : Nat) (xs : List AVal), σ[t]? = some (ABlk.frow g k xs) → (freezeA σ ts)[t]? = some (ABlk.frow g k xs)) ∧ (Rowy σ ts → Frozen (freezeA σ ts) ts) ∧ (freezeA σ ts).length = σ.length ∧ (∀ (t : Nat) (x : ABlk), t ∉ ts → σ[t]? = some x → (freezeA σ ts)[t]? = some x)
  | [], I, σ, R => ⟨I, Imm.le.refl I, R, fun _ => rfl, fun _ _ _ _ h => h, fun _ t ht => by simp at ht, rfl, fun _ _ _ h => h⟩
  | t :: ts, I, σ, R => by
    unfold freezeA
    split
    · rename_i g k xs hs
      obtain ⟨I1, h1, R1⟩ := freeze_one R hs
      have hsl : t < σ.length := (List.getElem?_eq_some_iff.1 hs).1
      obtain ⟨I2, h2, R2, h3, h4, h5, h6, h7⟩ := freeze_all ts R1
      have hk : ∀ (t' g' k' : Nat) (xs' : List AVal), σ[t']? = some (ABlk.frow g' k' xs') → (σ.set t (ABlk.frow g k xs))[t']? = some (ABlk.frow g' k' xs') := by
        intro t' g' k' xs' h
        rw [List.getElem?_set, if_neg (by rintro rfl; rw [hs] at h; cases h)]
        exact h
      refine ⟨I2, h1.trans h2, R2, fun a => (h3 a).trans (alike_one hs a), fun t' g' k' xs' h => h4 _ _ _ _ (hk _ _ _ _ h), ?_, by rw [h6]; simp, ?_⟩
      · intro hr t' ht'
        rcases List.mem_cons.1 ht' with rfl | ht'
        · exact ⟨g, k, xs, h4 _ _ _ _ (by rw [List.getElem?_set, if_pos rfl, if_pos hsl])⟩
        · refine h5 (fun t'' ht'' => ?_) t' ht'
          obtain ⟨g', k', xs', hx⟩ := hr t'' (by simp [ht''])
          by_cases e : t = t''
          · subst e; exact ⟨g, k, xs, Or.inr (by rw [List.getElem?_set, if_pos rfl, if_pos hsl])⟩
          · exact ⟨g', k', xs', by rw [List.getElem?_set, if_neg e]; exact hx⟩
      · intro t' x hn h
        simp only [List.mem_cons, not_or] at hn
        exact h7 t' x hn.2 (by rw [List.getElem?_set, if_neg (fun e => hn.1 e.symm)]; exact h)
    · rename_i hno
      obtain ⟨I2, h2, R2, h3, h4, h5, h6, h7⟩ := freeze_all ts R
      refine ⟨I2, h2, R2, h3, h4, ?_, h6, fun t' x hn h => h7 t' x (fun hc => hn (by simp [hc])) h⟩
      intro hr t' ht'
      rcases List.mem_cons.1 ht' with rfl | ht'
      · obtain ⟨g, k, xs, hx | hx⟩ := hr t' (by simp)
        · exact absurd hx (hno g k xs)
        · exact ⟨g, k, xs, h4 _ _ _ _ hx⟩
      · exact h5 (fun t'' ht'' => hr t'' (by simp [ht''])) t' ht'

/-- a value seen as a tree, its rows frozen -/
theorem view1_sound (R : Rel base w0 I0 I β σ w) {a y : AVal} {ts : List Nat} {v : Value} (hF : Frozen σ ts) (h : viewA1 σ a = some (y, ts)) (hv : VR I β a v) : VR I β y v ∧ tree1 y = true := by
  unfold viewA1 at h
  split at h
  case h_1 x xs =>
    simp only [Option.some.injEq, Prod.mk.injEq] at h
    obtain ⟨rfl, rfl⟩ := h
    simp only [VR] at hv ⊢
    obtain ⟨A, cap, h1, h2, h3, h4, h5, h6⟩ := hv
    exact ⟨⟨A, cap, h1, h2, h3, by simp, h5, h6⟩, by simpa [tree1] using h6⟩
  case h_2 t g lo n =>
    split at h
    · rename_i xs us he
      simp only [Option.some.injEq, Prod.mk.injEq] at h
      obtain ⟨rfl, rfl⟩ := h
      simp only [elemsA] at he
      split at he
      · rename_i hs
        split at he
        · simp only [Option.some.injEq, Prod.mk.injEq] at he
          obtain ⟨g', k', xs', hx⟩ := hF t (by rw [← he.2]; simp)
          rw [hs] at hx; cases hx
        · cases he
      · rename_i hs
        split at he
        · rename_i hc
          obtain ⟨rfl, hc⟩ := hc
          simp only [Option.some.injEq, Prod.mk.injEq] at he
          obtain ⟨rfl, rfl⟩ := he
          have := sl_frow R hs hc hv
          refine ⟨this, ?_⟩
          simp only [VR] at this
          obtain ⟨_, _, _, _, _, _, _, h6⟩ := this
          simpa [tree1] using h6
        · cases he
      · cases he
    · cases h
  case h_9 => cases h
  all_goals
    simp only [Option.some.injEq, Prod.mk.injEq] at h
    obtain ⟨rfl, rfl⟩ := h
    exact ⟨hv, rfl⟩
theorem Frozen.left {ts us : List Nat} (h : Frozen σ (ts ++ us)) : Frozen σ ts := fun t ht => h t (by simp [ht])
theorem Frozen.right {ts us : List Nat} (h : Frozen σ (ts ++ us)) : Frozen σ us := fun t ht => h t (by simp [ht])
theorem views_sound (R : Rel base w0 I0 I β σ w) : ∀ {cs ys : List AVal} {ts : List Nat} {vs : List Value}, Frozen σ ts → viewsA σ cs = some (ys, ts) → VRs I β cs vs → VRs I β ys vs ∧ treeC ys = true
  | [], ys, ts, vs, _, h, hv => by
    simp only [viewsA, Option.some.injEq, Prod.mk.injEq] at h
    rw [← h.1]
    exact ⟨hv, rfl⟩
  | c :: cs, ys, ts, vs, hF, h, hv => by
    simp only [viewsA] at h
    simp only [VRs] at hv
    obtain ⟨v, vs', rfl, hv1, hv2⟩ := hv
    split at h
    · rename_i y ts1 h1
      split at h
      · rename_i ys1 us1 h2
        simp only [Option.some.injEq, Prod.mk.injEq] at h
        obtain ⟨rfl, rfl⟩ := h
        obtain ⟨a1, a2⟩ := view1_sound R hF.left h1 hv1
        obtain ⟨b1, b2⟩ := views_sound R hF.right h2 hv2
        exact ⟨by simp only [VRs]; exact ⟨v, vs', rfl, a1, b1⟩, by simp [treeC, a2, b2]⟩
      · cases h
    · cases h
theorem view_sound (R : Rel base w0 I0 I β σ w) {a y : AVal} {ts : List Nat} {v : Value} (hF : Frozen σ ts) (h : viewA σ a = some (y, ts)) (hv : VR I β a v) : VR I β y v ∧ treeC y.cells = true := by
  unfold viewA at h
  split at h
  · rename_i cs
    split at h
    · rename_i ys us h1
      simp only [Option.some.injEq, Prod.mk.injEq] at h
      obtain ⟨rfl, rfl⟩ := h
      simp only [VR] at hv ⊢
      obtain ⟨us', rfl, hv⟩ := hv
      obtain ⟨a1, a2⟩ := views_sound R hF h1 hv
      exact ⟨⟨us', rfl, a1⟩, a2⟩
    · cases h
  · rename_i hne
    obtain ⟨a1, a2⟩ := view1_sound R hF h hv
    refine ⟨a1, ?_⟩
    cases y <;> simp_all [tree1, AVal.cells, treeC]
theorem viewAs_sound (R : Rel base w0 I0 I β σ w) : ∀ {cs ys : List AVal} {ts : List Nat} {vs : List Value}, Frozen σ ts → viewAs σ cs = some (ys, ts) → VRs I β cs vs → VRs I β ys vs ∧ ∀ y ∈ ys, treeC y.cells = true
  | [], ys, ts, vs, _, h, hv => by
    simp only [viewAs, Option.some.injEq, Prod.mk.injEq] at h
    rw [← h.1]
    exact ⟨hv, by simp⟩
  | c :: cs, ys, ts, vs, hF, h, hv => by
    simp only [viewAs] at h
    simp only [VRs] at hv
    obtain ⟨v, vs', rfl, hv1, hv2⟩ := hv
    split at h
    · rename_i y ts1 h1
      split at h
      · rename_i ys1 us1 h2
        simp only [Option.some.injEq, Prod.mk.injEq] at h
        obtain ⟨rfl, rfl⟩ := h
        obtain ⟨a1, a2⟩ := view_sound R hF.left h1 hv1
        obtain ⟨b1, b2⟩ := viewAs_sound R hF.right h2 hv2
        refine ⟨by simp only [VRs]; exact ⟨v, vs', rfl, a1, b1⟩, ?_⟩
        intro z hz
        rcases List.mem_cons.1 hz with rfl | hz
        · exact a2
        · exact b2 z hz
      · cases h
    · cases h
/-- trees: no block of the run in them -/
theorem VR.of_cells {I : Imm} {β β' : Bmap} {x : AVal} {v : Value} (ht : treeC x.cells = true) (h : VR I β x v) : VR I β' x v := by
  cases x
  case agg cs =>
    simp only [VR] at h ⊢
    obtain ⟨us, rfl, h⟩ := h
    refine ⟨us, rfl, VRs_of (VRs_length h) (fun i x v hx hv => ?_)⟩
    obtain ⟨v', h1, h2⟩ := VRs_get h hx
    rw [hv] at h1; injection h1 with h1; subst h1
    exact VR.of_tree (treeC_iff.1 ht x (List.mem_of_getElem? hx)) h2
  all_goals exact VR.of_tree (by simpa [AVal.cells, treeC] using ht) h
theorem VRs.of_cells {I : Imm} {β β' : Bmap} {xs : List AVal} {vs : List Value} (ht : ∀ x ∈ xs, treeC x.cells = true) (h : VRs I β xs vs) : VRs I β' xs vs :=
  VRs_of (VRs_length h) (fun i x v hx hv => by
    obtain ⟨v', h1, h2⟩ := VRs_get h hx
    rw [hv] at h1; injection h1 with h1; subst h1
    exact VR.of_cells (ht x (List.mem_of_getElem? hx)) h2)
theorem viewR_sound (R : Rel base w0 I0 I β σ w) {a y : AVal} {ts : List Nat} {v : Value} (hF : Frozen σ ts) (h : viewR σ a = some (y, ts)) (hv : VR I β a v) : VR I B0 y v := by
  unfold viewR at h
  split at h
  · rename_i vs
    split at h
    · rename_i ys us h1
      simp only [Option.some.injEq, Prod.mk.injEq] at h
      obtain ⟨rfl, rfl⟩ := h
      simp only [VR] at hv ⊢
      obtain ⟨us', rfl, hv⟩ := hv
      obtain ⟨a1, a2⟩ := viewAs_sound R hF h1 hv
      exact ⟨us', rfl, VRs.of_cells a2 a1⟩
    · cases h
  · obtain ⟨a1, a2⟩ := view_sound R hF h hv
    exact VR.of_cells a2 a1
/-- flat values say nothing of memory -/
theorem flat1_any {I I' : Imm} {β β' : Bmap} {x : AVal} {v : Value} (hf : flat1 x = true) (h : VR I β x v) : VR I' β' x v := by
  cases x <;> simp [flat1] at hf <;> simpa only [VR] using h
theorem flats_any {I I' : Imm} {β β' : Bmap} {xs : List AVal} {vs : List Value} (hf : xs.all flat1 = true) (h : VRs I β xs vs) : VRs I' β' xs vs :=
  VRs_of (VRs_length h) (fun i x v hx hv => by
    obtain ⟨v', h1, h2⟩ := VRs_get h hx
    rw [hv] at h1; injection h1 with h1; subst h1
    exact flat1_any (List.all_eq_true.1 hf x (List.mem_of_getElem? hx)) h2)
theorem flat2_any {I I' : Imm} {β β' : Bmap} {x : AVal} {v : Value} (hf : flat2 x = true) (h : VR I β x v) : VR I' β' x v := by
  cases x
  case agg cs =>
    simp only [VR] at h ⊢
    obtain ⟨us, rfl, h⟩ := h
    exact ⟨us, rfl, flats_any hf h⟩
  all_goals exact flat1_any hf h
theorem flat_any {I I' : Imm} {β β' : Bmap} {x : AVal} {v : Value} (hf : flatA x = true) (h : VR I β x v) : VR I' β' x v := by
  cases x
  case tup cs =>
    simp only [VR] at h ⊢
    obtain ⟨us, rfl, h⟩ := h
    exact ⟨us, rfl, VRs_of (VRs_length h) (fun i x v hx hv => by
      obtain ⟨v', h1, h2⟩ := VRs_get h hx
      rw [hv] at h1; injection h1 with h1; subst h1
      exact flat2_any (List.all_eq_true.1 hf x (List.mem_of_getElem? hx)) h2)⟩
  case pan => simp only [VR] at h
  all_goals exact flat2_any hf h

/-- arguments of which the rows are shown -/
theorem show1_sound (R : Rel base w0 I0 I β σ w) {a y : AVal} {ts : List Nat} {v : Value} (hF : Frozen σ ts) (h : showA1 σ a = some (y, ts)) (hv : VR I β a v) : VR I β y v := by
  unfold showA1 at h
  split at h
  case h_3 => cases h
  case h_1 x xs =>
    exact (view1_sound R hF (a := .lst x xs) (by simpa only [viewA1] using h) hv).1
  case h_2 t g lo n =>
    exact (view1_sound R hF (a := .sl t g lo n) (by simpa only [viewA1] using h) hv).1
  case h_4 =>
    simp only [Option.some.injEq, Prod.mk.injEq] at h
    obtain ⟨rfl, rfl⟩ := h
    exact hv
theorem show1_rowy {a y : AVal} {ts : List Nat} (h : showA1 σ a = some (y, ts)) : Rowy σ ts := by
  unfold showA1 at h
  split at h
  case h_3 => cases h
  case h_1 x xs => exact view1_rowy (a := .lst x xs) (by simpa only [viewA1] using h)
  case h_2 t g lo n => exact view1_rowy (a := .sl t g lo n) (by simpa only [viewA1] using h)
  case h_4 =>
    simp only [Option.some.injEq, Prod.mk.injEq] at h
    rw [← h.2]; intro t ht; simp at ht
theorem shows_rowy : ∀ {cs ys : List AVal} {ts : List Nat}, showsA σ cs = some (ys, ts) → Rowy σ ts
  | [], ys, ts, h => by simp only [showsA, Option.some.injEq, Prod.mk.injEq] at h; rw [← h.2]; intro t ht; simp at ht
  | c :: cs, ys, ts, h => by
    simp only [showsA] at h
    split at h
    · rename_i h1
      split at h
      · rename_i h2
        simp only [Option.some.injEq, Prod.mk.injEq] at h
        rw [← h.2]
        exact (show1_rowy h1).append (shows_rowy h2)
      · cases h
    · cases h
theorem show_rowy {a y : AVal} {ts : List Nat} (h : showA σ a = some (y, ts)) : Rowy σ ts := by
  unfold showA at h
  split at h
  · split at h
    · rename_i h1
      simp only [Option.some.injEq, Prod.mk.injEq] at h
      rw [← h.2]
      exact shows_rowy h1
    · cases h
  · exact show1_rowy h
theorem showAs_rowy : ∀ {cs ys : List AVal} {ts : List Nat}, showAs σ cs = some (ys, ts) → Rowy σ ts
  | [], ys, ts, h => by simp only [showAs, Option.some.injEq, Prod.mk.injEq] at h; rw [← h.2]; intro t ht; simp at ht
  | c :: cs, ys, ts, h => by
    simp only [showAs] at h
    split at h
    · rename_i h1
      split at h
      · rename_i h2
        simp only [Option.some.injEq, Prod.mk.injEq] at h
        rw [← h.2]
        exact (show_rowy h1).append (showAs_rowy h2)
      · cases h
    · cases h
theorem shows_sound (R : Rel base w0 I0 I β σ w) : ∀ {cs ys : List AVal} {ts : List Nat} {vs : List Value}, Frozen σ ts → showsA σ cs = some (ys, ts) → VRs I β cs vs → VRs I β ys vs
  | [], ys, ts, vs, _, h, hv => by
    simp only [showsA, Option.some.injEq, Prod.mk.injEq] at h
    rw [← h.1]; exact hv
  | c :: cs, ys, ts, vs, hF, h, hv => by
    simp only [showsA] at h
    simp only [VRs] at hv
    obtain ⟨v, vs', rfl, hv1, hv2⟩ := hv
    split at h
    · rename_i y ts1 h1
      split at h
      · rename_i ys1 us1 h2
        simp only [Option.some.injEq, Prod.mk.injEq] at h
        obtain ⟨rfl, rfl⟩ := h
        simp only [VRs]
        exact ⟨v, vs', rfl, show1_sound R hF.left h1 hv1, shows_sound R hF.right h2 hv2⟩
      · cases h
    · cases h
theorem show_sound (R : Rel base w0 I0 I β σ w) {a y : AVal} {ts : List Nat} {v : Value} (hF : Frozen σ ts) (h : showA σ a = some (y, ts)) (hv : VR I β a v) : VR I β y v := by
  unfold showA at h
  split at h
  · rename_i cs
    split at h
    · rename_i ys us h1
      simp only [Option.some.injEq, Prod.mk.injEq] at h
      obtain ⟨rfl, rfl⟩ := h
      simp only [VR] at hv ⊢
      obtain ⟨us', rfl, hv⟩ := hv
      exact ⟨us', rfl, shows_sound R hF h1 hv⟩
    · cases h
  · exact show1_sound R hF h hv
theorem showAs_sound (R : Rel base w0 I0 I β σ w) : ∀ {cs ys : List AVal} {ts : List Nat} {vs : List Value}, Frozen σ ts → showAs σ cs = some (ys, ts) → VRs I β cs vs → VRs I β ys vs
  | [], ys, ts, vs, _, h, hv => by
    simp only [showAs, Option.some.injEq, Prod.mk.injEq] at h
    rw [← h.1]; exact hv
  | c :: cs, ys, ts, vs, hF, h, hv => by
    simp only [showAs] at h
    simp only [VRs] at hv
    obtain ⟨v, vs', rfl, hv1, hv2⟩ := hv
    split at h
    · rename_i y ts1 h1
      split at h
      · rename_i ys1 us1 h2
        simp only [Option.some.injEq, Prod.mk.injEq] at h
        obtain ⟨rfl, rfl⟩ := h
        simp only [VRs]
        exact ⟨v, vs', rfl, show_sound R hF.left h1 hv1, showAs_sound R hF.right h2 hv2⟩
      · cases h
    · cases h
theorem Alike.show1 (h : Alike σ σ') (a : AVal) : showA1 σ' a = showA1 σ a := by
  cases a <;> simp only [showA1]
  rw [h]
theorem Alike.shows (h : Alike σ σ') : ∀ cs, showsA σ' cs = showsA σ cs
  | [] => rfl
  | c :: cs => by simp only [showsA, h.show1, h.shows cs]
theorem Alike.showA (h : Alike σ σ') (a : AVal) : showA σ' a = showA σ a := by
  cases a <;> simp only [YtaaflagbhneakaaDoor.showA, h.show1, h.shows]
theorem Alike.showAs (h : Alike σ σ') : ∀ cs, showAs σ' cs = showAs σ cs
  | [] => rfl
  | c :: cs => by
    have ih := h.showAs cs
    simp only [YtaaflagbhneakaaDoor.showAs, h.showA, ih]
end
end Go.Proofs.YtaaflagbhneakaaDoor
