/- The plain law: in whatever pieces bytes are fed, the same frames and the same code. -/
import Derived.Test.YtbndfejfhngeoaaAll
namespace Go.Proofs.Ytbndfejfhngeoaa
open Go.RowKit

theorem gv_app : ∀ (l c : List UInt8) (i acc : Nat), (gv i acc l).2.2 ≠ 11 → gv i acc (l ++ c) = gv i acc l
  | [], c, i, acc, h => by
    unfold gv at h
    split at h
    · simp at h
    · rename_i h4
      simp only [List.nil_append]
      cases c <;> simp [gv, h4]
  | x :: l, c, i, acc, h => by
    have ih := gv_app l c (i + 1) (acc + x.toNat % 128 * 2 ^ (7 * i))
    simp only [List.cons_append]
    unfold gv at h ⊢
    split
    · rename_i h4
      rw [if_pos h4] at h
      split
      · rfl
      · rename_i h5
        rw [if_neg h5] at h
        exact ih h
    · rfl
theorem frameS_app {most : Int} {h : List UInt8} (c : List UInt8) (hf : frameS most h ≠ .inl 0) : frameS most (h ++ c) = frameS most h := by
  by_cases hl : h.length < 2
  · simp [frameS, hl] at hf
  · obtain ⟨x, t, rfl⟩ : ∃ x t, h = x :: t := by cases h with | nil => simp at hl | cons x t => exact ⟨x, t, rfl⟩
    have hg : gv 0 0 (x :: t).tail = ((gv 0 0 t).1, (gv 0 0 t).2.1, (gv 0 0 t).2.2) := rfl
    rw [frameS_long (by omega) hg] at hf ⊢
    have he : (gv 0 0 t).2.2 ≠ 11 := by intro e; simp [e] at hf
    have hg2 : gv 0 0 ((x :: t) ++ c).tail = ((gv 0 0 t).1, (gv 0 0 t).2.1, (gv 0 0 t).2.2) := by
      show gv 0 0 (t ++ c) = _
      rw [gv_app t c 0 0 he]
    rw [frameS_long (by simp at hl ⊢; omega) hg2]
    rw [if_neg he] at hf ⊢
    rw [if_neg he]
    split
    · rfl
    · rename_i h1
      rw [if_neg h1] at hf
      split
      · rfl
      · rename_i h2
        rw [if_neg h2] at hf
        have h3 : ¬ (x :: t).length < 1 + (gv 0 0 t).2.1 + (gv 0 0 t).1 := by intro h3; rw [if_pos h3] at hf; exact hf rfl
        rw [if_neg h3, if_neg (by rw [List.length_append]; omega)]
        rw [List.take_append_of_le_length (by omega)]
        rfl
theorem feedS_nil (most : Int) : feedS most [] = ([], [], 0) := by simp [feedS, feedL, frameS]
/-- bytes that come behind -/
theorem feedS_app (most : Int) : ∀ (n : Nat) (h c : List UInt8), h.length ≤ n →
    feedS most (h ++ c) = if (feedS most h).2.2 = 0 then ((feedS most h).1 ++ (feedS most ((feedS most h).2.1 ++ c)).1, (feedS most ((feedS most h).2.1 ++ c)).2) else feedS most h := by
  intro n
  induction n with
  | zero =>
    intro h c hl
    obtain rfl : h = [] := List.eq_nil_of_length_eq_zero (by omega)
    rw [feedS_nil]; simp
  | succ n ih =>
    intro h c hl
    rcases hf : frameS most h with cd | ⟨x, b, k⟩
    · by_cases hc : cd = 0
      · subst hc
        rw [feedS_stop hf]; simp
      · have h1 := frameS_app (most := most) (h := h) c (by rw [hf]; intro e; injection e with e; exact hc e)
        rw [feedS_broken (h1.trans hf) hc, feedS_broken hf hc, if_neg hc]
    · have h1 := frameS_app (most := most) (h := h) c (by rw [hf]; simp)
      have hk := frameS_inr hf
      rw [feedS_step (h1.trans hf), feedS_step hf]
      have hd : (h ++ c).drop k = h.drop k ++ c := List.drop_append_of_le_length hk.2.1
      rw [hd, ih (h.drop k) c (by simp; omega)]
      simp only
      split <;> simp
/-- what is left says no more by itself -/
theorem feedS_idem (most : Int) : ∀ (n : Nat) (h : List UInt8), h.length ≤ n → (feedS most h).2.2 = 0 → feedS most (feedS most h).2.1 = ([], (feedS most h).2.1, 0) := by
  intro n
  induction n with
  | zero =>
    intro h hl _
    obtain rfl : h = [] := List.eq_nil_of_length_eq_zero (by omega)
    rw [feedS_nil]; exact feedS_nil most
  | succ n ih =>
    intro h hl h0
    rcases hf : frameS most h with cd | ⟨x, b, k⟩
    · by_cases hc : cd = 0
      · subst hc
        rw [feedS_stop hf]; exact feedS_stop hf
      · rw [feedS_broken hf hc] at h0; exact absurd h0 hc
    · have hk := frameS_inr hf
      rw [feedS_step hf] at h0 ⊢
      exact ih (h.drop k) (by simp; omega) h0
theorem feedS_broken_nil (most : Int) : ∀ (n : Nat) (h : List UInt8), h.length ≤ n → (feedS most h).2.2 ≠ 0 → (feedS most h).2.1 = [] := by
  intro n
  induction n with
  | zero =>
    intro h hl _
    obtain rfl : h = [] := List.eq_nil_of_length_eq_zero (by omega)
    rw [feedS_nil]
  | succ n ih =>
    intro h hl h0
    rcases hf : frameS most h with cd | ⟨x, b, k⟩
    · by_cases hc : cd = 0
      · subst hc
        rw [feedS_stop hf] at h0; simp at h0
      · rw [feedS_broken hf hc]
    · have hk := frameS_inr hf
      rw [feedS_step hf] at h0 ⊢
      exact ih (h.drop k) (by simp; omega) h0
theorem allS_broken (most : Int) (code : Nat) (hc : code ≠ 0) : ∀ (h : List UInt8) (ps : List (List UInt8)), allS most code h ps = ([], h, code)
  | h, [] => rfl
  | h, c :: cs => by simp [allS, feedC, hc, allS_broken most code hc h cs]
theorem allS_flat (most : Int) : ∀ (ps : List (List UInt8)) (h : List UInt8), feedS most h = ([], h, 0) → allS most 0 h ps = feedS most (h ++ ps.flatten)
  | [], h, hs => by simp [allS, hs]
  | c :: cs, h, hs => by
    have hfc : feedC most 0 h c = feedS most (h ++ c) := by simp [feedC]
    simp only [allS, hfc, List.flatten_cons]
    rw [← List.append_assoc, feedS_app most _ (h ++ c) cs.flatten (Nat.le_refl _)]
    by_cases h0 : (feedS most (h ++ c)).2.2 = 0
    · rw [if_pos h0, h0, allS_flat most cs _ (feedS_idem most _ (h ++ c) (Nat.le_refl _) h0)]
    · rw [if_neg h0, allS_broken most _ h0]
      simp
theorem allS_pieces (most : Int) (ps : List (List UInt8)) (b : List UInt8) (h : ps.flatten = b) : allS most 0 [] ps = allS most 0 [] [b] := by
  rw [allS_flat most ps [] (feedS_nil most), allS_flat most [b] [] (feedS_nil most)]; simp [h]
end Go.Proofs.Ytbndfejfhngeoaa
