/- What feeding comes to, in plain lists. -/
import Derived.Test.YtbndfejfhngeoaaFrame
namespace Go.Proofs.Ytbndfejfhngeoaa
open Go.RowKit

/-- the frames at the head of bytes, what is left, the code -/
def feedL (most : Int) : Nat → List UInt8 → List (UInt8 × List UInt8) × List UInt8 × Nat
  | 0, h => ([], h, 0)
  | f + 1, h => match frameS most h with
    | .inl c => if c = 0 then ([], h, 0) else ([], [], c)
    | .inr (x, b, n) => ((x, b) :: (feedL most f (h.drop n)).1, (feedL most f (h.drop n)).2)
def feedS (most : Int) (h : List UInt8) : List (UInt8 × List UInt8) × List UInt8 × Nat := feedL most (h.length + 1) h

theorem frameS_inr {most : Int} {h : List UInt8} {x : UInt8} {b : List UInt8} {n : Nat} (hf : frameS most h = .inr (x, b, n)) : 2 ≤ n ∧ n ≤ h.length ∧ (n : Int) ≤ most ∧ 2 + b.length ≤ n := by
  by_cases hl : h.length < 2
  · simp [frameS, hl] at hf
  · have hg : gv 0 0 h.tail = ((gv 0 0 h.tail).1, (gv 0 0 h.tail).2.1, (gv 0 0 h.tail).2.2) := rfl
    rw [frameS_long (by omega) hg] at hf
    have hb := gv_bound h.tail 0 0 (by omega) (by simp)
    split at hf
    · cases hf
    · split at hf
      · cases hf
      · split at hf
        · cases hf
        · split at hf
          · cases hf
          · rename_i h1 h2 h3 h4
            simp only [ne_eq, Decidable.not_not] at h2
            have h5 := hb.2.2.2 h2
            injection hf with hf
            simp only [Prod.mk.injEq] at hf
            obtain ⟨hx, hbb, hn⟩ := hf
            subst hbb hn
            simp only [List.length_drop, List.length_take]
            omega
theorem feedL_fuel (most : Int) : ∀ (f g : Nat) (h : List UInt8), h.length < f → h.length < g → feedL most f h = feedL most g h
  | 0, _, _, hf, _ => by omega
  | _, 0, _, _, hg => by omega
  | f + 1, g + 1, h, hf, hg => by
    unfold feedL
    rcases hfs : frameS most h with c | ⟨x, b, n⟩
    · rfl
    · have hn := frameS_inr hfs
      have := feedL_fuel most f g (h.drop n) (by simp; omega) (by simp; omega)
      simp only [this]
theorem feedS_stop {most : Int} {h : List UInt8} (hf : frameS most h = .inl 0) : feedS most h = ([], h, 0) := by simp [feedS, feedL, hf]
theorem feedS_broken {most : Int} {h : List UInt8} {c : Nat} (hf : frameS most h = .inl c) (hc : c ≠ 0) : feedS most h = ([], [], c) := by simp [feedS, feedL, hf, hc]
theorem feedS_step {most : Int} {h : List UInt8} {x : UInt8} {b : List UInt8} {n : Nat} (hf : frameS most h = .inr (x, b, n)) :
    feedS most h = ((x, b) :: (feedS most (h.drop n)).1, (feedS most (h.drop n)).2) := by
  have hn := frameS_inr hf
  have := feedL_fuel most h.length ((h.drop n).length + 1) (h.drop n) (by simp; omega) (by simp)
  unfold feedS
  rw [← this]
  conv => lhs; unfold feedL
  simp only [hf]
theorem frameS_code {most : Int} {h : List UInt8} {c : Nat} (hf : frameS most h = .inl c) : c = 0 ∨ c = 129 ∨ c = 149 := by
  unfold frameS at hf
  split at hf
  · injection hf with hf; omega
  · split at hf
    · injection hf with hf; omega
    · split at hf
      · injection hf with hf; omega
      · split at hf
        · injection hf with hf; omega
        · split at hf
          · injection hf with hf; omega
          · cases hf
/-- feeding a Framer that may be broken -/
def feedC (most : Int) (code : Nat) (h chunk : List UInt8) : List (UInt8 × List UInt8) × List UInt8 × Nat :=
  if code = 0 then feedS most (h ++ chunk) else ([], h, code)
end Go.Proofs.Ytbndfejfhngeoaa
