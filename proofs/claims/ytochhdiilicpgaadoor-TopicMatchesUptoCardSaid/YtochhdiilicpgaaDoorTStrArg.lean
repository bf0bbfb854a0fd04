/- Arguments that are texts; the tables of unicode/utf8. -/
import Derived.Test.YtochhdiilicpgaaDoorPrimLib
import Derived.Test.YtochhdiilicpgaaDoorAbsOpen
import Derived.Lib.LaidU8T
import Derived.Test.YtochhdiilicpgaaDoorLayValid
namespace Go.Proofs.YtochhdiilicpgaaDoor
set_option linter.unusedSimpArgs false
set_option linter.unusedVariables false
open Go.RowKit Go.Shelf Go.Lib
theorem str_of {x : AVal} (h : ArgC false .str x) : ∃ l : List UInt8, l.length ≤ 9223372036854775807 ∧ x = .str l := by
  obtain ⟨y, h, rfl⟩ := h
  simp only [TyC] at h
  obtain ⟨l, hl, rfl⟩ := h
  exact ⟨l, hl, rfl⟩
theorem gl_of_tabs {W : World} (h : Lib.Utf8Tabs 0 1 W) : Gl.le (Imm.of W) := by
  intro b o u hu
  unfold Gl at hu
  unfold Imm.of
  split at hu
  · rename_i e; subst e
    split at hu
    · rename_i ho
      rw [h.1 o ho, ← hu]
    · cases hu
  · split at hu
    · rename_i e; subst e
      split at hu
      · rename_i ho
        rw [← hu]
        obtain ⟨h1, h2⟩ := h.2 (o / 2) (by omega)
        by_cases hp : o % 2 = 0
        · rw [if_pos hp, ← h1]; congr 2; omega
        · rw [if_neg hp, ← h2]; congr 2; omega
      · cases hu
    · cases hu
theorem strs_of {x : AVal} (h : ArgC false (.slice false .str) x) : ∃ l : List (List UInt8), l.length ≤ 9223372036854775807 ∧ x = .lst false (l.map AVal.str) := by
  obtain ⟨y, h, rfl⟩ := h
  simp only [TyC] at h
  obtain ⟨ys, rfl, h1, h2⟩ := h
  have : ∀ ys : List (List AVal), (∀ y ∈ ys, TyC .str y) → ∃ l : List (List UInt8), ys.map (elemV false) = l.map AVal.str := by
    intro ys
    induction ys with
    | nil => intro _; exact ⟨[], rfl⟩
    | cons y ys ih =>
      intro hy
      have hy0 := hy y (by simp)
      simp only [TyC] at hy0
      obtain ⟨a, _, ha⟩ := hy0
      obtain ⟨l, hl⟩ := ih fun y' h' => hy y' (by simp [h'])
      exact ⟨a :: l, by simp [ha, hl, elemV]⟩
  obtain ⟨l, hl⟩ := this ys h2
  have hn := congrArg List.length hl
  simp only [List.length_map] at hn
  exact ⟨l, by omega, by simp [elemV, hl]⟩
theorem int_of {x : AVal} (h : ArgC false (.int .i64) x) : ∃ n : Int, (-9223372036854775808 ≤ n ∧ n ≤ 9223372036854775807) ∧ x = .int .i64 n := by
  obtain ⟨y, h, rfl⟩ := h
  simp only [TyC] at h
  obtain ⟨n, hw, rfl⟩ := h
  refine ⟨n, ?_, rfl⟩
  simp only [Lit.wf, Bool.and_eq_true, decide_eq_true_eq] at hw
  exact hw
end Go.Proofs.YtochhdiilicpgaaDoor
