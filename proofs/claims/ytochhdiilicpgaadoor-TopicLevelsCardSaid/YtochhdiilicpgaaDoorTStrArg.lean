/- Arguments that are texts; the tables of unicode/utf8. -/
import Derived.Test.YtochhdiilicpgaaDoorPrimLib
import Derived.Test.YtochhdiilicpgaaDoorAbsOpen
import Derived.Lib.LaidU8T
import Derived.Test.YtochhdiilicpgaaDoorLayValid
namespace Go.Proofs.YtochhdiilicpgaaDoor
set_option linter.unusedSimpArgs false
set_option linter.unusedVariables false
open Go.RowKit Go.Shelf Go.Lib
theorem str_of {x : AVal} (h : ArgC false .str x) : ∃ l : List UInt8, l.length ≤ 9223372036854775807 ∧ x = .str l := by
  obtain ⟨y, h, rfl⟩ := h
  simp only [TyC] at h
  obtain ⟨l, hl, rfl⟩ := h
  exact ⟨l, hl, rfl⟩
theorem gl_of_tabs {W : World} (h : Lib.Utf8Tabs 0 1 W) : Gl.le (Imm.of W) := by
  intro b o u hu
  unfold Gl at hu
  unfold Imm.of
  split at hu
  · rename_i e; subst e
    split at hu
    · rename_i ho
      rw [h.1 o ho, ← hu]
    · cases hu
  · split at hu
    · rename_i e; subst e
      split at hu
      · rename_i ho
        rw [← hu]
        obtain ⟨h1, h2⟩ := h.2 (o / 2) (by omega)
        by_cases hp : o % 2 = 0
        · rw [if_pos hp, ← h1]; congr 2; omega
        · rw [if_neg hp, ← h2]; congr 2; omega
      · cases hu
    · cases hu
end Go.Proofs.YtochhdiilicpgaaDoor
