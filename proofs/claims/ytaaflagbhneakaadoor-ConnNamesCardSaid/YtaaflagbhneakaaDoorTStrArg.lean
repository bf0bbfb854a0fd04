/- Arguments that are texts; the tables of unicode/utf8. -/
import Derived.Test.YtaaflagbhneakaaDoorPrimLib
import Derived.Test.YtaaflagbhneakaaDoorAbsOpen
import Derived.Lib.LaidU8T
import Derived.Test.YtaaflagbhneakaaDoorRows
import Derived.Deep.Slices
import Derived.Test.YtaaflagbhneakaaDoorLayValid
namespace Go.Proofs.YtaaflagbhneakaaDoor
set_option linter.unusedSimpArgs false
set_option linter.unusedVariables false
open Go.RowKit Go.Shelf Go.Lib
theorem str_of {x : AVal} (h : ArgC false .str x) : ∃ l : List UInt8, l.length ≤ 9223372036854775807 ∧ x = .str l := by
  obtain ⟨y, h, rfl⟩ := h
  simp only [TyC] at h
  obtain ⟨l, hl, rfl⟩ := h
  exact ⟨l, hl, rfl⟩
theorem gl_of_tabs {W : World} (h : Lib.Utf8Tabs 0 1 W) : Gl.le (Imm.of W) := by
  intro b o u hu
  unfold Gl at hu
  unfold Imm.of
  split at hu
  · rename_i e; subst e
    split at hu
    · rename_i ho
      rw [h.1 o ho, ← hu]
    · cases hu
  · split at hu
    · rename_i e; subst e
      split at hu
      · rename_i ho
        rw [← hu]
        obtain ⟨h1, h2⟩ := h.2 (o / 2) (by omega)
        by_cases hp : o % 2 = 0
        · rw [if_pos hp, ← h1]; congr 2; omega
        · rw [if_neg hp, ← h2]; congr 2; omega
      · cases hu
    · cases hu
theorem strs_of {x : AVal} (h : ArgC false (.slice false .str) x) : ∃ l : List (List UInt8), l.length ≤ 9223372036854775807 ∧ x = .lst false (l.map AVal.str) := by
  obtain ⟨y, h, rfl⟩ := h
  simp only [TyC] at h
  obtain ⟨ys, rfl, h1, h2⟩ := h
  have : ∀ ys : List (List AVal), (∀ y ∈ ys, TyC .str y) → ∃ l : List (List UInt8), ys.map (elemV false) = l.map AVal.str := by
    intro ys
    induction ys with
    | nil => intro _; exact ⟨[], rfl⟩
    | cons y ys ih =>
      intro hy
      have hy0 := hy y (by simp)
      simp only [TyC] at hy0
      obtain ⟨a, _, ha⟩ := hy0
      obtain ⟨l, hl⟩ := ih fun y' h' => hy y' (by simp [h'])
      exact ⟨a :: l, by simp [ha, hl, elemV]⟩
  obtain ⟨l, hl⟩ := this ys h2
  have hn := congrArg List.length hl
  simp only [List.length_map] at hn
  exact ⟨l, by omega, by simp [elemV, hl]⟩
theorem bool_of {x : AVal} (h : ArgC false .bool x) : ∃ b : Bool, x = .bool b := by
  obtain ⟨y, h, rfl⟩ := h
  simp only [TyC] at h
  obtain ⟨b, rfl⟩ := h
  exact ⟨b, rfl⟩
theorem int_of {x : AVal} (h : ArgC false (.int .i64) x) : ∃ n : Int, (-9223372036854775808 ≤ n ∧ n ≤ 9223372036854775807) ∧ x = .int .i64 n := by
  obtain ⟨y, h, rfl⟩ := h
  simp only [TyC] at h
  obtain ⟨n, hw, rfl⟩ := h
  refine ⟨n, ?_, rfl⟩
  simp only [Lit.wf, Bool.and_eq_true, decide_eq_true_eq] at hw
  exact hw
section
open Go.RowKit
variable {H : Type} {enc : TypeId × Value → H} {P : Program} {w : World} {spare : Nat → Bool} {held : Bool}
theorem bulk_mem {d : DataW H} {l : List (DataW H)} (h : d ∈ l) : Rows.uptoBulk d ≤ Rows.uptoBulkAll l := by
  induction l with
  | nil => cases h
  | cons x r ih =>
    simp only [Rows.uptoBulkAll]
    rcases List.mem_cons.1 h with rfl | h
    · omega
    · have := ih h; omega
theorem bulk_elem {d : DataW H} {l m : List (DataW H)} (h : d ∈ l) : Rows.uptoBulk d ≤ Rows.uptoBulk (.slice l m) := by
  have := bulk_mem h
  simp only [Rows.uptoBulk]; omega
theorem bulk_bound {d : DataW H} {l : List (DataW H)} (hb : Rows.uptoSmall H l = true) (h : d ∈ l) : Rows.uptoBulk d ≤ 1048576 := by
  have := bulk_mem h
  have h2 : Rows.uptoBulkAll l ≤ 1048576 := by simpa [Rows.uptoSmall] using hb
  omega
theorem str_le0 {fuel : Nat} {t : TypeId} {v : Value} {d : DataW H} {ps : List MemPlace} {l : List UInt8} {I : Imm} {β : Bmap} (hu : P.underlying t = some .string) (h : DataW.trod enc P w 0 spare held fuel t [v] = some (d, ps)) (hz : VR I β (.str l) v) : l.length ≤ Rows.uptoBulk d := by
  simp only [VR] at hz
  obtain ⟨rfl, _⟩ := hz
  obtain ⟨s, hs, hd, _⟩ := DataW.trod_string hu h
  injection hd with hd _
  subst hd
  injection hs with hs _
  injection hs with hs
  subst hs
  simp [Rows.uptoBulk]
theorem str_le {t : TypeId} {v : Value} {d : DataW H} {ps : List MemPlace} {l : List UInt8} {I : Imm} {β : Bmap} (hu : P.underlying t = some .string) (h : DataW.Trod enc P w 0 spare held t v d ps) (hz : VR I β (.str l) v) : l.length ≤ Rows.uptoBulk d := by
  obtain ⟨fuel, h⟩ := h
  have hv : v.cells.toList = [v] := by
    simp only [VR] at hz
    obtain ⟨rfl, _⟩ := hz
    rfl
  rw [hv] at h
  exact str_le0 hu h hz
theorem strs_le {t e : TypeId} {v : Value} {d : DataW H} {ps : List MemPlace} {b : Bool} {l : List (List UInt8)} (hu : P.underlying t = some (.slice e)) (he : P.underlying e = some .string) (hc : P.cellsOf e = 1) (h : DataW.Trod enc P w 0 spare held t v d ps)
    (hz : VR (Imm.of w) B0 (.lst b (l.map AVal.str)) v) : ∀ x ∈ l, x.length ≤ Rows.uptoBulk d := by
  obtain ⟨fuel, h⟩ := h
  simp only [VR] at hz
  obtain ⟨A, cap, rfl, hl, hcap, _, hr, _⟩ := hz
  have hcs : (Value.slice A (l.map AVal.str).length cap).cells.toList = [Value.slice A (l.map AVal.str).length cap] := rfl
  intro x hx
  rcases Go.Deep.open_slice1 hu hc h with ⟨h1, _⟩ | ⟨a, len, cap', m, n, V, D, Pl, h1, _, h2, _, h3, h4, h5⟩
  · rw [hcs] at h1
    injection h1 with h1 _
    injection h1 with _ h1 _
    simp only [List.length_map, List.length_eq_zero_iff] at h1
    subst h1; cases hx
  · rw [hcs] at h1
    injection h1 with h1 _
    injection h1 with hA hlen hcap'
    subst hA
    rcases hr with hr | ⟨bb, off, k, hA, hk, hr⟩
    · simp only [List.map_eq_nil_iff] at hr; subst hr; cases hx
    · injection hA with hA
      obtain ⟨i, hi⟩ := List.getElem?_of_mem hx
      have hil : i < l.length := by
        rcases Nat.lt_or_ge i l.length with h | h
        · exact h
        · rw [List.getElem?_eq_none h] at hi; cases hi
      obtain ⟨g1, g2⟩ := LR_at hr (i := i) (x := .str x) (by simp [hi])
      have hk1 : k = 1 := by simpa [AVal.cells] using g1.symm
      subst hk1
      simp only [AVal.cells, CR, Nat.mul_one] at g2
      obtain ⟨⟨u, g3, g4⟩, _⟩ := g2
      simp only [List.length_map] at hlen
      have him : i < m := by split at h3 <;> omega
      obtain ⟨f1, f2⟩ := h5 i him
      have hVu : V i = u := by
        have e : a.add i = ⟨bb, off + i, none⟩ := by rw [addr_at (by rw [hA])]; rw [hA]
        rw [e] at f1
        unfold Imm.of at g3
        rw [f1] at g3
        exact Option.some.inj g3
      subst hVu
      have := str_le0 he f2 g4
      injection h4 with h4 _
      refine Nat.le_trans this ?_
      rw [h4]
      exact bulk_elem (List.mem_map.2 ⟨i, List.mem_range.2 (by omega), rfl⟩)
end
end Go.Proofs.YtaaflagbhneakaaDoor
