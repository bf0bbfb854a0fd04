/- A slice of frames that came in. -/
import Derived.Test.YtbndfejfhngeoaaOpen
import Derived.Test.YtbndfejfhngeoaaSame
namespace Go.Proofs.Ytbndfejfhngeoaa
open Go.RowKit Go.ChangeShapes Go.WideShapes Go.Deep

section
variable {H : Type} {enc : TypeId × Value → H} {w : World} {base : Nat} {spare : Nat → Bool} {held : Bool}
theorem trod_frame {fuel : Nat} {cs : List Value} {x : DataW H × List MemPlace} (h : DataW.trod enc Try.prog w base spare held fuel 54 cs = some x) : ∃ (c : UInt8) (v : Value) (l : List UInt8), cs = [bV c, v] ∧ SlB w v l := by
  obtain ⟨y0, y1, n, _, hl, h0, h1⟩ := trod_struct2 Try.underlying54 h
  have hc : Try.prog.cellsOf 54 = 2 := by kernel_rfl
  have hc1 : Try.prog.cellsOf 5 = 1 := by kernel_rfl
  have hc2 : Try.prog.cellsOf 22 = 1 := by kernel_rfl
  rw [hc] at hl
  match cs, hl with
  | [a, b], _ =>
    simp only [hc1, hc2] at h0 h1
    obtain ⟨z, e, _, hz⟩ := DataW.trod_int Try.underlying5 h0
    obtain ⟨l, hl'⟩ := trod_bytes (v := b) Try.underlying22 Try.underlying5 hc1 h1
    simp at e
    subst e
    exact ⟨UInt8.ofNat z.toNat, b, l, by simp only [bV, u8_of_wf hz], hl'⟩
theorem frames_of : ∀ (n : Nat) (C : Nat → List Value), (∀ i, i < n → ∃ (c : UInt8) (v : Value) (l : List UInt8), C i = [bV c, v] ∧ SlB w v l) →
    ∃ (fs : List (UInt8 × List UInt8)) (bs : List Value), fs.length = n ∧ Parts w bs (fs.map (·.2)) ∧ frCells fs bs = ((List.range n).map C).flatten
  | 0, _, _ => ⟨[], [], rfl, trivial, by simp [frCells]⟩
  | n + 1, C, h => by
    obtain ⟨c, v, l, e, hs⟩ := h 0 (by omega)
    obtain ⟨fs, bs, h1, h2, h3⟩ := frames_of n (fun i => C (i + 1)) (fun i hi => h (i + 1) (by omega))
    refine ⟨(c, l) :: fs, v :: bs, by simp [h1], ⟨hs, h2⟩, ?_⟩
    rw [List.range_succ_eq_map]
    simp only [frCells, List.map_cons, List.flatten_cons, List.map_map, e, h3]
    rfl
theorem trod_frames {fuel : Nat} {v : Value} {x : DataW H × List MemPlace} (h : DataW.trod enc Try.prog w base spare held fuel 25 [v] = some x) :
    ∃ (A : Option Addr) (cap : Nat) (fs : List (UInt8 × List UInt8)), v = .slice A fs.length cap ∧ fs.length ≤ cap ∧ cap ≤ maxLen ∧ FrRead w A fs := by
  have hc : Try.prog.cellsOf 54 = 2 := by kernel_rfl
  rcases open_slice Try.underlying25 h with ⟨hcs, _⟩ | ⟨a, len, cap, m, n, D, Pl, hcs, _, hl, hm, hmm, _, hi⟩
  · simp at hcs
    exact ⟨none, 0, [], hcs, Nat.le_refl _, Nat.zero_le _, [], Or.inl rfl, trivial⟩
  · simp at hcs
    rw [hc] at hi
    have hlm : len ≤ m := by split at hmm <;> omega
    have hC : ∃ C : Nat → List Value, ∀ i, i < len → w.cells? base (a.add (i * 2)) 2 = some (C i) ∧ ∃ (c : UInt8) (v : Value) (l : List UInt8), C i = [bV c, v] ∧ SlB w v l := by
      refine ⟨fun i => (w.cells? base (a.add (i * 2)) 2).getD [], fun i hlt => ?_⟩
      obtain ⟨cs', h1, h2⟩ := hi i (by omega)
      have h3 := trod_frame h2
      simp only [h1, Option.getD_some]
      exact ⟨trivial, h3⟩
    obtain ⟨C, hC⟩ := hC
    obtain ⟨fs, bs, h1, h2, h3⟩ := frames_of (w := w) len C (fun i hlt => (hC i hlt).2)
    refine ⟨some a, cap, fs, by rw [h1]; exact hcs, by rw [h1]; exact hl, hm, bs, ?_, h2⟩
    refine row_of_cells fun i u hu => ?_
    have hlb : fs.length = bs.length := by simpa using h2.length.symm
    have hil : i < len * 2 := by
      have := (List.getElem?_eq_some_iff.1 hu).1
      rw [frCells_length fs bs hlb, h1] at this
      exact this
    have hk : i / 2 < len := by omega
    obtain ⟨q1, q2⟩ := frCells_at fs bs (i / 2) (by omega) (by omega)
    obtain ⟨c1, c, v', l, e, _⟩ := hC (i / 2) hk
    obtain ⟨_, _, hat⟩ := World.cells?_some c1
    have hfl : frCells fs bs = ((List.range len).map C).flatten := h3
    -- the cells of the i/2-th element
    have hel : ∀ j, j < 2 → (frCells fs bs)[i / 2 * 2 + j]? = (C (i / 2))[j]? := by
      intro j hj
      rw [hfl]
      exact flatten_at len C (fun i hi => by obtain ⟨_, _, _, _, e, _⟩ := hC i hi; rw [e]; rfl) (i / 2) j hk hj
    have hii : i = i / 2 * 2 + i % 2 := by omega
    have h4 := hel (i % 2) (by omega)
    rw [← hii, hu] at h4
    have h5 := hat (i % 2) (by omega)
    rw [Go.Deep.add_add, ← hii] at h5
    rw [h5, ← h4]
where
  flatten_at (n : Nat) (C : Nat → List Value) (h : ∀ i, i < n → (C i).length = 2) (k j : Nat) (hk : k < n) (hj : j < 2) : ((List.range n).map C).flatten[k * 2 + j]? = (C k)[j]? := by
    induction n generalizing C k with
    | zero => omega
    | succ n ih =>
      rw [List.range_succ_eq_map]
      simp only [List.map_cons, List.flatten_cons, List.map_map]
      have h0 := h 0 (by omega)
      cases k with
      | zero => rw [List.getElem?_append_left (by omega)]; simp
      | succ k =>
        rw [List.getElem?_append_right (by omega), h0, show (k + 1) * 2 + j - 2 = k * 2 + j by omega]
        exact ih (fun i => C (i + 1)) (fun i hi => h (i + 1) (by omega)) k (by omega)
end
end Go.Proofs.Ytbndfejfhngeoaa
