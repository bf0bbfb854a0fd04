/- The law's wakes. -/
import Derived.Test.YtbndfejfhngeoaaSame
namespace Go.Proofs.Ytbndfejfhngeoaa
open Go.RowKit

/-- All's answer, read -/
theorem AllPost.read {fs : List (UInt8 × List UInt8)} {code : Nat} {w w' : World} {e : Ending} (h : AllPost fs code w e w') :
    ∃ Ao co, e = .returned (.tuple #[.slice Ao fs.length co, .int .i64 (code : Nat)]) ∧ FrRead w' Ao fs ∧ Below w.heap.size w w' := by
  obtain ⟨Ao, no, co, bs, rfl, ho, hb, hbel⟩ := h
  have h1 := ho.1
  rw [frCells_length fs bs (by simpa using hb.1.symm)] at h1
  obtain rfl : fs.length = no := by omega
  exact ⟨Ao, co, rfl, ⟨bs, Row.of_own ho, hb.parts⟩, hbel⟩

theorem wake1 : (allS 100 0 [] [[192], [0, 48, 3, 0], [1, 97]]) = ([(192, []), (48, [0, 1, 97])], [], 0) := by decide
theorem wake2 : (allS 4 0 [] [[48, 3]]) = ([], [], 149) := by decide

theorem run_num (c : Int) (w : World) : Calls Try.prog 17 #[.int .i64 c] w fun e w' => e = .returned (.int .i64 c) ∧ w = w' := by
  go_enter Try.func17, Try.ntmps17
  go_wp2
  go_ret
  exact ⟨rfl, rfl⟩

set_option maxRecDepth 100000 in
set_option maxHeartbeats 1000000 in
theorem wakes (w : World) : Calls Try.prog 11 #[] w fun e w' => e = .returned (.bool true) ∧ Below w.heap.size w w' := by
  go_enter Try.func11, Try.ntmps11
  go_wp2_with fail
  refine (all _ _ 100 [.slice (some ⟨w.heap.size, 0, none⟩) 1 1, .slice (some ⟨w.heap.size + 1, 0, none⟩) 4 4, .slice (some ⟨w.heap.size + 1 + 1, 0, none⟩) 2 2] [[192], [0, 48, 3, 0], [1, 97]] _ (Row.newAt (by simp) rfl)
    ⟨⟨_, _, rfl, by decide, by decide, (((Row.newAt rfl rfl).alloc _).alloc _).alloc _⟩, ⟨_, _, rfl, by decide, by decide, ((Row.newAt (by simp) rfl).alloc _).alloc _⟩, ⟨_, _, rfl, by decide, by decide, (Row.newAt (by simp) rfl).alloc _⟩, trivial⟩ (by decide) (by simp)).mono ?_
  intro e w1 hp
  obtain ⟨Ao, co, rfl, hfr, hbel⟩ := hp.read
  rw [wake1] at *
  simp only at hfr hbel ⊢
  have hB : Below w.heap.size w w1 := (((((Below.refl _ w).alloc (Nat.le_refl _) _).alloc (by simp) _).alloc (by simp; omega) _).alloc (by simp; omega) _).trans (hbel.mono (by simp; omega))
  clear hbel hp
  obtain ⟨b, off, A0, c0, rfl, q1, _, _⟩ := hfr.at' (k := 0) (by decide)
  obtain ⟨b', off', A1, c1, e1, _, q2, r2⟩ := hfr.at' (k := 1) (by decide)
  injection e1 with e1; injection e1 with e1 e2; subst e1 e2
  simp at q1 q2 r2
  have hB2 := Lib.hid hB
  have hfr2 := Lib.hid hfr
  clear hB hfr
  go_wp2_with fail
  refine (all _ _ 4 [.slice (some ⟨w1.heap.size, 0, none⟩) 2 2] [[48, 3]] _ (Row.newAt (by simp) rfl) ⟨⟨_, _, rfl, by decide, by decide, (Row.newAt rfl rfl).alloc _⟩, trivial⟩ (by decide) (by simp)).mono ?_
  intro e w2 hp
  obtain ⟨Ao, co', rfl, hfr3, hbel⟩ := hp.read
  rw [wake2] at *
  simp only at hfr3 hbel ⊢
  have hB3 : Below w1.heap.size w1 w2 := (((Below.refl _ w1).alloc (Nat.le_refl _) _).alloc (by simp) _).trans (hbel.mono (by simp; omega))
  clear hbel hp hfr3
  have q1' := cell_below hB3 q1
  have q2' := cell_below hB3 q2
  have hcv := run_str (P := Try.prog) (w := w2) (cap := c1) Try.underlying22 Try.underlying5 Try.underlying9 (r2.below hB3)
  simp only [List.length_cons, List.length_nil] at hcv
  have HB3 := Lib.hid hB3
  clear hB3 q1 q2
  go_wp2_with (go_at_call 17; refine (run_num _ _).mono ?_; rintro e w' ⟨rfl, rfl⟩)
  go_ret
  exact ⟨rfl, hB2.out.trans (HB3.out.mono hB2.out.size)⟩
end Go.Proofs.Ytbndfejfhngeoaa
