/- tidingskeep: Cut, Within. -/
import Derived.Test.YtbndfejfhngeoaaProg
import Derived.Test.YtbndfejfhngeoaaStr
namespace Go.Proofs.Ytbndfejfhngeoaa
open Go.RowKit
set_option maxHeartbeats 400000 in
theorem run_cut (A : Option Addr) (len cap n : Nat) (w : World) (hc : len ≤ cap) (hm : cap ≤ 9223372036854775807) (hn : n ≤ 9223372036854775807) :
    Calls Try.prog 7 #[.slice A len cap, .int .i64 (n : Int)] w fun e w' => e = .returned (.slice A (min len n) cap) ∧ w = w' := by
  by_cases h : n < len
  · rw [show min len n = n by omega]
    go_enter Try.func7, Try.ntmps7
    go_wp2
    go_ret
    exact ⟨rfl, rfl⟩
  · rw [show min len n = len by omega]
    go_enter Try.func7, Try.ntmps7
    go_wp2
    go_ret
    exact ⟨rfl, rfl⟩
theorem run_cutB (A : Option Addr) (l : List UInt8) (cap n : Nat) (w : World) (hc : l.length ≤ cap) (hm : cap ≤ maxLen) (hn : n ≤ 9223372036854775807) :
    Calls Try.prog 7 #[.slice A l.length cap, .int .i64 (n : Int)] w fun e w' => e = .returned (.slice A (l.take n).length cap) ∧ w = w' := by
  have := run_cut A l.length cap n w hc (by simp only [maxLen] at hm; omega) hn
  rwa [show (l.take n).length = min l.length n by rw [List.length_take, Nat.min_comm]]
theorem bVs_take (l : List UInt8) (n : Nat) : bVs (l.take n) = (bVs l).take n := by simp [bVs]
theorem bVs_drop (l : List UInt8) (n : Nat) : bVs (l.drop n) = (bVs l).drop n := by simp [bVs]
theorem ret_int {k : IntKind} {a b : Int} (h : a = b) : Ending.returned (.int k a) = .returned (.int k b) := by rw [h]
set_option maxHeartbeats 400000 in
theorem run_within (n lo hi : Int) (w : World) (h0 : 0 ≤ lo) (h1 : lo ≤ hi) (h2 : hi ≤ 4611686018427387904) (hn1 : -9223372036854775808 ≤ n) (hn2 : n ≤ 9223372036854775807) :
    Calls Try.prog 9 #[.int .i64 n, .int .i64 lo, .int .i64 hi] w fun e w' => e = .returned (.int .i64 (lo + n % (hi - lo + 1))) ∧ w = w' := by
  have hp : 0 < hi - lo + 1 := by omega
  have e1 := Int.emod_nonneg n (show hi - lo + 1 ≠ 0 by omega)
  have e2 := Int.emod_lt_of_pos n hp
  by_cases hneg : 0 ≤ n
  · go_enter Try.func9, Try.ntmps9
    go_wp2
    go_ret
    exact ⟨rfl, rfl⟩
  · have t1 := Int.tmod_eq_emod (a := n) (b := hi - lo + 1)
    by_cases hd : (hi - lo + 1) ∣ n
    · have t2 : n.tmod (hi - lo + 1) = 0 := Int.tmod_eq_zero_of_dvd hd
      have t3 := Lib.hid (Int.emod_eq_zero_of_dvd hd)
      clear t1 hd
      go_enter Try.func9, Try.ntmps9
      go_wp2
      go_ret
      exact ⟨ret_int (by rw [t3.out]; omega), rfl⟩
    · rw [if_neg (fun h => h.elim (fun h => hneg h) hd)] at t1
      have t2 : n.tmod (hi - lo + 1) < 0 := by omega
      have t4 : n.tmod (hi - lo + 1) + (hi - lo + 1) = n % (hi - lo + 1) := by omega
      have T4 := Lib.hid t4
      have t5 : -(hi - lo + 1) < n.tmod (hi - lo + 1) := by omega
      clear t1 t4 hd
      go_enter Try.func9, Try.ntmps9
      go_wp2
      go_ret
      exact ⟨ret_int (by rw [← T4.out]), rfl⟩
theorem run_within0 (n : Int) (m : Nat) (w : World) (h2 : m ≤ 4611686018427387904) (hn1 : -9223372036854775808 ≤ n) (hn2 : n ≤ 9223372036854775807) :
    Calls Try.prog 9 #[.int .i64 n, .int .i64 0, .int .i64 (m : Int)] w fun e w' => ∃ k : Nat, e = .returned (.int .i64 (k : Int)) ∧ k ≤ m ∧ w = w' := by
  refine (run_within n 0 m w (by omega) (by omega) (by omega) hn1 hn2).mono ?_
  rintro e w' ⟨rfl, rfl⟩
  have e1 := Int.emod_nonneg n (show (m : Int) - 0 + 1 ≠ 0 by omega)
  have e2 := Int.emod_lt_of_pos n (show 0 < (m : Int) - 0 + 1 by omega)
  exact ⟨(n % ((m : Int) - 0 + 1)).toNat, ret_int (by omega), by omega, rfl⟩
theorem bel_drewN {B : Nat} {a w : World} (h : Below B a w) (n : Nat) : Below B a (w.drewN n) := ⟨h.os, h.tape, h.output, h.size, h.block⟩
/-- a row, cut from behind its k-th cell on -/
theorem Row.cut_eq {w : World} {A : Option Addr} {xs : List Value} {cap k : Nat} (hc : xs.length ≤ cap) (e : cap = k) : Row w A (xs.drop k) := Or.inl (by simp; omega)
theorem Row.cut_ne {w : World} {A : Option Addr} {xs : List Value} (h : Row w A xs) (k : Nat) : Row w (A.map (·.add k)) (xs.drop k) := by
  rcases h with h | ⟨b, off, rfl, h⟩
  · subst h; exact Or.inl (by simp)
  · have := Row.drop (Or.inr ⟨b, off, rfl, h⟩) k
    simpa [Addr.add_lit] using this
theorem bounds64 {n : Int} (h : (Lit.int .i64 n).wf = true) : -9223372036854775808 ≤ n ∧ n ≤ 9223372036854775807 := by
  simp [Lit.wf, IntKind.min, IntKind.max, IntKind.signed, IntKind.bits] at h
  omega
end Go.Proofs.Ytbndfejfhngeoaa
