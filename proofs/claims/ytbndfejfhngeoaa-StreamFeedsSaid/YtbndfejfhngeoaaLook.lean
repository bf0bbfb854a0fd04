/- tidingskeep.Book: Look, of bytes that still say what they said. -/
import Derived.Test.YtbndfejfhngeoaaBook
import Derived.Deep.QuietTactic
import Derived.BigQuiet
namespace Go.Proofs.Ytbndfejfhngeoaa
open Go.RowKit

theorem ksame' (A B : Option Addr) (ca cb : Nat) (l : List UInt8) (w : World) (ha : Row w A (bVs l)) (hb : Row w B (bVs l)) :
    Calls Try.prog 27 #[.slice A l.length ca, .slice B l.length cb] w fun e w' => e = .returned (.bool true) ∧ w' = w :=
  (ksame A B ca cb l w ha hb).mono fun _ _ h => ⟨h.1, h.2.symm⟩
theorem quiet_add_s {P : Program} {f : FuncId} {args : Array Value} {w : World} {a n : Nat} {v : Value} (h : Calls P f args (w.drewN (a + n)) fun e w' => e = .returned v ∧ w' = w.drewN (a + n)) :
    Calls P f args (w.drewN (a + n)) fun e w'' => e = .returned v ∧ ∃ m, w'' = w.drewN (a + m) := h.mono fun _ _ ⟨he, hm⟩ => ⟨he, n, hm⟩
theorem BookB.drewN {w : World} {base kb : Nat} {bs ss : List Value} {ls : List (List UInt8)} (h : BookB w base kb bs ss ls) (n : Nat) : BookB (w.drewN n) base kb bs ss ls :=
  h.kept (S := fun _ => False) ((Kept.refl _ w).drewN n) (fun _ _ _ _ => id) (fun _ _ _ _ => id) (fun _ _ _ _ _ => id) (fun _ _ _ _ _ => id)

set_option maxRecDepth 100000 in
set_option maxHeartbeats 1000000 in
theorem klook (base kb : Nat) (bs ss : List Value) (ls : List (List UInt8)) (w : World) (hB : BookB w base kb bs ss ls) :
    Calls Try.prog 29 #[.pointer (some ⟨kb, 0, none⟩)] w fun e w' => e = .returned (.bool true) ∧ ∃ n, w' = w.drewN n := by
  obtain ⟨A1, A2, c1, c2, hb, hkb, o1, o2, hap, b1, b2, hx, hn⟩ := hB
  have q0 := hb.cell 0
  have q1 := hb.cell 1
  have q2 := hb.cell 2
  have q4 := hb.cell 4
  simp at q0 q1 q2 q4
  have hss : ss.length = bs.length := by rw [b2.1, ← b1.1]
  have hl1 := b1.1
  have p1 := b1.parts
  have p2 := b2.parts
  have r1 := Row.of_own o1
  have r2 := Row.of_own o2
  have Hss := Lib.hid hss
  have Hl1 := Lib.hid hl1
  clear hap hx hss hl1 b1 b2 o1 o2
  go_enter Try.func29, Try.ntmps29
  go_wp2
  go_loopw [3] (fun i wr => ∃ k nq : Nat, k ≤ bs.length ∧ i = .int .i64 (k : Int) ∧ wr = w.drewN nq) (fun i _ => bs.length - (intOf i).toNat)
  case atStart => exact ⟨0, 0, by omega, rfl, rfl⟩
  case round =>
    obtain ⟨k, nq, hk, rfl, rfl⟩ := hrel
    by_cases hlt : k < bs.length
    · have hlt2 : k < ss.length := by rw [Hss.out]; exact hlt
      obtain ⟨b, off, rfl, h1⟩ := r1.at' hlt
      obtain ⟨b', off', rfl, h2⟩ := r2.at' hlt2
      obtain ⟨p, hp, A3, c3, hv3, _, _, r3⟩ := p1.at' hlt
      obtain ⟨p', hp', A4, c4, hv4, _, _, r4⟩ := p2.at' hlt2
      rw [hp] at hp'
      injection hp' with hp'
      subst hp'
      rw [hv3] at h1
      rw [hv4] at h2
      have i1 : (0 : Int) ≤ (k : Int) := by omega
      have i2 : (k : Int) < (bs.length : Int) := by omega
      have i3 : (k : Int) < (ss.length : Int) := by omega
      have Hsame := Lib.hid (fun n => ksame' A3 A4 c3 c4 p (w.drewN n) (r3.drewN n) (r4.drewN n))
      clear hv3 hv4 hp r1 r2 p1 p2 r3 r4
      go_wp2
      go_quiet ((go_at_call 27; exact quiet_add_s (Hsame.out _)))
      go_wp2
      go_roundw
      case rel => exact ⟨k + 1, _, by omega, by go_num, rfl⟩
      case measure => simp [intOf]; omega
    · go_wp2
      go_loopw [4] (fun i wr => i = .int .i64 0 ∧ wr = w.drewN nq) (fun i _ => 0)
      case atStart => exact ⟨rfl, rfl⟩
      case round =>
        obtain ⟨rfl, rfl⟩ := hrel
        go_wp2
        go_loopw [5] (fun i wr => i = .int .i64 0 ∧ wr = w.drewN nq) (fun i _ => 0)
        case atStart => exact ⟨rfl, rfl⟩
        case round =>
          obtain ⟨rfl, rfl⟩ := hrel
          go_wp2
          go_ret
          exact ⟨rfl, nq, rfl⟩
end Go.Proofs.Ytbndfejfhngeoaa
