/- tidingskeep.Book: Close, of a Book of bytes alone. -/
import Derived.Test.YtbndfejfhngeoaaClose
namespace Go.Proofs.Ytbndfejfhngeoaa
open Go.RowKit

set_option maxRecDepth 100000 in
set_option maxHeartbeats 1000000 in
theorem kcloseW (kb : Nat) (w : World) (h : w.cell? ⟨kb, 2, none⟩ = some (.slice none 0 0)) :
    Calls Try.prog 31 #[.pointer (some ⟨kb, 0, none⟩)] w fun e w' => e = .returned (.bool true) ∧ w = w' := by
  go_enter Try.func31, Try.ntmps31
  go_wp2
  go_loop [3] (fun i => i = .int .i64 0) (fun _ => 0)
  case atStart => exact rfl
  case round =>
    subst hrel
    go_wp2
    go_loop [5, 6] (fun g i => g = .slice none 0 0 ∧ i = .int .i64 0) (fun _ _ => 0)
    case atStart => exact ⟨rfl, rfl⟩
    case round =>
      obtain ⟨rfl, rfl⟩ := hrel
      go_wp2
      go_loop [8] (fun i => i = .int .i64 0) (fun _ => 0)
      case atStart => exact rfl
      case round =>
        subst hrel
        go_wp2
        go_ret
        exact ⟨rfl, rfl⟩
set_option maxRecDepth 100000 in
set_option maxHeartbeats 1000000 in
theorem kcloseI (kb : Nat) (w : World) (h : w.cell? ⟨kb, 4, none⟩ = some (.slice none 0 0)) :
    Calls Try.prog 32 #[.pointer (some ⟨kb, 0, none⟩)] w fun e w' => e = .returned (.bool true) ∧ w = w' := by
  go_enter Try.func32, Try.ntmps32
  go_wp2
  go_loop [3] (fun i => i = .int .i64 0) (fun _ => 0)
  case atStart => exact rfl
  case round =>
    subst hrel
    go_wp2
    go_loop [5, 6] (fun g i => g = .slice none 0 0 ∧ i = .int .i64 0) (fun _ _ => 0)
    case atStart => exact ⟨rfl, rfl⟩
    case round =>
      obtain ⟨rfl, rfl⟩ := hrel
      go_wp2
      go_loop [8] (fun i => i = .int .i64 0) (fun _ => 0)
      case atStart => exact rfl
      case round =>
        subst hrel
        go_wp2
        go_ret
        exact ⟨rfl, rfl⟩
set_option maxRecDepth 100000 in
set_option maxHeartbeats 1000000 in
theorem kcloseAll (base kb : Nat) (bs ss : List Value) (ls : List (List UInt8)) (w : World) (hB : BookB w base kb bs ss ls) (hbase : base ≤ w.heap.size) (hsz : ∀ l ∈ ls, l.length ≤ 1099511627776) :
    Calls Try.prog 23 #[.pointer (some ⟨kb, 0, none⟩)] w fun e w' => e = .returned (.bool true) ∧ Below base w w' := by
  have hlook := Lib.hid (klook base kb bs ss ls w hB)
  have hcl := Lib.hid (fun n => kclose base kb bs ss ls (w.drewN n) (hB.drewN n) hbase hsz)
  have hcell : ∀ (n : Nat) (w' : World), Kept (bsS bs) (w.drewN n) w' → w'.cell? ⟨kb, 2, none⟩ = some (.slice none 0 0) ∧ w'.cell? ⟨kb, 4, none⟩ = some (.slice none 0 0) ∧ Below base w w' := by
    intro n w' hk
    obtain ⟨A1, A2, c1, c2, hb, hkb, o1, o2, hap, b1, b2, hx, hn⟩ := hB
    have hnk : ¬ bsS bs kb := by
      rintro ⟨i, v, hv, hg⟩
      obtain ⟨cs, hcs⟩ := b1.blk hv hg
      exact (Blk.ne_ hcs hb (by decide)) rfl
    have hb' := hk.blk (hb.drewN n) hnk
    refine ⟨by simpa using hb'.cell 2, by simpa using hb'.cell 4, ?_⟩
    have hk2 : Kept (bsS bs) w w' := ⟨hk.os, hk.tape, hk.output, hk.size, hk.block⟩
    refine hk2.below hbase (fun j hj => ?_)
    rintro ⟨i, v, hv, hg⟩
    have := (b1.lt hv hg).1
    omega
  have Hcell := Lib.hid hcell
  clear hcell hB
  go_enter Try.func23, Try.ntmps23
  go_wp2_with (first
    | (go_at_call 29; refine hlook.out.mono ?_; rintro e w1 ⟨rfl, n1, rfl⟩)
    | (go_at_call 30; refine (hcl.out n1).mono ?_; rintro e w2 ⟨rfl, hk2⟩; obtain ⟨z1, z2, z3⟩ := Hcell.out n1 w2 hk2; clear hk2)
    | (go_at_call 31; refine (kcloseW kb _ z1).mono ?_; rintro e w' ⟨rfl, rfl⟩)
    | (go_at_call 32; refine (kcloseI kb _ z2).mono ?_; rintro e w' ⟨rfl, rfl⟩))
  go_ret
  exact ⟨rfl, z3⟩
end Go.Proofs.Ytbndfejfhngeoaa
