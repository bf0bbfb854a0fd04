/- The reference's GetVar. -/
import Derived.Test.YtbndfejfhngeoaaGetVar
import Derived.Test.YtbndfejfhngeoaaMem
namespace Go.Proofs.Ytbndfejfhngeoaa
open Go.RowKit

/-- what holds at the head of the reference's loop -/
def RvRel (l : List UInt8) (k acc : Nat) : Prop := k ≤ l.length ∧ acc < 2 ^ (7 * k) ∧ gv 0 0 l = gv k acc (l.drop k)

set_option maxRecDepth 100000 in
set_option maxHeartbeats 1000000 in
theorem refvar (A : Option Addr) (l : List UInt8) (cap : Nat) (w : World) (hb : Row w A (bVs l)) (hm : l.length ≤ 9223372036854775807) :
    Calls Try.prog 34 #[.slice A l.length cap] w (GvPost l w) := by
  go_enter Try.func34, Try.ntmps34
  go_wp2
  go_loop [5, 6, 7] (fun n u i => ∃ k acc U : Nat, k ≤ 4 ∧ RvRel l k acc ∧ Hid (U = 2 ^ (7 * k)) ∧ i = .int .i64 (k : Int) ∧ n = .int .i64 (acc : Int) ∧ u = .int .i64 (U : Int)) (fun _ _ i => 4 - (intOf i).toNat)
  case atStart => exact ⟨0, 0, 1, by omega, ⟨by omega, by simp, rfl⟩, Lib.hid rfl, rfl, rfl, rfl⟩
  case round =>
    obtain ⟨k, acc, U, hk4, ⟨hk, hacc, hg⟩, hU, rfl, rfl, rfl⟩ := hrel
    by_cases h4 : k < 4
    · have hU1 : U ≤ 2097152 := by
        rw [hU.out]
        exact Nat.le_trans (Nat.pow_le_pow_right (by omega) (show 7 * k ≤ 21 by omega)) (by omega)
      have hacc1 : acc ≤ 2097152 := by rw [← hU.out] at hacc; omega
      by_cases hlt : k < l.length
      · obtain ⟨b, off, rfl, hcell⟩ := hb.at' (i := k) (by rw [bVs_length]; exact hlt)
        have hn := hg.trans (gv_cons h4 hlt)
        have hcv : (bVs l)[k]'(by rw [bVs_length]; exact hlt) = .int .u8 (l[k].toNat : Int) := by simp [bVs, bV]
        rw [hcv] at hcell
        obtain ⟨c, hcc, hc256⟩ : ∃ c : Nat, Hid (l[k].toNat = c) ∧ c < 256 := ⟨_, Lib.hid rfl, l[k].toNat_lt⟩
        rw [hcc.out] at hcell hn
        have hmul : c % 128 * U ≤ 127 * 2097152 := Nat.mul_le_mul (by omega) hU1
        have Hn := Lib.hid hn
        have Hacc := Lib.hid hacc
        have hke : ((k : Int) == (l.length : Int)) = false := by simp; omega
        have hp : ((c : Int) % 128) * (U : Int) = ((c % 128 * U : Nat) : Int) := by simp [Int.natCast_mul]
        have hp1 : wrap64 (((c : Int) % 128) * (U : Int)) = ((c % 128 * U : Nat) : Int) := by rw [hp]; exact wrap64_id _ (by omega) (by omega)
        have hp2 : IntKind.i64.wrap (((c : Int) % 128) * (U : Int)) = ((c % 128 * U : Nat) : Int) := by rw [IntKind.wrap_i64]; rw [hp]; omega
        have hval : wrap64 ((acc : Int) + wrap64 ((c : Int) % 128 * (U : Int))) = ((acc + c % 128 * 2 ^ (7 * k) : Nat) : Int) := by
          rw [hp1, ← hU.out]; rw [wrap64_id _ (by omega) (by omega)]; omega
        have Hval := Lib.hid hval
        clear hn hacc hcv hg hcc hp hval hp1 hp2
        go_wp2
        · go_ret3
          have h0 : c = 0 := by assumption
          have h1 : 0 < k := by assumption
          refine GvPost.mk' (Hn.out.trans ?_) rfl rfl rfl
          simp [h0, h1]
        · go_ret3
          have h0 : c = 0 := by assumption
          have h1 : ¬ 0 < k := by assumption
          subst h0
          refine GvPost.mk' (Hn.out.trans (by simp [h1]; exact ⟨rfl, rfl⟩)) (by have := Hval.out; simpa using this) (by simp) rfl
        · go_ret3
          have h0 : ¬ c = 0 := by assumption
          have h1 : (c : Int) < 128 := by assumption
          refine GvPost.mk' (u := k + 1) (Hn.out.trans ?_) Hval.out (by omega) rfl
          rw [if_pos (by omega), if_neg (by omega)]
        · have h1 : 128 ≤ (c : Int) := by assumption
          have e := Hn.out
          rw [if_neg (by omega)] at e
          refine ⟨⟨k + 1, acc + c % 128 * 2 ^ (7 * k), U * 128, by omega, ⟨by omega, acc_lt Hacc.out, e⟩, Lib.hid ?_, by go_num, by rw [Hval.out], by go_num⟩, by simp [intOf]; omega⟩
          rw [hU.out, Nat.mul_add, Nat.pow_add]
      · have e : l.drop k = [] := by simp; omega
        have hfin' : gv 0 0 l = (0, 0, 11) := by rw [hg, e]; exact gv_nil k acc h4
        have hfin := Lib.hid hfin'
        obtain rfl : k = l.length := by omega
        clear e hfin' hg hacc
        go_wp2
        go_ret3
        exact GvPost.mk' hfin.out rfl rfl rfl
    · obtain rfl : k = 4 := by omega
      have hfin' : gv 0 0 l = (0, 0, 12) := by rw [hg]; exact gv_four _ _
      have hfin := Lib.hid hfin'
      clear hfin' hg hacc
      go_wp2
      go_ret3
      exact GvPost.mk' hfin.out rfl rfl rfl
end Go.Proofs.Ytbndfejfhngeoaa
