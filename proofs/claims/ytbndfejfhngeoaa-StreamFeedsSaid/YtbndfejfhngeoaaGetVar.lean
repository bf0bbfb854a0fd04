/- What octet.GetVar and the reference's GetVar compute. -/
import Derived.Test.YtbndfejfhngeoaaProg
import Derived.Test.YtbndfejfhngeoaaBase
namespace Go.Proofs.Ytbndfejfhngeoaa
open Go.RowKit

/-- a number of base 128, read from the i-th byte on -/
def gv (i : Nat) (acc : Nat) : List UInt8 → Nat × Nat × Nat
  | [] => if i < 4 then (0, 0, 11) else (0, 0, 12)
  | c :: r => if i < 4 then
     (if c.toNat < 128 then (if c.toNat = 0 ∧ 0 < i then (0, 0, 12) else (acc + c.toNat % 128 * 2 ^ (7 * i), i + 1, 0))
      else gv (i + 1) (acc + c.toNat % 128 * 2 ^ (7 * i)) r)
    else (0, 0, 12)

theorem gv_nil (i acc : Nat) (h : i < 4) : gv i acc [] = (0, 0, 11) := by simp [gv, h]
theorem gv_four (acc : Nat) (l : List UInt8) : gv 4 acc l = (0, 0, 12) := by cases l <;> simp [gv]
theorem gv_cons {i acc : Nat} {l : List UInt8} (h : i < 4) (hl : i < l.length) : gv i acc (l.drop i) =
     (if l[i].toNat < 128 then (if l[i].toNat = 0 ∧ 0 < i then (0, 0, 12) else (acc + l[i].toNat % 128 * 2 ^ (7 * i), i + 1, 0))
      else gv (i + 1) (acc + l[i].toNat % 128 * 2 ^ (7 * i)) (l.drop (i + 1))) := by
  rw [List.drop_eq_getElem_cons hl]; simp [gv, h]

theorem acc_lt {acc c k : Nat} (ha : acc < 2 ^ (7 * k)) : acc + c % 128 * 2 ^ (7 * k) < 2 ^ (7 * (k + 1)) := by
  have : 2 ^ (7 * (k + 1)) = 128 * 2 ^ (7 * k) := by rw [Nat.mul_add, Nat.pow_add, Nat.mul_comm]
  have h2 : c % 128 * 2 ^ (7 * k) ≤ 127 * 2 ^ (7 * k) := Nat.mul_le_mul_right _ (by omega)
  omega

def GvPost (l : List UInt8) (w : World) (e : Ending) (w' : World) : Prop :=
  e = .returned (.tuple #[.int .i64 (gv 0 0 l).1, .int .i64 (gv 0 0 l).2.1, .int .i64 (gv 0 0 l).2.2]) ∧ w = w'
theorem GvPost.mk' {l : List UInt8} {w : World} {a b c : Int} {n u e : Nat} (h : gv 0 0 l = (n, u, e)) (ha : a = n) (hb : b = u) (hc : c = e) :
    GvPost l w (.returned (.tuple #[.int .i64 a, .int .i64 b, .int .i64 c])) w := by subst ha hb hc; simp [GvPost, h]

set_option maxRecDepth 100000 in
set_option maxHeartbeats 1000000 in
theorem getvar (A : Option Addr) (l : List UInt8) (cap : Nat) (w : World) (hb : Row w A (bVs l)) (hm : l.length ≤ 9223372036854775807) :
    Calls Try.prog 33 #[.slice A l.length cap] w (GvPost l w) := by
  go_enter Try.func33, Try.ntmps33
  go_wp2
  go_loop [2, 9] (fun n i => ∃ k acc : Nat, k ≤ l.length ∧ k ≤ 4 ∧ Hid (acc < 2 ^ (7 * k)) ∧ Hid (gv 0 0 l = gv k acc (l.drop k)) ∧ i = .int .i64 k ∧ n = .int .i64 acc) (fun _ i => l.length - (intOf i).toNat)
  case atStart => exact ⟨0, 0, by omega, by omega, Lib.hid (by simp), Lib.hid rfl, rfl, rfl⟩
  case round =>
    obtain ⟨k, acc, hk, hk4, hacc, hg, rfl, rfl⟩ := hrel
    by_cases hlt : k < l.length
    · rcases hb with hb | ⟨b, off, rfl, hc⟩
      · simp [bVs] at hb; subst hb; simp at hlt
      · by_cases h4 : k = 4
        · subst h4
          have hcell := hc 4 (bV l[4]) (by simp [bVs, hlt])
          unfold bV at hcell
          clear hc
          have hll : ¬ l.length < 4 := by omega
          go_wp2
          go_ret3
          exact GvPost.mk' (hg.out.trans (gv_four _ _)) rfl rfl rfl
        · have hlt4 : k < 4 := by omega
          have h4' : ((k : Int) == 4) = false := by simp; omega
          have hcell := hc k (bV l[k]) (by simp [bVs, hlt])
          have hn := hg.out.trans (gv_cons hlt4 hlt)
          clear h4 hc
          obtain ⟨c, hcc, hc256⟩ : ∃ c : Nat, Hid (l[k].toNat = c) ∧ c < 256 := ⟨_, Lib.hid rfl, l[k].toNat_lt⟩
          rw [hcc.out] at hn
          unfold bV at hcell
          rw [hcc.out] at hcell
          have hnn := Lib.hid hn
          have hbits := Lib.hid (bits_or_shift acc c k hc256 hlt4 hacc.out)
          clear hn
          go_wp2
          · go_ret3
            have h0 : c = 0 := by assumption
            have h1 : 0 < k := by assumption
            refine GvPost.mk' (hnn.out.trans ?_) rfl rfl rfl
            simp [h0, h1]
          · go_ret3
            have h0 : c = 0 := by assumption
            have h1 : ¬ 0 < k := by assumption
            subst h0
            refine GvPost.mk' (hnn.out.trans (by simp [h1]; exact ⟨rfl, rfl⟩)) (by have := hbits.out; simpa using this) (by simp) rfl
          · go_ret3
            have h0 : ¬ c = 0 := by assumption
            have h1 : (c : Int) < 128 := by assumption
            refine GvPost.mk' (u := k + 1) (hnn.out.trans ?_) hbits.out (by omega) rfl
            rw [if_pos (by omega), if_neg (by omega)]
          · have h1 : 128 ≤ (c : Int) := by assumption
            have e := hnn.out
            rw [if_neg (by omega)] at e
            refine ⟨⟨k + 1, acc + c % 128 * 2 ^ (7 * k), by omega, by omega, Lib.hid (acc_lt hacc.out), Lib.hid e, by go_num, by rw [hbits.out]⟩, by simp [intOf]; omega⟩
    · have e : l.drop k = [] := by simp; omega
      by_cases h4 : k < 4
      · have hll : l.length < 4 := by omega
        have hfin' : gv 0 0 l = (0, 0, 11) := by rw [hg.out, e]; exact gv_nil k acc h4
        have hfin := Lib.hid hfin'
        clear e hfin'
        go_wp2
        go_ret3
        exact GvPost.mk' hfin.out rfl rfl rfl
      · have hll : ¬ l.length < 4 := by omega
        have hfin' : gv 0 0 l = (0, 0, 12) := by
          obtain rfl : k = 4 := by omega
          rw [hg.out]; exact gv_four _ _
        have hfin := Lib.hid hfin'
        clear e hfin'
        go_wp2
        go_ret3
        exact GvPost.mk' hfin.out rfl rfl rfl
end Go.Proofs.Ytbndfejfhngeoaa
