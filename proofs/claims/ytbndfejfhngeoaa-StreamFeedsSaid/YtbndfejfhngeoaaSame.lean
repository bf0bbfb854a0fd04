/- The reference's Same, of frames that are the same. -/
import Derived.Test.YtbndfejfhngeoaaAll
import Derived.Test.YtbndfejfhngeoaaStr
import Derived.Deep.QuietTactic
import Derived.BigQuiet
namespace Go.Proofs.Ytbndfejfhngeoaa
open Go.RowKit

/-- a slice of frames that reads as fs -/
def FrRead (w : World) (A : Option Addr) (fs : List (UInt8 × List UInt8)) : Prop := ∃ bs, Row w A (frCells fs bs) ∧ Parts w bs (fs.map (·.2))
theorem frCells_at : ∀ (fs : List (UInt8 × List UInt8)) (bs : List Value) (k : Nat) (hk : k < fs.length) (hb : k < bs.length), (frCells fs bs)[k * 2]? = some (bV fs[k].1) ∧ (frCells fs bs)[k * 2 + 1]? = some bs[k]
  | _ :: _, _ :: _, 0, _, _ => by simp [frCells]
  | _ :: fs, _ :: bs, k + 1, hk, hb => by
    have := frCells_at fs bs k (by simpa using hk) (by simpa using hb)
    simp only [frCells]
    rw [show (k + 1) * 2 = k * 2 + 1 + 1 by omega]
    simpa using this
theorem FrRead.at' {w : World} {A : Option Addr} {fs : List (UInt8 × List UInt8)} (h : FrRead w A fs) {k : Nat} (hk : k < fs.length) :
    ∃ b off A1 c1, A = some ⟨b, off, none⟩ ∧ w.cell? ⟨b, off + k * 2, none⟩ = some (.int .u8 (fs[k].1.toNat : Int)) ∧ w.cell? ⟨b, off + k * 2 + 1, none⟩ = some (.slice A1 fs[k].2.length c1) ∧ Row w A1 (bVs fs[k].2) := by
  obtain ⟨bs, hr, hp⟩ := h
  have hl : bs.length = fs.length := by simpa using hp.length
  obtain ⟨h1, h2⟩ := frCells_at fs bs k hk (by omega)
  obtain ⟨p, hp1, A1, c1, hv, _, _, hr1⟩ := hp.at' (i := k) (by omega)
  have hp2 : p = fs[k].2 := by simpa [hk] using hp1.symm
  subst hp2
  rcases hr with hr | ⟨b, off, e, hr⟩
  · rw [hr] at h1; simp at h1
  · refine ⟨b, off, A1, c1, e, hr _ _ h1, ?_, hr1⟩
    rw [Nat.add_assoc]
    rw [hv] at h2
    exact hr _ _ h2

set_option maxRecDepth 100000 in
set_option maxHeartbeats 1000000 in
theorem same_true (A B : Option Addr) (ca cb : Nat) (fs : List (UInt8 × List UInt8)) (w : World) (ha : FrRead w A fs) (hb : FrRead w B fs) (hm : fs.length ≤ 9223372036854775807) :
    Calls Try.prog 10 #[.slice A fs.length ca, .slice B fs.length cb] w fun e w' => e = .returned (.bool true) ∧ ∃ n, w' = w.drewN n := by
  go_enter Try.func10, Try.ntmps10
  go_wp2
  go_loopw [5] (fun i wr => ∃ k nq : Nat, k ≤ fs.length ∧ i = .int .i64 k ∧ wr = w.drewN nq) (fun i _ => fs.length - (intOf i).toNat)
  case atStart => exact ⟨0, 0, by omega, rfl, rfl⟩
  case round =>
    obtain ⟨k, nq, hk, rfl, rfl⟩ := hrel
    by_cases hlt : k < fs.length
    · obtain ⟨b, off, A1, c1, rfl, q1, q2, r1⟩ := ha.at' hlt
      obtain ⟨b', off', A2, c2, rfl, q3, q4, r2⟩ := hb.at' hlt
      generalize fs[k].1 = x at *
      generalize fs[k].2 = l at *
      have hx : ((x.toNat : Int) != (x.toNat : Int)) = false := by simp
      have c1 := fun n => run_str (P := Try.prog) (w := w.drewN n) (cap := c1) Try.underlying22 Try.underlying5 Try.underlying9 (r1.drewN n)
      have c2 := fun n => run_str (P := Try.prog) (w := w.drewN n) (cap := c2) Try.underlying22 Try.underlying5 Try.underlying9 (r2.drewN n)
      have i1 : (0 : Int) ≤ (k : Int) := by omega
      have i2 : (k : Int) < (fs.length : Int) := by omega
      go_wp2
      go_quiet (fail)
      go_wp2
      go_roundw
      case rel => exact ⟨k + 1, _, by omega, by go_num, rfl⟩
      case measure => simp [intOf]; omega
    · go_wp2
      go_ret
      exact ⟨rfl, nq, rfl⟩
end Go.Proofs.Ytbndfejfhngeoaa
