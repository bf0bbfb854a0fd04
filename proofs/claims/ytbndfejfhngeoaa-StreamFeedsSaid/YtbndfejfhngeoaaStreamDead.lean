/- The walk of the law StreamDead. -/
import Derived.Test.YtbndfejfhngeoaaWakes
import Derived.Test.YtbndfejfhngeoaaKeep
import Derived.Test.YtbndfejfhngeoaaPieceLaw
import Derived.LaidEqlPtr
namespace Go.Proofs.Ytbndfejfhngeoaa
open Go.RowKit

theorem run_held (pb c : Nat) (A : Option Addr) (most : Int) (h : List UInt8) (v : Value) (w : World) (hb : Blk w pb 59 #[.int .i64 most, .slice A h.length c, v]) :
    Calls Try.prog 18 #[.pointer (some ⟨pb, 0, none⟩)] w fun e w' => e = .returned (.int .i64 (h.length : Int)) ∧ w = w' := by
  have h1 := hb.cell 1
  simp at h1
  go_enter Try.func18, Try.ntmps18
  go_wp2
  go_ret
  exact ⟨rfl, rfl⟩
theorem feedS_code (most : Int) : ∀ (n : Nat) (h : List UInt8), h.length ≤ n → (feedS most h).2.2 = 0 ∨ (feedS most h).2.2 = 129 ∨ (feedS most h).2.2 = 149 := by
  intro n
  induction n with
  | zero =>
    intro h hl
    obtain rfl : h = [] := List.eq_nil_of_length_eq_zero (by omega)
    rw [feedS_nil]; simp
  | succ n ih =>
    intro h hl
    rcases hf : frameS most h with cd | ⟨x, b, k⟩
    · by_cases hc : cd = 0
      · subst hc; rw [feedS_stop hf]; simp
      · rw [feedS_broken hf hc]; exact frameS_code hf
    · have hk := frameS_inr hf
      rw [feedS_step hf]
      exact ih (h.drop k) (by simp; omega)

theorem Framer.below {w w' : World} {base pb : Nat} {most : Int} {h : List UInt8} {code : Nat} {A : Option Addr} {c : Nat} (hf : Framer w base pb most h code A c) (hb : Below w.heap.size w w') : Framer w' base pb most h code A c :=
  ⟨hf.1.below hb hf.1.lt, (Kept.of_below (S := fun _ => False) hb).own hf.2 (fun _ _ => id)⟩
/-- a Framer that was made, then something else was -/
theorem made {w w1 : World} {most : Int} (hbel : Below (w.alloc (.cells #[.int .i64 most, .slice none 0 0, .int .i64 0] 59)).heap.size (w.alloc (.cells #[.int .i64 most, .slice none 0 0, .int .i64 0] 59)) w1) :
    Framer w1 0 w.heap.size most [] 0 none 0 ∧ Below w.heap.size w w1 :=
  ⟨(Framer.new w most).below hbel, ((Below.refl _ w).alloc (Nat.le_refl _) _).trans (hbel.mono (by simp))⟩
/-- a broken Framer of the call's own -/
def DeadRel (pb : Nat) (most : Int) (code : Nat) (w wr : World) : Prop :=
  ∃ A c, Framer wr 0 pb most [] code A c ∧ (∀ g, Value.ownBlock (.slice A 0 0) = some g → w.heap.size ≤ g) ∧ Below w.heap.size w wr
theorem dead_next {pb : Nat} {most : Int} {code c' : Nat} {w wr w2 : World} {A A' : Option Addr} (hpb : w.heap.size ≤ pb) (hA : ∀ g, Value.ownBlock (.slice A 0 0) = some g → w.heap.size ≤ g) (hbel : Below w.heap.size w wr)
    (hA2 : ∀ g, Value.ownBlock (.slice A' 0 0) = some g → wr.heap.size ≤ g ∨ (code ≠ 0 ∧ A' = A)) (hf2 : Framer w2 0 pb most [] code A' c') (hk2 : Kept (frS pb A) wr w2) : DeadRel pb most code w w2 := by
  have hs := hbel.size
  refine ⟨A', c', hf2, fun g hg => ?_, hbel.trans (hk2.below hs (fun j hj hS => ?_))⟩
  · rcases hA2 g hg with h1 | ⟨_, h1⟩
    · omega
    · subst h1; exact hA g hg
  · rcases hS with hS | hS
    · omega
    · have := hA j hS; omega

set_option maxRecDepth 100000 in
set_option maxHeartbeats 2000000 in
theorem dead (most : Int) (A Am : Option Addr) (l : List UInt8) (cap capm : Nat) (vs : List Value) (ps : List (List UInt8)) (w : World) (hr : Row w A (bVs l)) (hc : l.length ≤ cap) (hm : cap ≤ maxLen) (hrs : Row w Am vs) (hp : Parts w vs ps)
    (hms : vs.length ≤ maxLen) :
    Calls Try.prog 6 #[.int .i64 most, .slice A l.length cap, .slice Am vs.length capm] w fun e w' => e = .returned (.bool true) ∧ Below w.heap.size w w' := by
  have hcut := Lib.hid (run_cutB A l cap 3000 w hc hm (by omega))
  have hl3 : (l.take 3000).length ≤ 3000 := by simp; omega
  have hrb : Row w A (bVs (l.take 3000)) := by rw [bVs_take]; exact hr.take _
  have hlc : (l.take 3000).length ≤ cap := by simp; omega
  clear hr hc
  generalize l.take 3000 = b at *
  unfold maxLen at hm hms
  have hfc : feedC most 0 [] b = feedS most b := by simp [feedC]
  have hcode := feedS_code most _ b (Nat.le_refl _)
  have hbn := feedS_broken_nil most _ b (Nat.le_refl _)
  have hq : feedS most b = ((feedS most b).1, (feedS most b).2.1, (feedS most b).2.2) := rfl
  generalize (feedS most b).1 = fs at *
  generalize (feedS most b).2.1 = hh at *
  generalize (feedS most b).2.2 = cd at *
  have Hq := Lib.hid (hfc.trans hq)
  clear hfc hq
  have hfeed : ∀ w1 : World, Framer w1 0 w.heap.size most [] 0 none 0 → Below w.heap.size w w1 → Calls Try.prog 15 #[.pointer (some ⟨w.heap.size, 0, none⟩), .slice A b.length cap] w1 fun e w2 =>
      ∃ Ao no co A' c', e = .returned (.tuple #[.slice Ao no co, .int .i64 (cd : Int)]) ∧ Framer w2 0 w.heap.size most hh cd A' c' ∧ (∀ g, Value.ownBlock (.slice A' 0 0) = some g → w.heap.size ≤ g) ∧ Below w.heap.size w w2 := by
    intro w1 hf hb1
    refine (feed w.heap.size 0 none most 0 [] b w1 hf A cap (hrb.below hb1) (by simp; omega)).mono ?_
    rintro e w2 ⟨Ao, no, co, bs, A', c', rfl, _, _, _, hA2, hf2, hk2⟩
    rw [Hq.out] at hf2 ⊢
    have hs := hb1.size
    refine ⟨Ao, no, co, A', c', rfl, hf2, fun g hg => ?_, hb1.trans (hk2.below hs (fun j hj hS => ?_))⟩
    · rcases hA2 g hg with h1 | ⟨h1, _⟩
      · omega
      · exact absurd rfl h1
    · rcases hS with hS | hS
      · omega
      · cases hS
  have Hfeed := Lib.hid hfeed
  clear hfeed
  by_cases hcd : cd = 0
  · subst hcd
    clear hcode hbn
    go_enter Try.func6, Try.ntmps6
    go_wp2_with (first
      | (go_at_call 7; refine hcut.out.mono ?_; rintro e w' ⟨rfl, rfl⟩)
      | (go_at_call 13; refine (run_new most _).mono ?_; rintro e w' ⟨rfl, rfl⟩)
      | (go_at_call 11; refine (wakes _).mono ?_; rintro e w1 ⟨rfl, hbel1⟩)
      | (go_at_call 15; refine (Hfeed.out w1 (made hbel1).1 (made hbel1).2).mono ?_; rintro e w2 ⟨Ao, no, co, A', c', rfl, hf2, hA2, hb2⟩)
      | (go_at_call 17; refine (run_num _ _).mono ?_; rintro e w' ⟨rfl, rfl⟩)
      | (go_at_call 20; refine (run_broken w.heap.size most 0 _ _ hf2.1).mono ?_; rintro e w' ⟨rfl, rfl⟩))
    go_ret
    exact ⟨rfl, hb2⟩
  · have hc0 : ((cd : Int) == 0) = false := by simp; omega
    have hh0 := hbn hcd
    subst hh0
    have Hcd := Lib.hid hcd
    have hcb : cd ≤ 149 := by omega
    have hct : (!(cd == 0)) = true := by simp; omega
    have Hct := Lib.hid hct
    have Hcode := Lib.hid hcode
    have hcc : ((cd : Int) != (cd : Int)) = false := by simp
    clear hbn hcd hct hcode
    go_enter Try.func6, Try.ntmps6
    go_wp2_with (first
      | (go_at_call 7; refine hcut.out.mono ?_; rintro e w' ⟨rfl, rfl⟩)
      | (go_at_call 13; refine (run_new most _).mono ?_; rintro e w' ⟨rfl, rfl⟩)
      | (go_at_call 11; refine (wakes _).mono ?_; rintro e w1 ⟨rfl, hbel1⟩)
      | (go_at_call 15; refine (Hfeed.out w1 (made hbel1).1 (made hbel1).2).mono ?_; rintro e w2 ⟨Ao, no, co, A', c', rfl, hf2, hA2, hb2⟩)
      | (go_at_call 17; refine (run_num _ _).mono ?_; rintro e w' ⟨rfl, rfl⟩))
    have hrel0 := Lib.hid (show DeadRel w.heap.size most cd w w2 from ⟨A', c', hf2, hA2, hb2⟩)
    clear hf2 hA2 hb2
    go_loopw [10] (fun i wr => ∃ k : Nat, k ≤ vs.length ∧ k ≤ 10 ∧ i = .int .i64 (k : Int) ∧ DeadRel w.heap.size most cd w wr) (fun i _ => 10 - (intOf i).toNat)
    case atStart => exact ⟨0, by omega, by omega, rfl, hrel0.out⟩
    case round =>
      clear hrel0
      obtain ⟨k, hk, hk2, rfl, hrel⟩ := hrel
      obtain ⟨Ah, ch, hf, hA, hbel⟩ := hrel
      by_cases hlt : k < vs.length ∧ k < 10
      · obtain ⟨hlt, hlt2⟩ := hlt
        obtain ⟨bb, off, rfl, hcell⟩ := (hrs.below hbel).at' hlt
        obtain ⟨p, hpk, hp1⟩ := hp.at' hlt
        obtain ⟨A1, c1, hv, hl1, hl2, hr1⟩ := hp1.below hbel
        rw [hv] at hcell
        have hcut2 := Lib.hid (run_cutB A1 p c1 100 wr hl1 hl2 (by omega))
        have hrb2 : Row wr A1 (bVs (p.take 100)) := by rw [bVs_take]; exact hr1.take _
        have hpl : (p.take 100).length ≤ 100 := by simp; omega
        have hfc2 := Lib.hid (show feedC most cd [] (p.take 100) = ([], [], cd) by simp [feedC, Hcd.out])
        clear hv hpk hp1 hr1
        generalize p.take 100 = p1 at *
        have hfeed2 := Lib.hid (feed w.heap.size ch Ah most cd [] p1 wr hf A1 c1 hrb2 (by simp; omega))
        go_wp2_with (first
          | (go_at_call 7; refine hcut2.out.mono ?_; rintro e w' ⟨rfl, rfl⟩)
          | (go_at_call 15; refine hfeed2.out.mono ?_; rintro e w3 ⟨Ao3, no3, co3, bs3, A3, c3, rfl, ho3, _, _, hA3, hf3, hk3⟩; rw [hfc2.out] at hf3 ho3 ⊢; have hno : no3 = 0 := (by have := ho3.1; simp [frCells] at this; omega); subst hno)
          | (go_at_call 18; refine (run_held w.heap.size c3 A3 most [] _ _ hf3.1).mono ?_; rintro e w' ⟨rfl, rfl⟩)
          | (go_at_call 20; refine (run_broken w.heap.size most cd _ _ hf3.1).mono ?_; rintro e w' ⟨rfl, rfl⟩; rw [Hct.out]))
        go_roundw
        case rel => exact ⟨k + 1, by omega, by omega, by go_num, dead_next (Nat.le_refl _) hA hbel hA3 hf3 hk3⟩
        case measure => simp [intOf]; omega
      · have hlt' : decide (k < vs.length) = false ∨ (k < vs.length ∧ 10 ≤ k) := by
          simp only [decide_eq_false_iff_not]; omega
        clear hlt
        have hd : ((cd : Int) == 129) = true ∨ (((cd : Int) == 129) = false ∧ ((cd : Int) == 149) = true) := by
          have := Hcode.out; have := Hcd.out; simp; omega
        rcases hlt' with h1 | ⟨h1, h2⟩ <;> rcases hd with h3 | ⟨h3, h4⟩
        all_goals
          go_wp2_with (go_at_call 17; refine (run_num _ _).mono ?_; rintro e w' ⟨rfl, rfl⟩)
          go_ret
          exact ⟨rfl, hbel⟩
end Go.Proofs.Ytbndfejfhngeoaa
