/- The reference's Held; the law's cut. -/
import Derived.Test.YtbndfejfhngeoaaRefFeed
import Derived.Test.YtbndfejfhngeoaaStreamPieces
namespace Go.Proofs.Ytbndfejfhngeoaa
open Go.RowKit

set_option maxRecDepth 100000 in
set_option maxHeartbeats 1000000 in
theorem ref_held (rb c told code : Nat) (A : Option Addr) (most : Int) (B : List UInt8) (w : World) (hf : RFr w rb most B told code A c) (hcode : code = 0 ∨ code = 129 ∨ code = 149) (hsm : B.length ≤ 1099511627776) (hfd : code = 0 → (feedS most B).2.2 = 0) :
    Calls Try.prog 19 #[.pointer (some ⟨rb, 0, none⟩)] w fun e w' => e = .returned (.int .i64 (if code = 0 then ((feedS most B).2.1.length : Int) else 0)) ∧ Below w.heap.size w w' := by
  obtain ⟨hb, ho⟩ := hf
  have h0 := hb.cell 0
  have h1 := hb.cell 1
  have h3 := hb.cell 3
  simp at h0 h1 h3
  by_cases hc : code = 0
  · subst hc
    obtain ⟨hcc, hcm⟩ := own_cap ho
    have Hcut := Lib.hid (fun n => refcut most A c B (w.drewN n) ((Row.of_own ho).drewN n) hcc hcm hsm)
    have Hfd := Lib.hid (hfd rfl)
    have hpl := hb.lt
    clear hfd hcode
    go_enter Try.func19, Try.ntmps19
    go_wp2
    go_region_held3 (fun w' => w'.cell? ⟨rb, 0, none⟩ = some (.int .i64 most) ∧ w'.cell? ⟨rb, 1, none⟩ = some (.slice A B.length c)) (go_keep)
      (first | (go_at_call 26; refine (Hcut.out 1).mono ?_; rintro e w2 ⟨Ao, co, at_, rfl, hfr, hbel, hco1, hco2, hat1, hat2⟩; have hB : Below w.heap.size w w2 := below_of_drew hbel; have y0 := cell_below hB h0; have y1 := cell_below hB h1; have HB := Lib.hid hB; have Hat := Lib.hid hat2; clear hbel hB hfr hat2))
    go_wp2
    go_ret
    refine ⟨?_, HB.out⟩
    have := Hat.out Hfd.out
    exact ret_int (by omega)
  · have hc' : ((code : Int) != 0) = true := by simp; omega
    rw [if_neg hc]
    clear hc hfd
    go_enter Try.func19, Try.ntmps19
    go_wp2
    go_ret
    exact ⟨rfl, Below.refl _ _⟩

/-- the chunks that are left -/
def cutC : Nat → List (List UInt8) → List (List UInt8)
  | _, [] => []
  | n, c :: cs => c.take (3000 - n) :: cutC (n + (c.take (3000 - n)).length) cs
theorem cutC_len : ∀ (n : Nat) (cs : List (List UInt8)), n ≤ 3000 → n + (cutC n cs).flatten.length ≤ 3000
  | n, [], h => by simpa [cutC] using h
  | n, c :: cs, h => by
    have h1 : (c.take (3000 - n)).length ≤ 3000 - n := by simp; omega
    have := cutC_len (n + (c.take (3000 - n)).length) cs (by omega)
    simp only [cutC, List.flatten_cons, List.length_append]; omega

/-- what holds at the head of cut's loop -/
def CutRel (ps : List (List UInt8)) (w : World) (k : Nat) (n out : Value) (wr : World) : Prop :=
  ∃ (Ac : Option Addr) (nc cc m : Nat) (vs : List Value) (qs : List (List UInt8)), n = .int .i64 (m : Int) ∧ m ≤ 3000 ∧ out = .slice Ac nc cc ∧ nc = k ∧ wr.ownsRow w.heap.size 22 1 (.slice Ac nc cc) nc vs ∧ Parts w vs qs ∧ cutC 0 ps = qs ++ cutC m (ps.drop k) ∧ Below w.heap.size w wr
set_option maxRecDepth 100000 in
set_option maxHeartbeats 1000000 in
theorem run_lawcut (A : Option Addr) (cap : Nat) (vs : List Value) (ps : List (List UInt8)) (w : World) (hr : Row w A vs) (hp : Parts w vs ps) (hm : vs.length ≤ maxLen) :
    Calls Try.prog 12 #[.slice A vs.length cap] w fun e w' => ∃ (Ac : Option Addr) (cc : Nat) (us : List Value) (qs : List (List UInt8)), e = .returned (.slice Ac us.length cc) ∧ w'.ownsRow w.heap.size 22 1 (.slice Ac us.length cc) us.length us ∧ Parts w us qs ∧ qs.flatten.length ≤ 3000 ∧ us.length ≤ 60 ∧ Below w.heap.size w w' := by
  unfold maxLen at hm
  have hrel0 : CutRel ps w 0 (.int .i64 0) (.slice none 0 0) w := ⟨none, 0, 0, 0, [], [], rfl, by omega, rfl, rfl, World.ownsRow_nil _ _ _ _, trivial, by simp, Below.refl _ _⟩
  have Hrel0 := Lib.hid hrel0
  clear hrel0
  go_enter Try.func12, Try.ntmps12
  go_wp2
  go_loopw [3, 4, 5] (fun n out i wr => ∃ k : Nat, k ≤ vs.length ∧ k ≤ 60 ∧ i = .int .i64 (k : Int) ∧ CutRel ps w k n out wr) (fun _ _ i _ => 60 - (intOf i).toNat)
  case atStart => exact ⟨0, by omega, by omega, rfl, Hrel0.out⟩
  case round =>
    clear Hrel0
    obtain ⟨k, hk, hk2, rfl, hrel⟩ := hrel
    obtain ⟨Ac, nc, cc, m, us, qs, rfl, hm3, rfl, hnk, hown, hps, hcut, hbel⟩ := hrel
    have Hnk := Lib.hid hnk
    have Hcut := Lib.hid hcut
    have hnc : nc ≤ 60 := by omega
    clear hnk hcut
    by_cases hlt : k < vs.length ∧ k < 60
    · obtain ⟨hlt, hlt2⟩ := hlt
      obtain ⟨b, off, rfl, hcell⟩ := (hr.below hbel).at' hlt
      obtain ⟨p, hpk, hp1⟩ := hp.at' hlt
      obtain ⟨A1, c1, hv, hl1, hl2, hr1⟩ := hp1
      rw [hv] at hcell
      have hcut2 := run_cutB A1 p c1 (3000 - m) wr hl1 hl2 (by omega)
      rw [show ((3000 - m : Nat) : Int) = 3000 - (m : Int) by omega] at hcut2
      have Hcut2 := Lib.hid hcut2
      have hpl : (p.take (3000 - m)).length ≤ 3000 - m := by simp; omega
      have hr2 : Row w A1 (bVs (p.take (3000 - m))) := by rw [bVs_take]; exact hr1.take _
      have hpc : (p.take (3000 - m)).length ≤ c1 := by simp; omega
      have hdr : ps.drop k = p :: ps.drop (k + 1) := by
        have hkl : k < ps.length := (List.getElem?_eq_some_iff.1 hpk).1
        rw [List.drop_eq_getElem_cons hkl]
        rw [List.getElem?_eq_getElem hkl] at hpk
        injection hpk with hpk
        rw [hpk]
      have hcn : cutC 0 ps = (qs ++ [p.take (3000 - m)]) ++ cutC (m + (p.take (3000 - m)).length) (ps.drop (k + 1)) := by rw [Hcut.out, hdr]; simp [cutC]
      have Hcn := Lib.hid hcn
      clear hcut2 hv hpk hr1 hdr hcn
      generalize p.take (3000 - m) = q at *
      have hroom : (nc + 1) * 24 ≤ 140737488355328 := by omega
      have hs := hbel.size
      go_wp2_with (first
        | (go_at_call 7; refine Hcut2.out.mono ?_; rintro e w' ⟨rfl, rfl⟩)
        | (at_builtin
           refine wpList_app stBB rfl (.tmp 28) (.tmp 30) rfl rfl (hown.alloc _) rfl (by rfl) (Row.newAt rfl rfl) (by simp [Value.oneCell']) hroom (by simp; omega) ?_
           intro A2 c2 w2 hown2 hg2 hat2))
      go_roundw
      case rel =>
        refine ⟨k + 1, by omega, by omega, by go_num, A2, nc + 1, c2, m + q.length, us ++ [.slice A1 q.length c1], qs ++ [q], by go_num, by omega, rfl, by have := Hnk.out; omega, hown2, hps.snoc ⟨A1, c1, rfl, hpc, hl2, hr2⟩, Hcn.out, ?_⟩
        exact (hbel.alloc hs _).grown hg2 (by simp; omega) (fun j hj => (hown.lt j hj).1)
      case measure => simp [intOf]; omega
    · have hlt' : decide (k < vs.length) = false ∨ (k < vs.length ∧ 60 ≤ k) := by
        simp only [decide_eq_false_iff_not]; omega
      have hlen : us.length = nc := by have := hown.1; omega
      have hfl : qs.flatten.length ≤ 3000 := by
        have h1 := cutC_len 0 ps (by omega)
        rw [Hcut.out, List.flatten_append, List.length_append] at h1
        omega
      subst hlen
      clear hlt
      rcases hlt' with h1 | ⟨h1, h2⟩
      all_goals
        go_wp2
        go_ret
        exact ⟨Ac, cc, us, qs, rfl, hown, hps, hfl, by omega, hbel⟩
end Go.Proofs.Ytbndfejfhngeoaa
