/- The reference's Framer: Feed, Held. -/
import Derived.Test.YtbndfejfhngeoaaRefCut
import Derived.Test.YtbndfejfhngeoaaLook
namespace Go.Proofs.Ytbndfejfhngeoaa
open Go.RowKit

/-- the reference's Framer in memory -/
def RFr (w : World) (rb : Nat) (most : Int) (B : List UInt8) (told code : Nat) (A : Option Addr) (c : Nat) : Prop :=
  Blk w rb 39 #[.int .i64 most, .slice A B.length c, .int .i64 (told : Int), .int .i64 (code : Int)] ∧ w.ownsRow 0 5 1 (.slice A B.length c) B.length (bVs B)

theorem parts_drop {w : World} : ∀ {vs : List Value} {ps : List (List UInt8)} (k : Nat), Parts w vs ps → Parts w (vs.drop k) (ps.drop k)
  | [], [], k, _ => by simp [Parts]
  | _ :: _, _ :: _, 0, h => h
  | _ :: vs, _ :: ps, k + 1, h => by simpa using parts_drop k h.2
theorem frCells_drop : ∀ (fs : List (UInt8 × List UInt8)) (bs : List Value) (k : Nat), fs.length = bs.length → (frCells fs bs).drop (k * 2) = frCells (fs.drop k) (bs.drop k)
  | [], [], k, _ => by simp [frCells]
  | _ :: _, _ :: _, 0, _ => rfl
  | _ :: fs, _ :: bs, k + 1, h => by
    rw [show (k + 1) * 2 = k * 2 + 1 + 1 by omega]
    simp only [frCells, List.drop_succ_cons]
    exact frCells_drop fs bs k (by simpa using h)
  | [], _ :: _, _, h => by simp at h
  | _ :: _, [], _, h => by simp at h
theorem FrRead.drop {w : World} {A : Option Addr} {fs : List (UInt8 × List UInt8)} (h : FrRead w A fs) (k co : Nat) (hc : fs.length ≤ co) : FrRead w (if co = k then A else A.map (·.add (k * 2))) (fs.drop k) := by
  obtain ⟨bs, hr, hp⟩ := h
  have hlb : fs.length = bs.length := by simpa using hp.length.symm
  refine ⟨bs.drop k, ?_, by rw [List.map_drop]; exact parts_drop k hp⟩
  rw [← frCells_drop fs bs k hlb]
  split
  · refine Or.inl ?_
    rw [List.drop_eq_nil_iff, frCells_length fs bs hlb]; omega
  · exact hr.cut_ne (k * 2)

set_option maxRecDepth 100000 in
set_option maxHeartbeats 1000000 in
theorem ref_broken (rb c told code : Nat) (A : Option Addr) (most : Int) (B chunk : List UInt8) (w : World) (hf : RFr w rb most B told code A c) (hc : code ≠ 0) (Ac : Option Addr) (cc : Nat) :
    Calls Try.prog 16 #[.pointer (some ⟨rb, 0, none⟩), .slice Ac chunk.length cc] w fun e w' => e = .returned (.tuple #[.slice none 0 0, .int .i64 (code : Int)]) ∧ ∃ n, w' = w.drewN n := by
  have h3 := hf.1.cell 3
  simp at h3
  have hc' : ((code : Int) != 0) = true := by simp; omega
  clear hc
  go_enter Try.func16, Try.ntmps16
  go_wp2
  go_quiet (fail)
  go_wp2
  go_ret2
  exact ⟨rfl, _, rfl⟩

/-- Feed's answer -/
def RFeedPost (rb : Nat) (A : Option Addr) (most : Int) (B chunk : List UInt8) (told : Nat) (w : World) (e : Ending) (w' : World) : Prop :=
  ∃ (Ao A' : Option Addr) (co c' : Nat), e = .returned (.tuple #[.slice Ao ((feedS most (B ++ chunk)).1.length - told) co, .int .i64 ((feedS most (B ++ chunk)).2.2 : Nat)]) ∧ FrRead w' Ao ((feedS most (B ++ chunk)).1.drop told) ∧
    RFr w' rb most (B ++ chunk) (feedS most (B ++ chunk)).1.length (feedS most (B ++ chunk)).2.2 A' c' ∧ (∀ g, Value.ownBlock (.slice A' 0 0) = some g → Value.ownBlock (.slice A 0 0) = some g ∨ w.heap.size ≤ g) ∧ Kept (frS rb A) w w'

set_option maxRecDepth 100000 in
set_option maxHeartbeats 1000000 in
theorem ref_feed (rb c told : Nat) (A : Option Addr) (most : Int) (B chunk : List UInt8) (w : World) (hf : RFr w rb most B told 0 A c) (Ac : Option Addr) (cc : Nat) (hr : Row w Ac (bVs chunk)) (hsm : B.length + chunk.length ≤ 1099511627776)
    (htold : told ≤ (feedS most (B ++ chunk)).1.length) :
    Calls Try.prog 16 #[.pointer (some ⟨rb, 0, none⟩), .slice Ac chunk.length cc] w (RFeedPost rb A most B chunk told w) := by
  obtain ⟨hb, ho⟩ := hf
  have h1 := hb.cell 1
  have h3 := hb.cell 3
  simp at h1 h3
  have hn1 := own_ne_blk ho hb (by decide)
  have hl12 : (B ++ chunk).length = B.length + chunk.length := List.length_append
  go_enter Try.func16, Try.ntmps16
  have Hl12 := Lib.hid hl12
  clear hl12
  go_wp2_with (first
    | (at_builtin
       refine wpList_app stB rfl (.tmp 23) (.tmp 24) rfl rfl ho rfl (by rw [bVs_length]; omega) hr (one_bVs _) (by omega) (Nat.zero_le _) ?_
       intro A1 c1 w1 hown1 hg1 hat1
       have hb1 := hb.grown hg1 (Ne.symm hn1)
       have k0 := hb1.cell 1
       have k1 := hb1.frozen 1
       simp at k0))
  have hb2 := hb1.set_ 1 (.slice A1 (B.length + chunk.length) c1)
  simp only [List.setIfInBounds_toArray, List.set_cons_zero, List.set_cons_succ] at hb2
  have hkW : Kept (frS rb A) w (w1.setCell ⟨rb, 1, none⟩ (.slice A1 (B.length + chunk.length) c1)) :=
    Kept.setCell (S := frS rb A) (p := ⟨rb, 1, none⟩) (Kept.of_grown hg1 (fun k e _ => Or.inr (by rw [ownBlock_any] at e; exact e))) (Or.inr (Or.inl rfl)) _
  rw [← bVs_append] at hown1
  have hn2 := own_ne_blk hown1 hb1 (by decide)
  have hoW := (Kept.of_grown (S := (· = rb)) (grown_set w1 rb 1 (.slice A1 (B.length + chunk.length) c1)) (fun k e _ => by injection e with e; exact e.symm)).own hown1 (fun g hg e => hn2 (by rw [← e]; exact hg))
  have hs1 := hg1.size
  have hat : ∀ g, Value.ownBlock (.slice A1 0 0) = some g → Value.ownBlock (.slice A 0 0) = some g ∨ w.heap.size ≤ g := by
    intro g hg
    rw [ownBlock_any, ownBlock_any A] at hat1
    rcases hat1 with h | h
    · exact Or.inl (by rw [← h]; exact hg)
    · rw [h] at hg; injection hg with hg; exact Or.inr (by omega)
  generalize w1.setCell ⟨rb, 1, none⟩ (.slice A1 (B.length + chunk.length) c1) = W at *
  have x0 := hb2.cell 0
  have x1 := hb2.cell 1
  simp at x0 x1
  obtain ⟨hcc, hcm⟩ := own_cap hoW
  have hcut := refcut most A1 c1 (B ++ chunk)
  rw [Hl12.out] at hcut
  have Hcut := Lib.hid (fun n => hcut (W.drewN n) (Row.of_own hoW |>.drewN n) hcc hcm (by omega))
  have HW := Lib.hid (And.intro hkW (And.intro hb2 (And.intro hoW hat)))
  clear hcut hkW hb2 hoW hat hb1 hg1 hat1 hown1 k0 k1 hn2 h1 h3
  go_region_held3 (fun w' => w'.cell? ⟨rb, 0, none⟩ = some (.int .i64 most) ∧ w'.cell? ⟨rb, 1, none⟩ = some (.slice A1 (B.length + chunk.length) c1)) (go_keep)
    (first | (go_at_call 26; refine (Hcut.out 1).mono ?_; rintro e w2 ⟨Ao, co, at_, rfl, hfr, hbel, hco1, hco2, hat1, hat2⟩; have hB : Below W.heap.size W w2 := below_of_drew hbel; have hbk2 := HW.out.2.1.below hB HW.out.2.1.lt; have y0 := hbk2.cell 0; have y1 := hbk2.cell 1; have y2 := hbk2.cell 2; have y3 := hbk2.cell 3; have y4 := hbk2.frozen 2; have y5 := hbk2.frozen 3; (simp at y0 y1 y2 y3); have HB := Lib.hid hB; have Hfr := Lib.hid hfr; have Hbk2 := Lib.hid hbk2; (simp only [maxLen] at hco2); clear hbel hB hfr hbk2 hat2 hat1))
  go_wp2
  all_goals
    go_ret2
    have hb4 := (Hbk2.out.set_ 2 (.int .i64 ((feedS most (B ++ chunk)).1.length : Int))).set_ 3 (.int .i64 ((feedS most (B ++ chunk)).2.2 : Int))
    simp only [List.setIfInBounds_toArray, List.set_cons_zero, List.set_cons_succ] at hb4
    obtain ⟨hkW, hbW, hoW, hat⟩ := HW.out
    have hk2 : Kept (· = rb) W w2 := Kept.of_below HB.out
    have hk4 := Kept.setCell (S := (· = rb)) (p := ⟨rb, 3, none⟩) (Kept.setCell (S := (· = rb)) (p := ⟨rb, 2, none⟩) hk2 (Or.inr rfl) (.int .i64 ((feedS most (B ++ chunk)).1.length : Int))) (Or.inr rfl) (.int .i64 ((feedS most (B ++ chunk)).2.2 : Int))
    have hrb := hbW.lt
    have hk5 := Kept.setCell (S := (· = rb)) (p := ⟨rb, 3, none⟩) (Kept.setCell (S := (· = rb)) (p := ⟨rb, 2, none⟩) (Kept.refl _ w2) (Or.inr rfl) (.int .i64 ((feedS most (B ++ chunk)).1.length : Int))) (Or.inr rfl) (.int .i64 ((feedS most (B ++ chunk)).2.2 : Int))
    have hfr4 := (Hfr.out.kept hk5 (fun g hg e => by simp at hg; omega)).read.drop told co hco1
    refine ⟨_, A1, _, c1, rfl, ?_, ⟨?_, ?_⟩, hat, ?_⟩
    · first
        | (rw [if_pos (by assumption)] at hfr4; exact hfr4)
        | (rw [if_neg (by assumption)] at hfr4; exact hfr4)
    · rw [Hl12.out]; exact hb4
    · rw [Hl12.out]; exact hk4.own hoW (fun g hg e => own_ne_blk hoW hbW (by decide) (by rw [← e]; exact hg))
    · exact hkW.trans (hk4.mono fun k _ e => Or.inl e)
end Go.Proofs.Ytbndfejfhngeoaa
