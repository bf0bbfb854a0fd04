/- The walk of the law StreamPieces: it returns true and writes nothing that was there. -/
import Derived.Test.YtbndfejfhngeoaaWakes
import Derived.Test.YtbndfejfhngeoaaKeep
import Derived.Test.YtbndfejfhngeoaaPieceLaw
namespace Go.Proofs.Ytbndfejfhngeoaa
open Go.RowKit

theorem Parts.snoc {w : World} : ∀ {vs : List Value} {ps : List (List UInt8)} {v : Value} {p : List UInt8}, Parts w vs ps → SlB w v p → Parts w (vs ++ [v]) (ps ++ [p])
  | [], [], _, _, _, h => ⟨h, trivial⟩
  | _ :: _, _ :: _, _, _, h, h' => ⟨h.1, Parts.snoc h.2 h'⟩
theorem Parts.one {w : World} : ∀ {vs : List Value} {ps : List (List UInt8)}, Parts w vs ps → ∀ u ∈ vs, u.oneCell' = true
  | [], [], _, u, hu => by simp at hu
  | v :: vs, _ :: _, h, u, hu => by
    rcases List.mem_cons.1 hu with rfl | hu
    · obtain ⟨A, c, rfl, _⟩ := h.1; rfl
    · exact Parts.one h.2 u hu

/-- what holds at the head of the law's loop -/
def PcRel (b : List UInt8) (w : World) (k : Nat) (chunks rest : Value) (wr : World) : Prop :=
  ∃ (Ac Ar : Option Addr) (nc cc cr : Nat) (vs : List Value) (ps : List (List UInt8)) (r : List UInt8), chunks = .slice Ac nc cc ∧ rest = .slice Ar r.length cr ∧ nc = k ∧ ps.flatten ++ r = b ∧
    wr.ownsRow w.heap.size 22 1 (.slice Ac nc cc) nc vs ∧ Parts w vs ps ∧ Row w Ar (bVs r) ∧ r.length ≤ cr ∧ cr ≤ maxLen ∧ Below w.heap.size w wr
theorem pc_next {b r : List UInt8} {w wr w2 : World} {k n cc cr c2 nc : Nat} {Ac Ar A2 A3 : Option Addr} {c3 : Nat} {vs : List Value} {ps : List (List UInt8)} {o : Obj}
    (hfl : ps.flatten ++ r = b) (hown : wr.ownsRow w.heap.size 22 1 (.slice Ac nc cc) nc vs) (hk : nc = k) (hp : Parts w vs ps) (hr : Row w Ar (bVs r)) (hrc : r.length ≤ cr) (hcm : cr ≤ maxLen) (hbel : Below w.heap.size w wr)
    (hn : n ≤ r.length) (hown2 : w2.ownsRow w.heap.size 22 1 (.slice A2 (nc + 1) c2) (nc + 1) (vs ++ [.slice Ar n cr])) (hg : (wr.alloc o).grownBy w2 (Value.ownBlock (.slice Ac nc cc)))
    (hc3 : c3 = cr - n) (hA3 : A3 = if cr = n then Ar else Ar.map (·.add n)) : PcRel b w (k + 1) (.slice A2 (nc + 1) c2) (.slice A3 (r.length - n) c3) w2 := by
  have hl : (r.drop n).length = r.length - n := by simp
  have ht : (r.take n).length = n := by simp; omega
  refine ⟨A2, A3, nc + 1, c2, c3, vs ++ [.slice Ar n cr], ps ++ [r.take n], r.drop n, rfl, by rw [hl], by omega, ?_, hown2, ?_, ?_, by omega, by omega, ?_⟩
  · rw [← hfl]; simp
  · exact hp.snoc ⟨Ar, cr, by rw [ht], by omega, hcm, by rw [bVs_take]; exact hr.take n⟩
  · rw [bVs_drop]
    subst hA3
    split
    · rename_i h1; exact Row.cut_eq (by rw [bVs_length]; exact hrc) h1
    · exact hr.cut_ne n
  · exact (hbel.alloc hbel.size _).grown hg (by have := hbel.size; simp; omega) (fun j hj => (hown.lt j hj).1)

theorem all' (A : Option Addr) (cap n : Nat) (most : Int) (vs : List Value) (ps : List (List UInt8)) (q : List (UInt8 × List UInt8) × List UInt8 × Nat) (w : World) (hn : vs.length = n) (hq : allS most 0 [] ps = q) (hr : Row w A vs) (hp : Parts w vs ps) (hsm : ps.flatten.length ≤ 1099511627776) (hm : n ≤ 9223372036854775807) :
    Calls Try.prog 8 #[.int .i64 most, .slice A n cap] w fun e w' => ∃ Ao co, e = .returned (.tuple #[.slice Ao q.1.length co, .int .i64 (q.2.2 : Nat)]) ∧ FrRead w' Ao q.1 ∧ Below w.heap.size w w' := by
  subst hn hq
  exact (all A cap most vs ps w hr hp hsm hm).mono fun _ _ h => h.read

set_option maxRecDepth 100000 in
set_option maxHeartbeats 2000000 in
theorem pieces (most : Int) (A As : Option Addr) (l : List UInt8) (cap caps : Nat) (zs : List Int) (w : World) (hr : Row w A (bVs l)) (hc : l.length ≤ cap) (hm : cap ≤ maxLen) (hrs : Row w As (zs.map (Value.int .i64)))
    (hms : zs.length ≤ maxLen) (hz : ∀ n ∈ zs, (Lit.int .i64 n).wf = true) :
    Calls Try.prog 3 #[.int .i64 most, .slice A l.length cap, .slice As zs.length caps] w fun e w' => e = .returned (.bool true) ∧ Below w.heap.size w w' := by
  have hcut := Lib.hid (run_cutB A l cap 3000 w hc hm (by omega))
  have hl3 : (l.take 3000).length ≤ 3000 := by simp; omega
  have hrb : Row w A (bVs (l.take 3000)) := by rw [bVs_take]; exact hr.take _
  have hlc : (l.take 3000).length ≤ cap := by simp; omega
  clear hr hc
  generalize l.take 3000 = b at *
  unfold maxLen at hm hms
  go_enter Try.func3, Try.ntmps3
  go_wp2_with (first
    | (go_at_call 7; refine hcut.out.mono ?_; rintro e w' ⟨rfl, rfl⟩)
    | (go_at_call 8
       refine (all _ _ most [.slice A b.length cap] [b] _ (Row.newAt rfl rfl) ⟨⟨_, _, rfl, hlc, by simp only [maxLen]; omega, hrb.alloc _⟩, trivial⟩ (by simp; omega) (by simp)).mono ?_
       intro e w1 hp
       obtain ⟨Ao, co, rfl, hfr, hbel⟩ := hp.read
       have hB : Below w.heap.size w w1 := ((Below.refl _ w).alloc (Nat.le_refl _) _).trans (hbel.mono (by simp))
       have HB := Lib.hid hB
       have Hfr := Lib.hid hfr
       clear hbel hB hfr hp))
  have hrel0 : PcRel b w1 0 (.slice none 0 0) (.slice A b.length cap) w1 :=
    ⟨none, A, 0, 0, cap, [], [], b, rfl, rfl, rfl, by simp, World.ownsRow_nil _ _ _ _, trivial, hrb.below HB.out, hlc, by simp only [maxLen]; omega, Below.refl _ _⟩
  have hrs1 := hrs.below HB.out
  have Hrel0 := Lib.hid hrel0
  clear hrel0 hrs hrb
  generalize hq : allS most 0 [] [b] = q at *
  have Hq := Lib.hid hq
  clear hq
  go_loopw [9, 10, 11] (fun ch rest i wr => ∃ k : Nat, k ≤ zs.length ∧ k ≤ 200 ∧ i = .int .i64 (k : Int) ∧ PcRel b w1 k ch rest wr) (fun _ _ i _ => 200 - (intOf i).toNat)
  case atStart => exact ⟨0, by omega, by omega, rfl, Hrel0.out⟩
  case round =>
    clear Hrel0
    obtain ⟨k, hk, hk2, rfl, hrel⟩ := hrel
    obtain ⟨Ac, Ar, nc, cc, cr, vs, ps, r, rfl, rfl, hnk, hfl, hown, hp, hrr, hrc, hcm, hbel⟩ := hrel
    have hrb : r.length ≤ b.length := by rw [← hfl]; simp
    have hcm' : cr ≤ 9223372036854775807 := by simp only [maxLen] at hcm; omega
    have Hfl := Lib.hid hfl
    have Hnk := Lib.hid hnk
    have hnc : nc ≤ 200 := by omega
    clear hfl hnk
    by_cases hlt : k < zs.length ∧ k < 200
    · obtain ⟨hlt, hlt2⟩ := hlt
      obtain ⟨bb, off, rfl, hcell⟩ := (hrs1.below hbel).at' (i := k) (by simpa using hlt)
      obtain ⟨zl, zh⟩ := bounds64 (hz zs[k] (List.getElem_mem hlt))
      simp only [List.getElem_map] at hcell
      generalize zs[k] = z at *
      have hroom : (nc + 1) * 24 ≤ 140737488355328 := by omega
      go_wp2_with (first
        | (go_at_call 9; refine (run_within0 z r.length wr (by omega) zl zh).mono ?_; rintro e w' ⟨n, rfl, hn, rfl⟩)
        | (at_builtin
           refine wpList_app stBB rfl (.tmp 42) (.tmp 46) rfl rfl (hown.alloc _) rfl (by rfl) (Row.newAt rfl rfl) (by simp [Value.oneCell']) hroom (by have := hbel.size; simp; omega) ?_
           intro A2 c2 w2 hown2 hg2 hat2))
      all_goals
        go_roundw
        case rel => exact ⟨k + 1, by omega, by omega, by go_num, pc_next Hfl.out hown Hnk.out hp hrr hrc hcm hbel (by assumption) hown2 hg2 (by omega) rfl⟩
        case measure => simp [intOf]; omega
    · have hroom : (nc + 1) * 24 ≤ 140737488355328 := by omega
      have hdec : decide (k < zs.length) = false ∨ decide (k < 200) = false := by
        simp only [decide_eq_false_iff_not]; omega
      have hlast : ∀ w2 A2 c2, (wr.alloc (.cells #[.slice Ar r.length cr] 22)).grownBy w2 (Value.ownBlock (.slice Ac nc cc)) → w2.ownsRow w1.heap.size 22 1 (.slice A2 (nc + 1) c2) (nc + 1) (vs ++ [.slice Ar r.length cr]) →
          Below w1.heap.size w1 w2 ∧ Row w2 A2 (vs ++ [.slice Ar r.length cr]) ∧ Parts w2 (vs ++ [.slice Ar r.length cr]) (ps ++ [r]) ∧ (ps ++ [r]).flatten = b ∧ (vs ++ [Value.slice Ar r.length cr]).length = nc + 1 := by
        intro w2 A2 c2 hg ho
        have hB2 : Below w1.heap.size w1 w2 := (hbel.alloc hbel.size _).grown hg (by have := hbel.size; simp; omega) (fun j hj => (hown.lt j hj).1)
        refine ⟨hB2, Row.of_own ho, (hp.snoc ⟨Ar, cr, rfl, hrc, hcm, hrr⟩).below hB2, by simpa using Hfl.out, by have := ho.1; omega⟩
      have Hlast := Lib.hid hlast
      clear hlast hdec
      have hqe : ((q.2.2 : Int) == (q.2.2 : Int)) = true := by simp
      have hql : q.1.length ≤ 9223372036854775807 := by
        have := feedC_len most 0 [] b
        have h2 : q.1.length ≤ (feedC most 0 [] b).1.length := by rw [← Hq.out]; simp [allS]
        simp at this; omega
      have hlt' : decide (k < zs.length) = false ∨ (k < zs.length ∧ 200 ≤ k) := by
        simp only [decide_eq_false_iff_not]; omega
      clear hlt
      rcases hlt' with hd | ⟨hd, hd2⟩
      all_goals
        go_wp2_with (first
          | (at_builtin
             refine wpList_app stBB rfl (.tmp 51) (.tmp 53) rfl rfl (hown.alloc _) rfl (by rfl) (Row.newAt rfl rfl) (by simp [Value.oneCell']) hroom (by have := hbel.size; simp; omega) ?_
             intro A2 c2 w2 hown2 hg2 hat2
             obtain ⟨l1, l2, l3, l4, l5⟩ := Hlast.out w2 A2 c2 hg2 hown2
             have L1 := Lib.hid l1
             have L4 := Lib.hid l4
             have L5 := Lib.hid l5
             clear l1 l4 l5 hg2 hown2 hat2)
          | (go_at_call 8
             refine (all' _ _ (nc + 1) most _ (ps ++ [r]) q _ L5.out ((allS_pieces most _ b L4.out).trans Hq.out) l2 l3 (by rw [L4.out]; omega) (by omega)).mono ?_
             rintro e w3 ⟨Ao2, co2, rfl, hfr2, hbel2⟩
             have HB3 := Lib.hid hbel2
             have Hfr2 := Lib.hid hfr2
             clear hbel2 hfr2)
          | (go_at_call 10
             refine (same_true _ _ _ _ q.1 _ ?_ ?_ hql).mono ?_
             (obtain ⟨bs, f1, f2⟩ := Hfr.out; have hb3 := L1.out.trans (HB3.out.mono L1.out.size); exact ⟨bs, f1.below hb3, f2.below hb3⟩)
             (exact Hfr2.out)
             rintro e w4 ⟨rfl, n4, rfl⟩)
          | (go_at_call 11
             refine (wakes _).mono ?_
             rintro e w5 ⟨rfl, hbel5⟩))
        go_ret
        refine ⟨rfl, ?_⟩
        have s1 := HB.out.size
        have s2 := L1.out.size
        have s3 := HB3.out.size
        exact HB.out.trans ((L1.out.mono s1).trans ((HB3.out.mono (by omega)).trans ((bel_drewN (Below.refl _ _) _).trans (hbel5.mono (by simp; omega)))))
end Go.Proofs.Ytbndfejfhngeoaa
