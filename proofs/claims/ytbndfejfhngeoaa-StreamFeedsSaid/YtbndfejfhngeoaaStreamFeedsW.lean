/- The law StreamFeeds, walked. -/
import Derived.Test.YtbndfejfhngeoaaStreamFeeds
namespace Go.Proofs.Ytbndfejfhngeoaa
open Go.RowKit
attribute [local go_sem ↓] Go.wp_at_zero Go.wp_at_succ

theorem cell_row {w : World} {base : Nat} {e : TypeId} {n c b off k : Nat} {xs : List Value} {u : Value} (h : w.ownsRow base e 1 (.slice (some ⟨b, off, none⟩) n c) n xs) (hu : xs[k]? = some u) : w.cell? ⟨b, off + k, none⟩ = some u := by
  rcases Row.of_own h with h | ⟨b', off', e', h⟩
  · subst h; simp at hu
  · injection e' with e'; injection e' with e1 e2; subst e1 e2
    exact h k u hu
theorem FrRead.drew {w : World} {A : Option Addr} {fs : List (UInt8 × List UInt8)} (h : FrRead w A fs) : FrRead w.drew A fs := by
  obtain ⟨bs, h1, h2⟩ := h
  exact ⟨bs, h1.drew, h2.below ((Below.refl _ w).drew)⟩
/-- what was lent is not touched by feeding -/
theorem lent_far {w wr w3 w4 w5 : World} {base pb rb kb : Nat} {most : Int} {Ac : Option Addr} {cc : Nat} {us : List Value} {h B : List UInt8} {told cd : Nat} {A A' : Option Addr} {bs ss : List Value} {ls : List (List UInt8)} {q : List UInt8}
    (hl : Lent w3 wr.heap.size q) (hk4 : Kept (frS pb A) w3 w4) (hk5 : Kept (frS rb A') w4 w5) (I : FdInv w base pb rb kb most Ac cc us h B told cd A A' bs ss ls wr) (_I3 : FdInv w base pb rb kb most Ac cc us h B told cd A A' bs ss ls w3) : Lent w5 wr.heap.size q := by
  have hlo := I.lo
  obtain ⟨c, hf⟩ := I.fr
  obtain ⟨c', hr⟩ := I.rf
  refine (hl.kept hk4 ?_).kept hk5 ?_
  · rintro (hS | hS)
    · omega
    · have := (hf.2.lt _ (by rw [ownBlock_any]; exact hS)).2; omega
  · rintro (hS | hS)
    · omega
    · have := (hr.2.lt _ (by rw [ownBlock_any]; exact hS)).2; omega
set_option maxRecDepth 100000 in
set_option maxHeartbeats 4000000 in
theorem feeds (most : Int) (A0 : Option Addr) (cap0 : Nat) (vs : List Value) (ps : List (List UInt8)) (w : World) (hr : Row w A0 vs) (hp : Parts w vs ps) (hm : vs.length ≤ maxLen) :
    Calls Try.prog 4 #[.int .i64 most, .slice A0 vs.length cap0] w fun e w' => e = .returned (.bool true) ∧ Below w.heap.size w w' := by
  have hcut := Lib.hid (run_lawcut A0 cap0 vs ps w hr hp hm)
  clear hr hp
  go_enter Try.func4, Try.ntmps4
  go_wp2_with (first
    | (go_at_call 12; refine hcut.out.mono ?_; rintro e w1 ⟨Ac, cc, us, qs, rfl, hrow1, hus, hq3, hu60, hb1⟩)
    | (go_at_call 13; refine (run_new most _).mono ?_; rintro e w' ⟨rfl, rfl⟩)
    | (go_at_call 11; refine (wakes _).mono ?_; rintro e w2 ⟨rfl, hb2⟩))
  have I0 := fd_start (most := most) hrow1 hb1 hb2
  have hrel0 : FdRel w (w2.heap.size + 1) w1.heap.size w2.heap.size (w2.heap.size + 1) most Ac cc us qs 0 ((w2.alloc (.cells #[.int .i64 most, .slice none 0 0, .int .i64 0, .int .i64 0] 39)).alloc (.cells #[.slice none 0 0, .slice none 0 0, .slice none 0 0, .slice none 0 0, .slice none 0 0, .slice none 0 0] 44)) :=
    ⟨[], [], 0, 0, none, none, [], [], [], I0, by simp [feedS_nil], by simp [feedS_nil], fun _ => by simp [feedS_nil], by simp⟩
  have Hrel0 := Lib.hid hrel0
  have Hus := Lib.hid hus
  clear I0 hrel0 hrow1 hb1 hb2 hus
  generalize w1.heap.size = pb at *
  generalize hrb : w2.heap.size = rb at *
  go_loopw [8] (fun i wr => ∃ k : Nat, k ≤ us.length ∧ i = .int .i64 (k : Int) ∧ FdRel w (rb + 1) pb rb (rb + 1) most Ac cc us qs k wr) (fun i _ => us.length - (intOf i).toNat)
  case atStart => exact ⟨0, by omega, rfl, Hrel0.out⟩
  case round =>
    clear Hrel0 hrb
    obtain ⟨k, hk, rfl, hrel⟩ := hrel
    obtain ⟨h, B, told, cd, A, A', bs, ss, ls, I, hh, hcd, hcd0, hBl⟩ := hrel
    obtain ⟨c, hf⟩ := I.fr
    obtain ⟨c', hrf⟩ := I.rf
    have hrw := Row.of_own I.row
    by_cases hlt : k < us.length
    · obtain ⟨b, off, rfl, hcell⟩ := hrw.at' hlt
      obtain ⟨q, hqk, A1, c1, hv, hl1, hl2, hr1⟩ := Hus.out.at' hlt
      rw [hv] at hcell
      obtain ⟨hfl, hfm⟩ := feed_more most qs k q hqk
      have hq3000 : (qs.take (k + 1)).flatten.length ≤ 3000 := Nat.le_trans (flatten_take_le (k + 1)) hq3
      have hq1 : q.length ≤ 3000 := by rw [hfl, List.length_append] at hq3000; omega
      have hBk : (qs.take k).flatten.length + q.length ≤ 3000 := by rw [hfl, List.length_append] at hq3000; exact hq3000
      have hhq : h.length + q.length ≤ 1099511627776 := by
        have h1 := feedS_len most (qs.take k).flatten
        rw [← hh] at h1; omega
      have hBq : B.length + q.length ≤ 1099511627776 := by omega
      have Hrel1 := Lib.hid (show cd = 0 → told = (feedS most B).1.length ∧ h = (feedS most B).2.1 ∧ (feedS most B).2.2 = 0 from fun h0 => by
        obtain ⟨e1, e2⟩ := hcd0 h0
        rw [e1]
        exact ⟨e2, hh, by rw [← hcd]; exact h0⟩)
      have Hvk := Lib.hid (show us[k]? = some (.slice A1 q.length c1) by rw [List.getElem?_eq_getElem hlt, hv])
      have hlend := Lib.hid (klend A1 c1 q wr (hr1.below I.bel) (by omega))
      have hcell3 := Lib.hid hcell
      have Hst := Lib.hid (And.intro hh (And.intro hcd hcd0))
      have Hfl := Lib.hid hfl
      have Hfm := Lib.hid hfm
      have HI := Lib.hid I
      have hlo := I.lo
      clear hv hqk hh hcd hcd0 hfl hfm hq3000 hf hrf hrw
      clear I
      go_wp2_with (first
        | (go_at_call 14
           refine hlend.out.mono ?_
           rintro e w3 ⟨rfl, hlent, hb3⟩
           have z1 := cell_below hb3 hcell
           have HI3 := Lib.hid (HI.out.below hb3)
           have Hlent := Lib.hid hlent
           have hs3 := hb3.size
           have hg3 := hlent.lt
           clear hb3 hlent hcell)
        | (go_at_call 15
           obtain ⟨c3, hf3⟩ := HI3.out.fr
           refine (feed pb c3 A most cd h q w3 hf3 _ _ Hlent.out.row hhq).mono ?_
           rintro e w4 ⟨Ao, no, co, nb, A2, c2, rfl, hor, hnb, hap2, hA2, hf2, hk2⟩
           obtain ⟨c4, _, hrf4, _, hrow4, hbel4, _⟩ := HI3.out.fed hk2 hf2 hA2 rfl
           have hno : no = (feedC most cd h q).1.length := (by have h5 := hor.1; rw [frCells_length _ nb (by simpa using hnb.1.symm)] at h5; omega)
           subst hno
           have z2 : w4.cell? ⟨b, off + k, none⟩ = some (.slice A1 q.length c1) := cell_row hrow4 Hvk.out
           have H4 := Lib.hid (And.intro hor (And.intro hnb (And.intro hap2 (And.intro hA2 (And.intro hf2 hk2)))))
           have Hrf4 := Lib.hid hrf4
           have Hbel4 := Lib.hid hbel4
           clear hor hnb hap2 hA2 hf2 hk2 hrf4 hrow4 hbel4 hf3 z1)
        | (go_at_call 16
           refine (ref_any rb c4 told cd A' most B h q w4 Hrf4.out _ _ (hr1.below Hbel4.out) ?_ ?_).mono ?_
           (exact hBq)
           (exact Hrel1.out)
           rintro e w5 ⟨Ar, A2', cr, c2', told2, B2, rfl, hfr5, hrf5, hloc5, hk5, hB2l, hB2⟩
           have h4 := H4.out
           obtain ⟨I5, hor5, hnb5, hap5⟩ := HI3.out.step h4.2.2.2.2.2 h4.2.2.2.2.1 h4.2.2.2.1 h4.1 h4.2.1 h4.2.2.1 hk5 hrf5 hloc5
           have HI5 := Lib.hid I5
           have Hor5 := Lib.hid hor5
           have Hnb5 := Lib.hid hnb5
           have Hap5 := Lib.hid hap5
           have Hfr5 := Lib.hid hfr5
           have HB2 := Lib.hid (And.intro hB2l hB2)
           have z3 : w5.cell? ⟨b, off + k, none⟩ = some (.slice A1 q.length c1) := cell_row I5.row Hvk.out
           have Hlent5 := Lib.hid (lent_far Hlent.out h4.2.2.2.2.2 hk5 HI.out HI3.out)
           have Hk45 := Lib.hid (And.intro h4.2.2.2.1 (And.intro h4.2.2.2.2.2 (And.intro hloc5 hk5)))
           clear I5 hor5 hnb5 hap5 hfr5 hB2l hB2 hrf5 hloc5 hk5 h4 z2))
      obtain ⟨c5, hf5⟩ := HI5.out.fr
      obtain ⟨c6, hr5⟩ := HI5.out.rf
      have z4 := hr5.1.cell 3
      simp at z4
      have hst := Hst.out
      have hheld := held_len (B2 := B2) hst.1 hst.2.1 Hfm.out (fun h0 => by rw [(HB2.out.2 h0).1, (hst.2.2 h0).1]) feedC_zero
      have hfr5 : FrRead w5 Ao (feedC most cd h q).1 := ⟨nb, Row.of_own Hor5.out, Hnb5.out.parts⟩
      have hcode : (feedC most cd h q).2.2 = 0 ∨ (feedC most cd h q).2.2 = 129 ∨ (feedC most cd h q).2.2 = 149 := by
        rw [(feedC_state hst.1 hst.2.1 Hfm.out).2]; exact feedS_code most _ _ (Nat.le_refl _)
      have hB2l : B2.length ≤ 1099511627776 := by have := HB2.out.1; omega
      have hfsl : (feedC most cd h q).1.length ≤ 9223372036854775807 := by have := feedC_len most cd h q; omega
      have n1 : (((feedC most cd h q).2.2 : Int) != ((feedC most cd h q).2.2 : Int)) = false := by simp
      have n2 : (((feedC most cd h q).2.1.length : Int) != ((feedC most cd h q).2.1.length : Int)) = false := by simp
      obtain ⟨bz, hbz⟩ : ∃ bz : Bool, (!((feedC most cd h q).2.2 == 0)) = bz := ⟨_, rfl⟩
      have n3 : (((feedC most cd h q).2.2 : Int) != 0) = bz := by rw [← hbz, Bool.eq_iff_iff]; simp
      have n4 : (bz != bz) = false := by simp
      have i1 : (0 : Int) ≤ (k : Int) := by omega
      have i2 : (k : Int) < (us.length : Int) := by omega
      have Hfeed5 := Lib.hid hfr5
      have Hf5 := Lib.hid hf5
      have Hr5 := Lib.hid hr5
      have Hheld := Lib.hid hheld
      have Hcode := Lib.hid hcode
      have Hbz := Lib.hid hbz
      have hg5 : wr.heap.size ≠ rb := by omega
      have hgb : b < rb + 1 := HI5.out.rowB b rfl
      have hgb2 : wr.heap.size ≠ b := by omega
      clear hst hheld hfr5 hcode hf5 hr5 hbz
      go_region_held3 (fun w' => w'.cell? ⟨rb, 3, none⟩ = some (.int .i64 ((feedC most cd h q).2.2 : Nat)) ∧ w'.cell? ⟨b, off + k, none⟩ = some (.slice A1 q.length c1)) (go_keep)
        (first
          | (go_at_call 10; refine (same_true _ _ _ _ (feedC most cd h q).1 _ ?_ ?_ hfsl).mono ?_; (exact FrRead.drew Hfeed5.out); (exact FrRead.drew Hfr5.out); rintro e w' ⟨rfl, m6, rfl⟩)
          | (go_at_call 17; refine (run_num _ _).mono ?_; rintro e w' ⟨rfl, rfl⟩)
          | (go_at_call 19; refine (ref_held rb c6 told2 (feedC most cd h q).2.2 A2' most B2 _ ?_ Hcode.out hB2l Hheld.out.2).mono ?_; (exact Hr5.out); rintro e w6 ⟨rfl, hb6⟩; rw [Hheld.out.1]; have hB6 : Below w5.heap.size w5 w6 := ⟨hb6.os, hb6.tape, hb6.output, hb6.size, hb6.block⟩; have y1 := cell_below hB6 z3; have y2 := cell_below hB6 z4; have HB6 := Lib.hid hB6; clear hb6 hB6)
          | (go_at_call 20; refine (run_broken pb most (feedC most cd h q).2.2 (.slice A2 (feedC most cd h q).2.1.length c5) _ ?_).mono ?_; (exact Hf5.out.1.below HB6.out Hf5.out.1.lt); rintro e w' ⟨rfl, rfl⟩; rw [Hbz.out])
          | (go_at_call 21; refine (kback A1 c1 wr.heap.size q _ ?_ ?_ ?_).mono ?_; (exact Hlent5.out.kept (Kept.of_below (S := fun _ => False) HB6.out) id); (exact (hr1.below HI5.out.bel).below HB6.out); (omega); rintro e w7 ⟨rfl, hk7⟩; have x1 := hk7.cell (p := ⟨b, off + k, none⟩) y1 (fun e => hgb2 e.symm); have x2 := hk7.cell (p := ⟨rb, 3, none⟩) y2 (fun e => hg5 e.symm); have HK7 := Lib.hid hk7; clear hk7)
          | (go_at_call 18; refine (run_held pb c5 A2 most (feedC most cd h q).2.1 (.int .i64 ((feedC most cd h q).2.2 : Nat)) _ ?_).mono ?_; (exact Hf5.out.1); rintro e w' ⟨rfl, rfl⟩))
      have hk45 := Hk45.out
      have htell := fd_after HI.out hg3 hk45.2.1.size hk45.1 hk45.2.2.1 HI5.out Hor5.out Hnb5.out Hlent5.out HB6.out HK7.out
      have Htell := Lib.hid htell
      have hX : rb + 1 ≤ w3.heap.size := by omega
      clear hk45 htell x1 x2 y1 y2 z3 z4 n1 n2 n3 n4
      go_wp2
      go_loopw [14] (fun j wr' => ∃ m : Nat, m ≤ (feedC most cd h q).1.length ∧ j = .int .i64 (m : Int) ∧ TellRel w (rb + 1) pb rb (rb + 1) most (some ⟨b, off, none⟩) cc us (feedC most cd h q).2.1 B2 told2 (feedC most cd h q).2.2 A2 A2' w3.heap.size Ao (feedC most cd h q).1.length co (feedC most cd h q).1 nb m wr') (fun j _ => (feedC most cd h q).1.length - (intOf j).toNat)
      case atStart => exact ⟨0, by omega, rfl, Htell.out⟩
      case round =>
        clear Htell
        obtain ⟨m, hm2, rfl, hrel⟩ := hrel
        obtain ⟨bs2, ss2, ls2, I8, hor8, hnb8, hlb, hls⟩ := hrel
        by_cases hltm : m < (feedC most cd h q).1.length
        · have hmb : m < nb.length := by rw [hnb8.1]; simpa using hltm
          obtain ⟨x1, x2⟩ := frCells_at (feedC most cd h q).1 nb m hltm hmb
          obtain ⟨Ab, cb, hvb, hob⟩ := hnb8.2.1 m nb[m] ((feedC most cd h q).1[m].2) (List.getElem?_eq_getElem hmb) (by simp [hltm])
          have hbl := feedC_body most cd h q (feedC most cd h q).1[m] (List.getElem_mem hltm)
          have hrow8 := Row.of_own hor8
          rcases hrow8 with hrow8 | ⟨bo, offo, rfl, hrow8⟩
          · rw [hrow8] at x2; simp at x2
          have x3 := hrow8 _ _ x2
          rw [← Nat.add_assoc, hvb] at x3
          have hbody : ((feedC most cd h q).1[m]).2.length ≤ 3000 := by
            have h1 := feedS_len most (qs.take k).flatten
            rw [← Hst.out.1] at h1; omega
          have hvm : nb[m]? = some (.slice Ab ((feedC most cd h q).1[m]).2.length cb) := by rw [List.getElem?_eq_getElem hmb, hvb]
          have hkb := Lib.hid (kbytes (rb + 1) (rb + 1) bs2 ss2 ls2 Ab ((feedC most cd h q).1[m]).2 cb wr I8.bk I8.lo.2.2.2.1 (own_base hob hX) (fun i v g hv hg => hlb i m v _ g (Nat.le_refl _) hv hvm hg) (fun i v g hv hg => hls i m v _ g (Nat.le_refl _) hv hvm hg) (by omega))
          have Hvm := Lib.hid hvm
          have hx4 : wr.cell? ⟨bo, offo + m * 2 + 1, none⟩ = some (.slice Ab ((feedC most cd h q).1[m]).2.length cb) := x3
          clear x1 x2 x3 hvb hvm hbl hrow8 hob
          have hfin := Lib.hid (fun e w9 (hp9 : BytesPost (rb + 1) (rb + 1) bs2 ss2 ls2 (.slice Ab ((feedC most cd h q).1[m]).2.length cb) ((feedC most cd h q).1[m]).2 wr e w9) => tell_next hX I8 hor8 hnb8 Hap5.out hlb hls Hvm.out hbody hp9)
          clear hlb hls
          generalize ((feedC most cd h q).1[m]).2 = l9 at *
          go_wp2_with (go_at_call 22; refine hkb.out.mono ?_; rintro e w9 hp9; have hnx := hfin.out e w9 hp9; have he9 := hp9.1; subst he9; have Hnx := Lib.hid hnx; clear hnx hp9)
          go_roundw
          case rel => exact ⟨m + 1, by omega, by go_num, Hnx.out⟩
          case measure => simp [intOf]; omega
        · go_wp2
          go_roundw
          case rel =>
            have hst := Hst.out
            obtain ⟨f1, f2⟩ := feedC_state hst.1 hst.2.1 Hfm.out
            refine ⟨k + 1, by omega, by go_num, (feedC most cd h q).2.1, B2, told2, (feedC most cd h q).2.2, A2, A2', bs2, ss2, ls2, I8, by rw [Hfl.out]; exact f1, by rw [Hfl.out]; exact f2, fun h0 => ?_, by rw [Hfl.out, List.length_append]; have := HB2.out.1; have := hst.2.2; omega⟩
            obtain ⟨g1, g2⟩ := HB2.out.2 (feedC_zero h0)
            obtain ⟨g3, g4⟩ := hst.2.2 (feedC_zero h0)
            rw [Hfl.out, g2, g1, g3]
            exact ⟨rfl, rfl⟩
          case measure => simp [intOf]; omega
    · go_wp2_with (go_at_call 23; refine (kcloseAll _ _ bs ss ls _ I.bk I.lo.2.2.2.1 (fun l hl => by have := I.sz l hl; omega)).mono ?_; rintro e w3 ⟨rfl, hb3⟩)
      go_ret
      exact ⟨rfl, I.bel.trans (hb3.mono I.lo.2.2.1)⟩
end Go.Proofs.Ytbndfejfhngeoaa
