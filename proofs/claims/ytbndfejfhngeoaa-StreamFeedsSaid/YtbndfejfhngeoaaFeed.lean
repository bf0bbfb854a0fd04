/- (*stream.Framer).Feed. -/
import Derived.Test.YtbndfejfhngeoaaFeedS
import Derived.Test.YtbndfejfhngeoaaBods
import Derived.BigQuiet
import Derived.Deep.LoopGhost
namespace Go.Proofs.Ytbndfejfhngeoaa
open Go.RowKit

theorem stF : SliceT Try.prog 25 54 (.agg #[.int .u8 0, .slice none 0 0]) 2 32 :=
  sliceT_mk Try.underlying25 (by kernel_rfl) rfl (by omega) (by omega)

/-- the cells of frames -/
def frCells : List (UInt8 × List UInt8) → List Value → List Value
  | f :: fs, v :: bs => bV f.1 :: v :: frCells fs bs
  | _, _ => []
theorem frCells_snoc : ∀ (fs : List (UInt8 × List UInt8)) (bs : List Value) (f : UInt8 × List UInt8) (v : Value), fs.length = bs.length → frCells (fs ++ [f]) (bs ++ [v]) = frCells fs bs ++ [bV f.1, v]
  | [], [], _, _, _ => rfl
  | _ :: fs, _ :: bs, f, v, h => by simp [frCells, frCells_snoc fs bs f v (by simpa using h)]
  | [], _ :: _, _, _, h => by simp at h
  | _ :: _, [], _, _, h => by simp at h
/-- a Framer in memory -/
def Framer (w : World) (base pb : Nat) (most : Int) (h : List UInt8) (code : Nat) (A : Option Addr) (c : Nat) : Prop :=
  Blk w pb 59 #[.int .i64 most, .slice A h.length c, .int .i64 (code : Int)] ∧ w.ownsRow base 5 1 (.slice A h.length c) h.length (bVs h)

/-- which blocks a Framer takes -/
def frS (pb : Nat) (A : Option Addr) (k : Nat) : Prop := k = pb ∨ Value.ownBlock (.slice A 0 0) = some k

/-- Feed's answer -/
def FeedPost (pb : Nat) (A : Option Addr) (most : Int) (code : Nat) (h chunk : List UInt8) (w : World) (e : Ending) (w' : World) : Prop :=
  ∃ Ao no co bs A' c', e = .returned (.tuple #[.slice Ao no co, .int .i64 ((feedC most code h chunk).2.2 : Nat)]) ∧
    w'.ownsRow w.heap.size 54 2 (.slice Ao no co) no (frCells (feedC most code h chunk).1 bs) ∧
    Bods w' w.heap.size bs ((feedC most code h chunk).1.map (·.2)) ∧
    (∀ (i : Nat) (v : Value) (g : Nat), bs[i]? = some v → v.ownBlock = some g → Value.ownBlock (.slice A' 0 0) ≠ some g) ∧
    (∀ g, Value.ownBlock (.slice A' 0 0) = some g → w.heap.size ≤ g ∨ (code ≠ 0 ∧ A' = A)) ∧
    Framer w' 0 pb most (feedC most code h chunk).2.1 (feedC most code h chunk).2.2 A' c' ∧ Kept (frS pb A) w w'

theorem run_broken (pb : Nat) (most : Int) (code : Nat) (v : Value) (w : World) (hb : Blk w pb 59 #[.int .i64 most, v, .int .i64 (code : Int)]) :
    Calls Try.prog 20 #[.pointer (some ⟨pb, 0, none⟩)] w fun e w' => e = .returned (.bool (!(code == 0))) ∧ w = w' := by
  have h2 := hb.cell 2
  simp at h2
  by_cases hc : code = 0
  · subst hc
    go_enter Try.func20, Try.ntmps20
    go_wp2
    go_ret
    exact ⟨rfl, rfl⟩
  · have hc' : ((code : Int) != 0) = true := by simp; omega
    have hc2 : (!(code == 0)) = true := by simp; omega
    rw [hc2]
    clear hc hc2
    go_enter Try.func20, Try.ntmps20
    go_wp2
    go_ret
    exact ⟨rfl, rfl⟩

set_option maxRecDepth 100000 in
set_option maxHeartbeats 1000000 in
theorem feed_broken (pb base c : Nat) (A : Option Addr) (most : Int) (code : Nat) (h chunk : List UInt8) (w : World) (hf : Framer w base pb most h code A c) (hc : code ≠ 0) (Ac : Option Addr) (cc : Nat) :
    Calls Try.prog 15 #[.pointer (some ⟨pb, 0, none⟩), .slice Ac chunk.length cc] w (FeedPost pb A most code h chunk w) := by
  obtain ⟨hb, ho⟩ := hf
  have hbr := run_broken pb most code _ w hb
  rw [show (!(code == 0)) = true by simp [hc]] at hbr
  have h2 := hb.cell 2
  simp at h2
  have Hbr := Lib.hid hbr
  clear hbr
  have hfc := Lib.hid (show feedC most code h chunk = ([], h, code) by simp [feedC, hc])
  have Hc := Lib.hid hc
  clear hc
  go_enter Try.func15, Try.ntmps15
  go_wp2_with (go_at_call 20; refine Hbr.out.mono ?_; rintro e w' ⟨rfl, rfl⟩)
  go_quiet (fail)
  go_wp2
  go_ret2
  unfold FeedPost
  rw [hfc.out]
  refine ⟨none, 0, 0, [], A, c, rfl, World.ownsRow_nil _ _ _ _, Bods.nil' _ _, by simp, fun g _ => Or.inr ⟨Hc.out, rfl⟩, ?_, ?_⟩
  · exact ⟨hb, own_base ho (Nat.zero_le _)⟩
  · exact (Kept.refl _ w).drewN _

theorem frCells_length : ∀ (fs : List (UInt8 × List UInt8)) (bs : List Value), fs.length = bs.length → (frCells fs bs).length = fs.length * 2
  | [], [], _ => rfl
  | _ :: fs, _ :: bs, h => by simp [frCells, frCells_length fs bs (by simpa using h)]; omega
  | [], _ :: _, h => by simp at h
  | _ :: _, [], h => by simp at h

/-- what holds at the head of Feed's loop -/
def FeedRel (pb B : Nat) (most : Int) (H0 : List UInt8) (w1 : World) (k : Nat) (out : Value) (wr : World) : Prop :=
  ∃ (A Ao : Option Addr) (c no co : Nat) (h : List UInt8) (fs : List (UInt8 × List UInt8)) (bs : List Value),
    k = h.length ∧ out = .slice Ao no co ∧ Blk wr pb 59 #[.int .i64 most, .slice A h.length c, .int .i64 0] ∧ Row wr A (bVs h) ∧ (∀ b off, A = some ⟨b, off, none⟩ → b < B) ∧
    h.length ≤ c ∧ c ≤ maxLen ∧ wr.ownsRow B 54 2 (.slice Ao no co) no (frCells fs bs) ∧ Bods wr B bs (fs.map (·.2)) ∧
    2 * fs.length + h.length ≤ H0.length ∧ feedS most H0 = (fs ++ (feedS most h).1, (feedS most h).2) ∧ Kept (· = pb) w1 wr

theorem feed_end {pb c no co c3 code : Nat} {A Ao A3 : Option Addr} {most : Int} {h chunk hh : List UInt8} {w w1 wr w4 : World} {fs : List (UInt8 × List UInt8)} {bs : List Value} {cs : Array Value}
    (hg1 : w.grownBy w1 (Value.ownBlock (.slice A h.length c))) (hkept : Kept (· = pb) w1 wr) (hk4 : Kept (· = pb) wr w4)
    (hown : wr.ownsRow w1.heap.size 54 2 (.slice Ao no co) no (frCells fs bs)) (hbods : Bods wr w1.heap.size bs (fs.map (·.2))) (hbk : Blk wr pb 59 cs)
    (hfin : feedS most (h ++ chunk) = (fs, hh, code)) (hb4 : Blk w4 pb 59 #[.int .i64 most, .slice A3 hh.length c3, .int .i64 (code : Nat)])
    (ho4 : w4.ownsRow wr.heap.size 5 1 (.slice A3 hh.length c3) hh.length (bVs hh)) :
    FeedPost pb A most 0 h chunk w (.returned (.tuple #[.slice Ao no co, .int .i64 (code : Nat)])) w4 := by
  have hfc : feedC most 0 h chunk = (fs, hh, code) := by simp [feedC, hfin]
  have hn1 := own_ne_blk hown hbk (by decide)
  have hs1 := hg1.size
  have hs2 := hkept.size
  unfold FeedPost
  rw [hfc]
  have hbods4 : Bods w4 w1.heap.size bs (fs.map (·.2)) := by
    refine hbods.kept hk4 (fun i v g hv hg e => ?_)
    obtain ⟨hl, h2, h3⟩ := hbods
    have hi : i < (fs.map (·.2)).length := by rw [← hl]; exact (List.getElem?_eq_some_iff.1 hv).1
    obtain ⟨A', c', rfl, ho⟩ := h2 i v _ hv (List.getElem?_eq_getElem hi)
    exact own_ne_blk ho hbk (by decide) (by rw [← e]; exact hg)
  refine ⟨Ao, no, co, bs, A3, c3, rfl, own_base (hk4.own hown (fun g hg e => hn1 (by rw [← e]; exact hg))) hs1, ?_, ?_, ?_, ⟨hb4, own_base ho4 (Nat.zero_le _)⟩, ?_⟩
  · refine ⟨hbods4.1, fun i v l hv hl => ?_, hbods4.2.2⟩
    obtain ⟨A', c', e, ho⟩ := hbods4.2.1 i v l hv hl
    exact ⟨A', c', e, own_base ho hs1⟩
  · intro i v g hv hg e
    have h1 := hbods.lt hv hg
    have h2 : wr.heap.size ≤ g := by
      rcases A3 with _ | a
      · cases e
      · exact (ho4.lt g e).1
    omega
  · intro g e
    have h2 : wr.heap.size ≤ g := by
      rcases A3 with _ | a
      · cases e
      · exact (ho4.lt g e).1
    omega
  · have k1 : Kept (frS pb A) w w1 := Kept.of_grown hg1 (fun k e _ => Or.inr (by cases A <;> exact e))
    exact k1.trans ((hkept.mono fun k _ e => Or.inl e).trans (hk4.mono fun k _ e => Or.inl e))

theorem feed_next {pb no co ch n b off c5 c6 c7 : Nat} {Ao A5 A6 A7 : Option Addr} {most : Int} {H0 hc body : List UInt8} {x : UInt8} {w1 wr w2 w3 : World} {o1 : Obj} {fs : List (UInt8 × List UInt8)} {bs : List Value}
    (hkept : Kept (· = pb) w1 wr) (hbk : Blk wr pb 59 #[.int .i64 most, .slice (some ⟨b, off, none⟩) hc.length ch, .int .i64 0]) (hrow : Row wr (some ⟨b, off, none⟩) (bVs hc))
    (hlt : ∀ b' off', some (⟨b, off, none⟩ : Addr) = some ⟨b', off', none⟩ → b' < w1.heap.size) (hcc : hc.length ≤ ch) (hcm : ch ≤ maxLen)
    (hown : wr.ownsRow w1.heap.size 54 2 (.slice Ao no co) no (frCells fs bs)) (hbods : Bods wr w1.heap.size bs (fs.map (·.2)))
    (hlen : 2 * fs.length + hc.length ≤ H0.length) (hfd : feedS most H0 = (fs ++ (feedS most hc).1, (feedS most hc).2)) (hfs : frameS most hc = .inr (x, body, n))
    (hbel : Below wr.heap.size wr w2) (hown5 : w2.ownsRow wr.heap.size 5 1 (.slice A5 body.length c5) body.length (bVs body))
    (hg3 : ((w2.alloc o1).alloc (.cells #[bV x, .slice A5 body.length c5] 54)).grownBy w3 (Value.ownBlock (.slice Ao no co)))
    (hown3 : w3.ownsRow w1.heap.size 54 2 (.slice A6 (no + 1) c6) (no + 1) (frCells fs bs ++ [bV x, .slice A5 body.length c5]))
    (hc7 : c7 = ch - n) (hA7 : (ch = n ∧ A7 = some ⟨b, off, none⟩) ∨ A7 = some ⟨b, off + n, none⟩) :
    FeedRel pb w1.heap.size most H0 w1 (hc.length - n) (.slice A6 (no + 1) c6) (w3.setCell ⟨pb, 1, none⟩ (.slice A7 (hc.length - n) c7)) := by
  obtain ⟨n2, nl, _, _⟩ := frameS_inr hfs
  have hlb : fs.length = bs.length := by simpa using hbods.1.symm
  have hs0 := hkept.size
  have hs2 := hbel.size
  have hbl : b < w1.heap.size := hlt b off rfl
  have hnb := hrow.ne_blk hbk (by
    intro u hu hm
    simp only [bVs, List.mem_map] at hu
    obtain ⟨c, _, rfl⟩ := hu
    simp [bV] at hm)
  have hbp : b ≠ pb := by
    rcases hnb with h | h
    · have := congrArg List.length h; rw [bVs_length] at this; simp at this; subst this; simp at nl; omega
    · exact h b off rfl
  have hn1 := own_ne_blk hown hbk (by decide)
  have hgo : ∀ g, Value.ownBlock (.slice Ao no co) = some g → w1.heap.size ≤ g ∧ g < wr.heap.size := fun g hg => hown.lt g hg
  -- from wr on: only the row of frames, and the Framer, have turned
  have hk3 : Kept (fun k => Value.ownBlock (.slice Ao no co) = some k) wr w3 :=
    ((Kept.of_below hbel).alloc o1 |>.alloc _).trans (Kept.of_grown hg3 (fun k e _ => e))
  have hk4 : Kept (fun k => Value.ownBlock (.slice Ao no co) = some k ∨ k = pb) wr (w3.setCell ⟨pb, 1, none⟩ (.slice A7 (hc.length - n) c7)) :=
    Kept.setCell (S := fun k => Value.ownBlock (.slice Ao no co) = some k ∨ k = pb) (p := ⟨pb, 1, none⟩) (hk3.mono (fun _ _ h => Or.inl h)) (Or.inr (Or.inr rfl)) _
  have hb3 : Blk w3 pb 59 _ := hk3.blk hbk hn1
  have hb4 := hb3.set_ 1 (.slice A7 (hc.length - n) c7)
  simp only [List.setIfInBounds_toArray, List.set_cons_zero, List.set_cons_succ] at hb4
  have hl : (hc.drop n).length = hc.length - n := by simp
  have hset : Kept (· = pb) w3 (w3.setCell ⟨pb, 1, none⟩ (.slice A7 (hc.length - n) c7)) := (Kept.refl (· = pb) w3).setCell (p := ⟨pb, 1, none⟩) (Or.inr rfl) _
  have hn6 := own_ne_blk hown3 hb3 (by decide)
  refine ⟨A7, A6, c7, no + 1, c6, hc.drop n, fs ++ [(x, body)], bs ++ [.slice A5 body.length c5], hl.symm, rfl, by rw [hl]; exact hb4, ?_, ?_, by omega, by omega, ?_, ?_, ?_, ?_, ?_⟩
  · have hr4 : Row (w3.setCell ⟨pb, 1, none⟩ (.slice A7 (hc.length - n) c7)) (some ⟨b, off, none⟩) (bVs hc) := hk4.row hrow (Or.inr fun b' off' e => by
      injection e with e; injection e with e1 e2; subst e1 e2
      rintro (h | h)
      · have := (hgo _ h).1; omega
      · exact hbp h)
    rcases hA7 with ⟨h1, h2⟩ | h2
    · refine Or.inl (List.eq_nil_of_length_eq_zero ?_)
      rw [bVs_length, hl]; omega
    · subst h2
      have := hr4.drop n
      simpa [bVs] using this
  · intro b' off' e
    rcases hA7 with ⟨h1, h2⟩ | h2
    · subst h2; exact hlt b' off' e
    · subst h2; injection e with e; injection e with e1 e2; subst e1; exact hbl
  · rw [frCells_snoc _ _ _ _ hlb]
    exact hset.own hown3 (fun g hg e => hn6 (by rw [← e]; exact hg))
  · rw [List.map_append]
    have h5 := hbods.snoc (l := body) hbel hown5 hs0
    refine h5.kept (S := fun k => Value.ownBlock (.slice Ao no co) = some k ∨ k = pb) ?_ (fun i v g hv hg hS => ?_)
    · exact Kept.setCell (S := fun k => Value.ownBlock (.slice Ao no co) = some k ∨ k = pb) (p := ⟨pb, 1, none⟩) ((((Kept.refl _ w2).alloc o1).alloc _).trans (Kept.of_grown hg3 (fun k e _ => Or.inl e))) (Or.inr (Or.inr rfl)) _
    · have hi : i < (fs.map (·.2) ++ [body]).length := by rw [← h5.1]; exact (List.getElem?_eq_some_iff.1 hv).1
      obtain ⟨A', c', rfl, ho⟩ := h5.2.1 i v _ hv (List.getElem?_eq_getElem hi)
      have hown2 := (Kept.of_below (S := fun _ => False) hbel).own hown (fun _ _ => id)
      rcases hS with hS | hS
      · rcases hown2.2 with ⟨h1, _⟩ | ⟨g', _, _, h1, _, h2, _⟩
        · rw [h1] at hS; cases hS
        · rw [h1] at hS
          have : g' = g := by simpa [Value.ownBlock] using hS
          subst this
          exact own_ne_blk ho (show Blk w2 g' 54 _ from h2) (by decide) hg
      · subst hS
        exact own_ne_blk ho (hbk.below hbel hbk.lt) (by decide) hg
  · simp; omega
  · rw [hfd, feedS_step hfs]; simp
  · refine ((hkept.mono (S' := fun k => Value.ownBlock (.slice Ao no co) = some k ∨ k = pb) (fun _ _ h => Or.inr h)).trans hk4).mono (fun k hk h => ?_)
    rcases h with h | h
    · have := (hgo k h).1; omega
    · exact h

set_option maxRecDepth 100000 in
set_option maxHeartbeats 1000000 in
theorem feed_fine (pb base c : Nat) (A : Option Addr) (most : Int) (h chunk : List UInt8) (w : World) (hf : Framer w base pb most h 0 A c) (Ac : Option Addr) (cc : Nat) (hr : Row w Ac (bVs chunk))
    (hbase : base ≤ w.heap.size) (hsm : h.length + chunk.length ≤ 1099511627776) :
    Calls Try.prog 15 #[.pointer (some ⟨pb, 0, none⟩), .slice Ac chunk.length cc] w (FeedPost pb A most 0 h chunk w) := by
  obtain ⟨hb, ho⟩ := hf
  have hbr := run_broken pb most 0 _ w hb
  rw [show (!(0 == 0)) = false by rfl] at hbr
  have Hbr := Lib.hid hbr
  have h1 := hb.cell 1
  simp at h1
  have hn1 := own_ne_blk ho hb (by decide)
  clear hbr
  go_enter Try.func15, Try.ntmps15
  go_wp2_with (first
    | (go_at_call 20; refine Hbr.out.mono ?_; rintro e w' ⟨rfl, rfl⟩)
    | (at_builtin
       refine wpList_app stB rfl (.tmp 20) (.tmp 21) rfl rfl ho rfl (by rw [bVs_length]; omega) hr (one_bVs _) (by omega) hbase ?_
       intro A1 c1 w1 hown1 hg1 hat1
       have hb1 := hb.grown hg1 (Ne.symm hn1)
       have k0 := hb1.cell 1
       have k1 := hb1.frozen 1
       simp at k0))
  have hb2 := hb1.set_ 1 (.slice A1 (h.length + chunk.length) c1)
  simp only [List.setIfInBounds_toArray, List.set_cons_zero, List.set_cons_succ] at hb2
  have hl12 : (h ++ chunk).length = h.length + chunk.length := List.length_append
  rw [← bVs_append] at hown1
  have hrel0 : FeedRel pb w1.heap.size most (h ++ chunk) w1 (h ++ chunk).length (.slice none 0 0) (w1.setCell ⟨pb, 1, none⟩ (.slice A1 (h.length + chunk.length) c1)) := by
    have hk : Kept (· = pb) w1 (w1.setCell ⟨pb, 1, none⟩ (.slice A1 (h.length + chunk.length) c1)) := (Kept.refl (· = pb) w1).setCell (p := ⟨pb, 1, none⟩) (Or.inr rfl) _
    have hn2 := own_ne_blk hown1 hb1 (by decide)
    have hown2 := hk.own hown1 (fun g hg e => hn2 (by rw [← e]; exact hg))
    obtain ⟨q1, q2⟩ := own_cap hown1
    refine ⟨A1, none, c1, 0, 0, h ++ chunk, [], [], rfl, rfl, by rw [hl12]; exact hb2, Row.of_own hown2, fun b off e => ?_, by omega, q2, World.ownsRow_nil _ _ _ _, Bods.nil' _ _, by simp, by simp, hk⟩
    subst e
    exact (hown1.lt b rfl).2
  have Hrel0 := Lib.hid hrel0
  have Hg1 := Lib.hid hg1
  have Hb := Lib.hid hb
  have Ho := Lib.hid ho
  have hsm' : (h ++ chunk).length ≤ 1099511627776 := by omega
  have hfc := Lib.hid (show feedC most 0 h chunk = feedS most (h ++ chunk) by simp [feedC])
  have hHn : (w.heap.size ≤ w1.heap.size) := hg1.size
  clear hrel0 hg1 hb1 hb2 hb ho hown1 hl12 k0 k1 h1 hat1 hn1 hr
  go_loopg [6] (h ++ chunk).length (fun k out wr => FeedRel pb w1.heap.size most (h ++ chunk) w1 k out wr)
  case atStart => exact Hrel0.out
  case round =>
    clear Hrel0
    obtain ⟨Ah, Ao, ch, no, co, hc, fs, bs, rfl, rfl, hbk, hrow, hlt, hcc, hcm, hown, hbods, hlen, hfd, hkept⟩ := hrel
    have z0 := hbk.cell 0
    have z1 := hbk.cell 1
    simp at z0 z1
    have hfr := frame_any pb ch Ah most hc wr z0 z1 hcc hcm hrow (by omega)
    rcases hfs : frameS most hc with cd | ⟨x, body, n⟩
    · have hcode := frameS_code hfs
      have hpost : ∀ (e : Ending) (w' : World), FramePost most hc wr e w' → e = .returned (.tuple #[.agg #[.int .u8 0, .slice none 0 0], .int .i64 0, .int .i64 (cd : Nat)]) ∧ Below wr.heap.size wr w' := by
        intro e w' h; unfold FramePost at h; rw [hfs] at h; exact h
      have Hfr := Lib.hid (hfr.mono hpost)
      have Hfd := Lib.hid hfd
      have Hfs := Lib.hid hfs
      clear hfr hpost hfd hfs
      by_cases hcd : cd = 0
      · subst hcd
        have hcd' : ((0 : Int) != 0) = false := rfl
        clear hcode
        go_wp2_with (first
          | (go_at_call 24; refine Hfr.out.mono ?_; rintro e w2 ⟨rfl, hbel⟩; have y1 := cell_below hbel z1; have hs2 := hbel.size; have hpl := hbk.lt; have hpl2 : pb < w2.heap.size := (by omega); have hpn : ¬ pb = w2.heap.size := (by omega); have Hbel := Lib.hid hbel; clear hbel hs2)
          | (go_at_call 25; refine (join_one _ _ hc.length ch Ah hc _ ?_ rfl hcc hcm ?_ ?_).mono ?_; (exact Row.newAt (by simp) rfl); (exact ((hrow.below Hbel.out).alloc _).alloc _); (omega); rintro e w3 ⟨A3, c3, rfl, hown3, hbel3⟩; have hB3 : Below w2.heap.size w2 w3 := (((Below.refl _ w2).alloc (Nat.le_refl _) _).alloc (by simp) _).trans (hbel3.mono (by simp; omega)); have hbk3 := (hbk.below Hbel.out hbk.lt).below hB3 hpl2; have x1 := hbk3.cell 1; have x2 := hbk3.frozen 1; simp at x1; have Hown3 := Lib.hid (own_base hown3 (by simp; omega) : w3.ownsRow w2.heap.size _ _ _ _ _); have HB3 := Lib.hid hB3; have Hbk3 := Lib.hid hbk3; clear hown3 hbel3 hB3 hbk3))
        go_ret2
        have hs2 := Hbel.out.size
        have hb4 := Hbk3.out.set_ 1 (.slice A3 hc.length c3)
        simp only [List.setIfInBounds_toArray, List.set_cons_zero, List.set_cons_succ] at hb4
        have hk3 : Kept (· = pb) wr w3 := (Kept.of_below Hbel.out).trans (Kept.of_below HB3.out)
        have hn3 := own_ne_blk Hown3.out Hbk3.out (by decide)
        refine feed_end (code := 0) Hg1.out hkept (hk3.setCell (p := ⟨pb, 1, none⟩) (Or.inr rfl) _) hown hbods hbk ?_ hb4 ?_
        · rw [Hfd.out, feedS_stop Hfs.out]; simp
        · exact own_base ((Kept.of_grown (S := (· = pb)) (grown_set w3 pb 1 (.slice A3 hc.length c3)) (fun k e _ => by injection e with e; exact e.symm)).own Hown3.out (fun g hg e => hn3 (by rw [← e]; exact hg))) (by omega)
      · have hcd' : ((cd : Int) != 0) = true := by simp; omega
        have hcd0 : cd ≠ 0 := hcd
        have Hcd := Lib.hid hcd0
        have hcdb : cd ≤ 149 := by omega
        clear hcode hcd hcd0
        go_wp2_with (first
          | (go_at_call 24; refine Hfr.out.mono ?_; rintro e w2 ⟨rfl, hbel⟩; have hs2 := hbel.size; have hpl := hbk.lt; have hpl2 : pb < w2.heap.size := (by omega); have hpn : ¬ pb = w2.heap.size := (by omega); have hbk2 := hbk.below hbel hbk.lt; have x1 := hbk2.cell 1; have x2 := hbk2.frozen 1; have x3 := hbk2.cell 2; have x4 := hbk2.frozen 2; simp at x1 x3; have Hbel := Lib.hid hbel; have Hbk2 := Lib.hid hbk2; clear hbel hs2 hbk2))
        go_ret2
        have hb4 := ((Hbk2.out.set_ 1 (.slice none 0 0)).set_ 2 (.int .i64 (cd : Int))).alloc (.cells #[.int .u8 0, .slice none 0 0] 54)
        simp only [List.setIfInBounds_toArray, List.set_cons_zero, List.set_cons_succ] at hb4
        have hk2 : Kept (· = pb) wr w2 := Kept.of_below Hbel.out
        refine feed_end (A3 := none) (c3 := 0) (hh := []) Hg1.out hkept (((hk2.setCell (p := ⟨pb, 1, none⟩) (Or.inr rfl) _).setCell (p := ⟨pb, 2, none⟩) (Or.inr rfl) _).alloc _) hown hbods hbk ?_ hb4 (World.ownsRow_nil _ _ _ _)
        rw [Hfd.out, feedS_broken Hfs.out Hcd.out]; simp
    · have hpost : ∀ (e : Ending) (w' : World), FramePost most hc wr e w' → ∃ A cap, e = .returned (.tuple #[.agg #[bV x, .slice A body.length cap], .int .i64 (n : Nat), .int .i64 0]) ∧
          w'.ownsRow wr.heap.size 5 1 (.slice A body.length cap) body.length (bVs body) ∧ Below wr.heap.size wr w' := by
        intro e w' h; unfold FramePost at h; rw [hfs] at h; exact h
      have Hfr := Lib.hid (hfr.mono hpost)
      obtain ⟨n2, nl, _, _⟩ := frameS_inr hfs
      have hlb := hbods.1
      have hno : fs.length = no := by
        have h1 := hown.1
        rw [frCells_length fs bs (by simpa using hlb.symm)] at h1
        omega
      have hroom : (no + 1) * 32 ≤ 140737488355328 := by omega
      have Hfd := Lib.hid hfd
      have Hfs := Lib.hid hfs
      have Hno := Lib.hid hno
      have hn0 : ((n : Int) == 0) = false := by simp; omega
      have hn1 := own_ne_blk hown hbk (by decide)
      obtain ⟨b, off, rfl, _⟩ := hrow.at' (i := 0) (by rw [bVs_length]; omega)
      clear hfr hpost hfd hfs hlb hno
      go_wp2_with (first
        | (go_at_call 24; refine Hfr.out.mono ?_; rintro e w2 ⟨A5, c5, rfl, hown5, hbel⟩; have hs2 := hbel.size; have hpl := hbk.lt; have hpl2 : pb < w2.heap.size := (by omega); have hpn : ¬ pb = w2.heap.size := (by omega); have hbk2 := hbk.below hbel hbk.lt; have hown2 := (Kept.of_below (S := fun _ => False) hbel).own hown (fun _ _ => id); have Hbel := Lib.hid hbel; have Hbk2 := Lib.hid hbk2; have Hown5 := Lib.hid hown5; have Hown2 := Lib.hid hown2; unfold bV; clear hbel hbk2 hown5 hown2)
        | (at_builtin
           refine wpList_app stF rfl (.tmp 54) (.tmp 56) rfl rfl ((Hown2.out.alloc _).alloc _) rfl (by rfl) (Row.newAt (by simp) rfl) (by simp [Value.oneCell']) hroom (by have := hkept.size; simp; omega) ?_
           intro A6 c6 w3 hown3 hg3 hat3
           have hbk3 := ((Hbk2.out.alloc _).alloc _).grown hg3 (Ne.symm hn1)
           have x1 := hbk3.cell 1
           have x2 := hbk3.frozen 1
           simp at x1
           have Hbk3 := Lib.hid hbk3
           have Hg3 := Lib.hid hg3
           have Hown3 := Lib.hid hown3
           clear hbk3 hg3 hown3))
      all_goals
        go_roundg (hc.length - n)
        case measure => omega
        case rel => 
          refine feed_next hkept hbk hrow hlt hcc hcm hown hbods hlen Hfd.out Hfs.out Hbel.out Hown5.out Hg3.out Hown3.out (by omega) (by first | exact Or.inr rfl | exact Or.inl ⟨by assumption, rfl⟩)
end Go.Proofs.Ytbndfejfhngeoaa
