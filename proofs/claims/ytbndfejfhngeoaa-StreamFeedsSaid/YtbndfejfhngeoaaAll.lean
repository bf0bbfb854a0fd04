/- stream.New, stream.All. -/
import Derived.Test.YtbndfejfhngeoaaFeed
namespace Go.Proofs.Ytbndfejfhngeoaa
open Go.RowKit

theorem feedL_len (most : Int) : ∀ (f : Nat) (h : List UInt8), 2 * (feedL most f h).1.length + (feedL most f h).2.1.length ≤ h.length
  | 0, h => by simp [feedL]
  | f + 1, h => by
    unfold feedL
    rcases hfs : frameS most h with c | ⟨x, b, n⟩
    · simp only; split <;> simp
    · have hn := frameS_inr hfs
      have := feedL_len most f (h.drop n)
      simp only [List.length_drop] at this
      simp only [List.length_cons]; omega
theorem feedC_len (most : Int) (code : Nat) (h c : List UInt8) : 2 * (feedC most code h c).1.length + (feedC most code h c).2.1.length ≤ h.length + c.length := by
  unfold feedC
  split
  · have := feedL_len most ((h ++ c).length + 1) (h ++ c)
    rw [← List.length_append]
    exact this
  · simp
/-- feeding chunk by chunk -/
def allS (most : Int) (code : Nat) (h : List UInt8) : List (List UInt8) → List (UInt8 × List UInt8) × List UInt8 × Nat
  | [] => ([], h, code)
  | c :: cs => ((feedC most code h c).1 ++ (allS most (feedC most code h c).2.2 (feedC most code h c).2.1 cs).1, (allS most (feedC most code h c).2.2 (feedC most code h c).2.1 cs).2)

theorem run_new (most : Int) (w : World) :
    Calls Try.prog 13 #[.int .i64 most] w fun e w' => e = .returned (.pointer (some ⟨w.heap.size, 0, none⟩)) ∧ w' = w.alloc (.cells #[.int .i64 most, .slice none 0 0, .int .i64 0] 59) := by
  go_enter Try.func13, Try.ntmps13
  go_wp2
  go_ret
  exact ⟨rfl, rfl⟩
theorem Framer.new (w : World) (most : Int) : Framer (w.alloc (.cells #[.int .i64 most, .slice none 0 0, .int .i64 0] 59)) 0 w.heap.size most [] 0 none 0 :=
  ⟨Blk.new w _ _, World.ownsRow_nil _ _ _ _⟩

theorem feed (pb c : Nat) (A : Option Addr) (most : Int) (code : Nat) (h chunk : List UInt8) (w : World) (hf : Framer w 0 pb most h code A c) (Ac : Option Addr) (cc : Nat) (hr : Row w Ac (bVs chunk))
    (hsm : h.length + chunk.length ≤ 1099511627776) :
    Calls Try.prog 15 #[.pointer (some ⟨pb, 0, none⟩), .slice Ac chunk.length cc] w (FeedPost pb A most code h chunk w) := by
  by_cases hc : code = 0
  · subst hc; exact feed_fine pb 0 c A most h chunk w hf Ac cc hr (Nat.zero_le _) hsm
  · exact feed_broken pb 0 c A most code h chunk w hf hc Ac cc

theorem frCells_append : ∀ (fs fs' : List (UInt8 × List UInt8)) (bs bs' : List Value), fs.length = bs.length → frCells (fs ++ fs') (bs ++ bs') = frCells fs bs ++ frCells fs' bs'
  | [], _, [], _, _ => rfl
  | _ :: fs, fs', _ :: bs, bs', h => by simp [frCells, frCells_append fs fs' bs bs' (by simpa using h)]
  | [], _, _ :: _, _, h => by simp at h
  | _ :: _, _, [], _, h => by simp at h
theorem one_frCells {w : World} {base : Nat} : ∀ (fs : List (UInt8 × List UInt8)) (bs : List Value), (∀ v ∈ bs, v.oneCell' = true) → ∀ u ∈ frCells fs bs, u.oneCell' = true
  | [], _, _, u, hu => by simp [frCells] at hu
  | _ :: _, [], _, u, hu => by simp [frCells] at hu
  | f :: fs, v :: bs, h, u, hu => by
    simp only [frCells, List.mem_cons] at hu
    rcases hu with rfl | rfl | hu
    · rfl
    · exact h _ (by simp)
    · exact one_frCells (w := w) (base := base) fs bs (fun v hv => h v (by simp [hv])) u hu
/-- All's answer: the frames in rows of their own -/
def AllPost (fs : List (UInt8 × List UInt8)) (code : Nat) (w : World) (e : Ending) (w' : World) : Prop :=
  ∃ Ao no co bs, e = .returned (.tuple #[.slice Ao no co, .int .i64 (code : Nat)]) ∧ w'.ownsRow w.heap.size 54 2 (.slice Ao no co) no (frCells fs bs) ∧ Bods w' w.heap.size bs (fs.map (·.2)) ∧ Below w.heap.size w w'

/-- what holds at the head of All's loop -/
def AllRel (pb : Nat) (most : Int) (ps : List (List UInt8)) (w : World) (k : Nat) (out code : Value) (wr : World) : Prop :=
  ∃ (A Ao : Option Addr) (c no co cd : Nat) (h : List UInt8) (fs : List (UInt8 × List UInt8)) (bs : List Value),
    out = .slice Ao no co ∧ code = .int .i64 (cd : Int) ∧ Framer wr 0 pb most h cd A c ∧ (∀ g, Value.ownBlock (.slice A 0 0) = some g → w.heap.size ≤ g) ∧
    wr.ownsRow w.heap.size 54 2 (.slice Ao no co) no (frCells fs bs) ∧ Bods wr w.heap.size bs (fs.map (·.2)) ∧
    (∀ (i : Nat) (v : Value) (g : Nat), bs[i]? = some v → v.ownBlock = some g → Value.ownBlock (.slice A 0 0) ≠ some g) ∧
    2 * fs.length + h.length ≤ (ps.take k).flatten.length ∧ allS most 0 [] ps = (fs ++ (allS most cd h (ps.drop k)).1, (allS most cd h (ps.drop k)).2) ∧ Below w.heap.size w wr

theorem all_next {pb k no co cd no' c' c6 : Nat} {A Ao A' A6 : Option Addr} {most : Int} {ps : List (List UInt8)} {chunk h : List UInt8} {w wr w2 w3 : World} {fs : List (UInt8 × List UInt8)} {bs bs' : List Value} {c : Nat}
    (hpb : w.heap.size ≤ pb) (hpk : ps[k]? = some chunk) (hf : Framer wr 0 pb most h cd A c) (hA : ∀ g, Value.ownBlock (.slice A 0 0) = some g → w.heap.size ≤ g)
    (hbods : Bods wr w.heap.size bs (fs.map (·.2))) (hap : ∀ (i : Nat) (v : Value) (g : Nat), bs[i]? = some v → v.ownBlock = some g → Value.ownBlock (.slice A 0 0) ≠ some g)
    (hlen : 2 * fs.length + h.length ≤ (ps.take k).flatten.length) (hall : allS most 0 [] ps = (fs ++ (allS most cd h (ps.drop k)).1, (allS most cd h (ps.drop k)).2)) (hbel : Below w.heap.size w wr)
    (hbods2 : Bods w2 wr.heap.size bs' ((feedC most cd h chunk).1.map (·.2))) (hap2 : ∀ (i : Nat) (v : Value) (g : Nat), bs'[i]? = some v → v.ownBlock = some g → Value.ownBlock (.slice A' 0 0) ≠ some g)
    (hA2 : ∀ g, Value.ownBlock (.slice A' 0 0) = some g → wr.heap.size ≤ g ∨ (cd ≠ 0 ∧ A' = A)) (hf2 : Framer w2 0 pb most (feedC most cd h chunk).2.1 (feedC most cd h chunk).2.2 A' c') (hk2 : Kept (frS pb A) wr w2)
    (hown : w2.ownsRow w.heap.size 54 2 (.slice Ao no co) no (frCells fs bs))
    (hg3 : w2.grownBy w3 (Value.ownBlock (.slice Ao no co)))
    (hown3 : w3.ownsRow w.heap.size 54 2 (.slice A6 (no + no') c6) (no + no') (frCells fs bs ++ frCells (feedC most cd h chunk).1 bs')) :
    AllRel pb most ps w (k + 1) (.slice A6 (no + no') c6) (.int .i64 ((feedC most cd h chunk).2.2 : Nat)) w3 := by
  have hs := hbel.size
  have hs2 := hk2.size
  have hlb : fs.length = bs.length := by simpa using hbods.1.symm
  have hbn : ∀ (i : Nat) (v : Value) (g : Nat), bs[i]? = some v → v.ownBlock = some g → ¬ frS pb A g := by
    intro i v g hv hg hS
    rcases hS with hS | hS
    · subst hS
      have hi : i < (fs.map (·.2)).length := by rw [← hbods.1]; exact (List.getElem?_eq_some_iff.1 hv).1
      obtain ⟨A1, c1, rfl, ho⟩ := hbods.2.1 i v _ hv (List.getElem?_eq_getElem hi)
      exact own_ne_blk ho hf.1 (by decide) hg
    · exact hap i v g hv hg hS
  have hb2 : Bods w2 w.heap.size (bs ++ bs') ((fs ++ (feedC most cd h chunk).1).map (·.2)) := by
    rw [List.map_append]
    exact (hbods.kept hk2 hbn).append hbods2 hs (fun i v g hv hg => (hbods.lt hv hg).2)
  have hk3 : Kept (fun k => Value.ownBlock (.slice Ao no co) = some k) w2 w3 := Kept.of_grown hg3 (fun _ e _ => e)
  have hne : ∀ g, Value.ownBlock (.slice Ao no co) = some g → ∃ cur, Blk w2 g 54 cur := by
    intro g hg
    rcases hown.2 with ⟨h1, _⟩ | ⟨g', _, cur, h1, _, h2, _⟩
    · rw [h1] at hg; cases hg
    · rw [h1] at hg
      have : g' = g := by simpa [Value.ownBlock] using hg
      subst this
      exact ⟨cur, h2⟩
  refine ⟨A', A6, c', no + no', c6, (feedC most cd h chunk).2.2, (feedC most cd h chunk).2.1, fs ++ (feedC most cd h chunk).1, bs ++ bs', rfl, rfl, ⟨?_, ?_⟩, ?_, ?_, ?_, ?_, ?_, ?_, ?_⟩
  · exact hk3.blk hf2.1 (own_ne_blk hown hf2.1 (by decide))
  · refine hk3.own hf2.2 (fun g hg e => ?_)
    obtain ⟨cur, hcur⟩ := hne g e
    exact own_ne_blk hf2.2 hcur (by decide) hg
  · intro g hg
    rcases hA2 g hg with h1 | ⟨_, h1⟩
    · omega
    · subst h1; exact hA g hg
  · rw [frCells_append _ _ _ _ hlb]; exact hown3
  · refine hb2.kept hk3 (fun i v g hv hg e => ?_)
    obtain ⟨cur, hcur⟩ := hne g e
    have hi : i < ((fs ++ (feedC most cd h chunk).1).map (·.2)).length := by rw [← hb2.1]; exact (List.getElem?_eq_some_iff.1 hv).1
    obtain ⟨A1, c1, rfl, ho⟩ := hb2.2.1 i v _ hv (List.getElem?_eq_getElem hi)
    exact own_ne_blk ho hcur (by decide) hg
  · intro i v g hv hg e
    rw [List.getElem?_append] at hv
    split at hv
    · rcases hA2 g e with h1 | ⟨_, h1⟩
      · have := (hbods.lt hv hg).2; omega
      · subst h1; exact hap i v g hv hg e
    · exact hap2 _ v g hv hg e
  · have h1 := feedC_len most cd h chunk
    have h2 := flatten_take_succ hpk
    rw [h2, List.length_append, List.length_append]; omega
  · have hd : ps.drop k = chunk :: ps.drop (k + 1) := by
      have hk : k < ps.length := (List.getElem?_eq_some_iff.1 hpk).1
      rw [List.drop_eq_getElem_cons hk]
      have := List.getElem?_eq_getElem hk
      rw [hpk] at this
      injection this with this
      rw [this]
    rw [hall, hd]
    simp [allS]
  · refine (hbel.trans (hk2.below hs (fun j hj hS => ?_))).trans (hk3.below (by omega) (fun j hj hS => ?_))
    · rcases hS with hS | hS
      · omega
      · have := hA j hS; omega
    · have := (hown.lt j hS).1; omega

set_option maxRecDepth 100000 in
set_option maxHeartbeats 1000000 in
theorem all (A : Option Addr) (cap : Nat) (most : Int) (vs : List Value) (ps : List (List UInt8)) (w : World) (hr : Row w A vs) (hp : Parts w vs ps) (hsm : ps.flatten.length ≤ 1099511627776) (hm : vs.length ≤ 9223372036854775807) :
    Calls Try.prog 8 #[.int .i64 most, .slice A vs.length cap] w (AllPost (allS most 0 [] ps).1 (allS most 0 [] ps).2.2 w) := by
  have hbel0 : Below w.heap.size w (w.alloc (.cells #[.int .i64 most, .slice none 0 0, .int .i64 0] 59)) := (Below.refl _ w).alloc (Nat.le_refl _) _
  have hrel0 : AllRel w.heap.size most ps w 0 (.slice none 0 0) (.int .i64 0) (w.alloc (.cells #[.int .i64 most, .slice none 0 0, .int .i64 0] 59)) :=
    ⟨none, none, 0, 0, 0, 0, [], [], [], rfl, rfl, Framer.new w most, by simp [Value.ownBlock], World.ownsRow_nil _ _ _ _, Bods.nil' _ _, by simp, by simp, by simp, hbel0⟩
  have Hrel0 := Lib.hid hrel0
  clear hrel0 hbel0
  go_enter Try.func8, Try.ntmps8
  go_wp2_with (go_at_call 13; refine (run_new most w).mono ?_; rintro e w' ⟨rfl, rfl⟩)
  go_loopw [7, 8, 17] (fun out code i wr => ∃ k, k ≤ vs.length ∧ i = .int .i64 (k : Nat) ∧ AllRel w.heap.size most ps w k out code wr) (fun _ _ i _ => vs.length - (intOf i).toNat)
  case atStart => exact ⟨0, by omega, rfl, Hrel0.out⟩
  case round =>
    clear Hrel0
    obtain ⟨k, hk, rfl, hrel⟩ := hrel
    by_cases hlt : k < vs.length
    · obtain ⟨Ah, Ao, c, no, co, cd, h, fs, bs, rfl, rfl, hf, hA, hown, hbods, hap, hlen, hall, hbel⟩ := hrel
      obtain ⟨b, off, rfl, hcell⟩ := (hr.below hbel).at' hlt
      obtain ⟨p, hpk, hp1⟩ := hp.at' hlt
      obtain ⟨A1, c1, hv, hl1, hl2, hr1⟩ := hp1.below hbel
      rw [hv] at hcell
      have hle := flatten_take_le (ps := ps) (k + 1)
      rw [flatten_take_succ hpk, List.length_append] at hle
      have hno : fs.length = no := by
        have h1 := hown.1
        rw [frCells_length fs bs (by simpa using hbods.1.symm)] at h1
        omega
      have hfl := feedC_len most cd h p
      have hnF : ∀ g, Value.ownBlock (.slice Ao no co) = some g → ¬ frS w.heap.size Ah g := by
        intro g hg hS
        rcases hS with hS | hS
        · subst hS; exact own_ne_blk hown hf.1 (by decide) hg
        · rcases hf.2.2 with ⟨h1, _⟩ | ⟨g', _, cur, h1, _, h2, _⟩
          · injection h1 with h1; subst h1; cases hS
          · injection h1 with h1; subst h1
            have : g' = g := by simpa [Value.ownBlock] using hS
            subst this
            exact own_ne_blk hown (show Blk wr g' 5 cur from h2) (by decide) hg
      have Hno := Lib.hid hno
      have Hfl := Lib.hid hfl
      have HnF := Lib.hid hnF
      clear hno hfl hnF
      have hfeed := Lib.hid (feed w.heap.size c Ah most cd h p wr hf A1 c1 hr1 (by omega))
      have Hpk := Lib.hid hpk
      have Hf := Lib.hid hf
      have Hall := Lib.hid hall
      clear hv hpk hp1 hf hall
      go_wp2_with (first
        | (go_at_call 15; refine hfeed.out.mono ?_; rintro e w2 ⟨Al, nl, cl, bs', A', c', rfl, hown2, hbods2, hap2, hA2, hf2, hk2⟩)
        | (at_builtin
           refine wpList_app stF rfl (.tmp 27) (.tmp 28) rfl rfl (hk2.own hown HnF.out) rfl hown2.1 (Row.of_own hown2) (one_frCells (w := w2) (base := 0) _ _ hbods2.one) ?_ (by have := hk2.size; have := hbel.size; omega) ?_
           (have h1 := hown2.1; rw [frCells_length _ bs' (by simpa using hbods2.1.symm)] at h1; have := Hno.out; have := Hfl.out; omega)
           intro A6 c6 w3 hown3 hg3 hat3))
      go_roundw
      case rel => exact ⟨k + 1, by omega, by go_num, all_next (Nat.le_refl _) Hpk.out Hf.out hA hbods hap hlen Hall.out hbel hbods2 hap2 hA2 hf2 hk2 (hk2.own hown HnF.out) hg3 hown3⟩
      case measure => simp [intOf]; omega
    · obtain rfl : k = vs.length := by omega
      obtain ⟨Ah, Ao, c, no, co, cd, h, fs, bs, rfl, rfl, hf, hA, hown, hbods, hap, hlen, hall, hbel⟩ := hrel
      have hdr : ps.drop vs.length = [] := by rw [hp.length]; simp
      rw [hdr] at hall
      have Hall := Lib.hid hall
      clear hall hdr hap
      go_wp2
      go_ret2
      have h2 : allS most 0 [] ps = (fs, h, cd) := by rw [Hall.out]; simp [allS]
      rw [h2]
      exact ⟨Ao, no, co, bs, rfl, hown, hbods, hbel⟩
end Go.Proofs.Ytbndfejfhngeoaa
